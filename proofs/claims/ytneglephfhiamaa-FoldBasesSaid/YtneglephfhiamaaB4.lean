/-
  Texts of this proof, one behind the other: what each says stands at its head. Conditions: none.
-/
import Derived.Test.YtneglephfhiamaaB2
import Derived.Test.YtneglephfhiamaaB3

/-
  Walks: words of free groups. Conditions: none.
-/
set_option linter.all false
namespace Go.Proofs.Ytneglephfhiamaa
open Go.Pv

theorem fault_c (c a:Int):FnC Try.prog 82 [.int .i64 c,.int .i64 a] (.agg [.int .i64 c,.int .i64 a]):=by
 refine fnc_of tab_ok Try.func82 rfl (by kernel_rfl) (by rw [Try.ntmps82]; exact Nat.le_add_left 2 _) ?_; rw [Try.ntmps82]; repeat (first|refine qa ?_|refine qb ?_|refine qc ?_|refine qd ?_|refine qe ?_|refine qf ?_|refine qg rfl ?_|refine qh ?_|refine qi ?_|refine qj ?_|refine qk ?_|refine ql ?_|refine qm ?_)
 (refine hk_region fun K hK=>runs_eval tab_ok ?_); simp only [ev0,aops,xstep,guardA,opA,tab,binA,binInt,arith,unA,pickA,convA,allocA,boxA,loadA,storeA,fieldAddrA,fieldA,indexAddrA,lenA,lenS,sliceA,boundA,makeSliceA,elemsA,appendA,buildA,fillA,buildSliceA,partsA,extractA,builtinA,minmaxA,AV.cells,AV.isAgg,allP,mkAgg,hget,hset,isRow,cellOk,setC,after,dstOk,St.put,St.get,lk,St.ev,cv,PV.one,Int.reduceToNat,entry,ent,Nat.reduceAdd,Nat.reduceLT,Nat.reduceBEq,Nat.reduceEqDiff,Nat.reduceLeDiff,Nat.reduceMul,Nat.reduceSub,Int.cast_ofNat_Int,decide_true,decide_false,reduceCtorEq,BEq.rfl,beq_self_eq_true,bne_self_eq_false,ite_true,ite_false,if_true,if_false,reduceIte]; refine fin_run trivial (hK _ ?_)<;>clear hK<;>clear K; repeat (first|refine qa ?_|refine qb ?_|refine qc ?_|refine qd ?_|refine qe ?_|refine qf ?_|refine qg rfl ?_|refine qh ?_|refine qi ?_|refine qj ?_|refine qk ?_|refine ql ?_|refine qm ?_)
 (refine hk_region fun K hK=>runs_eval tab_ok ?_); simp only [ev0,aops,xstep,guardA,opA,tab,binA,binInt,arith,unA,pickA,convA,allocA,boxA,loadA,storeA,fieldAddrA,fieldA,indexAddrA,lenA,lenS,sliceA,boundA,makeSliceA,elemsA,appendA,buildA,fillA,buildSliceA,partsA,extractA,builtinA,minmaxA,AV.cells,AV.isAgg,allP,mkAgg,hget,hset,isRow,cellOk,setC,after,dstOk,St.put,St.get,lk,St.ev,cv,PV.one,Int.reduceToNat,entry,ent,Nat.reduceAdd,Nat.reduceLT,Nat.reduceBEq,Nat.reduceEqDiff,Nat.reduceLeDiff,Nat.reduceMul,Nat.reduceSub,Int.cast_ofNat_Int,decide_true,decide_false,reduceCtorEq,BEq.rfl,beq_self_eq_true,bne_self_eq_false,ite_true,ite_false,if_true,if_false,reduceIte]; refine fin_run trivial (hK _ ?_)<;>clear hK<;>clear K; repeat (first|refine qa ?_|refine qb ?_|refine qc ?_|refine qd ?_|refine qe ?_|refine qf ?_|refine qg rfl ?_|refine qh ?_|refine qi ?_|refine qj ?_|refine qk ?_|refine ql ?_|refine qm ?_)
 simp only [Try.results82,Post,endA,rvsA,rvA,mkTup,peekA,peekG,peekS,peekList,PV.norm,PV.norm1,PV.norm0,PV.list.injEq,PV.tup.injEq,PV.agg.injEq,PV.int.injEq,PV.bool.injEq,List.cons.injEq,ev0,aops,xstep,guardA,opA,tab,binA,binInt,arith,unA,pickA,convA,allocA,boxA,loadA,storeA,fieldAddrA,fieldA,indexAddrA,lenA,lenS,sliceA,boundA,makeSliceA,elemsA,appendA,buildA,fillA,buildSliceA,partsA,extractA,builtinA,minmaxA,AV.cells,AV.isAgg,allP,mkAgg,hget,hset,isRow,cellOk,setC,after,dstOk,St.put,St.get,lk,St.ev,cv,PV.one,Int.reduceToNat,entry,ent,Nat.reduceAdd,Nat.reduceLT,Nat.reduceBEq,Nat.reduceEqDiff,Nat.reduceLeDiff,Nat.reduceMul,Nat.reduceSub,Int.cast_ofNat_Int,decide_true,decide_false,reduceCtorEq,BEq.rfl,beq_self_eq_true,bne_self_eq_false,ite_true,ite_false,if_true,if_false,reduceIte]

/-- What a word's test comes to. -/
def chk:Nat→List Int→Int × Int
 | _,[]=>(0,0)
 | i,x :: r=>if x=0∨x < -26∨x > 26 then (3,i) else chk (i + 1) r

def check (w:List Int):Int × Int:=if (w.length:Int) > 2000 then (2,0) else chk 0 w

def fl (p:Int × Int):PV:=.agg [.int .i64 p.1,.int .i64 p.2]

theorem check_c (w:List Int):FnC Try.prog 61 [.list (il w)] (fl (check w)):=by
 refine fnc_of tab_ok Try.func61 rfl (by kernel_rfl) (by rw [Try.ntmps61]; exact Nat.le_add_left 1 _) ?_; rw [Try.ntmps61]; repeat (first|refine qa ?_|refine qb ?_|refine qc ?_|refine qd ?_|refine qe ?_|refine qf ?_|refine qg rfl ?_|refine qh ?_|refine qi ?_|refine qj ?_|refine qk ?_|refine ql ?_|refine qm ?_)
 (refine hk_region fun K hK=>runs_eval tab_ok ?_); simp only [ev0,aops,xstep,guardA,opA,tab,binA,binInt,arith,unA,pickA,convA,allocA,boxA,loadA,storeA,fieldAddrA,fieldA,indexAddrA,lenA,lenS,sliceA,boundA,makeSliceA,elemsA,appendA,buildA,fillA,buildSliceA,partsA,extractA,builtinA,minmaxA,AV.cells,AV.isAgg,allP,mkAgg,hget,hset,isRow,cellOk,setC,after,dstOk,St.put,St.get,lk,St.ev,cv,PV.one,Int.reduceToNat,entry,ent,Nat.reduceAdd,Nat.reduceLT,Nat.reduceBEq,Nat.reduceEqDiff,Nat.reduceLeDiff,Nat.reduceMul,Nat.reduceSub,Int.cast_ofNat_Int,decide_true,decide_false,reduceCtorEq,BEq.rfl,beq_self_eq_true,bne_self_eq_false,ite_true,ite_false,if_true,if_false,reduceIte]; refine fin_run trivial (hK _ ?_)<;>clear hK<;>clear K; repeat (first|refine qa ?_|refine qb ?_|refine qc ?_|refine qd ?_|refine qe ?_|refine qf ?_|refine qg rfl ?_|refine qh ?_|refine qi ?_|refine qj ?_|refine qk ?_|refine ql ?_|refine qm ?_)
 (refine hk_region fun K hK=>runs_eval tab_ok ?_); simp only [ev0,aops,xstep,guardA,opA,tab,binA,binInt,arith,unA,pickA,convA,allocA,boxA,loadA,storeA,fieldAddrA,fieldA,indexAddrA,lenA,lenS,sliceA,boundA,makeSliceA,elemsA,appendA,buildA,fillA,buildSliceA,partsA,extractA,builtinA,minmaxA,AV.cells,AV.isAgg,allP,mkAgg,hget,hset,isRow,cellOk,setC,after,dstOk,St.put,St.get,lk,St.ev,cv,PV.one,Int.reduceToNat,entry,ent,Nat.reduceAdd,Nat.reduceLT,Nat.reduceBEq,Nat.reduceEqDiff,Nat.reduceLeDiff,Nat.reduceMul,Nat.reduceSub,Int.cast_ofNat_Int,decide_true,decide_false,reduceCtorEq,BEq.rfl,beq_self_eq_true,bne_self_eq_false,ite_true,ite_false,if_true,if_false,reduceIte,il_length]; refine fin_run trivial (hK _ ?_)<;>clear hK<;>clear K; repeat (first|refine qa ?_|refine qb ?_|refine qc ?_|refine qd ?_|refine qe ?_|refine qf ?_|refine qg rfl ?_|refine qh ?_|refine qi ?_|refine qj ?_|refine qk ?_|refine ql ?_|refine qm ?_)
 refine hk_cond rfl (fun h=>?_) (fun h=>?_)
 ·repeat (first|refine qa ?_|refine qb ?_|refine qc ?_|refine qd ?_|refine qe ?_|refine qf ?_|refine qg rfl ?_|refine qh ?_|refine qi ?_|refine qj ?_|refine qk ?_|refine ql ?_|refine qm ?_)
  refine hk_region fun K hK=>runs_eval tab_ok ?_
  simp only [ev0,aops,xstep,guardA,opA,tab,binA,binInt,arith,unA,pickA,convA,allocA,boxA,loadA,storeA,fieldAddrA,fieldA,indexAddrA,lenA,lenS,sliceA,boundA,makeSliceA,elemsA,appendA,buildA,fillA,buildSliceA,partsA,extractA,builtinA,minmaxA,AV.cells,AV.isAgg,allP,mkAgg,hget,hset,isRow,cellOk,setC,after,dstOk,St.put,St.get,lk,St.ev,cv,PV.one,Int.reduceToNat,entry,ent,Nat.reduceAdd,Nat.reduceLT,Nat.reduceBEq,Nat.reduceEqDiff,Nat.reduceLeDiff,Nat.reduceMul,Nat.reduceSub,Int.cast_ofNat_Int,decide_true,decide_false,reduceCtorEq,BEq.rfl,beq_self_eq_true,bne_self_eq_false,ite_true,ite_false,if_true,if_false,reduceIte]
  refine fin_stop trivial (runs_call (fault_c 2 0) rfl rfl rfl (by simp only [dstOk,Nat.reduceLT]) (by repeat (first|exact trivial|constructor)) (runs_eval tab_ok ?_))
  simp only [ev0,aops,xstep,guardA,opA,tab,binA,binInt,arith,unA,pickA,convA,allocA,boxA,loadA,storeA,fieldAddrA,fieldA,indexAddrA,lenA,lenS,sliceA,boundA,makeSliceA,elemsA,appendA,buildA,fillA,buildSliceA,partsA,extractA,builtinA,minmaxA,AV.cells,AV.isAgg,allP,mkAgg,hget,hset,isRow,cellOk,setC,after,dstOk,St.put,St.get,lk,St.ev,cv,PV.one,Int.reduceToNat,entry,ent,Nat.reduceAdd,Nat.reduceLT,Nat.reduceBEq,Nat.reduceEqDiff,Nat.reduceLeDiff,Nat.reduceMul,Nat.reduceSub,Int.cast_ofNat_Int,decide_true,decide_false,reduceCtorEq,BEq.rfl,beq_self_eq_true,bne_self_eq_false,ite_true,ite_false,if_true,if_false,reduceIte]
  refine fin_run trivial (hK _ ?_)<;>clear hK<;>clear K
  repeat (first|refine qa ?_|refine qb ?_|refine qc ?_|refine qd ?_|refine qe ?_|refine qf ?_|refine qg rfl ?_|refine qh ?_|refine qi ?_|refine qj ?_|refine qk ?_|refine ql ?_|refine qm ?_)
  simp only [Try.results61,Post,endA,rvsA,rvA,mkTup,peekA,peekG,peekS,peekList,PV.norm,PV.norm1,PV.norm0,PV.list.injEq,PV.tup.injEq,PV.agg.injEq,PV.int.injEq,PV.bool.injEq,List.cons.injEq,ev0,aops,xstep,guardA,opA,tab,binA,binInt,arith,unA,pickA,convA,allocA,boxA,loadA,storeA,fieldAddrA,fieldA,indexAddrA,lenA,lenS,sliceA,boundA,makeSliceA,elemsA,appendA,buildA,fillA,buildSliceA,partsA,extractA,builtinA,minmaxA,AV.cells,AV.isAgg,allP,mkAgg,hget,hset,isRow,cellOk,setC,after,dstOk,St.put,St.get,lk,St.ev,cv,PV.one,Int.reduceToNat,entry,ent,Nat.reduceAdd,Nat.reduceLT,Nat.reduceBEq,Nat.reduceEqDiff,Nat.reduceLeDiff,Nat.reduceMul,Nat.reduceSub,Int.cast_ofNat_Int,decide_true,decide_false,reduceCtorEq,BEq.rfl,beq_self_eq_true,bne_self_eq_false,ite_true,ite_false,if_true,if_false,reduceIte]
  simp [check,fl,of_decide_eq_true h]
 ·repeat (first|refine qa ?_|refine qb ?_|refine qc ?_|refine qd ?_|refine qe ?_|refine qf ?_|refine qg rfl ?_|refine qh ?_|refine qi ?_|refine qj ?_|refine qk ?_|refine ql ?_|refine qm ?_)
  (refine hk_region fun K hK=>runs_eval tab_ok ?_); simp only [ev0,aops,xstep,guardA,opA,tab,binA,binInt,arith,unA,pickA,convA,allocA,boxA,loadA,storeA,fieldAddrA,fieldA,indexAddrA,lenA,lenS,sliceA,boundA,makeSliceA,elemsA,appendA,buildA,fillA,buildSliceA,partsA,extractA,builtinA,minmaxA,AV.cells,AV.isAgg,allP,mkAgg,hget,hset,isRow,cellOk,setC,after,dstOk,St.put,St.get,lk,St.ev,cv,PV.one,Int.reduceToNat,entry,ent,Nat.reduceAdd,Nat.reduceLT,Nat.reduceBEq,Nat.reduceEqDiff,Nat.reduceLeDiff,Nat.reduceMul,Nat.reduceSub,Int.cast_ofNat_Int,decide_true,decide_false,reduceCtorEq,BEq.rfl,beq_self_eq_true,bne_self_eq_false,ite_true,ite_false,if_true,if_false,reduceIte,il_length]; refine fin_run trivial (hK _ ?_)<;>clear hK<;>clear K; repeat (first|refine qa ?_|refine qb ?_|refine qc ?_|refine qd ?_|refine qe ?_|refine qf ?_|refine qg rfl ?_|refine qh ?_|refine qi ?_|refine qj ?_|refine qk ?_|refine ql ?_|refine qm ?_)
  have hw:w.length≤2000:=by have:=of_decide_eq_false h; omega
  refine hk_loop (ι:=Nat) (fun i=>⟨30,[(2,.ptr 0 0),(9,.p (.list (il w))),(10,.p (.int .i64 w.length)),(11,.p (.int .i64 i))],[.own [.p (.int .i64 0),.p (.int .i64 0)]]⟩) (fun i=>i≤w.length∧chk i (w.drop i)=chk 0 w) (fun i=>w.length - i) 0 ⟨Nat.zero_le _,rfl⟩ [0] (by simp only [AV.p.injEq,AV.sl.injEq,AV.ptr.injEq,Blk.own.injEq,PV.int.injEq,PV.bool.injEq,PV.list.injEq,Nat.sub_zero,Int.natCast_add,List.length_append,take_take_len,take_app1,take_app2,Le,LeH,LeS,LeB,ren,ren1,scA,sc1,List.nodup_cons,List.nodup_nil,List.mem_cons,List.not_mem_nil,or_false,not_false_eq_true,ev0,aops,xstep,guardA,opA,tab,binA,binInt,arith,unA,pickA,convA,allocA,boxA,loadA,storeA,fieldAddrA,fieldA,indexAddrA,lenA,lenS,sliceA,boundA,makeSliceA,elemsA,appendA,buildA,fillA,buildSliceA,partsA,extractA,builtinA,minmaxA,AV.cells,AV.isAgg,allP,mkAgg,hget,hset,isRow,cellOk,setC,after,dstOk,St.put,St.get,lk,St.ev,cv,PV.one,Int.reduceToNat,entry,ent,Nat.reduceAdd,Nat.reduceLT,Nat.reduceBEq,Nat.reduceEqDiff,Nat.reduceLeDiff,Nat.reduceMul,Nat.reduceSub,Int.cast_ofNat_Int,decide_true,decide_false,reduceCtorEq,BEq.rfl,beq_self_eq_true,bne_self_eq_false,ite_true,ite_false,if_true,if_false,reduceIte]<;>trivial) fun i hi=>?_
  repeat (first|refine qa ?_|refine qb ?_|refine qc ?_|refine qd ?_|refine qe ?_|refine qf ?_|refine qg rfl ?_|refine qh ?_|refine qi ?_|refine qj ?_|refine qk ?_|refine ql ?_|refine qm ?_)
  (refine hk_region fun K hK=>runs_eval tab_ok ?_); simp only [ev0,aops,xstep,guardA,opA,tab,binA,binInt,arith,unA,pickA,convA,allocA,boxA,loadA,storeA,fieldAddrA,fieldA,indexAddrA,lenA,lenS,sliceA,boundA,makeSliceA,elemsA,appendA,buildA,fillA,buildSliceA,partsA,extractA,builtinA,minmaxA,AV.cells,AV.isAgg,allP,mkAgg,hget,hset,isRow,cellOk,setC,after,dstOk,St.put,St.get,lk,St.ev,cv,PV.one,Int.reduceToNat,entry,ent,Nat.reduceAdd,Nat.reduceLT,Nat.reduceBEq,Nat.reduceEqDiff,Nat.reduceLeDiff,Nat.reduceMul,Nat.reduceSub,Int.cast_ofNat_Int,decide_true,decide_false,reduceCtorEq,BEq.rfl,beq_self_eq_true,bne_self_eq_false,ite_true,ite_false,if_true,if_false,reduceIte]; refine fin_run trivial (hK _ ?_)<;>clear hK<;>clear K; repeat (first|refine qa ?_|refine qb ?_|refine qc ?_|refine qd ?_|refine qe ?_|refine qf ?_|refine qg rfl ?_|refine qh ?_|refine qi ?_|refine qj ?_|refine qk ?_|refine ql ?_|refine qm ?_)
  refine hk_cond rfl (fun hlt=>?_) (fun hlt=>?_)
  ·repeat (first|refine qa ?_|refine qb ?_|refine qc ?_|refine qd ?_|refine qe ?_|refine qf ?_|refine qg rfl ?_|refine qh ?_|refine qi ?_|refine qj ?_|refine qk ?_|refine ql ?_|refine qm ?_)
   have hlt:i < w.length:=by have:=of_decide_eq_true hlt; omega
   refine hk_region fun K hK=>runs_eval tab_ok ?_
   simp only [ev0,aops,xstep,guardA,opA,tab,binA,binInt,arith,unA,pickA,convA,allocA,boxA,loadA,storeA,fieldAddrA,fieldA,indexAddrA,lenA,lenS,sliceA,boundA,makeSliceA,elemsA,appendA,buildA,fillA,buildSliceA,partsA,extractA,builtinA,minmaxA,AV.cells,AV.isAgg,allP,mkAgg,hget,hset,isRow,cellOk,setC,after,dstOk,St.put,St.get,lk,St.ev,cv,PV.one,Int.reduceToNat,entry,ent,Nat.reduceAdd,Nat.reduceLT,Nat.reduceBEq,Nat.reduceEqDiff,Nat.reduceLeDiff,Nat.reduceMul,Nat.reduceSub,Int.cast_ofNat_Int,decide_true,decide_false,reduceCtorEq,BEq.rfl,beq_self_eq_true,bne_self_eq_false,ite_true,ite_false,if_true,if_false,reduceIte,il_get hlt,il_length]
   refine fin_run ?_ (hK _ ?_)<;>clear hK<;>clear K
   ·omega
   repeat (first|refine qa ?_|refine qb ?_|refine qc ?_|refine qd ?_|refine qe ?_|refine qf ?_|refine qg rfl ?_|refine qh ?_|refine qi ?_|refine qj ?_|refine qk ?_|refine ql ?_|refine qm ?_)
   obtain ⟨hi1,hi2⟩:=hi
   have hdrop:w.drop i=w.getD i 0 :: w.drop (i + 1):=by
    rw [List.drop_eq_getElem_cons hlt]; simp [List.getD,List.getElem?_eq_getElem hlt]
   have next:¬ (w.getD i 0=0∨w.getD i 0 < -26∨w.getD i 0 > 26)→chk (i + 1) (w.drop (i + 1))=chk 0 w:=by
    intro hn
    rw [hdrop,chk,if_neg hn] at hi2; exact hi2
   have last:(w.getD i 0=0∨w.getD i 0 < -26∨w.getD i 0 > 26)→chk 0 w=(3,(i:Int)):=by
    intro hn
    rw [hdrop,chk,if_pos hn] at hi2; exact hi2.symm
   generalize w.getD i 0=x at *
   refine hk_cut ⟨30,[(25,.p (.bool (decide (x=0∨x < -26∨x > 26)))),(3,.p (.int .i64 i)),(2,.ptr 0 0),(9,.p (.list (il w))),(10,.p (.int .i64 w.length)),(11,.p (.int .i64 i))],[.own [.p (.int .i64 0),.p (.int .i64 0)]]⟩ ?_ ?_
   ·cases e1:(x == 0)
    ·cases e2:decide (x < -26)
     ·refine hk_region fun K hK=>runs_eval tab_ok ?_
      simp only [ev0,aops,xstep,guardA,opA,tab,binA,binInt,arith,unA,pickA,convA,allocA,boxA,loadA,storeA,fieldAddrA,fieldA,indexAddrA,lenA,lenS,sliceA,boundA,makeSliceA,elemsA,appendA,buildA,fillA,buildSliceA,partsA,extractA,builtinA,minmaxA,AV.cells,AV.isAgg,allP,mkAgg,hget,hset,isRow,cellOk,setC,after,dstOk,St.put,St.get,lk,St.ev,cv,PV.one,Int.reduceToNat,entry,ent,Nat.reduceAdd,Nat.reduceLT,Nat.reduceBEq,Nat.reduceEqDiff,Nat.reduceLeDiff,Nat.reduceMul,Nat.reduceSub,Int.cast_ofNat_Int,decide_true,decide_false,reduceCtorEq,BEq.rfl,beq_self_eq_true,bne_self_eq_false,ite_true,ite_false,if_true,if_false,reduceIte,e1,e2]
      refine fin_run trivial (hK _ ?_)<;>clear hK<;>clear K
      refine ⟨rfl,[0],?_⟩; simp only [AV.p.injEq,AV.sl.injEq,AV.ptr.injEq,Blk.own.injEq,PV.int.injEq,PV.bool.injEq,PV.list.injEq,Nat.sub_zero,Int.natCast_add,List.length_append,take_take_len,take_app1,take_app2,Le,LeH,LeS,LeB,ren,ren1,scA,sc1,List.nodup_cons,List.nodup_nil,List.mem_cons,List.not_mem_nil,or_false,not_false_eq_true,ev0,aops,xstep,guardA,opA,tab,binA,binInt,arith,unA,pickA,convA,allocA,boxA,loadA,storeA,fieldAddrA,fieldA,indexAddrA,lenA,lenS,sliceA,boundA,makeSliceA,elemsA,appendA,buildA,fillA,buildSliceA,partsA,extractA,builtinA,minmaxA,AV.cells,AV.isAgg,allP,mkAgg,hget,hset,isRow,cellOk,setC,after,dstOk,St.put,St.get,lk,St.ev,cv,PV.one,Int.reduceToNat,entry,ent,Nat.reduceAdd,Nat.reduceLT,Nat.reduceBEq,Nat.reduceEqDiff,Nat.reduceLeDiff,Nat.reduceMul,Nat.reduceSub,Int.cast_ofNat_Int,decide_true,decide_false,reduceCtorEq,BEq.rfl,beq_self_eq_true,bne_self_eq_false,ite_true,ite_false,if_true,if_false,reduceIte]; (first|exact trivial|omega|(simp only [In64] at *; omega)|(rw [Bool.eq_iff_iff]; simp; done)|(rw [Bool.eq_iff_iff]; simp; omega)|(simp [In64] at *; omega)|(simp_all; done)|(simp_all [In64]<;>omega)|skip)
     ·refine hk_region fun K hK=>runs_eval tab_ok ?_
      simp only [ev0,aops,xstep,guardA,opA,tab,binA,binInt,arith,unA,pickA,convA,allocA,boxA,loadA,storeA,fieldAddrA,fieldA,indexAddrA,lenA,lenS,sliceA,boundA,makeSliceA,elemsA,appendA,buildA,fillA,buildSliceA,partsA,extractA,builtinA,minmaxA,AV.cells,AV.isAgg,allP,mkAgg,hget,hset,isRow,cellOk,setC,after,dstOk,St.put,St.get,lk,St.ev,cv,PV.one,Int.reduceToNat,entry,ent,Nat.reduceAdd,Nat.reduceLT,Nat.reduceBEq,Nat.reduceEqDiff,Nat.reduceLeDiff,Nat.reduceMul,Nat.reduceSub,Int.cast_ofNat_Int,decide_true,decide_false,reduceCtorEq,BEq.rfl,beq_self_eq_true,bne_self_eq_false,ite_true,ite_false,if_true,if_false,reduceIte,e1,e2]
      refine fin_run trivial (hK _ ?_)<;>clear hK<;>clear K
      refine ⟨rfl,[0],?_⟩; simp only [AV.p.injEq,AV.sl.injEq,AV.ptr.injEq,Blk.own.injEq,PV.int.injEq,PV.bool.injEq,PV.list.injEq,Nat.sub_zero,Int.natCast_add,List.length_append,take_take_len,take_app1,take_app2,Le,LeH,LeS,LeB,ren,ren1,scA,sc1,List.nodup_cons,List.nodup_nil,List.mem_cons,List.not_mem_nil,or_false,not_false_eq_true,ev0,aops,xstep,guardA,opA,tab,binA,binInt,arith,unA,pickA,convA,allocA,boxA,loadA,storeA,fieldAddrA,fieldA,indexAddrA,lenA,lenS,sliceA,boundA,makeSliceA,elemsA,appendA,buildA,fillA,buildSliceA,partsA,extractA,builtinA,minmaxA,AV.cells,AV.isAgg,allP,mkAgg,hget,hset,isRow,cellOk,setC,after,dstOk,St.put,St.get,lk,St.ev,cv,PV.one,Int.reduceToNat,entry,ent,Nat.reduceAdd,Nat.reduceLT,Nat.reduceBEq,Nat.reduceEqDiff,Nat.reduceLeDiff,Nat.reduceMul,Nat.reduceSub,Int.cast_ofNat_Int,decide_true,decide_false,reduceCtorEq,BEq.rfl,beq_self_eq_true,bne_self_eq_false,ite_true,ite_false,if_true,if_false,reduceIte]; (first|exact trivial|omega|(simp only [In64] at *; omega)|(rw [Bool.eq_iff_iff]; simp; done)|(rw [Bool.eq_iff_iff]; simp; omega)|(simp [In64] at *; omega)|(simp_all; done)|(simp_all [In64]<;>omega)|skip)
    ·refine hk_region fun K hK=>runs_eval tab_ok ?_
     simp only [ev0,aops,xstep,guardA,opA,tab,binA,binInt,arith,unA,pickA,convA,allocA,boxA,loadA,storeA,fieldAddrA,fieldA,indexAddrA,lenA,lenS,sliceA,boundA,makeSliceA,elemsA,appendA,buildA,fillA,buildSliceA,partsA,extractA,builtinA,minmaxA,AV.cells,AV.isAgg,allP,mkAgg,hget,hset,isRow,cellOk,setC,after,dstOk,St.put,St.get,lk,St.ev,cv,PV.one,Int.reduceToNat,entry,ent,Nat.reduceAdd,Nat.reduceLT,Nat.reduceBEq,Nat.reduceEqDiff,Nat.reduceLeDiff,Nat.reduceMul,Nat.reduceSub,Int.cast_ofNat_Int,decide_true,decide_false,reduceCtorEq,BEq.rfl,beq_self_eq_true,bne_self_eq_false,ite_true,ite_false,if_true,if_false,reduceIte,e1]
     refine fin_run trivial (hK _ ?_)<;>clear hK<;>clear K
     refine ⟨rfl,[0],?_⟩; simp only [AV.p.injEq,AV.sl.injEq,AV.ptr.injEq,Blk.own.injEq,PV.int.injEq,PV.bool.injEq,PV.list.injEq,Nat.sub_zero,Int.natCast_add,List.length_append,take_take_len,take_app1,take_app2,Le,LeH,LeS,LeB,ren,ren1,scA,sc1,List.nodup_cons,List.nodup_nil,List.mem_cons,List.not_mem_nil,or_false,not_false_eq_true,ev0,aops,xstep,guardA,opA,tab,binA,binInt,arith,unA,pickA,convA,allocA,boxA,loadA,storeA,fieldAddrA,fieldA,indexAddrA,lenA,lenS,sliceA,boundA,makeSliceA,elemsA,appendA,buildA,fillA,buildSliceA,partsA,extractA,builtinA,minmaxA,AV.cells,AV.isAgg,allP,mkAgg,hget,hset,isRow,cellOk,setC,after,dstOk,St.put,St.get,lk,St.ev,cv,PV.one,Int.reduceToNat,entry,ent,Nat.reduceAdd,Nat.reduceLT,Nat.reduceBEq,Nat.reduceEqDiff,Nat.reduceLeDiff,Nat.reduceMul,Nat.reduceSub,Int.cast_ofNat_Int,decide_true,decide_false,reduceCtorEq,BEq.rfl,beq_self_eq_true,bne_self_eq_false,ite_true,ite_false,if_true,if_false,reduceIte]; (first|exact trivial|omega|(simp only [In64] at *; omega)|(rw [Bool.eq_iff_iff]; simp; done)|(rw [Bool.eq_iff_iff]; simp; omega)|(simp [In64] at *; omega)|(simp_all; done)|(simp_all [In64]<;>omega)|skip)
   ·refine hk_cond rfl (fun hc=>?_) (fun hc=>?_)
    ·repeat (first|refine qa ?_|refine qb ?_|refine qc ?_|refine qd ?_|refine qe ?_|refine qf ?_|refine qg rfl ?_|refine qh ?_|refine qi ?_|refine qj ?_|refine qk ?_|refine ql ?_|refine qm ?_)
     refine hk_region fun K hK=>runs_eval tab_ok ?_
     simp only [ev0,aops,xstep,guardA,opA,tab,binA,binInt,arith,unA,pickA,convA,allocA,boxA,loadA,storeA,fieldAddrA,fieldA,indexAddrA,lenA,lenS,sliceA,boundA,makeSliceA,elemsA,appendA,buildA,fillA,buildSliceA,partsA,extractA,builtinA,minmaxA,AV.cells,AV.isAgg,allP,mkAgg,hget,hset,isRow,cellOk,setC,after,dstOk,St.put,St.get,lk,St.ev,cv,PV.one,Int.reduceToNat,entry,ent,Nat.reduceAdd,Nat.reduceLT,Nat.reduceBEq,Nat.reduceEqDiff,Nat.reduceLeDiff,Nat.reduceMul,Nat.reduceSub,Int.cast_ofNat_Int,decide_true,decide_false,reduceCtorEq,BEq.rfl,beq_self_eq_true,bne_self_eq_false,ite_true,ite_false,if_true,if_false,reduceIte]
     refine fin_stop trivial (runs_call (fault_c 3 i) rfl rfl rfl (by simp only [dstOk,Nat.reduceLT]) (by repeat (first|exact trivial|constructor)) (runs_eval tab_ok ?_))
     simp only [ev0,aops,xstep,guardA,opA,tab,binA,binInt,arith,unA,pickA,convA,allocA,boxA,loadA,storeA,fieldAddrA,fieldA,indexAddrA,lenA,lenS,sliceA,boundA,makeSliceA,elemsA,appendA,buildA,fillA,buildSliceA,partsA,extractA,builtinA,minmaxA,AV.cells,AV.isAgg,allP,mkAgg,hget,hset,isRow,cellOk,setC,after,dstOk,St.put,St.get,lk,St.ev,cv,PV.one,Int.reduceToNat,entry,ent,Nat.reduceAdd,Nat.reduceLT,Nat.reduceBEq,Nat.reduceEqDiff,Nat.reduceLeDiff,Nat.reduceMul,Nat.reduceSub,Int.cast_ofNat_Int,decide_true,decide_false,reduceCtorEq,BEq.rfl,beq_self_eq_true,bne_self_eq_false,ite_true,ite_false,if_true,if_false,reduceIte]
     refine fin_run trivial (hK _ ?_)<;>clear hK<;>clear K
     repeat (first|refine qa ?_|refine qb ?_|refine qc ?_|refine qd ?_|refine qe ?_|refine qf ?_|refine qg rfl ?_|refine qh ?_|refine qi ?_|refine qj ?_|refine qk ?_|refine ql ?_|refine qm ?_)
     simp only [Try.results61,Post,endA,rvsA,rvA,mkTup,peekA,peekG,peekS,peekList,PV.norm,PV.norm1,PV.norm0,PV.list.injEq,PV.tup.injEq,PV.agg.injEq,PV.int.injEq,PV.bool.injEq,List.cons.injEq,ev0,aops,xstep,guardA,opA,tab,binA,binInt,arith,unA,pickA,convA,allocA,boxA,loadA,storeA,fieldAddrA,fieldA,indexAddrA,lenA,lenS,sliceA,boundA,makeSliceA,elemsA,appendA,buildA,fillA,buildSliceA,partsA,extractA,builtinA,minmaxA,AV.cells,AV.isAgg,allP,mkAgg,hget,hset,isRow,cellOk,setC,after,dstOk,St.put,St.get,lk,St.ev,cv,PV.one,Int.reduceToNat,entry,ent,Nat.reduceAdd,Nat.reduceLT,Nat.reduceBEq,Nat.reduceEqDiff,Nat.reduceLeDiff,Nat.reduceMul,Nat.reduceSub,Int.cast_ofNat_Int,decide_true,decide_false,reduceCtorEq,BEq.rfl,beq_self_eq_true,bne_self_eq_false,ite_true,ite_false,if_true,if_false,reduceIte]
     rw [check,if_neg (by omega),last (of_decide_eq_true hc)]; rfl
    ·repeat (first|refine qa ?_|refine qb ?_|refine qc ?_|refine qd ?_|refine qe ?_|refine qf ?_|refine qg rfl ?_|refine qh ?_|refine qi ?_|refine qj ?_|refine qk ?_|refine ql ?_|refine qm ?_)
     refine hk_region fun K hK=>runs_eval tab_ok ?_
     simp only [ev0,aops,xstep,guardA,opA,tab,binA,binInt,arith,unA,pickA,convA,allocA,boxA,loadA,storeA,fieldAddrA,fieldA,indexAddrA,lenA,lenS,sliceA,boundA,makeSliceA,elemsA,appendA,buildA,fillA,buildSliceA,partsA,extractA,builtinA,minmaxA,AV.cells,AV.isAgg,allP,mkAgg,hget,hset,isRow,cellOk,setC,after,dstOk,St.put,St.get,lk,St.ev,cv,PV.one,Int.reduceToNat,entry,ent,Nat.reduceAdd,Nat.reduceLT,Nat.reduceBEq,Nat.reduceEqDiff,Nat.reduceLeDiff,Nat.reduceMul,Nat.reduceSub,Int.cast_ofNat_Int,decide_true,decide_false,reduceCtorEq,BEq.rfl,beq_self_eq_true,bne_self_eq_false,ite_true,ite_false,if_true,if_false,reduceIte]
     refine fin_run ?_ (hK _ ?_)<;>clear hK<;>clear K
     ·(first|exact trivial|omega|(simp only [In64] at *; omega)|(rw [Bool.eq_iff_iff]; simp; done)|(rw [Bool.eq_iff_iff]; simp; omega)|(simp [In64] at *; omega)|(simp_all; done)|(simp_all [In64]<;>omega)|skip)
     repeat (first|refine qa ?_|refine qb ?_|refine qc ?_|refine qd ?_|refine qe ?_|refine qf ?_|refine qg rfl ?_|refine qh ?_|refine qi ?_|refine qj ?_|refine qk ?_|refine ql ?_|refine qm ?_)
     refine ⟨i + 1,[0],⟨by omega,next (of_decide_eq_false hc)⟩,by omega,?_⟩
     simp only [AV.p.injEq,AV.sl.injEq,AV.ptr.injEq,Blk.own.injEq,PV.int.injEq,PV.bool.injEq,PV.list.injEq,Nat.sub_zero,Int.natCast_add,List.length_append,take_take_len,take_app1,take_app2,Le,LeH,LeS,LeB,ren,ren1,scA,sc1,List.nodup_cons,List.nodup_nil,List.mem_cons,List.not_mem_nil,or_false,not_false_eq_true,ev0,aops,xstep,guardA,opA,tab,binA,binInt,arith,unA,pickA,convA,allocA,boxA,loadA,storeA,fieldAddrA,fieldA,indexAddrA,lenA,lenS,sliceA,boundA,makeSliceA,elemsA,appendA,buildA,fillA,buildSliceA,partsA,extractA,builtinA,minmaxA,AV.cells,AV.isAgg,allP,mkAgg,hget,hset,isRow,cellOk,setC,after,dstOk,St.put,St.get,lk,St.ev,cv,PV.one,Int.reduceToNat,entry,ent,Nat.reduceAdd,Nat.reduceLT,Nat.reduceBEq,Nat.reduceEqDiff,Nat.reduceLeDiff,Nat.reduceMul,Nat.reduceSub,Int.cast_ofNat_Int,decide_true,decide_false,reduceCtorEq,BEq.rfl,beq_self_eq_true,bne_self_eq_false,ite_true,ite_false,if_true,if_false,reduceIte]<;>(first|exact trivial|omega|(simp only [In64] at *; omega)|(rw [Bool.eq_iff_iff]; simp; done)|(rw [Bool.eq_iff_iff]; simp; omega)|(simp [In64] at *; omega)|(simp_all; done)|(simp_all [In64]<;>omega)|skip)
  ·repeat (first|refine qa ?_|refine qb ?_|refine qc ?_|refine qd ?_|refine qe ?_|refine qf ?_|refine qg rfl ?_|refine qh ?_|refine qi ?_|refine qj ?_|refine qk ?_|refine ql ?_|refine qm ?_)
   (refine hk_region fun K hK=>runs_eval tab_ok ?_); simp only [ev0,aops,xstep,guardA,opA,tab,binA,binInt,arith,unA,pickA,convA,allocA,boxA,loadA,storeA,fieldAddrA,fieldA,indexAddrA,lenA,lenS,sliceA,boundA,makeSliceA,elemsA,appendA,buildA,fillA,buildSliceA,partsA,extractA,builtinA,minmaxA,AV.cells,AV.isAgg,allP,mkAgg,hget,hset,isRow,cellOk,setC,after,dstOk,St.put,St.get,lk,St.ev,cv,PV.one,Int.reduceToNat,entry,ent,Nat.reduceAdd,Nat.reduceLT,Nat.reduceBEq,Nat.reduceEqDiff,Nat.reduceLeDiff,Nat.reduceMul,Nat.reduceSub,Int.cast_ofNat_Int,decide_true,decide_false,reduceCtorEq,BEq.rfl,beq_self_eq_true,bne_self_eq_false,ite_true,ite_false,if_true,if_false,reduceIte]; refine fin_run trivial (hK _ ?_)<;>clear hK<;>clear K; repeat (first|refine qa ?_|refine qb ?_|refine qc ?_|refine qd ?_|refine qe ?_|refine qf ?_|refine qg rfl ?_|refine qh ?_|refine qi ?_|refine qj ?_|refine qk ?_|refine ql ?_|refine qm ?_)
   simp only [Try.results61,Post,endA,rvsA,rvA,mkTup,peekA,peekG,peekS,peekList,PV.norm,PV.norm1,PV.norm0,PV.list.injEq,PV.tup.injEq,PV.agg.injEq,PV.int.injEq,PV.bool.injEq,List.cons.injEq,ev0,aops,xstep,guardA,opA,tab,binA,binInt,arith,unA,pickA,convA,allocA,boxA,loadA,storeA,fieldAddrA,fieldA,indexAddrA,lenA,lenS,sliceA,boundA,makeSliceA,elemsA,appendA,buildA,fillA,buildSliceA,partsA,extractA,builtinA,minmaxA,AV.cells,AV.isAgg,allP,mkAgg,hget,hset,isRow,cellOk,setC,after,dstOk,St.put,St.get,lk,St.ev,cv,PV.one,Int.reduceToNat,entry,ent,Nat.reduceAdd,Nat.reduceLT,Nat.reduceBEq,Nat.reduceEqDiff,Nat.reduceLeDiff,Nat.reduceMul,Nat.reduceSub,Int.cast_ofNat_Int,decide_true,decide_false,reduceCtorEq,BEq.rfl,beq_self_eq_true,bne_self_eq_false,ite_true,ite_false,if_true,if_false,reduceIte]
   have:i=w.length:=by have:=of_decide_eq_false hlt; omega
   rw [check,if_neg (by omega),← hi.2,this,List.drop_length]; rfl

def push (o:List Int) (x:Int):List Int:=if 0 < o.length∧o.getD (o.length - 1) 0 = -x then o.take (o.length - 1) else o++[x]
def short (w:List Int):List Int:=w.foldl push []

/-- Letters of a small range. -/
def Sm (w:List Int):Prop:=∀ x∈w,-26≤x∧x≤26

theorem push_len (o:List Int) (x:Int):(push o x).length≤o.length + 1:=by
 unfold push; split<;>simp<;>omega
theorem short_snoc (w:List Int) (i:Nat) (h:i < w.length):short (w.take (i + 1))=push (short (w.take i)) (w.getD i 0):=by
 rw [List.take_succ_eq_append_getElem h]
 simp only [short,List.foldl_append,List.foldl_cons,List.foldl_nil,List.getD,List.getElem?_eq_getElem h,Option.getD_some]
theorem short_len (w:List Int):(short w).length≤w.length:=by
 have:∀ (w o:List Int),(w.foldl push o).length≤o.length + w.length:=by
  intro w
  induction w with
  | nil=>intro o; simp
  | cons x r ih=>intro o; have:=ih (push o x); have:=push_len o x; simp at *; omega
 have:=this w []
 simpa [short] using this

theorem short_c (w:List Int) (hl:w.length≤1000000000) (hs:Sm w):FnC Try.prog 54 [.list (il w)] (.list (il (short w))):=by
 refine fnc_of tab_ok Try.func54 rfl (by kernel_rfl) (by rw [Try.ntmps54]; exact Nat.le_add_left 1 _) ?_; rw [Try.ntmps54]; repeat (first|refine qa ?_|refine qb ?_|refine qc ?_|refine qd ?_|refine qe ?_|refine qf ?_|refine qg rfl ?_|refine qh ?_|refine qi ?_|refine qj ?_|refine qk ?_|refine ql ?_|refine qm ?_)
 (refine hk_region fun K hK=>runs_eval tab_ok ?_); simp only [ev0,aops,xstep,guardA,opA,tab,binA,binInt,arith,unA,pickA,convA,allocA,boxA,loadA,storeA,fieldAddrA,fieldA,indexAddrA,lenA,lenS,sliceA,boundA,makeSliceA,elemsA,appendA,buildA,fillA,buildSliceA,partsA,extractA,builtinA,minmaxA,AV.cells,AV.isAgg,allP,mkAgg,hget,hset,isRow,cellOk,setC,after,dstOk,St.put,St.get,lk,St.ev,cv,PV.one,Int.reduceToNat,entry,ent,Nat.reduceAdd,Nat.reduceLT,Nat.reduceBEq,Nat.reduceEqDiff,Nat.reduceLeDiff,Nat.reduceMul,Nat.reduceSub,Int.cast_ofNat_Int,decide_true,decide_false,reduceCtorEq,BEq.rfl,beq_self_eq_true,bne_self_eq_false,ite_true,ite_false,if_true,if_false,reduceIte]; refine fin_run trivial (hK _ ?_)<;>clear hK<;>clear K; repeat (first|refine qa ?_|refine qb ?_|refine qc ?_|refine qd ?_|refine qe ?_|refine qf ?_|refine qg rfl ?_|refine qh ?_|refine qi ?_|refine qj ?_|refine qk ?_|refine ql ?_|refine qm ?_)
 refine hk_region fun K hK=>runs_eval tab_ok ?_
 simp only [ev0,aops,xstep,guardA,opA,tab,binA,binInt,arith,unA,pickA,convA,allocA,boxA,loadA,storeA,fieldAddrA,fieldA,indexAddrA,lenA,lenS,sliceA,boundA,makeSliceA,elemsA,appendA,buildA,fillA,buildSliceA,partsA,extractA,builtinA,minmaxA,AV.cells,AV.isAgg,allP,mkAgg,hget,hset,isRow,cellOk,setC,after,dstOk,St.put,St.get,lk,St.ev,cv,PV.one,Int.reduceToNat,entry,ent,Nat.reduceAdd,Nat.reduceLT,Nat.reduceBEq,Nat.reduceEqDiff,Nat.reduceLeDiff,Nat.reduceMul,Nat.reduceSub,Int.cast_ofNat_Int,decide_true,decide_false,reduceCtorEq,BEq.rfl,beq_self_eq_true,bne_self_eq_false,ite_true,ite_false,if_true,if_false,reduceIte]
 refine fin_run ?_ (hK _ ?_)<;>clear hK<;>clear K
 ·(first|exact trivial|omega|(simp only [In64] at *; omega)|(rw [Bool.eq_iff_iff]; simp; done)|(rw [Bool.eq_iff_iff]; simp; omega)|(simp [In64] at *; omega)|(simp_all; done)|(simp_all [In64]<;>omega)|skip)
 repeat (first|refine qa ?_|refine qb ?_|refine qc ?_|refine qd ?_|refine qe ?_|refine qf ?_|refine qg rfl ?_|refine qh ?_|refine qi ?_|refine qj ?_|refine qk ?_|refine ql ?_|refine qm ?_)
 (refine hk_region fun K hK=>runs_eval tab_ok ?_); simp only [ev0,aops,xstep,guardA,opA,tab,binA,binInt,arith,unA,pickA,convA,allocA,boxA,loadA,storeA,fieldAddrA,fieldA,indexAddrA,lenA,lenS,sliceA,boundA,makeSliceA,elemsA,appendA,buildA,fillA,buildSliceA,partsA,extractA,builtinA,minmaxA,AV.cells,AV.isAgg,allP,mkAgg,hget,hset,isRow,cellOk,setC,after,dstOk,St.put,St.get,lk,St.ev,cv,PV.one,Int.reduceToNat,entry,ent,Nat.reduceAdd,Nat.reduceLT,Nat.reduceBEq,Nat.reduceEqDiff,Nat.reduceLeDiff,Nat.reduceMul,Nat.reduceSub,Int.cast_ofNat_Int,decide_true,decide_false,reduceCtorEq,BEq.rfl,beq_self_eq_true,bne_self_eq_false,ite_true,ite_false,if_true,if_false,reduceIte]; refine fin_run trivial (hK _ ?_)<;>clear hK<;>clear K; repeat (first|refine qa ?_|refine qb ?_|refine qc ?_|refine qd ?_|refine qe ?_|refine qf ?_|refine qg rfl ?_|refine qh ?_|refine qi ?_|refine qj ?_|refine qk ?_|refine ql ?_|refine qm ?_)
 refine hk_loop (ι:=Nat) (fun i=>⟨40,[(3,.sl 0 0 (short (w.take i)).length),(10,.p (.list (il w))),(11,.p (.int .i64 w.length)),(12,.p (.int .i64 i))],[.own (ol (short (w.take i)))]⟩) (fun i=>i≤w.length) (fun i=>w.length - i) 0 (Nat.zero_le _) [0] (by simp only [AV.p.injEq,AV.sl.injEq,AV.ptr.injEq,Blk.own.injEq,PV.int.injEq,PV.bool.injEq,PV.list.injEq,Nat.sub_zero,Int.natCast_add,List.length_append,take_take_len,take_app1,take_app2,Le,LeH,LeS,LeB,ren,ren1,scA,sc1,List.nodup_cons,List.nodup_nil,List.mem_cons,List.not_mem_nil,or_false,not_false_eq_true,ev0,aops,xstep,guardA,opA,tab,binA,binInt,arith,unA,pickA,convA,allocA,boxA,loadA,storeA,fieldAddrA,fieldA,indexAddrA,lenA,lenS,sliceA,boundA,makeSliceA,elemsA,appendA,buildA,fillA,buildSliceA,partsA,extractA,builtinA,minmaxA,AV.cells,AV.isAgg,allP,mkAgg,hget,hset,isRow,cellOk,setC,after,dstOk,St.put,St.get,lk,St.ev,cv,PV.one,Int.reduceToNat,entry,ent,Nat.reduceAdd,Nat.reduceLT,Nat.reduceBEq,Nat.reduceEqDiff,Nat.reduceLeDiff,Nat.reduceMul,Nat.reduceSub,Int.cast_ofNat_Int,decide_true,decide_false,reduceCtorEq,BEq.rfl,beq_self_eq_true,bne_self_eq_false,ite_true,ite_false,if_true,if_false,reduceIte]<;>trivial) fun i hi=>?_
 repeat (first|refine qa ?_|refine qb ?_|refine qc ?_|refine qd ?_|refine qe ?_|refine qf ?_|refine qg rfl ?_|refine qh ?_|refine qi ?_|refine qj ?_|refine qk ?_|refine ql ?_|refine qm ?_)
 (refine hk_region fun K hK=>runs_eval tab_ok ?_); simp only [ev0,aops,xstep,guardA,opA,tab,binA,binInt,arith,unA,pickA,convA,allocA,boxA,loadA,storeA,fieldAddrA,fieldA,indexAddrA,lenA,lenS,sliceA,boundA,makeSliceA,elemsA,appendA,buildA,fillA,buildSliceA,partsA,extractA,builtinA,minmaxA,AV.cells,AV.isAgg,allP,mkAgg,hget,hset,isRow,cellOk,setC,after,dstOk,St.put,St.get,lk,St.ev,cv,PV.one,Int.reduceToNat,entry,ent,Nat.reduceAdd,Nat.reduceLT,Nat.reduceBEq,Nat.reduceEqDiff,Nat.reduceLeDiff,Nat.reduceMul,Nat.reduceSub,Int.cast_ofNat_Int,decide_true,decide_false,reduceCtorEq,BEq.rfl,beq_self_eq_true,bne_self_eq_false,ite_true,ite_false,if_true,if_false,reduceIte]; refine fin_run trivial (hK _ ?_)<;>clear hK<;>clear K; repeat (first|refine qa ?_|refine qb ?_|refine qc ?_|refine qd ?_|refine qe ?_|refine qf ?_|refine qg rfl ?_|refine qh ?_|refine qi ?_|refine qj ?_|refine qk ?_|refine ql ?_|refine qm ?_)
 refine hk_cond rfl (fun hlt=>?_) (fun hlt=>?_)
 ·repeat (first|refine qa ?_|refine qb ?_|refine qc ?_|refine qd ?_|refine qe ?_|refine qf ?_|refine qg rfl ?_|refine qh ?_|refine qi ?_|refine qj ?_|refine qk ?_|refine ql ?_|refine qm ?_)
  have hlt:i < w.length:=by have:=of_decide_eq_true hlt; omega
  refine hk_region fun K hK=>runs_eval tab_ok ?_
  simp only [ev0,aops,xstep,guardA,opA,tab,binA,binInt,arith,unA,pickA,convA,allocA,boxA,loadA,storeA,fieldAddrA,fieldA,indexAddrA,lenA,lenS,sliceA,boundA,makeSliceA,elemsA,appendA,buildA,fillA,buildSliceA,partsA,extractA,builtinA,minmaxA,AV.cells,AV.isAgg,allP,mkAgg,hget,hset,isRow,cellOk,setC,after,dstOk,St.put,St.get,lk,St.ev,cv,PV.one,Int.reduceToNat,entry,ent,Nat.reduceAdd,Nat.reduceLT,Nat.reduceBEq,Nat.reduceEqDiff,Nat.reduceLeDiff,Nat.reduceMul,Nat.reduceSub,Int.cast_ofNat_Int,decide_true,decide_false,reduceCtorEq,BEq.rfl,beq_self_eq_true,bne_self_eq_false,ite_true,ite_false,if_true,if_false,reduceIte,il_get hlt]
  refine fin_run ?_ (hK _ ?_)<;>clear hK<;>clear K
  ·omega
  repeat (first|refine qa ?_|refine qb ?_|refine qc ?_|refine qd ?_|refine qe ?_|refine qf ?_|refine qg rfl ?_|refine qh ?_|refine qi ?_|refine qj ?_|refine qk ?_|refine ql ?_|refine qm ?_)
  have hx:=hs (w.getD i 0) (by simp [List.getD,List.getElem?_eq_getElem hlt])
  have hsn:=short_snoc w i hlt
  have hle:=short_len (w.take i)
  rw [List.length_take] at hle
  generalize short (w.take i)=o at *
  generalize w.getD i 0=x at *
  (refine hk_region fun K hK=>runs_eval tab_ok ?_); simp only [ev0,aops,xstep,guardA,opA,tab,binA,binInt,arith,unA,pickA,convA,allocA,boxA,loadA,storeA,fieldAddrA,fieldA,indexAddrA,lenA,lenS,sliceA,boundA,makeSliceA,elemsA,appendA,buildA,fillA,buildSliceA,partsA,extractA,builtinA,minmaxA,AV.cells,AV.isAgg,allP,mkAgg,hget,hset,isRow,cellOk,setC,after,dstOk,St.put,St.get,lk,St.ev,cv,PV.one,Int.reduceToNat,entry,ent,Nat.reduceAdd,Nat.reduceLT,Nat.reduceBEq,Nat.reduceEqDiff,Nat.reduceLeDiff,Nat.reduceMul,Nat.reduceSub,Int.cast_ofNat_Int,decide_true,decide_false,reduceCtorEq,BEq.rfl,beq_self_eq_true,bne_self_eq_false,ite_true,ite_false,if_true,if_false,reduceIte]; refine fin_run trivial (hK _ ?_)<;>clear hK<;>clear K; repeat (first|refine qa ?_|refine qb ?_|refine qc ?_|refine qd ?_|refine qe ?_|refine qf ?_|refine qg rfl ?_|refine qh ?_|refine qi ?_|refine qj ?_|refine qk ?_|refine ql ?_|refine qm ?_)
  refine hk_cut ⟨40,[(29,.p (.bool (decide (0 < o.length∧o.getD (o.length - 1) 0 = -x)))),(6,.p (.int .i64 o.length)),(5,.p (.int .i64 x)),(3,.sl 0 0 o.length),(10,.p (.list (il w))),(11,.p (.int .i64 w.length)),(12,.p (.int .i64 i))],[.own (ol o)]⟩ ?_ ?_
  ·cases e0:decide ((o.length:Int) > 0)
   ·refine hk_region fun K hK=>runs_eval tab_ok ?_
    simp only [ev0,aops,xstep,guardA,opA,tab,binA,binInt,arith,unA,pickA,convA,allocA,boxA,loadA,storeA,fieldAddrA,fieldA,indexAddrA,lenA,lenS,sliceA,boundA,makeSliceA,elemsA,appendA,buildA,fillA,buildSliceA,partsA,extractA,builtinA,minmaxA,AV.cells,AV.isAgg,allP,mkAgg,hget,hset,isRow,cellOk,setC,after,dstOk,St.put,St.get,lk,St.ev,cv,PV.one,Int.reduceToNat,entry,ent,Nat.reduceAdd,Nat.reduceLT,Nat.reduceBEq,Nat.reduceEqDiff,Nat.reduceLeDiff,Nat.reduceMul,Nat.reduceSub,Int.cast_ofNat_Int,decide_true,decide_false,reduceCtorEq,BEq.rfl,beq_self_eq_true,bne_self_eq_false,ite_true,ite_false,if_true,if_false,reduceIte,e0]
    refine fin_run trivial (hK _ ?_)<;>clear hK<;>clear K
    refine ⟨rfl,[0],?_⟩; simp only [AV.p.injEq,AV.sl.injEq,AV.ptr.injEq,Blk.own.injEq,PV.int.injEq,PV.bool.injEq,PV.list.injEq,Nat.sub_zero,Int.natCast_add,List.length_append,take_take_len,take_app1,take_app2,Le,LeH,LeS,LeB,ren,ren1,scA,sc1,List.nodup_cons,List.nodup_nil,List.mem_cons,List.not_mem_nil,or_false,not_false_eq_true,ev0,aops,xstep,guardA,opA,tab,binA,binInt,arith,unA,pickA,convA,allocA,boxA,loadA,storeA,fieldAddrA,fieldA,indexAddrA,lenA,lenS,sliceA,boundA,makeSliceA,elemsA,appendA,buildA,fillA,buildSliceA,partsA,extractA,builtinA,minmaxA,AV.cells,AV.isAgg,allP,mkAgg,hget,hset,isRow,cellOk,setC,after,dstOk,St.put,St.get,lk,St.ev,cv,PV.one,Int.reduceToNat,entry,ent,Nat.reduceAdd,Nat.reduceLT,Nat.reduceBEq,Nat.reduceEqDiff,Nat.reduceLeDiff,Nat.reduceMul,Nat.reduceSub,Int.cast_ofNat_Int,decide_true,decide_false,reduceCtorEq,BEq.rfl,beq_self_eq_true,bne_self_eq_false,ite_true,ite_false,if_true,if_false,reduceIte]; (first|exact trivial|omega|(simp only [In64] at *; omega)|(rw [Bool.eq_iff_iff]; simp; done)|(rw [Bool.eq_iff_iff]; simp; omega)|(simp [In64] at *; omega)|(simp_all; done)|(simp_all [In64]<;>omega)|skip)
   ·have h0:o.length - 1 < o.length:=by have:=of_decide_eq_true e0; omega
    refine hk_region fun K hK=>runs_eval tab_ok ?_
    simp only [ev0,aops,xstep,guardA,opA,tab,binA,binInt,arith,unA,pickA,convA,allocA,boxA,loadA,storeA,fieldAddrA,fieldA,indexAddrA,lenA,lenS,sliceA,boundA,makeSliceA,elemsA,appendA,buildA,fillA,buildSliceA,partsA,extractA,builtinA,minmaxA,AV.cells,AV.isAgg,allP,mkAgg,hget,hset,isRow,cellOk,setC,after,dstOk,St.put,St.get,lk,St.ev,cv,PV.one,Int.reduceToNat,entry,ent,Nat.reduceAdd,Nat.reduceLT,Nat.reduceBEq,Nat.reduceEqDiff,Nat.reduceLeDiff,Nat.reduceMul,Nat.reduceSub,Int.cast_ofNat_Int,decide_true,decide_false,reduceCtorEq,BEq.rfl,beq_self_eq_true,bne_self_eq_false,ite_true,ite_false,if_true,if_false,reduceIte,e0,ol_get h0]
    refine fin_run ?_ (hK _ ?_)<;>clear hK<;>clear K
    ·(first|exact trivial|omega|(simp only [In64] at *; omega)|(rw [Bool.eq_iff_iff]; simp; done)|(rw [Bool.eq_iff_iff]; simp; omega)|(simp [In64] at *; omega)|(simp_all; done)|(simp_all [In64]<;>omega)|skip)
    refine ⟨rfl,[0],?_⟩; simp only [AV.p.injEq,AV.sl.injEq,AV.ptr.injEq,Blk.own.injEq,PV.int.injEq,PV.bool.injEq,PV.list.injEq,Nat.sub_zero,Int.natCast_add,List.length_append,take_take_len,take_app1,take_app2,Le,LeH,LeS,LeB,ren,ren1,scA,sc1,List.nodup_cons,List.nodup_nil,List.mem_cons,List.not_mem_nil,or_false,not_false_eq_true,ev0,aops,xstep,guardA,opA,tab,binA,binInt,arith,unA,pickA,convA,allocA,boxA,loadA,storeA,fieldAddrA,fieldA,indexAddrA,lenA,lenS,sliceA,boundA,makeSliceA,elemsA,appendA,buildA,fillA,buildSliceA,partsA,extractA,builtinA,minmaxA,AV.cells,AV.isAgg,allP,mkAgg,hget,hset,isRow,cellOk,setC,after,dstOk,St.put,St.get,lk,St.ev,cv,PV.one,Int.reduceToNat,entry,ent,Nat.reduceAdd,Nat.reduceLT,Nat.reduceBEq,Nat.reduceEqDiff,Nat.reduceLeDiff,Nat.reduceMul,Nat.reduceSub,Int.cast_ofNat_Int,decide_true,decide_false,reduceCtorEq,BEq.rfl,beq_self_eq_true,bne_self_eq_false,ite_true,ite_false,if_true,if_false,reduceIte]; (first|exact trivial|omega|(simp only [In64] at *; omega)|(rw [Bool.eq_iff_iff]; simp; done)|(rw [Bool.eq_iff_iff]; simp; omega)|(simp [In64] at *; omega)|(simp_all; done)|(simp_all [In64]<;>omega)|skip)
  ·refine hk_cond rfl (fun hc=>?_) (fun hc=>?_)
   ·have hc:=of_decide_eq_true hc
    refine hk_region fun K hK=>runs_eval tab_ok ?_
    simp only [ev0,aops,xstep,guardA,opA,tab,binA,binInt,arith,unA,pickA,convA,allocA,boxA,loadA,storeA,fieldAddrA,fieldA,indexAddrA,lenA,lenS,sliceA,boundA,makeSliceA,elemsA,appendA,buildA,fillA,buildSliceA,partsA,extractA,builtinA,minmaxA,AV.cells,AV.isAgg,allP,mkAgg,hget,hset,isRow,cellOk,setC,after,dstOk,St.put,St.get,lk,St.ev,cv,PV.one,Int.reduceToNat,entry,ent,Nat.reduceAdd,Nat.reduceLT,Nat.reduceBEq,Nat.reduceEqDiff,Nat.reduceLeDiff,Nat.reduceMul,Nat.reduceSub,Int.cast_ofNat_Int,decide_true,decide_false,reduceCtorEq,BEq.rfl,beq_self_eq_true,bne_self_eq_false,ite_true,ite_false,if_true,if_false,reduceIte]
    refine fin_run ?_ (hK _ ?_)<;>clear hK<;>clear K
    ·(first|exact trivial|omega|(simp only [In64] at *; omega)|(rw [Bool.eq_iff_iff]; simp; done)|(rw [Bool.eq_iff_iff]; simp; omega)|(simp [In64] at *; omega)|(simp_all; done)|(simp_all [In64]<;>omega)|skip)
    repeat (first|refine qa ?_|refine qb ?_|refine qc ?_|refine qd ?_|refine qe ?_|refine qf ?_|refine qg rfl ?_|refine qh ?_|refine qi ?_|refine qj ?_|refine qk ?_|refine ql ?_|refine qm ?_)
    refine hk_region fun K hK=>runs_eval tab_ok ?_
    simp only [ev0,aops,xstep,guardA,opA,tab,binA,binInt,arith,unA,pickA,convA,allocA,boxA,loadA,storeA,fieldAddrA,fieldA,indexAddrA,lenA,lenS,sliceA,boundA,makeSliceA,elemsA,appendA,buildA,fillA,buildSliceA,partsA,extractA,builtinA,minmaxA,AV.cells,AV.isAgg,allP,mkAgg,hget,hset,isRow,cellOk,setC,after,dstOk,St.put,St.get,lk,St.ev,cv,PV.one,Int.reduceToNat,entry,ent,Nat.reduceAdd,Nat.reduceLT,Nat.reduceBEq,Nat.reduceEqDiff,Nat.reduceLeDiff,Nat.reduceMul,Nat.reduceSub,Int.cast_ofNat_Int,decide_true,decide_false,reduceCtorEq,BEq.rfl,beq_self_eq_true,bne_self_eq_false,ite_true,ite_false,if_true,if_false,reduceIte]
    refine fin_run ?_ (hK _ ?_)<;>clear hK<;>clear K
    ·(first|exact trivial|omega|(simp only [In64] at *; omega)|(rw [Bool.eq_iff_iff]; simp; done)|(rw [Bool.eq_iff_iff]; simp; omega)|(simp [In64] at *; omega)|(simp_all; done)|(simp_all [In64]<;>omega)|skip)
    repeat (first|refine qa ?_|refine qb ?_|refine qc ?_|refine qd ?_|refine qe ?_|refine qf ?_|refine qg rfl ?_|refine qh ?_|refine qi ?_|refine qj ?_|refine qk ?_|refine ql ?_|refine qm ?_)
    refine ⟨i + 1,[0],by omega,by omega,?_⟩
    rw [hsn,push,if_pos hc]
    simp only [AV.p.injEq,AV.sl.injEq,AV.ptr.injEq,Blk.own.injEq,PV.int.injEq,PV.bool.injEq,PV.list.injEq,Nat.sub_zero,Int.natCast_add,List.length_append,take_take_len,take_app1,take_app2,Le,LeH,LeS,LeB,ren,ren1,scA,sc1,List.nodup_cons,List.nodup_nil,List.mem_cons,List.not_mem_nil,or_false,not_false_eq_true,ev0,aops,xstep,guardA,opA,tab,binA,binInt,arith,unA,pickA,convA,allocA,boxA,loadA,storeA,fieldAddrA,fieldA,indexAddrA,lenA,lenS,sliceA,boundA,makeSliceA,elemsA,appendA,buildA,fillA,buildSliceA,partsA,extractA,builtinA,minmaxA,AV.cells,AV.isAgg,allP,mkAgg,hget,hset,isRow,cellOk,setC,after,dstOk,St.put,St.get,lk,St.ev,cv,PV.one,Int.reduceToNat,entry,ent,Nat.reduceAdd,Nat.reduceLT,Nat.reduceBEq,Nat.reduceEqDiff,Nat.reduceLeDiff,Nat.reduceMul,Nat.reduceSub,Int.cast_ofNat_Int,decide_true,decide_false,reduceCtorEq,BEq.rfl,beq_self_eq_true,bne_self_eq_false,ite_true,ite_false,if_true,if_false,reduceIte]
    (first|exact trivial|omega|(simp only [In64] at *; omega)|(rw [Bool.eq_iff_iff]; simp; done)|(rw [Bool.eq_iff_iff]; simp; omega)|(simp [In64] at *; omega)|(simp_all; done)|(simp_all [In64]<;>omega)|skip)
   ·have hc:=of_decide_eq_false hc
    refine hk_region fun K hK=>runs_eval tab_ok ?_
    simp only [ev0,aops,xstep,guardA,opA,tab,binA,binInt,arith,unA,pickA,convA,allocA,boxA,loadA,storeA,fieldAddrA,fieldA,indexAddrA,lenA,lenS,sliceA,boundA,makeSliceA,elemsA,appendA,buildA,fillA,buildSliceA,partsA,extractA,builtinA,minmaxA,AV.cells,AV.isAgg,allP,mkAgg,hget,hset,isRow,cellOk,setC,after,dstOk,St.put,St.get,lk,St.ev,cv,PV.one,Int.reduceToNat,entry,ent,Nat.reduceAdd,Nat.reduceLT,Nat.reduceBEq,Nat.reduceEqDiff,Nat.reduceLeDiff,Nat.reduceMul,Nat.reduceSub,Int.cast_ofNat_Int,decide_true,decide_false,reduceCtorEq,BEq.rfl,beq_self_eq_true,bne_self_eq_false,ite_true,ite_false,if_true,if_false,reduceIte]
    refine fin_run ?_ (hK _ ?_)<;>clear hK<;>clear K
    ·(first|exact trivial|omega|(simp only [In64] at *; omega)|(rw [Bool.eq_iff_iff]; simp; done)|(rw [Bool.eq_iff_iff]; simp; omega)|(simp [In64] at *; omega)|(simp_all; done)|(simp_all [In64]<;>omega)|skip)
    repeat (first|refine qa ?_|refine qb ?_|refine qc ?_|refine qd ?_|refine qe ?_|refine qf ?_|refine qg rfl ?_|refine qh ?_|refine qi ?_|refine qj ?_|refine qk ?_|refine ql ?_|refine qm ?_)
    refine hk_region fun K hK=>runs_eval tab_ok ?_
    simp only [ev0,aops,xstep,guardA,opA,tab,binA,binInt,arith,unA,pickA,convA,allocA,boxA,loadA,storeA,fieldAddrA,fieldA,indexAddrA,lenA,lenS,sliceA,boundA,makeSliceA,elemsA,appendA,buildA,fillA,buildSliceA,partsA,extractA,builtinA,minmaxA,AV.cells,AV.isAgg,allP,mkAgg,hget,hset,isRow,cellOk,setC,after,dstOk,St.put,St.get,lk,St.ev,cv,PV.one,Int.reduceToNat,entry,ent,Nat.reduceAdd,Nat.reduceLT,Nat.reduceBEq,Nat.reduceEqDiff,Nat.reduceLeDiff,Nat.reduceMul,Nat.reduceSub,Int.cast_ofNat_Int,decide_true,decide_false,reduceCtorEq,BEq.rfl,beq_self_eq_true,bne_self_eq_false,ite_true,ite_false,if_true,if_false,reduceIte]
    refine fin_run ?_ (hK _ ?_)<;>clear hK<;>clear K
    ·(first|exact trivial|omega|(simp only [In64] at *; omega)|(rw [Bool.eq_iff_iff]; simp; done)|(rw [Bool.eq_iff_iff]; simp; omega)|(simp [In64] at *; omega)|(simp_all; done)|(simp_all [In64]<;>omega)|skip)
    repeat (first|refine qa ?_|refine qb ?_|refine qc ?_|refine qd ?_|refine qe ?_|refine qf ?_|refine qg rfl ?_|refine qh ?_|refine qi ?_|refine qj ?_|refine qk ?_|refine ql ?_|refine qm ?_)
    refine ⟨i + 1,[1],by omega,by omega,?_⟩
    rw [hsn,push,if_neg hc]
    simp only [AV.p.injEq,AV.sl.injEq,AV.ptr.injEq,Blk.own.injEq,PV.int.injEq,PV.bool.injEq,PV.list.injEq,Nat.sub_zero,Int.natCast_add,List.length_append,take_take_len,take_app1,take_app2,Le,LeH,LeS,LeB,ren,ren1,scA,sc1,List.nodup_cons,List.nodup_nil,List.mem_cons,List.not_mem_nil,or_false,not_false_eq_true,ev0,aops,xstep,guardA,opA,tab,binA,binInt,arith,unA,pickA,convA,allocA,boxA,loadA,storeA,fieldAddrA,fieldA,indexAddrA,lenA,lenS,sliceA,boundA,makeSliceA,elemsA,appendA,buildA,fillA,buildSliceA,partsA,extractA,builtinA,minmaxA,AV.cells,AV.isAgg,allP,mkAgg,hget,hset,isRow,cellOk,setC,after,dstOk,St.put,St.get,lk,St.ev,cv,PV.one,Int.reduceToNat,entry,ent,Nat.reduceAdd,Nat.reduceLT,Nat.reduceBEq,Nat.reduceEqDiff,Nat.reduceLeDiff,Nat.reduceMul,Nat.reduceSub,Int.cast_ofNat_Int,decide_true,decide_false,reduceCtorEq,BEq.rfl,beq_self_eq_true,bne_self_eq_false,ite_true,ite_false,if_true,if_false,reduceIte]
    (first|exact trivial|omega|(simp only [In64] at *; omega)|(rw [Bool.eq_iff_iff]; simp; done)|(rw [Bool.eq_iff_iff]; simp; omega)|(simp [In64] at *; omega)|(simp_all; done)|(simp_all [In64]<;>omega)|skip)
 ·repeat (first|refine qa ?_|refine qb ?_|refine qc ?_|refine qd ?_|refine qe ?_|refine qf ?_|refine qg rfl ?_|refine qh ?_|refine qi ?_|refine qj ?_|refine qk ?_|refine ql ?_|refine qm ?_)
  (refine hk_region fun K hK=>runs_eval tab_ok ?_); simp only [ev0,aops,xstep,guardA,opA,tab,binA,binInt,arith,unA,pickA,convA,allocA,boxA,loadA,storeA,fieldAddrA,fieldA,indexAddrA,lenA,lenS,sliceA,boundA,makeSliceA,elemsA,appendA,buildA,fillA,buildSliceA,partsA,extractA,builtinA,minmaxA,AV.cells,AV.isAgg,allP,mkAgg,hget,hset,isRow,cellOk,setC,after,dstOk,St.put,St.get,lk,St.ev,cv,PV.one,Int.reduceToNat,entry,ent,Nat.reduceAdd,Nat.reduceLT,Nat.reduceBEq,Nat.reduceEqDiff,Nat.reduceLeDiff,Nat.reduceMul,Nat.reduceSub,Int.cast_ofNat_Int,decide_true,decide_false,reduceCtorEq,BEq.rfl,beq_self_eq_true,bne_self_eq_false,ite_true,ite_false,if_true,if_false,reduceIte]; refine fin_run trivial (hK _ ?_)<;>clear hK<;>clear K; repeat (first|refine qa ?_|refine qb ?_|refine qc ?_|refine qd ?_|refine qe ?_|refine qf ?_|refine qg rfl ?_|refine qh ?_|refine qi ?_|refine qj ?_|refine qk ?_|refine ql ?_|refine qm ?_)
  simp only [Try.results54,Post,endA,rvsA,rvA,mkTup,peekA,peekG,peekS,peekList,PV.norm,PV.norm1,PV.norm0,PV.list.injEq,PV.tup.injEq,PV.agg.injEq,PV.int.injEq,PV.bool.injEq,List.cons.injEq,ev0,aops,xstep,guardA,opA,tab,binA,binInt,arith,unA,pickA,convA,allocA,boxA,loadA,storeA,fieldAddrA,fieldA,indexAddrA,lenA,lenS,sliceA,boundA,makeSliceA,elemsA,appendA,buildA,fillA,buildSliceA,partsA,extractA,builtinA,minmaxA,AV.cells,AV.isAgg,allP,mkAgg,hget,hset,isRow,cellOk,setC,after,dstOk,St.put,St.get,lk,St.ev,cv,PV.one,Int.reduceToNat,entry,ent,Nat.reduceAdd,Nat.reduceLT,Nat.reduceBEq,Nat.reduceEqDiff,Nat.reduceLeDiff,Nat.reduceMul,Nat.reduceSub,Int.cast_ofNat_Int,decide_true,decide_false,reduceCtorEq,BEq.rfl,beq_self_eq_true,bne_self_eq_false,ite_true,ite_false,if_true,if_false,reduceIte]
  have:i=w.length:=by have:=of_decide_eq_false hlt; omega
  rw [this,List.take_length]
  exact ⟨Nat.le_refl _,rfl⟩

def bk (w:List Int) (j:Nat):List Int:=(w.reverse.take j).map (fun x=>-x)
def back (w:List Int):List Int:=(w.reverse).map (fun x=>-x)

theorem bk_len {w:List Int} {j:Nat} (h:j≤w.length):(bk w j).length=j:=by simp [bk]; omega
theorem bk_succ {w:List Int} {j:Nat} (h:j < w.length):bk w (j + 1)=bk w j++[-(w.getD (w.length - 1 - j) 0)]:=by
 unfold bk
 rw [List.take_succ_eq_append_getElem (by simpa using h),List.map_append,List.getElem_reverse]
 simp [List.getD,List.getElem?_eq_getElem (show w.length - 1 - j < w.length by omega)]
theorem bk_all (w:List Int):bk w w.length=back w:=by
 unfold bk back
 rw [List.take_of_length_le (by simp)]

theorem back_c (w:List Int) (hl:w.length≤1000000000) (hs:Sm w):FnC Try.prog 68 [.list (il w)] (.list (il (back w))):=by
 refine fnc_of tab_ok Try.func68 rfl (by kernel_rfl) (by rw [Try.ntmps68]; exact Nat.le_add_left 1 _) ?_; rw [Try.ntmps68]; repeat (first|refine qa ?_|refine qb ?_|refine qc ?_|refine qd ?_|refine qe ?_|refine qf ?_|refine qg rfl ?_|refine qh ?_|refine qi ?_|refine qj ?_|refine qk ?_|refine ql ?_|refine qm ?_)
 (refine hk_region fun K hK=>runs_eval tab_ok ?_); simp only [ev0,aops,xstep,guardA,opA,tab,binA,binInt,arith,unA,pickA,convA,allocA,boxA,loadA,storeA,fieldAddrA,fieldA,indexAddrA,lenA,lenS,sliceA,boundA,makeSliceA,elemsA,appendA,buildA,fillA,buildSliceA,partsA,extractA,builtinA,minmaxA,AV.cells,AV.isAgg,allP,mkAgg,hget,hset,isRow,cellOk,setC,after,dstOk,St.put,St.get,lk,St.ev,cv,PV.one,Int.reduceToNat,entry,ent,Nat.reduceAdd,Nat.reduceLT,Nat.reduceBEq,Nat.reduceEqDiff,Nat.reduceLeDiff,Nat.reduceMul,Nat.reduceSub,Int.cast_ofNat_Int,decide_true,decide_false,reduceCtorEq,BEq.rfl,beq_self_eq_true,bne_self_eq_false,ite_true,ite_false,if_true,if_false,reduceIte]; refine fin_run trivial (hK _ ?_)<;>clear hK<;>clear K; repeat (first|refine qa ?_|refine qb ?_|refine qc ?_|refine qd ?_|refine qe ?_|refine qf ?_|refine qg rfl ?_|refine qh ?_|refine qi ?_|refine qj ?_|refine qk ?_|refine ql ?_|refine qm ?_)
 refine hk_region fun K hK=>runs_eval tab_ok ?_
 simp only [ev0,aops,xstep,guardA,opA,tab,binA,binInt,arith,unA,pickA,convA,allocA,boxA,loadA,storeA,fieldAddrA,fieldA,indexAddrA,lenA,lenS,sliceA,boundA,makeSliceA,elemsA,appendA,buildA,fillA,buildSliceA,partsA,extractA,builtinA,minmaxA,AV.cells,AV.isAgg,allP,mkAgg,hget,hset,isRow,cellOk,setC,after,dstOk,St.put,St.get,lk,St.ev,cv,PV.one,Int.reduceToNat,entry,ent,Nat.reduceAdd,Nat.reduceLT,Nat.reduceBEq,Nat.reduceEqDiff,Nat.reduceLeDiff,Nat.reduceMul,Nat.reduceSub,Int.cast_ofNat_Int,decide_true,decide_false,reduceCtorEq,BEq.rfl,beq_self_eq_true,bne_self_eq_false,ite_true,ite_false,if_true,if_false,reduceIte]
 refine fin_run ?_ (hK _ ?_)<;>clear hK<;>clear K
 ·(first|exact trivial|omega|(simp only [In64] at *; omega)|(rw [Bool.eq_iff_iff]; simp; done)|(rw [Bool.eq_iff_iff]; simp; omega)|(simp [In64] at *; omega)|(simp_all; done)|(simp_all [In64]<;>omega)|skip)
 repeat (first|refine qa ?_|refine qb ?_|refine qc ?_|refine qd ?_|refine qe ?_|refine qf ?_|refine qg rfl ?_|refine qh ?_|refine qi ?_|refine qj ?_|refine qk ?_|refine ql ?_|refine qm ?_)
 refine hk_region fun K hK=>runs_eval tab_ok ?_
 simp only [ev0,aops,xstep,guardA,opA,tab,binA,binInt,arith,unA,pickA,convA,allocA,boxA,loadA,storeA,fieldAddrA,fieldA,indexAddrA,lenA,lenS,sliceA,boundA,makeSliceA,elemsA,appendA,buildA,fillA,buildSliceA,partsA,extractA,builtinA,minmaxA,AV.cells,AV.isAgg,allP,mkAgg,hget,hset,isRow,cellOk,setC,after,dstOk,St.put,St.get,lk,St.ev,cv,PV.one,Int.reduceToNat,entry,ent,Nat.reduceAdd,Nat.reduceLT,Nat.reduceBEq,Nat.reduceEqDiff,Nat.reduceLeDiff,Nat.reduceMul,Nat.reduceSub,Int.cast_ofNat_Int,decide_true,decide_false,reduceCtorEq,BEq.rfl,beq_self_eq_true,bne_self_eq_false,ite_true,ite_false,if_true,if_false,reduceIte]
 refine fin_run ?_ (hK _ ?_)<;>clear hK<;>clear K
 ·(first|exact trivial|omega|(simp only [In64] at *; omega)|(rw [Bool.eq_iff_iff]; simp; done)|(rw [Bool.eq_iff_iff]; simp; omega)|(simp [In64] at *; omega)|(simp_all; done)|(simp_all [In64]<;>omega)|skip)
 repeat (first|refine qa ?_|refine qb ?_|refine qc ?_|refine qd ?_|refine qe ?_|refine qf ?_|refine qg rfl ?_|refine qh ?_|refine qi ?_|refine qj ?_|refine qk ?_|refine ql ?_|refine qm ?_)
 refine hk_loop (ι:=Nat) (fun j=>⟨24,[(0,.p (.list (il w))),(3,.sl 0 0 (bk w j).length),(4,.p (.int .i64 ((w.length:Int) - 1 - j)))],[.own (ol (bk w j))]⟩) (fun j=>j≤w.length) (fun j=>w.length - j) 0 (Nat.zero_le _) [0] (by simp only [AV.p.injEq,AV.sl.injEq,AV.ptr.injEq,Blk.own.injEq,PV.int.injEq,PV.bool.injEq,PV.list.injEq,Nat.sub_zero,Int.natCast_add,List.length_append,take_take_len,take_app1,take_app2,Le,LeH,LeS,LeB,ren,ren1,scA,sc1,List.nodup_cons,List.nodup_nil,List.mem_cons,List.not_mem_nil,or_false,not_false_eq_true,ev0,aops,xstep,guardA,opA,tab,binA,binInt,arith,unA,pickA,convA,allocA,boxA,loadA,storeA,fieldAddrA,fieldA,indexAddrA,lenA,lenS,sliceA,boundA,makeSliceA,elemsA,appendA,buildA,fillA,buildSliceA,partsA,extractA,builtinA,minmaxA,AV.cells,AV.isAgg,allP,mkAgg,hget,hset,isRow,cellOk,setC,after,dstOk,St.put,St.get,lk,St.ev,cv,PV.one,Int.reduceToNat,entry,ent,Nat.reduceAdd,Nat.reduceLT,Nat.reduceBEq,Nat.reduceEqDiff,Nat.reduceLeDiff,Nat.reduceMul,Nat.reduceSub,Int.cast_ofNat_Int,decide_true,decide_false,reduceCtorEq,BEq.rfl,beq_self_eq_true,bne_self_eq_false,ite_true,ite_false,if_true,if_false,reduceIte]; simp [bk,ol_nil]) fun j hj=>?_
 repeat (first|refine qa ?_|refine qb ?_|refine qc ?_|refine qd ?_|refine qe ?_|refine qf ?_|refine qg rfl ?_|refine qh ?_|refine qi ?_|refine qj ?_|refine qk ?_|refine ql ?_|refine qm ?_)
 (refine hk_region fun K hK=>runs_eval tab_ok ?_); simp only [ev0,aops,xstep,guardA,opA,tab,binA,binInt,arith,unA,pickA,convA,allocA,boxA,loadA,storeA,fieldAddrA,fieldA,indexAddrA,lenA,lenS,sliceA,boundA,makeSliceA,elemsA,appendA,buildA,fillA,buildSliceA,partsA,extractA,builtinA,minmaxA,AV.cells,AV.isAgg,allP,mkAgg,hget,hset,isRow,cellOk,setC,after,dstOk,St.put,St.get,lk,St.ev,cv,PV.one,Int.reduceToNat,entry,ent,Nat.reduceAdd,Nat.reduceLT,Nat.reduceBEq,Nat.reduceEqDiff,Nat.reduceLeDiff,Nat.reduceMul,Nat.reduceSub,Int.cast_ofNat_Int,decide_true,decide_false,reduceCtorEq,BEq.rfl,beq_self_eq_true,bne_self_eq_false,ite_true,ite_false,if_true,if_false,reduceIte]; refine fin_run trivial (hK _ ?_)<;>clear hK<;>clear K; repeat (first|refine qa ?_|refine qb ?_|refine qc ?_|refine qd ?_|refine qe ?_|refine qf ?_|refine qg rfl ?_|refine qh ?_|refine qi ?_|refine qj ?_|refine qk ?_|refine ql ?_|refine qm ?_)
 refine hk_cond rfl (fun hlt=>?_) (fun hlt=>?_)
 ·repeat (first|refine qa ?_|refine qb ?_|refine qc ?_|refine qd ?_|refine qe ?_|refine qf ?_|refine qg rfl ?_|refine qh ?_|refine qi ?_|refine qj ?_|refine qk ?_|refine ql ?_|refine qm ?_)
  have hlt:j < w.length:=by have:=of_decide_eq_true hlt; omega
  have hx:=hs (w.getD (w.length - 1 - j) 0) (by simp [List.getD,List.getElem?_eq_getElem (show w.length - 1 - j < w.length by omega)])
  have hi:((w.length:Int) - 1 - j).toNat=w.length - 1 - j:=by omega
  have hb:=bk_len (Nat.le_of_lt hlt)
  have hsn:=bk_succ hlt
  refine hk_region fun K hK=>runs_eval tab_ok ?_
  simp only [ev0,aops,xstep,guardA,opA,tab,binA,binInt,arith,unA,pickA,convA,allocA,boxA,loadA,storeA,fieldAddrA,fieldA,indexAddrA,lenA,lenS,sliceA,boundA,makeSliceA,elemsA,appendA,buildA,fillA,buildSliceA,partsA,extractA,builtinA,minmaxA,AV.cells,AV.isAgg,allP,mkAgg,hget,hset,isRow,cellOk,setC,after,dstOk,St.put,St.get,lk,St.ev,cv,PV.one,Int.reduceToNat,entry,ent,Nat.reduceAdd,Nat.reduceLT,Nat.reduceBEq,Nat.reduceEqDiff,Nat.reduceLeDiff,Nat.reduceMul,Nat.reduceSub,Int.cast_ofNat_Int,decide_true,decide_false,reduceCtorEq,BEq.rfl,beq_self_eq_true,bne_self_eq_false,ite_true,ite_false,if_true,if_false,reduceIte,hi,il_get (show w.length - 1 - j < w.length by omega)]
  refine fin_run ?_ (hK _ ?_)<;>clear hK<;>clear K
  ·simp only [In64]; omega
  repeat (first|refine qa ?_|refine qb ?_|refine qc ?_|refine qd ?_|refine qe ?_|refine qf ?_|refine qg rfl ?_|refine qh ?_|refine qi ?_|refine qj ?_|refine qk ?_|refine ql ?_|refine qm ?_)
  refine hk_region fun K hK=>runs_eval tab_ok ?_
  simp only [ev0,aops,xstep,guardA,opA,tab,binA,binInt,arith,unA,pickA,convA,allocA,boxA,loadA,storeA,fieldAddrA,fieldA,indexAddrA,lenA,lenS,sliceA,boundA,makeSliceA,elemsA,appendA,buildA,fillA,buildSliceA,partsA,extractA,builtinA,minmaxA,AV.cells,AV.isAgg,allP,mkAgg,hget,hset,isRow,cellOk,setC,after,dstOk,St.put,St.get,lk,St.ev,cv,PV.one,Int.reduceToNat,entry,ent,Nat.reduceAdd,Nat.reduceLT,Nat.reduceBEq,Nat.reduceEqDiff,Nat.reduceLeDiff,Nat.reduceMul,Nat.reduceSub,Int.cast_ofNat_Int,decide_true,decide_false,reduceCtorEq,BEq.rfl,beq_self_eq_true,bne_self_eq_false,ite_true,ite_false,if_true,if_false,reduceIte]
  refine fin_run ?_ (hK _ ?_)<;>clear hK<;>clear K
  ·simp only [In64]; omega
  repeat (first|refine qa ?_|refine qb ?_|refine qc ?_|refine qd ?_|refine qe ?_|refine qf ?_|refine qg rfl ?_|refine qh ?_|refine qi ?_|refine qj ?_|refine qk ?_|refine ql ?_|refine qm ?_)
  refine ⟨j + 1,[1],by omega,by omega,?_⟩
  rw [hsn]
  simp only [AV.p.injEq,AV.sl.injEq,AV.ptr.injEq,Blk.own.injEq,PV.int.injEq,PV.bool.injEq,PV.list.injEq,Nat.sub_zero,Int.natCast_add,List.length_append,take_take_len,take_app1,take_app2,Le,LeH,LeS,LeB,ren,ren1,scA,sc1,List.nodup_cons,List.nodup_nil,List.mem_cons,List.not_mem_nil,or_false,not_false_eq_true,ev0,aops,xstep,guardA,opA,tab,binA,binInt,arith,unA,pickA,convA,allocA,boxA,loadA,storeA,fieldAddrA,fieldA,indexAddrA,lenA,lenS,sliceA,boundA,makeSliceA,elemsA,appendA,buildA,fillA,buildSliceA,partsA,extractA,builtinA,minmaxA,AV.cells,AV.isAgg,allP,mkAgg,hget,hset,isRow,cellOk,setC,after,dstOk,St.put,St.get,lk,St.ev,cv,PV.one,Int.reduceToNat,entry,ent,Nat.reduceAdd,Nat.reduceLT,Nat.reduceBEq,Nat.reduceEqDiff,Nat.reduceLeDiff,Nat.reduceMul,Nat.reduceSub,Int.cast_ofNat_Int,decide_true,decide_false,reduceCtorEq,BEq.rfl,beq_self_eq_true,bne_self_eq_false,ite_true,ite_false,if_true,if_false,reduceIte]
  omega
 ·repeat (first|refine qa ?_|refine qb ?_|refine qc ?_|refine qd ?_|refine qe ?_|refine qf ?_|refine qg rfl ?_|refine qh ?_|refine qi ?_|refine qj ?_|refine qk ?_|refine ql ?_|refine qm ?_)
  (refine hk_region fun K hK=>runs_eval tab_ok ?_); simp only [ev0,aops,xstep,guardA,opA,tab,binA,binInt,arith,unA,pickA,convA,allocA,boxA,loadA,storeA,fieldAddrA,fieldA,indexAddrA,lenA,lenS,sliceA,boundA,makeSliceA,elemsA,appendA,buildA,fillA,buildSliceA,partsA,extractA,builtinA,minmaxA,AV.cells,AV.isAgg,allP,mkAgg,hget,hset,isRow,cellOk,setC,after,dstOk,St.put,St.get,lk,St.ev,cv,PV.one,Int.reduceToNat,entry,ent,Nat.reduceAdd,Nat.reduceLT,Nat.reduceBEq,Nat.reduceEqDiff,Nat.reduceLeDiff,Nat.reduceMul,Nat.reduceSub,Int.cast_ofNat_Int,decide_true,decide_false,reduceCtorEq,BEq.rfl,beq_self_eq_true,bne_self_eq_false,ite_true,ite_false,if_true,if_false,reduceIte]; refine fin_run trivial (hK _ ?_)<;>clear hK<;>clear K; repeat (first|refine qa ?_|refine qb ?_|refine qc ?_|refine qd ?_|refine qe ?_|refine qf ?_|refine qg rfl ?_|refine qh ?_|refine qi ?_|refine qj ?_|refine qk ?_|refine ql ?_|refine qm ?_)
  simp only [Try.results68,Post,endA,rvsA,rvA,mkTup,peekA,peekG,peekS,peekList,PV.norm,PV.norm1,PV.norm0,PV.list.injEq,PV.tup.injEq,PV.agg.injEq,PV.int.injEq,PV.bool.injEq,List.cons.injEq,ev0,aops,xstep,guardA,opA,tab,binA,binInt,arith,unA,pickA,convA,allocA,boxA,loadA,storeA,fieldAddrA,fieldA,indexAddrA,lenA,lenS,sliceA,boundA,makeSliceA,elemsA,appendA,buildA,fillA,buildSliceA,partsA,extractA,builtinA,minmaxA,AV.cells,AV.isAgg,allP,mkAgg,hget,hset,isRow,cellOk,setC,after,dstOk,St.put,St.get,lk,St.ev,cv,PV.one,Int.reduceToNat,entry,ent,Nat.reduceAdd,Nat.reduceLT,Nat.reduceBEq,Nat.reduceEqDiff,Nat.reduceLeDiff,Nat.reduceMul,Nat.reduceSub,Int.cast_ofNat_Int,decide_true,decide_false,reduceCtorEq,BEq.rfl,beq_self_eq_true,bne_self_eq_false,ite_true,ite_false,if_true,if_false,reduceIte]
  have:j=w.length:=by have:=of_decide_eq_false hlt; omega
  rw [this,bk_all]
  exact ⟨Nat.le_refl _,rfl⟩

theorem own_c (w:List Int) (hl:w.length≤1000000000):FnC Try.prog 36 [.list (il w)] (.list (il w)):=by
 refine fnc_of tab_ok Try.func36 rfl (by kernel_rfl) (by rw [Try.ntmps36]; exact Nat.le_add_left 1 _) ?_; rw [Try.ntmps36]; repeat (first|refine qa ?_|refine qb ?_|refine qc ?_|refine qd ?_|refine qe ?_|refine qf ?_|refine qg rfl ?_|refine qh ?_|refine qi ?_|refine qj ?_|refine qk ?_|refine ql ?_|refine qm ?_)
 (refine hk_region fun K hK=>runs_eval tab_ok ?_); simp only [ev0,aops,xstep,guardA,opA,tab,binA,binInt,arith,unA,pickA,convA,allocA,boxA,loadA,storeA,fieldAddrA,fieldA,indexAddrA,lenA,lenS,sliceA,boundA,makeSliceA,elemsA,appendA,buildA,fillA,buildSliceA,partsA,extractA,builtinA,minmaxA,AV.cells,AV.isAgg,allP,mkAgg,hget,hset,isRow,cellOk,setC,after,dstOk,St.put,St.get,lk,St.ev,cv,PV.one,Int.reduceToNat,entry,ent,Nat.reduceAdd,Nat.reduceLT,Nat.reduceBEq,Nat.reduceEqDiff,Nat.reduceLeDiff,Nat.reduceMul,Nat.reduceSub,Int.cast_ofNat_Int,decide_true,decide_false,reduceCtorEq,BEq.rfl,beq_self_eq_true,bne_self_eq_false,ite_true,ite_false,if_true,if_false,reduceIte]; refine fin_run trivial (hK _ ?_)<;>clear hK<;>clear K; repeat (first|refine qa ?_|refine qb ?_|refine qc ?_|refine qd ?_|refine qe ?_|refine qf ?_|refine qg rfl ?_|refine qh ?_|refine qi ?_|refine qj ?_|refine qk ?_|refine ql ?_|refine qm ?_)
 refine hk_region fun K hK=>runs_eval tab_ok ?_
 simp only [ev0,aops,xstep,guardA,opA,tab,binA,binInt,arith,unA,pickA,convA,allocA,boxA,loadA,storeA,fieldAddrA,fieldA,indexAddrA,lenA,lenS,sliceA,boundA,makeSliceA,elemsA,appendA,buildA,fillA,buildSliceA,partsA,extractA,builtinA,minmaxA,AV.cells,AV.isAgg,allP,mkAgg,hget,hset,isRow,cellOk,setC,after,dstOk,St.put,St.get,lk,St.ev,cv,PV.one,Int.reduceToNat,entry,ent,Nat.reduceAdd,Nat.reduceLT,Nat.reduceBEq,Nat.reduceEqDiff,Nat.reduceLeDiff,Nat.reduceMul,Nat.reduceSub,Int.cast_ofNat_Int,decide_true,decide_false,reduceCtorEq,BEq.rfl,beq_self_eq_true,bne_self_eq_false,ite_true,ite_false,if_true,if_false,reduceIte]
 refine fin_run ?_ (hK _ ?_)<;>clear hK<;>clear K
 ·(first|exact trivial|omega|(simp only [In64] at *; omega)|(rw [Bool.eq_iff_iff]; simp; done)|(rw [Bool.eq_iff_iff]; simp; omega)|(simp [In64] at *; omega)|(simp_all; done)|(simp_all [In64]<;>omega)|skip)
 repeat (first|refine qa ?_|refine qb ?_|refine qc ?_|refine qd ?_|refine qe ?_|refine qf ?_|refine qg rfl ?_|refine qh ?_|refine qi ?_|refine qj ?_|refine qk ?_|refine ql ?_|refine qm ?_)
 simp only [Try.results36,Post,endA,rvsA,rvA,mkTup,peekA,peekG,peekS,peekList,PV.norm,PV.norm1,PV.norm0,PV.list.injEq,PV.tup.injEq,PV.agg.injEq,PV.int.injEq,PV.bool.injEq,List.cons.injEq,ev0,aops,xstep,guardA,opA,tab,binA,binInt,arith,unA,pickA,convA,allocA,boxA,loadA,storeA,fieldAddrA,fieldA,indexAddrA,lenA,lenS,sliceA,boundA,makeSliceA,elemsA,appendA,buildA,fillA,buildSliceA,partsA,extractA,builtinA,minmaxA,AV.cells,AV.isAgg,allP,mkAgg,hget,hset,isRow,cellOk,setC,after,dstOk,St.put,St.get,lk,St.ev,cv,PV.one,Int.reduceToNat,entry,ent,Nat.reduceAdd,Nat.reduceLT,Nat.reduceBEq,Nat.reduceEqDiff,Nat.reduceLeDiff,Nat.reduceMul,Nat.reduceSub,Int.cast_ofNat_Int,decide_true,decide_false,reduceCtorEq,BEq.rfl,beq_self_eq_true,bne_self_eq_false,ite_true,ite_false,if_true,if_false,reduceIte]
 simp

theorem clone_c (w:List Int) (hl:w.length≤1000000000):FnC Try.prog 77 [.list (il w)] (.list (il w)):=by
 by_cases hw:w=[]
 ·subst hw
  refine fnc_of tab_ok Try.func77 rfl (by kernel_rfl) (by rw [Try.ntmps77]; exact Nat.le_add_left 1 _) ?_; rw [Try.ntmps77]; repeat (first|refine qa ?_|refine qb ?_|refine qc ?_|refine qd ?_|refine qe ?_|refine qf ?_|refine qg rfl ?_|refine qh ?_|refine qi ?_|refine qj ?_|refine qk ?_|refine ql ?_|refine qm ?_)
  (refine hk_region fun K hK=>runs_eval tab_ok ?_); simp only [ev0,aops,xstep,guardA,opA,tab,binA,binInt,arith,unA,pickA,convA,allocA,boxA,loadA,storeA,fieldAddrA,fieldA,indexAddrA,lenA,lenS,sliceA,boundA,makeSliceA,elemsA,appendA,buildA,fillA,buildSliceA,partsA,extractA,builtinA,minmaxA,AV.cells,AV.isAgg,allP,mkAgg,hget,hset,isRow,cellOk,setC,after,dstOk,St.put,St.get,lk,St.ev,cv,PV.one,Int.reduceToNat,entry,ent,Nat.reduceAdd,Nat.reduceLT,Nat.reduceBEq,Nat.reduceEqDiff,Nat.reduceLeDiff,Nat.reduceMul,Nat.reduceSub,Int.cast_ofNat_Int,decide_true,decide_false,reduceCtorEq,BEq.rfl,beq_self_eq_true,bne_self_eq_false,ite_true,ite_false,if_true,if_false,reduceIte]; refine fin_run trivial (hK _ ?_)<;>clear hK<;>clear K; repeat (first|refine qa ?_|refine qb ?_|refine qc ?_|refine qd ?_|refine qe ?_|refine qf ?_|refine qg rfl ?_|refine qh ?_|refine qi ?_|refine qj ?_|refine qk ?_|refine ql ?_|refine qm ?_)
  refine hk_nil 0 rfl ?_ ?_
  ·(refine hk_region fun K hK=>runs_eval tab_ok ?_); simp only [ev0,aops,xstep,guardA,opA,tab,binA,binInt,arith,unA,pickA,convA,allocA,boxA,loadA,storeA,fieldAddrA,fieldA,indexAddrA,lenA,lenS,sliceA,boundA,makeSliceA,elemsA,appendA,buildA,fillA,buildSliceA,partsA,extractA,builtinA,minmaxA,AV.cells,AV.isAgg,allP,mkAgg,hget,hset,isRow,cellOk,setC,after,dstOk,St.put,St.get,lk,St.ev,cv,PV.one,Int.reduceToNat,entry,ent,Nat.reduceAdd,Nat.reduceLT,Nat.reduceBEq,Nat.reduceEqDiff,Nat.reduceLeDiff,Nat.reduceMul,Nat.reduceSub,Int.cast_ofNat_Int,decide_true,decide_false,reduceCtorEq,BEq.rfl,beq_self_eq_true,bne_self_eq_false,ite_true,ite_false,if_true,if_false,reduceIte]; refine fin_run trivial (hK _ ?_)<;>clear hK<;>clear K; repeat (first|refine qa ?_|refine qb ?_|refine qc ?_|refine qd ?_|refine qe ?_|refine qf ?_|refine qg rfl ?_|refine qh ?_|refine qi ?_|refine qj ?_|refine qk ?_|refine ql ?_|refine qm ?_)
   refine hk_cond rfl (fun hc=>?_) (fun hc=>?_)
   ·repeat (first|refine qa ?_|refine qb ?_|refine qc ?_|refine qd ?_|refine qe ?_|refine qf ?_|refine qg rfl ?_|refine qh ?_|refine qi ?_|refine qj ?_|refine qk ?_|refine ql ?_|refine qm ?_)
    (refine hk_region fun K hK=>runs_eval tab_ok ?_); simp only [ev0,aops,xstep,guardA,opA,tab,binA,binInt,arith,unA,pickA,convA,allocA,boxA,loadA,storeA,fieldAddrA,fieldA,indexAddrA,lenA,lenS,sliceA,boundA,makeSliceA,elemsA,appendA,buildA,fillA,buildSliceA,partsA,extractA,builtinA,minmaxA,AV.cells,AV.isAgg,allP,mkAgg,hget,hset,isRow,cellOk,setC,after,dstOk,St.put,St.get,lk,St.ev,cv,PV.one,Int.reduceToNat,entry,ent,Nat.reduceAdd,Nat.reduceLT,Nat.reduceBEq,Nat.reduceEqDiff,Nat.reduceLeDiff,Nat.reduceMul,Nat.reduceSub,Int.cast_ofNat_Int,decide_true,decide_false,reduceCtorEq,BEq.rfl,beq_self_eq_true,bne_self_eq_false,ite_true,ite_false,if_true,if_false,reduceIte]; refine fin_run trivial (hK _ ?_)<;>clear hK<;>clear K; repeat (first|refine qa ?_|refine qb ?_|refine qc ?_|refine qd ?_|refine qe ?_|refine qf ?_|refine qg rfl ?_|refine qh ?_|refine qi ?_|refine qj ?_|refine qk ?_|refine ql ?_|refine qm ?_)
    simp only [Try.results77,Post,endA,rvsA,rvA,mkTup,peekA,peekG,peekS,peekList,PV.norm,PV.norm1,PV.norm0,PV.list.injEq,PV.tup.injEq,PV.agg.injEq,PV.int.injEq,PV.bool.injEq,List.cons.injEq,ev0,aops,xstep,guardA,opA,tab,binA,binInt,arith,unA,pickA,convA,allocA,boxA,loadA,storeA,fieldAddrA,fieldA,indexAddrA,lenA,lenS,sliceA,boundA,makeSliceA,elemsA,appendA,buildA,fillA,buildSliceA,partsA,extractA,builtinA,minmaxA,AV.cells,AV.isAgg,allP,mkAgg,hget,hset,isRow,cellOk,setC,after,dstOk,St.put,St.get,lk,St.ev,cv,PV.one,Int.reduceToNat,entry,ent,Nat.reduceAdd,Nat.reduceLT,Nat.reduceBEq,Nat.reduceEqDiff,Nat.reduceLeDiff,Nat.reduceMul,Nat.reduceSub,Int.cast_ofNat_Int,decide_true,decide_false,reduceCtorEq,BEq.rfl,beq_self_eq_true,bne_self_eq_false,ite_true,ite_false,if_true,if_false,reduceIte]
    rfl
   ·cases hc
  ·(refine hk_region fun K hK=>runs_eval tab_ok ?_); simp only [ev0,aops,xstep,guardA,opA,tab,binA,binInt,arith,unA,pickA,convA,allocA,boxA,loadA,storeA,fieldAddrA,fieldA,indexAddrA,lenA,lenS,sliceA,boundA,makeSliceA,elemsA,appendA,buildA,fillA,buildSliceA,partsA,extractA,builtinA,minmaxA,AV.cells,AV.isAgg,allP,mkAgg,hget,hset,isRow,cellOk,setC,after,dstOk,St.put,St.get,lk,St.ev,cv,PV.one,Int.reduceToNat,entry,ent,Nat.reduceAdd,Nat.reduceLT,Nat.reduceBEq,Nat.reduceEqDiff,Nat.reduceLeDiff,Nat.reduceMul,Nat.reduceSub,Int.cast_ofNat_Int,decide_true,decide_false,reduceCtorEq,BEq.rfl,beq_self_eq_true,bne_self_eq_false,ite_true,ite_false,if_true,if_false,reduceIte]; refine fin_run trivial (hK _ ?_)<;>clear hK<;>clear K; repeat (first|refine qa ?_|refine qb ?_|refine qc ?_|refine qd ?_|refine qe ?_|refine qf ?_|refine qg rfl ?_|refine qh ?_|refine qi ?_|refine qj ?_|refine qk ?_|refine ql ?_|refine qm ?_)
   refine hk_cond rfl (fun hc=>?_) (fun hc=>?_)
   ·cases hc
   ·repeat (first|refine qa ?_|refine qb ?_|refine qc ?_|refine qd ?_|refine qe ?_|refine qf ?_|refine qg rfl ?_|refine qh ?_|refine qi ?_|refine qj ?_|refine qk ?_|refine ql ?_|refine qm ?_)
    refine hk_region fun K hK=>runs_eval tab_ok ?_
    simp only [ev0,aops,xstep,guardA,opA,tab,binA,binInt,arith,unA,pickA,convA,allocA,boxA,loadA,storeA,fieldAddrA,fieldA,indexAddrA,lenA,lenS,sliceA,boundA,makeSliceA,elemsA,appendA,buildA,fillA,buildSliceA,partsA,extractA,builtinA,minmaxA,AV.cells,AV.isAgg,allP,mkAgg,hget,hset,isRow,cellOk,setC,after,dstOk,St.put,St.get,lk,St.ev,cv,PV.one,Int.reduceToNat,entry,ent,Nat.reduceAdd,Nat.reduceLT,Nat.reduceBEq,Nat.reduceEqDiff,Nat.reduceLeDiff,Nat.reduceMul,Nat.reduceSub,Int.cast_ofNat_Int,decide_true,decide_false,reduceCtorEq,BEq.rfl,beq_self_eq_true,bne_self_eq_false,ite_true,ite_false,if_true,if_false,reduceIte]
    refine fin_stop trivial ?_
    refine runs_op (appendNz_does tab_ok rfl rfl rfl rfl rfl rfl rfl) rfl (by simp only [dstOk,Nat.reduceLT]) (runs_eval tab_ok ?_)
    simp only [ev0,aops,xstep,guardA,opA,tab,binA,binInt,arith,unA,pickA,convA,allocA,boxA,loadA,storeA,fieldAddrA,fieldA,indexAddrA,lenA,lenS,sliceA,boundA,makeSliceA,elemsA,appendA,buildA,fillA,buildSliceA,partsA,extractA,builtinA,minmaxA,AV.cells,AV.isAgg,allP,mkAgg,hget,hset,isRow,cellOk,setC,after,dstOk,St.put,St.get,lk,St.ev,cv,PV.one,Int.reduceToNat,entry,ent,Nat.reduceAdd,Nat.reduceLT,Nat.reduceBEq,Nat.reduceEqDiff,Nat.reduceLeDiff,Nat.reduceMul,Nat.reduceSub,Int.cast_ofNat_Int,decide_true,decide_false,reduceCtorEq,BEq.rfl,beq_self_eq_true,bne_self_eq_false,ite_true,ite_false,if_true,if_false,reduceIte]
    refine fin_run trivial (hK _ ?_)<;>clear hK<;>clear K
    repeat (first|refine qa ?_|refine qb ?_|refine qc ?_|refine qd ?_|refine qe ?_|refine qf ?_|refine qg rfl ?_|refine qh ?_|refine qi ?_|refine qj ?_|refine qk ?_|refine ql ?_|refine qm ?_)
    simp only [Try.results77,Post,endA,rvsA,rvA,mkTup,peekA,peekG,peekS,peekList,PV.norm,PV.norm1,PV.norm0,PV.list.injEq,PV.tup.injEq,PV.agg.injEq,PV.int.injEq,PV.bool.injEq,List.cons.injEq,ev0,aops,xstep,guardA,opA,tab,binA,binInt,arith,unA,pickA,convA,allocA,boxA,loadA,storeA,fieldAddrA,fieldA,indexAddrA,lenA,lenS,sliceA,boundA,makeSliceA,elemsA,appendA,buildA,fillA,buildSliceA,partsA,extractA,builtinA,minmaxA,AV.cells,AV.isAgg,allP,mkAgg,hget,hset,isRow,cellOk,setC,after,dstOk,St.put,St.get,lk,St.ev,cv,PV.one,Int.reduceToNat,entry,ent,Nat.reduceAdd,Nat.reduceLT,Nat.reduceBEq,Nat.reduceEqDiff,Nat.reduceLeDiff,Nat.reduceMul,Nat.reduceSub,Int.cast_ofNat_Int,decide_true,decide_false,reduceCtorEq,BEq.rfl,beq_self_eq_true,bne_self_eq_false,ite_true,ite_false,if_true,if_false,reduceIte]
    rfl
 ·have hne:il w ≠ []:=by intro h; exact hw (by simpa [il] using h)
  refine fnc_of tab_ok Try.func77 rfl (by kernel_rfl) (by rw [Try.ntmps77]; exact Nat.le_add_left 1 _) ?_; rw [Try.ntmps77]; repeat (first|refine qa ?_|refine qb ?_|refine qc ?_|refine qd ?_|refine qe ?_|refine qf ?_|refine qg rfl ?_|refine qh ?_|refine qi ?_|refine qj ?_|refine qk ?_|refine ql ?_|refine qm ?_)
  (refine hk_region fun K hK=>runs_eval tab_ok ?_); simp only [ev0,aops,xstep,guardA,opA,tab,binA,binInt,arith,unA,pickA,convA,allocA,boxA,loadA,storeA,fieldAddrA,fieldA,indexAddrA,lenA,lenS,sliceA,boundA,makeSliceA,elemsA,appendA,buildA,fillA,buildSliceA,partsA,extractA,builtinA,minmaxA,AV.cells,AV.isAgg,allP,mkAgg,hget,hset,isRow,cellOk,setC,after,dstOk,St.put,St.get,lk,St.ev,cv,PV.one,Int.reduceToNat,entry,ent,Nat.reduceAdd,Nat.reduceLT,Nat.reduceBEq,Nat.reduceEqDiff,Nat.reduceLeDiff,Nat.reduceMul,Nat.reduceSub,Int.cast_ofNat_Int,decide_true,decide_false,reduceCtorEq,BEq.rfl,beq_self_eq_true,bne_self_eq_false,ite_true,ite_false,if_true,if_false,reduceIte]; refine fin_run trivial (hK _ ?_)<;>clear hK<;>clear K; repeat (first|refine qa ?_|refine qb ?_|refine qc ?_|refine qd ?_|refine qe ?_|refine qf ?_|refine qg rfl ?_|refine qh ?_|refine qi ?_|refine qj ?_|refine qk ?_|refine ql ?_|refine qm ?_)
  refine hk_region fun K hK=>runs_eval tab_ok ?_
  simp only [ev0,aops,xstep,guardA,opA,tab,binA,binInt,arith,unA,pickA,convA,allocA,boxA,loadA,storeA,fieldAddrA,fieldA,indexAddrA,lenA,lenS,sliceA,boundA,makeSliceA,elemsA,appendA,buildA,fillA,buildSliceA,partsA,extractA,builtinA,minmaxA,AV.cells,AV.isAgg,allP,mkAgg,hget,hset,isRow,cellOk,setC,after,dstOk,St.put,St.get,lk,St.ev,cv,PV.one,Int.reduceToNat,entry,ent,Nat.reduceAdd,Nat.reduceLT,Nat.reduceBEq,Nat.reduceEqDiff,Nat.reduceLeDiff,Nat.reduceMul,Nat.reduceSub,Int.cast_ofNat_Int,decide_true,decide_false,reduceCtorEq,BEq.rfl,beq_self_eq_true,bne_self_eq_false,ite_true,ite_false,if_true,if_false,reduceIte]
  refine fin_run ?_ (hK _ ?_)<;>clear hK<;>clear K
  ·exact hne
  repeat (first|refine qa ?_|refine qb ?_|refine qc ?_|refine qd ?_|refine qe ?_|refine qf ?_|refine qg rfl ?_|refine qh ?_|refine qi ?_|refine qj ?_|refine qk ?_|refine ql ?_|refine qm ?_)
  refine hk_cond rfl (fun hc=>?_) (fun hc=>?_)
  ·cases hc
  ·repeat (first|refine qa ?_|refine qb ?_|refine qc ?_|refine qd ?_|refine qe ?_|refine qf ?_|refine qg rfl ?_|refine qh ?_|refine qi ?_|refine qj ?_|refine qk ?_|refine ql ?_|refine qm ?_)
   refine hk_region fun K hK=>runs_eval tab_ok ?_
   simp only [ev0,aops,xstep,guardA,opA,tab,binA,binInt,arith,unA,pickA,convA,allocA,boxA,loadA,storeA,fieldAddrA,fieldA,indexAddrA,lenA,lenS,sliceA,boundA,makeSliceA,elemsA,appendA,buildA,fillA,buildSliceA,partsA,extractA,builtinA,minmaxA,AV.cells,AV.isAgg,allP,mkAgg,hget,hset,isRow,cellOk,setC,after,dstOk,St.put,St.get,lk,St.ev,cv,PV.one,Int.reduceToNat,entry,ent,Nat.reduceAdd,Nat.reduceLT,Nat.reduceBEq,Nat.reduceEqDiff,Nat.reduceLeDiff,Nat.reduceMul,Nat.reduceSub,Int.cast_ofNat_Int,decide_true,decide_false,reduceCtorEq,BEq.rfl,beq_self_eq_true,bne_self_eq_false,ite_true,ite_false,if_true,if_false,reduceIte]
   refine fin_run ?_ (hK _ ?_)<;>clear hK<;>clear K
   ·have:0 < w.length:=List.length_pos_iff.2 hw
    (first|exact trivial|omega|(simp only [In64] at *; omega)|(rw [Bool.eq_iff_iff]; simp; done)|(rw [Bool.eq_iff_iff]; simp; omega)|(simp [In64] at *; omega)|(simp_all; done)|(simp_all [In64]<;>omega)|skip)
   repeat (first|refine qa ?_|refine qb ?_|refine qc ?_|refine qd ?_|refine qe ?_|refine qf ?_|refine qg rfl ?_|refine qh ?_|refine qi ?_|refine qj ?_|refine qk ?_|refine ql ?_|refine qm ?_)
   simp only [Try.results77,Post,endA,rvsA,rvA,mkTup,peekA,peekG,peekS,peekList,PV.norm,PV.norm1,PV.norm0,PV.list.injEq,PV.tup.injEq,PV.agg.injEq,PV.int.injEq,PV.bool.injEq,List.cons.injEq,ev0,aops,xstep,guardA,opA,tab,binA,binInt,arith,unA,pickA,convA,allocA,boxA,loadA,storeA,fieldAddrA,fieldA,indexAddrA,lenA,lenS,sliceA,boundA,makeSliceA,elemsA,appendA,buildA,fillA,buildSliceA,partsA,extractA,builtinA,minmaxA,AV.cells,AV.isAgg,allP,mkAgg,hget,hset,isRow,cellOk,setC,after,dstOk,St.put,St.get,lk,St.ev,cv,PV.one,Int.reduceToNat,entry,ent,Nat.reduceAdd,Nat.reduceLT,Nat.reduceBEq,Nat.reduceEqDiff,Nat.reduceLeDiff,Nat.reduceMul,Nat.reduceSub,Int.cast_ofNat_Int,decide_true,decide_false,reduceCtorEq,BEq.rfl,beq_self_eq_true,bne_self_eq_false,ite_true,ite_false,if_true,if_false,reduceIte]
   exact Nat.le_refl _

theorem grow_c (n:Nat) (hn:n≤1000000000):FnG Try.prog 84 [.nil,.int .i64 n] (.sl 0 0 0) [.own []]:=by
 refine fng_of tab_ok Try.func84 rfl (by kernel_rfl) (by rw [Try.ntmps84]; exact Nat.le_add_left 2 _) ?_; rw [Try.ntmps84]; repeat (first|refine qa ?_|refine qb ?_|refine qc ?_|refine qd ?_|refine qe ?_|refine qf ?_|refine qg rfl ?_|refine qh ?_|refine qi ?_|refine qj ?_|refine qk ?_|refine ql ?_|refine qm ?_)
 (refine hk_region fun K hK=>runs_eval tab_ok ?_); simp only [ev0,aops,xstep,guardA,opA,tab,binA,binInt,arith,unA,pickA,convA,allocA,boxA,loadA,storeA,fieldAddrA,fieldA,indexAddrA,lenA,lenS,sliceA,boundA,makeSliceA,elemsA,appendA,buildA,fillA,buildSliceA,partsA,extractA,builtinA,minmaxA,AV.cells,AV.isAgg,allP,mkAgg,hget,hset,isRow,cellOk,setC,after,dstOk,St.put,St.get,lk,St.ev,cv,PV.one,Int.reduceToNat,entry,ent,Nat.reduceAdd,Nat.reduceLT,Nat.reduceBEq,Nat.reduceEqDiff,Nat.reduceLeDiff,Nat.reduceMul,Nat.reduceSub,Int.cast_ofNat_Int,decide_true,decide_false,reduceCtorEq,BEq.rfl,beq_self_eq_true,bne_self_eq_false,ite_true,ite_false,if_true,if_false,reduceIte]; refine fin_run trivial (hK _ ?_)<;>clear hK<;>clear K; repeat (first|refine qa ?_|refine qb ?_|refine qc ?_|refine qd ?_|refine qe ?_|refine qf ?_|refine qg rfl ?_|refine qh ?_|refine qi ?_|refine qj ?_|refine qk ?_|refine ql ?_|refine qm ?_)
 (refine hk_region fun K hK=>runs_eval tab_ok ?_); simp only [ev0,aops,xstep,guardA,opA,tab,binA,binInt,arith,unA,pickA,convA,allocA,boxA,loadA,storeA,fieldAddrA,fieldA,indexAddrA,lenA,lenS,sliceA,boundA,makeSliceA,elemsA,appendA,buildA,fillA,buildSliceA,partsA,extractA,builtinA,minmaxA,AV.cells,AV.isAgg,allP,mkAgg,hget,hset,isRow,cellOk,setC,after,dstOk,St.put,St.get,lk,St.ev,cv,PV.one,Int.reduceToNat,entry,ent,Nat.reduceAdd,Nat.reduceLT,Nat.reduceBEq,Nat.reduceEqDiff,Nat.reduceLeDiff,Nat.reduceMul,Nat.reduceSub,Int.cast_ofNat_Int,decide_true,decide_false,reduceCtorEq,BEq.rfl,beq_self_eq_true,bne_self_eq_false,ite_true,ite_false,if_true,if_false,reduceIte]; refine fin_run trivial (hK _ ?_)<;>clear hK<;>clear K; repeat (first|refine qa ?_|refine qb ?_|refine qc ?_|refine qd ?_|refine qe ?_|refine qf ?_|refine qg rfl ?_|refine qh ?_|refine qi ?_|refine qj ?_|refine qk ?_|refine ql ?_|refine qm ?_)
 refine hk_cond rfl (fun hc=>?_) (fun hc=>?_)
 ·have:=of_decide_eq_true hc; omega
 ·repeat (first|refine qa ?_|refine qb ?_|refine qc ?_|refine qd ?_|refine qe ?_|refine qf ?_|refine qg rfl ?_|refine qh ?_|refine qi ?_|refine qj ?_|refine qk ?_|refine ql ?_|refine qm ?_)
  refine hk_region fun K hK=>runs_eval tab_ok ?_
  simp only [ev0,aops,xstep,guardA,opA,tab,binA,binInt,arith,unA,pickA,convA,allocA,boxA,loadA,storeA,fieldAddrA,fieldA,indexAddrA,lenA,lenS,sliceA,boundA,makeSliceA,elemsA,appendA,buildA,fillA,buildSliceA,partsA,extractA,builtinA,minmaxA,AV.cells,AV.isAgg,allP,mkAgg,hget,hset,isRow,cellOk,setC,after,dstOk,St.put,St.get,lk,St.ev,cv,PV.one,Int.reduceToNat,entry,ent,Nat.reduceAdd,Nat.reduceLT,Nat.reduceBEq,Nat.reduceEqDiff,Nat.reduceLeDiff,Nat.reduceMul,Nat.reduceSub,Int.cast_ofNat_Int,decide_true,decide_false,reduceCtorEq,BEq.rfl,beq_self_eq_true,bne_self_eq_false,ite_true,ite_false,if_true,if_false,reduceIte]
  refine fin_stop trivial ?_
  refine runs_op (capNil_does tab_ok rfl rfl rfl rfl) rfl (by simp only [dstOk,Nat.reduceLT]) (runs_eval tab_ok ?_)
  simp only [ev0,aops,xstep,guardA,opA,tab,binA,binInt,arith,unA,pickA,convA,allocA,boxA,loadA,storeA,fieldAddrA,fieldA,indexAddrA,lenA,lenS,sliceA,boundA,makeSliceA,elemsA,appendA,buildA,fillA,buildSliceA,partsA,extractA,builtinA,minmaxA,AV.cells,AV.isAgg,allP,mkAgg,hget,hset,isRow,cellOk,setC,after,dstOk,St.put,St.get,lk,St.ev,cv,PV.one,Int.reduceToNat,entry,ent,Nat.reduceAdd,Nat.reduceLT,Nat.reduceBEq,Nat.reduceEqDiff,Nat.reduceLeDiff,Nat.reduceMul,Nat.reduceSub,Int.cast_ofNat_Int,decide_true,decide_false,reduceCtorEq,BEq.rfl,beq_self_eq_true,bne_self_eq_false,ite_true,ite_false,if_true,if_false,reduceIte]
  refine fin_run ?_ (hK _ ?_)<;>clear hK<;>clear K
  ·(first|exact trivial|omega|(simp only [In64] at *; omega)|(rw [Bool.eq_iff_iff]; simp; done)|(rw [Bool.eq_iff_iff]; simp; omega)|(simp [In64] at *; omega)|(simp_all; done)|(simp_all [In64]<;>omega)|skip)
  repeat (first|refine qa ?_|refine qb ?_|refine qc ?_|refine qd ?_|refine qe ?_|refine qf ?_|refine qg rfl ?_|refine qh ?_|refine qi ?_|refine qj ?_|refine qk ?_|refine ql ?_|refine qm ?_)
  (refine hk_region fun K hK=>runs_eval tab_ok ?_); simp only [ev0,aops,xstep,guardA,opA,tab,binA,binInt,arith,unA,pickA,convA,allocA,boxA,loadA,storeA,fieldAddrA,fieldA,indexAddrA,lenA,lenS,sliceA,boundA,makeSliceA,elemsA,appendA,buildA,fillA,buildSliceA,partsA,extractA,builtinA,minmaxA,AV.cells,AV.isAgg,allP,mkAgg,hget,hset,isRow,cellOk,setC,after,dstOk,St.put,St.get,lk,St.ev,cv,PV.one,Int.reduceToNat,entry,ent,Nat.reduceAdd,Nat.reduceLT,Nat.reduceBEq,Nat.reduceEqDiff,Nat.reduceLeDiff,Nat.reduceMul,Nat.reduceSub,Int.cast_ofNat_Int,decide_true,decide_false,reduceCtorEq,BEq.rfl,beq_self_eq_true,bne_self_eq_false,ite_true,ite_false,if_true,if_false,reduceIte]; refine fin_run trivial (hK _ ?_)<;>clear hK<;>clear K; repeat (first|refine qa ?_|refine qb ?_|refine qc ?_|refine qd ?_|refine qe ?_|refine qf ?_|refine qg rfl ?_|refine qh ?_|refine qi ?_|refine qj ?_|refine qk ?_|refine ql ?_|refine qm ?_)
  refine hk_cond rfl (fun hc=>?_) (fun hc=>?_)
  ·have hc:0 < n:=by have:=of_decide_eq_true hc; omega
   repeat (first|refine qa ?_|refine qb ?_|refine qc ?_|refine qd ?_|refine qe ?_|refine qf ?_|refine qg rfl ?_|refine qh ?_|refine qi ?_|refine qj ?_|refine qk ?_|refine ql ?_|refine qm ?_)
   refine hk_region fun K hK=>runs_eval tab_ok ?_
   simp only [ev0,aops,xstep,guardA,opA,tab,binA,binInt,arith,unA,pickA,convA,allocA,boxA,loadA,storeA,fieldAddrA,fieldA,indexAddrA,lenA,lenS,sliceA,boundA,makeSliceA,elemsA,appendA,buildA,fillA,buildSliceA,partsA,extractA,builtinA,minmaxA,AV.cells,AV.isAgg,allP,mkAgg,hget,hset,isRow,cellOk,setC,after,dstOk,St.put,St.get,lk,St.ev,cv,PV.one,Int.reduceToNat,entry,ent,Nat.reduceAdd,Nat.reduceLT,Nat.reduceBEq,Nat.reduceEqDiff,Nat.reduceLeDiff,Nat.reduceMul,Nat.reduceSub,Int.cast_ofNat_Int,decide_true,decide_false,reduceCtorEq,BEq.rfl,beq_self_eq_true,bne_self_eq_false,ite_true,ite_false,if_true,if_false,reduceIte]
   refine fin_stop trivial ?_
   refine runs_op (capNil_does tab_ok rfl rfl rfl rfl) rfl (by simp only [dstOk,Nat.reduceLT]) (runs_eval tab_ok ?_)
   simp only [ev0,aops,xstep,guardA,opA,tab,binA,binInt,arith,unA,pickA,convA,allocA,boxA,loadA,storeA,fieldAddrA,fieldA,indexAddrA,lenA,lenS,sliceA,boundA,makeSliceA,elemsA,appendA,buildA,fillA,buildSliceA,partsA,extractA,builtinA,minmaxA,AV.cells,AV.isAgg,allP,mkAgg,hget,hset,isRow,cellOk,setC,after,dstOk,St.put,St.get,lk,St.ev,cv,PV.one,Int.reduceToNat,entry,ent,Nat.reduceAdd,Nat.reduceLT,Nat.reduceBEq,Nat.reduceEqDiff,Nat.reduceLeDiff,Nat.reduceMul,Nat.reduceSub,Int.cast_ofNat_Int,decide_true,decide_false,reduceCtorEq,BEq.rfl,beq_self_eq_true,bne_self_eq_false,ite_true,ite_false,if_true,if_false,reduceIte]
   refine fin_stop trivial ?_
   refine runs_op (sliceNil_does tab_ok rfl rfl rfl rfl rfl rfl) rfl (by simp only [dstOk,Nat.reduceLT]) (runs_eval tab_ok ?_)
   simp only [ev0,aops,xstep,guardA,opA,tab,binA,binInt,arith,unA,pickA,convA,allocA,boxA,loadA,storeA,fieldAddrA,fieldA,indexAddrA,lenA,lenS,sliceA,boundA,makeSliceA,elemsA,appendA,buildA,fillA,buildSliceA,partsA,extractA,builtinA,minmaxA,AV.cells,AV.isAgg,allP,mkAgg,hget,hset,isRow,cellOk,setC,after,dstOk,St.put,St.get,lk,St.ev,cv,PV.one,Int.reduceToNat,entry,ent,Nat.reduceAdd,Nat.reduceLT,Nat.reduceBEq,Nat.reduceEqDiff,Nat.reduceLeDiff,Nat.reduceMul,Nat.reduceSub,Int.cast_ofNat_Int,decide_true,decide_false,reduceCtorEq,BEq.rfl,beq_self_eq_true,bne_self_eq_false,ite_true,ite_false,if_true,if_false,reduceIte]
   refine fin_stop trivial ?_
   refine runs_op (appendZeros_does tab_ok rfl rfl rfl rfl rfl rfl rfl rfl rfl rfl hc (show n * 8≤140737488355328 by omega) (by omega)) rfl (by simp only [dstOk,Nat.reduceLT]) (runs_eval tab_ok ?_)
   simp only [ev0,aops,xstep,guardA,opA,tab,binA,binInt,arith,unA,pickA,convA,allocA,boxA,loadA,storeA,fieldAddrA,fieldA,indexAddrA,lenA,lenS,sliceA,boundA,makeSliceA,elemsA,appendA,buildA,fillA,buildSliceA,partsA,extractA,builtinA,minmaxA,AV.cells,AV.isAgg,allP,mkAgg,hget,hset,isRow,cellOk,setC,after,dstOk,St.put,St.get,lk,St.ev,cv,PV.one,Int.reduceToNat,entry,ent,Nat.reduceAdd,Nat.reduceLT,Nat.reduceBEq,Nat.reduceEqDiff,Nat.reduceLeDiff,Nat.reduceMul,Nat.reduceSub,Int.cast_ofNat_Int,decide_true,decide_false,reduceCtorEq,BEq.rfl,beq_self_eq_true,bne_self_eq_false,ite_true,ite_false,if_true,if_false,reduceIte]
   refine fin_run ?_ (hK _ ?_)<;>clear hK<;>clear K
   ·(first|exact trivial|omega|(simp only [In64] at *; omega)|(rw [Bool.eq_iff_iff]; simp; done)|(rw [Bool.eq_iff_iff]; simp; omega)|(simp [In64] at *; omega)|(simp_all; done)|(simp_all [In64]<;>omega)|skip)
   repeat (first|refine qa ?_|refine qb ?_|refine qc ?_|refine qd ?_|refine qe ?_|refine qf ?_|refine qg rfl ?_|refine qh ?_|refine qi ?_|refine qj ?_|refine qk ?_|refine ql ?_|refine qm ?_)
   (refine hk_region fun K hK=>runs_eval tab_ok ?_); simp only [ev0,aops,xstep,guardA,opA,tab,binA,binInt,arith,unA,pickA,convA,allocA,boxA,loadA,storeA,fieldAddrA,fieldA,indexAddrA,lenA,lenS,sliceA,boundA,makeSliceA,elemsA,appendA,buildA,fillA,buildSliceA,partsA,extractA,builtinA,minmaxA,AV.cells,AV.isAgg,allP,mkAgg,hget,hset,isRow,cellOk,setC,after,dstOk,St.put,St.get,lk,St.ev,cv,PV.one,Int.reduceToNat,entry,ent,Nat.reduceAdd,Nat.reduceLT,Nat.reduceBEq,Nat.reduceEqDiff,Nat.reduceLeDiff,Nat.reduceMul,Nat.reduceSub,Int.cast_ofNat_Int,decide_true,decide_false,reduceCtorEq,BEq.rfl,beq_self_eq_true,bne_self_eq_false,ite_true,ite_false,if_true,if_false,reduceIte]; refine fin_run trivial (hK _ ?_)<;>clear hK<;>clear K; repeat (first|refine qa ?_|refine qb ?_|refine qc ?_|refine qd ?_|refine qe ?_|refine qf ?_|refine qg rfl ?_|refine qh ?_|refine qi ?_|refine qj ?_|refine qk ?_|refine ql ?_|refine qm ?_)
   simp only [Try.results84,PostG,endG,rvsA,rvA,mkTup,ev0,aops,xstep,guardA,opA,tab,binA,binInt,arith,unA,pickA,convA,allocA,boxA,loadA,storeA,fieldAddrA,fieldA,indexAddrA,lenA,lenS,sliceA,boundA,makeSliceA,elemsA,appendA,buildA,fillA,buildSliceA,partsA,extractA,builtinA,minmaxA,AV.cells,AV.isAgg,allP,mkAgg,hget,hset,isRow,cellOk,setC,after,dstOk,St.put,St.get,lk,St.ev,cv,PV.one,Int.reduceToNat,entry,ent,Nat.reduceAdd,Nat.reduceLT,Nat.reduceBEq,Nat.reduceEqDiff,Nat.reduceLeDiff,Nat.reduceMul,Nat.reduceSub,Int.cast_ofNat_Int,decide_true,decide_false,reduceCtorEq,BEq.rfl,beq_self_eq_true,bne_self_eq_false,ite_true,ite_false,if_true,if_false,reduceIte]
   exact ⟨[0],rfl,rfl,by simp only [AV.p.injEq,AV.sl.injEq,AV.ptr.injEq,Blk.own.injEq,PV.int.injEq,PV.bool.injEq,PV.list.injEq,Nat.sub_zero,Int.natCast_add,List.length_append,take_take_len,take_app1,take_app2,Le,LeH,LeS,LeB,ren,ren1,scA,sc1,List.nodup_cons,List.nodup_nil,List.mem_cons,List.not_mem_nil,or_false,not_false_eq_true,ev0,aops,xstep,guardA,opA,tab,binA,binInt,arith,unA,pickA,convA,allocA,boxA,loadA,storeA,fieldAddrA,fieldA,indexAddrA,lenA,lenS,sliceA,boundA,makeSliceA,elemsA,appendA,buildA,fillA,buildSliceA,partsA,extractA,builtinA,minmaxA,AV.cells,AV.isAgg,allP,mkAgg,hget,hset,isRow,cellOk,setC,after,dstOk,St.put,St.get,lk,St.ev,cv,PV.one,Int.reduceToNat,entry,ent,Nat.reduceAdd,Nat.reduceLT,Nat.reduceBEq,Nat.reduceEqDiff,Nat.reduceLeDiff,Nat.reduceMul,Nat.reduceSub,Int.cast_ofNat_Int,decide_true,decide_false,reduceCtorEq,BEq.rfl,beq_self_eq_true,bne_self_eq_false,ite_true,ite_false,if_true,if_false,reduceIte]<;>trivial⟩
  ·have hc:n=0:=by have:=of_decide_eq_false hc; omega
   repeat (first|refine qa ?_|refine qb ?_|refine qc ?_|refine qd ?_|refine qe ?_|refine qf ?_|refine qg rfl ?_|refine qh ?_|refine qi ?_|refine qj ?_|refine qk ?_|refine ql ?_|refine qm ?_)
   refine hk_own0 0 rfl ?_
   (refine hk_region fun K hK=>runs_eval tab_ok ?_); simp only [ev0,aops,xstep,guardA,opA,tab,binA,binInt,arith,unA,pickA,convA,allocA,boxA,loadA,storeA,fieldAddrA,fieldA,indexAddrA,lenA,lenS,sliceA,boundA,makeSliceA,elemsA,appendA,buildA,fillA,buildSliceA,partsA,extractA,builtinA,minmaxA,AV.cells,AV.isAgg,allP,mkAgg,hget,hset,isRow,cellOk,setC,after,dstOk,St.put,St.get,lk,St.ev,cv,PV.one,Int.reduceToNat,entry,ent,Nat.reduceAdd,Nat.reduceLT,Nat.reduceBEq,Nat.reduceEqDiff,Nat.reduceLeDiff,Nat.reduceMul,Nat.reduceSub,Int.cast_ofNat_Int,decide_true,decide_false,reduceCtorEq,BEq.rfl,beq_self_eq_true,bne_self_eq_false,ite_true,ite_false,if_true,if_false,reduceIte]; refine fin_run trivial (hK _ ?_)<;>clear hK<;>clear K; repeat (first|refine qa ?_|refine qb ?_|refine qc ?_|refine qd ?_|refine qe ?_|refine qf ?_|refine qg rfl ?_|refine qh ?_|refine qi ?_|refine qj ?_|refine qk ?_|refine ql ?_|refine qm ?_)
   simp only [Try.results84,PostG,endG,rvsA,rvA,mkTup,ev0,aops,xstep,guardA,opA,tab,binA,binInt,arith,unA,pickA,convA,allocA,boxA,loadA,storeA,fieldAddrA,fieldA,indexAddrA,lenA,lenS,sliceA,boundA,makeSliceA,elemsA,appendA,buildA,fillA,buildSliceA,partsA,extractA,builtinA,minmaxA,AV.cells,AV.isAgg,allP,mkAgg,hget,hset,isRow,cellOk,setC,after,dstOk,St.put,St.get,lk,St.ev,cv,PV.one,Int.reduceToNat,entry,ent,Nat.reduceAdd,Nat.reduceLT,Nat.reduceBEq,Nat.reduceEqDiff,Nat.reduceLeDiff,Nat.reduceMul,Nat.reduceSub,Int.cast_ofNat_Int,decide_true,decide_false,reduceCtorEq,BEq.rfl,beq_self_eq_true,bne_self_eq_false,ite_true,ite_false,if_true,if_false,reduceIte]
   exact ⟨[0],rfl,rfl,by simp only [AV.p.injEq,AV.sl.injEq,AV.ptr.injEq,Blk.own.injEq,PV.int.injEq,PV.bool.injEq,PV.list.injEq,Nat.sub_zero,Int.natCast_add,List.length_append,take_take_len,take_app1,take_app2,Le,LeH,LeS,LeB,ren,ren1,scA,sc1,List.nodup_cons,List.nodup_nil,List.mem_cons,List.not_mem_nil,or_false,not_false_eq_true,ev0,aops,xstep,guardA,opA,tab,binA,binInt,arith,unA,pickA,convA,allocA,boxA,loadA,storeA,fieldAddrA,fieldA,indexAddrA,lenA,lenS,sliceA,boundA,makeSliceA,elemsA,appendA,buildA,fillA,buildSliceA,partsA,extractA,builtinA,minmaxA,AV.cells,AV.isAgg,allP,mkAgg,hget,hset,isRow,cellOk,setC,after,dstOk,St.put,St.get,lk,St.ev,cv,PV.one,Int.reduceToNat,entry,ent,Nat.reduceAdd,Nat.reduceLT,Nat.reduceBEq,Nat.reduceEqDiff,Nat.reduceLeDiff,Nat.reduceMul,Nat.reduceSub,Int.cast_ofNat_Int,decide_true,decide_false,reduceCtorEq,BEq.rfl,beq_self_eq_true,bne_self_eq_false,ite_true,ite_false,if_true,if_false,reduceIte]<;>trivial⟩

def tot (ls:List (List Int)):Nat:=ls.flatten.length

theorem tot_succ {ls:List (List Int)} {i:Nat} (h:i < ls.length):(ls.take (i + 1)).flatten=(ls.take i).flatten++ls.getD i []:=by
 rw [List.take_succ_eq_append_getElem h]
 simp only [List.flatten_append,List.flatten_cons,List.flatten_nil,List.append_nil,List.getD,List.getElem?_eq_getElem h,Option.getD_some]

theorem concat_c (ls:List (List Int)) (hl:ls.flatten.length≤1000000000) (hk:ls.length≤1000000000):FnC Try.prog 67 [.nn (ll ls)] (.list (il ls.flatten)):=by
 have hle:∀ i,(ls.take i).flatten.length≤ls.flatten.length:=by
  intro i
  have:=congrArg List.length (congrArg List.flatten (List.take_append_drop i ls))
  simp only [List.flatten_append,List.length_append] at this
  omega
 refine fnc_of tab_ok Try.func67 rfl (by kernel_rfl) (by rw [Try.ntmps67]; exact Nat.le_add_left 1 _) ?_; rw [Try.ntmps67]; repeat (first|refine qa ?_|refine qb ?_|refine qc ?_|refine qd ?_|refine qe ?_|refine qf ?_|refine qg rfl ?_|refine qh ?_|refine qi ?_|refine qj ?_|refine qk ?_|refine ql ?_|refine qm ?_)
 (refine hk_region fun K hK=>runs_eval tab_ok ?_); simp only [ev0,aops,xstep,guardA,opA,tab,binA,binInt,arith,unA,pickA,convA,allocA,boxA,loadA,storeA,fieldAddrA,fieldA,indexAddrA,lenA,lenS,sliceA,boundA,makeSliceA,elemsA,appendA,buildA,fillA,buildSliceA,partsA,extractA,builtinA,minmaxA,AV.cells,AV.isAgg,allP,mkAgg,hget,hset,isRow,cellOk,setC,after,dstOk,St.put,St.get,lk,St.ev,cv,PV.one,Int.reduceToNat,entry,ent,Nat.reduceAdd,Nat.reduceLT,Nat.reduceBEq,Nat.reduceEqDiff,Nat.reduceLeDiff,Nat.reduceMul,Nat.reduceSub,Int.cast_ofNat_Int,decide_true,decide_false,reduceCtorEq,BEq.rfl,beq_self_eq_true,bne_self_eq_false,ite_true,ite_false,if_true,if_false,reduceIte]; refine fin_run trivial (hK _ ?_)<;>clear hK<;>clear K; repeat (first|refine qa ?_|refine qb ?_|refine qc ?_|refine qd ?_|refine qe ?_|refine qf ?_|refine qg rfl ?_|refine qh ?_|refine qi ?_|refine qj ?_|refine qk ?_|refine ql ?_|refine qm ?_)
 (refine hk_region fun K hK=>runs_eval tab_ok ?_); simp only [ev0,aops,xstep,guardA,opA,tab,binA,binInt,arith,unA,pickA,convA,allocA,boxA,loadA,storeA,fieldAddrA,fieldA,indexAddrA,lenA,lenS,sliceA,boundA,makeSliceA,elemsA,appendA,buildA,fillA,buildSliceA,partsA,extractA,builtinA,minmaxA,AV.cells,AV.isAgg,allP,mkAgg,hget,hset,isRow,cellOk,setC,after,dstOk,St.put,St.get,lk,St.ev,cv,PV.one,Int.reduceToNat,entry,ent,Nat.reduceAdd,Nat.reduceLT,Nat.reduceBEq,Nat.reduceEqDiff,Nat.reduceLeDiff,Nat.reduceMul,Nat.reduceSub,Int.cast_ofNat_Int,decide_true,decide_false,reduceCtorEq,BEq.rfl,beq_self_eq_true,bne_self_eq_false,ite_true,ite_false,if_true,if_false,reduceIte]; refine fin_run trivial (hK _ ?_)<;>clear hK<;>clear K; repeat (first|refine qa ?_|refine qb ?_|refine qc ?_|refine qd ?_|refine qe ?_|refine qf ?_|refine qg rfl ?_|refine qh ?_|refine qi ?_|refine qj ?_|refine qk ?_|refine ql ?_|refine qm ?_)
 (refine hk_region fun K hK=>runs_eval tab_ok ?_); simp only [ev0,aops,xstep,guardA,opA,tab,binA,binInt,arith,unA,pickA,convA,allocA,boxA,loadA,storeA,fieldAddrA,fieldA,indexAddrA,lenA,lenS,sliceA,boundA,makeSliceA,elemsA,appendA,buildA,fillA,buildSliceA,partsA,extractA,builtinA,minmaxA,AV.cells,AV.isAgg,allP,mkAgg,hget,hset,isRow,cellOk,setC,after,dstOk,St.put,St.get,lk,St.ev,cv,PV.one,Int.reduceToNat,entry,ent,Nat.reduceAdd,Nat.reduceLT,Nat.reduceBEq,Nat.reduceEqDiff,Nat.reduceLeDiff,Nat.reduceMul,Nat.reduceSub,Int.cast_ofNat_Int,decide_true,decide_false,reduceCtorEq,BEq.rfl,beq_self_eq_true,bne_self_eq_false,ite_true,ite_false,if_true,if_false,reduceIte]; refine fin_run trivial (hK _ ?_)<;>clear hK<;>clear K; repeat (first|refine qa ?_|refine qb ?_|refine qc ?_|refine qd ?_|refine qe ?_|refine qf ?_|refine qg rfl ?_|refine qh ?_|refine qi ?_|refine qj ?_|refine qk ?_|refine ql ?_|refine qm ?_)
 refine hk_loop (ι:=Nat) (fun i=>⟨36,[(0,.p (.nn (ll ls))),(3,.p (.int .i64 (ls.take i).flatten.length)),(9,.p (.nn (ll ls))),(10,.p (.int .i64 ls.length)),(11,.p (.int .i64 i))],[]⟩) (fun i=>i≤ls.length) (fun i=>ls.length - i) 0 (Nat.zero_le _) [] (by simp only [AV.p.injEq,AV.sl.injEq,AV.ptr.injEq,Blk.own.injEq,PV.int.injEq,PV.bool.injEq,PV.list.injEq,Nat.sub_zero,Int.natCast_add,List.length_append,take_take_len,take_app1,take_app2,Le,LeH,LeS,LeB,ren,ren1,scA,sc1,List.nodup_cons,List.nodup_nil,List.mem_cons,List.not_mem_nil,or_false,not_false_eq_true,ev0,aops,xstep,guardA,opA,tab,binA,binInt,arith,unA,pickA,convA,allocA,boxA,loadA,storeA,fieldAddrA,fieldA,indexAddrA,lenA,lenS,sliceA,boundA,makeSliceA,elemsA,appendA,buildA,fillA,buildSliceA,partsA,extractA,builtinA,minmaxA,AV.cells,AV.isAgg,allP,mkAgg,hget,hset,isRow,cellOk,setC,after,dstOk,St.put,St.get,lk,St.ev,cv,PV.one,Int.reduceToNat,entry,ent,Nat.reduceAdd,Nat.reduceLT,Nat.reduceBEq,Nat.reduceEqDiff,Nat.reduceLeDiff,Nat.reduceMul,Nat.reduceSub,Int.cast_ofNat_Int,decide_true,decide_false,reduceCtorEq,BEq.rfl,beq_self_eq_true,bne_self_eq_false,ite_true,ite_false,if_true,if_false,reduceIte]<;>trivial) fun i hi=>?_
 repeat (first|refine qa ?_|refine qb ?_|refine qc ?_|refine qd ?_|refine qe ?_|refine qf ?_|refine qg rfl ?_|refine qh ?_|refine qi ?_|refine qj ?_|refine qk ?_|refine ql ?_|refine qm ?_)
 (refine hk_region fun K hK=>runs_eval tab_ok ?_); simp only [ev0,aops,xstep,guardA,opA,tab,binA,binInt,arith,unA,pickA,convA,allocA,boxA,loadA,storeA,fieldAddrA,fieldA,indexAddrA,lenA,lenS,sliceA,boundA,makeSliceA,elemsA,appendA,buildA,fillA,buildSliceA,partsA,extractA,builtinA,minmaxA,AV.cells,AV.isAgg,allP,mkAgg,hget,hset,isRow,cellOk,setC,after,dstOk,St.put,St.get,lk,St.ev,cv,PV.one,Int.reduceToNat,entry,ent,Nat.reduceAdd,Nat.reduceLT,Nat.reduceBEq,Nat.reduceEqDiff,Nat.reduceLeDiff,Nat.reduceMul,Nat.reduceSub,Int.cast_ofNat_Int,decide_true,decide_false,reduceCtorEq,BEq.rfl,beq_self_eq_true,bne_self_eq_false,ite_true,ite_false,if_true,if_false,reduceIte]; refine fin_run trivial (hK _ ?_)<;>clear hK<;>clear K; repeat (first|refine qa ?_|refine qb ?_|refine qc ?_|refine qd ?_|refine qe ?_|refine qf ?_|refine qg rfl ?_|refine qh ?_|refine qi ?_|refine qj ?_|refine qk ?_|refine ql ?_|refine qm ?_)
 refine hk_cond rfl (fun hlt=>?_) (fun hlt=>?_)
 ·have hlt:i < ls.length:=by have:=of_decide_eq_true hlt; omega
  have hs:=tot_succ hlt
  have h1:=hle i
  have h2:=hle (i + 1)
  repeat (first|refine qa ?_|refine qb ?_|refine qc ?_|refine qd ?_|refine qe ?_|refine qf ?_|refine qg rfl ?_|refine qh ?_|refine qi ?_|refine qj ?_|refine qk ?_|refine ql ?_|refine qm ?_)
  refine hk_region fun K hK=>runs_eval tab_ok ?_
  simp only [ev0,aops,xstep,guardA,opA,tab,binA,binInt,arith,unA,pickA,convA,allocA,boxA,loadA,storeA,fieldAddrA,fieldA,indexAddrA,lenA,lenS,sliceA,boundA,makeSliceA,elemsA,appendA,buildA,fillA,buildSliceA,partsA,extractA,builtinA,minmaxA,AV.cells,AV.isAgg,allP,mkAgg,hget,hset,isRow,cellOk,setC,after,dstOk,St.put,St.get,lk,St.ev,cv,PV.one,Int.reduceToNat,entry,ent,Nat.reduceAdd,Nat.reduceLT,Nat.reduceBEq,Nat.reduceEqDiff,Nat.reduceLeDiff,Nat.reduceMul,Nat.reduceSub,Int.cast_ofNat_Int,decide_true,decide_false,reduceCtorEq,BEq.rfl,beq_self_eq_true,bne_self_eq_false,ite_true,ite_false,if_true,if_false,reduceIte,ll_get hlt]
  refine fin_run ?_ (hK _ ?_)<;>clear hK<;>clear K
  ·omega
  repeat (first|refine qa ?_|refine qb ?_|refine qc ?_|refine qd ?_|refine qe ?_|refine qf ?_|refine qg rfl ?_|refine qh ?_|refine qi ?_|refine qj ?_|refine qk ?_|refine ql ?_|refine qm ?_)
  refine hk_region fun K hK=>runs_eval tab_ok ?_
  simp only [ev0,aops,xstep,guardA,opA,tab,binA,binInt,arith,unA,pickA,convA,allocA,boxA,loadA,storeA,fieldAddrA,fieldA,indexAddrA,lenA,lenS,sliceA,boundA,makeSliceA,elemsA,appendA,buildA,fillA,buildSliceA,partsA,extractA,builtinA,minmaxA,AV.cells,AV.isAgg,allP,mkAgg,hget,hset,isRow,cellOk,setC,after,dstOk,St.put,St.get,lk,St.ev,cv,PV.one,Int.reduceToNat,entry,ent,Nat.reduceAdd,Nat.reduceLT,Nat.reduceBEq,Nat.reduceEqDiff,Nat.reduceLeDiff,Nat.reduceMul,Nat.reduceSub,Int.cast_ofNat_Int,decide_true,decide_false,reduceCtorEq,BEq.rfl,beq_self_eq_true,bne_self_eq_false,ite_true,ite_false,if_true,if_false,reduceIte]
  refine fin_run ?_ (hK _ ?_)<;>clear hK<;>clear K
  ·rw [hs,List.length_append] at h2
   simp only [In64]; omega
  repeat (first|refine qa ?_|refine qb ?_|refine qc ?_|refine qd ?_|refine qe ?_|refine qf ?_|refine qg rfl ?_|refine qh ?_|refine qi ?_|refine qj ?_|refine qk ?_|refine ql ?_|refine qm ?_)
  (refine hk_region fun K hK=>runs_eval tab_ok ?_); simp only [ev0,aops,xstep,guardA,opA,tab,binA,binInt,arith,unA,pickA,convA,allocA,boxA,loadA,storeA,fieldAddrA,fieldA,indexAddrA,lenA,lenS,sliceA,boundA,makeSliceA,elemsA,appendA,buildA,fillA,buildSliceA,partsA,extractA,builtinA,minmaxA,AV.cells,AV.isAgg,allP,mkAgg,hget,hset,isRow,cellOk,setC,after,dstOk,St.put,St.get,lk,St.ev,cv,PV.one,Int.reduceToNat,entry,ent,Nat.reduceAdd,Nat.reduceLT,Nat.reduceBEq,Nat.reduceEqDiff,Nat.reduceLeDiff,Nat.reduceMul,Nat.reduceSub,Int.cast_ofNat_Int,decide_true,decide_false,reduceCtorEq,BEq.rfl,beq_self_eq_true,bne_self_eq_false,ite_true,ite_false,if_true,if_false,reduceIte]; refine fin_run trivial (hK _ ?_)<;>clear hK<;>clear K; repeat (first|refine qa ?_|refine qb ?_|refine qc ?_|refine qd ?_|refine qe ?_|refine qf ?_|refine qg rfl ?_|refine qh ?_|refine qi ?_|refine qj ?_|refine qk ?_|refine ql ?_|refine qm ?_)
  refine hk_cond rfl (fun hc=>?_) (fun hc=>?_)
  ·have:=of_decide_eq_true hc; omega
  ·repeat (first|refine qa ?_|refine qb ?_|refine qc ?_|refine qd ?_|refine qe ?_|refine qf ?_|refine qg rfl ?_|refine qh ?_|refine qi ?_|refine qj ?_|refine qk ?_|refine ql ?_|refine qm ?_)
   refine hk_region fun K hK=>runs_eval tab_ok ?_
   simp only [ev0,aops,xstep,guardA,opA,tab,binA,binInt,arith,unA,pickA,convA,allocA,boxA,loadA,storeA,fieldAddrA,fieldA,indexAddrA,lenA,lenS,sliceA,boundA,makeSliceA,elemsA,appendA,buildA,fillA,buildSliceA,partsA,extractA,builtinA,minmaxA,AV.cells,AV.isAgg,allP,mkAgg,hget,hset,isRow,cellOk,setC,after,dstOk,St.put,St.get,lk,St.ev,cv,PV.one,Int.reduceToNat,entry,ent,Nat.reduceAdd,Nat.reduceLT,Nat.reduceBEq,Nat.reduceEqDiff,Nat.reduceLeDiff,Nat.reduceMul,Nat.reduceSub,Int.cast_ofNat_Int,decide_true,decide_false,reduceCtorEq,BEq.rfl,beq_self_eq_true,bne_self_eq_false,ite_true,ite_false,if_true,if_false,reduceIte]
   refine fin_run ?_ (hK _ ?_)<;>clear hK<;>clear K
   ·simp only [In64]; omega
   repeat (first|refine qa ?_|refine qb ?_|refine qc ?_|refine qd ?_|refine qe ?_|refine qf ?_|refine qg rfl ?_|refine qh ?_|refine qi ?_|refine qj ?_|refine qk ?_|refine ql ?_|refine qm ?_)
   refine ⟨i + 1,[],by omega,by omega,?_⟩
   rw [hs]
   simp only [AV.p.injEq,AV.sl.injEq,AV.ptr.injEq,Blk.own.injEq,PV.int.injEq,PV.bool.injEq,PV.list.injEq,Nat.sub_zero,Int.natCast_add,List.length_append,take_take_len,take_app1,take_app2,Le,LeH,LeS,LeB,ren,ren1,scA,sc1,List.nodup_cons,List.nodup_nil,List.mem_cons,List.not_mem_nil,or_false,not_false_eq_true,ev0,aops,xstep,guardA,opA,tab,binA,binInt,arith,unA,pickA,convA,allocA,boxA,loadA,storeA,fieldAddrA,fieldA,indexAddrA,lenA,lenS,sliceA,boundA,makeSliceA,elemsA,appendA,buildA,fillA,buildSliceA,partsA,extractA,builtinA,minmaxA,AV.cells,AV.isAgg,allP,mkAgg,hget,hset,isRow,cellOk,setC,after,dstOk,St.put,St.get,lk,St.ev,cv,PV.one,Int.reduceToNat,entry,ent,Nat.reduceAdd,Nat.reduceLT,Nat.reduceBEq,Nat.reduceEqDiff,Nat.reduceLeDiff,Nat.reduceMul,Nat.reduceSub,Int.cast_ofNat_Int,decide_true,decide_false,reduceCtorEq,BEq.rfl,beq_self_eq_true,bne_self_eq_false,ite_true,ite_false,if_true,if_false,reduceIte]<;>(first|exact trivial|omega|(simp only [In64] at *; omega)|(rw [Bool.eq_iff_iff]; simp; done)|(rw [Bool.eq_iff_iff]; simp; omega)|(simp [In64] at *; omega)|(simp_all; done)|(simp_all [In64]<;>omega)|skip)
 ·repeat (first|refine qa ?_|refine qb ?_|refine qc ?_|refine qd ?_|refine qe ?_|refine qf ?_|refine qg rfl ?_|refine qh ?_|refine qi ?_|refine qj ?_|refine qk ?_|refine ql ?_|refine qm ?_)
  have hii:i=ls.length:=by have:=of_decide_eq_false hlt; omega
  subst hii
  rw [List.take_length]
  refine hk_region fun K hK=>runs_eval tab_ok ?_
  simp only [ev0,aops,xstep,guardA,opA,tab,binA,binInt,arith,unA,pickA,convA,allocA,boxA,loadA,storeA,fieldAddrA,fieldA,indexAddrA,lenA,lenS,sliceA,boundA,makeSliceA,elemsA,appendA,buildA,fillA,buildSliceA,partsA,extractA,builtinA,minmaxA,AV.cells,AV.isAgg,allP,mkAgg,hget,hset,isRow,cellOk,setC,after,dstOk,St.put,St.get,lk,St.ev,cv,PV.one,Int.reduceToNat,entry,ent,Nat.reduceAdd,Nat.reduceLT,Nat.reduceBEq,Nat.reduceEqDiff,Nat.reduceLeDiff,Nat.reduceMul,Nat.reduceSub,Int.cast_ofNat_Int,decide_true,decide_false,reduceCtorEq,BEq.rfl,beq_self_eq_true,bne_self_eq_false,ite_true,ite_false,if_true,if_false,reduceIte]
  refine fin_stop trivial (runs_callG (grow_c _ hl) rfl rfl rfl (by simp only [dstOk,Nat.reduceLT]) (by repeat (first|exact trivial|constructor)) (runs_eval tab_ok ?_))
  simp only [shf,List.range',Blk.ren,ren,ren1,ev0,aops,xstep,guardA,opA,tab,binA,binInt,arith,unA,pickA,convA,allocA,boxA,loadA,storeA,fieldAddrA,fieldA,indexAddrA,lenA,lenS,sliceA,boundA,makeSliceA,elemsA,appendA,buildA,fillA,buildSliceA,partsA,extractA,builtinA,minmaxA,AV.cells,AV.isAgg,allP,mkAgg,hget,hset,isRow,cellOk,setC,after,dstOk,St.put,St.get,lk,St.ev,cv,PV.one,Int.reduceToNat,entry,ent,Nat.reduceAdd,Nat.reduceLT,Nat.reduceBEq,Nat.reduceEqDiff,Nat.reduceLeDiff,Nat.reduceMul,Nat.reduceSub,Int.cast_ofNat_Int,decide_true,decide_false,reduceCtorEq,BEq.rfl,beq_self_eq_true,bne_self_eq_false,ite_true,ite_false,if_true,if_false,reduceIte]
  refine fin_run trivial (hK _ ?_)<;>clear hK<;>clear K
  repeat (first|refine qa ?_|refine qb ?_|refine qc ?_|refine qd ?_|refine qe ?_|refine qf ?_|refine qg rfl ?_|refine qh ?_|refine qi ?_|refine qj ?_|refine qk ?_|refine ql ?_|refine qm ?_)
  (refine hk_region fun K hK=>runs_eval tab_ok ?_); simp only [ev0,aops,xstep,guardA,opA,tab,binA,binInt,arith,unA,pickA,convA,allocA,boxA,loadA,storeA,fieldAddrA,fieldA,indexAddrA,lenA,lenS,sliceA,boundA,makeSliceA,elemsA,appendA,buildA,fillA,buildSliceA,partsA,extractA,builtinA,minmaxA,AV.cells,AV.isAgg,allP,mkAgg,hget,hset,isRow,cellOk,setC,after,dstOk,St.put,St.get,lk,St.ev,cv,PV.one,Int.reduceToNat,entry,ent,Nat.reduceAdd,Nat.reduceLT,Nat.reduceBEq,Nat.reduceEqDiff,Nat.reduceLeDiff,Nat.reduceMul,Nat.reduceSub,Int.cast_ofNat_Int,decide_true,decide_false,reduceCtorEq,BEq.rfl,beq_self_eq_true,bne_self_eq_false,ite_true,ite_false,if_true,if_false,reduceIte]; refine fin_run trivial (hK _ ?_)<;>clear hK<;>clear K; repeat (first|refine qa ?_|refine qb ?_|refine qc ?_|refine qd ?_|refine qe ?_|refine qf ?_|refine qg rfl ?_|refine qh ?_|refine qi ?_|refine qj ?_|refine qk ?_|refine ql ?_|refine qm ?_)
  refine hk_loop (ι:=Nat) (fun i=>⟨36,[(6,.sl 0 0 (ls.take i).flatten.length),(25,.p (.nn (ll ls))),(26,.p (.int .i64 ls.length)),(27,.p (.int .i64 i))],[.own (ol (ls.take i).flatten)]⟩) (fun i=>i≤ls.length) (fun i=>ls.length - i) 0 (Nat.zero_le _) [0] (by simp only [AV.p.injEq,AV.sl.injEq,AV.ptr.injEq,Blk.own.injEq,PV.int.injEq,PV.bool.injEq,PV.list.injEq,Nat.sub_zero,Int.natCast_add,List.length_append,take_take_len,take_app1,take_app2,Le,LeH,LeS,LeB,ren,ren1,scA,sc1,List.nodup_cons,List.nodup_nil,List.mem_cons,List.not_mem_nil,or_false,not_false_eq_true,ev0,aops,xstep,guardA,opA,tab,binA,binInt,arith,unA,pickA,convA,allocA,boxA,loadA,storeA,fieldAddrA,fieldA,indexAddrA,lenA,lenS,sliceA,boundA,makeSliceA,elemsA,appendA,buildA,fillA,buildSliceA,partsA,extractA,builtinA,minmaxA,AV.cells,AV.isAgg,allP,mkAgg,hget,hset,isRow,cellOk,setC,after,dstOk,St.put,St.get,lk,St.ev,cv,PV.one,Int.reduceToNat,entry,ent,Nat.reduceAdd,Nat.reduceLT,Nat.reduceBEq,Nat.reduceEqDiff,Nat.reduceLeDiff,Nat.reduceMul,Nat.reduceSub,Int.cast_ofNat_Int,decide_true,decide_false,reduceCtorEq,BEq.rfl,beq_self_eq_true,bne_self_eq_false,ite_true,ite_false,if_true,if_false,reduceIte]<;>simp [ol_nil]) fun i hi=>?_
  repeat (first|refine qa ?_|refine qb ?_|refine qc ?_|refine qd ?_|refine qe ?_|refine qf ?_|refine qg rfl ?_|refine qh ?_|refine qi ?_|refine qj ?_|refine qk ?_|refine ql ?_|refine qm ?_)
  (refine hk_region fun K hK=>runs_eval tab_ok ?_); simp only [ev0,aops,xstep,guardA,opA,tab,binA,binInt,arith,unA,pickA,convA,allocA,boxA,loadA,storeA,fieldAddrA,fieldA,indexAddrA,lenA,lenS,sliceA,boundA,makeSliceA,elemsA,appendA,buildA,fillA,buildSliceA,partsA,extractA,builtinA,minmaxA,AV.cells,AV.isAgg,allP,mkAgg,hget,hset,isRow,cellOk,setC,after,dstOk,St.put,St.get,lk,St.ev,cv,PV.one,Int.reduceToNat,entry,ent,Nat.reduceAdd,Nat.reduceLT,Nat.reduceBEq,Nat.reduceEqDiff,Nat.reduceLeDiff,Nat.reduceMul,Nat.reduceSub,Int.cast_ofNat_Int,decide_true,decide_false,reduceCtorEq,BEq.rfl,beq_self_eq_true,bne_self_eq_false,ite_true,ite_false,if_true,if_false,reduceIte]; refine fin_run trivial (hK _ ?_)<;>clear hK<;>clear K; repeat (first|refine qa ?_|refine qb ?_|refine qc ?_|refine qd ?_|refine qe ?_|refine qf ?_|refine qg rfl ?_|refine qh ?_|refine qi ?_|refine qj ?_|refine qk ?_|refine ql ?_|refine qm ?_)
  refine hk_cond rfl (fun hlt=>?_) (fun hlt=>?_)
  ·have hlt:i < ls.length:=by have:=of_decide_eq_true hlt; omega
   have hs:=tot_succ hlt
   have h1:=hle i
   have h2:=hle (i + 1)
   rw [hs,List.length_append] at h2
   repeat (first|refine qa ?_|refine qb ?_|refine qc ?_|refine qd ?_|refine qe ?_|refine qf ?_|refine qg rfl ?_|refine qh ?_|refine qi ?_|refine qj ?_|refine qk ?_|refine ql ?_|refine qm ?_)
   refine hk_region fun K hK=>runs_eval tab_ok ?_
   simp only [ev0,aops,xstep,guardA,opA,tab,binA,binInt,arith,unA,pickA,convA,allocA,boxA,loadA,storeA,fieldAddrA,fieldA,indexAddrA,lenA,lenS,sliceA,boundA,makeSliceA,elemsA,appendA,buildA,fillA,buildSliceA,partsA,extractA,builtinA,minmaxA,AV.cells,AV.isAgg,allP,mkAgg,hget,hset,isRow,cellOk,setC,after,dstOk,St.put,St.get,lk,St.ev,cv,PV.one,Int.reduceToNat,entry,ent,Nat.reduceAdd,Nat.reduceLT,Nat.reduceBEq,Nat.reduceEqDiff,Nat.reduceLeDiff,Nat.reduceMul,Nat.reduceSub,Int.cast_ofNat_Int,decide_true,decide_false,reduceCtorEq,BEq.rfl,beq_self_eq_true,bne_self_eq_false,ite_true,ite_false,if_true,if_false,reduceIte,ll_get hlt]
   refine fin_run ?_ (hK _ ?_)<;>clear hK<;>clear K
   ·omega
   repeat (first|refine qa ?_|refine qb ?_|refine qc ?_|refine qd ?_|refine qe ?_|refine qf ?_|refine qg rfl ?_|refine qh ?_|refine qi ?_|refine qj ?_|refine qk ?_|refine ql ?_|refine qm ?_)
   refine hk_region fun K hK=>runs_eval tab_ok ?_
   simp only [ev0,aops,xstep,guardA,opA,tab,binA,binInt,arith,unA,pickA,convA,allocA,boxA,loadA,storeA,fieldAddrA,fieldA,indexAddrA,lenA,lenS,sliceA,boundA,makeSliceA,elemsA,appendA,buildA,fillA,buildSliceA,partsA,extractA,builtinA,minmaxA,AV.cells,AV.isAgg,allP,mkAgg,hget,hset,isRow,cellOk,setC,after,dstOk,St.put,St.get,lk,St.ev,cv,PV.one,Int.reduceToNat,entry,ent,Nat.reduceAdd,Nat.reduceLT,Nat.reduceBEq,Nat.reduceEqDiff,Nat.reduceLeDiff,Nat.reduceMul,Nat.reduceSub,Int.cast_ofNat_Int,decide_true,decide_false,reduceCtorEq,BEq.rfl,beq_self_eq_true,bne_self_eq_false,ite_true,ite_false,if_true,if_false,reduceIte]
   refine fin_run ?_ (hK _ ?_)<;>clear hK<;>clear K
   ·omega
   repeat (first|refine qa ?_|refine qb ?_|refine qc ?_|refine qd ?_|refine qe ?_|refine qf ?_|refine qg rfl ?_|refine qh ?_|refine qi ?_|refine qj ?_|refine qk ?_|refine ql ?_|refine qm ?_)
   refine hk_region fun K hK=>runs_eval tab_ok ?_
   simp only [ev0,aops,xstep,guardA,opA,tab,binA,binInt,arith,unA,pickA,convA,allocA,boxA,loadA,storeA,fieldAddrA,fieldA,indexAddrA,lenA,lenS,sliceA,boundA,makeSliceA,elemsA,appendA,buildA,fillA,buildSliceA,partsA,extractA,builtinA,minmaxA,AV.cells,AV.isAgg,allP,mkAgg,hget,hset,isRow,cellOk,setC,after,dstOk,St.put,St.get,lk,St.ev,cv,PV.one,Int.reduceToNat,entry,ent,Nat.reduceAdd,Nat.reduceLT,Nat.reduceBEq,Nat.reduceEqDiff,Nat.reduceLeDiff,Nat.reduceMul,Nat.reduceSub,Int.cast_ofNat_Int,decide_true,decide_false,reduceCtorEq,BEq.rfl,beq_self_eq_true,bne_self_eq_false,ite_true,ite_false,if_true,if_false,reduceIte]
   refine fin_run ?_ (hK _ ?_)<;>clear hK<;>clear K
   ·simp only [In64]; omega
   repeat (first|refine qa ?_|refine qb ?_|refine qc ?_|refine qd ?_|refine qe ?_|refine qf ?_|refine qg rfl ?_|refine qh ?_|refine qi ?_|refine qj ?_|refine qk ?_|refine ql ?_|refine qm ?_)
   refine ⟨i + 1,[1],by omega,by omega,?_⟩
   rw [hs]
   simp only [AV.p.injEq,AV.sl.injEq,AV.ptr.injEq,Blk.own.injEq,PV.int.injEq,PV.bool.injEq,PV.list.injEq,Nat.sub_zero,Int.natCast_add,List.length_append,take_take_len,take_app1,take_app2,Le,LeH,LeS,LeB,ren,ren1,scA,sc1,List.nodup_cons,List.nodup_nil,List.mem_cons,List.not_mem_nil,or_false,not_false_eq_true,ev0,aops,xstep,guardA,opA,tab,binA,binInt,arith,unA,pickA,convA,allocA,boxA,loadA,storeA,fieldAddrA,fieldA,indexAddrA,lenA,lenS,sliceA,boundA,makeSliceA,elemsA,appendA,buildA,fillA,buildSliceA,partsA,extractA,builtinA,minmaxA,AV.cells,AV.isAgg,allP,mkAgg,hget,hset,isRow,cellOk,setC,after,dstOk,St.put,St.get,lk,St.ev,cv,PV.one,Int.reduceToNat,entry,ent,Nat.reduceAdd,Nat.reduceLT,Nat.reduceBEq,Nat.reduceEqDiff,Nat.reduceLeDiff,Nat.reduceMul,Nat.reduceSub,Int.cast_ofNat_Int,decide_true,decide_false,reduceCtorEq,BEq.rfl,beq_self_eq_true,bne_self_eq_false,ite_true,ite_false,if_true,if_false,reduceIte]<;>(first|exact trivial|omega|(simp only [In64] at *; omega)|(rw [Bool.eq_iff_iff]; simp; done)|(rw [Bool.eq_iff_iff]; simp; omega)|(simp [In64] at *; omega)|(simp_all; done)|(simp_all [In64]<;>omega)|skip)
  ·repeat (first|refine qa ?_|refine qb ?_|refine qc ?_|refine qd ?_|refine qe ?_|refine qf ?_|refine qg rfl ?_|refine qh ?_|refine qi ?_|refine qj ?_|refine qk ?_|refine ql ?_|refine qm ?_)
   have hii:i=ls.length:=by have:=of_decide_eq_false hlt; omega
   subst hii
   rw [List.take_length]
   (refine hk_region fun K hK=>runs_eval tab_ok ?_); simp only [ev0,aops,xstep,guardA,opA,tab,binA,binInt,arith,unA,pickA,convA,allocA,boxA,loadA,storeA,fieldAddrA,fieldA,indexAddrA,lenA,lenS,sliceA,boundA,makeSliceA,elemsA,appendA,buildA,fillA,buildSliceA,partsA,extractA,builtinA,minmaxA,AV.cells,AV.isAgg,allP,mkAgg,hget,hset,isRow,cellOk,setC,after,dstOk,St.put,St.get,lk,St.ev,cv,PV.one,Int.reduceToNat,entry,ent,Nat.reduceAdd,Nat.reduceLT,Nat.reduceBEq,Nat.reduceEqDiff,Nat.reduceLeDiff,Nat.reduceMul,Nat.reduceSub,Int.cast_ofNat_Int,decide_true,decide_false,reduceCtorEq,BEq.rfl,beq_self_eq_true,bne_self_eq_false,ite_true,ite_false,if_true,if_false,reduceIte]; refine fin_run trivial (hK _ ?_)<;>clear hK<;>clear K; repeat (first|refine qa ?_|refine qb ?_|refine qc ?_|refine qd ?_|refine qe ?_|refine qf ?_|refine qg rfl ?_|refine qh ?_|refine qi ?_|refine qj ?_|refine qk ?_|refine ql ?_|refine qm ?_)
   simp only [Try.results67,Post,endA,rvsA,rvA,mkTup,peekA,peekG,peekS,peekList,PV.norm,PV.norm1,PV.norm0,PV.list.injEq,PV.tup.injEq,PV.agg.injEq,PV.int.injEq,PV.bool.injEq,List.cons.injEq,ev0,aops,xstep,guardA,opA,tab,binA,binInt,arith,unA,pickA,convA,allocA,boxA,loadA,storeA,fieldAddrA,fieldA,indexAddrA,lenA,lenS,sliceA,boundA,makeSliceA,elemsA,appendA,buildA,fillA,buildSliceA,partsA,extractA,builtinA,minmaxA,AV.cells,AV.isAgg,allP,mkAgg,hget,hset,isRow,cellOk,setC,after,dstOk,St.put,St.get,lk,St.ev,cv,PV.one,Int.reduceToNat,entry,ent,Nat.reduceAdd,Nat.reduceLT,Nat.reduceBEq,Nat.reduceEqDiff,Nat.reduceLeDiff,Nat.reduceMul,Nat.reduceSub,Int.cast_ofNat_Int,decide_true,decide_false,reduceCtorEq,BEq.rfl,beq_self_eq_true,bne_self_eq_false,ite_true,ite_false,if_true,if_false,reduceIte]
   exact Nat.le_refl _

end Go.Proofs.Ytneglephfhiamaa

/-
  Walks: words of free groups. Conditions: none.
-/
set_option linter.all false
namespace Go.Proofs.Ytneglephfhiamaa
open Go.Pv

theorem Sm.app {v w:List Int} (hv:Sm v) (hw:Sm w):Sm (v++w):=by
 intro x hx
 rcases List.mem_append.1 hx with h | h
 ·exact hv x h
 ·exact hw x h
theorem push_sm {o:List Int} {x:Int} (ho:Sm o) (hx : -26≤x∧x≤26):Sm (push o x):=by
 unfold push
 split
 ·exact fun y hy=>ho y (List.mem_of_mem_take hy)
 ·exact ho.app (fun y hy=>by simp at hy; subst hy; exact hx)
theorem short_sm {w:List Int} (hw:Sm w):Sm (short w):=by
 have:∀ (w o:List Int),Sm w→Sm o→Sm (w.foldl push o):=by
  intro w
  induction w with
  | nil=>intro o _ ho; exact ho
  | cons x r ih=>intro o hw ho; exact ih (push o x) (fun y hy=>hw y (by simp [hy])) (push_sm ho (hw x (by simp)))
 exact this w [] hw (fun y hy=>by simp at hy)
/-- No two neighbours cancel. -/
def Red (o:List Int):Prop:=∀ i,i + 1 < o.length→o.getD i 0 ≠ -(o.getD (i + 1) 0)

theorem getD_take {o:List Int} {n i:Nat} (h:i < n):(o.take n).getD i 0=o.getD i 0:=by
 simp [List.getD,List.getElem?_take,h]
theorem getD_app1 {a b:List Int} {i:Nat} (h:i < a.length):(a++b).getD i 0=a.getD i 0:=by
 simp [List.getD,List.getElem?_append_left h]
theorem getD_app2 {a b:List Int} {i:Nat} (h:a.length≤i):(a++b).getD i 0=b.getD (i - a.length) 0:=by
 simp [List.getD,List.getElem?_append_right h]
theorem Red.take {o:List Int} (h:Red o) (n:Nat):Red (o.take n):=by
 intro i hi
 rw [List.length_take] at hi
 rw [getD_take (by omega),getD_take (by omega)]
 exact h i (by omega)

theorem red_push {o:List Int} {x:Int} (h:Red o):Red (push o x):=by
 unfold push
 split
 ·exact h.take _
 ·rename_i hn
  intro i hi
  simp only [List.length_append,List.length_cons,List.length_nil] at hi
  by_cases hl:i + 1 < o.length
  ·rw [getD_app1 (by omega),getD_app1 hl]; exact h i hl
  ·have e:i=o.length - 1:=by omega
   rw [getD_app1 (by omega),getD_app2 (by omega),e]
   intro hc
   apply hn
   refine ⟨by omega,?_⟩
   rw [hc]
   have:o.length - 1 + 1 - o.length=0:=by omega
   rw [this]; rfl

theorem red_short (w:List Int):Red (short w):=by
 have:∀ (w o:List Int),Red o→Red (w.foldl push o):=by
  intro w
  induction w with
  | nil=>intro o h; exact h
  | cons x r ih=>intro o h; exact ih _ (red_push h)
 exact this w [] (fun i hi=>by simp at hi)

theorem take_last {o:List Int} (h:0 < o.length):o.take (o.length - 1)++[o.getD (o.length - 1) 0]=o:=by
 have:o.length - 1 < o.length:=by omega
 have e:=List.take_succ_eq_append_getElem this
 rw [show o.length - 1 + 1=o.length by omega,List.take_length] at e
 simp [List.getD,List.getElem?_eq_getElem this,← e]

theorem push_cancel {o:List Int} (x:Int) (h:Red o):push (push o x) (-x)=o:=by
 by_cases hc:0 < o.length∧o.getD (o.length - 1) 0 = -x
 ·have e1:push o x=o.take (o.length - 1):=by rw [push,if_pos hc]
  rw [e1]
  have hl:(o.take (o.length - 1)).length=o.length - 1:=by simp
  rw [push,hl,if_neg ?_]
  ·have:=take_last hc.1
   rw [hc.2] at this; exact this
  ·rintro ⟨h1,h2⟩
   rw [getD_take (by omega),Int.neg_neg] at h2
   have:=h (o.length - 1 - 1) (by omega)
   rw [show o.length - 1 - 1 + 1=o.length - 1 by omega,hc.2,h2] at this
   simp at this
 ·have e1:push o x=o++[x]:=by rw [push,if_neg hc]
  rw [e1,push,if_pos]
  ·simp
  ·simp [List.getD]

theorem short_app (a b:List Int):short (a++b)=b.foldl push (short a):=by simp [short,List.foldl_append]

theorem short_cancel (a r:List Int) (x:Int):short (a++x :: -x :: r)=short (a++r):=by
 rw [short_app,short_app]
 simp only [List.foldl_cons]
 rw [push_cancel x (red_short a)]

theorem short_red {w:List Int} (h:Red w):short w=w:=by
 have key:∀ n,n≤w.length→short (w.take n)=w.take n:=by
  intro n
  induction n with
  | zero=>intro _; rfl
  | succ n ih =>
   intro hn
   rw [short_snoc w n hn,ih (by omega),push,if_neg ?_]
   ·rw [List.take_succ_eq_append_getElem hn]
    simp [List.getD,List.getElem?_eq_getElem hn]
   ·rintro ⟨h1,h2⟩
    rw [List.length_take,Nat.min_eq_left (by omega)] at h1 h2
    rw [getD_take (by omega)] at h2
    have:=h (n - 1) (by omega)
    rw [show n - 1 + 1=n by omega] at this
    exact this h2
 have:=key w.length (Nat.le_refl _)
 rwa [List.take_length] at this

theorem short_short (w:List Int):short (short w)=short w:=short_red (red_short w)

theorem splice {w:List Int} {i:Nat} (h:i + 1 < w.length):w=w.take i++w.getD i 0 :: w.getD (i + 1) 0 :: w.drop (i + 2):=by
 have h0:i < w.length:=by omega
 have e1:=List.drop_eq_getElem_cons h0
 have e2:=List.drop_eq_getElem_cons h
 have:=List.take_append_drop i w
 rw [e1,e2] at this
 simp [List.getD,List.getElem?_eq_getElem h0,List.getElem?_eq_getElem h,this]

theorem f_c (c a:Int):FnC Try.prog 25 [.int .i64 c,.int .i64 a] (.agg [.int .i64 c,.int .i64 a]):=by
 refine fnc_of tab_ok Try.func25 rfl (by kernel_rfl) (by rw [Try.ntmps25]; exact Nat.le_add_left 2 _) ?_; rw [Try.ntmps25]; repeat (first|refine qa ?_|refine qb ?_|refine qc ?_|refine qd ?_|refine qe ?_|refine qf ?_|refine qg rfl ?_|refine qh ?_|refine qi ?_|refine qj ?_|refine qk ?_|refine ql ?_|refine qm ?_)
 (refine hk_region fun K hK=>runs_eval tab_ok ?_); simp only [ev0,aops,xstep,guardA,opA,tab,binA,binInt,arith,unA,pickA,convA,allocA,boxA,loadA,storeA,fieldAddrA,fieldA,indexAddrA,lenA,lenS,sliceA,boundA,makeSliceA,elemsA,appendA,buildA,fillA,buildSliceA,partsA,extractA,builtinA,minmaxA,AV.cells,AV.isAgg,allP,mkAgg,hget,hset,isRow,cellOk,setC,after,dstOk,St.put,St.get,lk,St.ev,cv,PV.one,Int.reduceToNat,entry,ent,Nat.reduceAdd,Nat.reduceLT,Nat.reduceBEq,Nat.reduceEqDiff,Nat.reduceLeDiff,Nat.reduceMul,Nat.reduceSub,Int.cast_ofNat_Int,decide_true,decide_false,reduceCtorEq,BEq.rfl,beq_self_eq_true,bne_self_eq_false,ite_true,ite_false,if_true,if_false,reduceIte]; refine fin_run trivial (hK _ ?_)<;>clear hK<;>clear K; repeat (first|refine qa ?_|refine qb ?_|refine qc ?_|refine qd ?_|refine qe ?_|refine qf ?_|refine qg rfl ?_|refine qh ?_|refine qi ?_|refine qj ?_|refine qk ?_|refine ql ?_|refine qm ?_)
 (refine hk_region fun K hK=>runs_eval tab_ok ?_); simp only [ev0,aops,xstep,guardA,opA,tab,binA,binInt,arith,unA,pickA,convA,allocA,boxA,loadA,storeA,fieldAddrA,fieldA,indexAddrA,lenA,lenS,sliceA,boundA,makeSliceA,elemsA,appendA,buildA,fillA,buildSliceA,partsA,extractA,builtinA,minmaxA,AV.cells,AV.isAgg,allP,mkAgg,hget,hset,isRow,cellOk,setC,after,dstOk,St.put,St.get,lk,St.ev,cv,PV.one,Int.reduceToNat,entry,ent,Nat.reduceAdd,Nat.reduceLT,Nat.reduceBEq,Nat.reduceEqDiff,Nat.reduceLeDiff,Nat.reduceMul,Nat.reduceSub,Int.cast_ofNat_Int,decide_true,decide_false,reduceCtorEq,BEq.rfl,beq_self_eq_true,bne_self_eq_false,ite_true,ite_false,if_true,if_false,reduceIte]; refine fin_run trivial (hK _ ?_)<;>clear hK<;>clear K; repeat (first|refine qa ?_|refine qb ?_|refine qc ?_|refine qd ?_|refine qe ?_|refine qf ?_|refine qg rfl ?_|refine qh ?_|refine qi ?_|refine qj ?_|refine qk ?_|refine ql ?_|refine qm ?_)
 simp only [Try.results25,Post,endA,rvsA,rvA,mkTup,peekA,peekG,peekS,peekList,PV.norm,PV.norm1,PV.norm0,PV.list.injEq,PV.tup.injEq,PV.agg.injEq,PV.int.injEq,PV.bool.injEq,List.cons.injEq,ev0,aops,xstep,guardA,opA,tab,binA,binInt,arith,unA,pickA,convA,allocA,boxA,loadA,storeA,fieldAddrA,fieldA,indexAddrA,lenA,lenS,sliceA,boundA,makeSliceA,elemsA,appendA,buildA,fillA,buildSliceA,partsA,extractA,builtinA,minmaxA,AV.cells,AV.isAgg,allP,mkAgg,hget,hset,isRow,cellOk,setC,after,dstOk,St.put,St.get,lk,St.ev,cv,PV.one,Int.reduceToNat,entry,ent,Nat.reduceAdd,Nat.reduceLT,Nat.reduceBEq,Nat.reduceEqDiff,Nat.reduceLeDiff,Nat.reduceMul,Nat.reduceSub,Int.cast_ofNat_Int,decide_true,decide_false,reduceCtorEq,BEq.rfl,beq_self_eq_true,bne_self_eq_false,ite_true,ite_false,if_true,if_false,reduceIte]

theorem wordFault_c (w:List Int):FnC Try.prog 28 [.list (il w)] (fl (check w)):=by
 refine fnc_of tab_ok Try.func28 rfl (by kernel_rfl) (by rw [Try.ntmps28]; exact Nat.le_add_left 1 _) ?_; rw [Try.ntmps28]; repeat (first|refine qa ?_|refine qb ?_|refine qc ?_|refine qd ?_|refine qe ?_|refine qf ?_|refine qg rfl ?_|refine qh ?_|refine qi ?_|refine qj ?_|refine qk ?_|refine ql ?_|refine qm ?_)
 (refine hk_region fun K hK=>runs_eval tab_ok ?_); simp only [ev0,aops,xstep,guardA,opA,tab,binA,binInt,arith,unA,pickA,convA,allocA,boxA,loadA,storeA,fieldAddrA,fieldA,indexAddrA,lenA,lenS,sliceA,boundA,makeSliceA,elemsA,appendA,buildA,fillA,buildSliceA,partsA,extractA,builtinA,minmaxA,AV.cells,AV.isAgg,allP,mkAgg,hget,hset,isRow,cellOk,setC,after,dstOk,St.put,St.get,lk,St.ev,cv,PV.one,Int.reduceToNat,entry,ent,Nat.reduceAdd,Nat.reduceLT,Nat.reduceBEq,Nat.reduceEqDiff,Nat.reduceLeDiff,Nat.reduceMul,Nat.reduceSub,Int.cast_ofNat_Int,decide_true,decide_false,reduceCtorEq,BEq.rfl,beq_self_eq_true,bne_self_eq_false,ite_true,ite_false,if_true,if_false,reduceIte]; refine fin_run trivial (hK _ ?_)<;>clear hK<;>clear K; repeat (first|refine qa ?_|refine qb ?_|refine qc ?_|refine qd ?_|refine qe ?_|refine qf ?_|refine qg rfl ?_|refine qh ?_|refine qi ?_|refine qj ?_|refine qk ?_|refine ql ?_|refine qm ?_)
 (refine hk_region fun K hK=>runs_eval tab_ok ?_); simp only [ev0,aops,xstep,guardA,opA,tab,binA,binInt,arith,unA,pickA,convA,allocA,boxA,loadA,storeA,fieldAddrA,fieldA,indexAddrA,lenA,lenS,sliceA,boundA,makeSliceA,elemsA,appendA,buildA,fillA,buildSliceA,partsA,extractA,builtinA,minmaxA,AV.cells,AV.isAgg,allP,mkAgg,hget,hset,isRow,cellOk,setC,after,dstOk,St.put,St.get,lk,St.ev,cv,PV.one,Int.reduceToNat,entry,ent,Nat.reduceAdd,Nat.reduceLT,Nat.reduceBEq,Nat.reduceEqDiff,Nat.reduceLeDiff,Nat.reduceMul,Nat.reduceSub,Int.cast_ofNat_Int,decide_true,decide_false,reduceCtorEq,BEq.rfl,beq_self_eq_true,bne_self_eq_false,ite_true,ite_false,if_true,if_false,reduceIte]; refine fin_run trivial (hK _ ?_)<;>clear hK<;>clear K; repeat (first|refine qa ?_|refine qb ?_|refine qc ?_|refine qd ?_|refine qe ?_|refine qf ?_|refine qg rfl ?_|refine qh ?_|refine qi ?_|refine qj ?_|refine qk ?_|refine ql ?_|refine qm ?_)
 refine hk_cond rfl (fun h=>?_) (fun h=>?_)
 ·repeat (first|refine qa ?_|refine qb ?_|refine qc ?_|refine qd ?_|refine qe ?_|refine qf ?_|refine qg rfl ?_|refine qh ?_|refine qi ?_|refine qj ?_|refine qk ?_|refine ql ?_|refine qm ?_)
  refine hk_region fun K hK=>runs_eval tab_ok ?_
  simp only [ev0,aops,xstep,guardA,opA,tab,binA,binInt,arith,unA,pickA,convA,allocA,boxA,loadA,storeA,fieldAddrA,fieldA,indexAddrA,lenA,lenS,sliceA,boundA,makeSliceA,elemsA,appendA,buildA,fillA,buildSliceA,partsA,extractA,builtinA,minmaxA,AV.cells,AV.isAgg,allP,mkAgg,hget,hset,isRow,cellOk,setC,after,dstOk,St.put,St.get,lk,St.ev,cv,PV.one,Int.reduceToNat,entry,ent,Nat.reduceAdd,Nat.reduceLT,Nat.reduceBEq,Nat.reduceEqDiff,Nat.reduceLeDiff,Nat.reduceMul,Nat.reduceSub,Int.cast_ofNat_Int,decide_true,decide_false,reduceCtorEq,BEq.rfl,beq_self_eq_true,bne_self_eq_false,ite_true,ite_false,if_true,if_false,reduceIte]
  refine fin_stop trivial (runs_call (f_c 2 0) rfl rfl rfl (by simp only [dstOk,Nat.reduceLT]) (by repeat (first|exact trivial|constructor)) (runs_eval tab_ok ?_))
  simp only [ev0,aops,xstep,guardA,opA,tab,binA,binInt,arith,unA,pickA,convA,allocA,boxA,loadA,storeA,fieldAddrA,fieldA,indexAddrA,lenA,lenS,sliceA,boundA,makeSliceA,elemsA,appendA,buildA,fillA,buildSliceA,partsA,extractA,builtinA,minmaxA,AV.cells,AV.isAgg,allP,mkAgg,hget,hset,isRow,cellOk,setC,after,dstOk,St.put,St.get,lk,St.ev,cv,PV.one,Int.reduceToNat,entry,ent,Nat.reduceAdd,Nat.reduceLT,Nat.reduceBEq,Nat.reduceEqDiff,Nat.reduceLeDiff,Nat.reduceMul,Nat.reduceSub,Int.cast_ofNat_Int,decide_true,decide_false,reduceCtorEq,BEq.rfl,beq_self_eq_true,bne_self_eq_false,ite_true,ite_false,if_true,if_false,reduceIte]
  refine fin_run trivial (hK _ ?_)<;>clear hK<;>clear K
  repeat (first|refine qa ?_|refine qb ?_|refine qc ?_|refine qd ?_|refine qe ?_|refine qf ?_|refine qg rfl ?_|refine qh ?_|refine qi ?_|refine qj ?_|refine qk ?_|refine ql ?_|refine qm ?_)
  simp only [Try.results28,Post,endA,rvsA,rvA,mkTup,peekA,peekG,peekS,peekList,PV.norm,PV.norm1,PV.norm0,PV.list.injEq,PV.tup.injEq,PV.agg.injEq,PV.int.injEq,PV.bool.injEq,List.cons.injEq,ev0,aops,xstep,guardA,opA,tab,binA,binInt,arith,unA,pickA,convA,allocA,boxA,loadA,storeA,fieldAddrA,fieldA,indexAddrA,lenA,lenS,sliceA,boundA,makeSliceA,elemsA,appendA,buildA,fillA,buildSliceA,partsA,extractA,builtinA,minmaxA,AV.cells,AV.isAgg,allP,mkAgg,hget,hset,isRow,cellOk,setC,after,dstOk,St.put,St.get,lk,St.ev,cv,PV.one,Int.reduceToNat,entry,ent,Nat.reduceAdd,Nat.reduceLT,Nat.reduceBEq,Nat.reduceEqDiff,Nat.reduceLeDiff,Nat.reduceMul,Nat.reduceSub,Int.cast_ofNat_Int,decide_true,decide_false,reduceCtorEq,BEq.rfl,beq_self_eq_true,bne_self_eq_false,ite_true,ite_false,if_true,if_false,reduceIte]
  simp [check,fl,of_decide_eq_true h]
 ·have hw:w.length≤2000:=by have:=of_decide_eq_false h; omega
  repeat (first|refine qa ?_|refine qb ?_|refine qc ?_|refine qd ?_|refine qe ?_|refine qf ?_|refine qg rfl ?_|refine qh ?_|refine qi ?_|refine qj ?_|refine qk ?_|refine ql ?_|refine qm ?_)
  (refine hk_region fun K hK=>runs_eval tab_ok ?_); simp only [ev0,aops,xstep,guardA,opA,tab,binA,binInt,arith,unA,pickA,convA,allocA,boxA,loadA,storeA,fieldAddrA,fieldA,indexAddrA,lenA,lenS,sliceA,boundA,makeSliceA,elemsA,appendA,buildA,fillA,buildSliceA,partsA,extractA,builtinA,minmaxA,AV.cells,AV.isAgg,allP,mkAgg,hget,hset,isRow,cellOk,setC,after,dstOk,St.put,St.get,lk,St.ev,cv,PV.one,Int.reduceToNat,entry,ent,Nat.reduceAdd,Nat.reduceLT,Nat.reduceBEq,Nat.reduceEqDiff,Nat.reduceLeDiff,Nat.reduceMul,Nat.reduceSub,Int.cast_ofNat_Int,decide_true,decide_false,reduceCtorEq,BEq.rfl,beq_self_eq_true,bne_self_eq_false,ite_true,ite_false,if_true,if_false,reduceIte]; refine fin_run trivial (hK _ ?_)<;>clear hK<;>clear K; repeat (first|refine qa ?_|refine qb ?_|refine qc ?_|refine qd ?_|refine qe ?_|refine qf ?_|refine qg rfl ?_|refine qh ?_|refine qi ?_|refine qj ?_|refine qk ?_|refine ql ?_|refine qm ?_)
  refine hk_loop (ι:=Nat) (fun i=>⟨36,[(0,.p (.list (il w))),(2,.ptr 0 0),(3,.p (.int .i64 i))],[.own [.p (.int .i64 0),.p (.int .i64 0)]]⟩) (fun i=>i≤w.length∧chk i (w.drop i)=chk 0 w) (fun i=>w.length - i) 0 ⟨Nat.zero_le _,rfl⟩ [0] (by simp only [AV.p.injEq,AV.sl.injEq,AV.ptr.injEq,Blk.own.injEq,PV.int.injEq,PV.bool.injEq,PV.list.injEq,Nat.sub_zero,Int.natCast_add,List.length_append,take_take_len,take_app1,take_app2,Le,LeH,LeS,LeB,ren,ren1,scA,sc1,List.nodup_cons,List.nodup_nil,List.mem_cons,List.not_mem_nil,or_false,not_false_eq_true,ev0,aops,xstep,guardA,opA,tab,binA,binInt,arith,unA,pickA,convA,allocA,boxA,loadA,storeA,fieldAddrA,fieldA,indexAddrA,lenA,lenS,sliceA,boundA,makeSliceA,elemsA,appendA,buildA,fillA,buildSliceA,partsA,extractA,builtinA,minmaxA,AV.cells,AV.isAgg,allP,mkAgg,hget,hset,isRow,cellOk,setC,after,dstOk,St.put,St.get,lk,St.ev,cv,PV.one,Int.reduceToNat,entry,ent,Nat.reduceAdd,Nat.reduceLT,Nat.reduceBEq,Nat.reduceEqDiff,Nat.reduceLeDiff,Nat.reduceMul,Nat.reduceSub,Int.cast_ofNat_Int,decide_true,decide_false,reduceCtorEq,BEq.rfl,beq_self_eq_true,bne_self_eq_false,ite_true,ite_false,if_true,if_false,reduceIte]<;>trivial) fun i hi=>?_
  repeat (first|refine qa ?_|refine qb ?_|refine qc ?_|refine qd ?_|refine qe ?_|refine qf ?_|refine qg rfl ?_|refine qh ?_|refine qi ?_|refine qj ?_|refine qk ?_|refine ql ?_|refine qm ?_)
  (refine hk_region fun K hK=>runs_eval tab_ok ?_); simp only [ev0,aops,xstep,guardA,opA,tab,binA,binInt,arith,unA,pickA,convA,allocA,boxA,loadA,storeA,fieldAddrA,fieldA,indexAddrA,lenA,lenS,sliceA,boundA,makeSliceA,elemsA,appendA,buildA,fillA,buildSliceA,partsA,extractA,builtinA,minmaxA,AV.cells,AV.isAgg,allP,mkAgg,hget,hset,isRow,cellOk,setC,after,dstOk,St.put,St.get,lk,St.ev,cv,PV.one,Int.reduceToNat,entry,ent,Nat.reduceAdd,Nat.reduceLT,Nat.reduceBEq,Nat.reduceEqDiff,Nat.reduceLeDiff,Nat.reduceMul,Nat.reduceSub,Int.cast_ofNat_Int,decide_true,decide_false,reduceCtorEq,BEq.rfl,beq_self_eq_true,bne_self_eq_false,ite_true,ite_false,if_true,if_false,reduceIte]; refine fin_run trivial (hK _ ?_)<;>clear hK<;>clear K; repeat (first|refine qa ?_|refine qb ?_|refine qc ?_|refine qd ?_|refine qe ?_|refine qf ?_|refine qg rfl ?_|refine qh ?_|refine qi ?_|refine qj ?_|refine qk ?_|refine ql ?_|refine qm ?_)
  refine hk_cond rfl (fun hlt=>?_) (fun hlt=>?_)
  ·repeat (first|refine qa ?_|refine qb ?_|refine qc ?_|refine qd ?_|refine qe ?_|refine qf ?_|refine qg rfl ?_|refine qh ?_|refine qi ?_|refine qj ?_|refine qk ?_|refine ql ?_|refine qm ?_)
   have hlt:i < w.length:=by have:=of_decide_eq_true hlt; omega
   obtain ⟨hi1,hi2⟩:=hi
   have hdrop:w.drop i=w.getD i 0 :: w.drop (i + 1):=by
    rw [List.drop_eq_getElem_cons hlt]; simp [List.getD,List.getElem?_eq_getElem hlt]
   have next:¬ (w.getD i 0=0∨w.getD i 0 < -26∨w.getD i 0 > 26)→chk (i + 1) (w.drop (i + 1))=chk 0 w:=by
    intro hn
    rw [hdrop,chk,if_neg hn] at hi2; exact hi2
   have last:(w.getD i 0=0∨w.getD i 0 < -26∨w.getD i 0 > 26)→chk 0 w=(3,(i:Int)):=by
    intro hn
    rw [hdrop,chk,if_pos hn] at hi2; exact hi2.symm
   have hg:=il_get hlt
   refine hk_cut ⟨36,[(32,.p (.bool (decide (w.getD i 0=0∨w.getD i 0 < -26∨w.getD i 0 > 26)))),(0,.p (.list (il w))),(2,.ptr 0 0),(3,.p (.int .i64 i))],[.own [.p (.int .i64 0),.p (.int .i64 0)]]⟩ ?_ ?_
   ·generalize w.getD i 0=x at *
    cases e1:(x == 0)
    ·cases e2:decide (x > 26)
     ·refine hk_region fun K hK=>runs_eval tab_ok ?_
      simp only [ev0,aops,xstep,guardA,opA,tab,binA,binInt,arith,unA,pickA,convA,allocA,boxA,loadA,storeA,fieldAddrA,fieldA,indexAddrA,lenA,lenS,sliceA,boundA,makeSliceA,elemsA,appendA,buildA,fillA,buildSliceA,partsA,extractA,builtinA,minmaxA,AV.cells,AV.isAgg,allP,mkAgg,hget,hset,isRow,cellOk,setC,after,dstOk,St.put,St.get,lk,St.ev,cv,PV.one,Int.reduceToNat,entry,ent,Nat.reduceAdd,Nat.reduceLT,Nat.reduceBEq,Nat.reduceEqDiff,Nat.reduceLeDiff,Nat.reduceMul,Nat.reduceSub,Int.cast_ofNat_Int,decide_true,decide_false,reduceCtorEq,BEq.rfl,beq_self_eq_true,bne_self_eq_false,ite_true,ite_false,if_true,if_false,reduceIte,hg,e1,e2]
      refine fin_run ?_ (hK _ ?_)<;>clear hK<;>clear K
      ·omega
      refine ⟨rfl,[0],?_⟩; simp only [AV.p.injEq,AV.sl.injEq,AV.ptr.injEq,Blk.own.injEq,PV.int.injEq,PV.bool.injEq,PV.list.injEq,Nat.sub_zero,Int.natCast_add,List.length_append,take_take_len,take_app1,take_app2,Le,LeH,LeS,LeB,ren,ren1,scA,sc1,List.nodup_cons,List.nodup_nil,List.mem_cons,List.not_mem_nil,or_false,not_false_eq_true,ev0,aops,xstep,guardA,opA,tab,binA,binInt,arith,unA,pickA,convA,allocA,boxA,loadA,storeA,fieldAddrA,fieldA,indexAddrA,lenA,lenS,sliceA,boundA,makeSliceA,elemsA,appendA,buildA,fillA,buildSliceA,partsA,extractA,builtinA,minmaxA,AV.cells,AV.isAgg,allP,mkAgg,hget,hset,isRow,cellOk,setC,after,dstOk,St.put,St.get,lk,St.ev,cv,PV.one,Int.reduceToNat,entry,ent,Nat.reduceAdd,Nat.reduceLT,Nat.reduceBEq,Nat.reduceEqDiff,Nat.reduceLeDiff,Nat.reduceMul,Nat.reduceSub,Int.cast_ofNat_Int,decide_true,decide_false,reduceCtorEq,BEq.rfl,beq_self_eq_true,bne_self_eq_false,ite_true,ite_false,if_true,if_false,reduceIte]; (first|exact trivial|omega|(simp only [In64] at *; omega)|(rw [Bool.eq_iff_iff]; simp; done)|(rw [Bool.eq_iff_iff]; simp; omega)|(simp [In64] at *; omega)|(simp_all; done)|(simp_all [In64]<;>omega)|skip)
     ·refine hk_region fun K hK=>runs_eval tab_ok ?_
      simp only [ev0,aops,xstep,guardA,opA,tab,binA,binInt,arith,unA,pickA,convA,allocA,boxA,loadA,storeA,fieldAddrA,fieldA,indexAddrA,lenA,lenS,sliceA,boundA,makeSliceA,elemsA,appendA,buildA,fillA,buildSliceA,partsA,extractA,builtinA,minmaxA,AV.cells,AV.isAgg,allP,mkAgg,hget,hset,isRow,cellOk,setC,after,dstOk,St.put,St.get,lk,St.ev,cv,PV.one,Int.reduceToNat,entry,ent,Nat.reduceAdd,Nat.reduceLT,Nat.reduceBEq,Nat.reduceEqDiff,Nat.reduceLeDiff,Nat.reduceMul,Nat.reduceSub,Int.cast_ofNat_Int,decide_true,decide_false,reduceCtorEq,BEq.rfl,beq_self_eq_true,bne_self_eq_false,ite_true,ite_false,if_true,if_false,reduceIte,hg,e1,e2]
      refine fin_run ?_ (hK _ ?_)<;>clear hK<;>clear K
      ·omega
      refine ⟨rfl,[0],?_⟩; simp only [AV.p.injEq,AV.sl.injEq,AV.ptr.injEq,Blk.own.injEq,PV.int.injEq,PV.bool.injEq,PV.list.injEq,Nat.sub_zero,Int.natCast_add,List.length_append,take_take_len,take_app1,take_app2,Le,LeH,LeS,LeB,ren,ren1,scA,sc1,List.nodup_cons,List.nodup_nil,List.mem_cons,List.not_mem_nil,or_false,not_false_eq_true,ev0,aops,xstep,guardA,opA,tab,binA,binInt,arith,unA,pickA,convA,allocA,boxA,loadA,storeA,fieldAddrA,fieldA,indexAddrA,lenA,lenS,sliceA,boundA,makeSliceA,elemsA,appendA,buildA,fillA,buildSliceA,partsA,extractA,builtinA,minmaxA,AV.cells,AV.isAgg,allP,mkAgg,hget,hset,isRow,cellOk,setC,after,dstOk,St.put,St.get,lk,St.ev,cv,PV.one,Int.reduceToNat,entry,ent,Nat.reduceAdd,Nat.reduceLT,Nat.reduceBEq,Nat.reduceEqDiff,Nat.reduceLeDiff,Nat.reduceMul,Nat.reduceSub,Int.cast_ofNat_Int,decide_true,decide_false,reduceCtorEq,BEq.rfl,beq_self_eq_true,bne_self_eq_false,ite_true,ite_false,if_true,if_false,reduceIte]; (first|exact trivial|omega|(simp only [In64] at *; omega)|(rw [Bool.eq_iff_iff]; simp; done)|(rw [Bool.eq_iff_iff]; simp; omega)|(simp [In64] at *; omega)|(simp_all; done)|(simp_all [In64]<;>omega)|skip)
    ·refine hk_region fun K hK=>runs_eval tab_ok ?_
     simp only [ev0,aops,xstep,guardA,opA,tab,binA,binInt,arith,unA,pickA,convA,allocA,boxA,loadA,storeA,fieldAddrA,fieldA,indexAddrA,lenA,lenS,sliceA,boundA,makeSliceA,elemsA,appendA,buildA,fillA,buildSliceA,partsA,extractA,builtinA,minmaxA,AV.cells,AV.isAgg,allP,mkAgg,hget,hset,isRow,cellOk,setC,after,dstOk,St.put,St.get,lk,St.ev,cv,PV.one,Int.reduceToNat,entry,ent,Nat.reduceAdd,Nat.reduceLT,Nat.reduceBEq,Nat.reduceEqDiff,Nat.reduceLeDiff,Nat.reduceMul,Nat.reduceSub,Int.cast_ofNat_Int,decide_true,decide_false,reduceCtorEq,BEq.rfl,beq_self_eq_true,bne_self_eq_false,ite_true,ite_false,if_true,if_false,reduceIte,hg,e1]
     refine fin_run ?_ (hK _ ?_)<;>clear hK<;>clear K
     ·omega
     refine ⟨rfl,[0],?_⟩; simp only [AV.p.injEq,AV.sl.injEq,AV.ptr.injEq,Blk.own.injEq,PV.int.injEq,PV.bool.injEq,PV.list.injEq,Nat.sub_zero,Int.natCast_add,List.length_append,take_take_len,take_app1,take_app2,Le,LeH,LeS,LeB,ren,ren1,scA,sc1,List.nodup_cons,List.nodup_nil,List.mem_cons,List.not_mem_nil,or_false,not_false_eq_true,ev0,aops,xstep,guardA,opA,tab,binA,binInt,arith,unA,pickA,convA,allocA,boxA,loadA,storeA,fieldAddrA,fieldA,indexAddrA,lenA,lenS,sliceA,boundA,makeSliceA,elemsA,appendA,buildA,fillA,buildSliceA,partsA,extractA,builtinA,minmaxA,AV.cells,AV.isAgg,allP,mkAgg,hget,hset,isRow,cellOk,setC,after,dstOk,St.put,St.get,lk,St.ev,cv,PV.one,Int.reduceToNat,entry,ent,Nat.reduceAdd,Nat.reduceLT,Nat.reduceBEq,Nat.reduceEqDiff,Nat.reduceLeDiff,Nat.reduceMul,Nat.reduceSub,Int.cast_ofNat_Int,decide_true,decide_false,reduceCtorEq,BEq.rfl,beq_self_eq_true,bne_self_eq_false,ite_true,ite_false,if_true,if_false,reduceIte]; (first|exact trivial|omega|(simp only [In64] at *; omega)|(rw [Bool.eq_iff_iff]; simp; done)|(rw [Bool.eq_iff_iff]; simp; omega)|(simp [In64] at *; omega)|(simp_all; done)|(simp_all [In64]<;>omega)|skip)
   ·refine hk_cond rfl (fun hc=>?_) (fun hc=>?_)
    ·repeat (first|refine qa ?_|refine qb ?_|refine qc ?_|refine qd ?_|refine qe ?_|refine qf ?_|refine qg rfl ?_|refine qh ?_|refine qi ?_|refine qj ?_|refine qk ?_|refine ql ?_|refine qm ?_)
     refine hk_region fun K hK=>runs_eval tab_ok ?_
     simp only [ev0,aops,xstep,guardA,opA,tab,binA,binInt,arith,unA,pickA,convA,allocA,boxA,loadA,storeA,fieldAddrA,fieldA,indexAddrA,lenA,lenS,sliceA,boundA,makeSliceA,elemsA,appendA,buildA,fillA,buildSliceA,partsA,extractA,builtinA,minmaxA,AV.cells,AV.isAgg,allP,mkAgg,hget,hset,isRow,cellOk,setC,after,dstOk,St.put,St.get,lk,St.ev,cv,PV.one,Int.reduceToNat,entry,ent,Nat.reduceAdd,Nat.reduceLT,Nat.reduceBEq,Nat.reduceEqDiff,Nat.reduceLeDiff,Nat.reduceMul,Nat.reduceSub,Int.cast_ofNat_Int,decide_true,decide_false,reduceCtorEq,BEq.rfl,beq_self_eq_true,bne_self_eq_false,ite_true,ite_false,if_true,if_false,reduceIte]
     refine fin_stop trivial (runs_call (f_c 3 i) rfl rfl rfl (by simp only [dstOk,Nat.reduceLT]) (by repeat (first|exact trivial|constructor)) (runs_eval tab_ok ?_))
     simp only [ev0,aops,xstep,guardA,opA,tab,binA,binInt,arith,unA,pickA,convA,allocA,boxA,loadA,storeA,fieldAddrA,fieldA,indexAddrA,lenA,lenS,sliceA,boundA,makeSliceA,elemsA,appendA,buildA,fillA,buildSliceA,partsA,extractA,builtinA,minmaxA,AV.cells,AV.isAgg,allP,mkAgg,hget,hset,isRow,cellOk,setC,after,dstOk,St.put,St.get,lk,St.ev,cv,PV.one,Int.reduceToNat,entry,ent,Nat.reduceAdd,Nat.reduceLT,Nat.reduceBEq,Nat.reduceEqDiff,Nat.reduceLeDiff,Nat.reduceMul,Nat.reduceSub,Int.cast_ofNat_Int,decide_true,decide_false,reduceCtorEq,BEq.rfl,beq_self_eq_true,bne_self_eq_false,ite_true,ite_false,if_true,if_false,reduceIte]
     refine fin_run trivial (hK _ ?_)<;>clear hK<;>clear K
     repeat (first|refine qa ?_|refine qb ?_|refine qc ?_|refine qd ?_|refine qe ?_|refine qf ?_|refine qg rfl ?_|refine qh ?_|refine qi ?_|refine qj ?_|refine qk ?_|refine ql ?_|refine qm ?_)
     simp only [Try.results28,Post,endA,rvsA,rvA,mkTup,peekA,peekG,peekS,peekList,PV.norm,PV.norm1,PV.norm0,PV.list.injEq,PV.tup.injEq,PV.agg.injEq,PV.int.injEq,PV.bool.injEq,List.cons.injEq,ev0,aops,xstep,guardA,opA,tab,binA,binInt,arith,unA,pickA,convA,allocA,boxA,loadA,storeA,fieldAddrA,fieldA,indexAddrA,lenA,lenS,sliceA,boundA,makeSliceA,elemsA,appendA,buildA,fillA,buildSliceA,partsA,extractA,builtinA,minmaxA,AV.cells,AV.isAgg,allP,mkAgg,hget,hset,isRow,cellOk,setC,after,dstOk,St.put,St.get,lk,St.ev,cv,PV.one,Int.reduceToNat,entry,ent,Nat.reduceAdd,Nat.reduceLT,Nat.reduceBEq,Nat.reduceEqDiff,Nat.reduceLeDiff,Nat.reduceMul,Nat.reduceSub,Int.cast_ofNat_Int,decide_true,decide_false,reduceCtorEq,BEq.rfl,beq_self_eq_true,bne_self_eq_false,ite_true,ite_false,if_true,if_false,reduceIte]
     rw [check,if_neg (by omega),last (of_decide_eq_true hc)]; rfl
    ·repeat (first|refine qa ?_|refine qb ?_|refine qc ?_|refine qd ?_|refine qe ?_|refine qf ?_|refine qg rfl ?_|refine qh ?_|refine qi ?_|refine qj ?_|refine qk ?_|refine ql ?_|refine qm ?_)
     refine hk_region fun K hK=>runs_eval tab_ok ?_
     simp only [ev0,aops,xstep,guardA,opA,tab,binA,binInt,arith,unA,pickA,convA,allocA,boxA,loadA,storeA,fieldAddrA,fieldA,indexAddrA,lenA,lenS,sliceA,boundA,makeSliceA,elemsA,appendA,buildA,fillA,buildSliceA,partsA,extractA,builtinA,minmaxA,AV.cells,AV.isAgg,allP,mkAgg,hget,hset,isRow,cellOk,setC,after,dstOk,St.put,St.get,lk,St.ev,cv,PV.one,Int.reduceToNat,entry,ent,Nat.reduceAdd,Nat.reduceLT,Nat.reduceBEq,Nat.reduceEqDiff,Nat.reduceLeDiff,Nat.reduceMul,Nat.reduceSub,Int.cast_ofNat_Int,decide_true,decide_false,reduceCtorEq,BEq.rfl,beq_self_eq_true,bne_self_eq_false,ite_true,ite_false,if_true,if_false,reduceIte]
     refine fin_run ?_ (hK _ ?_)<;>clear hK<;>clear K
     ·(first|exact trivial|omega|(simp only [In64] at *; omega)|(rw [Bool.eq_iff_iff]; simp; done)|(rw [Bool.eq_iff_iff]; simp; omega)|(simp [In64] at *; omega)|(simp_all; done)|(simp_all [In64]<;>omega)|skip)
     repeat (first|refine qa ?_|refine qb ?_|refine qc ?_|refine qd ?_|refine qe ?_|refine qf ?_|refine qg rfl ?_|refine qh ?_|refine qi ?_|refine qj ?_|refine qk ?_|refine ql ?_|refine qm ?_)
     refine ⟨i + 1,[0],⟨by omega,next (of_decide_eq_false hc)⟩,by omega,?_⟩
     simp only [AV.p.injEq,AV.sl.injEq,AV.ptr.injEq,Blk.own.injEq,PV.int.injEq,PV.bool.injEq,PV.list.injEq,Nat.sub_zero,Int.natCast_add,List.length_append,take_take_len,take_app1,take_app2,Le,LeH,LeS,LeB,ren,ren1,scA,sc1,List.nodup_cons,List.nodup_nil,List.mem_cons,List.not_mem_nil,or_false,not_false_eq_true,ev0,aops,xstep,guardA,opA,tab,binA,binInt,arith,unA,pickA,convA,allocA,boxA,loadA,storeA,fieldAddrA,fieldA,indexAddrA,lenA,lenS,sliceA,boundA,makeSliceA,elemsA,appendA,buildA,fillA,buildSliceA,partsA,extractA,builtinA,minmaxA,AV.cells,AV.isAgg,allP,mkAgg,hget,hset,isRow,cellOk,setC,after,dstOk,St.put,St.get,lk,St.ev,cv,PV.one,Int.reduceToNat,entry,ent,Nat.reduceAdd,Nat.reduceLT,Nat.reduceBEq,Nat.reduceEqDiff,Nat.reduceLeDiff,Nat.reduceMul,Nat.reduceSub,Int.cast_ofNat_Int,decide_true,decide_false,reduceCtorEq,BEq.rfl,beq_self_eq_true,bne_self_eq_false,ite_true,ite_false,if_true,if_false,reduceIte]<;>(first|exact trivial|omega|(simp only [In64] at *; omega)|(rw [Bool.eq_iff_iff]; simp; done)|(rw [Bool.eq_iff_iff]; simp; omega)|(simp [In64] at *; omega)|(simp_all; done)|(simp_all [In64]<;>omega)|skip)
  ·repeat (first|refine qa ?_|refine qb ?_|refine qc ?_|refine qd ?_|refine qe ?_|refine qf ?_|refine qg rfl ?_|refine qh ?_|refine qi ?_|refine qj ?_|refine qk ?_|refine ql ?_|refine qm ?_)
   (refine hk_region fun K hK=>runs_eval tab_ok ?_); simp only [ev0,aops,xstep,guardA,opA,tab,binA,binInt,arith,unA,pickA,convA,allocA,boxA,loadA,storeA,fieldAddrA,fieldA,indexAddrA,lenA,lenS,sliceA,boundA,makeSliceA,elemsA,appendA,buildA,fillA,buildSliceA,partsA,extractA,builtinA,minmaxA,AV.cells,AV.isAgg,allP,mkAgg,hget,hset,isRow,cellOk,setC,after,dstOk,St.put,St.get,lk,St.ev,cv,PV.one,Int.reduceToNat,entry,ent,Nat.reduceAdd,Nat.reduceLT,Nat.reduceBEq,Nat.reduceEqDiff,Nat.reduceLeDiff,Nat.reduceMul,Nat.reduceSub,Int.cast_ofNat_Int,decide_true,decide_false,reduceCtorEq,BEq.rfl,beq_self_eq_true,bne_self_eq_false,ite_true,ite_false,if_true,if_false,reduceIte]; refine fin_run trivial (hK _ ?_)<;>clear hK<;>clear K; repeat (first|refine qa ?_|refine qb ?_|refine qc ?_|refine qd ?_|refine qe ?_|refine qf ?_|refine qg rfl ?_|refine qh ?_|refine qi ?_|refine qj ?_|refine qk ?_|refine ql ?_|refine qm ?_)
   simp only [Try.results28,Post,endA,rvsA,rvA,mkTup,peekA,peekG,peekS,peekList,PV.norm,PV.norm1,PV.norm0,PV.list.injEq,PV.tup.injEq,PV.agg.injEq,PV.int.injEq,PV.bool.injEq,List.cons.injEq,ev0,aops,xstep,guardA,opA,tab,binA,binInt,arith,unA,pickA,convA,allocA,boxA,loadA,storeA,fieldAddrA,fieldA,indexAddrA,lenA,lenS,sliceA,boundA,makeSliceA,elemsA,appendA,buildA,fillA,buildSliceA,partsA,extractA,builtinA,minmaxA,AV.cells,AV.isAgg,allP,mkAgg,hget,hset,isRow,cellOk,setC,after,dstOk,St.put,St.get,lk,St.ev,cv,PV.one,Int.reduceToNat,entry,ent,Nat.reduceAdd,Nat.reduceLT,Nat.reduceBEq,Nat.reduceEqDiff,Nat.reduceLeDiff,Nat.reduceMul,Nat.reduceSub,Int.cast_ofNat_Int,decide_true,decide_false,reduceCtorEq,BEq.rfl,beq_self_eq_true,bne_self_eq_false,ite_true,ite_false,if_true,if_false,reduceIte]
   have:i=w.length:=by have:=of_decide_eq_false hlt; omega
   rw [check,if_neg (by omega),← hi.2,this,List.drop_length]; rfl

theorem reduced_c (w0:List Int) (hl:w0.length≤1000000000) (hs:Sm w0):FnC Try.prog 22 [.list (il w0)] (.list (il (short w0))):=by
 refine fnc_of tab_ok Try.func22 rfl (by kernel_rfl) (by rw [Try.ntmps22]; exact Nat.le_add_left 1 _) ?_; rw [Try.ntmps22]; repeat (first|refine qa ?_|refine qb ?_|refine qc ?_|refine qd ?_|refine qe ?_|refine qf ?_|refine qg rfl ?_|refine qh ?_|refine qi ?_|refine qj ?_|refine qk ?_|refine ql ?_|refine qm ?_)
 (refine hk_region fun K hK=>runs_eval tab_ok ?_); simp only [ev0,aops,xstep,guardA,opA,tab,binA,binInt,arith,unA,pickA,convA,allocA,boxA,loadA,storeA,fieldAddrA,fieldA,indexAddrA,lenA,lenS,sliceA,boundA,makeSliceA,elemsA,appendA,buildA,fillA,buildSliceA,partsA,extractA,builtinA,minmaxA,AV.cells,AV.isAgg,allP,mkAgg,hget,hset,isRow,cellOk,setC,after,dstOk,St.put,St.get,lk,St.ev,cv,PV.one,Int.reduceToNat,entry,ent,Nat.reduceAdd,Nat.reduceLT,Nat.reduceBEq,Nat.reduceEqDiff,Nat.reduceLeDiff,Nat.reduceMul,Nat.reduceSub,Int.cast_ofNat_Int,decide_true,decide_false,reduceCtorEq,BEq.rfl,beq_self_eq_true,bne_self_eq_false,ite_true,ite_false,if_true,if_false,reduceIte]; refine fin_run trivial (hK _ ?_)<;>clear hK<;>clear K; repeat (first|refine qa ?_|refine qb ?_|refine qc ?_|refine qd ?_|refine qe ?_|refine qf ?_|refine qg rfl ?_|refine qh ?_|refine qi ?_|refine qj ?_|refine qk ?_|refine ql ?_|refine qm ?_)
 refine hk_region fun K hK=>runs_eval tab_ok ?_
 simp only [ev0,aops,xstep,guardA,opA,tab,binA,binInt,arith,unA,pickA,convA,allocA,boxA,loadA,storeA,fieldAddrA,fieldA,indexAddrA,lenA,lenS,sliceA,boundA,makeSliceA,elemsA,appendA,buildA,fillA,buildSliceA,partsA,extractA,builtinA,minmaxA,AV.cells,AV.isAgg,allP,mkAgg,hget,hset,isRow,cellOk,setC,after,dstOk,St.put,St.get,lk,St.ev,cv,PV.one,Int.reduceToNat,entry,ent,Nat.reduceAdd,Nat.reduceLT,Nat.reduceBEq,Nat.reduceEqDiff,Nat.reduceLeDiff,Nat.reduceMul,Nat.reduceSub,Int.cast_ofNat_Int,decide_true,decide_false,reduceCtorEq,BEq.rfl,beq_self_eq_true,bne_self_eq_false,ite_true,ite_false,if_true,if_false,reduceIte]
 refine fin_run ?_ (hK _ ?_)<;>clear hK<;>clear K
 ·(first|exact trivial|omega|(simp only [In64] at *; omega)|(rw [Bool.eq_iff_iff]; simp; done)|(rw [Bool.eq_iff_iff]; simp; omega)|(simp [In64] at *; omega)|(simp_all; done)|(simp_all [In64]<;>omega)|skip)
 repeat (first|refine qa ?_|refine qb ?_|refine qc ?_|refine qd ?_|refine qe ?_|refine qf ?_|refine qg rfl ?_|refine qh ?_|refine qi ?_|refine qj ?_|refine qk ?_|refine ql ?_|refine qm ?_)
 (refine hk_region fun K hK=>runs_eval tab_ok ?_); simp only [ev0,aops,xstep,guardA,opA,tab,binA,binInt,arith,unA,pickA,convA,allocA,boxA,loadA,storeA,fieldAddrA,fieldA,indexAddrA,lenA,lenS,sliceA,boundA,makeSliceA,elemsA,appendA,buildA,fillA,buildSliceA,partsA,extractA,builtinA,minmaxA,AV.cells,AV.isAgg,allP,mkAgg,hget,hset,isRow,cellOk,setC,after,dstOk,St.put,St.get,lk,St.ev,cv,PV.one,Int.reduceToNat,entry,ent,Nat.reduceAdd,Nat.reduceLT,Nat.reduceBEq,Nat.reduceEqDiff,Nat.reduceLeDiff,Nat.reduceMul,Nat.reduceSub,Int.cast_ofNat_Int,decide_true,decide_false,reduceCtorEq,BEq.rfl,beq_self_eq_true,bne_self_eq_false,ite_true,ite_false,if_true,if_false,reduceIte]; refine fin_run trivial (hK _ ?_)<;>clear hK<;>clear K; repeat (first|refine qa ?_|refine qb ?_|refine qc ?_|refine qd ?_|refine qe ?_|refine qf ?_|refine qg rfl ?_|refine qh ?_|refine qi ?_|refine qj ?_|refine qk ?_|refine ql ?_|refine qm ?_)
 refine hk_loop (ι:=List Int × Nat) (fun p=>⟨37,[(0,.sl 0 0 p.1.length),(3,.p (.int .i64 p.2))],[.own (ol p.1)]⟩)
  (fun p=>p.2≤p.1.length∧p.1.length≤w0.length∧Sm p.1∧short p.1=short w0∧∀ j,j < p.2→j + 1 < p.1.length→p.1.getD j 0 ≠ -(p.1.getD (j + 1) 0)) (fun p=>2 * p.1.length - p.2) (w0,0)
  ⟨Nat.zero_le _,Nat.le_refl _,hs,rfl,fun j hj=>by omega⟩ [0] (by simp only [AV.p.injEq,AV.sl.injEq,AV.ptr.injEq,Blk.own.injEq,PV.int.injEq,PV.bool.injEq,PV.list.injEq,Nat.sub_zero,Int.natCast_add,List.length_append,take_take_len,take_app1,take_app2,Le,LeH,LeS,LeB,ren,ren1,scA,sc1,List.nodup_cons,List.nodup_nil,List.mem_cons,List.not_mem_nil,or_false,not_false_eq_true,ev0,aops,xstep,guardA,opA,tab,binA,binInt,arith,unA,pickA,convA,allocA,boxA,loadA,storeA,fieldAddrA,fieldA,indexAddrA,lenA,lenS,sliceA,boundA,makeSliceA,elemsA,appendA,buildA,fillA,buildSliceA,partsA,extractA,builtinA,minmaxA,AV.cells,AV.isAgg,allP,mkAgg,hget,hset,isRow,cellOk,setC,after,dstOk,St.put,St.get,lk,St.ev,cv,PV.one,Int.reduceToNat,entry,ent,Nat.reduceAdd,Nat.reduceLT,Nat.reduceBEq,Nat.reduceEqDiff,Nat.reduceLeDiff,Nat.reduceMul,Nat.reduceSub,Int.cast_ofNat_Int,decide_true,decide_false,reduceCtorEq,BEq.rfl,beq_self_eq_true,bne_self_eq_false,ite_true,ite_false,if_true,if_false,reduceIte]<;>trivial) ?_
 rintro ⟨w,i⟩ ⟨h1,h2,h3,h4,h5⟩
 simp only at h1 h2 h3 h4 h5
 repeat (first|refine qa ?_|refine qb ?_|refine qc ?_|refine qd ?_|refine qe ?_|refine qf ?_|refine qg rfl ?_|refine qh ?_|refine qi ?_|refine qj ?_|refine qk ?_|refine ql ?_|refine qm ?_)
 refine hk_region fun K hK=>runs_eval tab_ok ?_
 simp only [ev0,aops,xstep,guardA,opA,tab,binA,binInt,arith,unA,pickA,convA,allocA,boxA,loadA,storeA,fieldAddrA,fieldA,indexAddrA,lenA,lenS,sliceA,boundA,makeSliceA,elemsA,appendA,buildA,fillA,buildSliceA,partsA,extractA,builtinA,minmaxA,AV.cells,AV.isAgg,allP,mkAgg,hget,hset,isRow,cellOk,setC,after,dstOk,St.put,St.get,lk,St.ev,cv,PV.one,Int.reduceToNat,entry,ent,Nat.reduceAdd,Nat.reduceLT,Nat.reduceBEq,Nat.reduceEqDiff,Nat.reduceLeDiff,Nat.reduceMul,Nat.reduceSub,Int.cast_ofNat_Int,decide_true,decide_false,reduceCtorEq,BEq.rfl,beq_self_eq_true,bne_self_eq_false,ite_true,ite_false,if_true,if_false,reduceIte]
 refine fin_run ?_ (hK _ ?_)<;>clear hK<;>clear K
 ·simp only [In64]; omega
 repeat (first|refine qa ?_|refine qb ?_|refine qc ?_|refine qd ?_|refine qe ?_|refine qf ?_|refine qg rfl ?_|refine qh ?_|refine qi ?_|refine qj ?_|refine qk ?_|refine ql ?_|refine qm ?_)
 refine hk_cond rfl (fun hlt=>?_) (fun hlt=>?_)
 ·repeat (first|refine qa ?_|refine qb ?_|refine qc ?_|refine qd ?_|refine qe ?_|refine qf ?_|refine qg rfl ?_|refine qh ?_|refine qi ?_|refine qj ?_|refine qk ?_|refine ql ?_|refine qm ?_)
  have hlt:i + 1 < w.length:=by have:=of_decide_eq_true hlt; omega
  have hx:=h3 (w.getD (i + 1) 0) (by simp [List.getD,List.getElem?_eq_getElem hlt])
  have hcat:=splice hlt
  refine hk_draw mixed (by kernel_rfl) fun K hK=>runs_eval tab_ok ?_
  simp only [ev0,aops,xstep,guardA,opA,tab,binA,binInt,arith,unA,pickA,convA,allocA,boxA,loadA,storeA,fieldAddrA,fieldA,indexAddrA,lenA,lenS,sliceA,boundA,makeSliceA,elemsA,appendA,buildA,fillA,buildSliceA,partsA,extractA,builtinA,minmaxA,AV.cells,AV.isAgg,allP,mkAgg,hget,hset,isRow,cellOk,setC,after,dstOk,St.put,St.get,lk,St.ev,cv,PV.one,Int.reduceToNat,entry,ent,Nat.reduceAdd,Nat.reduceLT,Nat.reduceBEq,Nat.reduceEqDiff,Nat.reduceLeDiff,Nat.reduceMul,Nat.reduceSub,Int.cast_ofNat_Int,decide_true,decide_false,reduceCtorEq,BEq.rfl,beq_self_eq_true,bne_self_eq_false,ite_true,ite_false,if_true,if_false,reduceIte,ol_get hlt,ol_get (show i < w.length by omega)]
  refine fin_run ?_ (hK _ ?_)<;>clear hK<;>clear K
  ·simp only [In64]; omega
  repeat (first|refine qa ?_|refine qb ?_|refine qc ?_|refine qd ?_|refine qe ?_|refine qf ?_|refine qg rfl ?_|refine qh ?_|refine qi ?_|refine qj ?_|refine qk ?_|refine ql ?_|refine qm ?_)
  refine hk_cond rfl (fun hc=>?_) (fun hc=>?_)
  ·have hc:w.getD i 0 = -(w.getD (i + 1) 0):=by simpa using hc
   have hc' : w.getD (i + 1) 0 = -(w.getD i 0):=by omega
   repeat (first|refine qa ?_|refine qb ?_|refine qc ?_|refine qd ?_|refine qe ?_|refine qf ?_|refine qg rfl ?_|refine qh ?_|refine qi ?_|refine qj ?_|refine qk ?_|refine ql ?_|refine qm ?_)
   have e2:((i:Int) + 2).toNat=i + 2:=by omega
   refine hk_draw mixed (by kernel_rfl) fun K hK=>runs_eval tab_ok ?_
   simp only [ev0,aops,xstep,guardA,opA,tab,binA,binInt,arith,unA,pickA,convA,allocA,boxA,loadA,storeA,fieldAddrA,fieldA,indexAddrA,lenA,lenS,sliceA,boundA,makeSliceA,elemsA,appendA,buildA,fillA,buildSliceA,partsA,extractA,builtinA,minmaxA,AV.cells,AV.isAgg,allP,mkAgg,hget,hset,isRow,cellOk,setC,after,dstOk,St.put,St.get,lk,St.ev,cv,PV.one,Int.reduceToNat,entry,ent,Nat.reduceAdd,Nat.reduceLT,Nat.reduceBEq,Nat.reduceEqDiff,Nat.reduceLeDiff,Nat.reduceMul,Nat.reduceSub,Int.cast_ofNat_Int,decide_true,decide_false,reduceCtorEq,BEq.rfl,beq_self_eq_true,bne_self_eq_false,ite_true,ite_false,if_true,if_false,reduceIte,e2]
   have e3:List.take (w.length - (i + 2)) (List.drop (i + 2) w)=w.drop (i + 2):=List.take_of_length_le (by simp)
   have hw:∃ w',w' = w.take i++w.drop (i + 2)∧w'.length=w.length - 2:=⟨_,rfl,by simp; omega⟩
   obtain ⟨w',hw1,hw2⟩:=hw
   have e4:i + (List.drop (i + 2) w).length=w'.length:=by rw [hw1]; simp; omega
   simp only [e3,e4,← hw1]
   refine fin_run ?_ (hK _ ?_)<;>clear hK<;>clear K
   ·simp only [In64]; omega
   have hs' : short w' = short w0:=by
    rw [← h4,hcat,hc',short_cancel,hw1]
   have hm' : Sm w':=by
    rw [hw1]
    exact Sm.app (fun x hx=>h3 x (List.mem_of_mem_take hx)) (fun x hx=>h3 x (List.mem_of_mem_drop hx))
   have h5' : ∀ (i' : Nat),i'≤i - 1→∀ j,j < i'→j + 1 < w'.length→w'.getD j 0 ≠ -(w'.getD (j + 1) 0):=by
    intro i' hi' j hj hj2
    have hli:(w.take i).length=i:=by simp; omega
    rw [hw1,getD_app1 (by omega),getD_app1 (by omega),getD_take (by omega),getD_take (by omega)]
    exact h5 j (by omega) (by omega)
   repeat (first|refine qa ?_|refine qb ?_|refine qc ?_|refine qd ?_|refine qe ?_|refine qf ?_|refine qg rfl ?_|refine qh ?_|refine qi ?_|refine qj ?_|refine qk ?_|refine ql ?_|refine qm ?_)
   (refine hk_region fun K hK=>runs_eval tab_ok ?_); simp only [ev0,aops,xstep,guardA,opA,tab,binA,binInt,arith,unA,pickA,convA,allocA,boxA,loadA,storeA,fieldAddrA,fieldA,indexAddrA,lenA,lenS,sliceA,boundA,makeSliceA,elemsA,appendA,buildA,fillA,buildSliceA,partsA,extractA,builtinA,minmaxA,AV.cells,AV.isAgg,allP,mkAgg,hget,hset,isRow,cellOk,setC,after,dstOk,St.put,St.get,lk,St.ev,cv,PV.one,Int.reduceToNat,entry,ent,Nat.reduceAdd,Nat.reduceLT,Nat.reduceBEq,Nat.reduceEqDiff,Nat.reduceLeDiff,Nat.reduceMul,Nat.reduceSub,Int.cast_ofNat_Int,decide_true,decide_false,reduceCtorEq,BEq.rfl,beq_self_eq_true,bne_self_eq_false,ite_true,ite_false,if_true,if_false,reduceIte]; refine fin_run trivial (hK _ ?_)<;>clear hK<;>clear K; repeat (first|refine qa ?_|refine qb ?_|refine qc ?_|refine qd ?_|refine qe ?_|refine qf ?_|refine qg rfl ?_|refine qh ?_|refine qi ?_|refine qj ?_|refine qk ?_|refine ql ?_|refine qm ?_)
   refine hk_cond rfl (fun hp=>?_) (fun hp=>?_)
   ·have hp:0 < i:=by have:=of_decide_eq_true hp; omega
    repeat (first|refine qa ?_|refine qb ?_|refine qc ?_|refine qd ?_|refine qe ?_|refine qf ?_|refine qg rfl ?_|refine qh ?_|refine qi ?_|refine qj ?_|refine qk ?_|refine ql ?_|refine qm ?_)
    refine hk_region fun K hK=>runs_eval tab_ok ?_
    simp only [ev0,aops,xstep,guardA,opA,tab,binA,binInt,arith,unA,pickA,convA,allocA,boxA,loadA,storeA,fieldAddrA,fieldA,indexAddrA,lenA,lenS,sliceA,boundA,makeSliceA,elemsA,appendA,buildA,fillA,buildSliceA,partsA,extractA,builtinA,minmaxA,AV.cells,AV.isAgg,allP,mkAgg,hget,hset,isRow,cellOk,setC,after,dstOk,St.put,St.get,lk,St.ev,cv,PV.one,Int.reduceToNat,entry,ent,Nat.reduceAdd,Nat.reduceLT,Nat.reduceBEq,Nat.reduceEqDiff,Nat.reduceLeDiff,Nat.reduceMul,Nat.reduceSub,Int.cast_ofNat_Int,decide_true,decide_false,reduceCtorEq,BEq.rfl,beq_self_eq_true,bne_self_eq_false,ite_true,ite_false,if_true,if_false,reduceIte]
    refine fin_run ?_ (hK _ ?_)<;>clear hK<;>clear K
    ·simp only [In64]; omega
    repeat (first|refine qa ?_|refine qb ?_|refine qc ?_|refine qd ?_|refine qe ?_|refine qf ?_|refine qg rfl ?_|refine qh ?_|refine qi ?_|refine qj ?_|refine qk ?_|refine ql ?_|refine qm ?_)
    refine ⟨(w',i - 1),[1],⟨by simp only; omega,by simp only; omega,hm',hs',h5' (i - 1) (Nat.le_refl _)⟩,by simp only; omega,?_⟩
    simp only [AV.p.injEq,AV.sl.injEq,AV.ptr.injEq,Blk.own.injEq,PV.int.injEq,PV.bool.injEq,PV.list.injEq,Nat.sub_zero,Int.natCast_add,List.length_append,take_take_len,take_app1,take_app2,Le,LeH,LeS,LeB,ren,ren1,scA,sc1,List.nodup_cons,List.nodup_nil,List.mem_cons,List.not_mem_nil,or_false,not_false_eq_true,ev0,aops,xstep,guardA,opA,tab,binA,binInt,arith,unA,pickA,convA,allocA,boxA,loadA,storeA,fieldAddrA,fieldA,indexAddrA,lenA,lenS,sliceA,boundA,makeSliceA,elemsA,appendA,buildA,fillA,buildSliceA,partsA,extractA,builtinA,minmaxA,AV.cells,AV.isAgg,allP,mkAgg,hget,hset,isRow,cellOk,setC,after,dstOk,St.put,St.get,lk,St.ev,cv,PV.one,Int.reduceToNat,entry,ent,Nat.reduceAdd,Nat.reduceLT,Nat.reduceBEq,Nat.reduceEqDiff,Nat.reduceLeDiff,Nat.reduceMul,Nat.reduceSub,Int.cast_ofNat_Int,decide_true,decide_false,reduceCtorEq,BEq.rfl,beq_self_eq_true,bne_self_eq_false,ite_true,ite_false,if_true,if_false,reduceIte]<;>omega
   ·have hp:i=0:=by have:=of_decide_eq_false hp; omega
    subst hp
    repeat (first|refine qa ?_|refine qb ?_|refine qc ?_|refine qd ?_|refine qe ?_|refine qf ?_|refine qg rfl ?_|refine qh ?_|refine qi ?_|refine qj ?_|refine qk ?_|refine ql ?_|refine qm ?_)
    refine ⟨(w',0),[1],⟨Nat.zero_le _,by simp only; omega,hm',hs',h5' 0 (Nat.le_refl _)⟩,by simp only; omega,?_⟩
    simp only [AV.p.injEq,AV.sl.injEq,AV.ptr.injEq,Blk.own.injEq,PV.int.injEq,PV.bool.injEq,PV.list.injEq,Nat.sub_zero,Int.natCast_add,List.length_append,take_take_len,take_app1,take_app2,Le,LeH,LeS,LeB,ren,ren1,scA,sc1,List.nodup_cons,List.nodup_nil,List.mem_cons,List.not_mem_nil,or_false,not_false_eq_true,ev0,aops,xstep,guardA,opA,tab,binA,binInt,arith,unA,pickA,convA,allocA,boxA,loadA,storeA,fieldAddrA,fieldA,indexAddrA,lenA,lenS,sliceA,boundA,makeSliceA,elemsA,appendA,buildA,fillA,buildSliceA,partsA,extractA,builtinA,minmaxA,AV.cells,AV.isAgg,allP,mkAgg,hget,hset,isRow,cellOk,setC,after,dstOk,St.put,St.get,lk,St.ev,cv,PV.one,Int.reduceToNat,entry,ent,Nat.reduceAdd,Nat.reduceLT,Nat.reduceBEq,Nat.reduceEqDiff,Nat.reduceLeDiff,Nat.reduceMul,Nat.reduceSub,Int.cast_ofNat_Int,decide_true,decide_false,reduceCtorEq,BEq.rfl,beq_self_eq_true,bne_self_eq_false,ite_true,ite_false,if_true,if_false,reduceIte]<;>trivial
  ·have hc:w.getD i 0 ≠ -(w.getD (i + 1) 0):=by simpa using hc
   repeat (first|refine qa ?_|refine qb ?_|refine qc ?_|refine qd ?_|refine qe ?_|refine qf ?_|refine qg rfl ?_|refine qh ?_|refine qi ?_|refine qj ?_|refine qk ?_|refine ql ?_|refine qm ?_)
   refine hk_region fun K hK=>runs_eval tab_ok ?_
   simp only [ev0,aops,xstep,guardA,opA,tab,binA,binInt,arith,unA,pickA,convA,allocA,boxA,loadA,storeA,fieldAddrA,fieldA,indexAddrA,lenA,lenS,sliceA,boundA,makeSliceA,elemsA,appendA,buildA,fillA,buildSliceA,partsA,extractA,builtinA,minmaxA,AV.cells,AV.isAgg,allP,mkAgg,hget,hset,isRow,cellOk,setC,after,dstOk,St.put,St.get,lk,St.ev,cv,PV.one,Int.reduceToNat,entry,ent,Nat.reduceAdd,Nat.reduceLT,Nat.reduceBEq,Nat.reduceEqDiff,Nat.reduceLeDiff,Nat.reduceMul,Nat.reduceSub,Int.cast_ofNat_Int,decide_true,decide_false,reduceCtorEq,BEq.rfl,beq_self_eq_true,bne_self_eq_false,ite_true,ite_false,if_true,if_false,reduceIte]
   refine fin_run ?_ (hK _ ?_)<;>clear hK<;>clear K
   ·simp only [In64]; omega
   repeat (first|refine qa ?_|refine qb ?_|refine qc ?_|refine qd ?_|refine qe ?_|refine qf ?_|refine qg rfl ?_|refine qh ?_|refine qi ?_|refine qj ?_|refine qk ?_|refine ql ?_|refine qm ?_)
   refine ⟨(w,i + 1),[0],⟨by simp only; omega,h2,h3,h4,fun j hj hj2=>?_⟩,by simp only; omega,?_⟩
   ·simp only at hj hj2
    by_cases e:j=i
    ·subst e; exact hc
    ·exact h5 j (by omega) hj2
   ·simp only [AV.p.injEq,AV.sl.injEq,AV.ptr.injEq,Blk.own.injEq,PV.int.injEq,PV.bool.injEq,PV.list.injEq,Nat.sub_zero,Int.natCast_add,List.length_append,take_take_len,take_app1,take_app2,Le,LeH,LeS,LeB,ren,ren1,scA,sc1,List.nodup_cons,List.nodup_nil,List.mem_cons,List.not_mem_nil,or_false,not_false_eq_true,ev0,aops,xstep,guardA,opA,tab,binA,binInt,arith,unA,pickA,convA,allocA,boxA,loadA,storeA,fieldAddrA,fieldA,indexAddrA,lenA,lenS,sliceA,boundA,makeSliceA,elemsA,appendA,buildA,fillA,buildSliceA,partsA,extractA,builtinA,minmaxA,AV.cells,AV.isAgg,allP,mkAgg,hget,hset,isRow,cellOk,setC,after,dstOk,St.put,St.get,lk,St.ev,cv,PV.one,Int.reduceToNat,entry,ent,Nat.reduceAdd,Nat.reduceLT,Nat.reduceBEq,Nat.reduceEqDiff,Nat.reduceLeDiff,Nat.reduceMul,Nat.reduceSub,Int.cast_ofNat_Int,decide_true,decide_false,reduceCtorEq,BEq.rfl,beq_self_eq_true,bne_self_eq_false,ite_true,ite_false,if_true,if_false,reduceIte]<;>omega
 ·repeat (first|refine qa ?_|refine qb ?_|refine qc ?_|refine qd ?_|refine qe ?_|refine qf ?_|refine qg rfl ?_|refine qh ?_|refine qi ?_|refine qj ?_|refine qk ?_|refine ql ?_|refine qm ?_)
  (refine hk_region fun K hK=>runs_eval tab_ok ?_); simp only [ev0,aops,xstep,guardA,opA,tab,binA,binInt,arith,unA,pickA,convA,allocA,boxA,loadA,storeA,fieldAddrA,fieldA,indexAddrA,lenA,lenS,sliceA,boundA,makeSliceA,elemsA,appendA,buildA,fillA,buildSliceA,partsA,extractA,builtinA,minmaxA,AV.cells,AV.isAgg,allP,mkAgg,hget,hset,isRow,cellOk,setC,after,dstOk,St.put,St.get,lk,St.ev,cv,PV.one,Int.reduceToNat,entry,ent,Nat.reduceAdd,Nat.reduceLT,Nat.reduceBEq,Nat.reduceEqDiff,Nat.reduceLeDiff,Nat.reduceMul,Nat.reduceSub,Int.cast_ofNat_Int,decide_true,decide_false,reduceCtorEq,BEq.rfl,beq_self_eq_true,bne_self_eq_false,ite_true,ite_false,if_true,if_false,reduceIte]; refine fin_run trivial (hK _ ?_)<;>clear hK<;>clear K; repeat (first|refine qa ?_|refine qb ?_|refine qc ?_|refine qd ?_|refine qe ?_|refine qf ?_|refine qg rfl ?_|refine qh ?_|refine qi ?_|refine qj ?_|refine qk ?_|refine ql ?_|refine qm ?_)
  simp only [Try.results22,Post,endA,rvsA,rvA,mkTup,peekA,peekG,peekS,peekList,PV.norm,PV.norm1,PV.norm0,PV.list.injEq,PV.tup.injEq,PV.agg.injEq,PV.int.injEq,PV.bool.injEq,List.cons.injEq,ev0,aops,xstep,guardA,opA,tab,binA,binInt,arith,unA,pickA,convA,allocA,boxA,loadA,storeA,fieldAddrA,fieldA,indexAddrA,lenA,lenS,sliceA,boundA,makeSliceA,elemsA,appendA,buildA,fillA,buildSliceA,partsA,extractA,builtinA,minmaxA,AV.cells,AV.isAgg,allP,mkAgg,hget,hset,isRow,cellOk,setC,after,dstOk,St.put,St.get,lk,St.ev,cv,PV.one,Int.reduceToNat,entry,ent,Nat.reduceAdd,Nat.reduceLT,Nat.reduceBEq,Nat.reduceEqDiff,Nat.reduceLeDiff,Nat.reduceMul,Nat.reduceSub,Int.cast_ofNat_Int,decide_true,decide_false,reduceCtorEq,BEq.rfl,beq_self_eq_true,bne_self_eq_false,ite_true,ite_false,if_true,if_false,reduceIte]
  have hlt:¬ i + 1 < w.length:=by have:=of_decide_eq_false hlt; omega
  rw [← h4,short_red fun j hj=>h5 j (by omega) hj]
  exact ⟨Nat.le_refl _,rfl⟩

theorem ints_c (v w:List Int) (hl:v.length≤1000000000):FnC Try.prog 21 [.list (il v),.list (il w)] (.bool (decide (v=w))):=by
 refine fnc_of tab_ok Try.func21 rfl (by kernel_rfl) (by rw [Try.ntmps21]; exact Nat.le_add_left 2 _) ?_; rw [Try.ntmps21]; repeat (first|refine qa ?_|refine qb ?_|refine qc ?_|refine qd ?_|refine qe ?_|refine qf ?_|refine qg rfl ?_|refine qh ?_|refine qi ?_|refine qj ?_|refine qk ?_|refine ql ?_|refine qm ?_)
 (refine hk_region fun K hK=>runs_eval tab_ok ?_); simp only [ev0,aops,xstep,guardA,opA,tab,binA,binInt,arith,unA,pickA,convA,allocA,boxA,loadA,storeA,fieldAddrA,fieldA,indexAddrA,lenA,lenS,sliceA,boundA,makeSliceA,elemsA,appendA,buildA,fillA,buildSliceA,partsA,extractA,builtinA,minmaxA,AV.cells,AV.isAgg,allP,mkAgg,hget,hset,isRow,cellOk,setC,after,dstOk,St.put,St.get,lk,St.ev,cv,PV.one,Int.reduceToNat,entry,ent,Nat.reduceAdd,Nat.reduceLT,Nat.reduceBEq,Nat.reduceEqDiff,Nat.reduceLeDiff,Nat.reduceMul,Nat.reduceSub,Int.cast_ofNat_Int,decide_true,decide_false,reduceCtorEq,BEq.rfl,beq_self_eq_true,bne_self_eq_false,ite_true,ite_false,if_true,if_false,reduceIte]; refine fin_run trivial (hK _ ?_)<;>clear hK<;>clear K; repeat (first|refine qa ?_|refine qb ?_|refine qc ?_|refine qd ?_|refine qe ?_|refine qf ?_|refine qg rfl ?_|refine qh ?_|refine qi ?_|refine qj ?_|refine qk ?_|refine ql ?_|refine qm ?_)
 (refine hk_region fun K hK=>runs_eval tab_ok ?_); simp only [ev0,aops,xstep,guardA,opA,tab,binA,binInt,arith,unA,pickA,convA,allocA,boxA,loadA,storeA,fieldAddrA,fieldA,indexAddrA,lenA,lenS,sliceA,boundA,makeSliceA,elemsA,appendA,buildA,fillA,buildSliceA,partsA,extractA,builtinA,minmaxA,AV.cells,AV.isAgg,allP,mkAgg,hget,hset,isRow,cellOk,setC,after,dstOk,St.put,St.get,lk,St.ev,cv,PV.one,Int.reduceToNat,entry,ent,Nat.reduceAdd,Nat.reduceLT,Nat.reduceBEq,Nat.reduceEqDiff,Nat.reduceLeDiff,Nat.reduceMul,Nat.reduceSub,Int.cast_ofNat_Int,decide_true,decide_false,reduceCtorEq,BEq.rfl,beq_self_eq_true,bne_self_eq_false,ite_true,ite_false,if_true,if_false,reduceIte]; refine fin_run trivial (hK _ ?_)<;>clear hK<;>clear K; repeat (first|refine qa ?_|refine qb ?_|refine qc ?_|refine qd ?_|refine qe ?_|refine qf ?_|refine qg rfl ?_|refine qh ?_|refine qi ?_|refine qj ?_|refine qk ?_|refine ql ?_|refine qm ?_)
 refine hk_cond rfl (fun hn=>?_) (fun hn=>?_)
 ·repeat (first|refine qa ?_|refine qb ?_|refine qc ?_|refine qd ?_|refine qe ?_|refine qf ?_|refine qg rfl ?_|refine qh ?_|refine qi ?_|refine qj ?_|refine qk ?_|refine ql ?_|refine qm ?_)
  (refine hk_region fun K hK=>runs_eval tab_ok ?_); simp only [ev0,aops,xstep,guardA,opA,tab,binA,binInt,arith,unA,pickA,convA,allocA,boxA,loadA,storeA,fieldAddrA,fieldA,indexAddrA,lenA,lenS,sliceA,boundA,makeSliceA,elemsA,appendA,buildA,fillA,buildSliceA,partsA,extractA,builtinA,minmaxA,AV.cells,AV.isAgg,allP,mkAgg,hget,hset,isRow,cellOk,setC,after,dstOk,St.put,St.get,lk,St.ev,cv,PV.one,Int.reduceToNat,entry,ent,Nat.reduceAdd,Nat.reduceLT,Nat.reduceBEq,Nat.reduceEqDiff,Nat.reduceLeDiff,Nat.reduceMul,Nat.reduceSub,Int.cast_ofNat_Int,decide_true,decide_false,reduceCtorEq,BEq.rfl,beq_self_eq_true,bne_self_eq_false,ite_true,ite_false,if_true,if_false,reduceIte]; refine fin_run trivial (hK _ ?_)<;>clear hK<;>clear K; repeat (first|refine qa ?_|refine qb ?_|refine qc ?_|refine qd ?_|refine qe ?_|refine qf ?_|refine qg rfl ?_|refine qh ?_|refine qi ?_|refine qj ?_|refine qk ?_|refine ql ?_|refine qm ?_)
  simp only [Try.results21,Post,endA,rvsA,rvA,mkTup,peekA,peekG,peekS,peekList,PV.norm,PV.norm1,PV.norm0,PV.list.injEq,PV.tup.injEq,PV.agg.injEq,PV.int.injEq,PV.bool.injEq,List.cons.injEq,ev0,aops,xstep,guardA,opA,tab,binA,binInt,arith,unA,pickA,convA,allocA,boxA,loadA,storeA,fieldAddrA,fieldA,indexAddrA,lenA,lenS,sliceA,boundA,makeSliceA,elemsA,appendA,buildA,fillA,buildSliceA,partsA,extractA,builtinA,minmaxA,AV.cells,AV.isAgg,allP,mkAgg,hget,hset,isRow,cellOk,setC,after,dstOk,St.put,St.get,lk,St.ev,cv,PV.one,Int.reduceToNat,entry,ent,Nat.reduceAdd,Nat.reduceLT,Nat.reduceBEq,Nat.reduceEqDiff,Nat.reduceLeDiff,Nat.reduceMul,Nat.reduceSub,Int.cast_ofNat_Int,decide_true,decide_false,reduceCtorEq,BEq.rfl,beq_self_eq_true,bne_self_eq_false,ite_true,ite_false,if_true,if_false,reduceIte]
  have:v ≠ w:=by intro h; subst h; simp at hn
  simp [this]
 ·have hn:v.length=w.length:=by simp at hn; omega
  repeat (first|refine qa ?_|refine qb ?_|refine qc ?_|refine qd ?_|refine qe ?_|refine qf ?_|refine qg rfl ?_|refine qh ?_|refine qi ?_|refine qj ?_|refine qk ?_|refine ql ?_|refine qm ?_)
  (refine hk_region fun K hK=>runs_eval tab_ok ?_); simp only [ev0,aops,xstep,guardA,opA,tab,binA,binInt,arith,unA,pickA,convA,allocA,boxA,loadA,storeA,fieldAddrA,fieldA,indexAddrA,lenA,lenS,sliceA,boundA,makeSliceA,elemsA,appendA,buildA,fillA,buildSliceA,partsA,extractA,builtinA,minmaxA,AV.cells,AV.isAgg,allP,mkAgg,hget,hset,isRow,cellOk,setC,after,dstOk,St.put,St.get,lk,St.ev,cv,PV.one,Int.reduceToNat,entry,ent,Nat.reduceAdd,Nat.reduceLT,Nat.reduceBEq,Nat.reduceEqDiff,Nat.reduceLeDiff,Nat.reduceMul,Nat.reduceSub,Int.cast_ofNat_Int,decide_true,decide_false,reduceCtorEq,BEq.rfl,beq_self_eq_true,bne_self_eq_false,ite_true,ite_false,if_true,if_false,reduceIte]; refine fin_run trivial (hK _ ?_)<;>clear hK<;>clear K; repeat (first|refine qa ?_|refine qb ?_|refine qc ?_|refine qd ?_|refine qe ?_|refine qf ?_|refine qg rfl ?_|refine qh ?_|refine qi ?_|refine qj ?_|refine qk ?_|refine ql ?_|refine qm ?_)
  refine hk_loop (ι:=Nat) (fun i=>⟨26,[(0,.p (.list (il v))),(1,.p (.list (il w))),(5,.p (.int .i64 i))],[]⟩) (fun i=>i≤v.length∧v.take i=w.take i) (fun i=>v.length - i) 0 ⟨Nat.zero_le _,rfl⟩ [] (by simp only [AV.p.injEq,AV.sl.injEq,AV.ptr.injEq,Blk.own.injEq,PV.int.injEq,PV.bool.injEq,PV.list.injEq,Nat.sub_zero,Int.natCast_add,List.length_append,take_take_len,take_app1,take_app2,Le,LeH,LeS,LeB,ren,ren1,scA,sc1,List.nodup_cons,List.nodup_nil,List.mem_cons,List.not_mem_nil,or_false,not_false_eq_true,ev0,aops,xstep,guardA,opA,tab,binA,binInt,arith,unA,pickA,convA,allocA,boxA,loadA,storeA,fieldAddrA,fieldA,indexAddrA,lenA,lenS,sliceA,boundA,makeSliceA,elemsA,appendA,buildA,fillA,buildSliceA,partsA,extractA,builtinA,minmaxA,AV.cells,AV.isAgg,allP,mkAgg,hget,hset,isRow,cellOk,setC,after,dstOk,St.put,St.get,lk,St.ev,cv,PV.one,Int.reduceToNat,entry,ent,Nat.reduceAdd,Nat.reduceLT,Nat.reduceBEq,Nat.reduceEqDiff,Nat.reduceLeDiff,Nat.reduceMul,Nat.reduceSub,Int.cast_ofNat_Int,decide_true,decide_false,reduceCtorEq,BEq.rfl,beq_self_eq_true,bne_self_eq_false,ite_true,ite_false,if_true,if_false,reduceIte]<;>trivial) fun i hi=>?_
  obtain ⟨hi1,hi2⟩:=hi
  repeat (first|refine qa ?_|refine qb ?_|refine qc ?_|refine qd ?_|refine qe ?_|refine qf ?_|refine qg rfl ?_|refine qh ?_|refine qi ?_|refine qj ?_|refine qk ?_|refine ql ?_|refine qm ?_)
  (refine hk_region fun K hK=>runs_eval tab_ok ?_); simp only [ev0,aops,xstep,guardA,opA,tab,binA,binInt,arith,unA,pickA,convA,allocA,boxA,loadA,storeA,fieldAddrA,fieldA,indexAddrA,lenA,lenS,sliceA,boundA,makeSliceA,elemsA,appendA,buildA,fillA,buildSliceA,partsA,extractA,builtinA,minmaxA,AV.cells,AV.isAgg,allP,mkAgg,hget,hset,isRow,cellOk,setC,after,dstOk,St.put,St.get,lk,St.ev,cv,PV.one,Int.reduceToNat,entry,ent,Nat.reduceAdd,Nat.reduceLT,Nat.reduceBEq,Nat.reduceEqDiff,Nat.reduceLeDiff,Nat.reduceMul,Nat.reduceSub,Int.cast_ofNat_Int,decide_true,decide_false,reduceCtorEq,BEq.rfl,beq_self_eq_true,bne_self_eq_false,ite_true,ite_false,if_true,if_false,reduceIte]; refine fin_run trivial (hK _ ?_)<;>clear hK<;>clear K; repeat (first|refine qa ?_|refine qb ?_|refine qc ?_|refine qd ?_|refine qe ?_|refine qf ?_|refine qg rfl ?_|refine qh ?_|refine qi ?_|refine qj ?_|refine qk ?_|refine ql ?_|refine qm ?_)
  refine hk_cond rfl (fun hlt=>?_) (fun hlt=>?_)
  ·have hlt:i < v.length:=by have:=of_decide_eq_true hlt; omega
   repeat (first|refine qa ?_|refine qb ?_|refine qc ?_|refine qd ?_|refine qe ?_|refine qf ?_|refine qg rfl ?_|refine qh ?_|refine qi ?_|refine qj ?_|refine qk ?_|refine ql ?_|refine qm ?_)
   refine hk_draw mixed (by kernel_rfl) fun K hK=>runs_eval tab_ok ?_
   simp only [ev0,aops,xstep,guardA,opA,tab,binA,binInt,arith,unA,pickA,convA,allocA,boxA,loadA,storeA,fieldAddrA,fieldA,indexAddrA,lenA,lenS,sliceA,boundA,makeSliceA,elemsA,appendA,buildA,fillA,buildSliceA,partsA,extractA,builtinA,minmaxA,AV.cells,AV.isAgg,allP,mkAgg,hget,hset,isRow,cellOk,setC,after,dstOk,St.put,St.get,lk,St.ev,cv,PV.one,Int.reduceToNat,entry,ent,Nat.reduceAdd,Nat.reduceLT,Nat.reduceBEq,Nat.reduceEqDiff,Nat.reduceLeDiff,Nat.reduceMul,Nat.reduceSub,Int.cast_ofNat_Int,decide_true,decide_false,reduceCtorEq,BEq.rfl,beq_self_eq_true,bne_self_eq_false,ite_true,ite_false,if_true,if_false,reduceIte,il_get hlt,il_get (show i < w.length by omega)]
   refine fin_run ?_ (hK _ ?_)<;>clear hK<;>clear K
   ·omega
   repeat (first|refine qa ?_|refine qb ?_|refine qc ?_|refine qd ?_|refine qe ?_|refine qf ?_|refine qg rfl ?_|refine qh ?_|refine qi ?_|refine qj ?_|refine qk ?_|refine ql ?_|refine qm ?_)
   refine hk_cond rfl (fun hc=>?_) (fun hc=>?_)
   ·repeat (first|refine qa ?_|refine qb ?_|refine qc ?_|refine qd ?_|refine qe ?_|refine qf ?_|refine qg rfl ?_|refine qh ?_|refine qi ?_|refine qj ?_|refine qk ?_|refine ql ?_|refine qm ?_)
    (refine hk_region fun K hK=>runs_eval tab_ok ?_); simp only [ev0,aops,xstep,guardA,opA,tab,binA,binInt,arith,unA,pickA,convA,allocA,boxA,loadA,storeA,fieldAddrA,fieldA,indexAddrA,lenA,lenS,sliceA,boundA,makeSliceA,elemsA,appendA,buildA,fillA,buildSliceA,partsA,extractA,builtinA,minmaxA,AV.cells,AV.isAgg,allP,mkAgg,hget,hset,isRow,cellOk,setC,after,dstOk,St.put,St.get,lk,St.ev,cv,PV.one,Int.reduceToNat,entry,ent,Nat.reduceAdd,Nat.reduceLT,Nat.reduceBEq,Nat.reduceEqDiff,Nat.reduceLeDiff,Nat.reduceMul,Nat.reduceSub,Int.cast_ofNat_Int,decide_true,decide_false,reduceCtorEq,BEq.rfl,beq_self_eq_true,bne_self_eq_false,ite_true,ite_false,if_true,if_false,reduceIte]; refine fin_run trivial (hK _ ?_)<;>clear hK<;>clear K; repeat (first|refine qa ?_|refine qb ?_|refine qc ?_|refine qd ?_|refine qe ?_|refine qf ?_|refine qg rfl ?_|refine qh ?_|refine qi ?_|refine qj ?_|refine qk ?_|refine ql ?_|refine qm ?_)
    simp only [Try.results21,Post,endA,rvsA,rvA,mkTup,peekA,peekG,peekS,peekList,PV.norm,PV.norm1,PV.norm0,PV.list.injEq,PV.tup.injEq,PV.agg.injEq,PV.int.injEq,PV.bool.injEq,List.cons.injEq,ev0,aops,xstep,guardA,opA,tab,binA,binInt,arith,unA,pickA,convA,allocA,boxA,loadA,storeA,fieldAddrA,fieldA,indexAddrA,lenA,lenS,sliceA,boundA,makeSliceA,elemsA,appendA,buildA,fillA,buildSliceA,partsA,extractA,builtinA,minmaxA,AV.cells,AV.isAgg,allP,mkAgg,hget,hset,isRow,cellOk,setC,after,dstOk,St.put,St.get,lk,St.ev,cv,PV.one,Int.reduceToNat,entry,ent,Nat.reduceAdd,Nat.reduceLT,Nat.reduceBEq,Nat.reduceEqDiff,Nat.reduceLeDiff,Nat.reduceMul,Nat.reduceSub,Int.cast_ofNat_Int,decide_true,decide_false,reduceCtorEq,BEq.rfl,beq_self_eq_true,bne_self_eq_false,ite_true,ite_false,if_true,if_false,reduceIte]
    have:v ≠ w:=by intro h; subst h; simp at hc
    simp [this]
   ·repeat (first|refine qa ?_|refine qb ?_|refine qc ?_|refine qd ?_|refine qe ?_|refine qf ?_|refine qg rfl ?_|refine qh ?_|refine qi ?_|refine qj ?_|refine qk ?_|refine ql ?_|refine qm ?_)
    refine hk_region fun K hK=>runs_eval tab_ok ?_
    simp only [ev0,aops,xstep,guardA,opA,tab,binA,binInt,arith,unA,pickA,convA,allocA,boxA,loadA,storeA,fieldAddrA,fieldA,indexAddrA,lenA,lenS,sliceA,boundA,makeSliceA,elemsA,appendA,buildA,fillA,buildSliceA,partsA,extractA,builtinA,minmaxA,AV.cells,AV.isAgg,allP,mkAgg,hget,hset,isRow,cellOk,setC,after,dstOk,St.put,St.get,lk,St.ev,cv,PV.one,Int.reduceToNat,entry,ent,Nat.reduceAdd,Nat.reduceLT,Nat.reduceBEq,Nat.reduceEqDiff,Nat.reduceLeDiff,Nat.reduceMul,Nat.reduceSub,Int.cast_ofNat_Int,decide_true,decide_false,reduceCtorEq,BEq.rfl,beq_self_eq_true,bne_self_eq_false,ite_true,ite_false,if_true,if_false,reduceIte]
    refine fin_run ?_ (hK _ ?_)<;>clear hK<;>clear K
    ·(first|exact trivial|omega|(simp only [In64] at *; omega)|(rw [Bool.eq_iff_iff]; simp; done)|(rw [Bool.eq_iff_iff]; simp; omega)|(simp [In64] at *; omega)|(simp_all; done)|(simp_all [In64]<;>omega)|skip)
    repeat (first|refine qa ?_|refine qb ?_|refine qc ?_|refine qd ?_|refine qe ?_|refine qf ?_|refine qg rfl ?_|refine qh ?_|refine qi ?_|refine qj ?_|refine qk ?_|refine ql ?_|refine qm ?_)
    have hx:v.getD i 0=w.getD i 0:=by simpa using hc
    refine ⟨i + 1,[],⟨by omega,?_⟩,by omega,?_⟩
    ·rw [List.take_succ_eq_append_getElem hlt,List.take_succ_eq_append_getElem (show i < w.length by omega),hi2]
     simp [List.getD,List.getElem?_eq_getElem hlt,List.getElem?_eq_getElem (show i < w.length by omega)] at hx
     rw [hx]
    ·simp only [AV.p.injEq,AV.sl.injEq,AV.ptr.injEq,Blk.own.injEq,PV.int.injEq,PV.bool.injEq,PV.list.injEq,Nat.sub_zero,Int.natCast_add,List.length_append,take_take_len,take_app1,take_app2,Le,LeH,LeS,LeB,ren,ren1,scA,sc1,List.nodup_cons,List.nodup_nil,List.mem_cons,List.not_mem_nil,or_false,not_false_eq_true,ev0,aops,xstep,guardA,opA,tab,binA,binInt,arith,unA,pickA,convA,allocA,boxA,loadA,storeA,fieldAddrA,fieldA,indexAddrA,lenA,lenS,sliceA,boundA,makeSliceA,elemsA,appendA,buildA,fillA,buildSliceA,partsA,extractA,builtinA,minmaxA,AV.cells,AV.isAgg,allP,mkAgg,hget,hset,isRow,cellOk,setC,after,dstOk,St.put,St.get,lk,St.ev,cv,PV.one,Int.reduceToNat,entry,ent,Nat.reduceAdd,Nat.reduceLT,Nat.reduceBEq,Nat.reduceEqDiff,Nat.reduceLeDiff,Nat.reduceMul,Nat.reduceSub,Int.cast_ofNat_Int,decide_true,decide_false,reduceCtorEq,BEq.rfl,beq_self_eq_true,bne_self_eq_false,ite_true,ite_false,if_true,if_false,reduceIte]<;>(first|exact trivial|omega|(simp only [In64] at *; omega)|(rw [Bool.eq_iff_iff]; simp; done)|(rw [Bool.eq_iff_iff]; simp; omega)|(simp [In64] at *; omega)|(simp_all; done)|(simp_all [In64]<;>omega)|skip)
  ·repeat (first|refine qa ?_|refine qb ?_|refine qc ?_|refine qd ?_|refine qe ?_|refine qf ?_|refine qg rfl ?_|refine qh ?_|refine qi ?_|refine qj ?_|refine qk ?_|refine ql ?_|refine qm ?_)
   (refine hk_region fun K hK=>runs_eval tab_ok ?_); simp only [ev0,aops,xstep,guardA,opA,tab,binA,binInt,arith,unA,pickA,convA,allocA,boxA,loadA,storeA,fieldAddrA,fieldA,indexAddrA,lenA,lenS,sliceA,boundA,makeSliceA,elemsA,appendA,buildA,fillA,buildSliceA,partsA,extractA,builtinA,minmaxA,AV.cells,AV.isAgg,allP,mkAgg,hget,hset,isRow,cellOk,setC,after,dstOk,St.put,St.get,lk,St.ev,cv,PV.one,Int.reduceToNat,entry,ent,Nat.reduceAdd,Nat.reduceLT,Nat.reduceBEq,Nat.reduceEqDiff,Nat.reduceLeDiff,Nat.reduceMul,Nat.reduceSub,Int.cast_ofNat_Int,decide_true,decide_false,reduceCtorEq,BEq.rfl,beq_self_eq_true,bne_self_eq_false,ite_true,ite_false,if_true,if_false,reduceIte]; refine fin_run trivial (hK _ ?_)<;>clear hK<;>clear K; repeat (first|refine qa ?_|refine qb ?_|refine qc ?_|refine qd ?_|refine qe ?_|refine qf ?_|refine qg rfl ?_|refine qh ?_|refine qi ?_|refine qj ?_|refine qk ?_|refine ql ?_|refine qm ?_)
   simp only [Try.results21,Post,endA,rvsA,rvA,mkTup,peekA,peekG,peekS,peekList,PV.norm,PV.norm1,PV.norm0,PV.list.injEq,PV.tup.injEq,PV.agg.injEq,PV.int.injEq,PV.bool.injEq,List.cons.injEq,ev0,aops,xstep,guardA,opA,tab,binA,binInt,arith,unA,pickA,convA,allocA,boxA,loadA,storeA,fieldAddrA,fieldA,indexAddrA,lenA,lenS,sliceA,boundA,makeSliceA,elemsA,appendA,buildA,fillA,buildSliceA,partsA,extractA,builtinA,minmaxA,AV.cells,AV.isAgg,allP,mkAgg,hget,hset,isRow,cellOk,setC,after,dstOk,St.put,St.get,lk,St.ev,cv,PV.one,Int.reduceToNat,entry,ent,Nat.reduceAdd,Nat.reduceLT,Nat.reduceBEq,Nat.reduceEqDiff,Nat.reduceLeDiff,Nat.reduceMul,Nat.reduceSub,Int.cast_ofNat_Int,decide_true,decide_false,reduceCtorEq,BEq.rfl,beq_self_eq_true,bne_self_eq_false,ite_true,ite_false,if_true,if_false,reduceIte]
   have:i=v.length:=by have:=of_decide_eq_false hlt; omega
   subst this
   rw [List.take_length,List.take_of_length_le (by omega)] at hi2
   simp [hi2]

end Go.Proofs.Ytneglephfhiamaa

/-
  Words as a group: plain laws, with no program in sight. Conditions: none.
-/
set_option linter.all false
namespace Go.Proofs.Ytneglephfhiamaa
open Go.Pv

def Ok (w:List Int):Prop:=∀ x∈w,x ≠ 0∧-26≤x∧x≤26

theorem Ok.sm {w:List Int} (h:Ok w):Sm w:=fun x hx=>(h x hx).2
theorem chk_ok:∀ (w:List Int) (i:Nat),(chk i w).1=0→Ok w
 | [],_,_=>fun x hx=>by simp at hx
 | x :: r,i,h=>by
  unfold chk at h
  split at h
  ·simp at h
  ·rename_i hn
   intro y hy
   rcases List.mem_cons.1 hy with rfl | hy
   ·omega
   ·exact chk_ok r (i + 1) h y hy
theorem check_ok {w:List Int} (h:(check w).1=0):Ok w∧w.length≤2000:=by
 unfold check at h
 split at h
 ·simp at h
 ·exact ⟨chk_ok w 0 h,by omega⟩
theorem ok_chk:∀ (w:List Int) (i:Nat),Ok w→chk i w=(0,0)
 | [],_,_=>rfl
 | x :: r,i,h=>by
  have h0:=h x (by simp)
  rw [chk,if_neg (by omega)]
  exact ok_chk r (i + 1) fun y hy=>h y (by simp [hy])
theorem ok_check {w:List Int} (h:Ok w) (hl:w.length≤2000):check w=(0,0):=by
 rw [check,if_neg (by omega)]
 exact ok_chk w 0 h
theorem Ok.app {v w:List Int} (hv:Ok v) (hw:Ok w):Ok (v++w):=by
 intro x hx
 rcases List.mem_append.1 hx with h | h
 ·exact hv x h
 ·exact hw x h
theorem short_sub:∀ (w:List Int),∀ x∈short w,x∈w:=by
 have:∀ (w o:List Int),∀ x∈w.foldl push o,x∈o∨x∈w:=by
  intro w
  induction w with
  | nil=>intro o x hx; exact .inl hx
  | cons y r ih =>
   intro o x hx
   rcases ih (push o y) x hx with h | h
   ·unfold push at h
    split at h
    ·exact .inl (List.mem_of_mem_take h)
    ·rcases List.mem_append.1 h with h | h
     ·exact .inl h
     ·exact .inr (by simp at h; simp [h])
   ·exact .inr (by simp [h])
 intro w x hx
 rcases this w [] x hx with h | h
 ·simp at h
 ·exact h
theorem Ok.short {w:List Int} (h:Ok w):Ok (short w):=fun x hx=>h x (short_sub w x hx)
theorem Ok.back {w:List Int} (h:Ok w):Ok (back w):=by
 intro x hx
 obtain ⟨y,hy,rfl⟩:=List.mem_map.1 hx
 have:=h y (List.mem_reverse.1 hy)
 omega

theorem short_left (x y:List Int):short (short x++y)=short (x++y):=by
 rw [short_app,short_app,short_short]

theorem foldl_short {o:List Int} (ho:Red o):∀ y:List Int,(short y).foldl push o=y.foldl push o:=by
 have key:∀ n (y:List Int),y.length=n→(short y).foldl push o=y.foldl push o:=by
  intro n
  induction n with
  | zero=>intro y hy; rw [List.eq_nil_of_length_eq_zero hy]; rfl
  | succ n ih =>
   intro y hy
   have hne:y ≠ []:=by intro h; subst h; simp at hy
   obtain ⟨y',z,rfl⟩:∃ y' z,y=y'++[z]:=⟨y.dropLast,y.getLast hne,(List.dropLast_concat_getLast hne).symm⟩
   have ih':=ih y' (by simpa using hy)
   have e:short (y'++[z])=push (short y') z:=by rw [short_app]; rfl
   rw [e,List.foldl_append,← ih']
   simp only [List.foldl_cons,List.foldl_nil]
   have hr:=red_short y'
   generalize short y' = s at *
   by_cases hc:0 < s.length∧s.getD (s.length - 1) 0 = -z
   ·have h1:push s z=s.take (s.length - 1):=by rw [push,if_pos hc]
    have h2:=take_last hc.1
    rw [hc.2] at h2
    rw [h1]
    generalize s.take (s.length - 1)=s' at *
    rw [← h2,List.foldl_append]
    simp only [List.foldl_cons,List.foldl_nil]
    have hred:∀ (l o:List Int),Red o→Red (l.foldl push o):=by
     intro l
     induction l with
     | nil=>intro o h; exact h
     | cons a b ih=>intro o h; exact ih _ (red_push h)
    have:=push_cancel (-z) (hred s' o ho)
    rw [Int.neg_neg] at this
    exact this.symm
   ·have h1:push s z=s++[z]:=by rw [push,if_neg hc]
    rw [h1,List.foldl_append]
    rfl
 exact fun y=>key y.length y rfl

theorem short_right (x y:List Int):short (x++short y)=short (x++y):=by
 rw [short_app,short_app,foldl_short (red_short x)]
theorem short_mid (p m q:List Int):short (p++short m++q)=short (p++m++q):=by
 rw [← short_left,short_right,short_left]

theorem back_cons (x:Int) (r:List Int):back (x :: r)=back r++[-x]:=by simp [back]
theorem back_back (a:List Int):back (back a)=a:=by simp [back,List.map_reverse,Function.comp_def]
theorem back_len (a:List Int):(back a).length=a.length:=by simp [back]

theorem short_inv (a:List Int):short (a++back a)=[]:=by
 induction a with
 | nil=>rfl
 | cons x r ih =>
  rw [back_cons]
  have e:x :: r++(back r++[-x])=[x]++(r++back r)++[-x]:=by simp
  rw [e,← short_mid,ih]
  have:=short_cancel [] [] x
  simpa [short] using this
theorem short_inv' (a:List Int):short (back a++a)=[]:=by
 have:=short_inv (back a)
 rwa [back_back] at this

end Go.Proofs.Ytneglephfhiamaa

/-
  Calls that write what is the caller's own: contracts over blocks. Conditions: none; a library text.
-/
set_option linter.all false
namespace Go.Pv
open Go.RowKit

def ancs:Nat→Nat→Heap
 | _,0=>[]
 | k,n + 1=>.anc k k :: ancs (k + 1) n

theorem ancs_get:∀ (n k j:Nat) (b:Blk),(ancs k n)[j]? = some b→j < n∧b = .anc (k + j) (k + j)
 | 0,k,j,b,h=>by simp [ancs] at h
 | n + 1,k,0,b,h=>by simp [ancs] at h; exact ⟨by omega,h.symm⟩
 | n + 1,k,j + 1,b,h=>by
  have:=ancs_get n (k + 1) j b (by simpa [ancs] using h)
  refine ⟨by omega,?_⟩
  rw [this.2,show k + 1 + j=k + (j + 1) by omega]

theorem ancs_at:∀ (n k j:Nat),j < n→(ancs k n)[j]? = some (.anc (k + j) (k + j))
 | n + 1,k,0,_=>rfl
 | n + 1,k,j + 1,h=>by
  rw [show ancs k (n + 1) = .anc k k :: ancs (k + 1) n from rfl,List.getElem?_cons_succ,ancs_at n (k + 1) j (by omega),show k + 1 + j=k + (j + 1) by omega]

theorem ancs_length:∀ (n k:Nat),(ancs k n).length=n
 | 0,_=>rfl
 | n + 1,k=>by simp [ancs,ancs_length n]

def entA:Nat→List AV→List (Nat × AV)
 | _,[]=>[]
 | k,a :: r=>(k,a) :: entA (k + 1) r

theorem entA_lk:∀ (l:List AV) (k t:Nat),lk (entA k l) t=if k≤t then l.getD (t - k) .dead else .dead
 | [],k,t=>by simp [entA,lk]
 | a :: r,k,t=>by
  simp only [entA,lk]
  by_cases h:k=t
  ·subst h; simp
  ·rw [show (k == t)=false by simpa using h]
   simp only [cond_false]
   rw [entA_lk r (k + 1) t]
   by_cases hk:k≤t
   ·rw [if_pos (by omega),if_pos hk,show t - k=(t - (k + 1)) + 1 by omega]; rfl
   ·rw [if_neg (by omega),if_neg hk]

theorem app_get {H X:Heap} {k:Nat} {b:Blk} (h:(H++X)[k]? = some b):(k < H.length∧H[k]? = some b)∨X[k - H.length]? = some b:=by
 by_cases hk:k < H.length
 ·exact .inl ⟨hk,by rwa [List.getElem?_append_left hk] at h⟩
 ·exact .inr (by rwa [List.getElem?_append_right (by omega)] at h)

section
variable {P:Program} {T:TypeId→Option TI} {C:Ctx} {m:Map} {s:St} {tmps:Array Value} {w:World}

theorem Rel.addAnc (R:Rel C m s tmps w) {n:Nat} (hn:n≤s.H.length) (ha:∀ i,i < n→m i=C.anc i):Rel C m { s with H:=s.H++ancs 0 n } tmps w:=by
 have gen:∀ (k:Nat) (b:Blk),(∀ i j,b ≠ .anc i j)→(s.H++ancs 0 n)[k]? = some b→k < s.H.length∧s.H[k]? = some b:=by
  intro k b hb h
  rcases app_get h with h | h
  ·exact h
  ·exact absurd (ancs_get _ _ _ _ h).2 (hb _ _)
 have own:∀ (k:Nat) (c:List AV),(s.H++ancs 0 n)[k]? = some (.own c)→k < s.H.length∧s.H[k]? = some (.own c):=fun k c h=>gen k _ (fun _ _ h=>by cases h) h
 have mps:∀ (k:Nat) (kk:IntKind) (d:Int→Bool) (v:Int→PV),(s.H++ancs 0 n)[k]? = some (Blk.mp kk d v)→k < s.H.length∧s.H[k]? = some (Blk.mp kk d v):=fun k _ _ _ h=>gen k _ (fun _ _ h=>by cases h) h
 have ho:∀ b,OK C m s.H w b→OK C m (s.H++ancs 0 n) w b:=fun b h=>⟨h.1,h.2.1,fun k c l hk hl=>h.2.2 k c l (own k c hk).2 hl⟩
 have hlen:s.H.length≤(s.H++ancs 0 n).length:=by simp
 have rd:∀ p v,Reads (OK C m s.H w) w p v→Reads (OK C m (s.H++ancs 0 n) w) w p v:=fun p v h=>h.mono ho
 refine ⟨R.laid.ext rd,R.below,R.base,R.size,fun k k' c c' l l' h1 h2=>R.inj k k' c c' l l' (own k c h1).2 (own k' c' h2).2,fun k c h=>(R.blk k c (own k c h).2).ext rd hlen (fun _ _=>rfl) rfl fun _ _=>rfl,
  fun k c h=>(R.fro k c (gen k _ (fun _ _ h=>by cases h) h).2).ext ho (fun _ _=>rfl) rfl,fun t=>(R.slot t).ext rd hlen fun _ _=>rfl,fun k kk d v h=>(R.mp.1 k kk d v (mps k kk d v h).2).ext ho (fun _ _=>rfl) rfl fun _ _=>rfl,
  fun k k' kk d v kk' d' v' l l' h1 h2=>R.mp.2.1 k k' kk d v kk' d' v' l l' (mps _ _ _ _ h1).2 (mps _ _ _ _ h2).2,fun k i j h=>?_,R.mp.2.2.2.ext id (fun k r h=>⟨(gen k _ (fun _ _ h=>by cases h) h).2,rfl⟩) (fun _ _ _ _ _ _ h=>h) (fun _ _ _ _ _ _=>rfl) fun _ _ _ _ _ h=>h⟩
 rcases app_get h with h | h
 ·obtain ⟨a1,a2⟩:=R.mp.2.2.1 k i j h.2
  exact ⟨by simp; omega,a2⟩
 ·obtain ⟨a1,a2⟩:=ancs_get _ _ _ _ h
  cases a2
  refine ⟨by simp; omega,?_⟩
  rw [ha _ (by omega)]

/-! ### The contract -/

/-- A CONTRACT OVER BLOCKS: called with values that are so over such blocks of the caller's own, the function returns so, over those blocks as they are then, and new ones. -/
def FnM (P:Program) (f:FuncId) (args:List AV) (H0:Heap) (r:AV) (H1:Heap):Prop:=
 Fun P f∧∀ (C:Ctx) (m:Map) (w:World) (vals:Array Value),Rel C m ⟨args.length,entA 0 args,H0++ancs 0 H0.length⟩ vals w →
  Calls P f vals w fun e w'=>∃ v m',e = .returned v∧Rel C m' ⟨1,[(0,r)],H1++ancs 0 H0.length⟩ #[v] w'

theorem fnm_of (hT:∀ t ti,T t=some ti→tiOf P t=some ti) {f:FuncId} {fn:Func} {c:Code} {args:List AV} {av:AV} {H0 H1:Heap} (hf:P.funcs[f]? = some fn) (hb:fn.body=some c) (hnm:(fn.name == "runtime.NumGoroutine")=false) (hn:args.length≤fn.ntmps)
  (h:Holds P c (PostG T fn.results.toList av (H1++ancs 0 H0.length)) ⟨fn.ntmps,entA 0 args,H0++ancs 0 H0.length⟩):FnM P f args H0 av H1:=by
 refine ⟨⟨fn,hf,hnm,by rw [hb]; rfl⟩,fun C m w vals R0=>calls_of_wp hf hb (wpR_none.1 ?_)⟩
 have hsz:vals.size=args.length:=R0.size
 have R:Rel C m ⟨fn.ntmps,entA 0 args,H0++ancs 0 H0.length⟩ (vals++Array.replicate (fn.ntmps - vals.size) undef) w:=by
  refine ⟨R0.laid,R0.below,R0.base,by simp; omega,R0.inj,R0.blk,R0.fro,fun t=>?_,R0.mp⟩
  have hs:=R0.slot t
  by_cases ht:t < vals.size
  ·rw [Array.getD_eq_getD_getElem?,Array.getElem?_append_left ht,← Array.getD_eq_getD_getElem?]
   exact hs
  ·have e:lk (entA 0 args) t = .dead:=by
    rw [entA_lk,if_pos (Nat.zero_le _),List.getD_eq_getElem?_getD,List.getElem?_eq_none (by omega)]; rfl
   unfold St.get
   simp only
   rw [e]
   exact .dead _
 refine wpR_mono (h none [] _ _ { tmps:=vals++Array.replicate (fn.ntmps - vals.size) undef,defers:=[] } w R rfl) fun e a' w' ⟨s',m',h1,h2,h3⟩=>?_
 have fini:endG T fn.results.toList av (H1++ancs 0 H0.length) s'→a'.defers=[]∧∃ v,(results fn a'.tmps).run P w' = .ok v w'∧∃ v_1 m'',Ending.returned v = .returned v_1∧Rel C m'' ⟨1,[(0,av)],H1++ancs 0 H0.length⟩ #[v_1] w':=by
  intro he
  unfold endG at he
  split at he
  ·rename_i p l hl
   obtain ⟨hp,π,hav,hsc,hle⟩:=he
   obtain ⟨vs,e1,e2,e3⟩:=rvsA_run hT h2 fn.results.toList hl hp
   have hv:=mkTup_val (w:=w') e2 e3
   have R':=h2.weaken hle
   rw [hav] at hv
   have hlen:(H1++ancs 0 H0.length).length=π.length:=(hle.2.2.1.get).1.symm
   have ho:=OK.weaken (C:=C) (m:=m') (w:=w') hle.2.2.1
   have hv2:=hv.unren (fun p v h=>h.mono ho) hlen hsc
   refine ⟨h3,(if h:vs.toArray.size=1 then vs.toArray[0] else .tuple vs.toArray),?_,_,_,rfl,R'.laid,R'.below,R'.base,rfl,R'.inj,R'.blk,R'.fro,fun t=>?_,R'.mp⟩
   ·rw [results_eq,Array.mapM_eq_mapM_toList]
    simp only [Sem.run_bind,Sem.run_map]
    rw [e1]
    simp only [Result.andThen_ok]
    rfl
   ·cases t with
    | zero=>exact hv2
    | succ t=>exact .dead _
  ·exact he.elim
 cases e with
 | normal=>exact fini h1
 | ret=>exact fini h1
 | _=>exact h1.elim

/-! ### Who calls it -/

theorem AVal.sig {rd rd' : PV→Value→Prop} {m m2:Map} {H H2:Heap} {σ:List Nat} (h1:∀ p v,rd p v→rd' p v) (hs:∀ k,k < σ.length→σ.getD k 0 < H2.length∧m2 (σ.getD k 0)=m k) {x:AV} {v:Value} (h:AVal rd m H x v)
  (hx:scA σ.length x=true):AVal rd' m2 H2 (Go.Pv.ren σ x) v:=by
 have one:∀ {x:AV} {v:Value},AVal rd m H x v→sc1 σ.length x=true→AVal rd' m2 H2 (ren1 σ x) v:=by
  intro x v h hsc
  cases h with
  | dead v=>exact .dead v
  | p pv v h=>exact .p pv v (h1 _ _ h)
  | sl k lo len v hk h =>
   obtain ⟨g1,g2⟩:=hs k (by simpa [sc1] using hsc)
   refine .sl _ lo len v g1 ?_
   unfold SlOk at *
   rw [g2]; exact h
  | ptr k i v hk h =>
   obtain ⟨g1,g2⟩:=hs k (by simpa [sc1] using hsc)
   refine .ptr _ i v g1 ?_
   unfold PtrOk at *
   rw [g2]; exact h
  | agg l vs hl hr=>simp [sc1] at hsc
  | tup l vs hl hr=>simp [sc1] at hsc
  | cl f l vs hl hr=>simp [sc1] at hsc
  | itv r=>exact .itv r
  | sls k lo len sz v hk h =>
   obtain ⟨g1,g2⟩:=hs k (by simpa [sc1] using hsc)
   refine .sls _ lo len sz v g1 ?_
   unfold SlsOk at *
   rw [g2]; exact h
  | mptr k v hk h =>
   obtain ⟨g1,g2⟩:=hs k (by simpa [sc1] using hsc)
   refine .mptr _ v g1 ?_
   unfold MptrOk at *
   rw [g2]; exact h
  | yv k l vs v hk h hl hr=>simp [sc1] at hsc
 cases x with
 | agg l =>
  cases h with
  | agg _ vs hl hr =>
   refine .agg _ vs (by simpa using hl) fun c hc=>?_
   rw [List.length_map] at hc
   rw [List.getElem_map]
   exact one (hr c hc) ((List.all_eq_true.1 hx) _ (List.getElem_mem hc))
 | tup l =>
  cases h with
  | tup _ vs hl hr =>
   refine .tup _ vs (by simpa using hl) fun c hc=>?_
   rw [List.length_map] at hc
   rw [List.getElem_map]
   exact one (hr c hc) ((List.all_eq_true.1 hx) _ (List.getElem_mem hc))
 | cl f l =>
  cases h with
  | cl _ _ vs hl hr =>
   refine .cl _ _ vs (by simpa using hl) fun c hc=>?_
   rw [List.length_map] at hc
   rw [List.getElem_map]
   exact one (hr c hc) ((List.all_eq_true.1 hx) _ (List.getElem_mem hc))
 | yv k l vs =>
  simp only [scA,Bool.and_eq_true,decide_eq_true_eq] at hx
  cases h with
  | yv _ _ _ _ hk h hl hr =>
   obtain ⟨g1,g2⟩:=hs k hx.1
   refine .yv _ _ vs v g1 ?_ (by simpa using hl) fun c hc=>?_
   ·unfold YvOk at *
    rw [g2]; exact h
   ·rw [List.length_map] at hc
    rw [List.getElem_map]
    exact one (hr c hc) ((List.all_eq_true.1 hx.2) _ (List.getElem_mem hc))
 | dead=>exact one h hx
 | p pv=>exact one h hx
 | sl k lo len=>exact one h hx
 | ptr k i=>exact one h hx
 | mptr k=>exact one h hx
 | itv r=>exact one h hx
 | sls k lo len sz=>exact one h hx

/-- Blocks put back: those that were lent, in their places; new ones behind. -/
def putM:Heap→List Nat→Heap→Heap
 | H,[],bs=>H++bs
 | H,_ :: _,[]=>H
 | H,k :: ks,b :: bs=>putM (hset H k b) ks bs

theorem putM_get:∀ (ks:List Nat) (bs H:Heap) (k:Nat) (b:Blk),(∀ k∈ks,k < H.length)→ks.length≤bs.length→(putM H ks bs)[k]? = some b →
  (∃ j:Nat,bs[j]? = some b∧(ks++List.range' H.length (bs.length - ks.length))[j]? = some k)∨(k < H.length∧k ∉ ks∧H[k]? = some b)
 | [],bs,H,k,b,_,_,h=>by
  simp only [putM] at h
  by_cases hk:k < H.length
  ·exact .inr ⟨hk,by simp,by rwa [List.getElem?_append_left hk] at h⟩
  ·rw [List.getElem?_append_right (by omega)] at h
   ·refine .inl ⟨k - H.length,h,?_⟩
    have:=(List.getElem?_eq_some_iff.1 h).1
    simp only [List.nil_append,List.length_nil,Nat.sub_zero]
    rw [List.getElem?_range' this]
    simp; omega
 | k0 :: ks,[],H,k,b,_,hl,_=>by simp at hl
 | k0 :: ks,b0 :: bs,H,k,b,hk,hl,h=>by
  simp only [putM] at h
  have h0:=hk k0 (by simp)
  rcases putM_get ks bs (hset H k0 b0) k b (fun k hk'=>by rw [hset_length]; exact hk k (by simp [hk'])) (by simpa using hl) h with ⟨j,h1,h2⟩ | ⟨h1,h2,h3⟩
  ·rw [hset_length] at h2
   exact .inl ⟨j + 1,by simpa using h1,by simpa using h2⟩
  ·rw [hset_get] at h3
   rw [hset_length] at h1
   by_cases e:k=k0
   ·subst e
    rw [if_pos ⟨rfl,h0⟩] at h3
    exact .inl ⟨0,by simpa using h3,by simp⟩
   ·rw [if_neg (by simp [e])] at h3
    exact .inr ⟨h1,by simp [e,h2],h3⟩

theorem putM_length:∀ (ks:List Nat) (bs H:Heap),ks.length≤bs.length→(putM H ks bs).length=H.length + (bs.length - ks.length)
 | [],bs,H,_=>by simp [putM]
 | k0 :: ks,[],H,hl=>by simp at hl
 | k0 :: ks,b0 :: bs,H,hl=>by
  simp only [putM]
  rw [putM_length ks bs _ (by simpa using hl),hset_length]; simp

/-- Maps stay maps. -/
def mpKeep:Heap→Heap→Bool
 | .mp _ _ _ :: r,.mp _ _ _ :: t=>mpKeep r t
 | .mp _ _ _ :: _,_=>false
 | .lp _ :: r,.lp _ :: t=>mpKeep r t
 | .lp _ :: _,_=>false
 | _ :: r,_ :: t=>mpKeep r t
 | [],_=>true
 | _ :: _,[]=>false

theorem mpKeep_get:∀ {H0 H1:Heap},mpKeep H0 H1=true→∀ (j:Nat) (kk:IntKind) (d:Int→Bool) (v:Int→PV),H0[j]? = some (.mp kk d v)→∃ kk' d' v',H1[j]? = some (.mp kk' d' v')
 | [],_,_,j,_,_,_,h=>by simp at h
 | b :: r,[],hm,_,_,_,_,_=>by cases b<;>simp [mpKeep] at hm
 | b :: r,b' :: t,hm,0,kk,d,v,h=>by
  simp at h; subst h
  cases b'<;>simp [mpKeep] at hm
  exact ⟨_,_,_,rfl⟩
 | b :: r,b' :: t,hm,j + 1,kk,d,v,h=>by
  have hm2:mpKeep r t=true:=by cases b<;>cases b'<;>simp [mpKeep] at hm<;>exact hm
  simpa using mpKeep_get hm2 j kk d v (by simpa using h)
theorem mpKeep_lp:∀ {H0 H1:Heap},mpKeep H0 H1=true→∀ (j:Nat) (r0:Loop),H0[j]? = some (.lp r0)→∃ r1,H1[j]? = some (.lp r1)
 | [],_,_,j,_,h=>by simp at h
 | b :: r,[],hm,_,_,_=>by cases b<;>simp [mpKeep] at hm
 | b :: r,b' :: t,hm,0,r0,h=>by
  simp at h; subst h
  cases b'<;>simp [mpKeep] at hm
  exact ⟨_,rfl⟩
 | b :: r,b' :: t,hm,j + 1,r0,h=>by
  have hm2:mpKeep r t=true:=by cases b<;>cases b'<;>simp [mpKeep] at hm<;>exact hm
  simpa using mpKeep_lp hm2 j r0 (by simpa using h)

def scM (av:AV) (H0 H1:Heap):Bool:=
 scA H1.length av && H1.all (fun | .own c=>c.all (scA H1.length) | .anc _ _=>false | _=>true) && decide (H0.length≤H1.length) && mpKeep H0 H1 && H0.all notAnc

/-- The frame of who is called with blocks that are lent. -/
def subC (C:Ctx) (m:Map) (H:Heap) (ks:List Nat) (H0:Heap) (w:World):Ctx:=
 ⟨fun b=>OK C m H w b,fun b=>w.heap.size≤b∨∃ (j:Nat) (b0:Blk) (l:Loc),H0[j]? = some b0∧b0.wr=true∧mren m ks j=some l∧l.g=b,w,mren m ks⟩

theorem Rel.wrLt (R:Rel C m s tmps w) {k:Nat} {b:Blk} (hb:s.H[k]? = some b) (hw:b.wr=true) {l:Loc} (hl:m k=some l):C.B l.g∧l.g < w.heap.size:=by
 cases b with
 | own c =>
  rcases R.blk k c hb with ⟨_,hn⟩ | ⟨l',cur,e,a1,a2,a3,_⟩
  ·rw [hl] at hn; cases hn
  ·rw [hl] at a1; cases a1
   exact ⟨a2,(Array.getElem?_eq_some_iff.1 a3).1⟩
 | mp kk d v =>
  obtain ⟨l',ar,clk,vs,a1,a2,a3,_⟩:=R.mp.1 k kk d v hb
  rw [hl] at a1; cases a1
  exact ⟨a2,(Array.getElem?_eq_some_iff.1 a3).1⟩
 | lp r =>
  obtain ⟨l',a1,a2,a3⟩:=R.mp.2.2.2.1 k r hb
  rw [hl] at a1; cases a1
  exact ⟨a2,(Array.getElem?_eq_some_iff.1 a3).1⟩
 | _=>cases hw

theorem Rel.inj2 (R:Rel C m s tmps w) {k k' : Nat} {b b' : Blk} (hb:s.H[k]? = some b) (hw:b.wr=true) (hb' : s.H[k']? = some b') (hw' : b'.wr=true) {l l' : Loc} (hl:m k=some l) (hl' : m k' = some l') (e:l.g=l'.g):k=k':=by
 cases b with
 | own c =>
  cases b' with
  | own c'=>exact R.inj k k' c c' l l' hb hb' hl hl' e
  | mp kk d v=>exact absurd e ((R.mpOK hb' hl').2.2 k c l hb hl)
  | lp r=>exact absurd e ((R.lpOK hb' hl').2.2 k c l hb hl)
  | _=>cases hw'
 | mp kk d v =>
  cases b' with
  | own c'=>exact absurd e.symm ((R.mpOK hb hl).2.2 k' c' l' hb' hl')
  | mp kk' d' v'=>exact R.mp.2.1 _ _ _ _ _ _ _ _ _ _ hb hb' hl hl' e
  | lp r =>
   exfalso
   obtain ⟨l1,ar,clk,vs,a1,a2,a3,_⟩:=R.mp.1 k kk d v hb
   obtain ⟨l2,b1,b2,b3⟩:=R.mp.2.2.2.1 k' r hb'
   rw [hl] at a1; cases a1
   rw [hl'] at b1; cases b1
   rw [e,b3] at a3; cases a3
  | _=>cases hw'
 | lp r =>
  cases b' with
  | own c'=>exact absurd e.symm ((R.lpOK hb hl).2.2 k' c' l' hb' hl')
  | mp kk d v =>
   exfalso
   obtain ⟨l1,ar,clk,vs,a1,a2,a3,_⟩:=R.mp.1 k' kk d v hb'
   obtain ⟨l2,b1,b2,b3⟩:=R.mp.2.2.2.1 k r hb
   rw [hl'] at a1; cases a1
   rw [hl] at b1; cases b1
   rw [e,a3] at b3; cases b3
  | lp r'=>exact R.mp.2.2.2.2 _ _ _ _ _ _ hb hb' hl hl' e
  | _=>cases hw'
 | _=>cases hw

theorem LeH.wr {π:List Nat} {H H1:Heap} (h3:LeH π H π H1) {j:Nat} {b0:Blk} (h:H1[j]? = some b0) (hw:b0.wr=true):∃ k' b,π[j]? = some k'∧H[k']? = some b∧b.wr=true∧((∃ c,b0 = .own c)→∃ c,b = .own c)∧((∃ kk d v,b0 = .mp kk d v)→∃ kk d v,b = .mp kk d v):=by
 obtain ⟨g1,g2⟩:=h3.get
 cases b0 with
 | own c =>
  obtain ⟨k',d,a1,a2,_⟩:=LeH.own g2 j c h
  exact ⟨k',_,a1,a2,rfl,(fun _=>⟨_,rfl⟩),fun ⟨_,_,_,h⟩=>by cases h⟩
 | mp kk d v =>
  obtain ⟨k',a,b⟩:=g2 j _ h
  exact ⟨k',_,a,hget_some b (by simp),rfl,(fun ⟨_,h⟩=>by cases h),fun _=>⟨_,_,_,rfl⟩⟩
 | lp r =>
  obtain ⟨k',a,b⟩:=g2 j _ h
  exact ⟨k',_,a,hget_some b (by simp),rfl,(fun ⟨_,h⟩=>by cases h),fun ⟨_,_,_,h⟩=>by cases h⟩
 | _=>cases hw

/-- Blocks that are gone. -/
def kills (H:Heap):List Nat→Heap
 | []=>H
 | k :: ks=>kills (hset H k .dead) ks
theorem kills_length:∀ (ks:List Nat) (H:Heap),(kills H ks).length=H.length
 | [],H=>rfl
 | k :: ks,H=>by rw [kills,kills_length ks,hset_length]
theorem kills_get:∀ (ks:List Nat) (H:Heap) {k:Nat} {b:Blk},(kills H ks)[k]? = some b→(k∈ks∧b = .dead)∨(k ∉ ks∧H[k]? = some b)
 | [],H,k,b,h=>.inr ⟨by simp,h⟩
 | k0 :: ks,H,k,b,h=>by
  rcases kills_get ks _ h with ⟨h1,h2⟩ | ⟨h1,h2⟩
  ·exact .inl ⟨by simp [h1],h2⟩
  ·rw [hset_get] at h2
   by_cases e:k=k0∧k0 < H.length
   ·rw [if_pos e] at h2; exact .inl ⟨by simp [e.1],(Option.some.inj h2).symm⟩
   ·rw [if_neg e] at h2
    by_cases e2:k=k0
    ·have:=(List.getElem?_eq_some_iff.1 h2).1
     exact absurd ⟨e2,by omega⟩ e
    ·exact .inr ⟨by simp [e2,h1],h2⟩

/-- What must be so of what comes back, where the first q blocks stay in their places. -/
def scQ (q:Nat) (av:AV) (H0 H1:Heap):Bool:=
 scA H1.length av && H1.all (fun | .own c=>c.all (scA H1.length) | .anc _ _=>false | _=>true) && decide (q≤H1.length) && decide (q≤H0.length) && mpKeep (H0.take q) H1 && (H0.drop q).all (fun b=>!b.spc) && H0.all notAnc

theorem Rel.joinQ (R:Rel C m s tmps w) {q:Nat} {ks:List Nat} {H0 H1:Heap} {r:AV} {w' : World} {v:Value} {m' : Map} (hle:LeH ks s.H ks H0) (hks:∀ k∈ks,k < s.H.length) (R1:Rel (subC C m s.H ks H0 w) m' ⟨1,[(0,r)],H1++ancs 0 q⟩ #[v] w') (hsc:scQ q r H0 H1=true) :
  ∃ m2,Rel C m2 { s with H:=putM (kills s.H (ks.drop q)) (ks.take q) (H1.map (Blk.ren (ks.take q++List.range' s.H.length (H1.length - q)))) } tmps w' ∧
   AVal (Reads (OK C m2 (putM (kills s.H (ks.drop q)) (ks.take q) (H1.map (Blk.ren (ks.take q++List.range' s.H.length (H1.length - q))))) w') w') m2 (putM (kills s.H (ks.drop q)) (ks.take q) (H1.map (Blk.ren (ks.take q++List.range' s.H.length (H1.length - q))))) (Go.Pv.ren (ks.take q++List.range' s.H.length (H1.length - q)) r) v∧∀ k,k < s.H.length→m2 k=m k:=by
 obtain ⟨g1,g2⟩:=hle.get
 unfold scQ at hsc
 rw [Bool.and_eq_true,Bool.and_eq_true,Bool.and_eq_true,Bool.and_eq_true,Bool.and_eq_true,Bool.and_eq_true,decide_eq_true_eq,decide_eq_true_eq] at hsc
 obtain ⟨⟨⟨⟨⟨⟨s1,s2⟩,s3⟩,s6⟩,s4⟩,s7⟩,s5⟩:=hsc
 have hn:q≤H1.length:=s3
 have hqk:q≤ks.length:=by omega
 have hkt:∀ k∈ks.take q,k∈ks:=fun k h=>List.mem_of_mem_take h
 have htl:(ks.take q).length=q:=by rw [List.length_take]; omega
 generalize hσe:ks.take q++List.range' s.H.length (H1.length - q)=σ
 have hσlen:σ.length=H1.length:=by rw [← hσe,List.length_append,htl,List.length_range']; omega
 generalize hH2:putM (kills s.H (ks.drop q)) (ks.take q) (H1.map (Blk.ren σ))=H2
 have hlen2:H2.length=s.H.length + (H1.length - q):=by rw [← hH2,putM_length _ _ _ (by rw [htl,List.length_map]; exact hn),kills_length,htl]; simp
 
 have hm1:∀ j,j < q→m' j=mren m ks j:=fun j hj=>by
  have h:(H1++ancs 0 q)[H1.length + j]? = some (.anc j j):=by
   rw [List.getElem?_append_right (by omega),Nat.add_sub_cancel_left,ancs_at _ _ _ hj,Nat.zero_add]
  exact (R1.mp.2.2.1 _ _ _ h).2
 obtain ⟨m2,hm2⟩:∃ m2:Map,m2=fun k=>if k < s.H.length then m k else m' (q + (k - s.H.length)):=⟨_,rfl⟩
 have hmo:∀ k,k < s.H.length→m2 k=m k:=fun k h=>by rw [hm2]; simp [h]
 have hσ:∀ (j k:Nat),σ[j]? = some k→k < H2.length∧m2 k=m' j:=by
  intro j k h
  rw [← hσe] at h
  by_cases hj:j < q
  ·rw [List.getElem?_append_left (by omega)] at h
   rw [List.getElem?_take,if_pos hj] at h
   have hk:=hks k (List.mem_of_getElem? h)
   refine ⟨by omega,?_⟩
   rw [hmo k hk,hm1 j (by omega)]
   simp only [mren,h,Option.bind_some]
  ·rw [List.getElem?_append_right (by omega),htl] at h
   have hj2:j - q < H1.length - q:=by
    have:=(List.getElem?_eq_some_iff.1 h).1
    simpa using this
   rw [List.getElem?_range' hj2] at h
   simp only [Option.some.injEq,Nat.one_mul] at h
   subst h
   refine ⟨by omega,?_⟩
   rw [hm2]
   simp only
   rw [if_neg (by omega)]
   congr 1
   omega
 have hσ2:∀ k,k < σ.length→σ.getD k 0 < H2.length∧m2 (σ.getD k 0)=m' k:=fun k hk=>by
  have:σ[k]? = some (σ.getD k 0):=by simp [List.getD,List.getElem?_eq_getElem hk]
  exact hσ k _ this
 have hget:∀ (k:Nat) (b:Blk),H2[k]? = some b→(∃ (j:Nat) (b' : Blk),H1[j]? = some b'∧b=b'.ren σ∧σ[j]? = some k)∨(k < s.H.length∧k ∉ ks∧s.H[k]? = some b)∨b = .dead:=by
  intro k b h
  rw [← hH2] at h
  rcases putM_get (ks.take q) _ (kills s.H (ks.drop q)) k b (fun k hk=>by rw [kills_length]; exact hks k (hkt k hk)) (by rw [htl,List.length_map]; exact hn) h with ⟨j,h1,h2⟩ | ⟨h1,h2,h3⟩
  ·rw [List.length_map,htl,kills_length,hσe] at h2
   rw [List.getElem?_map] at h1
   cases e:H1[j]? with
   | none=>rw [e] at h1; cases h1
   | some b'=>rw [e] at h1; exact .inl ⟨j,b',e,(Option.some.inj h1).symm,h2⟩
  ·rcases kills_get _ _ h3 with ⟨_,e⟩ | ⟨g3,g4⟩
   ·exact .inr (.inr e)
   ·refine .inr (.inl ⟨by rw [kills_length] at h1; exact h1,fun hk=>?_,g4⟩)
    rw [← List.take_append_drop q ks] at hk
    rcases List.mem_append.1 hk with hk | hk
    ·exact h2 hk
    ·exact g3 hk
 have hHc:∀ (j:Nat) (b:Blk),H1[j]? = some b→(H1++ancs 0 q)[j]? = some b:=fun j b h=>by
  rw [List.getElem?_append_left (List.getElem?_eq_some_iff.1 h).1]; exact h
 have hown:∀ (k:Nat) (c:List AV),H2[k]? = some (.own c)→(∃ (j:Nat) (c' : List AV),H1[j]? = some (.own c')∧c=c'.map (Go.Pv.ren σ)∧σ[j]? = some k)∨(k < s.H.length∧k ∉ ks∧s.H[k]? = some (.own c)):=by
  intro k c h
  rcases hget k _ h with ⟨j,b',h1,h2,h3⟩ | h | h
  ·cases b' with
   | own c'=>simp only [Blk.ren,Blk.own.injEq] at h2; exact .inl ⟨j,c',h1,h2,h3⟩
   | _=>cases h2
  ·exact .inr h
  ·cases h
 have hmps:∀ (k:Nat) (kk:IntKind) (d:Int→Bool) (vv:Int→PV),H2[k]? = some (.mp kk d vv)→(∃ j:Nat,H1[j]? = some (.mp kk d vv)∧σ[j]? = some k)∨(k < s.H.length∧k ∉ ks∧s.H[k]? = some (.mp kk d vv)):=by
  intro k kk d vv h
  rcases hget k _ h with ⟨j,b',h1,h2,h3⟩ | h | h
  ·cases b' with
   | mp kk' d' v'=>simp only [Blk.ren,Blk.mp.injEq] at h2; obtain ⟨rfl,rfl,rfl⟩:=h2; exact .inl ⟨j,h1,h3⟩
   | _=>cases h2
  ·exact .inr h
  ·cases h
 have hfro:∀ (k:Nat) (c:List PV),H2[k]? = some (.fro c)→(∃ j:Nat,H1[j]? = some (.fro c)∧σ[j]? = some k)∨(k < s.H.length∧k ∉ ks∧s.H[k]? = some (.fro c)):=by
  intro k c h
  rcases hget k _ h with ⟨j,b',h1,h2,h3⟩ | h | h
  ·cases b' with
   | fro c'=>simp only [Blk.ren,Blk.fro.injEq] at h2; subst h2; exact .inl ⟨j,h1,h3⟩
   | _=>cases h2
  ·exact .inr h
  ·cases h
 have lent:∀ (j:Nat) (b0:Blk) (l:Loc),H0[j]? = some b0→b0.wr=true→mren m ks j=some l→∃ k' b,k'∈ks∧s.H[k']? = some b∧b.wr=true∧m k' = some l∧((∃ c,b0 = .own c)→∃ c,b = .own c)∧((∃ kk d v,b0 = .mp kk d v)→∃ kk d v,b = .mp kk d v):=by
  intro j b0 l h hw hl
  obtain ⟨k',b,a1,a2,a3,a4,a5⟩:=hle.wr h hw
  simp only [mren,a1,Option.bind_some] at hl
  exact ⟨k',b,List.mem_of_getElem? a1,a2,a3,hl,a4,a5⟩
 have hB1:∀ b,(subC C m s.H ks H0 w).B b→C.B b:=by
  intro b hb
  rcases hb with hb | ⟨j,b0,l,h1,h2,h3,rfl⟩
  ·exact R.base b hb
  ·obtain ⟨k',b,_,a2,a3,a4,_⟩:=lent j b0 l h1 h2 h3
   exact (R.wrLt a2 a3 a4).1
 have hBx:∀ (k:Nat) (b:Blk) (l:Loc),k ∉ ks→s.H[k]? = some b→b.wr=true→m k=some l→¬ (subC C m s.H ks H0 w).B l.g:=by
  intro k b l hk hb hw hl hB
  rcases hB with hB | ⟨j,b0,l0,h1,h2,h3,h4⟩
  ·have:=(R.wrLt hb hw hl).2
   omega
  ·obtain ⟨k',b',a1,a2,a3,a4,_⟩:=lent j b0 l0 h1 h2 h3
   have:=R.inj2 hb hw a2 a3 hl a4 h4.symm
   subst this
   exact hk a1
 have hcell:∀ b o x,OK C m s.H w b→w.cell? ⟨b,o,none⟩=some x→w'.cell? ⟨b,o,none⟩=some x:=by
  intro b o x hb hc
  by_cases hB:(subC C m s.H ks H0 w).B b
  ·exfalso
   rcases hB with hB | ⟨j,b0,l0,h1,h2,h3,h4⟩
   ·have:=hb.2.1; omega
   ·obtain ⟨k',b',a1,a2,a3,a4,_⟩:=lent j b0 l0 h1 h2 h3
    cases b' with
    | own c=>exact hb.2.2 k' c l0 a2 a4 h4
    | mp kk d vv =>
     obtain ⟨l',ar,clk,vs,c1,c2,c3,_⟩:=R.mp.1 k' kk d vv a2
     rw [a4] at c1; cases c1
     rw [h4] at c3
     unfold World.cell? at hc
     simp only [c3] at hc
     first|cases hc|simp at hc
    | lp rr =>
     obtain ⟨l',c1,c2,c3⟩:=R.mp.2.2.2.1 k' rr a2
     rw [a4] at c1; cases c1
     rw [h4] at c3
     unfold World.cell? at hc
     simp only [c3] at hc
     first|cases hc|simp at hc
    | _=>cases a3
  ·rw [World.cell?_of_block (w:=w) (R1.below.block b hB)]; exact hc
 have hOK:∀ b,OK (subC C m s.H ks H0 w) m' (H1++ancs 0 q) w' b→OK C m2 H2 w' b:=by
  intro b hb
  refine ⟨?_,hb.2.1,fun k c l h hl=>?_⟩
  ·rcases hb.1 with h | h
   ·exact h.1
   ·exact .inr (hB1 b h)
  ·rcases hown k c h with ⟨j,c',h1,_,h3⟩ | ⟨h1,h2,h3⟩
   ·rw [(hσ j k h3).2] at hl
    exact hb.2.2 j c' l (hHc _ _ h1) hl
   ·rw [hmo k h1] at hl
    rcases hb.1 with h' | h'
    ·exact h'.2.2 k c l h3 hl
    ·intro e
     exact hBx k _ l h2 h3 rfl hl (by rw [e]; exact h')
 have hsp:∀ (j:Nat) (b:Blk),H0[j]? = some b→b.spc=true→j < q:=fun j b h hb=>by
  refine Nat.lt_of_not_le fun hq=>?_
  have h2:(H0.drop q)[j - q]? = some b:=by rw [List.getElem?_drop,show q + (j - q)=j by omega]; exact h
  have:=(List.all_eq_true.1 s7) _ (List.mem_of_getElem? h2)
  rw [hb] at this; cases this
 have ho1:∀ b,OK C m s.H w b→OK C m2 H2 w' b:=by
  intro b hb
  refine ⟨hb.1,Nat.lt_of_lt_of_le hb.2.1 R1.below.size,fun k c l h hl e=>?_⟩
  rcases hown k c h with ⟨j,c',h1,_,h3⟩ | ⟨h1,h2,h3⟩
  ·rw [(hσ j k h3).2] at hl
   rcases (R1.wrLt (hHc _ _ h1) rfl hl).1 with hB | ⟨j0,b0,l0,a1,a2,a3,a4⟩
   ·have:=hb.2.1; omega
   ·obtain ⟨k',b',d1,d2,d3,d4,d5,d6⟩:=lent j0 b0 l0 a1 a2 a3
    cases b0 with
    | own c0 =>
     obtain ⟨c1,rfl⟩:=d5 ⟨_,rfl⟩
     exact hb.2.2 k' c1 l0 d2 d4 (by rw [a4,e])
    | mp kk d vv =>
     have hj0:=hsp j0 _ a1 rfl
     obtain ⟨kk',d',v',f1⟩:=mpKeep_get s4 j0 kk d vv (by rw [List.getElem?_take,if_pos hj0]; exact a1)
     have f2:m' j0=some l0:=by rw [hm1 j0 hj0]; exact a3
     exact (R1.mpOK (hHc _ _ f1) f2).2.2 j c' l (hHc _ _ h1) hl a4.symm
    | lp rr =>
     have hj0:=hsp j0 _ a1 rfl
     obtain ⟨r1,f1⟩:=mpKeep_lp s4 j0 rr (by rw [List.getElem?_take,if_pos hj0]; exact a1)
     have f2:m' j0=some l0:=by rw [hm1 j0 hj0]; exact a3
     exact (R1.lpOK (hHc _ _ f1) f2).2.2 j c' l (hHc _ _ h1) hl a4.symm
    | _=>cases a2
  ·rw [hmo k h1] at hl
   exact hb.2.2 k c l h3 hl e
 have rd1:∀ p x,Reads (OK C m s.H w) w p x→Reads (OK C m2 H2 w') w' p x:=fun p x h=>h.extc ho1 hcell
 have rd2:∀ p x,Reads (OK (subC C m s.H ks H0 w) m' (H1++ancs 0 q) w') w' p x→Reads (OK C m2 H2 w') w' p x:=fun p x h=>h.mono hOK
 have hlen3:s.H.length≤H2.length:=by omega
 have sall:∀ (j:Nat) (b:Blk),H1[j]? = some b→(match b with | .own c=>c.all (scA H1.length) | .anc _ _=>false | _=>true)=true:=fun j b h=>by
  have:=(List.all_eq_true.1 s2) _ (List.mem_of_getElem? h)
  cases b<;>exact this
 refine ⟨m2,⟨R.laid.ext rd1,R.below.trans ⟨R1.below.os,R1.below.tape,R1.below.output,R1.below.size,fun k hk=>R1.below.block k fun h=>hk (hB1 k h),R1.below.dr⟩,fun b h=>R.base b (Nat.le_trans R1.below.size h),R.size,?_,?_,?_,fun t=>?_,?_,?_,?_,?_⟩,?_,hmo⟩
 ·intro k k' c c' l l' h1 h2 h3 h4 h5
  rcases hown k c h1 with ⟨j,d,a1,_,a3⟩ | ⟨a1,a2,a3⟩<;>rcases hown k' c' h2 with ⟨j',d',b1,_,b3⟩ | ⟨b1,b2,b3⟩
  ·rw [(hσ _ _ a3).2] at h3; rw [(hσ _ _ b3).2] at h4
   have:=R1.inj j j' d d' l l' (hHc _ _ a1) (hHc _ _ b1) h3 h4 h5
   subst this
   rw [a3] at b3
   exact Option.some.inj b3
  ·rw [(hσ _ _ a3).2] at h3; rw [hmo _ b1] at h4
   exact absurd (by rw [← h5]; exact (R1.wrLt (hHc _ _ a1) rfl h3).1) (hBx k' _ l' b2 b3 rfl h4)
  ·rw [hmo _ a1] at h3; rw [(hσ _ _ b3).2] at h4
   exact absurd (by rw [h5]; exact (R1.wrLt (hHc _ _ b1) rfl h4).1) (hBx k _ l a2 a3 rfl h3)
  ·rw [hmo _ a1] at h3; rw [hmo _ b1] at h4
   exact R.inj k k' c c' l l' a3 b3 h3 h4 h5
 ·intro k c h
  rcases hown k c h with ⟨j,c',a1,rfl,a3⟩ | ⟨a1,a2,a3⟩
  ·rcases R1.blk j c' (hHc _ _ a1) with ⟨e,hn⟩ | ⟨l,cur,e,b1,b2,b3,b4,b5,b6,b7⟩
   ·exact .inl ⟨by rw [e]; rfl,by rw [(hσ _ _ a3).2]; exact hn⟩
   ·refine .inr ⟨l,cur,e,by rw [(hσ _ _ a3).2]; exact b1,hB1 _ b2,b3,b4,b5,by simpa using b6,fun i hi=>?_⟩
    rw [List.length_map] at hi
    rw [List.getElem_map]
    have hs:scA σ.length c'[i]=true:=by
     rw [hσlen]
     exact (List.all_eq_true.1 (sall j _ a1)) _ (List.getElem_mem hi)
    exact (b7 i hi).sig rd2 hσ2 hs
  ·refine (R.blk k c a3).ext rd1 hlen3 hmo (hmo k a1) fun l hl=>R1.below.block _ (hBx k _ l a2 a3 rfl hl)
 ·intro k c h
  rcases hfro k c h with ⟨j,a1,a3⟩ | ⟨a1,a2,a3⟩
  ·rcases R1.fro j c (hHc _ _ a1) with ⟨e1,e2⟩ | ⟨l,vs,e1,e2,e3,e4⟩
   ·exact .inl ⟨e1,by rw [(hσ _ _ a3).2]; exact e2⟩
   ·exact .inr ⟨l,vs,by rw [(hσ _ _ a3).2]; exact e1,hOK _ e2,e3,fun i hi=>⟨(e4 i hi).1,rd2 _ _ (e4 i hi).2⟩⟩
  ·rcases R.fro k c a3 with ⟨e1,e2⟩ | ⟨l,vs,e1,e2,e3,e4⟩
   ·exact .inl ⟨e1,by rw [hmo k a1]; exact e2⟩
   ·exact .inr ⟨l,vs,by rw [hmo k a1]; exact e1,ho1 _ e2,e3,fun i hi=>⟨hcell _ _ _ e2 (e4 i hi).1,rd1 _ _ (e4 i hi).2⟩⟩
 ·exact (R.slot t).ext rd1 hlen3 hmo
 ·intro k kk d vv h
  rcases hmps k kk d vv h with ⟨j,a1,a3⟩ | ⟨a1,a2,a3⟩
  ·obtain ⟨l,ar,clk,vs,b1,b2,b3,b4,b5,b6,b7⟩:=R1.mp.1 j kk d vv (hHc _ _ a1)
   exact ⟨l,ar,clk,vs,by rw [(hσ _ _ a3).2]; exact b1,hB1 _ b2,b3,b4,b5,b6,fun z hz=>rd2 _ _ (b7 z hz)⟩
  ·obtain ⟨l,ar,clk,vs,b1,b2,b3,b4,b5,b6,b7⟩:=R.mp.1 k kk d vv a3
   exact ⟨l,ar,clk,vs,by rw [hmo k a1]; exact b1,b2,by rw [R1.below.block _ (hBx k _ l a2 a3 rfl b1)]; exact b3,b4,b5,b6,fun z hz=>rd1 _ _ (b7 z hz)⟩
 ·intro k k' kk d vv kk' d' v' l l' h1 h2 h3 h4 h5
  rcases hmps k kk d vv h1 with ⟨j,a1,a3⟩ | ⟨a1,a2,a3⟩<;>rcases hmps k' kk' d' v' h2 with ⟨j',b1,b3⟩ | ⟨b1,b2,b3⟩
  ·rw [(hσ _ _ a3).2] at h3; rw [(hσ _ _ b3).2] at h4
   have:=R1.mp.2.1 _ _ _ _ _ _ _ _ _ _ (hHc _ _ a1) (hHc _ _ b1) h3 h4 h5
   subst this
   rw [a3] at b3
   exact Option.some.inj b3
  ·rw [(hσ _ _ a3).2] at h3; rw [hmo _ b1] at h4
   exact absurd (by rw [← h5]; exact (R1.wrLt (hHc _ _ a1) rfl h3).1) (hBx k' _ l' b2 b3 rfl h4)
  ·rw [hmo _ a1] at h3; rw [(hσ _ _ b3).2] at h4
   exact absurd (by rw [h5]; exact (R1.wrLt (hHc _ _ b1) rfl h4).1) (hBx k _ l a2 a3 rfl h3)
  ·rw [hmo _ a1] at h3; rw [hmo _ b1] at h4
   exact R.mp.2.1 _ _ _ _ _ _ _ _ _ _ a3 b3 h3 h4 h5
 ·intro k i j h
  rcases hget k _ h with ⟨j',b',h1,h2,_⟩ | ⟨a1,a2,a3⟩ | h
  ·have:=sall j' b' h1
   cases b' with
   | anc _ _=>cases this
   | _=>cases h2
  ·obtain ⟨c1,c2⟩:=R.mp.2.2.1 k i j a3
   exact ⟨by simp only; omega,by rw [hmo j c1]; exact c2⟩
  ·cases h
 ·have hlps:∀ (k:Nat) (r:Loop),H2[k]? = some (.lp r)→(∃ j:Nat,H1[j]? = some (.lp r)∧σ[j]? = some k)∨(k < s.H.length∧k ∉ ks∧s.H[k]? = some (.lp r)):=by
   intro k r h
   rcases hget k _ h with ⟨j,b',h1,h2,h3⟩ | h | h
   ·cases b' with
    | lp r'=>simp only [Blk.ren,Blk.lp.injEq] at h2; obtain rfl:=h2; exact .inl ⟨j,h1,h3⟩
    | _=>cases h2
   ·exact .inr h
   ·cases h
  constructor
  ·intro k r h
   rcases hlps k r h with ⟨j,a1,a3⟩ | ⟨a1,a2,a3⟩
   ·obtain ⟨l,b1,b2,b3⟩:=R1.mp.2.2.2.1 j r (hHc _ _ a1)
    exact ⟨l,by rw [(hσ _ _ a3).2]; exact b1,hB1 _ b2,b3⟩
   ·obtain ⟨l,b1,b2,b3⟩:=R.mp.2.2.2.1 k r a3
    exact ⟨l,by rw [hmo k a1]; exact b1,b2,by rw [R1.below.block _ (hBx k _ l a2 a3 rfl b1)]; exact b3⟩
  ·intro k k' r r' l l' h1 h2 h3 h4 h5
   rcases hlps k r h1 with ⟨j,a1,a3⟩ | ⟨a1,a2,a3⟩<;>rcases hlps k' r' h2 with ⟨j',b1,b3⟩ | ⟨b1,b2,b3⟩
   ·rw [(hσ _ _ a3).2] at h3; rw [(hσ _ _ b3).2] at h4
    have:=R1.mp.2.2.2.2 _ _ _ _ _ _ (hHc _ _ a1) (hHc _ _ b1) h3 h4 h5
    subst this
    rw [a3] at b3
    exact Option.some.inj b3
   ·rw [(hσ _ _ a3).2] at h3; rw [hmo _ b1] at h4
    exact absurd (by rw [← h5]; exact (R1.wrLt (hHc _ _ a1) rfl h3).1) (hBx k' _ l' b2 b3 rfl h4)
   ·rw [hmo _ a1] at h3; rw [(hσ _ _ b3).2] at h4
    exact absurd (by rw [h5]; exact (R1.wrLt (hHc _ _ b1) rfl h4).1) (hBx k _ l a2 a3 rfl h3)
   ·rw [hmo _ a1] at h3; rw [hmo _ b1] at h4
    exact R.mp.2.2.2.2 _ _ _ _ _ _ a3 b3 h3 h4 h5
 ·have:=R1.slot 0
  exact AVal.sig rd2 hσ2 this (by rw [hσlen]; exact s1)

theorem kills_nil (H:Heap):kills H []=H:=rfl
theorem Rel.joinM (R:Rel C m s tmps w) {ks:List Nat} {H0 H1:Heap} {r:AV} {w' : World} {v:Value} {m' : Map} (hle:LeH ks s.H ks H0) (hks:∀ k∈ks,k < s.H.length) (R1:Rel (subC C m s.H ks H0 w) m' ⟨1,[(0,r)],H1++ancs 0 H0.length⟩ #[v] w') (hsc:scM r H0 H1=true) :
  ∃ m2,Rel C m2 { s with H:=putM s.H ks (H1.map (Blk.ren (ks++List.range' s.H.length (H1.length - ks.length)))) } tmps w' ∧
   AVal (Reads (OK C m2 (putM s.H ks (H1.map (Blk.ren (ks++List.range' s.H.length (H1.length - ks.length))))) w') w') m2 (putM s.H ks (H1.map (Blk.ren (ks++List.range' s.H.length (H1.length - ks.length))))) (Go.Pv.ren (ks++List.range' s.H.length (H1.length - ks.length)) r) v:=by
 have g1:=(hle.get).1
 have h:=R.joinQ (q:=H0.length) hle hks R1 (by
  unfold scM at hsc
  unfold scQ
  rw [Bool.and_eq_true,Bool.and_eq_true,Bool.and_eq_true,Bool.and_eq_true] at hsc
  obtain ⟨⟨⟨⟨s1,s2⟩,s3⟩,s4⟩,s5⟩:=hsc
  rw [s1,s2,s3,s5,List.take_length,s4,List.drop_length]; simp)
 rw [← g1,List.take_length,List.drop_length,kills_nil] at h
 obtain ⟨m2,h1,h2,_⟩:=h
 exact ⟨m2,h1,h2⟩

/-! ### The call -/

def argM1 (H:Heap) (ks:List Nat) (x a:AV):Prop:=
 match a with
 | .p pv=>(match peekG H x with | some (p,pv',true)=>p∧pv' = pv | _=>False)
 | a=>x=Go.Pv.ren ks a∧scA ks.length a=true

def argsM (H:Heap) (ks:List Nat):List AV→List AV→Prop
 | x :: xs,a :: avs=>argM1 H ks x a∧argsM H ks xs avs
 | [],[]=>True
 | _,_=>False

theorem argsM_val (R:Rel C m s tmps w) {rd' : PV→Value→Prop} {ks:List Nat} {H0:Heap} (h1:∀ p v,Reads (OK C m s.H w) w p v→rd' p v) (hl:H0.length=ks.length):∀ (X avs:List AV) (f:Nat→Value),argsM s.H ks X avs→(∀ i (h:i < X.length),AVal (Reads (OK C m s.H w) w) m s.H X[i] (f i)) →
  avs.length=X.length∧∀ i (h:i < avs.length),AVal rd' (mren m ks) H0 avs[i] (f i)
 | [],[],f,_,_=>⟨rfl,fun i h=>by simp at h⟩
 | x :: xs,a :: avs,f,h,hv=>by
  obtain ⟨k1,k2⟩:=argsM_val R h1 hl xs avs (fun i=>f (i + 1)) h.2 fun i hi=>by have:=hv (i + 1) (by simp; omega); rwa [List.getElem_cons_succ] at this
  refine ⟨by simp [k1],fun i hi=>?_⟩
  cases i with
  | succ i=>simpa using k2 i (by simpa using hi)
  | zero =>
   have hx:=hv 0 (by simp)
   simp only [List.getElem_cons_zero] at hx ⊢
   have h0:=h.1
   unfold argM1 at h0
   split at h0
   ·rename_i pv
    split at h0
    ·rename_i p pv' hp
     obtain ⟨g1,rfl⟩:=h0
     exact .p _ _ (h1 _ _ ((peekG_val R hx hp g1).2 rfl))
    ·exact h0.elim
   ·obtain ⟨rfl,hsc⟩:=h0
    exact hx.unren h1 hl hsc
 | [],_ :: _,_,h,_=>h.elim
 | _ :: _,[],_,h,_=>h.elim

theorem call_doesM {o:Oper} {fo:Operand} {args:Array Operand} {ts:Array TypeId} (ho:o.op = .call { callee:=.value fo,args:=args,argTypes:=ts }) {g:FuncId} {cap:List PV} (hfo:s.ev fo = .p (.fn g cap)) {ks:List Nat} {avs:List AV} {H0 H1:Heap} {r:AV}
  (hc:FnM P g avs H0 r H1) (hargs:argsM s.H ks (args.toList.map s.ev++cap.map .p) avs) (hle:LeH ks s.H ks H0) (hnd:ks.Nodup) (hks:ks.all (fun k=>decide (k < s.H.length))=true) (hsc:scM r H0 H1=true) :
  DoesW P o s (Go.Pv.ren (ks++List.range' s.H.length (H1.length - ks.length)) r) (putM s.H ks (H1.map (Blk.ren (ks++List.range' s.H.length (H1.length - ks.length))))):=by
 intro C m a w K Q R hK
 have hks' : ∀ k∈ks,k < s.H.length:=fun k hk=>by simpa using (List.all_eq_true.1 hks) k hk
 have hfv:=R.ev fo
 rw [hfo] at hfv
 generalize hfe:a.eval fo=fv at hfv
 have hfv:=hfv.p_inv
 cases hfv with
 | fn _ _ vs hcl hcr =>
  obtain ⟨⟨fn,hfn,hnm,hbd⟩,hcalls⟩:=hc
  have hrun:(execOp a.eval o).run P w = .ok (.enter g (args.map a.eval++vs)) w:=by
   have hnm' : ¬ fn.name = "runtime.NumGoroutine":=by simpa using hnm
   have hbd' : ¬ fn.body=none:=by intro e; rw [e] at hbd; simp at hbd
   simp [execOp,ho,resolve,hfe,Deferred.ofValue,invoke,callFunc,hfn,hnm',hbd']
  refine opR_of_wp (by first|rfl|(rw [ho]; rfl)) ?_
  unfold Oper.wp
  rw [hrun]
  simp only [Oper.upon]
  obtain ⟨g1,g2⟩:=hle.get
  have ho1:∀ b,OK C m s.H w b→OK (subC C m s.H ks H0 w) (mren m ks) H0 w b:=by
   refine fun b h=>⟨.inl h,h.2.1,fun k c l hk hl=>?_⟩
   obtain ⟨k',d,a1,a2,_⟩:=LeH.own g2 k c hk
   simp only [mren,a1,Option.bind_some] at hl
   exact h.2.2 k' _ l a2 hl
  obtain ⟨e1,e2⟩:=argsM_val R (rd':=Reads (OK (subC C m s.H ks H0 w) (mren m ks) H0 w) w) (H0:=H0) (fun p v h=>h.mono ho1) g1.symm _ avs (fun i=>(args.map a.eval++vs).getD i undef) hargs fun i hi=>by
   simp only [List.length_append,List.length_map,Array.length_toList] at hi
   by_cases hip:i < args.size
   ·rw [List.getElem_append_left (by simpa using hip)]
    simp only [Array.getD_eq_getD_getElem?]
    rw [Array.getElem?_append_left (by simpa using hip)]
    have:=R.ev args[i]
    simpa [Array.getElem?_eq_getElem hip] using this
   ·rw [List.getElem_append_right (by simp; omega)]
    simp only [Array.getD_eq_getD_getElem?]
    rw [Array.getElem?_append_right (by simp; omega)]
    simp only [List.getElem_map,List.length_map,Array.length_toList,Array.size_map]
    have:=hcr (i - args.size) (by omega)
    rw [Array.getD_eq_getD_getElem?] at this
    exact .p _ _ this
  have hsz:(args.map a.eval++vs).size=avs.length:=by
   rw [e1]; simp; omega
  have s5:H0.all notAnc=true:=by
   unfold scM at hsc
   rw [Bool.and_eq_true] at hsc
   exact hsc.2
  have R0:Rel (subC C m s.H ks H0 w) (mren m ks) ⟨avs.length,entA 0 avs,H0⟩ (args.map a.eval++vs) w:=by
   refine R.weakenC (s1:=⟨avs.length,entA 0 avs,H0⟩) hsz hnd hle ho1 (BelowP.refl _ _) (fun b h=>.inl h) (fun k b l h hw hl _=>.inr ⟨k,b,l,h,hw,hl,rfl⟩) (fun k i j h=>?_) fun t=>?_
   ·exact absurd rfl (notAnc_spec ((List.all_eq_true.1 s5) _ (List.mem_of_getElem? h)) i j)
   ·unfold St.get
    simp only
    rw [entA_lk,if_pos (Nat.zero_le _),Nat.sub_zero]
    by_cases ht:t < avs.length
    ·have:=e2 t ht
     simpa [List.getD,List.getElem?_eq_getElem ht] using this
    ·rw [List.getD_eq_getElem?_getD,List.getElem?_eq_none (by omega)]
     exact .dead _
  have R0':=R0.addAnc (n:=H0.length) (Nat.le_refl _) fun i _=>rfl
  refine (hcalls _ _ w _ R0').mono fun e w' ⟨v,m',he,R1⟩=>?_
  subst he
  obtain ⟨m2,R2,hv⟩:=R.joinM hle hks' R1 hsc
  exact hK v m2 w' R2 hv

/-- THE WORD OF THE WALK: a call that is lent blocks. -/
theorem runs_callM {all:Array Oper} {rest:List Oper} {K:St→Prop} {dst:Option Tmp} {ty:TypeId} {pos:String} {aft:Array Edge} {gd:Option (Nat × Bool)} {fo:Operand} {args:Array Operand} {ts:Array TypeId} {g:FuncId} {avs:List AV} {H0 H1:Heap} {r:AV} (ks:List Nat)
  (hc:FnM P g avs H0 r H1) {cap:List PV} (hfo:s.ev fo = .p (.fn g cap)) (hg:guardA all s { dst:=dst,op:=.call { callee:=.value fo,args:=args,argTypes:=ts },type:=ty,pos:=pos,after:=aft,guard:=gd } = some true)
  (hargs:argsM s.H ks (args.toList.map s.ev++cap.map .p) avs) (hle:LeH ks s.H ks H0) (hnd:ks.Nodup) (hks:ks.all (fun k=>decide (k < s.H.length))=true) (hsc:scM r H0 H1=true) (hd:dstOk s dst)
  (h:Runs P false all rest K (({ s with H:=putM s.H ks (H1.map (Blk.ren (ks++List.range' s.H.length (H1.length - ks.length)))) } : St).put dst (Go.Pv.ren (ks++List.range' s.H.length (H1.length - ks.length)) r))) :
  Runs P false all ({ dst:=dst,op:=.call { callee:=.value fo,args:=args,argTypes:=ts },type:=ty,pos:=pos,after:=aft,guard:=gd } :: rest) K s:=by
 obtain ⟨s',hr,hK⟩:=h
 exact ⟨s',.cons (.op s _ _ hg (dstOk_spec hd) (call_doesM rfl hfo hc hargs hle hnd hks hsc) fun h=>by cases h) hr,hK⟩

/-! ### How much stands in a map -/

open Classical in
noncomputable def mpLen (d:Int→Bool):Nat:=if h:∃ l:List Int,l.Nodup∧∀ z,z∈l↔d z=true then h.choose.length else 0

theorem nodup_le:∀ {l l' : List Int},l.Nodup→(∀ z∈l,z∈l')→l.length≤l'.length
 | [],_,_,_=>Nat.zero_le _
 | x :: l,l',hn,h=>by
  have hx:=h x (by simp)
  have h1:=nodup_le (l:=l) (l':=l'.erase x) (List.nodup_cons.1 hn).2 fun z hz=>(List.mem_erase_of_ne (fun e=>(List.nodup_cons.1 hn).1 (by rw [← e]; exact hz))).2 (h z (by simp [hz]))
  rw [List.length_erase_of_mem hx] at h1
  have:=List.length_pos_of_mem hx
  simp only [List.length_cons]
  omega

theorem mpLen_eq {d:Int→Bool} {l:List Int} (h1:l.Nodup) (h2:∀ z,z∈l↔d z=true):mpLen d=l.length:=by
 have h:∃ l:List Int,l.Nodup∧∀ z,z∈l↔d z=true:=⟨l,h1,h2⟩
 unfold mpLen
 rw [dif_pos h]
 obtain ⟨a1,a2⟩:=h.choose_spec
 refine Nat.le_antisymm (nodup_le a1 fun z hz=>(h2 z).2 ((a2 z).1 hz)) (nodup_le h1 fun z hz=>(a2 z).2 ((h2 z).1 hz))

theorem mlk_some {kk:IntKind} {z:Int} : ∀ {es:List MapEntry} {x:Value},mlk kk z es=some x→∃ e∈es,e.key = .int kk z
 | [],_,h=>by cases h
 | e :: es,x,h=>by
  by_cases hk:e.key = .int kk z
  ·exact ⟨e,by simp,hk⟩
  ·rw [mlk_neg _ hk] at h
   obtain ⟨e',h1,h2⟩:=mlk_some h
   exact ⟨e',by simp [h1],h2⟩

theorem mlk_ne {kk:IntKind} {z:Int} : ∀ {es:List MapEntry},(∃ e∈es,e.key = .int kk z)→mlk kk z es ≠ none
 | [],h=>by obtain ⟨e,h1,_⟩:=h; cases h1
 | e :: es,h=>by
  by_cases hk:e.key = .int kk z
  ·rw [mlk_pos _ hk]; simp
  ·rw [mlk_neg _ hk]
   obtain ⟨e',h1,h2⟩:=h
   rcases List.mem_cons.1 h1 with rfl | h1
   ·exact absurd h2 hk
   ·exact mlk_ne ⟨e',h1,h2⟩

def keyInt:Value→Int
 | .int _ z=>z
 | _=>0

theorem mpLen_entries {kk:IntKind} {d:Int→Bool} {es:List MapEntry} {vs:Int→Value} {clk:Nat} (h1:MpK kk clk es) (h2:∀ z,d z=false→mlk kk z es=none) (h3:∀ z,d z=true→mlk kk z es=some (vs z)):mpLen d=es.length:=by
 have hk:∀ e∈es,e.key = .int kk (keyInt e.key):=fun e he=>by
  obtain ⟨z,hz⟩:=h1.1 e he
  rw [hz]; rfl
 have e1:es.map MapEntry.key=(es.map fun e=>keyInt e.key).map (Value.int kk):=by
  rw [List.map_map]
  exact List.map_congr_left fun e he=>hk e he
 have hnd:(es.map fun e=>keyInt e.key).Nodup:=by
  have:=h1.2.1
  rw [e1] at this
  exact List.Pairwise.imp (fun h e=>h (by rw [e])) (List.pairwise_map.1 this)
 rw [mpLen_eq hnd fun z=>?_,List.length_map]
 rw [List.mem_map]
 constructor
 ·rintro ⟨e,he,rfl⟩
  cases hd:d (keyInt e.key) with
  | true=>rfl
  | false=>exact absurd (h2 _ hd) (mlk_ne ⟨e,he,hk e he⟩)
 ·intro hd
  obtain ⟨e,he,hz⟩:=mlk_some (h3 z hd)
  exact ⟨e,he,by rw [hz]; rfl⟩

theorem mpLen_does (hT:∀ t ti,T t=some ti→tiOf P t=some ti) {o:Oper} {t:TypeId} {x:Operand} (ho:o.op = .call { callee:=.builtin .len,args:=#[x],argTypes:=#[t] }) {ti:TI} (ht:T t=some ti) {kt et:TypeId} {zo:Option Value} (hkind:ti.kind = .map kt et zo)
  {k:Nat} {kk:IntKind} {d:Int→Bool} {v:Int→PV} (hx:s.ev x = .mptr k) (hg:hget s.H k = .mp kk d v):DoesW P o s (.p (.int .i64 (mpLen d:Int))) s.H:=by
 intro C m a w K Q R hK
 obtain ⟨dst,op,type,pos,after,guard⟩:=o
 simp only at ho
 subst ho
 have hxe:=R.ev x
 rw [hx] at hxe
 generalize hxv:a.eval x=xv at hxe
 cases hxe with
 | mptr _ _ hkl hp =>
  obtain ⟨l,hml,rfl⟩:=hp
  obtain ⟨l',ar,clk,vs,a1,a2,a3,a4,a5,a6,a7⟩:=R.mp.1 k kk d v (hget_some hg (by simp))
  rw [hml] at a1; cases a1
  have hu:=(ti_map (hT _ _ ht) hkind).1
  have hlen:(mpLen d:Int)=(ar.size:Int):=by rw [mpLen_entries a4 a5 a6]; simp
  have hrun:(execOp a.eval { dst:=dst,op:=.call { callee:=.builtin .len,args:=#[x],argTypes:=#[t] },type:=type,pos:=pos,after:=after,guard:=guard }).run P w = .ok (.value (.int .i64 (ar.size:Int))) w:=by
   simp [BigFrame.execOp_builtin,BigFrame.builtin_len,Builtin.len_,hxv,run_underlying hu,goInt,MapKept.run_getObj_map a3]
  refine opR_of_wp (by first|rfl|(rw [ho]; rfl)) ?_
  unfold Oper.wp
  rw [hrun]
  refine hK _ m w R (.p _ _ ?_)
  rw [hlen]
  exact .int _ _

theorem runs_mapLen (hT:∀ t ti,T t=some ti→tiOf P t=some ti) {all:Array Oper} {rest:List Oper} {K:St→Prop} {dst:Option Tmp} {ty:TypeId} {pos:String} {aft:Array Edge} {gd:Option (Nat × Bool)} {x:Operand} {t:TypeId} {ti:TI} (ht:T t=some ti) {kt et:TypeId} {zo:Option Value} (hkind:ti.kind = .map kt et zo)
  {k:Nat} {kk:IntKind} {d:Int→Bool} {v:Int→PV} (hx:s.ev x = .mptr k) (hgt:hget s.H k = .mp kk d v) (hg:guardA all s { dst:=dst,op:=.call { callee:=.builtin .len,args:=#[x],argTypes:=#[t] },type:=ty,pos:=pos,after:=aft,guard:=gd } = some true) (hd:dstOk s dst)
  (h:Runs P false all rest K (s.put dst (.p (.int .i64 (mpLen d:Int))))):Runs P false all ({ dst:=dst,op:=.call { callee:=.builtin .len,args:=#[x],argTypes:=#[t] },type:=ty,pos:=pos,after:=aft,guard:=gd } :: rest) K s:=by
 obtain ⟨s',hr,hK⟩:=h
 exact ⟨s',.cons (.op s _ _ hg (dstOk_spec hd) (mpLen_does hT rfl ht hkind hx hgt) fun h=>by cases h) hr,hK⟩

end

end Go.Pv

/-
  Steps of a region beside those that are evaluated: literal rows as one's own, entries of literal maps. Conditions: none; a library text.
-/
set_option linter.all false

namespace Go.Pv
open Go.RowKit
section
variable {P:Program} {T:TypeId→Option TI} {s:St}
theorem runs_opD {draw:Bool} {all:Array Oper} {rest:List Oper} {K:St→Prop} {o:Oper} {av:AV} {H' : Heap} (h1:Loc1 P o s av H') (hg:guardA all s o=some true) (hd:dstOk s o.dst)
  (h:Runs P draw all rest K (({ s with H:=H' } : St).put o.dst av)):Runs P draw all (o :: rest) K s:=by
 obtain ⟨s',hr,hK⟩:=h
 exact ⟨s',.cons (.op s _ _ hg (dstOk_spec hd) (h1.here s rfl (fun _ _=>rfl) rfl) fun _=>h1) hr,hK⟩
theorem runs_at {draw:Bool} {all:Array Oper} {K:St→Prop} (n:Nat) {l:List Oper} (h:Runs P draw all (l.take n) (fun s'=>Runs P draw all (l.drop n) K s') s):Runs P draw all l K s:=by
 have gen:∀ (l1 l2:List Oper) (s s1 s2:St),Run1 P draw all l1 s s1→Run1 P draw all l2 s1 s2→Run1 P draw all (l1++l2) s s2:=by
  intro l1
  induction l1 with
  | nil=>intro l2 s s1 s2 h1 h2; cases h1; exact h2
  | cons o r ih=>intro l2 s s1 s2 h1 h2; cases h1 with | cons a b=>exact .cons a (ih l2 _ _ _ b h2)
 obtain ⟨s1,h1,s2,h2,hK⟩:=h
 exact ⟨s2,by have:=gen _ _ _ _ _ h1 h2; rwa [List.take_append_drop] at this,hK⟩

/-- A literal row, as a block of the call's own. -/
theorem buildOwn_does (hT:∀ t ti,T t=some ti→tiOf P t=some ti) {o:Oper} {t:TypeId} {n:Nat} {parts:Array (Nat × Operand)} (ho:o.op = .buildSlice t n parts) {ti te:TI} (ht:T t=some ti) {e:TypeId} (hk:ti.kind = .slice e) (hte:T e=some te) (hsz:te.size=1) (hzl:te.zero.length=1)
  {p:Prop} {l:List PV} (hp:partsA 1 0 (parts.toList.map fun q=>(q.1,s.ev q.2))=some (p,l)) (hvc:p) (hl:l.length=n) (hn:n≤16777216) (hone:l.all PV.one=true):DoesW P o s (.sl s.H.length 0 n) (s.H++[.own (opl l)]):=by
 intro C m a w K Q R hK
 have hu:=ti_slice (hT _ _ ht) hk
 obtain ⟨i,d,z,h1,h2,h3,h4,h5,h6,h7,h8⟩:=tiOf_parts (hT _ _ hte)
 have key:∀ z0:Array Value,∃ cs',(∀ x∈l,x.cells.length=1)∧Instr.fill (fun i=>some (i * 1,1)) ((Array.range (n * 1)).map (z0[· % z0.size]!)) (parts.toList.map fun q=>(q.1,a.eval q.2))=some cs'∧cs'.size=n * 1 ∧
   ∀ c (h:c < (flat l).length),Reads (OK C m s.H w) w (flat l)[c] (cs'.getD c undef):=by
  intro z0
  obtain ⟨k1,cs',k2,k3,_,k5⟩:=partsA_run R 1 parts.toList 0 (cs:=(Array.range (n * 1)).map (z0[· % z0.size]!)) hp hvc (by simp [hl])
  exact ⟨cs',k1,k2,by rw [k3]; simp,fun c hc=>by have:=k5 c hc; rwa [Nat.zero_mul,Nat.zero_add] at this⟩
 obtain ⟨cs',k1,k2,k3,k5⟩:=key (if n * 1=0 then #[] else z.cells)
 have hss:=ti_size (hT _ _ hte) w
 rw [hsz] at hss
 have hfl0:=flat_length_eq 1 l k1
 have hfl:flat l=l:=flat_all_one hone
 have hrun:(execOp a.eval o).run P w = .ok (.value (.slice (some ⟨w.heap.size,0,none⟩) n n)) (w.alloc (.cells cs' e)):=by
  have hpt:(parts.map fun q=>(q.1,a.eval q.2)).toList=parts.toList.map fun q=>(q.1,a.eval q.2):=by simp
  have hne:¬ (n * 1 > 2 ^ 24):=by omega
  by_cases hz:n * 1=0
  ·rw [if_pos hz] at k2
   simp only [execOp,ho,Instr.buildSlice,Sem.run_bind,run_underlying hu,Result.andThen_ok,hss,Sem.run_ite,hz,if_true,Sem.run_pure,newRow] at k2 ⊢
   simp only [hpt,k2,Sem.run_bind,run_newObj,Result.andThen_ok,Sem.run_pure]
   rfl
  ·rw [if_neg hz] at k2
   simp only [execOp,ho,Instr.buildSlice,Sem.run_bind,run_underlying hu,Result.andThen_ok,hss,Sem.run_ite,hne,if_false,hz,zeroValue,typeInfo,run_program,h1,h3,Sem.run_pure,newRow] at k2 ⊢
   simp only [hpt,k2,Sem.run_bind,run_newObj,Result.andThen_ok,Sem.run_pure]
   rfl
 have hrel:=R.newBlk (below_alloc _) (cur:=cs') (e:=e) (heap_alloc_new w _) (le_mxl (by rw [k3]; unfold maxLen; omega)) (c:=opl l) (by rw [opl_length,k3]; omega) (by
  intro j hj
  rw [opl_length] at hj
  have:=k5 j (by rw [hfl]; exact hj)
  simp only [hfl] at this
  simp only [opl,List.getElem_map]
  exact .p _ _ this)
 refine opR_of_wp (by first|rfl|(rw [ho]; rfl)) ?_
 unfold Oper.wp
 rw [hrun]
 exact hK _ _ _ hrel (.sl _ _ _ _ (by simp) <| .inr ⟨⟨w.heap.size,0,cs'.size⟩,n,by simp [mput],by simp,Nat.le_refl _,by simp only; omega⟩)

/-- An entry of a literal map. -/
theorem insert_does (hT:∀ t ti,T t=some ti→tiOf P t=some ti) {o:Oper} {t:TypeId} {x y z:Operand} (ho:o.op = .insert t x y z) {ti:TI} (ht:T t=some ti) {r:OV} (h:mapUpdateA T ti s.H (s.ev x) (s.ev y) (s.ev z)=some r) (hvc:r.vc):DoesW P o s r.av r.H:=by
 intro C m a w K Q R hK
 obtain ⟨v,w',m',hy,R',hv⟩:=mapUpdateA_does hT R (o:={ o with op:=.mapUpdate t x y z }) rfl ht h hvc
 have:=hK v m' w' R' hv
 have e:execOp a.eval o=execOp a.eval { o with op:=.mapUpdate t x y z }:=by
  simp only [execOp,ho]
 rcases hy with hr | ⟨hr,rfl⟩
 ·refine opR_of_wp (by first|rfl|(rw [ho]; rfl)) ?_; unfold Oper.wp; rw [e,hr]; exact this
 ·refine opR_of_wp (by first|rfl|(rw [ho]; rfl)) ?_; unfold Oper.wp; rw [e,hr]; exact this
section
variable {C:Ctx} {m:Map} {tmps:Array Value} {w:World}
end
end
end Go.Pv
