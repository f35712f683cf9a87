/-
  Texts of this proof, one behind the other: what each says stands at its head. Conditions: none.
-/
import Derived.Test.YtneglephfhiamaaB2
import Derived.Test.YtneglephfhiamaaB3

/-
  Walks: words of free groups. Conditions: none.
-/
set_option linter.all false
namespace Go.Proofs.Ytneglephfhiamaa
open Go.Pv

theorem fault_c (c a:Int):FnC Try.prog 82 [.int .i64 c,.int .i64 a] (.agg [.int .i64 c,.int .i64 a]):=by
 refine fnc_of tab_ok Try.func82 rfl (by kernel_rfl) (by rw [Try.ntmps82]; exact Nat.le_add_left 2 _) ?_; rw [Try.ntmps82]; repeat (first|refine qa ?_|refine qb ?_|refine qc ?_|refine qd ?_|refine qe ?_|refine qf ?_|refine qg rfl ?_|refine qh ?_|refine qi ?_|refine qj ?_|refine qk ?_|refine ql ?_|refine qm ?_)
 (refine hk_region fun K hK=>runs_eval tab_ok ?_); simp only [ev0,aops,xstep,guardA,opA,tab,binA,binInt,arith,unA,pickA,convA,allocA,boxA,loadA,storeA,fieldAddrA,fieldA,indexAddrA,lenA,lenS,sliceA,boundA,makeSliceA,elemsA,appendA,buildA,fillA,buildSliceA,partsA,extractA,builtinA,minmaxA,AV.cells,AV.isAgg,allP,mkAgg,hget,hset,isRow,cellOk,setC,after,dstOk,St.put,St.get,lk,St.ev,cv,PV.one,Int.reduceToNat,entry,ent,Nat.reduceAdd,Nat.reduceLT,Nat.reduceBEq,Nat.reduceEqDiff,Nat.reduceLeDiff,Nat.reduceMul,Nat.reduceSub,Int.cast_ofNat_Int,decide_true,decide_false,reduceCtorEq,BEq.rfl,beq_self_eq_true,bne_self_eq_false,ite_true,ite_false,if_true,if_false,reduceIte]; refine fin_run trivial (hK _ ?_)<;>clear hK<;>clear K; repeat (first|refine qa ?_|refine qb ?_|refine qc ?_|refine qd ?_|refine qe ?_|refine qf ?_|refine qg rfl ?_|refine qh ?_|refine qi ?_|refine qj ?_|refine qk ?_|refine ql ?_|refine qm ?_)
 (refine hk_region fun K hK=>runs_eval tab_ok ?_); simp only [ev0,aops,xstep,guardA,opA,tab,binA,binInt,arith,unA,pickA,convA,allocA,boxA,loadA,storeA,fieldAddrA,fieldA,indexAddrA,lenA,lenS,sliceA,boundA,makeSliceA,elemsA,appendA,buildA,fillA,buildSliceA,partsA,extractA,builtinA,minmaxA,AV.cells,AV.isAgg,allP,mkAgg,hget,hset,isRow,cellOk,setC,after,dstOk,St.put,St.get,lk,St.ev,cv,PV.one,Int.reduceToNat,entry,ent,Nat.reduceAdd,Nat.reduceLT,Nat.reduceBEq,Nat.reduceEqDiff,Nat.reduceLeDiff,Nat.reduceMul,Nat.reduceSub,Int.cast_ofNat_Int,decide_true,decide_false,reduceCtorEq,BEq.rfl,beq_self_eq_true,bne_self_eq_false,ite_true,ite_false,if_true,if_false,reduceIte]; refine fin_run trivial (hK _ ?_)<;>clear hK<;>clear K; repeat (first|refine qa ?_|refine qb ?_|refine qc ?_|refine qd ?_|refine qe ?_|refine qf ?_|refine qg rfl ?_|refine qh ?_|refine qi ?_|refine qj ?_|refine qk ?_|refine ql ?_|refine qm ?_)
 simp only [Try.results82,Post,endA,rvsA,rvA,mkTup,peekA,peekG,peekS,peekList,PV.norm,PV.norm1,PV.norm0,PV.list.injEq,PV.tup.injEq,PV.agg.injEq,PV.int.injEq,PV.bool.injEq,List.cons.injEq,ev0,aops,xstep,guardA,opA,tab,binA,binInt,arith,unA,pickA,convA,allocA,boxA,loadA,storeA,fieldAddrA,fieldA,indexAddrA,lenA,lenS,sliceA,boundA,makeSliceA,elemsA,appendA,buildA,fillA,buildSliceA,partsA,extractA,builtinA,minmaxA,AV.cells,AV.isAgg,allP,mkAgg,hget,hset,isRow,cellOk,setC,after,dstOk,St.put,St.get,lk,St.ev,cv,PV.one,Int.reduceToNat,entry,ent,Nat.reduceAdd,Nat.reduceLT,Nat.reduceBEq,Nat.reduceEqDiff,Nat.reduceLeDiff,Nat.reduceMul,Nat.reduceSub,Int.cast_ofNat_Int,decide_true,decide_false,reduceCtorEq,BEq.rfl,beq_self_eq_true,bne_self_eq_false,ite_true,ite_false,if_true,if_false,reduceIte]

/-- What a word's test comes to. -/
def chk:Nat→List Int→Int × Int
 | _,[]=>(0,0)
 | i,x :: r=>if x=0∨x < -26∨x > 26 then (3,i) else chk (i + 1) r

def check (w:List Int):Int × Int:=if (w.length:Int) > 2000 then (2,0) else chk 0 w

def fl (p:Int × Int):PV:=.agg [.int .i64 p.1,.int .i64 p.2]

theorem check_c (w:List Int):FnC Try.prog 61 [.list (il w)] (fl (check w)):=by
 refine fnc_of tab_ok Try.func61 rfl (by kernel_rfl) (by rw [Try.ntmps61]; exact Nat.le_add_left 1 _) ?_; rw [Try.ntmps61]; repeat (first|refine qa ?_|refine qb ?_|refine qc ?_|refine qd ?_|refine qe ?_|refine qf ?_|refine qg rfl ?_|refine qh ?_|refine qi ?_|refine qj ?_|refine qk ?_|refine ql ?_|refine qm ?_)
 (refine hk_region fun K hK=>runs_eval tab_ok ?_); simp only [ev0,aops,xstep,guardA,opA,tab,binA,binInt,arith,unA,pickA,convA,allocA,boxA,loadA,storeA,fieldAddrA,fieldA,indexAddrA,lenA,lenS,sliceA,boundA,makeSliceA,elemsA,appendA,buildA,fillA,buildSliceA,partsA,extractA,builtinA,minmaxA,AV.cells,AV.isAgg,allP,mkAgg,hget,hset,isRow,cellOk,setC,after,dstOk,St.put,St.get,lk,St.ev,cv,PV.one,Int.reduceToNat,entry,ent,Nat.reduceAdd,Nat.reduceLT,Nat.reduceBEq,Nat.reduceEqDiff,Nat.reduceLeDiff,Nat.reduceMul,Nat.reduceSub,Int.cast_ofNat_Int,decide_true,decide_false,reduceCtorEq,BEq.rfl,beq_self_eq_true,bne_self_eq_false,ite_true,ite_false,if_true,if_false,reduceIte]; refine fin_run trivial (hK _ ?_)<;>clear hK<;>clear K; repeat (first|refine qa ?_|refine qb ?_|refine qc ?_|refine qd ?_|refine qe ?_|refine qf ?_|refine qg rfl ?_|refine qh ?_|refine qi ?_|refine qj ?_|refine qk ?_|refine ql ?_|refine qm ?_)
 (refine hk_region fun K hK=>runs_eval tab_ok ?_); simp only [ev0,aops,xstep,guardA,opA,tab,binA,binInt,arith,unA,pickA,convA,allocA,boxA,loadA,storeA,fieldAddrA,fieldA,indexAddrA,lenA,lenS,sliceA,boundA,makeSliceA,elemsA,appendA,buildA,fillA,buildSliceA,partsA,extractA,builtinA,minmaxA,AV.cells,AV.isAgg,allP,mkAgg,hget,hset,isRow,cellOk,setC,after,dstOk,St.put,St.get,lk,St.ev,cv,PV.one,Int.reduceToNat,entry,ent,Nat.reduceAdd,Nat.reduceLT,Nat.reduceBEq,Nat.reduceEqDiff,Nat.reduceLeDiff,Nat.reduceMul,Nat.reduceSub,Int.cast_ofNat_Int,decide_true,decide_false,reduceCtorEq,BEq.rfl,beq_self_eq_true,bne_self_eq_false,ite_true,ite_false,if_true,if_false,reduceIte,il_length]; refine fin_run trivial (hK _ ?_)<;>clear hK<;>clear K; repeat (first|refine qa ?_|refine qb ?_|refine qc ?_|refine qd ?_|refine qe ?_|refine qf ?_|refine qg rfl ?_|refine qh ?_|refine qi ?_|refine qj ?_|refine qk ?_|refine ql ?_|refine qm ?_)
 refine hk_cond rfl (fun h=>?_) (fun h=>?_)
 ·repeat (first|refine qa ?_|refine qb ?_|refine qc ?_|refine qd ?_|refine qe ?_|refine qf ?_|refine qg rfl ?_|refine qh ?_|refine qi ?_|refine qj ?_|refine qk ?_|refine ql ?_|refine qm ?_)
  refine hk_region fun K hK=>runs_eval tab_ok ?_
  simp only [ev0,aops,xstep,guardA,opA,tab,binA,binInt,arith,unA,pickA,convA,allocA,boxA,loadA,storeA,fieldAddrA,fieldA,indexAddrA,lenA,lenS,sliceA,boundA,makeSliceA,elemsA,appendA,buildA,fillA,buildSliceA,partsA,extractA,builtinA,minmaxA,AV.cells,AV.isAgg,allP,mkAgg,hget,hset,isRow,cellOk,setC,after,dstOk,St.put,St.get,lk,St.ev,cv,PV.one,Int.reduceToNat,entry,ent,Nat.reduceAdd,Nat.reduceLT,Nat.reduceBEq,Nat.reduceEqDiff,Nat.reduceLeDiff,Nat.reduceMul,Nat.reduceSub,Int.cast_ofNat_Int,decide_true,decide_false,reduceCtorEq,BEq.rfl,beq_self_eq_true,bne_self_eq_false,ite_true,ite_false,if_true,if_false,reduceIte]
  refine fin_stop trivial (runs_call (fault_c 2 0) rfl rfl rfl (by simp only [dstOk,Nat.reduceLT]) (by repeat (first|exact trivial|constructor)) (runs_eval tab_ok ?_))
  simp only [ev0,aops,xstep,guardA,opA,tab,binA,binInt,arith,unA,pickA,convA,allocA,boxA,loadA,storeA,fieldAddrA,fieldA,indexAddrA,lenA,lenS,sliceA,boundA,makeSliceA,elemsA,appendA,buildA,fillA,buildSliceA,partsA,extractA,builtinA,minmaxA,AV.cells,AV.isAgg,allP,mkAgg,hget,hset,isRow,cellOk,setC,after,dstOk,St.put,St.get,lk,St.ev,cv,PV.one,Int.reduceToNat,entry,ent,Nat.reduceAdd,Nat.reduceLT,Nat.reduceBEq,Nat.reduceEqDiff,Nat.reduceLeDiff,Nat.reduceMul,Nat.reduceSub,Int.cast_ofNat_Int,decide_true,decide_false,reduceCtorEq,BEq.rfl,beq_self_eq_true,bne_self_eq_false,ite_true,ite_false,if_true,if_false,reduceIte]
  refine fin_run trivial (hK _ ?_)<;>clear hK<;>clear K
  repeat (first|refine qa ?_|refine qb ?_|refine qc ?_|refine qd ?_|refine qe ?_|refine qf ?_|refine qg rfl ?_|refine qh ?_|refine qi ?_|refine qj ?_|refine qk ?_|refine ql ?_|refine qm ?_)
  simp only [Try.results61,Post,endA,rvsA,rvA,mkTup,peekA,peekG,peekS,peekList,PV.norm,PV.norm1,PV.norm0,PV.list.injEq,PV.tup.injEq,PV.agg.injEq,PV.int.injEq,PV.bool.injEq,List.cons.injEq,ev0,aops,xstep,guardA,opA,tab,binA,binInt,arith,unA,pickA,convA,allocA,boxA,loadA,storeA,fieldAddrA,fieldA,indexAddrA,lenA,lenS,sliceA,boundA,makeSliceA,elemsA,appendA,buildA,fillA,buildSliceA,partsA,extractA,builtinA,minmaxA,AV.cells,AV.isAgg,allP,mkAgg,hget,hset,isRow,cellOk,setC,after,dstOk,St.put,St.get,lk,St.ev,cv,PV.one,Int.reduceToNat,entry,ent,Nat.reduceAdd,Nat.reduceLT,Nat.reduceBEq,Nat.reduceEqDiff,Nat.reduceLeDiff,Nat.reduceMul,Nat.reduceSub,Int.cast_ofNat_Int,decide_true,decide_false,reduceCtorEq,BEq.rfl,beq_self_eq_true,bne_self_eq_false,ite_true,ite_false,if_true,if_false,reduceIte]
  simp [check,fl,of_decide_eq_true h]
 ·repeat (first|refine qa ?_|refine qb ?_|refine qc ?_|refine qd ?_|refine qe ?_|refine qf ?_|refine qg rfl ?_|refine qh ?_|refine qi ?_|refine qj ?_|refine qk ?_|refine ql ?_|refine qm ?_)
  (refine hk_region fun K hK=>runs_eval tab_ok ?_); simp only [ev0,aops,xstep,guardA,opA,tab,binA,binInt,arith,unA,pickA,convA,allocA,boxA,loadA,storeA,fieldAddrA,fieldA,indexAddrA,lenA,lenS,sliceA,boundA,makeSliceA,elemsA,appendA,buildA,fillA,buildSliceA,partsA,extractA,builtinA,minmaxA,AV.cells,AV.isAgg,allP,mkAgg,hget,hset,isRow,cellOk,setC,after,dstOk,St.put,St.get,lk,St.ev,cv,PV.one,Int.reduceToNat,entry,ent,Nat.reduceAdd,Nat.reduceLT,Nat.reduceBEq,Nat.reduceEqDiff,Nat.reduceLeDiff,Nat.reduceMul,Nat.reduceSub,Int.cast_ofNat_Int,decide_true,decide_false,reduceCtorEq,BEq.rfl,beq_self_eq_true,bne_self_eq_false,ite_true,ite_false,if_true,if_false,reduceIte,il_length]; refine fin_run trivial (hK _ ?_)<;>clear hK<;>clear K; repeat (first|refine qa ?_|refine qb ?_|refine qc ?_|refine qd ?_|refine qe ?_|refine qf ?_|refine qg rfl ?_|refine qh ?_|refine qi ?_|refine qj ?_|refine qk ?_|refine ql ?_|refine qm ?_)
  have hw:w.length≤2000:=by have:=of_decide_eq_false h; omega
  refine hk_loop (ι:=Nat) (fun i=>⟨30,[(2,.ptr 0 0),(9,.p (.list (il w))),(10,.p (.int .i64 w.length)),(11,.p (.int .i64 i))],[.own [.p (.int .i64 0),.p (.int .i64 0)]]⟩) (fun i=>i≤w.length∧chk i (w.drop i)=chk 0 w) (fun i=>w.length - i) 0 ⟨Nat.zero_le _,rfl⟩ [0] (by simp only [AV.p.injEq,AV.sl.injEq,AV.ptr.injEq,Blk.own.injEq,PV.int.injEq,PV.bool.injEq,PV.list.injEq,Nat.sub_zero,Int.natCast_add,List.length_append,take_take_len,take_app1,take_app2,Le,LeH,LeS,LeB,ren,ren1,scA,sc1,List.nodup_cons,List.nodup_nil,List.mem_cons,List.not_mem_nil,or_false,not_false_eq_true,ev0,aops,xstep,guardA,opA,tab,binA,binInt,arith,unA,pickA,convA,allocA,boxA,loadA,storeA,fieldAddrA,fieldA,indexAddrA,lenA,lenS,sliceA,boundA,makeSliceA,elemsA,appendA,buildA,fillA,buildSliceA,partsA,extractA,builtinA,minmaxA,AV.cells,AV.isAgg,allP,mkAgg,hget,hset,isRow,cellOk,setC,after,dstOk,St.put,St.get,lk,St.ev,cv,PV.one,Int.reduceToNat,entry,ent,Nat.reduceAdd,Nat.reduceLT,Nat.reduceBEq,Nat.reduceEqDiff,Nat.reduceLeDiff,Nat.reduceMul,Nat.reduceSub,Int.cast_ofNat_Int,decide_true,decide_false,reduceCtorEq,BEq.rfl,beq_self_eq_true,bne_self_eq_false,ite_true,ite_false,if_true,if_false,reduceIte]<;>trivial) fun i hi=>?_
  repeat (first|refine qa ?_|refine qb ?_|refine qc ?_|refine qd ?_|refine qe ?_|refine qf ?_|refine qg rfl ?_|refine qh ?_|refine qi ?_|refine qj ?_|refine qk ?_|refine ql ?_|refine qm ?_)
  (refine hk_region fun K hK=>runs_eval tab_ok ?_); simp only [ev0,aops,xstep,guardA,opA,tab,binA,binInt,arith,unA,pickA,convA,allocA,boxA,loadA,storeA,fieldAddrA,fieldA,indexAddrA,lenA,lenS,sliceA,boundA,makeSliceA,elemsA,appendA,buildA,fillA,buildSliceA,partsA,extractA,builtinA,minmaxA,AV.cells,AV.isAgg,allP,mkAgg,hget,hset,isRow,cellOk,setC,after,dstOk,St.put,St.get,lk,St.ev,cv,PV.one,Int.reduceToNat,entry,ent,Nat.reduceAdd,Nat.reduceLT,Nat.reduceBEq,Nat.reduceEqDiff,Nat.reduceLeDiff,Nat.reduceMul,Nat.reduceSub,Int.cast_ofNat_Int,decide_true,decide_false,reduceCtorEq,BEq.rfl,beq_self_eq_true,bne_self_eq_false,ite_true,ite_false,if_true,if_false,reduceIte]; refine fin_run trivial (hK _ ?_)<;>clear hK<;>clear K; repeat (first|refine qa ?_|refine qb ?_|refine qc ?_|refine qd ?_|refine qe ?_|refine qf ?_|refine qg rfl ?_|refine qh ?_|refine qi ?_|refine qj ?_|refine qk ?_|refine ql ?_|refine qm ?_)
  refine hk_cond rfl (fun hlt=>?_) (fun hlt=>?_)
  ·repeat (first|refine qa ?_|refine qb ?_|refine qc ?_|refine qd ?_|refine qe ?_|refine qf ?_|refine qg rfl ?_|refine qh ?_|refine qi ?_|refine qj ?_|refine qk ?_|refine ql ?_|refine qm ?_)
   have hlt:i < w.length:=by have:=of_decide_eq_true hlt; omega
   refine hk_region fun K hK=>runs_eval tab_ok ?_
   simp only [ev0,aops,xstep,guardA,opA,tab,binA,binInt,arith,unA,pickA,convA,allocA,boxA,loadA,storeA,fieldAddrA,fieldA,indexAddrA,lenA,lenS,sliceA,boundA,makeSliceA,elemsA,appendA,buildA,fillA,buildSliceA,partsA,extractA,builtinA,minmaxA,AV.cells,AV.isAgg,allP,mkAgg,hget,hset,isRow,cellOk,setC,after,dstOk,St.put,St.get,lk,St.ev,cv,PV.one,Int.reduceToNat,entry,ent,Nat.reduceAdd,Nat.reduceLT,Nat.reduceBEq,Nat.reduceEqDiff,Nat.reduceLeDiff,Nat.reduceMul,Nat.reduceSub,Int.cast_ofNat_Int,decide_true,decide_false,reduceCtorEq,BEq.rfl,beq_self_eq_true,bne_self_eq_false,ite_true,ite_false,if_true,if_false,reduceIte,il_get hlt,il_length]
   refine fin_run ?_ (hK _ ?_)<;>clear hK<;>clear K
   ·omega
   repeat (first|refine qa ?_|refine qb ?_|refine qc ?_|refine qd ?_|refine qe ?_|refine qf ?_|refine qg rfl ?_|refine qh ?_|refine qi ?_|refine qj ?_|refine qk ?_|refine ql ?_|refine qm ?_)
   obtain ⟨hi1,hi2⟩:=hi
   have hdrop:w.drop i=w.getD i 0 :: w.drop (i + 1):=by
    rw [List.drop_eq_getElem_cons hlt]; simp [List.getD,List.getElem?_eq_getElem hlt]
   have next:¬ (w.getD i 0=0∨w.getD i 0 < -26∨w.getD i 0 > 26)→chk (i + 1) (w.drop (i + 1))=chk 0 w:=by
    intro hn
    rw [hdrop,chk,if_neg hn] at hi2; exact hi2
   have last:(w.getD i 0=0∨w.getD i 0 < -26∨w.getD i 0 > 26)→chk 0 w=(3,(i:Int)):=by
    intro hn
    rw [hdrop,chk,if_pos hn] at hi2; exact hi2.symm
   generalize w.getD i 0=x at *
   refine hk_cut ⟨30,[(25,.p (.bool (decide (x=0∨x < -26∨x > 26)))),(3,.p (.int .i64 i)),(2,.ptr 0 0),(9,.p (.list (il w))),(10,.p (.int .i64 w.length)),(11,.p (.int .i64 i))],[.own [.p (.int .i64 0),.p (.int .i64 0)]]⟩ ?_ ?_
   ·cases e1:(x == 0)
    ·cases e2:decide (x < -26)
     ·refine hk_region fun K hK=>runs_eval tab_ok ?_
      simp only [ev0,aops,xstep,guardA,opA,tab,binA,binInt,arith,unA,pickA,convA,allocA,boxA,loadA,storeA,fieldAddrA,fieldA,indexAddrA,lenA,lenS,sliceA,boundA,makeSliceA,elemsA,appendA,buildA,fillA,buildSliceA,partsA,extractA,builtinA,minmaxA,AV.cells,AV.isAgg,allP,mkAgg,hget,hset,isRow,cellOk,setC,after,dstOk,St.put,St.get,lk,St.ev,cv,PV.one,Int.reduceToNat,entry,ent,Nat.reduceAdd,Nat.reduceLT,Nat.reduceBEq,Nat.reduceEqDiff,Nat.reduceLeDiff,Nat.reduceMul,Nat.reduceSub,Int.cast_ofNat_Int,decide_true,decide_false,reduceCtorEq,BEq.rfl,beq_self_eq_true,bne_self_eq_false,ite_true,ite_false,if_true,if_false,reduceIte,e1,e2]
      refine fin_run trivial (hK _ ?_)<;>clear hK<;>clear K
      refine ⟨rfl,[0],?_⟩; simp only [AV.p.injEq,AV.sl.injEq,AV.ptr.injEq,Blk.own.injEq,PV.int.injEq,PV.bool.injEq,PV.list.injEq,Nat.sub_zero,Int.natCast_add,List.length_append,take_take_len,take_app1,take_app2,Le,LeH,LeS,LeB,ren,ren1,scA,sc1,List.nodup_cons,List.nodup_nil,List.mem_cons,List.not_mem_nil,or_false,not_false_eq_true,ev0,aops,xstep,guardA,opA,tab,binA,binInt,arith,unA,pickA,convA,allocA,boxA,loadA,storeA,fieldAddrA,fieldA,indexAddrA,lenA,lenS,sliceA,boundA,makeSliceA,elemsA,appendA,buildA,fillA,buildSliceA,partsA,extractA,builtinA,minmaxA,AV.cells,AV.isAgg,allP,mkAgg,hget,hset,isRow,cellOk,setC,after,dstOk,St.put,St.get,lk,St.ev,cv,PV.one,Int.reduceToNat,entry,ent,Nat.reduceAdd,Nat.reduceLT,Nat.reduceBEq,Nat.reduceEqDiff,Nat.reduceLeDiff,Nat.reduceMul,Nat.reduceSub,Int.cast_ofNat_Int,decide_true,decide_false,reduceCtorEq,BEq.rfl,beq_self_eq_true,bne_self_eq_false,ite_true,ite_false,if_true,if_false,reduceIte]; (first|exact trivial|omega|(simp only [In64] at *; omega)|(rw [Bool.eq_iff_iff]; simp; done)|(rw [Bool.eq_iff_iff]; simp; omega)|(simp [In64] at *; omega)|(simp_all; done)|(simp_all [In64]<;>omega)|skip)
     ·refine hk_region fun K hK=>runs_eval tab_ok ?_
      simp only [ev0,aops,xstep,guardA,opA,tab,binA,binInt,arith,unA,pickA,convA,allocA,boxA,loadA,storeA,fieldAddrA,fieldA,indexAddrA,lenA,lenS,sliceA,boundA,makeSliceA,elemsA,appendA,buildA,fillA,buildSliceA,partsA,extractA,builtinA,minmaxA,AV.cells,AV.isAgg,allP,mkAgg,hget,hset,isRow,cellOk,setC,after,dstOk,St.put,St.get,lk,St.ev,cv,PV.one,Int.reduceToNat,entry,ent,Nat.reduceAdd,Nat.reduceLT,Nat.reduceBEq,Nat.reduceEqDiff,Nat.reduceLeDiff,Nat.reduceMul,Nat.reduceSub,Int.cast_ofNat_Int,decide_true,decide_false,reduceCtorEq,BEq.rfl,beq_self_eq_true,bne_self_eq_false,ite_true,ite_false,if_true,if_false,reduceIte,e1,e2]
      refine fin_run trivial (hK _ ?_)<;>clear hK<;>clear K
      refine ⟨rfl,[0],?_⟩; simp only [AV.p.injEq,AV.sl.injEq,AV.ptr.injEq,Blk.own.injEq,PV.int.injEq,PV.bool.injEq,PV.list.injEq,Nat.sub_zero,Int.natCast_add,List.length_append,take_take_len,take_app1,take_app2,Le,LeH,LeS,LeB,ren,ren1,scA,sc1,List.nodup_cons,List.nodup_nil,List.mem_cons,List.not_mem_nil,or_false,not_false_eq_true,ev0,aops,xstep,guardA,opA,tab,binA,binInt,arith,unA,pickA,convA,allocA,boxA,loadA,storeA,fieldAddrA,fieldA,indexAddrA,lenA,lenS,sliceA,boundA,makeSliceA,elemsA,appendA,buildA,fillA,buildSliceA,partsA,extractA,builtinA,minmaxA,AV.cells,AV.isAgg,allP,mkAgg,hget,hset,isRow,cellOk,setC,after,dstOk,St.put,St.get,lk,St.ev,cv,PV.one,Int.reduceToNat,entry,ent,Nat.reduceAdd,Nat.reduceLT,Nat.reduceBEq,Nat.reduceEqDiff,Nat.reduceLeDiff,Nat.reduceMul,Nat.reduceSub,Int.cast_ofNat_Int,decide_true,decide_false,reduceCtorEq,BEq.rfl,beq_self_eq_true,bne_self_eq_false,ite_true,ite_false,if_true,if_false,reduceIte]; (first|exact trivial|omega|(simp only [In64] at *; omega)|(rw [Bool.eq_iff_iff]; simp; done)|(rw [Bool.eq_iff_iff]; simp; omega)|(simp [In64] at *; omega)|(simp_all; done)|(simp_all [In64]<;>omega)|skip)
    ·refine hk_region fun K hK=>runs_eval tab_ok ?_
     simp only [ev0,aops,xstep,guardA,opA,tab,binA,binInt,arith,unA,pickA,convA,allocA,boxA,loadA,storeA,fieldAddrA,fieldA,indexAddrA,lenA,lenS,sliceA,boundA,makeSliceA,elemsA,appendA,buildA,fillA,buildSliceA,partsA,extractA,builtinA,minmaxA,AV.cells,AV.isAgg,allP,mkAgg,hget,hset,isRow,cellOk,setC,after,dstOk,St.put,St.get,lk,St.ev,cv,PV.one,Int.reduceToNat,entry,ent,Nat.reduceAdd,Nat.reduceLT,Nat.reduceBEq,Nat.reduceEqDiff,Nat.reduceLeDiff,Nat.reduceMul,Nat.reduceSub,Int.cast_ofNat_Int,decide_true,decide_false,reduceCtorEq,BEq.rfl,beq_self_eq_true,bne_self_eq_false,ite_true,ite_false,if_true,if_false,reduceIte,e1]
     refine fin_run trivial (hK _ ?_)<;>clear hK<;>clear K
     refine ⟨rfl,[0],?_⟩; simp only [AV.p.injEq,AV.sl.injEq,AV.ptr.injEq,Blk.own.injEq,PV.int.injEq,PV.bool.injEq,PV.list.injEq,Nat.sub_zero,Int.natCast_add,List.length_append,take_take_len,take_app1,take_app2,Le,LeH,LeS,LeB,ren,ren1,scA,sc1,List.nodup_cons,List.nodup_nil,List.mem_cons,List.not_mem_nil,or_false,not_false_eq_true,ev0,aops,xstep,guardA,opA,tab,binA,binInt,arith,unA,pickA,convA,allocA,boxA,loadA,storeA,fieldAddrA,fieldA,indexAddrA,lenA,lenS,sliceA,boundA,makeSliceA,elemsA,appendA,buildA,fillA,buildSliceA,partsA,extractA,builtinA,minmaxA,AV.cells,AV.isAgg,allP,mkAgg,hget,hset,isRow,cellOk,setC,after,dstOk,St.put,St.get,lk,St.ev,cv,PV.one,Int.reduceToNat,entry,ent,Nat.reduceAdd,Nat.reduceLT,Nat.reduceBEq,Nat.reduceEqDiff,Nat.reduceLeDiff,Nat.reduceMul,Nat.reduceSub,Int.cast_ofNat_Int,decide_true,decide_false,reduceCtorEq,BEq.rfl,beq_self_eq_true,bne_self_eq_false,ite_true,ite_false,if_true,if_false,reduceIte]; (first|exact trivial|omega|(simp only [In64] at *; omega)|(rw [Bool.eq_iff_iff]; simp; done)|(rw [Bool.eq_iff_iff]; simp; omega)|(simp [In64] at *; omega)|(simp_all; done)|(simp_all [In64]<;>omega)|skip)
   ·refine hk_cond rfl (fun hc=>?_) (fun hc=>?_)
    ·repeat (first|refine qa ?_|refine qb ?_|refine qc ?_|refine qd ?_|refine qe ?_|refine qf ?_|refine qg rfl ?_|refine qh ?_|refine qi ?_|refine qj ?_|refine qk ?_|refine ql ?_|refine qm ?_)
     refine hk_region fun K hK=>runs_eval tab_ok ?_
     simp only [ev0,aops,xstep,guardA,opA,tab,binA,binInt,arith,unA,pickA,convA,allocA,boxA,loadA,storeA,fieldAddrA,fieldA,indexAddrA,lenA,lenS,sliceA,boundA,makeSliceA,elemsA,appendA,buildA,fillA,buildSliceA,partsA,extractA,builtinA,minmaxA,AV.cells,AV.isAgg,allP,mkAgg,hget,hset,isRow,cellOk,setC,after,dstOk,St.put,St.get,lk,St.ev,cv,PV.one,Int.reduceToNat,entry,ent,Nat.reduceAdd,Nat.reduceLT,Nat.reduceBEq,Nat.reduceEqDiff,Nat.reduceLeDiff,Nat.reduceMul,Nat.reduceSub,Int.cast_ofNat_Int,decide_true,decide_false,reduceCtorEq,BEq.rfl,beq_self_eq_true,bne_self_eq_false,ite_true,ite_false,if_true,if_false,reduceIte]
     refine fin_stop trivial (runs_call (fault_c 3 i) rfl rfl rfl (by simp only [dstOk,Nat.reduceLT]) (by repeat (first|exact trivial|constructor)) (runs_eval tab_ok ?_))
     simp only [ev0,aops,xstep,guardA,opA,tab,binA,binInt,arith,unA,pickA,convA,allocA,boxA,loadA,storeA,fieldAddrA,fieldA,indexAddrA,lenA,lenS,sliceA,boundA,makeSliceA,elemsA,appendA,buildA,fillA,buildSliceA,partsA,extractA,builtinA,minmaxA,AV.cells,AV.isAgg,allP,mkAgg,hget,hset,isRow,cellOk,setC,after,dstOk,St.put,St.get,lk,St.ev,cv,PV.one,Int.reduceToNat,entry,ent,Nat.reduceAdd,Nat.reduceLT,Nat.reduceBEq,Nat.reduceEqDiff,Nat.reduceLeDiff,Nat.reduceMul,Nat.reduceSub,Int.cast_ofNat_Int,decide_true,decide_false,reduceCtorEq,BEq.rfl,beq_self_eq_true,bne_self_eq_false,ite_true,ite_false,if_true,if_false,reduceIte]
     refine fin_run trivial (hK _ ?_)<;>clear hK<;>clear K
     repeat (first|refine qa ?_|refine qb ?_|refine qc ?_|refine qd ?_|refine qe ?_|refine qf ?_|refine qg rfl ?_|refine qh ?_|refine qi ?_|refine qj ?_|refine qk ?_|refine ql ?_|refine qm ?_)
     simp only [Try.results61,Post,endA,rvsA,rvA,mkTup,peekA,peekG,peekS,peekList,PV.norm,PV.norm1,PV.norm0,PV.list.injEq,PV.tup.injEq,PV.agg.injEq,PV.int.injEq,PV.bool.injEq,List.cons.injEq,ev0,aops,xstep,guardA,opA,tab,binA,binInt,arith,unA,pickA,convA,allocA,boxA,loadA,storeA,fieldAddrA,fieldA,indexAddrA,lenA,lenS,sliceA,boundA,makeSliceA,elemsA,appendA,buildA,fillA,buildSliceA,partsA,extractA,builtinA,minmaxA,AV.cells,AV.isAgg,allP,mkAgg,hget,hset,isRow,cellOk,setC,after,dstOk,St.put,St.get,lk,St.ev,cv,PV.one,Int.reduceToNat,entry,ent,Nat.reduceAdd,Nat.reduceLT,Nat.reduceBEq,Nat.reduceEqDiff,Nat.reduceLeDiff,Nat.reduceMul,Nat.reduceSub,Int.cast_ofNat_Int,decide_true,decide_false,reduceCtorEq,BEq.rfl,beq_self_eq_true,bne_self_eq_false,ite_true,ite_false,if_true,if_false,reduceIte]
     rw [check,if_neg (by omega),last (of_decide_eq_true hc)]; rfl
    ·repeat (first|refine qa ?_|refine qb ?_|refine qc ?_|refine qd ?_|refine qe ?_|refine qf ?_|refine qg rfl ?_|refine qh ?_|refine qi ?_|refine qj ?_|refine qk ?_|refine ql ?_|refine qm ?_)
     refine hk_region fun K hK=>runs_eval tab_ok ?_
     simp only [ev0,aops,xstep,guardA,opA,tab,binA,binInt,arith,unA,pickA,convA,allocA,boxA,loadA,storeA,fieldAddrA,fieldA,indexAddrA,lenA,lenS,sliceA,boundA,makeSliceA,elemsA,appendA,buildA,fillA,buildSliceA,partsA,extractA,builtinA,minmaxA,AV.cells,AV.isAgg,allP,mkAgg,hget,hset,isRow,cellOk,setC,after,dstOk,St.put,St.get,lk,St.ev,cv,PV.one,Int.reduceToNat,entry,ent,Nat.reduceAdd,Nat.reduceLT,Nat.reduceBEq,Nat.reduceEqDiff,Nat.reduceLeDiff,Nat.reduceMul,Nat.reduceSub,Int.cast_ofNat_Int,decide_true,decide_false,reduceCtorEq,BEq.rfl,beq_self_eq_true,bne_self_eq_false,ite_true,ite_false,if_true,if_false,reduceIte]
     refine fin_run ?_ (hK _ ?_)<;>clear hK<;>clear K
     ·(first|exact trivial|omega|(simp only [In64] at *; omega)|(rw [Bool.eq_iff_iff]; simp; done)|(rw [Bool.eq_iff_iff]; simp; omega)|(simp [In64] at *; omega)|(simp_all; done)|(simp_all [In64]<;>omega)|skip)
     repeat (first|refine qa ?_|refine qb ?_|refine qc ?_|refine qd ?_|refine qe ?_|refine qf ?_|refine qg rfl ?_|refine qh ?_|refine qi ?_|refine qj ?_|refine qk ?_|refine ql ?_|refine qm ?_)
     refine ⟨i + 1,[0],⟨by omega,next (of_decide_eq_false hc)⟩,by omega,?_⟩
     simp only [AV.p.injEq,AV.sl.injEq,AV.ptr.injEq,Blk.own.injEq,PV.int.injEq,PV.bool.injEq,PV.list.injEq,Nat.sub_zero,Int.natCast_add,List.length_append,take_take_len,take_app1,take_app2,Le,LeH,LeS,LeB,ren,ren1,scA,sc1,List.nodup_cons,List.nodup_nil,List.mem_cons,List.not_mem_nil,or_false,not_false_eq_true,ev0,aops,xstep,guardA,opA,tab,binA,binInt,arith,unA,pickA,convA,allocA,boxA,loadA,storeA,fieldAddrA,fieldA,indexAddrA,lenA,lenS,sliceA,boundA,makeSliceA,elemsA,appendA,buildA,fillA,buildSliceA,partsA,extractA,builtinA,minmaxA,AV.cells,AV.isAgg,allP,mkAgg,hget,hset,isRow,cellOk,setC,after,dstOk,St.put,St.get,lk,St.ev,cv,PV.one,Int.reduceToNat,entry,ent,Nat.reduceAdd,Nat.reduceLT,Nat.reduceBEq,Nat.reduceEqDiff,Nat.reduceLeDiff,Nat.reduceMul,Nat.reduceSub,Int.cast_ofNat_Int,decide_true,decide_false,reduceCtorEq,BEq.rfl,beq_self_eq_true,bne_self_eq_false,ite_true,ite_false,if_true,if_false,reduceIte]<;>(first|exact trivial|omega|(simp only [In64] at *; omega)|(rw [Bool.eq_iff_iff]; simp; done)|(rw [Bool.eq_iff_iff]; simp; omega)|(simp [In64] at *; omega)|(simp_all; done)|(simp_all [In64]<;>omega)|skip)
  ·repeat (first|refine qa ?_|refine qb ?_|refine qc ?_|refine qd ?_|refine qe ?_|refine qf ?_|refine qg rfl ?_|refine qh ?_|refine qi ?_|refine qj ?_|refine qk ?_|refine ql ?_|refine qm ?_)
   (refine hk_region fun K hK=>runs_eval tab_ok ?_); simp only [ev0,aops,xstep,guardA,opA,tab,binA,binInt,arith,unA,pickA,convA,allocA,boxA,loadA,storeA,fieldAddrA,fieldA,indexAddrA,lenA,lenS,sliceA,boundA,makeSliceA,elemsA,appendA,buildA,fillA,buildSliceA,partsA,extractA,builtinA,minmaxA,AV.cells,AV.isAgg,allP,mkAgg,hget,hset,isRow,cellOk,setC,after,dstOk,St.put,St.get,lk,St.ev,cv,PV.one,Int.reduceToNat,entry,ent,Nat.reduceAdd,Nat.reduceLT,Nat.reduceBEq,Nat.reduceEqDiff,Nat.reduceLeDiff,Nat.reduceMul,Nat.reduceSub,Int.cast_ofNat_Int,decide_true,decide_false,reduceCtorEq,BEq.rfl,beq_self_eq_true,bne_self_eq_false,ite_true,ite_false,if_true,if_false,reduceIte]; refine fin_run trivial (hK _ ?_)<;>clear hK<;>clear K; repeat (first|refine qa ?_|refine qb ?_|refine qc ?_|refine qd ?_|refine qe ?_|refine qf ?_|refine qg rfl ?_|refine qh ?_|refine qi ?_|refine qj ?_|refine qk ?_|refine ql ?_|refine qm ?_)
   simp only [Try.results61,Post,endA,rvsA,rvA,mkTup,peekA,peekG,peekS,peekList,PV.norm,PV.norm1,PV.norm0,PV.list.injEq,PV.tup.injEq,PV.agg.injEq,PV.int.injEq,PV.bool.injEq,List.cons.injEq,ev0,aops,xstep,guardA,opA,tab,binA,binInt,arith,unA,pickA,convA,allocA,boxA,loadA,storeA,fieldAddrA,fieldA,indexAddrA,lenA,lenS,sliceA,boundA,makeSliceA,elemsA,appendA,buildA,fillA,buildSliceA,partsA,extractA,builtinA,minmaxA,AV.cells,AV.isAgg,allP,mkAgg,hget,hset,isRow,cellOk,setC,after,dstOk,St.put,St.get,lk,St.ev,cv,PV.one,Int.reduceToNat,entry,ent,Nat.reduceAdd,Nat.reduceLT,Nat.reduceBEq,Nat.reduceEqDiff,Nat.reduceLeDiff,Nat.reduceMul,Nat.reduceSub,Int.cast_ofNat_Int,decide_true,decide_false,reduceCtorEq,BEq.rfl,beq_self_eq_true,bne_self_eq_false,ite_true,ite_false,if_true,if_false,reduceIte]
   have:i=w.length:=by have:=of_decide_eq_false hlt; omega
   rw [check,if_neg (by omega),← hi.2,this,List.drop_length]; rfl

def push (o:List Int) (x:Int):List Int:=if 0 < o.length∧o.getD (o.length - 1) 0 = -x then o.take (o.length - 1) else o++[x]
def short (w:List Int):List Int:=w.foldl push []

/-- Letters of a small range. -/
def Sm (w:List Int):Prop:=∀ x∈w,-26≤x∧x≤26

theorem push_len (o:List Int) (x:Int):(push o x).length≤o.length + 1:=by
 unfold push; split<;>simp<;>omega
theorem short_snoc (w:List Int) (i:Nat) (h:i < w.length):short (w.take (i + 1))=push (short (w.take i)) (w.getD i 0):=by
 rw [List.take_succ_eq_append_getElem h]
 simp only [short,List.foldl_append,List.foldl_cons,List.foldl_nil,List.getD,List.getElem?_eq_getElem h,Option.getD_some]
theorem short_len (w:List Int):(short w).length≤w.length:=by
 have:∀ (w o:List Int),(w.foldl push o).length≤o.length + w.length:=by
  intro w
  induction w with
  | nil=>intro o; simp
  | cons x r ih=>intro o; have:=ih (push o x); have:=push_len o x; simp at *; omega
 have:=this w []
 simpa [short] using this

theorem short_c (w:List Int) (hl:w.length≤1000000000) (hs:Sm w):FnC Try.prog 54 [.list (il w)] (.list (il (short w))):=by
 refine fnc_of tab_ok Try.func54 rfl (by kernel_rfl) (by rw [Try.ntmps54]; exact Nat.le_add_left 1 _) ?_; rw [Try.ntmps54]; repeat (first|refine qa ?_|refine qb ?_|refine qc ?_|refine qd ?_|refine qe ?_|refine qf ?_|refine qg rfl ?_|refine qh ?_|refine qi ?_|refine qj ?_|refine qk ?_|refine ql ?_|refine qm ?_)
 (refine hk_region fun K hK=>runs_eval tab_ok ?_); simp only [ev0,aops,xstep,guardA,opA,tab,binA,binInt,arith,unA,pickA,convA,allocA,boxA,loadA,storeA,fieldAddrA,fieldA,indexAddrA,lenA,lenS,sliceA,boundA,makeSliceA,elemsA,appendA,buildA,fillA,buildSliceA,partsA,extractA,builtinA,minmaxA,AV.cells,AV.isAgg,allP,mkAgg,hget,hset,isRow,cellOk,setC,after,dstOk,St.put,St.get,lk,St.ev,cv,PV.one,Int.reduceToNat,entry,ent,Nat.reduceAdd,Nat.reduceLT,Nat.reduceBEq,Nat.reduceEqDiff,Nat.reduceLeDiff,Nat.reduceMul,Nat.reduceSub,Int.cast_ofNat_Int,decide_true,decide_false,reduceCtorEq,BEq.rfl,beq_self_eq_true,bne_self_eq_false,ite_true,ite_false,if_true,if_false,reduceIte]; refine fin_run trivial (hK _ ?_)<;>clear hK<;>clear K; repeat (first|refine qa ?_|refine qb ?_|refine qc ?_|refine qd ?_|refine qe ?_|refine qf ?_|refine qg rfl ?_|refine qh ?_|refine qi ?_|refine qj ?_|refine qk ?_|refine ql ?_|refine qm ?_)
 refine hk_region fun K hK=>runs_eval tab_ok ?_
 simp only [ev0,aops,xstep,guardA,opA,tab,binA,binInt,arith,unA,pickA,convA,allocA,boxA,loadA,storeA,fieldAddrA,fieldA,indexAddrA,lenA,lenS,sliceA,boundA,makeSliceA,elemsA,appendA,buildA,fillA,buildSliceA,partsA,extractA,builtinA,minmaxA,AV.cells,AV.isAgg,allP,mkAgg,hget,hset,isRow,cellOk,setC,after,dstOk,St.put,St.get,lk,St.ev,cv,PV.one,Int.reduceToNat,entry,ent,Nat.reduceAdd,Nat.reduceLT,Nat.reduceBEq,Nat.reduceEqDiff,Nat.reduceLeDiff,Nat.reduceMul,Nat.reduceSub,Int.cast_ofNat_Int,decide_true,decide_false,reduceCtorEq,BEq.rfl,beq_self_eq_true,bne_self_eq_false,ite_true,ite_false,if_true,if_false,reduceIte]
 refine fin_run ?_ (hK _ ?_)<;>clear hK<;>clear K
 ·(first|exact trivial|omega|(simp only [In64] at *; omega)|(rw [Bool.eq_iff_iff]; simp; done)|(rw [Bool.eq_iff_iff]; simp; omega)|(simp [In64] at *; omega)|(simp_all; done)|(simp_all [In64]<;>omega)|skip)
 repeat (first|refine qa ?_|refine qb ?_|refine qc ?_|refine qd ?_|refine qe ?_|refine qf ?_|refine qg rfl ?_|refine qh ?_|refine qi ?_|refine qj ?_|refine qk ?_|refine ql ?_|refine qm ?_)
 (refine hk_region fun K hK=>runs_eval tab_ok ?_); simp only [ev0,aops,xstep,guardA,opA,tab,binA,binInt,arith,unA,pickA,convA,allocA,boxA,loadA,storeA,fieldAddrA,fieldA,indexAddrA,lenA,lenS,sliceA,boundA,makeSliceA,elemsA,appendA,buildA,fillA,buildSliceA,partsA,extractA,builtinA,minmaxA,AV.cells,AV.isAgg,allP,mkAgg,hget,hset,isRow,cellOk,setC,after,dstOk,St.put,St.get,lk,St.ev,cv,PV.one,Int.reduceToNat,entry,ent,Nat.reduceAdd,Nat.reduceLT,Nat.reduceBEq,Nat.reduceEqDiff,Nat.reduceLeDiff,Nat.reduceMul,Nat.reduceSub,Int.cast_ofNat_Int,decide_true,decide_false,reduceCtorEq,BEq.rfl,beq_self_eq_true,bne_self_eq_false,ite_true,ite_false,if_true,if_false,reduceIte]; refine fin_run trivial (hK _ ?_)<;>clear hK<;>clear K; repeat (first|refine qa ?_|refine qb ?_|refine qc ?_|refine qd ?_|refine qe ?_|refine qf ?_|refine qg rfl ?_|refine qh ?_|refine qi ?_|refine qj ?_|refine qk ?_|refine ql ?_|refine qm ?_)
 refine hk_loop (ι:=Nat) (fun i=>⟨40,[(3,.sl 0 0 (short (w.take i)).length),(10,.p (.list (il w))),(11,.p (.int .i64 w.length)),(12,.p (.int .i64 i))],[.own (ol (short (w.take i)))]⟩) (fun i=>i≤w.length) (fun i=>w.length - i) 0 (Nat.zero_le _) [0] (by simp only [AV.p.injEq,AV.sl.injEq,AV.ptr.injEq,Blk.own.injEq,PV.int.injEq,PV.bool.injEq,PV.list.injEq,Nat.sub_zero,Int.natCast_add,List.length_append,take_take_len,take_app1,take_app2,Le,LeH,LeS,LeB,ren,ren1,scA,sc1,List.nodup_cons,List.nodup_nil,List.mem_cons,List.not_mem_nil,or_false,not_false_eq_true,ev0,aops,xstep,guardA,opA,tab,binA,binInt,arith,unA,pickA,convA,allocA,boxA,loadA,storeA,fieldAddrA,fieldA,indexAddrA,lenA,lenS,sliceA,boundA,makeSliceA,elemsA,appendA,buildA,fillA,buildSliceA,partsA,extractA,builtinA,minmaxA,AV.cells,AV.isAgg,allP,mkAgg,hget,hset,isRow,cellOk,setC,after,dstOk,St.put,St.get,lk,St.ev,cv,PV.one,Int.reduceToNat,entry,ent,Nat.reduceAdd,Nat.reduceLT,Nat.reduceBEq,Nat.reduceEqDiff,Nat.reduceLeDiff,Nat.reduceMul,Nat.reduceSub,Int.cast_ofNat_Int,decide_true,decide_false,reduceCtorEq,BEq.rfl,beq_self_eq_true,bne_self_eq_false,ite_true,ite_false,if_true,if_false,reduceIte]<;>trivial) fun i hi=>?_
 repeat (first|refine qa ?_|refine qb ?_|refine qc ?_|refine qd ?_|refine qe ?_|refine qf ?_|refine qg rfl ?_|refine qh ?_|refine qi ?_|refine qj ?_|refine qk ?_|refine ql ?_|refine qm ?_)
 (refine hk_region fun K hK=>runs_eval tab_ok ?_); simp only [ev0,aops,xstep,guardA,opA,tab,binA,binInt,arith,unA,pickA,convA,allocA,boxA,loadA,storeA,fieldAddrA,fieldA,indexAddrA,lenA,lenS,sliceA,boundA,makeSliceA,elemsA,appendA,buildA,fillA,buildSliceA,partsA,extractA,builtinA,minmaxA,AV.cells,AV.isAgg,allP,mkAgg,hget,hset,isRow,cellOk,setC,after,dstOk,St.put,St.get,lk,St.ev,cv,PV.one,Int.reduceToNat,entry,ent,Nat.reduceAdd,Nat.reduceLT,Nat.reduceBEq,Nat.reduceEqDiff,Nat.reduceLeDiff,Nat.reduceMul,Nat.reduceSub,Int.cast_ofNat_Int,decide_true,decide_false,reduceCtorEq,BEq.rfl,beq_self_eq_true,bne_self_eq_false,ite_true,ite_false,if_true,if_false,reduceIte]; refine fin_run trivial (hK _ ?_)<;>clear hK<;>clear K; repeat (first|refine qa ?_|refine qb ?_|refine qc ?_|refine qd ?_|refine qe ?_|refine qf ?_|refine qg rfl ?_|refine qh ?_|refine qi ?_|refine qj ?_|refine qk ?_|refine ql ?_|refine qm ?_)
 refine hk_cond rfl (fun hlt=>?_) (fun hlt=>?_)
 ·repeat (first|refine qa ?_|refine qb ?_|refine qc ?_|refine qd ?_|refine qe ?_|refine qf ?_|refine qg rfl ?_|refine qh ?_|refine qi ?_|refine qj ?_|refine qk ?_|refine ql ?_|refine qm ?_)
  have hlt:i < w.length:=by have:=of_decide_eq_true hlt; omega
  refine hk_region fun K hK=>runs_eval tab_ok ?_
  simp only [ev0,aops,xstep,guardA,opA,tab,binA,binInt,arith,unA,pickA,convA,allocA,boxA,loadA,storeA,fieldAddrA,fieldA,indexAddrA,lenA,lenS,sliceA,boundA,makeSliceA,elemsA,appendA,buildA,fillA,buildSliceA,partsA,extractA,builtinA,minmaxA,AV.cells,AV.isAgg,allP,mkAgg,hget,hset,isRow,cellOk,setC,after,dstOk,St.put,St.get,lk,St.ev,cv,PV.one,Int.reduceToNat,entry,ent,Nat.reduceAdd,Nat.reduceLT,Nat.reduceBEq,Nat.reduceEqDiff,Nat.reduceLeDiff,Nat.reduceMul,Nat.reduceSub,Int.cast_ofNat_Int,decide_true,decide_false,reduceCtorEq,BEq.rfl,beq_self_eq_true,bne_self_eq_false,ite_true,ite_false,if_true,if_false,reduceIte,il_get hlt]
  refine fin_run ?_ (hK _ ?_)<;>clear hK<;>clear K
  ·omega
  repeat (first|refine qa ?_|refine qb ?_|refine qc ?_|refine qd ?_|refine qe ?_|refine qf ?_|refine qg rfl ?_|refine qh ?_|refine qi ?_|refine qj ?_|refine qk ?_|refine ql ?_|refine qm ?_)
  have hx:=hs (w.getD i 0) (by simp [List.getD,List.getElem?_eq_getElem hlt])
  have hsn:=short_snoc w i hlt
  have hle:=short_len (w.take i)
  rw [List.length_take] at hle
  generalize short (w.take i)=o at *
  generalize w.getD i 0=x at *
  (refine hk_region fun K hK=>runs_eval tab_ok ?_); simp only [ev0,aops,xstep,guardA,opA,tab,binA,binInt,arith,unA,pickA,convA,allocA,boxA,loadA,storeA,fieldAddrA,fieldA,indexAddrA,lenA,lenS,sliceA,boundA,makeSliceA,elemsA,appendA,buildA,fillA,buildSliceA,partsA,extractA,builtinA,minmaxA,AV.cells,AV.isAgg,allP,mkAgg,hget,hset,isRow,cellOk,setC,after,dstOk,St.put,St.get,lk,St.ev,cv,PV.one,Int.reduceToNat,entry,ent,Nat.reduceAdd,Nat.reduceLT,Nat.reduceBEq,Nat.reduceEqDiff,Nat.reduceLeDiff,Nat.reduceMul,Nat.reduceSub,Int.cast_ofNat_Int,decide_true,decide_false,reduceCtorEq,BEq.rfl,beq_self_eq_true,bne_self_eq_false,ite_true,ite_false,if_true,if_false,reduceIte]; refine fin_run trivial (hK _ ?_)<;>clear hK<;>clear K; repeat (first|refine qa ?_|refine qb ?_|refine qc ?_|refine qd ?_|refine qe ?_|refine qf ?_|refine qg rfl ?_|refine qh ?_|refine qi ?_|refine qj ?_|refine qk ?_|refine ql ?_|refine qm ?_)
  refine hk_cut ⟨40,[(29,.p (.bool (decide (0 < o.length∧o.getD (o.length - 1) 0 = -x)))),(6,.p (.int .i64 o.length)),(5,.p (.int .i64 x)),(3,.sl 0 0 o.length),(10,.p (.list (il w))),(11,.p (.int .i64 w.length)),(12,.p (.int .i64 i))],[.own (ol o)]⟩ ?_ ?_
  ·cases e0:decide ((o.length:Int) > 0)
   ·refine hk_region fun K hK=>runs_eval tab_ok ?_
    simp only [ev0,aops,xstep,guardA,opA,tab,binA,binInt,arith,unA,pickA,convA,allocA,boxA,loadA,storeA,fieldAddrA,fieldA,indexAddrA,lenA,lenS,sliceA,boundA,makeSliceA,elemsA,appendA,buildA,fillA,buildSliceA,partsA,extractA,builtinA,minmaxA,AV.cells,AV.isAgg,allP,mkAgg,hget,hset,isRow,cellOk,setC,after,dstOk,St.put,St.get,lk,St.ev,cv,PV.one,Int.reduceToNat,entry,ent,Nat.reduceAdd,Nat.reduceLT,Nat.reduceBEq,Nat.reduceEqDiff,Nat.reduceLeDiff,Nat.reduceMul,Nat.reduceSub,Int.cast_ofNat_Int,decide_true,decide_false,reduceCtorEq,BEq.rfl,beq_self_eq_true,bne_self_eq_false,ite_true,ite_false,if_true,if_false,reduceIte,e0]
    refine fin_run trivial (hK _ ?_)<;>clear hK<;>clear K
    refine ⟨rfl,[0],?_⟩; simp only [AV.p.injEq,AV.sl.injEq,AV.ptr.injEq,Blk.own.injEq,PV.int.injEq,PV.bool.injEq,PV.list.injEq,Nat.sub_zero,Int.natCast_add,List.length_append,take_take_len,take_app1,take_app2,Le,LeH,LeS,LeB,ren,ren1,scA,sc1,List.nodup_cons,List.nodup_nil,List.mem_cons,List.not_mem_nil,or_false,not_false_eq_true,ev0,aops,xstep,guardA,opA,tab,binA,binInt,arith,unA,pickA,convA,allocA,boxA,loadA,storeA,fieldAddrA,fieldA,indexAddrA,lenA,lenS,sliceA,boundA,makeSliceA,elemsA,appendA,buildA,fillA,buildSliceA,partsA,extractA,builtinA,minmaxA,AV.cells,AV.isAgg,allP,mkAgg,hget,hset,isRow,cellOk,setC,after,dstOk,St.put,St.get,lk,St.ev,cv,PV.one,Int.reduceToNat,entry,ent,Nat.reduceAdd,Nat.reduceLT,Nat.reduceBEq,Nat.reduceEqDiff,Nat.reduceLeDiff,Nat.reduceMul,Nat.reduceSub,Int.cast_ofNat_Int,decide_true,decide_false,reduceCtorEq,BEq.rfl,beq_self_eq_true,bne_self_eq_false,ite_true,ite_false,if_true,if_false,reduceIte]; (first|exact trivial|omega|(simp only [In64] at *; omega)|(rw [Bool.eq_iff_iff]; simp; done)|(rw [Bool.eq_iff_iff]; simp; omega)|(simp [In64] at *; omega)|(simp_all; done)|(simp_all [In64]<;>omega)|skip)
   ·have h0:o.length - 1 < o.length:=by have:=of_decide_eq_true e0; omega
    refine hk_region fun K hK=>runs_eval tab_ok ?_
    simp only [ev0,aops,xstep,guardA,opA,tab,binA,binInt,arith,unA,pickA,convA,allocA,boxA,loadA,storeA,fieldAddrA,fieldA,indexAddrA,lenA,lenS,sliceA,boundA,makeSliceA,elemsA,appendA,buildA,fillA,buildSliceA,partsA,extractA,builtinA,minmaxA,AV.cells,AV.isAgg,allP,mkAgg,hget,hset,isRow,cellOk,setC,after,dstOk,St.put,St.get,lk,St.ev,cv,PV.one,Int.reduceToNat,entry,ent,Nat.reduceAdd,Nat.reduceLT,Nat.reduceBEq,Nat.reduceEqDiff,Nat.reduceLeDiff,Nat.reduceMul,Nat.reduceSub,Int.cast_ofNat_Int,decide_true,decide_false,reduceCtorEq,BEq.rfl,beq_self_eq_true,bne_self_eq_false,ite_true,ite_false,if_true,if_false,reduceIte,e0,ol_get h0]
    refine fin_run ?_ (hK _ ?_)<;>clear hK<;>clear K
    ·(first|exact trivial|omega|(simp only [In64] at *; omega)|(rw [Bool.eq_iff_iff]; simp; done)|(rw [Bool.eq_iff_iff]; simp; omega)|(simp [In64] at *; omega)|(simp_all; done)|(simp_all [In64]<;>omega)|skip)
    refine ⟨rfl,[0],?_⟩; simp only [AV.p.injEq,AV.sl.injEq,AV.ptr.injEq,Blk.own.injEq,PV.int.injEq,PV.bool.injEq,PV.list.injEq,Nat.sub_zero,Int.natCast_add,List.length_append,take_take_len,take_app1,take_app2,Le,LeH,LeS,LeB,ren,ren1,scA,sc1,List.nodup_cons,List.nodup_nil,List.mem_cons,List.not_mem_nil,or_false,not_false_eq_true,ev0,aops,xstep,guardA,opA,tab,binA,binInt,arith,unA,pickA,convA,allocA,boxA,loadA,storeA,fieldAddrA,fieldA,indexAddrA,lenA,lenS,sliceA,boundA,makeSliceA,elemsA,appendA,buildA,fillA,buildSliceA,partsA,extractA,builtinA,minmaxA,AV.cells,AV.isAgg,allP,mkAgg,hget,hset,isRow,cellOk,setC,after,dstOk,St.put,St.get,lk,St.ev,cv,PV.one,Int.reduceToNat,entry,ent,Nat.reduceAdd,Nat.reduceLT,Nat.reduceBEq,Nat.reduceEqDiff,Nat.reduceLeDiff,Nat.reduceMul,Nat.reduceSub,Int.cast_ofNat_Int,decide_true,decide_false,reduceCtorEq,BEq.rfl,beq_self_eq_true,bne_self_eq_false,ite_true,ite_false,if_true,if_false,reduceIte]; (first|exact trivial|omega|(simp only [In64] at *; omega)|(rw [Bool.eq_iff_iff]; simp; done)|(rw [Bool.eq_iff_iff]; simp; omega)|(simp [In64] at *; omega)|(simp_all; done)|(simp_all [In64]<;>omega)|skip)
  ·refine hk_cond rfl (fun hc=>?_) (fun hc=>?_)
   ·have hc:=of_decide_eq_true hc
    refine hk_region fun K hK=>runs_eval tab_ok ?_
    simp only [ev0,aops,xstep,guardA,opA,tab,binA,binInt,arith,unA,pickA,convA,allocA,boxA,loadA,storeA,fieldAddrA,fieldA,indexAddrA,lenA,lenS,sliceA,boundA,makeSliceA,elemsA,appendA,buildA,fillA,buildSliceA,partsA,extractA,builtinA,minmaxA,AV.cells,AV.isAgg,allP,mkAgg,hget,hset,isRow,cellOk,setC,after,dstOk,St.put,St.get,lk,St.ev,cv,PV.one,Int.reduceToNat,entry,ent,Nat.reduceAdd,Nat.reduceLT,Nat.reduceBEq,Nat.reduceEqDiff,Nat.reduceLeDiff,Nat.reduceMul,Nat.reduceSub,Int.cast_ofNat_Int,decide_true,decide_false,reduceCtorEq,BEq.rfl,beq_self_eq_true,bne_self_eq_false,ite_true,ite_false,if_true,if_false,reduceIte]
    refine fin_run ?_ (hK _ ?_)<;>clear hK<;>clear K
    ·(first|exact trivial|omega|(simp only [In64] at *; omega)|(rw [Bool.eq_iff_iff]; simp; done)|(rw [Bool.eq_iff_iff]; simp; omega)|(simp [In64] at *; omega)|(simp_all; done)|(simp_all [In64]<;>omega)|skip)
    repeat (first|refine qa ?_|refine qb ?_|refine qc ?_|refine qd ?_|refine qe ?_|refine qf ?_|refine qg rfl ?_|refine qh ?_|refine qi ?_|refine qj ?_|refine qk ?_|refine ql ?_|refine qm ?_)
    refine hk_region fun K hK=>runs_eval tab_ok ?_
    simp only [ev0,aops,xstep,guardA,opA,tab,binA,binInt,arith,unA,pickA,convA,allocA,boxA,loadA,storeA,fieldAddrA,fieldA,indexAddrA,lenA,lenS,sliceA,boundA,makeSliceA,elemsA,appendA,buildA,fillA,buildSliceA,partsA,extractA,builtinA,minmaxA,AV.cells,AV.isAgg,allP,mkAgg,hget,hset,isRow,cellOk,setC,after,dstOk,St.put,St.get,lk,St.ev,cv,PV.one,Int.reduceToNat,entry,ent,Nat.reduceAdd,Nat.reduceLT,Nat.reduceBEq,Nat.reduceEqDiff,Nat.reduceLeDiff,Nat.reduceMul,Nat.reduceSub,Int.cast_ofNat_Int,decide_true,decide_false,reduceCtorEq,BEq.rfl,beq_self_eq_true,bne_self_eq_false,ite_true,ite_false,if_true,if_false,reduceIte]
    refine fin_run ?_ (hK _ ?_)<;>clear hK<;>clear K
    ·(first|exact trivial|omega|(simp only [In64] at *; omega)|(rw [Bool.eq_iff_iff]; simp; done)|(rw [Bool.eq_iff_iff]; simp; omega)|(simp [In64] at *; omega)|(simp_all; done)|(simp_all [In64]<;>omega)|skip)
    repeat (first|refine qa ?_|refine qb ?_|refine qc ?_|refine qd ?_|refine qe ?_|refine qf ?_|refine qg rfl ?_|refine qh ?_|refine qi ?_|refine qj ?_|refine qk ?_|refine ql ?_|refine qm ?_)
    refine ⟨i + 1,[0],by omega,by omega,?_⟩
    rw [hsn,push,if_pos hc]
    simp only [AV.p.injEq,AV.sl.injEq,AV.ptr.injEq,Blk.own.injEq,PV.int.injEq,PV.bool.injEq,PV.list.injEq,Nat.sub_zero,Int.natCast_add,List.length_append,take_take_len,take_app1,take_app2,Le,LeH,LeS,LeB,ren,ren1,scA,sc1,List.nodup_cons,List.nodup_nil,List.mem_cons,List.not_mem_nil,or_false,not_false_eq_true,ev0,aops,xstep,guardA,opA,tab,binA,binInt,arith,unA,pickA,convA,allocA,boxA,loadA,storeA,fieldAddrA,fieldA,indexAddrA,lenA,lenS,sliceA,boundA,makeSliceA,elemsA,appendA,buildA,fillA,buildSliceA,partsA,extractA,builtinA,minmaxA,AV.cells,AV.isAgg,allP,mkAgg,hget,hset,isRow,cellOk,setC,after,dstOk,St.put,St.get,lk,St.ev,cv,PV.one,Int.reduceToNat,entry,ent,Nat.reduceAdd,Nat.reduceLT,Nat.reduceBEq,Nat.reduceEqDiff,Nat.reduceLeDiff,Nat.reduceMul,Nat.reduceSub,Int.cast_ofNat_Int,decide_true,decide_false,reduceCtorEq,BEq.rfl,beq_self_eq_true,bne_self_eq_false,ite_true,ite_false,if_true,if_false,reduceIte]
    (first|exact trivial|omega|(simp only [In64] at *; omega)|(rw [Bool.eq_iff_iff]; simp; done)|(rw [Bool.eq_iff_iff]; simp; omega)|(simp [In64] at *; omega)|(simp_all; done)|(simp_all [In64]<;>omega)|skip)
   ·have hc:=of_decide_eq_false hc
    refine hk_region fun K hK=>runs_eval tab_ok ?_
    simp only [ev0,aops,xstep,guardA,opA,tab,binA,binInt,arith,unA,pickA,convA,allocA,boxA,loadA,storeA,fieldAddrA,fieldA,indexAddrA,lenA,lenS,sliceA,boundA,makeSliceA,elemsA,appendA,buildA,fillA,buildSliceA,partsA,extractA,builtinA,minmaxA,AV.cells,AV.isAgg,allP,mkAgg,hget,hset,isRow,cellOk,setC,after,dstOk,St.put,St.get,lk,St.ev,cv,PV.one,Int.reduceToNat,entry,ent,Nat.reduceAdd,Nat.reduceLT,Nat.reduceBEq,Nat.reduceEqDiff,Nat.reduceLeDiff,Nat.reduceMul,Nat.reduceSub,Int.cast_ofNat_Int,decide_true,decide_false,reduceCtorEq,BEq.rfl,beq_self_eq_true,bne_self_eq_false,ite_true,ite_false,if_true,if_false,reduceIte]
    refine fin_run ?_ (hK _ ?_)<;>clear hK<;>clear K
    ·(first|exact trivial|omega|(simp only [In64] at *; omega)|(rw [Bool.eq_iff_iff]; simp; done)|(rw [Bool.eq_iff_iff]; simp; omega)|(simp [In64] at *; omega)|(simp_all; done)|(simp_all [In64]<;>omega)|skip)
    repeat (first|refine qa ?_|refine qb ?_|refine qc ?_|refine qd ?_|refine qe ?_|refine qf ?_|refine qg rfl ?_|refine qh ?_|refine qi ?_|refine qj ?_|refine qk ?_|refine ql ?_|refine qm ?_)
    refine hk_region fun K hK=>runs_eval tab_ok ?_
    simp only [ev0,aops,xstep,guardA,opA,tab,binA,binInt,arith,unA,pickA,convA,allocA,boxA,loadA,storeA,fieldAddrA,fieldA,indexAddrA,lenA,lenS,sliceA,boundA,makeSliceA,elemsA,appendA,buildA,fillA,buildSliceA,partsA,extractA,builtinA,minmaxA,AV.cells,AV.isAgg,allP,mkAgg,hget,hset,isRow,cellOk,setC,after,dstOk,St.put,St.get,lk,St.ev,cv,PV.one,Int.reduceToNat,entry,ent,Nat.reduceAdd,Nat.reduceLT,Nat.reduceBEq,Nat.reduceEqDiff,Nat.reduceLeDiff,Nat.reduceMul,Nat.reduceSub,Int.cast_ofNat_Int,decide_true,decide_false,reduceCtorEq,BEq.rfl,beq_self_eq_true,bne_self_eq_false,ite_true,ite_false,if_true,if_false,reduceIte]
    refine fin_run ?_ (hK _ ?_)<;>clear hK<;>clear K
    ·(first|exact trivial|omega|(simp only [In64] at *; omega)|(rw [Bool.eq_iff_iff]; simp; done)|(rw [Bool.eq_iff_iff]; simp; omega)|(simp [In64] at *; omega)|(simp_all; done)|(simp_all [In64]<;>omega)|skip)
    repeat (first|refine qa ?_|refine qb ?_|refine qc ?_|refine qd ?_|refine qe ?_|refine qf ?_|refine qg rfl ?_|refine qh ?_|refine qi ?_|refine qj ?_|refine qk ?_|refine ql ?_|refine qm ?_)
    refine ⟨i + 1,[1],by omega,by omega,?_⟩
    rw [hsn,push,if_neg hc]
    simp only [AV.p.injEq,AV.sl.injEq,AV.ptr.injEq,Blk.own.injEq,PV.int.injEq,PV.bool.injEq,PV.list.injEq,Nat.sub_zero,Int.natCast_add,List.length_append,take_take_len,take_app1,take_app2,Le,LeH,LeS,LeB,ren,ren1,scA,sc1,List.nodup_cons,List.nodup_nil,List.mem_cons,List.not_mem_nil,or_false,not_false_eq_true,ev0,aops,xstep,guardA,opA,tab,binA,binInt,arith,unA,pickA,convA,allocA,boxA,loadA,storeA,fieldAddrA,fieldA,indexAddrA,lenA,lenS,sliceA,boundA,makeSliceA,elemsA,appendA,buildA,fillA,buildSliceA,partsA,extractA,builtinA,minmaxA,AV.cells,AV.isAgg,allP,mkAgg,hget,hset,isRow,cellOk,setC,after,dstOk,St.put,St.get,lk,St.ev,cv,PV.one,Int.reduceToNat,entry,ent,Nat.reduceAdd,Nat.reduceLT,Nat.reduceBEq,Nat.reduceEqDiff,Nat.reduceLeDiff,Nat.reduceMul,Nat.reduceSub,Int.cast_ofNat_Int,decide_true,decide_false,reduceCtorEq,BEq.rfl,beq_self_eq_true,bne_self_eq_false,ite_true,ite_false,if_true,if_false,reduceIte]
    (first|exact trivial|omega|(simp only [In64] at *; omega)|(rw [Bool.eq_iff_iff]; simp; done)|(rw [Bool.eq_iff_iff]; simp; omega)|(simp [In64] at *; omega)|(simp_all; done)|(simp_all [In64]<;>omega)|skip)
 ·repeat (first|refine qa ?_|refine qb ?_|refine qc ?_|refine qd ?_|refine qe ?_|refine qf ?_|refine qg rfl ?_|refine qh ?_|refine qi ?_|refine qj ?_|refine qk ?_|refine ql ?_|refine qm ?_)
  (refine hk_region fun K hK=>runs_eval tab_ok ?_); simp only [ev0,aops,xstep,guardA,opA,tab,binA,binInt,arith,unA,pickA,convA,allocA,boxA,loadA,storeA,fieldAddrA,fieldA,indexAddrA,lenA,lenS,sliceA,boundA,makeSliceA,elemsA,appendA,buildA,fillA,buildSliceA,partsA,extractA,builtinA,minmaxA,AV.cells,AV.isAgg,allP,mkAgg,hget,hset,isRow,cellOk,setC,after,dstOk,St.put,St.get,lk,St.ev,cv,PV.one,Int.reduceToNat,entry,ent,Nat.reduceAdd,Nat.reduceLT,Nat.reduceBEq,Nat.reduceEqDiff,Nat.reduceLeDiff,Nat.reduceMul,Nat.reduceSub,Int.cast_ofNat_Int,decide_true,decide_false,reduceCtorEq,BEq.rfl,beq_self_eq_true,bne_self_eq_false,ite_true,ite_false,if_true,if_false,reduceIte]; refine fin_run trivial (hK _ ?_)<;>clear hK<;>clear K; repeat (first|refine qa ?_|refine qb ?_|refine qc ?_|refine qd ?_|refine qe ?_|refine qf ?_|refine qg rfl ?_|refine qh ?_|refine qi ?_|refine qj ?_|refine qk ?_|refine ql ?_|refine qm ?_)
  simp only [Try.results54,Post,endA,rvsA,rvA,mkTup,peekA,peekG,peekS,peekList,PV.norm,PV.norm1,PV.norm0,PV.list.injEq,PV.tup.injEq,PV.agg.injEq,PV.int.injEq,PV.bool.injEq,List.cons.injEq,ev0,aops,xstep,guardA,opA,tab,binA,binInt,arith,unA,pickA,convA,allocA,boxA,loadA,storeA,fieldAddrA,fieldA,indexAddrA,lenA,lenS,sliceA,boundA,makeSliceA,elemsA,appendA,buildA,fillA,buildSliceA,partsA,extractA,builtinA,minmaxA,AV.cells,AV.isAgg,allP,mkAgg,hget,hset,isRow,cellOk,setC,after,dstOk,St.put,St.get,lk,St.ev,cv,PV.one,Int.reduceToNat,entry,ent,Nat.reduceAdd,Nat.reduceLT,Nat.reduceBEq,Nat.reduceEqDiff,Nat.reduceLeDiff,Nat.reduceMul,Nat.reduceSub,Int.cast_ofNat_Int,decide_true,decide_false,reduceCtorEq,BEq.rfl,beq_self_eq_true,bne_self_eq_false,ite_true,ite_false,if_true,if_false,reduceIte]
  have:i=w.length:=by have:=of_decide_eq_false hlt; omega
  rw [this,List.take_length]
  exact ⟨Nat.le_refl _,rfl⟩

def bk (w:List Int) (j:Nat):List Int:=(w.reverse.take j).map (fun x=>-x)
def back (w:List Int):List Int:=(w.reverse).map (fun x=>-x)

theorem bk_len {w:List Int} {j:Nat} (h:j≤w.length):(bk w j).length=j:=by simp [bk]; omega
theorem bk_succ {w:List Int} {j:Nat} (h:j < w.length):bk w (j + 1)=bk w j++[-(w.getD (w.length - 1 - j) 0)]:=by
 unfold bk
 rw [List.take_succ_eq_append_getElem (by simpa using h),List.map_append,List.getElem_reverse]
 simp [List.getD,List.getElem?_eq_getElem (show w.length - 1 - j < w.length by omega)]
theorem bk_all (w:List Int):bk w w.length=back w:=by
 unfold bk back
 rw [List.take_of_length_le (by simp)]

theorem back_c (w:List Int) (hl:w.length≤1000000000) (hs:Sm w):FnC Try.prog 68 [.list (il w)] (.list (il (back w))):=by
 refine fnc_of tab_ok Try.func68 rfl (by kernel_rfl) (by rw [Try.ntmps68]; exact Nat.le_add_left 1 _) ?_; rw [Try.ntmps68]; repeat (first|refine qa ?_|refine qb ?_|refine qc ?_|refine qd ?_|refine qe ?_|refine qf ?_|refine qg rfl ?_|refine qh ?_|refine qi ?_|refine qj ?_|refine qk ?_|refine ql ?_|refine qm ?_)
 (refine hk_region fun K hK=>runs_eval tab_ok ?_); simp only [ev0,aops,xstep,guardA,opA,tab,binA,binInt,arith,unA,pickA,convA,allocA,boxA,loadA,storeA,fieldAddrA,fieldA,indexAddrA,lenA,lenS,sliceA,boundA,makeSliceA,elemsA,appendA,buildA,fillA,buildSliceA,partsA,extractA,builtinA,minmaxA,AV.cells,AV.isAgg,allP,mkAgg,hget,hset,isRow,cellOk,setC,after,dstOk,St.put,St.get,lk,St.ev,cv,PV.one,Int.reduceToNat,entry,ent,Nat.reduceAdd,Nat.reduceLT,Nat.reduceBEq,Nat.reduceEqDiff,Nat.reduceLeDiff,Nat.reduceMul,Nat.reduceSub,Int.cast_ofNat_Int,decide_true,decide_false,reduceCtorEq,BEq.rfl,beq_self_eq_true,bne_self_eq_false,ite_true,ite_false,if_true,if_false,reduceIte]; refine fin_run trivial (hK _ ?_)<;>clear hK<;>clear K; repeat (first|refine qa ?_|refine qb ?_|refine qc ?_|refine qd ?_|refine qe ?_|refine qf ?_|refine qg rfl ?_|refine qh ?_|refine qi ?_|refine qj ?_|refine qk ?_|refine ql ?_|refine qm ?_)
 refine hk_region fun K hK=>runs_eval tab_ok ?_
 simp only [ev0,aops,xstep,guardA,opA,tab,binA,binInt,arith,unA,pickA,convA,allocA,boxA,loadA,storeA,fieldAddrA,fieldA,indexAddrA,lenA,lenS,sliceA,boundA,makeSliceA,elemsA,appendA,buildA,fillA,buildSliceA,partsA,extractA,builtinA,minmaxA,AV.cells,AV.isAgg,allP,mkAgg,hget,hset,isRow,cellOk,setC,after,dstOk,St.put,St.get,lk,St.ev,cv,PV.one,Int.reduceToNat,entry,ent,Nat.reduceAdd,Nat.reduceLT,Nat.reduceBEq,Nat.reduceEqDiff,Nat.reduceLeDiff,Nat.reduceMul,Nat.reduceSub,Int.cast_ofNat_Int,decide_true,decide_false,reduceCtorEq,BEq.rfl,beq_self_eq_true,bne_self_eq_false,ite_true,ite_false,if_true,if_false,reduceIte]
 refine fin_run ?_ (hK _ ?_)<;>clear hK<;>clear K
 ·(first|exact trivial|omega|(simp only [In64] at *; omega)|(rw [Bool.eq_iff_iff]; simp; done)|(rw [Bool.eq_iff_iff]; simp; omega)|(simp [In64] at *; omega)|(simp_all; done)|(simp_all [In64]<;>omega)|skip)
 repeat (first|refine qa ?_|refine qb ?_|refine qc ?_|refine qd ?_|refine qe ?_|refine qf ?_|refine qg rfl ?_|refine qh ?_|refine qi ?_|refine qj ?_|refine qk ?_|refine ql ?_|refine qm ?_)
 refine hk_region fun K hK=>runs_eval tab_ok ?_
 simp only [ev0,aops,xstep,guardA,opA,tab,binA,binInt,arith,unA,pickA,convA,allocA,boxA,loadA,storeA,fieldAddrA,fieldA,indexAddrA,lenA,lenS,sliceA,boundA,makeSliceA,elemsA,appendA,buildA,fillA,buildSliceA,partsA,extractA,builtinA,minmaxA,AV.cells,AV.isAgg,allP,mkAgg,hget,hset,isRow,cellOk,setC,after,dstOk,St.put,St.get,lk,St.ev,cv,PV.one,Int.reduceToNat,entry,ent,Nat.reduceAdd,Nat.reduceLT,Nat.reduceBEq,Nat.reduceEqDiff,Nat.reduceLeDiff,Nat.reduceMul,Nat.reduceSub,Int.cast_ofNat_Int,decide_true,decide_false,reduceCtorEq,BEq.rfl,beq_self_eq_true,bne_self_eq_false,ite_true,ite_false,if_true,if_false,reduceIte]
 refine fin_run ?_ (hK _ ?_)<;>clear hK<;>clear K
 ·(first|exact trivial|omega|(simp only [In64] at *; omega)|(rw [Bool.eq_iff_iff]; simp; done)|(rw [Bool.eq_iff_iff]; simp; omega)|(simp [In64] at *; omega)|(simp_all; done)|(simp_all [In64]<;>omega)|skip)
 repeat (first|refine qa ?_|refine qb ?_|refine qc ?_|refine qd ?_|refine qe ?_|refine qf ?_|refine qg rfl ?_|refine qh ?_|refine qi ?_|refine qj ?_|refine qk ?_|refine ql ?_|refine qm ?_)
 refine hk_loop (ι:=Nat) (fun j=>⟨24,[(0,.p (.list (il w))),(3,.sl 0 0 (bk w j).length),(4,.p (.int .i64 ((w.length:Int) - 1 - j)))],[.own (ol (bk w j))]⟩) (fun j=>j≤w.length) (fun j=>w.length - j) 0 (Nat.zero_le _) [0] (by simp only [AV.p.injEq,AV.sl.injEq,AV.ptr.injEq,Blk.own.injEq,PV.int.injEq,PV.bool.injEq,PV.list.injEq,Nat.sub_zero,Int.natCast_add,List.length_append,take_take_len,take_app1,take_app2,Le,LeH,LeS,LeB,ren,ren1,scA,sc1,List.nodup_cons,List.nodup_nil,List.mem_cons,List.not_mem_nil,or_false,not_false_eq_true,ev0,aops,xstep,guardA,opA,tab,binA,binInt,arith,unA,pickA,convA,allocA,boxA,loadA,storeA,fieldAddrA,fieldA,indexAddrA,lenA,lenS,sliceA,boundA,makeSliceA,elemsA,appendA,buildA,fillA,buildSliceA,partsA,extractA,builtinA,minmaxA,AV.cells,AV.isAgg,allP,mkAgg,hget,hset,isRow,cellOk,setC,after,dstOk,St.put,St.get,lk,St.ev,cv,PV.one,Int.reduceToNat,entry,ent,Nat.reduceAdd,Nat.reduceLT,Nat.reduceBEq,Nat.reduceEqDiff,Nat.reduceLeDiff,Nat.reduceMul,Nat.reduceSub,Int.cast_ofNat_Int,decide_true,decide_false,reduceCtorEq,BEq.rfl,beq_self_eq_true,bne_self_eq_false,ite_true,ite_false,if_true,if_false,reduceIte]; simp [bk,ol_nil]) fun j hj=>?_
 repeat (first|refine qa ?_|refine qb ?_|refine qc ?_|refine qd ?_|refine qe ?_|refine qf ?_|refine qg rfl ?_|refine qh ?_|refine qi ?_|refine qj ?_|refine qk ?_|refine ql ?_|refine qm ?_)
 (refine hk_region fun K hK=>runs_eval tab_ok ?_); simp only [ev0,aops,xstep,guardA,opA,tab,binA,binInt,arith,unA,pickA,convA,allocA,boxA,loadA,storeA,fieldAddrA,fieldA,indexAddrA,lenA,lenS,sliceA,boundA,makeSliceA,elemsA,appendA,buildA,fillA,buildSliceA,partsA,extractA,builtinA,minmaxA,AV.cells,AV.isAgg,allP,mkAgg,hget,hset,isRow,cellOk,setC,after,dstOk,St.put,St.get,lk,St.ev,cv,PV.one,Int.reduceToNat,entry,ent,Nat.reduceAdd,Nat.reduceLT,Nat.reduceBEq,Nat.reduceEqDiff,Nat.reduceLeDiff,Nat.reduceMul,Nat.reduceSub,Int.cast_ofNat_Int,decide_true,decide_false,reduceCtorEq,BEq.rfl,beq_self_eq_true,bne_self_eq_false,ite_true,ite_false,if_true,if_false,reduceIte]; refine fin_run trivial (hK _ ?_)<;>clear hK<;>clear K; repeat (first|refine qa ?_|refine qb ?_|refine qc ?_|refine qd ?_|refine qe ?_|refine qf ?_|refine qg rfl ?_|refine qh ?_|refine qi ?_|refine qj ?_|refine qk ?_|refine ql ?_|refine qm ?_)
 refine hk_cond rfl (fun hlt=>?_) (fun hlt=>?_)
 ·repeat (first|refine qa ?_|refine qb ?_|refine qc ?_|refine qd ?_|refine qe ?_|refine qf ?_|refine qg rfl ?_|refine qh ?_|refine qi ?_|refine qj ?_|refine qk ?_|refine ql ?_|refine qm ?_)
  have hlt:j < w.length:=by have:=of_decide_eq_true hlt; omega
  have hx:=hs (w.getD (w.length - 1 - j) 0) (by simp [List.getD,List.getElem?_eq_getElem (show w.length - 1 - j < w.length by omega)])
  have hi:((w.length:Int) - 1 - j).toNat=w.length - 1 - j:=by omega
  have hb:=bk_len (Nat.le_of_lt hlt)
  have hsn:=bk_succ hlt
  refine hk_region fun K hK=>runs_eval tab_ok ?_
  simp only [ev0,aops,xstep,guardA,opA,tab,binA,binInt,arith,unA,pickA,convA,allocA,boxA,loadA,storeA,fieldAddrA,fieldA,indexAddrA,lenA,lenS,sliceA,boundA,makeSliceA,elemsA,appendA,buildA,fillA,buildSliceA,partsA,extractA,builtinA,minmaxA,AV.cells,AV.isAgg,allP,mkAgg,hget,hset,isRow,cellOk,setC,after,dstOk,St.put,St.get,lk,St.ev,cv,PV.one,Int.reduceToNat,entry,ent,Nat.reduceAdd,Nat.reduceLT,Nat.reduceBEq,Nat.reduceEqDiff,Nat.reduceLeDiff,Nat.reduceMul,Nat.reduceSub,Int.cast_ofNat_Int,decide_true,decide_false,reduceCtorEq,BEq.rfl,beq_self_eq_true,bne_self_eq_false,ite_true,ite_false,if_true,if_false,reduceIte,hi,il_get (show w.length - 1 - j < w.length by omega)]
  refine fin_run ?_ (hK _ ?_)<;>clear hK<;>clear K
  ·simp only [In64]; omega
  repeat (first|refine qa ?_|refine qb ?_|refine qc ?_|refine qd ?_|refine qe ?_|refine qf ?_|refine qg rfl ?_|refine qh ?_|refine qi ?_|refine qj ?_|refine qk ?_|refine ql ?_|refine qm ?_)
  refine hk_region fun K hK=>runs_eval tab_ok ?_
  simp only [ev0,aops,xstep,guardA,opA,tab,binA,binInt,arith,unA,pickA,convA,allocA,boxA,loadA,storeA,fieldAddrA,fieldA,indexAddrA,lenA,lenS,sliceA,boundA,makeSliceA,elemsA,appendA,buildA,fillA,buildSliceA,partsA,extractA,builtinA,minmaxA,AV.cells,AV.isAgg,allP,mkAgg,hget,hset,isRow,cellOk,setC,after,dstOk,St.put,St.get,lk,St.ev,cv,PV.one,Int.reduceToNat,entry,ent,Nat.reduceAdd,Nat.reduceLT,Nat.reduceBEq,Nat.reduceEqDiff,Nat.reduceLeDiff,Nat.reduceMul,Nat.reduceSub,Int.cast_ofNat_Int,decide_true,decide_false,reduceCtorEq,BEq.rfl,beq_self_eq_true,bne_self_eq_false,ite_true,ite_false,if_true,if_false,reduceIte]
  refine fin_run ?_ (hK _ ?_)<;>clear hK<;>clear K
  ·simp only [In64]; omega
  repeat (first|refine qa ?_|refine qb ?_|refine qc ?_|refine qd ?_|refine qe ?_|refine qf ?_|refine qg rfl ?_|refine qh ?_|refine qi ?_|refine qj ?_|refine qk ?_|refine ql ?_|refine qm ?_)
  refine ⟨j + 1,[1],by omega,by omega,?_⟩
  rw [hsn]
  simp only [AV.p.injEq,AV.sl.injEq,AV.ptr.injEq,Blk.own.injEq,PV.int.injEq,PV.bool.injEq,PV.list.injEq,Nat.sub_zero,Int.natCast_add,List.length_append,take_take_len,take_app1,take_app2,Le,LeH,LeS,LeB,ren,ren1,scA,sc1,List.nodup_cons,List.nodup_nil,List.mem_cons,List.not_mem_nil,or_false,not_false_eq_true,ev0,aops,xstep,guardA,opA,tab,binA,binInt,arith,unA,pickA,convA,allocA,boxA,loadA,storeA,fieldAddrA,fieldA,indexAddrA,lenA,lenS,sliceA,boundA,makeSliceA,elemsA,appendA,buildA,fillA,buildSliceA,partsA,extractA,builtinA,minmaxA,AV.cells,AV.isAgg,allP,mkAgg,hget,hset,isRow,cellOk,setC,after,dstOk,St.put,St.get,lk,St.ev,cv,PV.one,Int.reduceToNat,entry,ent,Nat.reduceAdd,Nat.reduceLT,Nat.reduceBEq,Nat.reduceEqDiff,Nat.reduceLeDiff,Nat.reduceMul,Nat.reduceSub,Int.cast_ofNat_Int,decide_true,decide_false,reduceCtorEq,BEq.rfl,beq_self_eq_true,bne_self_eq_false,ite_true,ite_false,if_true,if_false,reduceIte]
  omega
 ·repeat (first|refine qa ?_|refine qb ?_|refine qc ?_|refine qd ?_|refine qe ?_|refine qf ?_|refine qg rfl ?_|refine qh ?_|refine qi ?_|refine qj ?_|refine qk ?_|refine ql ?_|refine qm ?_)
  (refine hk_region fun K hK=>runs_eval tab_ok ?_); simp only [ev0,aops,xstep,guardA,opA,tab,binA,binInt,arith,unA,pickA,convA,allocA,boxA,loadA,storeA,fieldAddrA,fieldA,indexAddrA,lenA,lenS,sliceA,boundA,makeSliceA,elemsA,appendA,buildA,fillA,buildSliceA,partsA,extractA,builtinA,minmaxA,AV.cells,AV.isAgg,allP,mkAgg,hget,hset,isRow,cellOk,setC,after,dstOk,St.put,St.get,lk,St.ev,cv,PV.one,Int.reduceToNat,entry,ent,Nat.reduceAdd,Nat.reduceLT,Nat.reduceBEq,Nat.reduceEqDiff,Nat.reduceLeDiff,Nat.reduceMul,Nat.reduceSub,Int.cast_ofNat_Int,decide_true,decide_false,reduceCtorEq,BEq.rfl,beq_self_eq_true,bne_self_eq_false,ite_true,ite_false,if_true,if_false,reduceIte]; refine fin_run trivial (hK _ ?_)<;>clear hK<;>clear K; repeat (first|refine qa ?_|refine qb ?_|refine qc ?_|refine qd ?_|refine qe ?_|refine qf ?_|refine qg rfl ?_|refine qh ?_|refine qi ?_|refine qj ?_|refine qk ?_|refine ql ?_|refine qm ?_)
  simp only [Try.results68,Post,endA,rvsA,rvA,mkTup,peekA,peekG,peekS,peekList,PV.norm,PV.norm1,PV.norm0,PV.list.injEq,PV.tup.injEq,PV.agg.injEq,PV.int.injEq,PV.bool.injEq,List.cons.injEq,ev0,aops,xstep,guardA,opA,tab,binA,binInt,arith,unA,pickA,convA,allocA,boxA,loadA,storeA,fieldAddrA,fieldA,indexAddrA,lenA,lenS,sliceA,boundA,makeSliceA,elemsA,appendA,buildA,fillA,buildSliceA,partsA,extractA,builtinA,minmaxA,AV.cells,AV.isAgg,allP,mkAgg,hget,hset,isRow,cellOk,setC,after,dstOk,St.put,St.get,lk,St.ev,cv,PV.one,Int.reduceToNat,entry,ent,Nat.reduceAdd,Nat.reduceLT,Nat.reduceBEq,Nat.reduceEqDiff,Nat.reduceLeDiff,Nat.reduceMul,Nat.reduceSub,Int.cast_ofNat_Int,decide_true,decide_false,reduceCtorEq,BEq.rfl,beq_self_eq_true,bne_self_eq_false,ite_true,ite_false,if_true,if_false,reduceIte]
  have:j=w.length:=by have:=of_decide_eq_false hlt; omega
  rw [this,bk_all]
  exact ⟨Nat.le_refl _,rfl⟩

theorem clone_c (w:List Int) (hl:w.length≤1000000000):FnC Try.prog 77 [.list (il w)] (.list (il w)):=by
 by_cases hw:w=[]
 ·subst hw
  refine fnc_of tab_ok Try.func77 rfl (by kernel_rfl) (by rw [Try.ntmps77]; exact Nat.le_add_left 1 _) ?_; rw [Try.ntmps77]; repeat (first|refine qa ?_|refine qb ?_|refine qc ?_|refine qd ?_|refine qe ?_|refine qf ?_|refine qg rfl ?_|refine qh ?_|refine qi ?_|refine qj ?_|refine qk ?_|refine ql ?_|refine qm ?_)
  (refine hk_region fun K hK=>runs_eval tab_ok ?_); simp only [ev0,aops,xstep,guardA,opA,tab,binA,binInt,arith,unA,pickA,convA,allocA,boxA,loadA,storeA,fieldAddrA,fieldA,indexAddrA,lenA,lenS,sliceA,boundA,makeSliceA,elemsA,appendA,buildA,fillA,buildSliceA,partsA,extractA,builtinA,minmaxA,AV.cells,AV.isAgg,allP,mkAgg,hget,hset,isRow,cellOk,setC,after,dstOk,St.put,St.get,lk,St.ev,cv,PV.one,Int.reduceToNat,entry,ent,Nat.reduceAdd,Nat.reduceLT,Nat.reduceBEq,Nat.reduceEqDiff,Nat.reduceLeDiff,Nat.reduceMul,Nat.reduceSub,Int.cast_ofNat_Int,decide_true,decide_false,reduceCtorEq,BEq.rfl,beq_self_eq_true,bne_self_eq_false,ite_true,ite_false,if_true,if_false,reduceIte]; refine fin_run trivial (hK _ ?_)<;>clear hK<;>clear K; repeat (first|refine qa ?_|refine qb ?_|refine qc ?_|refine qd ?_|refine qe ?_|refine qf ?_|refine qg rfl ?_|refine qh ?_|refine qi ?_|refine qj ?_|refine qk ?_|refine ql ?_|refine qm ?_)
  refine hk_nil 0 rfl ?_ ?_
  ·(refine hk_region fun K hK=>runs_eval tab_ok ?_); simp only [ev0,aops,xstep,guardA,opA,tab,binA,binInt,arith,unA,pickA,convA,allocA,boxA,loadA,storeA,fieldAddrA,fieldA,indexAddrA,lenA,lenS,sliceA,boundA,makeSliceA,elemsA,appendA,buildA,fillA,buildSliceA,partsA,extractA,builtinA,minmaxA,AV.cells,AV.isAgg,allP,mkAgg,hget,hset,isRow,cellOk,setC,after,dstOk,St.put,St.get,lk,St.ev,cv,PV.one,Int.reduceToNat,entry,ent,Nat.reduceAdd,Nat.reduceLT,Nat.reduceBEq,Nat.reduceEqDiff,Nat.reduceLeDiff,Nat.reduceMul,Nat.reduceSub,Int.cast_ofNat_Int,decide_true,decide_false,reduceCtorEq,BEq.rfl,beq_self_eq_true,bne_self_eq_false,ite_true,ite_false,if_true,if_false,reduceIte]; refine fin_run trivial (hK _ ?_)<;>clear hK<;>clear K; repeat (first|refine qa ?_|refine qb ?_|refine qc ?_|refine qd ?_|refine qe ?_|refine qf ?_|refine qg rfl ?_|refine qh ?_|refine qi ?_|refine qj ?_|refine qk ?_|refine ql ?_|refine qm ?_)
   refine hk_cond rfl (fun hc=>?_) (fun hc=>?_)
   ·repeat (first|refine qa ?_|refine qb ?_|refine qc ?_|refine qd ?_|refine qe ?_|refine qf ?_|refine qg rfl ?_|refine qh ?_|refine qi ?_|refine qj ?_|refine qk ?_|refine ql ?_|refine qm ?_)
    (refine hk_region fun K hK=>runs_eval tab_ok ?_); simp only [ev0,aops,xstep,guardA,opA,tab,binA,binInt,arith,unA,pickA,convA,allocA,boxA,loadA,storeA,fieldAddrA,fieldA,indexAddrA,lenA,lenS,sliceA,boundA,makeSliceA,elemsA,appendA,buildA,fillA,buildSliceA,partsA,extractA,builtinA,minmaxA,AV.cells,AV.isAgg,allP,mkAgg,hget,hset,isRow,cellOk,setC,after,dstOk,St.put,St.get,lk,St.ev,cv,PV.one,Int.reduceToNat,entry,ent,Nat.reduceAdd,Nat.reduceLT,Nat.reduceBEq,Nat.reduceEqDiff,Nat.reduceLeDiff,Nat.reduceMul,Nat.reduceSub,Int.cast_ofNat_Int,decide_true,decide_false,reduceCtorEq,BEq.rfl,beq_self_eq_true,bne_self_eq_false,ite_true,ite_false,if_true,if_false,reduceIte]; refine fin_run trivial (hK _ ?_)<;>clear hK<;>clear K; repeat (first|refine qa ?_|refine qb ?_|refine qc ?_|refine qd ?_|refine qe ?_|refine qf ?_|refine qg rfl ?_|refine qh ?_|refine qi ?_|refine qj ?_|refine qk ?_|refine ql ?_|refine qm ?_)
    simp only [Try.results77,Post,endA,rvsA,rvA,mkTup,peekA,peekG,peekS,peekList,PV.norm,PV.norm1,PV.norm0,PV.list.injEq,PV.tup.injEq,PV.agg.injEq,PV.int.injEq,PV.bool.injEq,List.cons.injEq,ev0,aops,xstep,guardA,opA,tab,binA,binInt,arith,unA,pickA,convA,allocA,boxA,loadA,storeA,fieldAddrA,fieldA,indexAddrA,lenA,lenS,sliceA,boundA,makeSliceA,elemsA,appendA,buildA,fillA,buildSliceA,partsA,extractA,builtinA,minmaxA,AV.cells,AV.isAgg,allP,mkAgg,hget,hset,isRow,cellOk,setC,after,dstOk,St.put,St.get,lk,St.ev,cv,PV.one,Int.reduceToNat,entry,ent,Nat.reduceAdd,Nat.reduceLT,Nat.reduceBEq,Nat.reduceEqDiff,Nat.reduceLeDiff,Nat.reduceMul,Nat.reduceSub,Int.cast_ofNat_Int,decide_true,decide_false,reduceCtorEq,BEq.rfl,beq_self_eq_true,bne_self_eq_false,ite_true,ite_false,if_true,if_false,reduceIte]
    rfl
   ·cases hc
  ·(refine hk_region fun K hK=>runs_eval tab_ok ?_); simp only [ev0,aops,xstep,guardA,opA,tab,binA,binInt,arith,unA,pickA,convA,allocA,boxA,loadA,storeA,fieldAddrA,fieldA,indexAddrA,lenA,lenS,sliceA,boundA,makeSliceA,elemsA,appendA,buildA,fillA,buildSliceA,partsA,extractA,builtinA,minmaxA,AV.cells,AV.isAgg,allP,mkAgg,hget,hset,isRow,cellOk,setC,after,dstOk,St.put,St.get,lk,St.ev,cv,PV.one,Int.reduceToNat,entry,ent,Nat.reduceAdd,Nat.reduceLT,Nat.reduceBEq,Nat.reduceEqDiff,Nat.reduceLeDiff,Nat.reduceMul,Nat.reduceSub,Int.cast_ofNat_Int,decide_true,decide_false,reduceCtorEq,BEq.rfl,beq_self_eq_true,bne_self_eq_false,ite_true,ite_false,if_true,if_false,reduceIte]; refine fin_run trivial (hK _ ?_)<;>clear hK<;>clear K; repeat (first|refine qa ?_|refine qb ?_|refine qc ?_|refine qd ?_|refine qe ?_|refine qf ?_|refine qg rfl ?_|refine qh ?_|refine qi ?_|refine qj ?_|refine qk ?_|refine ql ?_|refine qm ?_)
   refine hk_cond rfl (fun hc=>?_) (fun hc=>?_)
   ·cases hc
   ·repeat (first|refine qa ?_|refine qb ?_|refine qc ?_|refine qd ?_|refine qe ?_|refine qf ?_|refine qg rfl ?_|refine qh ?_|refine qi ?_|refine qj ?_|refine qk ?_|refine ql ?_|refine qm ?_)
    refine hk_region fun K hK=>runs_eval tab_ok ?_
    simp only [ev0,aops,xstep,guardA,opA,tab,binA,binInt,arith,unA,pickA,convA,allocA,boxA,loadA,storeA,fieldAddrA,fieldA,indexAddrA,lenA,lenS,sliceA,boundA,makeSliceA,elemsA,appendA,buildA,fillA,buildSliceA,partsA,extractA,builtinA,minmaxA,AV.cells,AV.isAgg,allP,mkAgg,hget,hset,isRow,cellOk,setC,after,dstOk,St.put,St.get,lk,St.ev,cv,PV.one,Int.reduceToNat,entry,ent,Nat.reduceAdd,Nat.reduceLT,Nat.reduceBEq,Nat.reduceEqDiff,Nat.reduceLeDiff,Nat.reduceMul,Nat.reduceSub,Int.cast_ofNat_Int,decide_true,decide_false,reduceCtorEq,BEq.rfl,beq_self_eq_true,bne_self_eq_false,ite_true,ite_false,if_true,if_false,reduceIte]
    refine fin_stop trivial ?_
    refine runs_op (appendNz_does tab_ok rfl rfl rfl rfl rfl rfl rfl) rfl (by simp only [dstOk,Nat.reduceLT]) (runs_eval tab_ok ?_)
    simp only [ev0,aops,xstep,guardA,opA,tab,binA,binInt,arith,unA,pickA,convA,allocA,boxA,loadA,storeA,fieldAddrA,fieldA,indexAddrA,lenA,lenS,sliceA,boundA,makeSliceA,elemsA,appendA,buildA,fillA,buildSliceA,partsA,extractA,builtinA,minmaxA,AV.cells,AV.isAgg,allP,mkAgg,hget,hset,isRow,cellOk,setC,after,dstOk,St.put,St.get,lk,St.ev,cv,PV.one,Int.reduceToNat,entry,ent,Nat.reduceAdd,Nat.reduceLT,Nat.reduceBEq,Nat.reduceEqDiff,Nat.reduceLeDiff,Nat.reduceMul,Nat.reduceSub,Int.cast_ofNat_Int,decide_true,decide_false,reduceCtorEq,BEq.rfl,beq_self_eq_true,bne_self_eq_false,ite_true,ite_false,if_true,if_false,reduceIte]
    refine fin_run trivial (hK _ ?_)<;>clear hK<;>clear K
    repeat (first|refine qa ?_|refine qb ?_|refine qc ?_|refine qd ?_|refine qe ?_|refine qf ?_|refine qg rfl ?_|refine qh ?_|refine qi ?_|refine qj ?_|refine qk ?_|refine ql ?_|refine qm ?_)
    simp only [Try.results77,Post,endA,rvsA,rvA,mkTup,peekA,peekG,peekS,peekList,PV.norm,PV.norm1,PV.norm0,PV.list.injEq,PV.tup.injEq,PV.agg.injEq,PV.int.injEq,PV.bool.injEq,List.cons.injEq,ev0,aops,xstep,guardA,opA,tab,binA,binInt,arith,unA,pickA,convA,allocA,boxA,loadA,storeA,fieldAddrA,fieldA,indexAddrA,lenA,lenS,sliceA,boundA,makeSliceA,elemsA,appendA,buildA,fillA,buildSliceA,partsA,extractA,builtinA,minmaxA,AV.cells,AV.isAgg,allP,mkAgg,hget,hset,isRow,cellOk,setC,after,dstOk,St.put,St.get,lk,St.ev,cv,PV.one,Int.reduceToNat,entry,ent,Nat.reduceAdd,Nat.reduceLT,Nat.reduceBEq,Nat.reduceEqDiff,Nat.reduceLeDiff,Nat.reduceMul,Nat.reduceSub,Int.cast_ofNat_Int,decide_true,decide_false,reduceCtorEq,BEq.rfl,beq_self_eq_true,bne_self_eq_false,ite_true,ite_false,if_true,if_false,reduceIte]
    rfl
 ·have hne:il w ≠ []:=by intro h; exact hw (by simpa [il] using h)
  refine fnc_of tab_ok Try.func77 rfl (by kernel_rfl) (by rw [Try.ntmps77]; exact Nat.le_add_left 1 _) ?_; rw [Try.ntmps77]; repeat (first|refine qa ?_|refine qb ?_|refine qc ?_|refine qd ?_|refine qe ?_|refine qf ?_|refine qg rfl ?_|refine qh ?_|refine qi ?_|refine qj ?_|refine qk ?_|refine ql ?_|refine qm ?_)
  (refine hk_region fun K hK=>runs_eval tab_ok ?_); simp only [ev0,aops,xstep,guardA,opA,tab,binA,binInt,arith,unA,pickA,convA,allocA,boxA,loadA,storeA,fieldAddrA,fieldA,indexAddrA,lenA,lenS,sliceA,boundA,makeSliceA,elemsA,appendA,buildA,fillA,buildSliceA,partsA,extractA,builtinA,minmaxA,AV.cells,AV.isAgg,allP,mkAgg,hget,hset,isRow,cellOk,setC,after,dstOk,St.put,St.get,lk,St.ev,cv,PV.one,Int.reduceToNat,entry,ent,Nat.reduceAdd,Nat.reduceLT,Nat.reduceBEq,Nat.reduceEqDiff,Nat.reduceLeDiff,Nat.reduceMul,Nat.reduceSub,Int.cast_ofNat_Int,decide_true,decide_false,reduceCtorEq,BEq.rfl,beq_self_eq_true,bne_self_eq_false,ite_true,ite_false,if_true,if_false,reduceIte]; refine fin_run trivial (hK _ ?_)<;>clear hK<;>clear K; repeat (first|refine qa ?_|refine qb ?_|refine qc ?_|refine qd ?_|refine qe ?_|refine qf ?_|refine qg rfl ?_|refine qh ?_|refine qi ?_|refine qj ?_|refine qk ?_|refine ql ?_|refine qm ?_)
  refine hk_region fun K hK=>runs_eval tab_ok ?_
  simp only [ev0,aops,xstep,guardA,opA,tab,binA,binInt,arith,unA,pickA,convA,allocA,boxA,loadA,storeA,fieldAddrA,fieldA,indexAddrA,lenA,lenS,sliceA,boundA,makeSliceA,elemsA,appendA,buildA,fillA,buildSliceA,partsA,extractA,builtinA,minmaxA,AV.cells,AV.isAgg,allP,mkAgg,hget,hset,isRow,cellOk,setC,after,dstOk,St.put,St.get,lk,St.ev,cv,PV.one,Int.reduceToNat,entry,ent,Nat.reduceAdd,Nat.reduceLT,Nat.reduceBEq,Nat.reduceEqDiff,Nat.reduceLeDiff,Nat.reduceMul,Nat.reduceSub,Int.cast_ofNat_Int,decide_true,decide_false,reduceCtorEq,BEq.rfl,beq_self_eq_true,bne_self_eq_false,ite_true,ite_false,if_true,if_false,reduceIte]
  refine fin_run ?_ (hK _ ?_)<;>clear hK<;>clear K
  ·exact hne
  repeat (first|refine qa ?_|refine qb ?_|refine qc ?_|refine qd ?_|refine qe ?_|refine qf ?_|refine qg rfl ?_|refine qh ?_|refine qi ?_|refine qj ?_|refine qk ?_|refine ql ?_|refine qm ?_)
  refine hk_cond rfl (fun hc=>?_) (fun hc=>?_)
  ·cases hc
  ·repeat (first|refine qa ?_|refine qb ?_|refine qc ?_|refine qd ?_|refine qe ?_|refine qf ?_|refine qg rfl ?_|refine qh ?_|refine qi ?_|refine qj ?_|refine qk ?_|refine ql ?_|refine qm ?_)
   refine hk_region fun K hK=>runs_eval tab_ok ?_
   simp only [ev0,aops,xstep,guardA,opA,tab,binA,binInt,arith,unA,pickA,convA,allocA,boxA,loadA,storeA,fieldAddrA,fieldA,indexAddrA,lenA,lenS,sliceA,boundA,makeSliceA,elemsA,appendA,buildA,fillA,buildSliceA,partsA,extractA,builtinA,minmaxA,AV.cells,AV.isAgg,allP,mkAgg,hget,hset,isRow,cellOk,setC,after,dstOk,St.put,St.get,lk,St.ev,cv,PV.one,Int.reduceToNat,entry,ent,Nat.reduceAdd,Nat.reduceLT,Nat.reduceBEq,Nat.reduceEqDiff,Nat.reduceLeDiff,Nat.reduceMul,Nat.reduceSub,Int.cast_ofNat_Int,decide_true,decide_false,reduceCtorEq,BEq.rfl,beq_self_eq_true,bne_self_eq_false,ite_true,ite_false,if_true,if_false,reduceIte]
   refine fin_run ?_ (hK _ ?_)<;>clear hK<;>clear K
   ·have:0 < w.length:=List.length_pos_iff.2 hw
    (first|exact trivial|omega|(simp only [In64] at *; omega)|(rw [Bool.eq_iff_iff]; simp; done)|(rw [Bool.eq_iff_iff]; simp; omega)|(simp [In64] at *; omega)|(simp_all; done)|(simp_all [In64]<;>omega)|skip)
   repeat (first|refine qa ?_|refine qb ?_|refine qc ?_|refine qd ?_|refine qe ?_|refine qf ?_|refine qg rfl ?_|refine qh ?_|refine qi ?_|refine qj ?_|refine qk ?_|refine ql ?_|refine qm ?_)
   simp only [Try.results77,Post,endA,rvsA,rvA,mkTup,peekA,peekG,peekS,peekList,PV.norm,PV.norm1,PV.norm0,PV.list.injEq,PV.tup.injEq,PV.agg.injEq,PV.int.injEq,PV.bool.injEq,List.cons.injEq,ev0,aops,xstep,guardA,opA,tab,binA,binInt,arith,unA,pickA,convA,allocA,boxA,loadA,storeA,fieldAddrA,fieldA,indexAddrA,lenA,lenS,sliceA,boundA,makeSliceA,elemsA,appendA,buildA,fillA,buildSliceA,partsA,extractA,builtinA,minmaxA,AV.cells,AV.isAgg,allP,mkAgg,hget,hset,isRow,cellOk,setC,after,dstOk,St.put,St.get,lk,St.ev,cv,PV.one,Int.reduceToNat,entry,ent,Nat.reduceAdd,Nat.reduceLT,Nat.reduceBEq,Nat.reduceEqDiff,Nat.reduceLeDiff,Nat.reduceMul,Nat.reduceSub,Int.cast_ofNat_Int,decide_true,decide_false,reduceCtorEq,BEq.rfl,beq_self_eq_true,bne_self_eq_false,ite_true,ite_false,if_true,if_false,reduceIte]
   exact Nat.le_refl _

theorem grow_c (n:Nat) (hn:n≤1000000000):FnG Try.prog 84 [.nil,.int .i64 n] (.sl 0 0 0) [.own []]:=by
 refine fng_of tab_ok Try.func84 rfl (by kernel_rfl) (by rw [Try.ntmps84]; exact Nat.le_add_left 2 _) ?_; rw [Try.ntmps84]; repeat (first|refine qa ?_|refine qb ?_|refine qc ?_|refine qd ?_|refine qe ?_|refine qf ?_|refine qg rfl ?_|refine qh ?_|refine qi ?_|refine qj ?_|refine qk ?_|refine ql ?_|refine qm ?_)
 (refine hk_region fun K hK=>runs_eval tab_ok ?_); simp only [ev0,aops,xstep,guardA,opA,tab,binA,binInt,arith,unA,pickA,convA,allocA,boxA,loadA,storeA,fieldAddrA,fieldA,indexAddrA,lenA,lenS,sliceA,boundA,makeSliceA,elemsA,appendA,buildA,fillA,buildSliceA,partsA,extractA,builtinA,minmaxA,AV.cells,AV.isAgg,allP,mkAgg,hget,hset,isRow,cellOk,setC,after,dstOk,St.put,St.get,lk,St.ev,cv,PV.one,Int.reduceToNat,entry,ent,Nat.reduceAdd,Nat.reduceLT,Nat.reduceBEq,Nat.reduceEqDiff,Nat.reduceLeDiff,Nat.reduceMul,Nat.reduceSub,Int.cast_ofNat_Int,decide_true,decide_false,reduceCtorEq,BEq.rfl,beq_self_eq_true,bne_self_eq_false,ite_true,ite_false,if_true,if_false,reduceIte]; refine fin_run trivial (hK _ ?_)<;>clear hK<;>clear K; repeat (first|refine qa ?_|refine qb ?_|refine qc ?_|refine qd ?_|refine qe ?_|refine qf ?_|refine qg rfl ?_|refine qh ?_|refine qi ?_|refine qj ?_|refine qk ?_|refine ql ?_|refine qm ?_)
 (refine hk_region fun K hK=>runs_eval tab_ok ?_); simp only [ev0,aops,xstep,guardA,opA,tab,binA,binInt,arith,unA,pickA,convA,allocA,boxA,loadA,storeA,fieldAddrA,fieldA,indexAddrA,lenA,lenS,sliceA,boundA,makeSliceA,elemsA,appendA,buildA,fillA,buildSliceA,partsA,extractA,builtinA,minmaxA,AV.cells,AV.isAgg,allP,mkAgg,hget,hset,isRow,cellOk,setC,after,dstOk,St.put,St.get,lk,St.ev,cv,PV.one,Int.reduceToNat,entry,ent,Nat.reduceAdd,Nat.reduceLT,Nat.reduceBEq,Nat.reduceEqDiff,Nat.reduceLeDiff,Nat.reduceMul,Nat.reduceSub,Int.cast_ofNat_Int,decide_true,decide_false,reduceCtorEq,BEq.rfl,beq_self_eq_true,bne_self_eq_false,ite_true,ite_false,if_true,if_false,reduceIte]; refine fin_run trivial (hK _ ?_)<;>clear hK<;>clear K; repeat (first|refine qa ?_|refine qb ?_|refine qc ?_|refine qd ?_|refine qe ?_|refine qf ?_|refine qg rfl ?_|refine qh ?_|refine qi ?_|refine qj ?_|refine qk ?_|refine ql ?_|refine qm ?_)
 refine hk_cond rfl (fun hc=>?_) (fun hc=>?_)
 ·have:=of_decide_eq_true hc; omega
 ·repeat (first|refine qa ?_|refine qb ?_|refine qc ?_|refine qd ?_|refine qe ?_|refine qf ?_|refine qg rfl ?_|refine qh ?_|refine qi ?_|refine qj ?_|refine qk ?_|refine ql ?_|refine qm ?_)
  refine hk_region fun K hK=>runs_eval tab_ok ?_
  simp only [ev0,aops,xstep,guardA,opA,tab,binA,binInt,arith,unA,pickA,convA,allocA,boxA,loadA,storeA,fieldAddrA,fieldA,indexAddrA,lenA,lenS,sliceA,boundA,makeSliceA,elemsA,appendA,buildA,fillA,buildSliceA,partsA,extractA,builtinA,minmaxA,AV.cells,AV.isAgg,allP,mkAgg,hget,hset,isRow,cellOk,setC,after,dstOk,St.put,St.get,lk,St.ev,cv,PV.one,Int.reduceToNat,entry,ent,Nat.reduceAdd,Nat.reduceLT,Nat.reduceBEq,Nat.reduceEqDiff,Nat.reduceLeDiff,Nat.reduceMul,Nat.reduceSub,Int.cast_ofNat_Int,decide_true,decide_false,reduceCtorEq,BEq.rfl,beq_self_eq_true,bne_self_eq_false,ite_true,ite_false,if_true,if_false,reduceIte]
  refine fin_stop trivial ?_
  refine runs_op (capNil_does tab_ok rfl rfl rfl rfl) rfl (by simp only [dstOk,Nat.reduceLT]) (runs_eval tab_ok ?_)
  simp only [ev0,aops,xstep,guardA,opA,tab,binA,binInt,arith,unA,pickA,convA,allocA,boxA,loadA,storeA,fieldAddrA,fieldA,indexAddrA,lenA,lenS,sliceA,boundA,makeSliceA,elemsA,appendA,buildA,fillA,buildSliceA,partsA,extractA,builtinA,minmaxA,AV.cells,AV.isAgg,allP,mkAgg,hget,hset,isRow,cellOk,setC,after,dstOk,St.put,St.get,lk,St.ev,cv,PV.one,Int.reduceToNat,entry,ent,Nat.reduceAdd,Nat.reduceLT,Nat.reduceBEq,Nat.reduceEqDiff,Nat.reduceLeDiff,Nat.reduceMul,Nat.reduceSub,Int.cast_ofNat_Int,decide_true,decide_false,reduceCtorEq,BEq.rfl,beq_self_eq_true,bne_self_eq_false,ite_true,ite_false,if_true,if_false,reduceIte]
  refine fin_run ?_ (hK _ ?_)<;>clear hK<;>clear K
  ·(first|exact trivial|omega|(simp only [In64] at *; omega)|(rw [Bool.eq_iff_iff]; simp; done)|(rw [Bool.eq_iff_iff]; simp; omega)|(simp [In64] at *; omega)|(simp_all; done)|(simp_all [In64]<;>omega)|skip)
  repeat (first|refine qa ?_|refine qb ?_|refine qc ?_|refine qd ?_|refine qe ?_|refine qf ?_|refine qg rfl ?_|refine qh ?_|refine qi ?_|refine qj ?_|refine qk ?_|refine ql ?_|refine qm ?_)
  (refine hk_region fun K hK=>runs_eval tab_ok ?_); simp only [ev0,aops,xstep,guardA,opA,tab,binA,binInt,arith,unA,pickA,convA,allocA,boxA,loadA,storeA,fieldAddrA,fieldA,indexAddrA,lenA,lenS,sliceA,boundA,makeSliceA,elemsA,appendA,buildA,fillA,buildSliceA,partsA,extractA,builtinA,minmaxA,AV.cells,AV.isAgg,allP,mkAgg,hget,hset,isRow,cellOk,setC,after,dstOk,St.put,St.get,lk,St.ev,cv,PV.one,Int.reduceToNat,entry,ent,Nat.reduceAdd,Nat.reduceLT,Nat.reduceBEq,Nat.reduceEqDiff,Nat.reduceLeDiff,Nat.reduceMul,Nat.reduceSub,Int.cast_ofNat_Int,decide_true,decide_false,reduceCtorEq,BEq.rfl,beq_self_eq_true,bne_self_eq_false,ite_true,ite_false,if_true,if_false,reduceIte]; refine fin_run trivial (hK _ ?_)<;>clear hK<;>clear K; repeat (first|refine qa ?_|refine qb ?_|refine qc ?_|refine qd ?_|refine qe ?_|refine qf ?_|refine qg rfl ?_|refine qh ?_|refine qi ?_|refine qj ?_|refine qk ?_|refine ql ?_|refine qm ?_)
  refine hk_cond rfl (fun hc=>?_) (fun hc=>?_)
  ·have hc:0 < n:=by have:=of_decide_eq_true hc; omega
   repeat (first|refine qa ?_|refine qb ?_|refine qc ?_|refine qd ?_|refine qe ?_|refine qf ?_|refine qg rfl ?_|refine qh ?_|refine qi ?_|refine qj ?_|refine qk ?_|refine ql ?_|refine qm ?_)
   refine hk_region fun K hK=>runs_eval tab_ok ?_
   simp only [ev0,aops,xstep,guardA,opA,tab,binA,binInt,arith,unA,pickA,convA,allocA,boxA,loadA,storeA,fieldAddrA,fieldA,indexAddrA,lenA,lenS,sliceA,boundA,makeSliceA,elemsA,appendA,buildA,fillA,buildSliceA,partsA,extractA,builtinA,minmaxA,AV.cells,AV.isAgg,allP,mkAgg,hget,hset,isRow,cellOk,setC,after,dstOk,St.put,St.get,lk,St.ev,cv,PV.one,Int.reduceToNat,entry,ent,Nat.reduceAdd,Nat.reduceLT,Nat.reduceBEq,Nat.reduceEqDiff,Nat.reduceLeDiff,Nat.reduceMul,Nat.reduceSub,Int.cast_ofNat_Int,decide_true,decide_false,reduceCtorEq,BEq.rfl,beq_self_eq_true,bne_self_eq_false,ite_true,ite_false,if_true,if_false,reduceIte]
   refine fin_stop trivial ?_
   refine runs_op (capNil_does tab_ok rfl rfl rfl rfl) rfl (by simp only [dstOk,Nat.reduceLT]) (runs_eval tab_ok ?_)
   simp only [ev0,aops,xstep,guardA,opA,tab,binA,binInt,arith,unA,pickA,convA,allocA,boxA,loadA,storeA,fieldAddrA,fieldA,indexAddrA,lenA,lenS,sliceA,boundA,makeSliceA,elemsA,appendA,buildA,fillA,buildSliceA,partsA,extractA,builtinA,minmaxA,AV.cells,AV.isAgg,allP,mkAgg,hget,hset,isRow,cellOk,setC,after,dstOk,St.put,St.get,lk,St.ev,cv,PV.one,Int.reduceToNat,entry,ent,Nat.reduceAdd,Nat.reduceLT,Nat.reduceBEq,Nat.reduceEqDiff,Nat.reduceLeDiff,Nat.reduceMul,Nat.reduceSub,Int.cast_ofNat_Int,decide_true,decide_false,reduceCtorEq,BEq.rfl,beq_self_eq_true,bne_self_eq_false,ite_true,ite_false,if_true,if_false,reduceIte]
   refine fin_stop trivial ?_
   refine runs_op (sliceNil_does tab_ok rfl rfl rfl rfl rfl rfl) rfl (by simp only [dstOk,Nat.reduceLT]) (runs_eval tab_ok ?_)
   simp only [ev0,aops,xstep,guardA,opA,tab,binA,binInt,arith,unA,pickA,convA,allocA,boxA,loadA,storeA,fieldAddrA,fieldA,indexAddrA,lenA,lenS,sliceA,boundA,makeSliceA,elemsA,appendA,buildA,fillA,buildSliceA,partsA,extractA,builtinA,minmaxA,AV.cells,AV.isAgg,allP,mkAgg,hget,hset,isRow,cellOk,setC,after,dstOk,St.put,St.get,lk,St.ev,cv,PV.one,Int.reduceToNat,entry,ent,Nat.reduceAdd,Nat.reduceLT,Nat.reduceBEq,Nat.reduceEqDiff,Nat.reduceLeDiff,Nat.reduceMul,Nat.reduceSub,Int.cast_ofNat_Int,decide_true,decide_false,reduceCtorEq,BEq.rfl,beq_self_eq_true,bne_self_eq_false,ite_true,ite_false,if_true,if_false,reduceIte]
   refine fin_stop trivial ?_
   refine runs_op (appendZeros_does tab_ok rfl rfl rfl rfl rfl rfl rfl rfl rfl rfl hc (show n * 8≤140737488355328 by omega) (by omega)) rfl (by simp only [dstOk,Nat.reduceLT]) (runs_eval tab_ok ?_)
   simp only [ev0,aops,xstep,guardA,opA,tab,binA,binInt,arith,unA,pickA,convA,allocA,boxA,loadA,storeA,fieldAddrA,fieldA,indexAddrA,lenA,lenS,sliceA,boundA,makeSliceA,elemsA,appendA,buildA,fillA,buildSliceA,partsA,extractA,builtinA,minmaxA,AV.cells,AV.isAgg,allP,mkAgg,hget,hset,isRow,cellOk,setC,after,dstOk,St.put,St.get,lk,St.ev,cv,PV.one,Int.reduceToNat,entry,ent,Nat.reduceAdd,Nat.reduceLT,Nat.reduceBEq,Nat.reduceEqDiff,Nat.reduceLeDiff,Nat.reduceMul,Nat.reduceSub,Int.cast_ofNat_Int,decide_true,decide_false,reduceCtorEq,BEq.rfl,beq_self_eq_true,bne_self_eq_false,ite_true,ite_false,if_true,if_false,reduceIte]
   refine fin_run ?_ (hK _ ?_)<;>clear hK<;>clear K
   ·(first|exact trivial|omega|(simp only [In64] at *; omega)|(rw [Bool.eq_iff_iff]; simp; done)|(rw [Bool.eq_iff_iff]; simp; omega)|(simp [In64] at *; omega)|(simp_all; done)|(simp_all [In64]<;>omega)|skip)
   repeat (first|refine qa ?_|refine qb ?_|refine qc ?_|refine qd ?_|refine qe ?_|refine qf ?_|refine qg rfl ?_|refine qh ?_|refine qi ?_|refine qj ?_|refine qk ?_|refine ql ?_|refine qm ?_)
   (refine hk_region fun K hK=>runs_eval tab_ok ?_); simp only [ev0,aops,xstep,guardA,opA,tab,binA,binInt,arith,unA,pickA,convA,allocA,boxA,loadA,storeA,fieldAddrA,fieldA,indexAddrA,lenA,lenS,sliceA,boundA,makeSliceA,elemsA,appendA,buildA,fillA,buildSliceA,partsA,extractA,builtinA,minmaxA,AV.cells,AV.isAgg,allP,mkAgg,hget,hset,isRow,cellOk,setC,after,dstOk,St.put,St.get,lk,St.ev,cv,PV.one,Int.reduceToNat,entry,ent,Nat.reduceAdd,Nat.reduceLT,Nat.reduceBEq,Nat.reduceEqDiff,Nat.reduceLeDiff,Nat.reduceMul,Nat.reduceSub,Int.cast_ofNat_Int,decide_true,decide_false,reduceCtorEq,BEq.rfl,beq_self_eq_true,bne_self_eq_false,ite_true,ite_false,if_true,if_false,reduceIte]; refine fin_run trivial (hK _ ?_)<;>clear hK<;>clear K; repeat (first|refine qa ?_|refine qb ?_|refine qc ?_|refine qd ?_|refine qe ?_|refine qf ?_|refine qg rfl ?_|refine qh ?_|refine qi ?_|refine qj ?_|refine qk ?_|refine ql ?_|refine qm ?_)
   simp only [Try.results84,PostG,endG,rvsA,rvA,mkTup,ev0,aops,xstep,guardA,opA,tab,binA,binInt,arith,unA,pickA,convA,allocA,boxA,loadA,storeA,fieldAddrA,fieldA,indexAddrA,lenA,lenS,sliceA,boundA,makeSliceA,elemsA,appendA,buildA,fillA,buildSliceA,partsA,extractA,builtinA,minmaxA,AV.cells,AV.isAgg,allP,mkAgg,hget,hset,isRow,cellOk,setC,after,dstOk,St.put,St.get,lk,St.ev,cv,PV.one,Int.reduceToNat,entry,ent,Nat.reduceAdd,Nat.reduceLT,Nat.reduceBEq,Nat.reduceEqDiff,Nat.reduceLeDiff,Nat.reduceMul,Nat.reduceSub,Int.cast_ofNat_Int,decide_true,decide_false,reduceCtorEq,BEq.rfl,beq_self_eq_true,bne_self_eq_false,ite_true,ite_false,if_true,if_false,reduceIte]
   exact ⟨[0],rfl,rfl,by simp only [AV.p.injEq,AV.sl.injEq,AV.ptr.injEq,Blk.own.injEq,PV.int.injEq,PV.bool.injEq,PV.list.injEq,Nat.sub_zero,Int.natCast_add,List.length_append,take_take_len,take_app1,take_app2,Le,LeH,LeS,LeB,ren,ren1,scA,sc1,List.nodup_cons,List.nodup_nil,List.mem_cons,List.not_mem_nil,or_false,not_false_eq_true,ev0,aops,xstep,guardA,opA,tab,binA,binInt,arith,unA,pickA,convA,allocA,boxA,loadA,storeA,fieldAddrA,fieldA,indexAddrA,lenA,lenS,sliceA,boundA,makeSliceA,elemsA,appendA,buildA,fillA,buildSliceA,partsA,extractA,builtinA,minmaxA,AV.cells,AV.isAgg,allP,mkAgg,hget,hset,isRow,cellOk,setC,after,dstOk,St.put,St.get,lk,St.ev,cv,PV.one,Int.reduceToNat,entry,ent,Nat.reduceAdd,Nat.reduceLT,Nat.reduceBEq,Nat.reduceEqDiff,Nat.reduceLeDiff,Nat.reduceMul,Nat.reduceSub,Int.cast_ofNat_Int,decide_true,decide_false,reduceCtorEq,BEq.rfl,beq_self_eq_true,bne_self_eq_false,ite_true,ite_false,if_true,if_false,reduceIte]<;>trivial⟩
  ·have hc:n=0:=by have:=of_decide_eq_false hc; omega
   repeat (first|refine qa ?_|refine qb ?_|refine qc ?_|refine qd ?_|refine qe ?_|refine qf ?_|refine qg rfl ?_|refine qh ?_|refine qi ?_|refine qj ?_|refine qk ?_|refine ql ?_|refine qm ?_)
   refine hk_own0 0 rfl ?_
   (refine hk_region fun K hK=>runs_eval tab_ok ?_); simp only [ev0,aops,xstep,guardA,opA,tab,binA,binInt,arith,unA,pickA,convA,allocA,boxA,loadA,storeA,fieldAddrA,fieldA,indexAddrA,lenA,lenS,sliceA,boundA,makeSliceA,elemsA,appendA,buildA,fillA,buildSliceA,partsA,extractA,builtinA,minmaxA,AV.cells,AV.isAgg,allP,mkAgg,hget,hset,isRow,cellOk,setC,after,dstOk,St.put,St.get,lk,St.ev,cv,PV.one,Int.reduceToNat,entry,ent,Nat.reduceAdd,Nat.reduceLT,Nat.reduceBEq,Nat.reduceEqDiff,Nat.reduceLeDiff,Nat.reduceMul,Nat.reduceSub,Int.cast_ofNat_Int,decide_true,decide_false,reduceCtorEq,BEq.rfl,beq_self_eq_true,bne_self_eq_false,ite_true,ite_false,if_true,if_false,reduceIte]; refine fin_run trivial (hK _ ?_)<;>clear hK<;>clear K; repeat (first|refine qa ?_|refine qb ?_|refine qc ?_|refine qd ?_|refine qe ?_|refine qf ?_|refine qg rfl ?_|refine qh ?_|refine qi ?_|refine qj ?_|refine qk ?_|refine ql ?_|refine qm ?_)
   simp only [Try.results84,PostG,endG,rvsA,rvA,mkTup,ev0,aops,xstep,guardA,opA,tab,binA,binInt,arith,unA,pickA,convA,allocA,boxA,loadA,storeA,fieldAddrA,fieldA,indexAddrA,lenA,lenS,sliceA,boundA,makeSliceA,elemsA,appendA,buildA,fillA,buildSliceA,partsA,extractA,builtinA,minmaxA,AV.cells,AV.isAgg,allP,mkAgg,hget,hset,isRow,cellOk,setC,after,dstOk,St.put,St.get,lk,St.ev,cv,PV.one,Int.reduceToNat,entry,ent,Nat.reduceAdd,Nat.reduceLT,Nat.reduceBEq,Nat.reduceEqDiff,Nat.reduceLeDiff,Nat.reduceMul,Nat.reduceSub,Int.cast_ofNat_Int,decide_true,decide_false,reduceCtorEq,BEq.rfl,beq_self_eq_true,bne_self_eq_false,ite_true,ite_false,if_true,if_false,reduceIte]
   exact ⟨[0],rfl,rfl,by simp only [AV.p.injEq,AV.sl.injEq,AV.ptr.injEq,Blk.own.injEq,PV.int.injEq,PV.bool.injEq,PV.list.injEq,Nat.sub_zero,Int.natCast_add,List.length_append,take_take_len,take_app1,take_app2,Le,LeH,LeS,LeB,ren,ren1,scA,sc1,List.nodup_cons,List.nodup_nil,List.mem_cons,List.not_mem_nil,or_false,not_false_eq_true,ev0,aops,xstep,guardA,opA,tab,binA,binInt,arith,unA,pickA,convA,allocA,boxA,loadA,storeA,fieldAddrA,fieldA,indexAddrA,lenA,lenS,sliceA,boundA,makeSliceA,elemsA,appendA,buildA,fillA,buildSliceA,partsA,extractA,builtinA,minmaxA,AV.cells,AV.isAgg,allP,mkAgg,hget,hset,isRow,cellOk,setC,after,dstOk,St.put,St.get,lk,St.ev,cv,PV.one,Int.reduceToNat,entry,ent,Nat.reduceAdd,Nat.reduceLT,Nat.reduceBEq,Nat.reduceEqDiff,Nat.reduceLeDiff,Nat.reduceMul,Nat.reduceSub,Int.cast_ofNat_Int,decide_true,decide_false,reduceCtorEq,BEq.rfl,beq_self_eq_true,bne_self_eq_false,ite_true,ite_false,if_true,if_false,reduceIte]<;>trivial⟩

def tot (ls:List (List Int)):Nat:=ls.flatten.length

theorem tot_succ {ls:List (List Int)} {i:Nat} (h:i < ls.length):(ls.take (i + 1)).flatten=(ls.take i).flatten++ls.getD i []:=by
 rw [List.take_succ_eq_append_getElem h]
 simp only [List.flatten_append,List.flatten_cons,List.flatten_nil,List.append_nil,List.getD,List.getElem?_eq_getElem h,Option.getD_some]

theorem concat_c (ls:List (List Int)) (hl:ls.flatten.length≤1000000000) (hk:ls.length≤1000000000):FnC Try.prog 67 [.nn (ll ls)] (.list (il ls.flatten)):=by
 have hle:∀ i,(ls.take i).flatten.length≤ls.flatten.length:=by
  intro i
  have:=congrArg List.length (congrArg List.flatten (List.take_append_drop i ls))
  simp only [List.flatten_append,List.length_append] at this
  omega
 refine fnc_of tab_ok Try.func67 rfl (by kernel_rfl) (by rw [Try.ntmps67]; exact Nat.le_add_left 1 _) ?_; rw [Try.ntmps67]; repeat (first|refine qa ?_|refine qb ?_|refine qc ?_|refine qd ?_|refine qe ?_|refine qf ?_|refine qg rfl ?_|refine qh ?_|refine qi ?_|refine qj ?_|refine qk ?_|refine ql ?_|refine qm ?_)
 (refine hk_region fun K hK=>runs_eval tab_ok ?_); simp only [ev0,aops,xstep,guardA,opA,tab,binA,binInt,arith,unA,pickA,convA,allocA,boxA,loadA,storeA,fieldAddrA,fieldA,indexAddrA,lenA,lenS,sliceA,boundA,makeSliceA,elemsA,appendA,buildA,fillA,buildSliceA,partsA,extractA,builtinA,minmaxA,AV.cells,AV.isAgg,allP,mkAgg,hget,hset,isRow,cellOk,setC,after,dstOk,St.put,St.get,lk,St.ev,cv,PV.one,Int.reduceToNat,entry,ent,Nat.reduceAdd,Nat.reduceLT,Nat.reduceBEq,Nat.reduceEqDiff,Nat.reduceLeDiff,Nat.reduceMul,Nat.reduceSub,Int.cast_ofNat_Int,decide_true,decide_false,reduceCtorEq,BEq.rfl,beq_self_eq_true,bne_self_eq_false,ite_true,ite_false,if_true,if_false,reduceIte]; refine fin_run trivial (hK _ ?_)<;>clear hK<;>clear K; repeat (first|refine qa ?_|refine qb ?_|refine qc ?_|refine qd ?_|refine qe ?_|refine qf ?_|refine qg rfl ?_|refine qh ?_|refine qi ?_|refine qj ?_|refine qk ?_|refine ql ?_|refine qm ?_)
 (refine hk_region fun K hK=>runs_eval tab_ok ?_); simp only [ev0,aops,xstep,guardA,opA,tab,binA,binInt,arith,unA,pickA,convA,allocA,boxA,loadA,storeA,fieldAddrA,fieldA,indexAddrA,lenA,lenS,sliceA,boundA,makeSliceA,elemsA,appendA,buildA,fillA,buildSliceA,partsA,extractA,builtinA,minmaxA,AV.cells,AV.isAgg,allP,mkAgg,hget,hset,isRow,cellOk,setC,after,dstOk,St.put,St.get,lk,St.ev,cv,PV.one,Int.reduceToNat,entry,ent,Nat.reduceAdd,Nat.reduceLT,Nat.reduceBEq,Nat.reduceEqDiff,Nat.reduceLeDiff,Nat.reduceMul,Nat.reduceSub,Int.cast_ofNat_Int,decide_true,decide_false,reduceCtorEq,BEq.rfl,beq_self_eq_true,bne_self_eq_false,ite_true,ite_false,if_true,if_false,reduceIte]; refine fin_run trivial (hK _ ?_)<;>clear hK<;>clear K; repeat (first|refine qa ?_|refine qb ?_|refine qc ?_|refine qd ?_|refine qe ?_|refine qf ?_|refine qg rfl ?_|refine qh ?_|refine qi ?_|refine qj ?_|refine qk ?_|refine ql ?_|refine qm ?_)
 (refine hk_region fun K hK=>runs_eval tab_ok ?_); simp only [ev0,aops,xstep,guardA,opA,tab,binA,binInt,arith,unA,pickA,convA,allocA,boxA,loadA,storeA,fieldAddrA,fieldA,indexAddrA,lenA,lenS,sliceA,boundA,makeSliceA,elemsA,appendA,buildA,fillA,buildSliceA,partsA,extractA,builtinA,minmaxA,AV.cells,AV.isAgg,allP,mkAgg,hget,hset,isRow,cellOk,setC,after,dstOk,St.put,St.get,lk,St.ev,cv,PV.one,Int.reduceToNat,entry,ent,Nat.reduceAdd,Nat.reduceLT,Nat.reduceBEq,Nat.reduceEqDiff,Nat.reduceLeDiff,Nat.reduceMul,Nat.reduceSub,Int.cast_ofNat_Int,decide_true,decide_false,reduceCtorEq,BEq.rfl,beq_self_eq_true,bne_self_eq_false,ite_true,ite_false,if_true,if_false,reduceIte]; refine fin_run trivial (hK _ ?_)<;>clear hK<;>clear K; repeat (first|refine qa ?_|refine qb ?_|refine qc ?_|refine qd ?_|refine qe ?_|refine qf ?_|refine qg rfl ?_|refine qh ?_|refine qi ?_|refine qj ?_|refine qk ?_|refine ql ?_|refine qm ?_)
 refine hk_loop (ι:=Nat) (fun i=>⟨36,[(0,.p (.nn (ll ls))),(3,.p (.int .i64 (ls.take i).flatten.length)),(9,.p (.nn (ll ls))),(10,.p (.int .i64 ls.length)),(11,.p (.int .i64 i))],[]⟩) (fun i=>i≤ls.length) (fun i=>ls.length - i) 0 (Nat.zero_le _) [] (by simp only [AV.p.injEq,AV.sl.injEq,AV.ptr.injEq,Blk.own.injEq,PV.int.injEq,PV.bool.injEq,PV.list.injEq,Nat.sub_zero,Int.natCast_add,List.length_append,take_take_len,take_app1,take_app2,Le,LeH,LeS,LeB,ren,ren1,scA,sc1,List.nodup_cons,List.nodup_nil,List.mem_cons,List.not_mem_nil,or_false,not_false_eq_true,ev0,aops,xstep,guardA,opA,tab,binA,binInt,arith,unA,pickA,convA,allocA,boxA,loadA,storeA,fieldAddrA,fieldA,indexAddrA,lenA,lenS,sliceA,boundA,makeSliceA,elemsA,appendA,buildA,fillA,buildSliceA,partsA,extractA,builtinA,minmaxA,AV.cells,AV.isAgg,allP,mkAgg,hget,hset,isRow,cellOk,setC,after,dstOk,St.put,St.get,lk,St.ev,cv,PV.one,Int.reduceToNat,entry,ent,Nat.reduceAdd,Nat.reduceLT,Nat.reduceBEq,Nat.reduceEqDiff,Nat.reduceLeDiff,Nat.reduceMul,Nat.reduceSub,Int.cast_ofNat_Int,decide_true,decide_false,reduceCtorEq,BEq.rfl,beq_self_eq_true,bne_self_eq_false,ite_true,ite_false,if_true,if_false,reduceIte]<;>trivial) fun i hi=>?_
 repeat (first|refine qa ?_|refine qb ?_|refine qc ?_|refine qd ?_|refine qe ?_|refine qf ?_|refine qg rfl ?_|refine qh ?_|refine qi ?_|refine qj ?_|refine qk ?_|refine ql ?_|refine qm ?_)
 (refine hk_region fun K hK=>runs_eval tab_ok ?_); simp only [ev0,aops,xstep,guardA,opA,tab,binA,binInt,arith,unA,pickA,convA,allocA,boxA,loadA,storeA,fieldAddrA,fieldA,indexAddrA,lenA,lenS,sliceA,boundA,makeSliceA,elemsA,appendA,buildA,fillA,buildSliceA,partsA,extractA,builtinA,minmaxA,AV.cells,AV.isAgg,allP,mkAgg,hget,hset,isRow,cellOk,setC,after,dstOk,St.put,St.get,lk,St.ev,cv,PV.one,Int.reduceToNat,entry,ent,Nat.reduceAdd,Nat.reduceLT,Nat.reduceBEq,Nat.reduceEqDiff,Nat.reduceLeDiff,Nat.reduceMul,Nat.reduceSub,Int.cast_ofNat_Int,decide_true,decide_false,reduceCtorEq,BEq.rfl,beq_self_eq_true,bne_self_eq_false,ite_true,ite_false,if_true,if_false,reduceIte]; refine fin_run trivial (hK _ ?_)<;>clear hK<;>clear K; repeat (first|refine qa ?_|refine qb ?_|refine qc ?_|refine qd ?_|refine qe ?_|refine qf ?_|refine qg rfl ?_|refine qh ?_|refine qi ?_|refine qj ?_|refine qk ?_|refine ql ?_|refine qm ?_)
 refine hk_cond rfl (fun hlt=>?_) (fun hlt=>?_)
 ·have hlt:i < ls.length:=by have:=of_decide_eq_true hlt; omega
  have hs:=tot_succ hlt
  have h1:=hle i
  have h2:=hle (i + 1)
  repeat (first|refine qa ?_|refine qb ?_|refine qc ?_|refine qd ?_|refine qe ?_|refine qf ?_|refine qg rfl ?_|refine qh ?_|refine qi ?_|refine qj ?_|refine qk ?_|refine ql ?_|refine qm ?_)
  refine hk_region fun K hK=>runs_eval tab_ok ?_
  simp only [ev0,aops,xstep,guardA,opA,tab,binA,binInt,arith,unA,pickA,convA,allocA,boxA,loadA,storeA,fieldAddrA,fieldA,indexAddrA,lenA,lenS,sliceA,boundA,makeSliceA,elemsA,appendA,buildA,fillA,buildSliceA,partsA,extractA,builtinA,minmaxA,AV.cells,AV.isAgg,allP,mkAgg,hget,hset,isRow,cellOk,setC,after,dstOk,St.put,St.get,lk,St.ev,cv,PV.one,Int.reduceToNat,entry,ent,Nat.reduceAdd,Nat.reduceLT,Nat.reduceBEq,Nat.reduceEqDiff,Nat.reduceLeDiff,Nat.reduceMul,Nat.reduceSub,Int.cast_ofNat_Int,decide_true,decide_false,reduceCtorEq,BEq.rfl,beq_self_eq_true,bne_self_eq_false,ite_true,ite_false,if_true,if_false,reduceIte,ll_get hlt]
  refine fin_run ?_ (hK _ ?_)<;>clear hK<;>clear K
  ·omega
  repeat (first|refine qa ?_|refine qb ?_|refine qc ?_|refine qd ?_|refine qe ?_|refine qf ?_|refine qg rfl ?_|refine qh ?_|refine qi ?_|refine qj ?_|refine qk ?_|refine ql ?_|refine qm ?_)
  refine hk_region fun K hK=>runs_eval tab_ok ?_
  simp only [ev0,aops,xstep,guardA,opA,tab,binA,binInt,arith,unA,pickA,convA,allocA,boxA,loadA,storeA,fieldAddrA,fieldA,indexAddrA,lenA,lenS,sliceA,boundA,makeSliceA,elemsA,appendA,buildA,fillA,buildSliceA,partsA,extractA,builtinA,minmaxA,AV.cells,AV.isAgg,allP,mkAgg,hget,hset,isRow,cellOk,setC,after,dstOk,St.put,St.get,lk,St.ev,cv,PV.one,Int.reduceToNat,entry,ent,Nat.reduceAdd,Nat.reduceLT,Nat.reduceBEq,Nat.reduceEqDiff,Nat.reduceLeDiff,Nat.reduceMul,Nat.reduceSub,Int.cast_ofNat_Int,decide_true,decide_false,reduceCtorEq,BEq.rfl,beq_self_eq_true,bne_self_eq_false,ite_true,ite_false,if_true,if_false,reduceIte]
  refine fin_run ?_ (hK _ ?_)<;>clear hK<;>clear K
  ·rw [hs,List.length_append] at h2
   simp only [In64]; omega
  repeat (first|refine qa ?_|refine qb ?_|refine qc ?_|refine qd ?_|refine qe ?_|refine qf ?_|refine qg rfl ?_|refine qh ?_|refine qi ?_|refine qj ?_|refine qk ?_|refine ql ?_|refine qm ?_)
  (refine hk_region fun K hK=>runs_eval tab_ok ?_); simp only [ev0,aops,xstep,guardA,opA,tab,binA,binInt,arith,unA,pickA,convA,allocA,boxA,loadA,storeA,fieldAddrA,fieldA,indexAddrA,lenA,lenS,sliceA,boundA,makeSliceA,elemsA,appendA,buildA,fillA,buildSliceA,partsA,extractA,builtinA,minmaxA,AV.cells,AV.isAgg,allP,mkAgg,hget,hset,isRow,cellOk,setC,after,dstOk,St.put,St.get,lk,St.ev,cv,PV.one,Int.reduceToNat,entry,ent,Nat.reduceAdd,Nat.reduceLT,Nat.reduceBEq,Nat.reduceEqDiff,Nat.reduceLeDiff,Nat.reduceMul,Nat.reduceSub,Int.cast_ofNat_Int,decide_true,decide_false,reduceCtorEq,BEq.rfl,beq_self_eq_true,bne_self_eq_false,ite_true,ite_false,if_true,if_false,reduceIte]; refine fin_run trivial (hK _ ?_)<;>clear hK<;>clear K; repeat (first|refine qa ?_|refine qb ?_|refine qc ?_|refine qd ?_|refine qe ?_|refine qf ?_|refine qg rfl ?_|refine qh ?_|refine qi ?_|refine qj ?_|refine qk ?_|refine ql ?_|refine qm ?_)
  refine hk_cond rfl (fun hc=>?_) (fun hc=>?_)
  ·have:=of_decide_eq_true hc; omega
  ·repeat (first|refine qa ?_|refine qb ?_|refine qc ?_|refine qd ?_|refine qe ?_|refine qf ?_|refine qg rfl ?_|refine qh ?_|refine qi ?_|refine qj ?_|refine qk ?_|refine ql ?_|refine qm ?_)
   refine hk_region fun K hK=>runs_eval tab_ok ?_
   simp only [ev0,aops,xstep,guardA,opA,tab,binA,binInt,arith,unA,pickA,convA,allocA,boxA,loadA,storeA,fieldAddrA,fieldA,indexAddrA,lenA,lenS,sliceA,boundA,makeSliceA,elemsA,appendA,buildA,fillA,buildSliceA,partsA,extractA,builtinA,minmaxA,AV.cells,AV.isAgg,allP,mkAgg,hget,hset,isRow,cellOk,setC,after,dstOk,St.put,St.get,lk,St.ev,cv,PV.one,Int.reduceToNat,entry,ent,Nat.reduceAdd,Nat.reduceLT,Nat.reduceBEq,Nat.reduceEqDiff,Nat.reduceLeDiff,Nat.reduceMul,Nat.reduceSub,Int.cast_ofNat_Int,decide_true,decide_false,reduceCtorEq,BEq.rfl,beq_self_eq_true,bne_self_eq_false,ite_true,ite_false,if_true,if_false,reduceIte]
   refine fin_run ?_ (hK _ ?_)<;>clear hK<;>clear K
   ·simp only [In64]; omega
   repeat (first|refine qa ?_|refine qb ?_|refine qc ?_|refine qd ?_|refine qe ?_|refine qf ?_|refine qg rfl ?_|refine qh ?_|refine qi ?_|refine qj ?_|refine qk ?_|refine ql ?_|refine qm ?_)
   refine ⟨i + 1,[],by omega,by omega,?_⟩
   rw [hs]
   simp only [AV.p.injEq,AV.sl.injEq,AV.ptr.injEq,Blk.own.injEq,PV.int.injEq,PV.bool.injEq,PV.list.injEq,Nat.sub_zero,Int.natCast_add,List.length_append,take_take_len,take_app1,take_app2,Le,LeH,LeS,LeB,ren,ren1,scA,sc1,List.nodup_cons,List.nodup_nil,List.mem_cons,List.not_mem_nil,or_false,not_false_eq_true,ev0,aops,xstep,guardA,opA,tab,binA,binInt,arith,unA,pickA,convA,allocA,boxA,loadA,storeA,fieldAddrA,fieldA,indexAddrA,lenA,lenS,sliceA,boundA,makeSliceA,elemsA,appendA,buildA,fillA,buildSliceA,partsA,extractA,builtinA,minmaxA,AV.cells,AV.isAgg,allP,mkAgg,hget,hset,isRow,cellOk,setC,after,dstOk,St.put,St.get,lk,St.ev,cv,PV.one,Int.reduceToNat,entry,ent,Nat.reduceAdd,Nat.reduceLT,Nat.reduceBEq,Nat.reduceEqDiff,Nat.reduceLeDiff,Nat.reduceMul,Nat.reduceSub,Int.cast_ofNat_Int,decide_true,decide_false,reduceCtorEq,BEq.rfl,beq_self_eq_true,bne_self_eq_false,ite_true,ite_false,if_true,if_false,reduceIte]<;>(first|exact trivial|omega|(simp only [In64] at *; omega)|(rw [Bool.eq_iff_iff]; simp; done)|(rw [Bool.eq_iff_iff]; simp; omega)|(simp [In64] at *; omega)|(simp_all; done)|(simp_all [In64]<;>omega)|skip)
 ·repeat (first|refine qa ?_|refine qb ?_|refine qc ?_|refine qd ?_|refine qe ?_|refine qf ?_|refine qg rfl ?_|refine qh ?_|refine qi ?_|refine qj ?_|refine qk ?_|refine ql ?_|refine qm ?_)
  have hii:i=ls.length:=by have:=of_decide_eq_false hlt; omega
  subst hii
  rw [List.take_length]
  refine hk_region fun K hK=>runs_eval tab_ok ?_
  simp only [ev0,aops,xstep,guardA,opA,tab,binA,binInt,arith,unA,pickA,convA,allocA,boxA,loadA,storeA,fieldAddrA,fieldA,indexAddrA,lenA,lenS,sliceA,boundA,makeSliceA,elemsA,appendA,buildA,fillA,buildSliceA,partsA,extractA,builtinA,minmaxA,AV.cells,AV.isAgg,allP,mkAgg,hget,hset,isRow,cellOk,setC,after,dstOk,St.put,St.get,lk,St.ev,cv,PV.one,Int.reduceToNat,entry,ent,Nat.reduceAdd,Nat.reduceLT,Nat.reduceBEq,Nat.reduceEqDiff,Nat.reduceLeDiff,Nat.reduceMul,Nat.reduceSub,Int.cast_ofNat_Int,decide_true,decide_false,reduceCtorEq,BEq.rfl,beq_self_eq_true,bne_self_eq_false,ite_true,ite_false,if_true,if_false,reduceIte]
  refine fin_stop trivial (runs_callG (grow_c _ hl) rfl rfl rfl (by simp only [dstOk,Nat.reduceLT]) (by repeat (first|exact trivial|constructor)) (runs_eval tab_ok ?_))
  simp only [shf,List.range',Blk.ren,ren,ren1,ev0,aops,xstep,guardA,opA,tab,binA,binInt,arith,unA,pickA,convA,allocA,boxA,loadA,storeA,fieldAddrA,fieldA,indexAddrA,lenA,lenS,sliceA,boundA,makeSliceA,elemsA,appendA,buildA,fillA,buildSliceA,partsA,extractA,builtinA,minmaxA,AV.cells,AV.isAgg,allP,mkAgg,hget,hset,isRow,cellOk,setC,after,dstOk,St.put,St.get,lk,St.ev,cv,PV.one,Int.reduceToNat,entry,ent,Nat.reduceAdd,Nat.reduceLT,Nat.reduceBEq,Nat.reduceEqDiff,Nat.reduceLeDiff,Nat.reduceMul,Nat.reduceSub,Int.cast_ofNat_Int,decide_true,decide_false,reduceCtorEq,BEq.rfl,beq_self_eq_true,bne_self_eq_false,ite_true,ite_false,if_true,if_false,reduceIte]
  refine fin_run trivial (hK _ ?_)<;>clear hK<;>clear K
  repeat (first|refine qa ?_|refine qb ?_|refine qc ?_|refine qd ?_|refine qe ?_|refine qf ?_|refine qg rfl ?_|refine qh ?_|refine qi ?_|refine qj ?_|refine qk ?_|refine ql ?_|refine qm ?_)
  (refine hk_region fun K hK=>runs_eval tab_ok ?_); simp only [ev0,aops,xstep,guardA,opA,tab,binA,binInt,arith,unA,pickA,convA,allocA,boxA,loadA,storeA,fieldAddrA,fieldA,indexAddrA,lenA,lenS,sliceA,boundA,makeSliceA,elemsA,appendA,buildA,fillA,buildSliceA,partsA,extractA,builtinA,minmaxA,AV.cells,AV.isAgg,allP,mkAgg,hget,hset,isRow,cellOk,setC,after,dstOk,St.put,St.get,lk,St.ev,cv,PV.one,Int.reduceToNat,entry,ent,Nat.reduceAdd,Nat.reduceLT,Nat.reduceBEq,Nat.reduceEqDiff,Nat.reduceLeDiff,Nat.reduceMul,Nat.reduceSub,Int.cast_ofNat_Int,decide_true,decide_false,reduceCtorEq,BEq.rfl,beq_self_eq_true,bne_self_eq_false,ite_true,ite_false,if_true,if_false,reduceIte]; refine fin_run trivial (hK _ ?_)<;>clear hK<;>clear K; repeat (first|refine qa ?_|refine qb ?_|refine qc ?_|refine qd ?_|refine qe ?_|refine qf ?_|refine qg rfl ?_|refine qh ?_|refine qi ?_|refine qj ?_|refine qk ?_|refine ql ?_|refine qm ?_)
  refine hk_loop (ι:=Nat) (fun i=>⟨36,[(6,.sl 0 0 (ls.take i).flatten.length),(25,.p (.nn (ll ls))),(26,.p (.int .i64 ls.length)),(27,.p (.int .i64 i))],[.own (ol (ls.take i).flatten)]⟩) (fun i=>i≤ls.length) (fun i=>ls.length - i) 0 (Nat.zero_le _) [0] (by simp only [AV.p.injEq,AV.sl.injEq,AV.ptr.injEq,Blk.own.injEq,PV.int.injEq,PV.bool.injEq,PV.list.injEq,Nat.sub_zero,Int.natCast_add,List.length_append,take_take_len,take_app1,take_app2,Le,LeH,LeS,LeB,ren,ren1,scA,sc1,List.nodup_cons,List.nodup_nil,List.mem_cons,List.not_mem_nil,or_false,not_false_eq_true,ev0,aops,xstep,guardA,opA,tab,binA,binInt,arith,unA,pickA,convA,allocA,boxA,loadA,storeA,fieldAddrA,fieldA,indexAddrA,lenA,lenS,sliceA,boundA,makeSliceA,elemsA,appendA,buildA,fillA,buildSliceA,partsA,extractA,builtinA,minmaxA,AV.cells,AV.isAgg,allP,mkAgg,hget,hset,isRow,cellOk,setC,after,dstOk,St.put,St.get,lk,St.ev,cv,PV.one,Int.reduceToNat,entry,ent,Nat.reduceAdd,Nat.reduceLT,Nat.reduceBEq,Nat.reduceEqDiff,Nat.reduceLeDiff,Nat.reduceMul,Nat.reduceSub,Int.cast_ofNat_Int,decide_true,decide_false,reduceCtorEq,BEq.rfl,beq_self_eq_true,bne_self_eq_false,ite_true,ite_false,if_true,if_false,reduceIte]<;>simp [ol_nil]) fun i hi=>?_
  repeat (first|refine qa ?_|refine qb ?_|refine qc ?_|refine qd ?_|refine qe ?_|refine qf ?_|refine qg rfl ?_|refine qh ?_|refine qi ?_|refine qj ?_|refine qk ?_|refine ql ?_|refine qm ?_)
  (refine hk_region fun K hK=>runs_eval tab_ok ?_); simp only [ev0,aops,xstep,guardA,opA,tab,binA,binInt,arith,unA,pickA,convA,allocA,boxA,loadA,storeA,fieldAddrA,fieldA,indexAddrA,lenA,lenS,sliceA,boundA,makeSliceA,elemsA,appendA,buildA,fillA,buildSliceA,partsA,extractA,builtinA,minmaxA,AV.cells,AV.isAgg,allP,mkAgg,hget,hset,isRow,cellOk,setC,after,dstOk,St.put,St.get,lk,St.ev,cv,PV.one,Int.reduceToNat,entry,ent,Nat.reduceAdd,Nat.reduceLT,Nat.reduceBEq,Nat.reduceEqDiff,Nat.reduceLeDiff,Nat.reduceMul,Nat.reduceSub,Int.cast_ofNat_Int,decide_true,decide_false,reduceCtorEq,BEq.rfl,beq_self_eq_true,bne_self_eq_false,ite_true,ite_false,if_true,if_false,reduceIte]; refine fin_run trivial (hK _ ?_)<;>clear hK<;>clear K; repeat (first|refine qa ?_|refine qb ?_|refine qc ?_|refine qd ?_|refine qe ?_|refine qf ?_|refine qg rfl ?_|refine qh ?_|refine qi ?_|refine qj ?_|refine qk ?_|refine ql ?_|refine qm ?_)
  refine hk_cond rfl (fun hlt=>?_) (fun hlt=>?_)
  ·have hlt:i < ls.length:=by have:=of_decide_eq_true hlt; omega
   have hs:=tot_succ hlt
   have h1:=hle i
   have h2:=hle (i + 1)
   rw [hs,List.length_append] at h2
   repeat (first|refine qa ?_|refine qb ?_|refine qc ?_|refine qd ?_|refine qe ?_|refine qf ?_|refine qg rfl ?_|refine qh ?_|refine qi ?_|refine qj ?_|refine qk ?_|refine ql ?_|refine qm ?_)
   refine hk_region fun K hK=>runs_eval tab_ok ?_
   simp only [ev0,aops,xstep,guardA,opA,tab,binA,binInt,arith,unA,pickA,convA,allocA,boxA,loadA,storeA,fieldAddrA,fieldA,indexAddrA,lenA,lenS,sliceA,boundA,makeSliceA,elemsA,appendA,buildA,fillA,buildSliceA,partsA,extractA,builtinA,minmaxA,AV.cells,AV.isAgg,allP,mkAgg,hget,hset,isRow,cellOk,setC,after,dstOk,St.put,St.get,lk,St.ev,cv,PV.one,Int.reduceToNat,entry,ent,Nat.reduceAdd,Nat.reduceLT,Nat.reduceBEq,Nat.reduceEqDiff,Nat.reduceLeDiff,Nat.reduceMul,Nat.reduceSub,Int.cast_ofNat_Int,decide_true,decide_false,reduceCtorEq,BEq.rfl,beq_self_eq_true,bne_self_eq_false,ite_true,ite_false,if_true,if_false,reduceIte,ll_get hlt]
   refine fin_run ?_ (hK _ ?_)<;>clear hK<;>clear K
   ·omega
   repeat (first|refine qa ?_|refine qb ?_|refine qc ?_|refine qd ?_|refine qe ?_|refine qf ?_|refine qg rfl ?_|refine qh ?_|refine qi ?_|refine qj ?_|refine qk ?_|refine ql ?_|refine qm ?_)
   refine hk_region fun K hK=>runs_eval tab_ok ?_
   simp only [ev0,aops,xstep,guardA,opA,tab,binA,binInt,arith,unA,pickA,convA,allocA,boxA,loadA,storeA,fieldAddrA,fieldA,indexAddrA,lenA,lenS,sliceA,boundA,makeSliceA,elemsA,appendA,buildA,fillA,buildSliceA,partsA,extractA,builtinA,minmaxA,AV.cells,AV.isAgg,allP,mkAgg,hget,hset,isRow,cellOk,setC,after,dstOk,St.put,St.get,lk,St.ev,cv,PV.one,Int.reduceToNat,entry,ent,Nat.reduceAdd,Nat.reduceLT,Nat.reduceBEq,Nat.reduceEqDiff,Nat.reduceLeDiff,Nat.reduceMul,Nat.reduceSub,Int.cast_ofNat_Int,decide_true,decide_false,reduceCtorEq,BEq.rfl,beq_self_eq_true,bne_self_eq_false,ite_true,ite_false,if_true,if_false,reduceIte]
   refine fin_run ?_ (hK _ ?_)<;>clear hK<;>clear K
   ·omega
   repeat (first|refine qa ?_|refine qb ?_|refine qc ?_|refine qd ?_|refine qe ?_|refine qf ?_|refine qg rfl ?_|refine qh ?_|refine qi ?_|refine qj ?_|refine qk ?_|refine ql ?_|refine qm ?_)
   refine hk_region fun K hK=>runs_eval tab_ok ?_
   simp only [ev0,aops,xstep,guardA,opA,tab,binA,binInt,arith,unA,pickA,convA,allocA,boxA,loadA,storeA,fieldAddrA,fieldA,indexAddrA,lenA,lenS,sliceA,boundA,makeSliceA,elemsA,appendA,buildA,fillA,buildSliceA,partsA,extractA,builtinA,minmaxA,AV.cells,AV.isAgg,allP,mkAgg,hget,hset,isRow,cellOk,setC,after,dstOk,St.put,St.get,lk,St.ev,cv,PV.one,Int.reduceToNat,entry,ent,Nat.reduceAdd,Nat.reduceLT,Nat.reduceBEq,Nat.reduceEqDiff,Nat.reduceLeDiff,Nat.reduceMul,Nat.reduceSub,Int.cast_ofNat_Int,decide_true,decide_false,reduceCtorEq,BEq.rfl,beq_self_eq_true,bne_self_eq_false,ite_true,ite_false,if_true,if_false,reduceIte]
   refine fin_run ?_ (hK _ ?_)<;>clear hK<;>clear K
   ·simp only [In64]; omega
   repeat (first|refine qa ?_|refine qb ?_|refine qc ?_|refine qd ?_|refine qe ?_|refine qf ?_|refine qg rfl ?_|refine qh ?_|refine qi ?_|refine qj ?_|refine qk ?_|refine ql ?_|refine qm ?_)
   refine ⟨i + 1,[1],by omega,by omega,?_⟩
   rw [hs]
   simp only [AV.p.injEq,AV.sl.injEq,AV.ptr.injEq,Blk.own.injEq,PV.int.injEq,PV.bool.injEq,PV.list.injEq,Nat.sub_zero,Int.natCast_add,List.length_append,take_take_len,take_app1,take_app2,Le,LeH,LeS,LeB,ren,ren1,scA,sc1,List.nodup_cons,List.nodup_nil,List.mem_cons,List.not_mem_nil,or_false,not_false_eq_true,ev0,aops,xstep,guardA,opA,tab,binA,binInt,arith,unA,pickA,convA,allocA,boxA,loadA,storeA,fieldAddrA,fieldA,indexAddrA,lenA,lenS,sliceA,boundA,makeSliceA,elemsA,appendA,buildA,fillA,buildSliceA,partsA,extractA,builtinA,minmaxA,AV.cells,AV.isAgg,allP,mkAgg,hget,hset,isRow,cellOk,setC,after,dstOk,St.put,St.get,lk,St.ev,cv,PV.one,Int.reduceToNat,entry,ent,Nat.reduceAdd,Nat.reduceLT,Nat.reduceBEq,Nat.reduceEqDiff,Nat.reduceLeDiff,Nat.reduceMul,Nat.reduceSub,Int.cast_ofNat_Int,decide_true,decide_false,reduceCtorEq,BEq.rfl,beq_self_eq_true,bne_self_eq_false,ite_true,ite_false,if_true,if_false,reduceIte]<;>(first|exact trivial|omega|(simp only [In64] at *; omega)|(rw [Bool.eq_iff_iff]; simp; done)|(rw [Bool.eq_iff_iff]; simp; omega)|(simp [In64] at *; omega)|(simp_all; done)|(simp_all [In64]<;>omega)|skip)
  ·repeat (first|refine qa ?_|refine qb ?_|refine qc ?_|refine qd ?_|refine qe ?_|refine qf ?_|refine qg rfl ?_|refine qh ?_|refine qi ?_|refine qj ?_|refine qk ?_|refine ql ?_|refine qm ?_)
   have hii:i=ls.length:=by have:=of_decide_eq_false hlt; omega
   subst hii
   rw [List.take_length]
   (refine hk_region fun K hK=>runs_eval tab_ok ?_); simp only [ev0,aops,xstep,guardA,opA,tab,binA,binInt,arith,unA,pickA,convA,allocA,boxA,loadA,storeA,fieldAddrA,fieldA,indexAddrA,lenA,lenS,sliceA,boundA,makeSliceA,elemsA,appendA,buildA,fillA,buildSliceA,partsA,extractA,builtinA,minmaxA,AV.cells,AV.isAgg,allP,mkAgg,hget,hset,isRow,cellOk,setC,after,dstOk,St.put,St.get,lk,St.ev,cv,PV.one,Int.reduceToNat,entry,ent,Nat.reduceAdd,Nat.reduceLT,Nat.reduceBEq,Nat.reduceEqDiff,Nat.reduceLeDiff,Nat.reduceMul,Nat.reduceSub,Int.cast_ofNat_Int,decide_true,decide_false,reduceCtorEq,BEq.rfl,beq_self_eq_true,bne_self_eq_false,ite_true,ite_false,if_true,if_false,reduceIte]; refine fin_run trivial (hK _ ?_)<;>clear hK<;>clear K; repeat (first|refine qa ?_|refine qb ?_|refine qc ?_|refine qd ?_|refine qe ?_|refine qf ?_|refine qg rfl ?_|refine qh ?_|refine qi ?_|refine qj ?_|refine qk ?_|refine ql ?_|refine qm ?_)
   simp only [Try.results67,Post,endA,rvsA,rvA,mkTup,peekA,peekG,peekS,peekList,PV.norm,PV.norm1,PV.norm0,PV.list.injEq,PV.tup.injEq,PV.agg.injEq,PV.int.injEq,PV.bool.injEq,List.cons.injEq,ev0,aops,xstep,guardA,opA,tab,binA,binInt,arith,unA,pickA,convA,allocA,boxA,loadA,storeA,fieldAddrA,fieldA,indexAddrA,lenA,lenS,sliceA,boundA,makeSliceA,elemsA,appendA,buildA,fillA,buildSliceA,partsA,extractA,builtinA,minmaxA,AV.cells,AV.isAgg,allP,mkAgg,hget,hset,isRow,cellOk,setC,after,dstOk,St.put,St.get,lk,St.ev,cv,PV.one,Int.reduceToNat,entry,ent,Nat.reduceAdd,Nat.reduceLT,Nat.reduceBEq,Nat.reduceEqDiff,Nat.reduceLeDiff,Nat.reduceMul,Nat.reduceSub,Int.cast_ofNat_Int,decide_true,decide_false,reduceCtorEq,BEq.rfl,beq_self_eq_true,bne_self_eq_false,ite_true,ite_false,if_true,if_false,reduceIte]
   exact Nat.le_refl _

def allS:List (List Int)→Int × Int
 | []=>(0,0)
 | w :: r=>if (check w).1 ≠ 0 then check w else allS r

theorem all_c (ls:List (List Int)) (hk:ls.length≤1000000000):FnC Try.prog 66 [.nn (ll ls)] (fl (allS ls)):=by
 refine fnc_of tab_ok Try.func66 rfl (by kernel_rfl) (by rw [Try.ntmps66]; exact Nat.le_add_left 1 _) ?_; rw [Try.ntmps66]; repeat (first|refine qa ?_|refine qb ?_|refine qc ?_|refine qd ?_|refine qe ?_|refine qf ?_|refine qg rfl ?_|refine qh ?_|refine qi ?_|refine qj ?_|refine qk ?_|refine ql ?_|refine qm ?_)
 (refine hk_region fun K hK=>runs_eval tab_ok ?_); simp only [ev0,aops,xstep,guardA,opA,tab,binA,binInt,arith,unA,pickA,convA,allocA,boxA,loadA,storeA,fieldAddrA,fieldA,indexAddrA,lenA,lenS,sliceA,boundA,makeSliceA,elemsA,appendA,buildA,fillA,buildSliceA,partsA,extractA,builtinA,minmaxA,AV.cells,AV.isAgg,allP,mkAgg,hget,hset,isRow,cellOk,setC,after,dstOk,St.put,St.get,lk,St.ev,cv,PV.one,Int.reduceToNat,entry,ent,Nat.reduceAdd,Nat.reduceLT,Nat.reduceBEq,Nat.reduceEqDiff,Nat.reduceLeDiff,Nat.reduceMul,Nat.reduceSub,Int.cast_ofNat_Int,decide_true,decide_false,reduceCtorEq,BEq.rfl,beq_self_eq_true,bne_self_eq_false,ite_true,ite_false,if_true,if_false,reduceIte]; refine fin_run trivial (hK _ ?_)<;>clear hK<;>clear K; repeat (first|refine qa ?_|refine qb ?_|refine qc ?_|refine qd ?_|refine qe ?_|refine qf ?_|refine qg rfl ?_|refine qh ?_|refine qi ?_|refine qj ?_|refine qk ?_|refine ql ?_|refine qm ?_)
 (refine hk_region fun K hK=>runs_eval tab_ok ?_); simp only [ev0,aops,xstep,guardA,opA,tab,binA,binInt,arith,unA,pickA,convA,allocA,boxA,loadA,storeA,fieldAddrA,fieldA,indexAddrA,lenA,lenS,sliceA,boundA,makeSliceA,elemsA,appendA,buildA,fillA,buildSliceA,partsA,extractA,builtinA,minmaxA,AV.cells,AV.isAgg,allP,mkAgg,hget,hset,isRow,cellOk,setC,after,dstOk,St.put,St.get,lk,St.ev,cv,PV.one,Int.reduceToNat,entry,ent,Nat.reduceAdd,Nat.reduceLT,Nat.reduceBEq,Nat.reduceEqDiff,Nat.reduceLeDiff,Nat.reduceMul,Nat.reduceSub,Int.cast_ofNat_Int,decide_true,decide_false,reduceCtorEq,BEq.rfl,beq_self_eq_true,bne_self_eq_false,ite_true,ite_false,if_true,if_false,reduceIte]; refine fin_run trivial (hK _ ?_)<;>clear hK<;>clear K; repeat (first|refine qa ?_|refine qb ?_|refine qc ?_|refine qd ?_|refine qe ?_|refine qf ?_|refine qg rfl ?_|refine qh ?_|refine qi ?_|refine qj ?_|refine qk ?_|refine ql ?_|refine qm ?_)
 refine hk_loop (ι:=Nat) (fun i=>⟨20,[(2,.ptr 0 0),(6,.p (.nn (ll ls))),(7,.p (.int .i64 ls.length)),(8,.p (.int .i64 i))],[.own [.p (.int .i64 0),.p (.int .i64 0)]]⟩) (fun i=>i≤ls.length∧allS (ls.drop i)=allS ls) (fun i=>ls.length - i) 0 ⟨Nat.zero_le _,rfl⟩ [0] (by simp only [AV.p.injEq,AV.sl.injEq,AV.ptr.injEq,Blk.own.injEq,PV.int.injEq,PV.bool.injEq,PV.list.injEq,Nat.sub_zero,Int.natCast_add,List.length_append,take_take_len,take_app1,take_app2,Le,LeH,LeS,LeB,ren,ren1,scA,sc1,List.nodup_cons,List.nodup_nil,List.mem_cons,List.not_mem_nil,or_false,not_false_eq_true,ev0,aops,xstep,guardA,opA,tab,binA,binInt,arith,unA,pickA,convA,allocA,boxA,loadA,storeA,fieldAddrA,fieldA,indexAddrA,lenA,lenS,sliceA,boundA,makeSliceA,elemsA,appendA,buildA,fillA,buildSliceA,partsA,extractA,builtinA,minmaxA,AV.cells,AV.isAgg,allP,mkAgg,hget,hset,isRow,cellOk,setC,after,dstOk,St.put,St.get,lk,St.ev,cv,PV.one,Int.reduceToNat,entry,ent,Nat.reduceAdd,Nat.reduceLT,Nat.reduceBEq,Nat.reduceEqDiff,Nat.reduceLeDiff,Nat.reduceMul,Nat.reduceSub,Int.cast_ofNat_Int,decide_true,decide_false,reduceCtorEq,BEq.rfl,beq_self_eq_true,bne_self_eq_false,ite_true,ite_false,if_true,if_false,reduceIte]<;>trivial) fun i hi=>?_
 obtain ⟨hi1,hi2⟩:=hi
 repeat (first|refine qa ?_|refine qb ?_|refine qc ?_|refine qd ?_|refine qe ?_|refine qf ?_|refine qg rfl ?_|refine qh ?_|refine qi ?_|refine qj ?_|refine qk ?_|refine ql ?_|refine qm ?_)
 (refine hk_region fun K hK=>runs_eval tab_ok ?_); simp only [ev0,aops,xstep,guardA,opA,tab,binA,binInt,arith,unA,pickA,convA,allocA,boxA,loadA,storeA,fieldAddrA,fieldA,indexAddrA,lenA,lenS,sliceA,boundA,makeSliceA,elemsA,appendA,buildA,fillA,buildSliceA,partsA,extractA,builtinA,minmaxA,AV.cells,AV.isAgg,allP,mkAgg,hget,hset,isRow,cellOk,setC,after,dstOk,St.put,St.get,lk,St.ev,cv,PV.one,Int.reduceToNat,entry,ent,Nat.reduceAdd,Nat.reduceLT,Nat.reduceBEq,Nat.reduceEqDiff,Nat.reduceLeDiff,Nat.reduceMul,Nat.reduceSub,Int.cast_ofNat_Int,decide_true,decide_false,reduceCtorEq,BEq.rfl,beq_self_eq_true,bne_self_eq_false,ite_true,ite_false,if_true,if_false,reduceIte]; refine fin_run trivial (hK _ ?_)<;>clear hK<;>clear K; repeat (first|refine qa ?_|refine qb ?_|refine qc ?_|refine qd ?_|refine qe ?_|refine qf ?_|refine qg rfl ?_|refine qh ?_|refine qi ?_|refine qj ?_|refine qk ?_|refine ql ?_|refine qm ?_)
 refine hk_cond rfl (fun hlt=>?_) (fun hlt=>?_)
 ·have hlt:i < ls.length:=by have:=of_decide_eq_true hlt; omega
  have hd:ls.drop i=ls.getD i [] :: ls.drop (i + 1):=by
   rw [List.drop_eq_getElem_cons hlt]; simp [List.getD,List.getElem?_eq_getElem hlt]
  rw [hd,allS] at hi2
  repeat (first|refine qa ?_|refine qb ?_|refine qc ?_|refine qd ?_|refine qe ?_|refine qf ?_|refine qg rfl ?_|refine qh ?_|refine qi ?_|refine qj ?_|refine qk ?_|refine ql ?_|refine qm ?_)
  refine hk_region fun K hK=>runs_eval tab_ok ?_
  simp only [ev0,aops,xstep,guardA,opA,tab,binA,binInt,arith,unA,pickA,convA,allocA,boxA,loadA,storeA,fieldAddrA,fieldA,indexAddrA,lenA,lenS,sliceA,boundA,makeSliceA,elemsA,appendA,buildA,fillA,buildSliceA,partsA,extractA,builtinA,minmaxA,AV.cells,AV.isAgg,allP,mkAgg,hget,hset,isRow,cellOk,setC,after,dstOk,St.put,St.get,lk,St.ev,cv,PV.one,Int.reduceToNat,entry,ent,Nat.reduceAdd,Nat.reduceLT,Nat.reduceBEq,Nat.reduceEqDiff,Nat.reduceLeDiff,Nat.reduceMul,Nat.reduceSub,Int.cast_ofNat_Int,decide_true,decide_false,reduceCtorEq,BEq.rfl,beq_self_eq_true,bne_self_eq_false,ite_true,ite_false,if_true,if_false,reduceIte,ll_get hlt]
  refine fin_run ?_ (hK _ ?_)<;>clear hK<;>clear K
  ·omega
  generalize ls.getD i []=w at *
  repeat (first|refine qa ?_|refine qb ?_|refine qc ?_|refine qd ?_|refine qe ?_|refine qf ?_|refine qg rfl ?_|refine qh ?_|refine qi ?_|refine qj ?_|refine qk ?_|refine ql ?_|refine qm ?_)
  refine hk_region fun K hK=>runs_eval tab_ok ?_
  simp only [ev0,aops,xstep,guardA,opA,tab,binA,binInt,arith,unA,pickA,convA,allocA,boxA,loadA,storeA,fieldAddrA,fieldA,indexAddrA,lenA,lenS,sliceA,boundA,makeSliceA,elemsA,appendA,buildA,fillA,buildSliceA,partsA,extractA,builtinA,minmaxA,AV.cells,AV.isAgg,allP,mkAgg,hget,hset,isRow,cellOk,setC,after,dstOk,St.put,St.get,lk,St.ev,cv,PV.one,Int.reduceToNat,entry,ent,Nat.reduceAdd,Nat.reduceLT,Nat.reduceBEq,Nat.reduceEqDiff,Nat.reduceLeDiff,Nat.reduceMul,Nat.reduceSub,Int.cast_ofNat_Int,decide_true,decide_false,reduceCtorEq,BEq.rfl,beq_self_eq_true,bne_self_eq_false,ite_true,ite_false,if_true,if_false,reduceIte]
  refine fin_stop trivial (runs_call (check_c w) rfl rfl rfl (by simp only [dstOk,Nat.reduceLT]) (by repeat (first|exact trivial|constructor)) (runs_eval tab_ok ?_))
  simp only [ev0,aops,xstep,guardA,opA,tab,binA,binInt,arith,unA,pickA,convA,allocA,boxA,loadA,storeA,fieldAddrA,fieldA,indexAddrA,lenA,lenS,sliceA,boundA,makeSliceA,elemsA,appendA,buildA,fillA,buildSliceA,partsA,extractA,builtinA,minmaxA,AV.cells,AV.isAgg,allP,mkAgg,hget,hset,isRow,cellOk,setC,after,dstOk,St.put,St.get,lk,St.ev,cv,PV.one,Int.reduceToNat,entry,ent,Nat.reduceAdd,Nat.reduceLT,Nat.reduceBEq,Nat.reduceEqDiff,Nat.reduceLeDiff,Nat.reduceMul,Nat.reduceSub,Int.cast_ofNat_Int,decide_true,decide_false,reduceCtorEq,BEq.rfl,beq_self_eq_true,bne_self_eq_false,ite_true,ite_false,if_true,if_false,reduceIte,fl]
  refine fin_run trivial (hK _ ?_)<;>clear hK<;>clear K
  repeat (first|refine qa ?_|refine qb ?_|refine qc ?_|refine qd ?_|refine qe ?_|refine qf ?_|refine qg rfl ?_|refine qh ?_|refine qi ?_|refine qj ?_|refine qk ?_|refine ql ?_|refine qm ?_)
  (refine hk_region fun K hK=>runs_eval tab_ok ?_); simp only [ev0,aops,xstep,guardA,opA,tab,binA,binInt,arith,unA,pickA,convA,allocA,boxA,loadA,storeA,fieldAddrA,fieldA,indexAddrA,lenA,lenS,sliceA,boundA,makeSliceA,elemsA,appendA,buildA,fillA,buildSliceA,partsA,extractA,builtinA,minmaxA,AV.cells,AV.isAgg,allP,mkAgg,hget,hset,isRow,cellOk,setC,after,dstOk,St.put,St.get,lk,St.ev,cv,PV.one,Int.reduceToNat,entry,ent,Nat.reduceAdd,Nat.reduceLT,Nat.reduceBEq,Nat.reduceEqDiff,Nat.reduceLeDiff,Nat.reduceMul,Nat.reduceSub,Int.cast_ofNat_Int,decide_true,decide_false,reduceCtorEq,BEq.rfl,beq_self_eq_true,bne_self_eq_false,ite_true,ite_false,if_true,if_false,reduceIte]; refine fin_run trivial (hK _ ?_)<;>clear hK<;>clear K; repeat (first|refine qa ?_|refine qb ?_|refine qc ?_|refine qd ?_|refine qe ?_|refine qf ?_|refine qg rfl ?_|refine qh ?_|refine qi ?_|refine qj ?_|refine qk ?_|refine ql ?_|refine qm ?_)
  refine hk_cond rfl (fun hc=>?_) (fun hc=>?_)
  ·have hc:(check w).1 ≠ 0:=by simpa using hc
   rw [if_pos hc] at hi2
   repeat (first|refine qa ?_|refine qb ?_|refine qc ?_|refine qd ?_|refine qe ?_|refine qf ?_|refine qg rfl ?_|refine qh ?_|refine qi ?_|refine qj ?_|refine qk ?_|refine ql ?_|refine qm ?_)
   (refine hk_region fun K hK=>runs_eval tab_ok ?_); simp only [ev0,aops,xstep,guardA,opA,tab,binA,binInt,arith,unA,pickA,convA,allocA,boxA,loadA,storeA,fieldAddrA,fieldA,indexAddrA,lenA,lenS,sliceA,boundA,makeSliceA,elemsA,appendA,buildA,fillA,buildSliceA,partsA,extractA,builtinA,minmaxA,AV.cells,AV.isAgg,allP,mkAgg,hget,hset,isRow,cellOk,setC,after,dstOk,St.put,St.get,lk,St.ev,cv,PV.one,Int.reduceToNat,entry,ent,Nat.reduceAdd,Nat.reduceLT,Nat.reduceBEq,Nat.reduceEqDiff,Nat.reduceLeDiff,Nat.reduceMul,Nat.reduceSub,Int.cast_ofNat_Int,decide_true,decide_false,reduceCtorEq,BEq.rfl,beq_self_eq_true,bne_self_eq_false,ite_true,ite_false,if_true,if_false,reduceIte]; refine fin_run trivial (hK _ ?_)<;>clear hK<;>clear K; repeat (first|refine qa ?_|refine qb ?_|refine qc ?_|refine qd ?_|refine qe ?_|refine qf ?_|refine qg rfl ?_|refine qh ?_|refine qi ?_|refine qj ?_|refine qk ?_|refine ql ?_|refine qm ?_)
   simp only [Try.results66,Post,endA,rvsA,rvA,mkTup,peekA,peekG,peekS,peekList,PV.norm,PV.norm1,PV.norm0,PV.list.injEq,PV.tup.injEq,PV.agg.injEq,PV.int.injEq,PV.bool.injEq,List.cons.injEq,ev0,aops,xstep,guardA,opA,tab,binA,binInt,arith,unA,pickA,convA,allocA,boxA,loadA,storeA,fieldAddrA,fieldA,indexAddrA,lenA,lenS,sliceA,boundA,makeSliceA,elemsA,appendA,buildA,fillA,buildSliceA,partsA,extractA,builtinA,minmaxA,AV.cells,AV.isAgg,allP,mkAgg,hget,hset,isRow,cellOk,setC,after,dstOk,St.put,St.get,lk,St.ev,cv,PV.one,Int.reduceToNat,entry,ent,Nat.reduceAdd,Nat.reduceLT,Nat.reduceBEq,Nat.reduceEqDiff,Nat.reduceLeDiff,Nat.reduceMul,Nat.reduceSub,Int.cast_ofNat_Int,decide_true,decide_false,reduceCtorEq,BEq.rfl,beq_self_eq_true,bne_self_eq_false,ite_true,ite_false,if_true,if_false,reduceIte]
   rw [← hi2]; rfl
  ·have hc:¬ (check w).1 ≠ 0:=by simpa using hc
   rw [if_neg hc] at hi2
   repeat (first|refine qa ?_|refine qb ?_|refine qc ?_|refine qd ?_|refine qe ?_|refine qf ?_|refine qg rfl ?_|refine qh ?_|refine qi ?_|refine qj ?_|refine qk ?_|refine ql ?_|refine qm ?_)
   refine hk_region fun K hK=>runs_eval tab_ok ?_
   simp only [ev0,aops,xstep,guardA,opA,tab,binA,binInt,arith,unA,pickA,convA,allocA,boxA,loadA,storeA,fieldAddrA,fieldA,indexAddrA,lenA,lenS,sliceA,boundA,makeSliceA,elemsA,appendA,buildA,fillA,buildSliceA,partsA,extractA,builtinA,minmaxA,AV.cells,AV.isAgg,allP,mkAgg,hget,hset,isRow,cellOk,setC,after,dstOk,St.put,St.get,lk,St.ev,cv,PV.one,Int.reduceToNat,entry,ent,Nat.reduceAdd,Nat.reduceLT,Nat.reduceBEq,Nat.reduceEqDiff,Nat.reduceLeDiff,Nat.reduceMul,Nat.reduceSub,Int.cast_ofNat_Int,decide_true,decide_false,reduceCtorEq,BEq.rfl,beq_self_eq_true,bne_self_eq_false,ite_true,ite_false,if_true,if_false,reduceIte]
   refine fin_run ?_ (hK _ ?_)<;>clear hK<;>clear K
   ·simp only [In64]; omega
   repeat (first|refine qa ?_|refine qb ?_|refine qc ?_|refine qd ?_|refine qe ?_|refine qf ?_|refine qg rfl ?_|refine qh ?_|refine qi ?_|refine qj ?_|refine qk ?_|refine ql ?_|refine qm ?_)
   refine ⟨i + 1,[0],⟨by omega,hi2⟩,by omega,?_⟩
   simp only [AV.p.injEq,AV.sl.injEq,AV.ptr.injEq,Blk.own.injEq,PV.int.injEq,PV.bool.injEq,PV.list.injEq,Nat.sub_zero,Int.natCast_add,List.length_append,take_take_len,take_app1,take_app2,Le,LeH,LeS,LeB,ren,ren1,scA,sc1,List.nodup_cons,List.nodup_nil,List.mem_cons,List.not_mem_nil,or_false,not_false_eq_true,ev0,aops,xstep,guardA,opA,tab,binA,binInt,arith,unA,pickA,convA,allocA,boxA,loadA,storeA,fieldAddrA,fieldA,indexAddrA,lenA,lenS,sliceA,boundA,makeSliceA,elemsA,appendA,buildA,fillA,buildSliceA,partsA,extractA,builtinA,minmaxA,AV.cells,AV.isAgg,allP,mkAgg,hget,hset,isRow,cellOk,setC,after,dstOk,St.put,St.get,lk,St.ev,cv,PV.one,Int.reduceToNat,entry,ent,Nat.reduceAdd,Nat.reduceLT,Nat.reduceBEq,Nat.reduceEqDiff,Nat.reduceLeDiff,Nat.reduceMul,Nat.reduceSub,Int.cast_ofNat_Int,decide_true,decide_false,reduceCtorEq,BEq.rfl,beq_self_eq_true,bne_self_eq_false,ite_true,ite_false,if_true,if_false,reduceIte]<;>(first|exact trivial|omega|(simp only [In64] at *; omega)|(rw [Bool.eq_iff_iff]; simp; done)|(rw [Bool.eq_iff_iff]; simp; omega)|(simp [In64] at *; omega)|(simp_all; done)|(simp_all [In64]<;>omega)|skip)
 ·repeat (first|refine qa ?_|refine qb ?_|refine qc ?_|refine qd ?_|refine qe ?_|refine qf ?_|refine qg rfl ?_|refine qh ?_|refine qi ?_|refine qj ?_|refine qk ?_|refine ql ?_|refine qm ?_)
  have hii:i=ls.length:=by have:=of_decide_eq_false hlt; omega
  subst hii
  rw [List.drop_length] at hi2
  (refine hk_region fun K hK=>runs_eval tab_ok ?_); simp only [ev0,aops,xstep,guardA,opA,tab,binA,binInt,arith,unA,pickA,convA,allocA,boxA,loadA,storeA,fieldAddrA,fieldA,indexAddrA,lenA,lenS,sliceA,boundA,makeSliceA,elemsA,appendA,buildA,fillA,buildSliceA,partsA,extractA,builtinA,minmaxA,AV.cells,AV.isAgg,allP,mkAgg,hget,hset,isRow,cellOk,setC,after,dstOk,St.put,St.get,lk,St.ev,cv,PV.one,Int.reduceToNat,entry,ent,Nat.reduceAdd,Nat.reduceLT,Nat.reduceBEq,Nat.reduceEqDiff,Nat.reduceLeDiff,Nat.reduceMul,Nat.reduceSub,Int.cast_ofNat_Int,decide_true,decide_false,reduceCtorEq,BEq.rfl,beq_self_eq_true,bne_self_eq_false,ite_true,ite_false,if_true,if_false,reduceIte]; refine fin_run trivial (hK _ ?_)<;>clear hK<;>clear K; repeat (first|refine qa ?_|refine qb ?_|refine qc ?_|refine qd ?_|refine qe ?_|refine qf ?_|refine qg rfl ?_|refine qh ?_|refine qi ?_|refine qj ?_|refine qk ?_|refine ql ?_|refine qm ?_)
  simp only [Try.results66,Post,endA,rvsA,rvA,mkTup,peekA,peekG,peekS,peekList,PV.norm,PV.norm1,PV.norm0,PV.list.injEq,PV.tup.injEq,PV.agg.injEq,PV.int.injEq,PV.bool.injEq,List.cons.injEq,ev0,aops,xstep,guardA,opA,tab,binA,binInt,arith,unA,pickA,convA,allocA,boxA,loadA,storeA,fieldAddrA,fieldA,indexAddrA,lenA,lenS,sliceA,boundA,makeSliceA,elemsA,appendA,buildA,fillA,buildSliceA,partsA,extractA,builtinA,minmaxA,AV.cells,AV.isAgg,allP,mkAgg,hget,hset,isRow,cellOk,setC,after,dstOk,St.put,St.get,lk,St.ev,cv,PV.one,Int.reduceToNat,entry,ent,Nat.reduceAdd,Nat.reduceLT,Nat.reduceBEq,Nat.reduceEqDiff,Nat.reduceLeDiff,Nat.reduceMul,Nat.reduceSub,Int.cast_ofNat_Int,decide_true,decide_false,reduceCtorEq,BEq.rfl,beq_self_eq_true,bne_self_eq_false,ite_true,ite_false,if_true,if_false,reduceIte]
  rw [← hi2]; rfl
end Go.Proofs.Ytneglephfhiamaa

/-
  Walks: words of free groups. Conditions: none.
-/
set_option linter.all false
namespace Go.Proofs.Ytneglephfhiamaa
open Go.Pv

theorem chk_sm:∀ (w:List Int) (i:Nat),(chk i w).1=0→Sm w
 | [],_,_=>fun x hx=>by simp at hx
 | x :: r,i,h=>by
  unfold chk at h
  split at h
  ·simp at h
  ·rename_i hn
   intro y hy
   rcases List.mem_cons.1 hy with rfl | hy
   ·omega
   ·exact chk_sm r (i + 1) h y hy
theorem check_sm {w:List Int} (h:(check w).1=0):Sm w∧w.length≤2000:=by
 unfold check at h
 split at h
 ·simp at h
 ·exact ⟨chk_sm w 0 h,by omega⟩
theorem allS_sm:∀ {ls:List (List Int)},(allS ls).1=0→∀ w∈ls,Sm w∧w.length≤2000
 | [],_,w,hw=>by simp at hw
 | v :: r,h,w,hw=>by
  unfold allS at h
  split at h
  ·rename_i hn; exact absurd h hn
  ·rename_i hn
   rcases List.mem_cons.1 hw with rfl | hw
   ·exact check_sm (by simpa using hn)
   ·exact allS_sm h w hw
theorem Sm.app {v w:List Int} (hv:Sm v) (hw:Sm w):Sm (v++w):=by
 intro x hx
 rcases List.mem_append.1 hx with h | h
 ·exact hv x h
 ·exact hw x h
theorem back_sm {w:List Int} (hw:Sm w):Sm (back w):=by
 intro x hx
 obtain ⟨y,hy,rfl⟩:=List.mem_map.1 hx
 have:=hw y (List.mem_reverse.1 hy)
 omega

def invS (w:List Int):List Int × (Int × Int):=if (check w).1 ≠ 0 then ([],check w) else (short (back w),(0,0))

theorem inv_c (w:List Int):FnC Try.prog 40 [.list (il w)] (.tup [.list (il (invS w).1),fl (invS w).2]):=by
 refine fnc_of tab_ok Try.func40 rfl (by kernel_rfl) (by rw [Try.ntmps40]; exact Nat.le_add_left 1 _) ?_; rw [Try.ntmps40]; repeat (first|refine qa ?_|refine qb ?_|refine qc ?_|refine qd ?_|refine qe ?_|refine qf ?_|refine qg rfl ?_|refine qh ?_|refine qi ?_|refine qj ?_|refine qk ?_|refine ql ?_|refine qm ?_)
 (refine hk_region fun K hK=>runs_eval tab_ok ?_); simp only [ev0,aops,xstep,guardA,opA,tab,binA,binInt,arith,unA,pickA,convA,allocA,boxA,loadA,storeA,fieldAddrA,fieldA,indexAddrA,lenA,lenS,sliceA,boundA,makeSliceA,elemsA,appendA,buildA,fillA,buildSliceA,partsA,extractA,builtinA,minmaxA,AV.cells,AV.isAgg,allP,mkAgg,hget,hset,isRow,cellOk,setC,after,dstOk,St.put,St.get,lk,St.ev,cv,PV.one,Int.reduceToNat,entry,ent,Nat.reduceAdd,Nat.reduceLT,Nat.reduceBEq,Nat.reduceEqDiff,Nat.reduceLeDiff,Nat.reduceMul,Nat.reduceSub,Int.cast_ofNat_Int,decide_true,decide_false,reduceCtorEq,BEq.rfl,beq_self_eq_true,bne_self_eq_false,ite_true,ite_false,if_true,if_false,reduceIte]; refine fin_run trivial (hK _ ?_)<;>clear hK<;>clear K; repeat (first|refine qa ?_|refine qb ?_|refine qc ?_|refine qd ?_|refine qe ?_|refine qf ?_|refine qg rfl ?_|refine qh ?_|refine qi ?_|refine qj ?_|refine qk ?_|refine ql ?_|refine qm ?_)
 refine hk_region fun K hK=>runs_eval tab_ok ?_
 simp only [ev0,aops,xstep,guardA,opA,tab,binA,binInt,arith,unA,pickA,convA,allocA,boxA,loadA,storeA,fieldAddrA,fieldA,indexAddrA,lenA,lenS,sliceA,boundA,makeSliceA,elemsA,appendA,buildA,fillA,buildSliceA,partsA,extractA,builtinA,minmaxA,AV.cells,AV.isAgg,allP,mkAgg,hget,hset,isRow,cellOk,setC,after,dstOk,St.put,St.get,lk,St.ev,cv,PV.one,Int.reduceToNat,entry,ent,Nat.reduceAdd,Nat.reduceLT,Nat.reduceBEq,Nat.reduceEqDiff,Nat.reduceLeDiff,Nat.reduceMul,Nat.reduceSub,Int.cast_ofNat_Int,decide_true,decide_false,reduceCtorEq,BEq.rfl,beq_self_eq_true,bne_self_eq_false,ite_true,ite_false,if_true,if_false,reduceIte]
 refine fin_stop trivial (runs_call (check_c w) rfl rfl rfl (by simp only [dstOk,Nat.reduceLT]) (by repeat (first|exact trivial|constructor)) (runs_eval tab_ok ?_))
 simp only [ev0,aops,xstep,guardA,opA,tab,binA,binInt,arith,unA,pickA,convA,allocA,boxA,loadA,storeA,fieldAddrA,fieldA,indexAddrA,lenA,lenS,sliceA,boundA,makeSliceA,elemsA,appendA,buildA,fillA,buildSliceA,partsA,extractA,builtinA,minmaxA,AV.cells,AV.isAgg,allP,mkAgg,hget,hset,isRow,cellOk,setC,after,dstOk,St.put,St.get,lk,St.ev,cv,PV.one,Int.reduceToNat,entry,ent,Nat.reduceAdd,Nat.reduceLT,Nat.reduceBEq,Nat.reduceEqDiff,Nat.reduceLeDiff,Nat.reduceMul,Nat.reduceSub,Int.cast_ofNat_Int,decide_true,decide_false,reduceCtorEq,BEq.rfl,beq_self_eq_true,bne_self_eq_false,ite_true,ite_false,if_true,if_false,reduceIte,fl]
 refine fin_run trivial (hK _ ?_)<;>clear hK<;>clear K
 repeat (first|refine qa ?_|refine qb ?_|refine qc ?_|refine qd ?_|refine qe ?_|refine qf ?_|refine qg rfl ?_|refine qh ?_|refine qi ?_|refine qj ?_|refine qk ?_|refine ql ?_|refine qm ?_)
 (refine hk_region fun K hK=>runs_eval tab_ok ?_); simp only [ev0,aops,xstep,guardA,opA,tab,binA,binInt,arith,unA,pickA,convA,allocA,boxA,loadA,storeA,fieldAddrA,fieldA,indexAddrA,lenA,lenS,sliceA,boundA,makeSliceA,elemsA,appendA,buildA,fillA,buildSliceA,partsA,extractA,builtinA,minmaxA,AV.cells,AV.isAgg,allP,mkAgg,hget,hset,isRow,cellOk,setC,after,dstOk,St.put,St.get,lk,St.ev,cv,PV.one,Int.reduceToNat,entry,ent,Nat.reduceAdd,Nat.reduceLT,Nat.reduceBEq,Nat.reduceEqDiff,Nat.reduceLeDiff,Nat.reduceMul,Nat.reduceSub,Int.cast_ofNat_Int,decide_true,decide_false,reduceCtorEq,BEq.rfl,beq_self_eq_true,bne_self_eq_false,ite_true,ite_false,if_true,if_false,reduceIte]; refine fin_run trivial (hK _ ?_)<;>clear hK<;>clear K; repeat (first|refine qa ?_|refine qb ?_|refine qc ?_|refine qd ?_|refine qe ?_|refine qf ?_|refine qg rfl ?_|refine qh ?_|refine qi ?_|refine qj ?_|refine qk ?_|refine ql ?_|refine qm ?_)
 refine hk_cond rfl (fun hc=>?_) (fun hc=>?_)
 ·have hc:(check w).1 ≠ 0:=by simpa using hc
  repeat (first|refine qa ?_|refine qb ?_|refine qc ?_|refine qd ?_|refine qe ?_|refine qf ?_|refine qg rfl ?_|refine qh ?_|refine qi ?_|refine qj ?_|refine qk ?_|refine ql ?_|refine qm ?_)
  refine hk_draw mixed (by kernel_rfl) fun K hK=>runs_eval tab_ok ?_
  simp only [ev0,aops,xstep,guardA,opA,tab,binA,binInt,arith,unA,pickA,convA,allocA,boxA,loadA,storeA,fieldAddrA,fieldA,indexAddrA,lenA,lenS,sliceA,boundA,makeSliceA,elemsA,appendA,buildA,fillA,buildSliceA,partsA,extractA,builtinA,minmaxA,AV.cells,AV.isAgg,allP,mkAgg,hget,hset,isRow,cellOk,setC,after,dstOk,St.put,St.get,lk,St.ev,cv,PV.one,Int.reduceToNat,entry,ent,Nat.reduceAdd,Nat.reduceLT,Nat.reduceBEq,Nat.reduceEqDiff,Nat.reduceLeDiff,Nat.reduceMul,Nat.reduceSub,Int.cast_ofNat_Int,decide_true,decide_false,reduceCtorEq,BEq.rfl,beq_self_eq_true,bne_self_eq_false,ite_true,ite_false,if_true,if_false,reduceIte]
  refine fin_run trivial (hK _ ?_)<;>clear hK<;>clear K
  repeat (first|refine qa ?_|refine qb ?_|refine qc ?_|refine qd ?_|refine qe ?_|refine qf ?_|refine qg rfl ?_|refine qh ?_|refine qi ?_|refine qj ?_|refine qk ?_|refine ql ?_|refine qm ?_)
  simp only [Try.results40,Post,endA,rvsA,rvA,mkTup,peekA,peekG,peekS,peekList,PV.norm,PV.norm1,PV.norm0,PV.list.injEq,PV.tup.injEq,PV.agg.injEq,PV.int.injEq,PV.bool.injEq,List.cons.injEq,ev0,aops,xstep,guardA,opA,tab,binA,binInt,arith,unA,pickA,convA,allocA,boxA,loadA,storeA,fieldAddrA,fieldA,indexAddrA,lenA,lenS,sliceA,boundA,makeSliceA,elemsA,appendA,buildA,fillA,buildSliceA,partsA,extractA,builtinA,minmaxA,AV.cells,AV.isAgg,allP,mkAgg,hget,hset,isRow,cellOk,setC,after,dstOk,St.put,St.get,lk,St.ev,cv,PV.one,Int.reduceToNat,entry,ent,Nat.reduceAdd,Nat.reduceLT,Nat.reduceBEq,Nat.reduceEqDiff,Nat.reduceLeDiff,Nat.reduceMul,Nat.reduceSub,Int.cast_ofNat_Int,decide_true,decide_false,reduceCtorEq,BEq.rfl,beq_self_eq_true,bne_self_eq_false,ite_true,ite_false,if_true,if_false,reduceIte]
  rw [invS,if_pos hc]
  exact ⟨rfl,rfl⟩
 ·have hc:(check w).1=0:=by simpa using hc
  obtain ⟨h1,h2⟩:=check_sm hc
  repeat (first|refine qa ?_|refine qb ?_|refine qc ?_|refine qd ?_|refine qe ?_|refine qf ?_|refine qg rfl ?_|refine qh ?_|refine qi ?_|refine qj ?_|refine qk ?_|refine ql ?_|refine qm ?_)
  refine hk_region fun K hK=>runs_eval tab_ok ?_
  simp only [ev0,aops,xstep,guardA,opA,tab,binA,binInt,arith,unA,pickA,convA,allocA,boxA,loadA,storeA,fieldAddrA,fieldA,indexAddrA,lenA,lenS,sliceA,boundA,makeSliceA,elemsA,appendA,buildA,fillA,buildSliceA,partsA,extractA,builtinA,minmaxA,AV.cells,AV.isAgg,allP,mkAgg,hget,hset,isRow,cellOk,setC,after,dstOk,St.put,St.get,lk,St.ev,cv,PV.one,Int.reduceToNat,entry,ent,Nat.reduceAdd,Nat.reduceLT,Nat.reduceBEq,Nat.reduceEqDiff,Nat.reduceLeDiff,Nat.reduceMul,Nat.reduceSub,Int.cast_ofNat_Int,decide_true,decide_false,reduceCtorEq,BEq.rfl,beq_self_eq_true,bne_self_eq_false,ite_true,ite_false,if_true,if_false,reduceIte]
  refine fin_stop trivial (runs_call (back_c w (by omega) h1) rfl rfl rfl (by simp only [dstOk,Nat.reduceLT]) (by repeat (first|exact trivial|constructor)) (runs_eval tab_ok ?_))
  simp only [ev0,aops,xstep,guardA,opA,tab,binA,binInt,arith,unA,pickA,convA,allocA,boxA,loadA,storeA,fieldAddrA,fieldA,indexAddrA,lenA,lenS,sliceA,boundA,makeSliceA,elemsA,appendA,buildA,fillA,buildSliceA,partsA,extractA,builtinA,minmaxA,AV.cells,AV.isAgg,allP,mkAgg,hget,hset,isRow,cellOk,setC,after,dstOk,St.put,St.get,lk,St.ev,cv,PV.one,Int.reduceToNat,entry,ent,Nat.reduceAdd,Nat.reduceLT,Nat.reduceBEq,Nat.reduceEqDiff,Nat.reduceLeDiff,Nat.reduceMul,Nat.reduceSub,Int.cast_ofNat_Int,decide_true,decide_false,reduceCtorEq,BEq.rfl,beq_self_eq_true,bne_self_eq_false,ite_true,ite_false,if_true,if_false,reduceIte]
  refine fin_stop trivial (runs_call (short_c (back w) (by simp [back]; omega) (back_sm h1)) rfl rfl rfl (by simp only [dstOk,Nat.reduceLT]) (by repeat (first|exact trivial|constructor)) (runs_eval tab_ok ?_))
  simp only [ev0,aops,xstep,guardA,opA,tab,binA,binInt,arith,unA,pickA,convA,allocA,boxA,loadA,storeA,fieldAddrA,fieldA,indexAddrA,lenA,lenS,sliceA,boundA,makeSliceA,elemsA,appendA,buildA,fillA,buildSliceA,partsA,extractA,builtinA,minmaxA,AV.cells,AV.isAgg,allP,mkAgg,hget,hset,isRow,cellOk,setC,after,dstOk,St.put,St.get,lk,St.ev,cv,PV.one,Int.reduceToNat,entry,ent,Nat.reduceAdd,Nat.reduceLT,Nat.reduceBEq,Nat.reduceEqDiff,Nat.reduceLeDiff,Nat.reduceMul,Nat.reduceSub,Int.cast_ofNat_Int,decide_true,decide_false,reduceCtorEq,BEq.rfl,beq_self_eq_true,bne_self_eq_false,ite_true,ite_false,if_true,if_false,reduceIte]
  refine fin_run trivial (hK _ ?_)<;>clear hK<;>clear K
  repeat (first|refine qa ?_|refine qb ?_|refine qc ?_|refine qd ?_|refine qe ?_|refine qf ?_|refine qg rfl ?_|refine qh ?_|refine qi ?_|refine qj ?_|refine qk ?_|refine ql ?_|refine qm ?_)
  simp only [Try.results40,Post,endA,rvsA,rvA,mkTup,peekA,peekG,peekS,peekList,PV.norm,PV.norm1,PV.norm0,PV.list.injEq,PV.tup.injEq,PV.agg.injEq,PV.int.injEq,PV.bool.injEq,List.cons.injEq,ev0,aops,xstep,guardA,opA,tab,binA,binInt,arith,unA,pickA,convA,allocA,boxA,loadA,storeA,fieldAddrA,fieldA,indexAddrA,lenA,lenS,sliceA,boundA,makeSliceA,elemsA,appendA,buildA,fillA,buildSliceA,partsA,extractA,builtinA,minmaxA,AV.cells,AV.isAgg,allP,mkAgg,hget,hset,isRow,cellOk,setC,after,dstOk,St.put,St.get,lk,St.ev,cv,PV.one,Int.reduceToNat,entry,ent,Nat.reduceAdd,Nat.reduceLT,Nat.reduceBEq,Nat.reduceEqDiff,Nat.reduceLeDiff,Nat.reduceMul,Nat.reduceSub,Int.cast_ofNat_Int,decide_true,decide_false,reduceCtorEq,BEq.rfl,beq_self_eq_true,bne_self_eq_false,ite_true,ite_false,if_true,if_false,reduceIte]
  rw [invS,if_neg (by simp [hc])]
  exact ⟨rfl,rfl⟩

def mulS (v w:List Int):List Int × (Int × Int):=if (allS [v,w]).1 ≠ 0 then ([],allS [v,w]) else (short (v++w),(0,0))

theorem cat2 (v w:List Int):[v,w].flatten=v++w:=by simp

theorem mul_c (v w:List Int):FnC Try.prog 39 [.list (il v),.list (il w)] (.tup [.list (il (mulS v w).1),fl (mulS v w).2]):=by
 refine fnc_of tab_ok Try.func39 rfl (by kernel_rfl) (by rw [Try.ntmps39]; exact Nat.le_add_left 2 _) ?_; rw [Try.ntmps39]; repeat (first|refine qa ?_|refine qb ?_|refine qc ?_|refine qd ?_|refine qe ?_|refine qf ?_|refine qg rfl ?_|refine qh ?_|refine qi ?_|refine qj ?_|refine qk ?_|refine ql ?_|refine qm ?_)
 (refine hk_region fun K hK=>runs_eval tab_ok ?_); simp only [ev0,aops,xstep,guardA,opA,tab,binA,binInt,arith,unA,pickA,convA,allocA,boxA,loadA,storeA,fieldAddrA,fieldA,indexAddrA,lenA,lenS,sliceA,boundA,makeSliceA,elemsA,appendA,buildA,fillA,buildSliceA,partsA,extractA,builtinA,minmaxA,AV.cells,AV.isAgg,allP,mkAgg,hget,hset,isRow,cellOk,setC,after,dstOk,St.put,St.get,lk,St.ev,cv,PV.one,Int.reduceToNat,entry,ent,Nat.reduceAdd,Nat.reduceLT,Nat.reduceBEq,Nat.reduceEqDiff,Nat.reduceLeDiff,Nat.reduceMul,Nat.reduceSub,Int.cast_ofNat_Int,decide_true,decide_false,reduceCtorEq,BEq.rfl,beq_self_eq_true,bne_self_eq_false,ite_true,ite_false,if_true,if_false,reduceIte]; refine fin_run trivial (hK _ ?_)<;>clear hK<;>clear K; repeat (first|refine qa ?_|refine qb ?_|refine qc ?_|refine qd ?_|refine qe ?_|refine qf ?_|refine qg rfl ?_|refine qh ?_|refine qi ?_|refine qj ?_|refine qk ?_|refine ql ?_|refine qm ?_)
 refine hk_region fun K hK=>runs_eval tab_ok ?_
 simp only [ev0,aops,xstep,guardA,opA,tab,binA,binInt,arith,unA,pickA,convA,allocA,boxA,loadA,storeA,fieldAddrA,fieldA,indexAddrA,lenA,lenS,sliceA,boundA,makeSliceA,elemsA,appendA,buildA,fillA,buildSliceA,partsA,extractA,builtinA,minmaxA,AV.cells,AV.isAgg,allP,mkAgg,hget,hset,isRow,cellOk,setC,after,dstOk,St.put,St.get,lk,St.ev,cv,PV.one,Int.reduceToNat,entry,ent,Nat.reduceAdd,Nat.reduceLT,Nat.reduceBEq,Nat.reduceEqDiff,Nat.reduceLeDiff,Nat.reduceMul,Nat.reduceSub,Int.cast_ofNat_Int,decide_true,decide_false,reduceCtorEq,BEq.rfl,beq_self_eq_true,bne_self_eq_false,ite_true,ite_false,if_true,if_false,reduceIte]
 refine fin_stop trivial (runs_call (all_c [v,w] (by simp)) rfl rfl rfl (by simp only [dstOk,Nat.reduceLT]) (by repeat (first|exact trivial|constructor)) (runs_eval tab_ok ?_))
 simp only [ev0,aops,xstep,guardA,opA,tab,binA,binInt,arith,unA,pickA,convA,allocA,boxA,loadA,storeA,fieldAddrA,fieldA,indexAddrA,lenA,lenS,sliceA,boundA,makeSliceA,elemsA,appendA,buildA,fillA,buildSliceA,partsA,extractA,builtinA,minmaxA,AV.cells,AV.isAgg,allP,mkAgg,hget,hset,isRow,cellOk,setC,after,dstOk,St.put,St.get,lk,St.ev,cv,PV.one,Int.reduceToNat,entry,ent,Nat.reduceAdd,Nat.reduceLT,Nat.reduceBEq,Nat.reduceEqDiff,Nat.reduceLeDiff,Nat.reduceMul,Nat.reduceSub,Int.cast_ofNat_Int,decide_true,decide_false,reduceCtorEq,BEq.rfl,beq_self_eq_true,bne_self_eq_false,ite_true,ite_false,if_true,if_false,reduceIte,fl]
 refine fin_run trivial (hK _ ?_)<;>clear hK<;>clear K
 repeat (first|refine qa ?_|refine qb ?_|refine qc ?_|refine qd ?_|refine qe ?_|refine qf ?_|refine qg rfl ?_|refine qh ?_|refine qi ?_|refine qj ?_|refine qk ?_|refine ql ?_|refine qm ?_)
 (refine hk_region fun K hK=>runs_eval tab_ok ?_); simp only [ev0,aops,xstep,guardA,opA,tab,binA,binInt,arith,unA,pickA,convA,allocA,boxA,loadA,storeA,fieldAddrA,fieldA,indexAddrA,lenA,lenS,sliceA,boundA,makeSliceA,elemsA,appendA,buildA,fillA,buildSliceA,partsA,extractA,builtinA,minmaxA,AV.cells,AV.isAgg,allP,mkAgg,hget,hset,isRow,cellOk,setC,after,dstOk,St.put,St.get,lk,St.ev,cv,PV.one,Int.reduceToNat,entry,ent,Nat.reduceAdd,Nat.reduceLT,Nat.reduceBEq,Nat.reduceEqDiff,Nat.reduceLeDiff,Nat.reduceMul,Nat.reduceSub,Int.cast_ofNat_Int,decide_true,decide_false,reduceCtorEq,BEq.rfl,beq_self_eq_true,bne_self_eq_false,ite_true,ite_false,if_true,if_false,reduceIte]; refine fin_run trivial (hK _ ?_)<;>clear hK<;>clear K; repeat (first|refine qa ?_|refine qb ?_|refine qc ?_|refine qd ?_|refine qe ?_|refine qf ?_|refine qg rfl ?_|refine qh ?_|refine qi ?_|refine qj ?_|refine qk ?_|refine ql ?_|refine qm ?_)
 refine hk_cond rfl (fun hc=>?_) (fun hc=>?_)
 ·have hc:(allS [v,w]).1 ≠ 0:=by simpa using hc
  repeat (first|refine qa ?_|refine qb ?_|refine qc ?_|refine qd ?_|refine qe ?_|refine qf ?_|refine qg rfl ?_|refine qh ?_|refine qi ?_|refine qj ?_|refine qk ?_|refine ql ?_|refine qm ?_)
  refine hk_draw mixed (by kernel_rfl) fun K hK=>runs_eval tab_ok ?_
  simp only [ev0,aops,xstep,guardA,opA,tab,binA,binInt,arith,unA,pickA,convA,allocA,boxA,loadA,storeA,fieldAddrA,fieldA,indexAddrA,lenA,lenS,sliceA,boundA,makeSliceA,elemsA,appendA,buildA,fillA,buildSliceA,partsA,extractA,builtinA,minmaxA,AV.cells,AV.isAgg,allP,mkAgg,hget,hset,isRow,cellOk,setC,after,dstOk,St.put,St.get,lk,St.ev,cv,PV.one,Int.reduceToNat,entry,ent,Nat.reduceAdd,Nat.reduceLT,Nat.reduceBEq,Nat.reduceEqDiff,Nat.reduceLeDiff,Nat.reduceMul,Nat.reduceSub,Int.cast_ofNat_Int,decide_true,decide_false,reduceCtorEq,BEq.rfl,beq_self_eq_true,bne_self_eq_false,ite_true,ite_false,if_true,if_false,reduceIte]
  refine fin_run trivial (hK _ ?_)<;>clear hK<;>clear K
  repeat (first|refine qa ?_|refine qb ?_|refine qc ?_|refine qd ?_|refine qe ?_|refine qf ?_|refine qg rfl ?_|refine qh ?_|refine qi ?_|refine qj ?_|refine qk ?_|refine ql ?_|refine qm ?_)
  simp only [Try.results39,Post,endA,rvsA,rvA,mkTup,peekA,peekG,peekS,peekList,PV.norm,PV.norm1,PV.norm0,PV.list.injEq,PV.tup.injEq,PV.agg.injEq,PV.int.injEq,PV.bool.injEq,List.cons.injEq,ev0,aops,xstep,guardA,opA,tab,binA,binInt,arith,unA,pickA,convA,allocA,boxA,loadA,storeA,fieldAddrA,fieldA,indexAddrA,lenA,lenS,sliceA,boundA,makeSliceA,elemsA,appendA,buildA,fillA,buildSliceA,partsA,extractA,builtinA,minmaxA,AV.cells,AV.isAgg,allP,mkAgg,hget,hset,isRow,cellOk,setC,after,dstOk,St.put,St.get,lk,St.ev,cv,PV.one,Int.reduceToNat,entry,ent,Nat.reduceAdd,Nat.reduceLT,Nat.reduceBEq,Nat.reduceEqDiff,Nat.reduceLeDiff,Nat.reduceMul,Nat.reduceSub,Int.cast_ofNat_Int,decide_true,decide_false,reduceCtorEq,BEq.rfl,beq_self_eq_true,bne_self_eq_false,ite_true,ite_false,if_true,if_false,reduceIte]
  rw [mulS,if_pos hc]
  exact ⟨rfl,rfl⟩
 ·have hc:(allS [v,w]).1=0:=by simpa using hc
  obtain ⟨h1,h2⟩:=allS_sm hc v (by simp)
  obtain ⟨h3,h4⟩:=allS_sm hc w (by simp)
  repeat (first|refine qa ?_|refine qb ?_|refine qc ?_|refine qd ?_|refine qe ?_|refine qf ?_|refine qg rfl ?_|refine qh ?_|refine qi ?_|refine qj ?_|refine qk ?_|refine ql ?_|refine qm ?_)
  refine hk_region fun K hK=>runs_eval tab_ok ?_
  simp only [ev0,aops,xstep,guardA,opA,tab,binA,binInt,arith,unA,pickA,convA,allocA,boxA,loadA,storeA,fieldAddrA,fieldA,indexAddrA,lenA,lenS,sliceA,boundA,makeSliceA,elemsA,appendA,buildA,fillA,buildSliceA,partsA,extractA,builtinA,minmaxA,AV.cells,AV.isAgg,allP,mkAgg,hget,hset,isRow,cellOk,setC,after,dstOk,St.put,St.get,lk,St.ev,cv,PV.one,Int.reduceToNat,entry,ent,Nat.reduceAdd,Nat.reduceLT,Nat.reduceBEq,Nat.reduceEqDiff,Nat.reduceLeDiff,Nat.reduceMul,Nat.reduceSub,Int.cast_ofNat_Int,decide_true,decide_false,reduceCtorEq,BEq.rfl,beq_self_eq_true,bne_self_eq_false,ite_true,ite_false,if_true,if_false,reduceIte]
  refine fin_stop trivial (runs_call (concat_c [v,w] (by rw [cat2]; simp; omega) (by simp)) rfl rfl rfl (by simp only [dstOk,Nat.reduceLT]) (by repeat (first|exact trivial|constructor)) (runs_eval tab_ok ?_))
  rw [cat2]
  simp only [ev0,aops,xstep,guardA,opA,tab,binA,binInt,arith,unA,pickA,convA,allocA,boxA,loadA,storeA,fieldAddrA,fieldA,indexAddrA,lenA,lenS,sliceA,boundA,makeSliceA,elemsA,appendA,buildA,fillA,buildSliceA,partsA,extractA,builtinA,minmaxA,AV.cells,AV.isAgg,allP,mkAgg,hget,hset,isRow,cellOk,setC,after,dstOk,St.put,St.get,lk,St.ev,cv,PV.one,Int.reduceToNat,entry,ent,Nat.reduceAdd,Nat.reduceLT,Nat.reduceBEq,Nat.reduceEqDiff,Nat.reduceLeDiff,Nat.reduceMul,Nat.reduceSub,Int.cast_ofNat_Int,decide_true,decide_false,reduceCtorEq,BEq.rfl,beq_self_eq_true,bne_self_eq_false,ite_true,ite_false,if_true,if_false,reduceIte]
  refine fin_stop trivial (runs_call (short_c (v++w) (by simp; omega) (h1.app h3)) rfl rfl rfl (by simp only [dstOk,Nat.reduceLT]) (by repeat (first|exact trivial|constructor)) (runs_eval tab_ok ?_))
  simp only [ev0,aops,xstep,guardA,opA,tab,binA,binInt,arith,unA,pickA,convA,allocA,boxA,loadA,storeA,fieldAddrA,fieldA,indexAddrA,lenA,lenS,sliceA,boundA,makeSliceA,elemsA,appendA,buildA,fillA,buildSliceA,partsA,extractA,builtinA,minmaxA,AV.cells,AV.isAgg,allP,mkAgg,hget,hset,isRow,cellOk,setC,after,dstOk,St.put,St.get,lk,St.ev,cv,PV.one,Int.reduceToNat,entry,ent,Nat.reduceAdd,Nat.reduceLT,Nat.reduceBEq,Nat.reduceEqDiff,Nat.reduceLeDiff,Nat.reduceMul,Nat.reduceSub,Int.cast_ofNat_Int,decide_true,decide_false,reduceCtorEq,BEq.rfl,beq_self_eq_true,bne_self_eq_false,ite_true,ite_false,if_true,if_false,reduceIte]
  refine fin_run trivial (hK _ ?_)<;>clear hK<;>clear K
  repeat (first|refine qa ?_|refine qb ?_|refine qc ?_|refine qd ?_|refine qe ?_|refine qf ?_|refine qg rfl ?_|refine qh ?_|refine qi ?_|refine qj ?_|refine qk ?_|refine ql ?_|refine qm ?_)
  simp only [Try.results39,Post,endA,rvsA,rvA,mkTup,peekA,peekG,peekS,peekList,PV.norm,PV.norm1,PV.norm0,PV.list.injEq,PV.tup.injEq,PV.agg.injEq,PV.int.injEq,PV.bool.injEq,List.cons.injEq,ev0,aops,xstep,guardA,opA,tab,binA,binInt,arith,unA,pickA,convA,allocA,boxA,loadA,storeA,fieldAddrA,fieldA,indexAddrA,lenA,lenS,sliceA,boundA,makeSliceA,elemsA,appendA,buildA,fillA,buildSliceA,partsA,extractA,builtinA,minmaxA,AV.cells,AV.isAgg,allP,mkAgg,hget,hset,isRow,cellOk,setC,after,dstOk,St.put,St.get,lk,St.ev,cv,PV.one,Int.reduceToNat,entry,ent,Nat.reduceAdd,Nat.reduceLT,Nat.reduceBEq,Nat.reduceEqDiff,Nat.reduceLeDiff,Nat.reduceMul,Nat.reduceSub,Int.cast_ofNat_Int,decide_true,decide_false,reduceCtorEq,BEq.rfl,beq_self_eq_true,bne_self_eq_false,ite_true,ite_false,if_true,if_false,reduceIte]
  rw [mulS,if_neg (by simp [hc])]
  exact ⟨rfl,rfl⟩

/-- No two neighbours cancel. -/
def Red (o:List Int):Prop:=∀ i,i + 1 < o.length→o.getD i 0 ≠ -(o.getD (i + 1) 0)

theorem getD_take {o:List Int} {n i:Nat} (h:i < n):(o.take n).getD i 0=o.getD i 0:=by
 simp [List.getD,List.getElem?_take,h]
theorem getD_app1 {a b:List Int} {i:Nat} (h:i < a.length):(a++b).getD i 0=a.getD i 0:=by
 simp [List.getD,List.getElem?_append_left h]
theorem getD_app2 {a b:List Int} {i:Nat} (h:a.length≤i):(a++b).getD i 0=b.getD (i - a.length) 0:=by
 simp [List.getD,List.getElem?_append_right h]
theorem Red.take {o:List Int} (h:Red o) (n:Nat):Red (o.take n):=by
 intro i hi
 rw [List.length_take] at hi
 rw [getD_take (by omega),getD_take (by omega)]
 exact h i (by omega)

theorem red_push {o:List Int} {x:Int} (h:Red o):Red (push o x):=by
 unfold push
 split
 ·exact h.take _
 ·rename_i hn
  intro i hi
  simp only [List.length_append,List.length_cons,List.length_nil] at hi
  by_cases hl:i + 1 < o.length
  ·rw [getD_app1 (by omega),getD_app1 hl]; exact h i hl
  ·have e:i=o.length - 1:=by omega
   rw [getD_app1 (by omega),getD_app2 (by omega),e]
   intro hc
   apply hn
   refine ⟨by omega,?_⟩
   rw [hc]
   have:o.length - 1 + 1 - o.length=0:=by omega
   rw [this]; rfl

theorem red_short (w:List Int):Red (short w):=by
 have:∀ (w o:List Int),Red o→Red (w.foldl push o):=by
  intro w
  induction w with
  | nil=>intro o h; exact h
  | cons x r ih=>intro o h; exact ih _ (red_push h)
 exact this w [] (fun i hi=>by simp at hi)

theorem take_last {o:List Int} (h:0 < o.length):o.take (o.length - 1)++[o.getD (o.length - 1) 0]=o:=by
 have:o.length - 1 < o.length:=by omega
 have e:=List.take_succ_eq_append_getElem this
 rw [show o.length - 1 + 1=o.length by omega,List.take_length] at e
 simp [List.getD,List.getElem?_eq_getElem this,← e]

theorem push_cancel {o:List Int} (x:Int) (h:Red o):push (push o x) (-x)=o:=by
 by_cases hc:0 < o.length∧o.getD (o.length - 1) 0 = -x
 ·have e1:push o x=o.take (o.length - 1):=by rw [push,if_pos hc]
  rw [e1]
  have hl:(o.take (o.length - 1)).length=o.length - 1:=by simp
  rw [push,hl,if_neg ?_]
  ·have:=take_last hc.1
   rw [hc.2] at this; exact this
  ·rintro ⟨h1,h2⟩
   rw [getD_take (by omega),Int.neg_neg] at h2
   have:=h (o.length - 1 - 1) (by omega)
   rw [show o.length - 1 - 1 + 1=o.length - 1 by omega,hc.2,h2] at this
   simp at this
 ·have e1:push o x=o++[x]:=by rw [push,if_neg hc]
  rw [e1,push,if_pos]
  ·simp
  ·simp [List.getD]

theorem short_app (a b:List Int):short (a++b)=b.foldl push (short a):=by simp [short,List.foldl_append]

theorem short_cancel (a r:List Int) (x:Int):short (a++x :: -x :: r)=short (a++r):=by
 rw [short_app,short_app]
 simp only [List.foldl_cons]
 rw [push_cancel x (red_short a)]

theorem short_red {w:List Int} (h:Red w):short w=w:=by
 have key:∀ n,n≤w.length→short (w.take n)=w.take n:=by
  intro n
  induction n with
  | zero=>intro _; rfl
  | succ n ih =>
   intro hn
   rw [short_snoc w n hn,ih (by omega),push,if_neg ?_]
   ·rw [List.take_succ_eq_append_getElem hn]
    simp [List.getD,List.getElem?_eq_getElem hn]
   ·rintro ⟨h1,h2⟩
    rw [List.length_take,Nat.min_eq_left (by omega)] at h1 h2
    rw [getD_take (by omega)] at h2
    have:=h (n - 1) (by omega)
    rw [show n - 1 + 1=n by omega] at this
    exact this h2
 have:=key w.length (Nat.le_refl _)
 rwa [List.take_length] at this

theorem short_short (w:List Int):short (short w)=short w:=short_red (red_short w)

theorem splice {w:List Int} {i:Nat} (h:i + 1 < w.length):w=w.take i++w.getD i 0 :: w.getD (i + 1) 0 :: w.drop (i + 2):=by
 have h0:i < w.length:=by omega
 have e1:=List.drop_eq_getElem_cons h0
 have e2:=List.drop_eq_getElem_cons h
 have:=List.take_append_drop i w
 rw [e1,e2] at this
 simp [List.getD,List.getElem?_eq_getElem h0,List.getElem?_eq_getElem h,this]

theorem f_c (c a:Int):FnC Try.prog 25 [.int .i64 c,.int .i64 a] (.agg [.int .i64 c,.int .i64 a]):=by
 refine fnc_of tab_ok Try.func25 rfl (by kernel_rfl) (by rw [Try.ntmps25]; exact Nat.le_add_left 2 _) ?_; rw [Try.ntmps25]; repeat (first|refine qa ?_|refine qb ?_|refine qc ?_|refine qd ?_|refine qe ?_|refine qf ?_|refine qg rfl ?_|refine qh ?_|refine qi ?_|refine qj ?_|refine qk ?_|refine ql ?_|refine qm ?_)
 (refine hk_region fun K hK=>runs_eval tab_ok ?_); simp only [ev0,aops,xstep,guardA,opA,tab,binA,binInt,arith,unA,pickA,convA,allocA,boxA,loadA,storeA,fieldAddrA,fieldA,indexAddrA,lenA,lenS,sliceA,boundA,makeSliceA,elemsA,appendA,buildA,fillA,buildSliceA,partsA,extractA,builtinA,minmaxA,AV.cells,AV.isAgg,allP,mkAgg,hget,hset,isRow,cellOk,setC,after,dstOk,St.put,St.get,lk,St.ev,cv,PV.one,Int.reduceToNat,entry,ent,Nat.reduceAdd,Nat.reduceLT,Nat.reduceBEq,Nat.reduceEqDiff,Nat.reduceLeDiff,Nat.reduceMul,Nat.reduceSub,Int.cast_ofNat_Int,decide_true,decide_false,reduceCtorEq,BEq.rfl,beq_self_eq_true,bne_self_eq_false,ite_true,ite_false,if_true,if_false,reduceIte]; refine fin_run trivial (hK _ ?_)<;>clear hK<;>clear K; repeat (first|refine qa ?_|refine qb ?_|refine qc ?_|refine qd ?_|refine qe ?_|refine qf ?_|refine qg rfl ?_|refine qh ?_|refine qi ?_|refine qj ?_|refine qk ?_|refine ql ?_|refine qm ?_)
 (refine hk_region fun K hK=>runs_eval tab_ok ?_); simp only [ev0,aops,xstep,guardA,opA,tab,binA,binInt,arith,unA,pickA,convA,allocA,boxA,loadA,storeA,fieldAddrA,fieldA,indexAddrA,lenA,lenS,sliceA,boundA,makeSliceA,elemsA,appendA,buildA,fillA,buildSliceA,partsA,extractA,builtinA,minmaxA,AV.cells,AV.isAgg,allP,mkAgg,hget,hset,isRow,cellOk,setC,after,dstOk,St.put,St.get,lk,St.ev,cv,PV.one,Int.reduceToNat,entry,ent,Nat.reduceAdd,Nat.reduceLT,Nat.reduceBEq,Nat.reduceEqDiff,Nat.reduceLeDiff,Nat.reduceMul,Nat.reduceSub,Int.cast_ofNat_Int,decide_true,decide_false,reduceCtorEq,BEq.rfl,beq_self_eq_true,bne_self_eq_false,ite_true,ite_false,if_true,if_false,reduceIte]; refine fin_run trivial (hK _ ?_)<;>clear hK<;>clear K; repeat (first|refine qa ?_|refine qb ?_|refine qc ?_|refine qd ?_|refine qe ?_|refine qf ?_|refine qg rfl ?_|refine qh ?_|refine qi ?_|refine qj ?_|refine qk ?_|refine ql ?_|refine qm ?_)
 simp only [Try.results25,Post,endA,rvsA,rvA,mkTup,peekA,peekG,peekS,peekList,PV.norm,PV.norm1,PV.norm0,PV.list.injEq,PV.tup.injEq,PV.agg.injEq,PV.int.injEq,PV.bool.injEq,List.cons.injEq,ev0,aops,xstep,guardA,opA,tab,binA,binInt,arith,unA,pickA,convA,allocA,boxA,loadA,storeA,fieldAddrA,fieldA,indexAddrA,lenA,lenS,sliceA,boundA,makeSliceA,elemsA,appendA,buildA,fillA,buildSliceA,partsA,extractA,builtinA,minmaxA,AV.cells,AV.isAgg,allP,mkAgg,hget,hset,isRow,cellOk,setC,after,dstOk,St.put,St.get,lk,St.ev,cv,PV.one,Int.reduceToNat,entry,ent,Nat.reduceAdd,Nat.reduceLT,Nat.reduceBEq,Nat.reduceEqDiff,Nat.reduceLeDiff,Nat.reduceMul,Nat.reduceSub,Int.cast_ofNat_Int,decide_true,decide_false,reduceCtorEq,BEq.rfl,beq_self_eq_true,bne_self_eq_false,ite_true,ite_false,if_true,if_false,reduceIte]

theorem wordFault_c (w:List Int):FnC Try.prog 28 [.list (il w)] (fl (check w)):=by
 refine fnc_of tab_ok Try.func28 rfl (by kernel_rfl) (by rw [Try.ntmps28]; exact Nat.le_add_left 1 _) ?_; rw [Try.ntmps28]; repeat (first|refine qa ?_|refine qb ?_|refine qc ?_|refine qd ?_|refine qe ?_|refine qf ?_|refine qg rfl ?_|refine qh ?_|refine qi ?_|refine qj ?_|refine qk ?_|refine ql ?_|refine qm ?_)
 (refine hk_region fun K hK=>runs_eval tab_ok ?_); simp only [ev0,aops,xstep,guardA,opA,tab,binA,binInt,arith,unA,pickA,convA,allocA,boxA,loadA,storeA,fieldAddrA,fieldA,indexAddrA,lenA,lenS,sliceA,boundA,makeSliceA,elemsA,appendA,buildA,fillA,buildSliceA,partsA,extractA,builtinA,minmaxA,AV.cells,AV.isAgg,allP,mkAgg,hget,hset,isRow,cellOk,setC,after,dstOk,St.put,St.get,lk,St.ev,cv,PV.one,Int.reduceToNat,entry,ent,Nat.reduceAdd,Nat.reduceLT,Nat.reduceBEq,Nat.reduceEqDiff,Nat.reduceLeDiff,Nat.reduceMul,Nat.reduceSub,Int.cast_ofNat_Int,decide_true,decide_false,reduceCtorEq,BEq.rfl,beq_self_eq_true,bne_self_eq_false,ite_true,ite_false,if_true,if_false,reduceIte]; refine fin_run trivial (hK _ ?_)<;>clear hK<;>clear K; repeat (first|refine qa ?_|refine qb ?_|refine qc ?_|refine qd ?_|refine qe ?_|refine qf ?_|refine qg rfl ?_|refine qh ?_|refine qi ?_|refine qj ?_|refine qk ?_|refine ql ?_|refine qm ?_)
 (refine hk_region fun K hK=>runs_eval tab_ok ?_); simp only [ev0,aops,xstep,guardA,opA,tab,binA,binInt,arith,unA,pickA,convA,allocA,boxA,loadA,storeA,fieldAddrA,fieldA,indexAddrA,lenA,lenS,sliceA,boundA,makeSliceA,elemsA,appendA,buildA,fillA,buildSliceA,partsA,extractA,builtinA,minmaxA,AV.cells,AV.isAgg,allP,mkAgg,hget,hset,isRow,cellOk,setC,after,dstOk,St.put,St.get,lk,St.ev,cv,PV.one,Int.reduceToNat,entry,ent,Nat.reduceAdd,Nat.reduceLT,Nat.reduceBEq,Nat.reduceEqDiff,Nat.reduceLeDiff,Nat.reduceMul,Nat.reduceSub,Int.cast_ofNat_Int,decide_true,decide_false,reduceCtorEq,BEq.rfl,beq_self_eq_true,bne_self_eq_false,ite_true,ite_false,if_true,if_false,reduceIte]; refine fin_run trivial (hK _ ?_)<;>clear hK<;>clear K; repeat (first|refine qa ?_|refine qb ?_|refine qc ?_|refine qd ?_|refine qe ?_|refine qf ?_|refine qg rfl ?_|refine qh ?_|refine qi ?_|refine qj ?_|refine qk ?_|refine ql ?_|refine qm ?_)
 refine hk_cond rfl (fun h=>?_) (fun h=>?_)
 ·repeat (first|refine qa ?_|refine qb ?_|refine qc ?_|refine qd ?_|refine qe ?_|refine qf ?_|refine qg rfl ?_|refine qh ?_|refine qi ?_|refine qj ?_|refine qk ?_|refine ql ?_|refine qm ?_)
  refine hk_region fun K hK=>runs_eval tab_ok ?_
  simp only [ev0,aops,xstep,guardA,opA,tab,binA,binInt,arith,unA,pickA,convA,allocA,boxA,loadA,storeA,fieldAddrA,fieldA,indexAddrA,lenA,lenS,sliceA,boundA,makeSliceA,elemsA,appendA,buildA,fillA,buildSliceA,partsA,extractA,builtinA,minmaxA,AV.cells,AV.isAgg,allP,mkAgg,hget,hset,isRow,cellOk,setC,after,dstOk,St.put,St.get,lk,St.ev,cv,PV.one,Int.reduceToNat,entry,ent,Nat.reduceAdd,Nat.reduceLT,Nat.reduceBEq,Nat.reduceEqDiff,Nat.reduceLeDiff,Nat.reduceMul,Nat.reduceSub,Int.cast_ofNat_Int,decide_true,decide_false,reduceCtorEq,BEq.rfl,beq_self_eq_true,bne_self_eq_false,ite_true,ite_false,if_true,if_false,reduceIte]
  refine fin_stop trivial (runs_call (f_c 2 0) rfl rfl rfl (by simp only [dstOk,Nat.reduceLT]) (by repeat (first|exact trivial|constructor)) (runs_eval tab_ok ?_))
  simp only [ev0,aops,xstep,guardA,opA,tab,binA,binInt,arith,unA,pickA,convA,allocA,boxA,loadA,storeA,fieldAddrA,fieldA,indexAddrA,lenA,lenS,sliceA,boundA,makeSliceA,elemsA,appendA,buildA,fillA,buildSliceA,partsA,extractA,builtinA,minmaxA,AV.cells,AV.isAgg,allP,mkAgg,hget,hset,isRow,cellOk,setC,after,dstOk,St.put,St.get,lk,St.ev,cv,PV.one,Int.reduceToNat,entry,ent,Nat.reduceAdd,Nat.reduceLT,Nat.reduceBEq,Nat.reduceEqDiff,Nat.reduceLeDiff,Nat.reduceMul,Nat.reduceSub,Int.cast_ofNat_Int,decide_true,decide_false,reduceCtorEq,BEq.rfl,beq_self_eq_true,bne_self_eq_false,ite_true,ite_false,if_true,if_false,reduceIte]
  refine fin_run trivial (hK _ ?_)<;>clear hK<;>clear K
  repeat (first|refine qa ?_|refine qb ?_|refine qc ?_|refine qd ?_|refine qe ?_|refine qf ?_|refine qg rfl ?_|refine qh ?_|refine qi ?_|refine qj ?_|refine qk ?_|refine ql ?_|refine qm ?_)
  simp only [Try.results28,Post,endA,rvsA,rvA,mkTup,peekA,peekG,peekS,peekList,PV.norm,PV.norm1,PV.norm0,PV.list.injEq,PV.tup.injEq,PV.agg.injEq,PV.int.injEq,PV.bool.injEq,List.cons.injEq,ev0,aops,xstep,guardA,opA,tab,binA,binInt,arith,unA,pickA,convA,allocA,boxA,loadA,storeA,fieldAddrA,fieldA,indexAddrA,lenA,lenS,sliceA,boundA,makeSliceA,elemsA,appendA,buildA,fillA,buildSliceA,partsA,extractA,builtinA,minmaxA,AV.cells,AV.isAgg,allP,mkAgg,hget,hset,isRow,cellOk,setC,after,dstOk,St.put,St.get,lk,St.ev,cv,PV.one,Int.reduceToNat,entry,ent,Nat.reduceAdd,Nat.reduceLT,Nat.reduceBEq,Nat.reduceEqDiff,Nat.reduceLeDiff,Nat.reduceMul,Nat.reduceSub,Int.cast_ofNat_Int,decide_true,decide_false,reduceCtorEq,BEq.rfl,beq_self_eq_true,bne_self_eq_false,ite_true,ite_false,if_true,if_false,reduceIte]
  simp [check,fl,of_decide_eq_true h]
 ·have hw:w.length≤2000:=by have:=of_decide_eq_false h; omega
  repeat (first|refine qa ?_|refine qb ?_|refine qc ?_|refine qd ?_|refine qe ?_|refine qf ?_|refine qg rfl ?_|refine qh ?_|refine qi ?_|refine qj ?_|refine qk ?_|refine ql ?_|refine qm ?_)
  (refine hk_region fun K hK=>runs_eval tab_ok ?_); simp only [ev0,aops,xstep,guardA,opA,tab,binA,binInt,arith,unA,pickA,convA,allocA,boxA,loadA,storeA,fieldAddrA,fieldA,indexAddrA,lenA,lenS,sliceA,boundA,makeSliceA,elemsA,appendA,buildA,fillA,buildSliceA,partsA,extractA,builtinA,minmaxA,AV.cells,AV.isAgg,allP,mkAgg,hget,hset,isRow,cellOk,setC,after,dstOk,St.put,St.get,lk,St.ev,cv,PV.one,Int.reduceToNat,entry,ent,Nat.reduceAdd,Nat.reduceLT,Nat.reduceBEq,Nat.reduceEqDiff,Nat.reduceLeDiff,Nat.reduceMul,Nat.reduceSub,Int.cast_ofNat_Int,decide_true,decide_false,reduceCtorEq,BEq.rfl,beq_self_eq_true,bne_self_eq_false,ite_true,ite_false,if_true,if_false,reduceIte]; refine fin_run trivial (hK _ ?_)<;>clear hK<;>clear K; repeat (first|refine qa ?_|refine qb ?_|refine qc ?_|refine qd ?_|refine qe ?_|refine qf ?_|refine qg rfl ?_|refine qh ?_|refine qi ?_|refine qj ?_|refine qk ?_|refine ql ?_|refine qm ?_)
  refine hk_loop (ι:=Nat) (fun i=>⟨36,[(0,.p (.list (il w))),(2,.ptr 0 0),(3,.p (.int .i64 i))],[.own [.p (.int .i64 0),.p (.int .i64 0)]]⟩) (fun i=>i≤w.length∧chk i (w.drop i)=chk 0 w) (fun i=>w.length - i) 0 ⟨Nat.zero_le _,rfl⟩ [0] (by simp only [AV.p.injEq,AV.sl.injEq,AV.ptr.injEq,Blk.own.injEq,PV.int.injEq,PV.bool.injEq,PV.list.injEq,Nat.sub_zero,Int.natCast_add,List.length_append,take_take_len,take_app1,take_app2,Le,LeH,LeS,LeB,ren,ren1,scA,sc1,List.nodup_cons,List.nodup_nil,List.mem_cons,List.not_mem_nil,or_false,not_false_eq_true,ev0,aops,xstep,guardA,opA,tab,binA,binInt,arith,unA,pickA,convA,allocA,boxA,loadA,storeA,fieldAddrA,fieldA,indexAddrA,lenA,lenS,sliceA,boundA,makeSliceA,elemsA,appendA,buildA,fillA,buildSliceA,partsA,extractA,builtinA,minmaxA,AV.cells,AV.isAgg,allP,mkAgg,hget,hset,isRow,cellOk,setC,after,dstOk,St.put,St.get,lk,St.ev,cv,PV.one,Int.reduceToNat,entry,ent,Nat.reduceAdd,Nat.reduceLT,Nat.reduceBEq,Nat.reduceEqDiff,Nat.reduceLeDiff,Nat.reduceMul,Nat.reduceSub,Int.cast_ofNat_Int,decide_true,decide_false,reduceCtorEq,BEq.rfl,beq_self_eq_true,bne_self_eq_false,ite_true,ite_false,if_true,if_false,reduceIte]<;>trivial) fun i hi=>?_
  repeat (first|refine qa ?_|refine qb ?_|refine qc ?_|refine qd ?_|refine qe ?_|refine qf ?_|refine qg rfl ?_|refine qh ?_|refine qi ?_|refine qj ?_|refine qk ?_|refine ql ?_|refine qm ?_)
  (refine hk_region fun K hK=>runs_eval tab_ok ?_); simp only [ev0,aops,xstep,guardA,opA,tab,binA,binInt,arith,unA,pickA,convA,allocA,boxA,loadA,storeA,fieldAddrA,fieldA,indexAddrA,lenA,lenS,sliceA,boundA,makeSliceA,elemsA,appendA,buildA,fillA,buildSliceA,partsA,extractA,builtinA,minmaxA,AV.cells,AV.isAgg,allP,mkAgg,hget,hset,isRow,cellOk,setC,after,dstOk,St.put,St.get,lk,St.ev,cv,PV.one,Int.reduceToNat,entry,ent,Nat.reduceAdd,Nat.reduceLT,Nat.reduceBEq,Nat.reduceEqDiff,Nat.reduceLeDiff,Nat.reduceMul,Nat.reduceSub,Int.cast_ofNat_Int,decide_true,decide_false,reduceCtorEq,BEq.rfl,beq_self_eq_true,bne_self_eq_false,ite_true,ite_false,if_true,if_false,reduceIte]; refine fin_run trivial (hK _ ?_)<;>clear hK<;>clear K; repeat (first|refine qa ?_|refine qb ?_|refine qc ?_|refine qd ?_|refine qe ?_|refine qf ?_|refine qg rfl ?_|refine qh ?_|refine qi ?_|refine qj ?_|refine qk ?_|refine ql ?_|refine qm ?_)
  refine hk_cond rfl (fun hlt=>?_) (fun hlt=>?_)
  ·repeat (first|refine qa ?_|refine qb ?_|refine qc ?_|refine qd ?_|refine qe ?_|refine qf ?_|refine qg rfl ?_|refine qh ?_|refine qi ?_|refine qj ?_|refine qk ?_|refine ql ?_|refine qm ?_)
   have hlt:i < w.length:=by have:=of_decide_eq_true hlt; omega
   obtain ⟨hi1,hi2⟩:=hi
   have hdrop:w.drop i=w.getD i 0 :: w.drop (i + 1):=by
    rw [List.drop_eq_getElem_cons hlt]; simp [List.getD,List.getElem?_eq_getElem hlt]
   have next:¬ (w.getD i 0=0∨w.getD i 0 < -26∨w.getD i 0 > 26)→chk (i + 1) (w.drop (i + 1))=chk 0 w:=by
    intro hn
    rw [hdrop,chk,if_neg hn] at hi2; exact hi2
   have last:(w.getD i 0=0∨w.getD i 0 < -26∨w.getD i 0 > 26)→chk 0 w=(3,(i:Int)):=by
    intro hn
    rw [hdrop,chk,if_pos hn] at hi2; exact hi2.symm
   have hg:=il_get hlt
   refine hk_cut ⟨36,[(32,.p (.bool (decide (w.getD i 0=0∨w.getD i 0 < -26∨w.getD i 0 > 26)))),(0,.p (.list (il w))),(2,.ptr 0 0),(3,.p (.int .i64 i))],[.own [.p (.int .i64 0),.p (.int .i64 0)]]⟩ ?_ ?_
   ·generalize w.getD i 0=x at *
    cases e1:(x == 0)
    ·cases e2:decide (x > 26)
     ·refine hk_region fun K hK=>runs_eval tab_ok ?_
      simp only [ev0,aops,xstep,guardA,opA,tab,binA,binInt,arith,unA,pickA,convA,allocA,boxA,loadA,storeA,fieldAddrA,fieldA,indexAddrA,lenA,lenS,sliceA,boundA,makeSliceA,elemsA,appendA,buildA,fillA,buildSliceA,partsA,extractA,builtinA,minmaxA,AV.cells,AV.isAgg,allP,mkAgg,hget,hset,isRow,cellOk,setC,after,dstOk,St.put,St.get,lk,St.ev,cv,PV.one,Int.reduceToNat,entry,ent,Nat.reduceAdd,Nat.reduceLT,Nat.reduceBEq,Nat.reduceEqDiff,Nat.reduceLeDiff,Nat.reduceMul,Nat.reduceSub,Int.cast_ofNat_Int,decide_true,decide_false,reduceCtorEq,BEq.rfl,beq_self_eq_true,bne_self_eq_false,ite_true,ite_false,if_true,if_false,reduceIte,hg,e1,e2]
      refine fin_run ?_ (hK _ ?_)<;>clear hK<;>clear K
      ·omega
      refine ⟨rfl,[0],?_⟩; simp only [AV.p.injEq,AV.sl.injEq,AV.ptr.injEq,Blk.own.injEq,PV.int.injEq,PV.bool.injEq,PV.list.injEq,Nat.sub_zero,Int.natCast_add,List.length_append,take_take_len,take_app1,take_app2,Le,LeH,LeS,LeB,ren,ren1,scA,sc1,List.nodup_cons,List.nodup_nil,List.mem_cons,List.not_mem_nil,or_false,not_false_eq_true,ev0,aops,xstep,guardA,opA,tab,binA,binInt,arith,unA,pickA,convA,allocA,boxA,loadA,storeA,fieldAddrA,fieldA,indexAddrA,lenA,lenS,sliceA,boundA,makeSliceA,elemsA,appendA,buildA,fillA,buildSliceA,partsA,extractA,builtinA,minmaxA,AV.cells,AV.isAgg,allP,mkAgg,hget,hset,isRow,cellOk,setC,after,dstOk,St.put,St.get,lk,St.ev,cv,PV.one,Int.reduceToNat,entry,ent,Nat.reduceAdd,Nat.reduceLT,Nat.reduceBEq,Nat.reduceEqDiff,Nat.reduceLeDiff,Nat.reduceMul,Nat.reduceSub,Int.cast_ofNat_Int,decide_true,decide_false,reduceCtorEq,BEq.rfl,beq_self_eq_true,bne_self_eq_false,ite_true,ite_false,if_true,if_false,reduceIte]; (first|exact trivial|omega|(simp only [In64] at *; omega)|(rw [Bool.eq_iff_iff]; simp; done)|(rw [Bool.eq_iff_iff]; simp; omega)|(simp [In64] at *; omega)|(simp_all; done)|(simp_all [In64]<;>omega)|skip)
     ·refine hk_region fun K hK=>runs_eval tab_ok ?_
      simp only [ev0,aops,xstep,guardA,opA,tab,binA,binInt,arith,unA,pickA,convA,allocA,boxA,loadA,storeA,fieldAddrA,fieldA,indexAddrA,lenA,lenS,sliceA,boundA,makeSliceA,elemsA,appendA,buildA,fillA,buildSliceA,partsA,extractA,builtinA,minmaxA,AV.cells,AV.isAgg,allP,mkAgg,hget,hset,isRow,cellOk,setC,after,dstOk,St.put,St.get,lk,St.ev,cv,PV.one,Int.reduceToNat,entry,ent,Nat.reduceAdd,Nat.reduceLT,Nat.reduceBEq,Nat.reduceEqDiff,Nat.reduceLeDiff,Nat.reduceMul,Nat.reduceSub,Int.cast_ofNat_Int,decide_true,decide_false,reduceCtorEq,BEq.rfl,beq_self_eq_true,bne_self_eq_false,ite_true,ite_false,if_true,if_false,reduceIte,hg,e1,e2]
      refine fin_run ?_ (hK _ ?_)<;>clear hK<;>clear K
      ·omega
      refine ⟨rfl,[0],?_⟩; simp only [AV.p.injEq,AV.sl.injEq,AV.ptr.injEq,Blk.own.injEq,PV.int.injEq,PV.bool.injEq,PV.list.injEq,Nat.sub_zero,Int.natCast_add,List.length_append,take_take_len,take_app1,take_app2,Le,LeH,LeS,LeB,ren,ren1,scA,sc1,List.nodup_cons,List.nodup_nil,List.mem_cons,List.not_mem_nil,or_false,not_false_eq_true,ev0,aops,xstep,guardA,opA,tab,binA,binInt,arith,unA,pickA,convA,allocA,boxA,loadA,storeA,fieldAddrA,fieldA,indexAddrA,lenA,lenS,sliceA,boundA,makeSliceA,elemsA,appendA,buildA,fillA,buildSliceA,partsA,extractA,builtinA,minmaxA,AV.cells,AV.isAgg,allP,mkAgg,hget,hset,isRow,cellOk,setC,after,dstOk,St.put,St.get,lk,St.ev,cv,PV.one,Int.reduceToNat,entry,ent,Nat.reduceAdd,Nat.reduceLT,Nat.reduceBEq,Nat.reduceEqDiff,Nat.reduceLeDiff,Nat.reduceMul,Nat.reduceSub,Int.cast_ofNat_Int,decide_true,decide_false,reduceCtorEq,BEq.rfl,beq_self_eq_true,bne_self_eq_false,ite_true,ite_false,if_true,if_false,reduceIte]; (first|exact trivial|omega|(simp only [In64] at *; omega)|(rw [Bool.eq_iff_iff]; simp; done)|(rw [Bool.eq_iff_iff]; simp; omega)|(simp [In64] at *; omega)|(simp_all; done)|(simp_all [In64]<;>omega)|skip)
    ·refine hk_region fun K hK=>runs_eval tab_ok ?_
     simp only [ev0,aops,xstep,guardA,opA,tab,binA,binInt,arith,unA,pickA,convA,allocA,boxA,loadA,storeA,fieldAddrA,fieldA,indexAddrA,lenA,lenS,sliceA,boundA,makeSliceA,elemsA,appendA,buildA,fillA,buildSliceA,partsA,extractA,builtinA,minmaxA,AV.cells,AV.isAgg,allP,mkAgg,hget,hset,isRow,cellOk,setC,after,dstOk,St.put,St.get,lk,St.ev,cv,PV.one,Int.reduceToNat,entry,ent,Nat.reduceAdd,Nat.reduceLT,Nat.reduceBEq,Nat.reduceEqDiff,Nat.reduceLeDiff,Nat.reduceMul,Nat.reduceSub,Int.cast_ofNat_Int,decide_true,decide_false,reduceCtorEq,BEq.rfl,beq_self_eq_true,bne_self_eq_false,ite_true,ite_false,if_true,if_false,reduceIte,hg,e1]
     refine fin_run ?_ (hK _ ?_)<;>clear hK<;>clear K
     ·omega
     refine ⟨rfl,[0],?_⟩; simp only [AV.p.injEq,AV.sl.injEq,AV.ptr.injEq,Blk.own.injEq,PV.int.injEq,PV.bool.injEq,PV.list.injEq,Nat.sub_zero,Int.natCast_add,List.length_append,take_take_len,take_app1,take_app2,Le,LeH,LeS,LeB,ren,ren1,scA,sc1,List.nodup_cons,List.nodup_nil,List.mem_cons,List.not_mem_nil,or_false,not_false_eq_true,ev0,aops,xstep,guardA,opA,tab,binA,binInt,arith,unA,pickA,convA,allocA,boxA,loadA,storeA,fieldAddrA,fieldA,indexAddrA,lenA,lenS,sliceA,boundA,makeSliceA,elemsA,appendA,buildA,fillA,buildSliceA,partsA,extractA,builtinA,minmaxA,AV.cells,AV.isAgg,allP,mkAgg,hget,hset,isRow,cellOk,setC,after,dstOk,St.put,St.get,lk,St.ev,cv,PV.one,Int.reduceToNat,entry,ent,Nat.reduceAdd,Nat.reduceLT,Nat.reduceBEq,Nat.reduceEqDiff,Nat.reduceLeDiff,Nat.reduceMul,Nat.reduceSub,Int.cast_ofNat_Int,decide_true,decide_false,reduceCtorEq,BEq.rfl,beq_self_eq_true,bne_self_eq_false,ite_true,ite_false,if_true,if_false,reduceIte]; (first|exact trivial|omega|(simp only [In64] at *; omega)|(rw [Bool.eq_iff_iff]; simp; done)|(rw [Bool.eq_iff_iff]; simp; omega)|(simp [In64] at *; omega)|(simp_all; done)|(simp_all [In64]<;>omega)|skip)
   ·refine hk_cond rfl (fun hc=>?_) (fun hc=>?_)
    ·repeat (first|refine qa ?_|refine qb ?_|refine qc ?_|refine qd ?_|refine qe ?_|refine qf ?_|refine qg rfl ?_|refine qh ?_|refine qi ?_|refine qj ?_|refine qk ?_|refine ql ?_|refine qm ?_)
     refine hk_region fun K hK=>runs_eval tab_ok ?_
     simp only [ev0,aops,xstep,guardA,opA,tab,binA,binInt,arith,unA,pickA,convA,allocA,boxA,loadA,storeA,fieldAddrA,fieldA,indexAddrA,lenA,lenS,sliceA,boundA,makeSliceA,elemsA,appendA,buildA,fillA,buildSliceA,partsA,extractA,builtinA,minmaxA,AV.cells,AV.isAgg,allP,mkAgg,hget,hset,isRow,cellOk,setC,after,dstOk,St.put,St.get,lk,St.ev,cv,PV.one,Int.reduceToNat,entry,ent,Nat.reduceAdd,Nat.reduceLT,Nat.reduceBEq,Nat.reduceEqDiff,Nat.reduceLeDiff,Nat.reduceMul,Nat.reduceSub,Int.cast_ofNat_Int,decide_true,decide_false,reduceCtorEq,BEq.rfl,beq_self_eq_true,bne_self_eq_false,ite_true,ite_false,if_true,if_false,reduceIte]
     refine fin_stop trivial (runs_call (f_c 3 i) rfl rfl rfl (by simp only [dstOk,Nat.reduceLT]) (by repeat (first|exact trivial|constructor)) (runs_eval tab_ok ?_))
     simp only [ev0,aops,xstep,guardA,opA,tab,binA,binInt,arith,unA,pickA,convA,allocA,boxA,loadA,storeA,fieldAddrA,fieldA,indexAddrA,lenA,lenS,sliceA,boundA,makeSliceA,elemsA,appendA,buildA,fillA,buildSliceA,partsA,extractA,builtinA,minmaxA,AV.cells,AV.isAgg,allP,mkAgg,hget,hset,isRow,cellOk,setC,after,dstOk,St.put,St.get,lk,St.ev,cv,PV.one,Int.reduceToNat,entry,ent,Nat.reduceAdd,Nat.reduceLT,Nat.reduceBEq,Nat.reduceEqDiff,Nat.reduceLeDiff,Nat.reduceMul,Nat.reduceSub,Int.cast_ofNat_Int,decide_true,decide_false,reduceCtorEq,BEq.rfl,beq_self_eq_true,bne_self_eq_false,ite_true,ite_false,if_true,if_false,reduceIte]
     refine fin_run trivial (hK _ ?_)<;>clear hK<;>clear K
     repeat (first|refine qa ?_|refine qb ?_|refine qc ?_|refine qd ?_|refine qe ?_|refine qf ?_|refine qg rfl ?_|refine qh ?_|refine qi ?_|refine qj ?_|refine qk ?_|refine ql ?_|refine qm ?_)
     simp only [Try.results28,Post,endA,rvsA,rvA,mkTup,peekA,peekG,peekS,peekList,PV.norm,PV.norm1,PV.norm0,PV.list.injEq,PV.tup.injEq,PV.agg.injEq,PV.int.injEq,PV.bool.injEq,List.cons.injEq,ev0,aops,xstep,guardA,opA,tab,binA,binInt,arith,unA,pickA,convA,allocA,boxA,loadA,storeA,fieldAddrA,fieldA,indexAddrA,lenA,lenS,sliceA,boundA,makeSliceA,elemsA,appendA,buildA,fillA,buildSliceA,partsA,extractA,builtinA,minmaxA,AV.cells,AV.isAgg,allP,mkAgg,hget,hset,isRow,cellOk,setC,after,dstOk,St.put,St.get,lk,St.ev,cv,PV.one,Int.reduceToNat,entry,ent,Nat.reduceAdd,Nat.reduceLT,Nat.reduceBEq,Nat.reduceEqDiff,Nat.reduceLeDiff,Nat.reduceMul,Nat.reduceSub,Int.cast_ofNat_Int,decide_true,decide_false,reduceCtorEq,BEq.rfl,beq_self_eq_true,bne_self_eq_false,ite_true,ite_false,if_true,if_false,reduceIte]
     rw [check,if_neg (by omega),last (of_decide_eq_true hc)]; rfl
    ·repeat (first|refine qa ?_|refine qb ?_|refine qc ?_|refine qd ?_|refine qe ?_|refine qf ?_|refine qg rfl ?_|refine qh ?_|refine qi ?_|refine qj ?_|refine qk ?_|refine ql ?_|refine qm ?_)
     refine hk_region fun K hK=>runs_eval tab_ok ?_
     simp only [ev0,aops,xstep,guardA,opA,tab,binA,binInt,arith,unA,pickA,convA,allocA,boxA,loadA,storeA,fieldAddrA,fieldA,indexAddrA,lenA,lenS,sliceA,boundA,makeSliceA,elemsA,appendA,buildA,fillA,buildSliceA,partsA,extractA,builtinA,minmaxA,AV.cells,AV.isAgg,allP,mkAgg,hget,hset,isRow,cellOk,setC,after,dstOk,St.put,St.get,lk,St.ev,cv,PV.one,Int.reduceToNat,entry,ent,Nat.reduceAdd,Nat.reduceLT,Nat.reduceBEq,Nat.reduceEqDiff,Nat.reduceLeDiff,Nat.reduceMul,Nat.reduceSub,Int.cast_ofNat_Int,decide_true,decide_false,reduceCtorEq,BEq.rfl,beq_self_eq_true,bne_self_eq_false,ite_true,ite_false,if_true,if_false,reduceIte]
     refine fin_run ?_ (hK _ ?_)<;>clear hK<;>clear K
     ·(first|exact trivial|omega|(simp only [In64] at *; omega)|(rw [Bool.eq_iff_iff]; simp; done)|(rw [Bool.eq_iff_iff]; simp; omega)|(simp [In64] at *; omega)|(simp_all; done)|(simp_all [In64]<;>omega)|skip)
     repeat (first|refine qa ?_|refine qb ?_|refine qc ?_|refine qd ?_|refine qe ?_|refine qf ?_|refine qg rfl ?_|refine qh ?_|refine qi ?_|refine qj ?_|refine qk ?_|refine ql ?_|refine qm ?_)
     refine ⟨i + 1,[0],⟨by omega,next (of_decide_eq_false hc)⟩,by omega,?_⟩
     simp only [AV.p.injEq,AV.sl.injEq,AV.ptr.injEq,Blk.own.injEq,PV.int.injEq,PV.bool.injEq,PV.list.injEq,Nat.sub_zero,Int.natCast_add,List.length_append,take_take_len,take_app1,take_app2,Le,LeH,LeS,LeB,ren,ren1,scA,sc1,List.nodup_cons,List.nodup_nil,List.mem_cons,List.not_mem_nil,or_false,not_false_eq_true,ev0,aops,xstep,guardA,opA,tab,binA,binInt,arith,unA,pickA,convA,allocA,boxA,loadA,storeA,fieldAddrA,fieldA,indexAddrA,lenA,lenS,sliceA,boundA,makeSliceA,elemsA,appendA,buildA,fillA,buildSliceA,partsA,extractA,builtinA,minmaxA,AV.cells,AV.isAgg,allP,mkAgg,hget,hset,isRow,cellOk,setC,after,dstOk,St.put,St.get,lk,St.ev,cv,PV.one,Int.reduceToNat,entry,ent,Nat.reduceAdd,Nat.reduceLT,Nat.reduceBEq,Nat.reduceEqDiff,Nat.reduceLeDiff,Nat.reduceMul,Nat.reduceSub,Int.cast_ofNat_Int,decide_true,decide_false,reduceCtorEq,BEq.rfl,beq_self_eq_true,bne_self_eq_false,ite_true,ite_false,if_true,if_false,reduceIte]<;>(first|exact trivial|omega|(simp only [In64] at *; omega)|(rw [Bool.eq_iff_iff]; simp; done)|(rw [Bool.eq_iff_iff]; simp; omega)|(simp [In64] at *; omega)|(simp_all; done)|(simp_all [In64]<;>omega)|skip)
  ·repeat (first|refine qa ?_|refine qb ?_|refine qc ?_|refine qd ?_|refine qe ?_|refine qf ?_|refine qg rfl ?_|refine qh ?_|refine qi ?_|refine qj ?_|refine qk ?_|refine ql ?_|refine qm ?_)
   (refine hk_region fun K hK=>runs_eval tab_ok ?_); simp only [ev0,aops,xstep,guardA,opA,tab,binA,binInt,arith,unA,pickA,convA,allocA,boxA,loadA,storeA,fieldAddrA,fieldA,indexAddrA,lenA,lenS,sliceA,boundA,makeSliceA,elemsA,appendA,buildA,fillA,buildSliceA,partsA,extractA,builtinA,minmaxA,AV.cells,AV.isAgg,allP,mkAgg,hget,hset,isRow,cellOk,setC,after,dstOk,St.put,St.get,lk,St.ev,cv,PV.one,Int.reduceToNat,entry,ent,Nat.reduceAdd,Nat.reduceLT,Nat.reduceBEq,Nat.reduceEqDiff,Nat.reduceLeDiff,Nat.reduceMul,Nat.reduceSub,Int.cast_ofNat_Int,decide_true,decide_false,reduceCtorEq,BEq.rfl,beq_self_eq_true,bne_self_eq_false,ite_true,ite_false,if_true,if_false,reduceIte]; refine fin_run trivial (hK _ ?_)<;>clear hK<;>clear K; repeat (first|refine qa ?_|refine qb ?_|refine qc ?_|refine qd ?_|refine qe ?_|refine qf ?_|refine qg rfl ?_|refine qh ?_|refine qi ?_|refine qj ?_|refine qk ?_|refine ql ?_|refine qm ?_)
   simp only [Try.results28,Post,endA,rvsA,rvA,mkTup,peekA,peekG,peekS,peekList,PV.norm,PV.norm1,PV.norm0,PV.list.injEq,PV.tup.injEq,PV.agg.injEq,PV.int.injEq,PV.bool.injEq,List.cons.injEq,ev0,aops,xstep,guardA,opA,tab,binA,binInt,arith,unA,pickA,convA,allocA,boxA,loadA,storeA,fieldAddrA,fieldA,indexAddrA,lenA,lenS,sliceA,boundA,makeSliceA,elemsA,appendA,buildA,fillA,buildSliceA,partsA,extractA,builtinA,minmaxA,AV.cells,AV.isAgg,allP,mkAgg,hget,hset,isRow,cellOk,setC,after,dstOk,St.put,St.get,lk,St.ev,cv,PV.one,Int.reduceToNat,entry,ent,Nat.reduceAdd,Nat.reduceLT,Nat.reduceBEq,Nat.reduceEqDiff,Nat.reduceLeDiff,Nat.reduceMul,Nat.reduceSub,Int.cast_ofNat_Int,decide_true,decide_false,reduceCtorEq,BEq.rfl,beq_self_eq_true,bne_self_eq_false,ite_true,ite_false,if_true,if_false,reduceIte]
   have:i=w.length:=by have:=of_decide_eq_false hlt; omega
   rw [check,if_neg (by omega),← hi.2,this,List.drop_length]; rfl

theorem reduced_c (w0:List Int) (hl:w0.length≤1000000000) (hs:Sm w0):FnC Try.prog 22 [.list (il w0)] (.list (il (short w0))):=by
 refine fnc_of tab_ok Try.func22 rfl (by kernel_rfl) (by rw [Try.ntmps22]; exact Nat.le_add_left 1 _) ?_; rw [Try.ntmps22]; repeat (first|refine qa ?_|refine qb ?_|refine qc ?_|refine qd ?_|refine qe ?_|refine qf ?_|refine qg rfl ?_|refine qh ?_|refine qi ?_|refine qj ?_|refine qk ?_|refine ql ?_|refine qm ?_)
 (refine hk_region fun K hK=>runs_eval tab_ok ?_); simp only [ev0,aops,xstep,guardA,opA,tab,binA,binInt,arith,unA,pickA,convA,allocA,boxA,loadA,storeA,fieldAddrA,fieldA,indexAddrA,lenA,lenS,sliceA,boundA,makeSliceA,elemsA,appendA,buildA,fillA,buildSliceA,partsA,extractA,builtinA,minmaxA,AV.cells,AV.isAgg,allP,mkAgg,hget,hset,isRow,cellOk,setC,after,dstOk,St.put,St.get,lk,St.ev,cv,PV.one,Int.reduceToNat,entry,ent,Nat.reduceAdd,Nat.reduceLT,Nat.reduceBEq,Nat.reduceEqDiff,Nat.reduceLeDiff,Nat.reduceMul,Nat.reduceSub,Int.cast_ofNat_Int,decide_true,decide_false,reduceCtorEq,BEq.rfl,beq_self_eq_true,bne_self_eq_false,ite_true,ite_false,if_true,if_false,reduceIte]; refine fin_run trivial (hK _ ?_)<;>clear hK<;>clear K; repeat (first|refine qa ?_|refine qb ?_|refine qc ?_|refine qd ?_|refine qe ?_|refine qf ?_|refine qg rfl ?_|refine qh ?_|refine qi ?_|refine qj ?_|refine qk ?_|refine ql ?_|refine qm ?_)
 refine hk_region fun K hK=>runs_eval tab_ok ?_
 simp only [ev0,aops,xstep,guardA,opA,tab,binA,binInt,arith,unA,pickA,convA,allocA,boxA,loadA,storeA,fieldAddrA,fieldA,indexAddrA,lenA,lenS,sliceA,boundA,makeSliceA,elemsA,appendA,buildA,fillA,buildSliceA,partsA,extractA,builtinA,minmaxA,AV.cells,AV.isAgg,allP,mkAgg,hget,hset,isRow,cellOk,setC,after,dstOk,St.put,St.get,lk,St.ev,cv,PV.one,Int.reduceToNat,entry,ent,Nat.reduceAdd,Nat.reduceLT,Nat.reduceBEq,Nat.reduceEqDiff,Nat.reduceLeDiff,Nat.reduceMul,Nat.reduceSub,Int.cast_ofNat_Int,decide_true,decide_false,reduceCtorEq,BEq.rfl,beq_self_eq_true,bne_self_eq_false,ite_true,ite_false,if_true,if_false,reduceIte]
 refine fin_run ?_ (hK _ ?_)<;>clear hK<;>clear K
 ·(first|exact trivial|omega|(simp only [In64] at *; omega)|(rw [Bool.eq_iff_iff]; simp; done)|(rw [Bool.eq_iff_iff]; simp; omega)|(simp [In64] at *; omega)|(simp_all; done)|(simp_all [In64]<;>omega)|skip)
 repeat (first|refine qa ?_|refine qb ?_|refine qc ?_|refine qd ?_|refine qe ?_|refine qf ?_|refine qg rfl ?_|refine qh ?_|refine qi ?_|refine qj ?_|refine qk ?_|refine ql ?_|refine qm ?_)
 (refine hk_region fun K hK=>runs_eval tab_ok ?_); simp only [ev0,aops,xstep,guardA,opA,tab,binA,binInt,arith,unA,pickA,convA,allocA,boxA,loadA,storeA,fieldAddrA,fieldA,indexAddrA,lenA,lenS,sliceA,boundA,makeSliceA,elemsA,appendA,buildA,fillA,buildSliceA,partsA,extractA,builtinA,minmaxA,AV.cells,AV.isAgg,allP,mkAgg,hget,hset,isRow,cellOk,setC,after,dstOk,St.put,St.get,lk,St.ev,cv,PV.one,Int.reduceToNat,entry,ent,Nat.reduceAdd,Nat.reduceLT,Nat.reduceBEq,Nat.reduceEqDiff,Nat.reduceLeDiff,Nat.reduceMul,Nat.reduceSub,Int.cast_ofNat_Int,decide_true,decide_false,reduceCtorEq,BEq.rfl,beq_self_eq_true,bne_self_eq_false,ite_true,ite_false,if_true,if_false,reduceIte]; refine fin_run trivial (hK _ ?_)<;>clear hK<;>clear K; repeat (first|refine qa ?_|refine qb ?_|refine qc ?_|refine qd ?_|refine qe ?_|refine qf ?_|refine qg rfl ?_|refine qh ?_|refine qi ?_|refine qj ?_|refine qk ?_|refine ql ?_|refine qm ?_)
 refine hk_loop (ι:=List Int × Nat) (fun p=>⟨37,[(0,.sl 0 0 p.1.length),(3,.p (.int .i64 p.2))],[.own (ol p.1)]⟩)
  (fun p=>p.2≤p.1.length∧p.1.length≤w0.length∧Sm p.1∧short p.1=short w0∧∀ j,j < p.2→j + 1 < p.1.length→p.1.getD j 0 ≠ -(p.1.getD (j + 1) 0)) (fun p=>2 * p.1.length - p.2) (w0,0)
  ⟨Nat.zero_le _,Nat.le_refl _,hs,rfl,fun j hj=>by omega⟩ [0] (by simp only [AV.p.injEq,AV.sl.injEq,AV.ptr.injEq,Blk.own.injEq,PV.int.injEq,PV.bool.injEq,PV.list.injEq,Nat.sub_zero,Int.natCast_add,List.length_append,take_take_len,take_app1,take_app2,Le,LeH,LeS,LeB,ren,ren1,scA,sc1,List.nodup_cons,List.nodup_nil,List.mem_cons,List.not_mem_nil,or_false,not_false_eq_true,ev0,aops,xstep,guardA,opA,tab,binA,binInt,arith,unA,pickA,convA,allocA,boxA,loadA,storeA,fieldAddrA,fieldA,indexAddrA,lenA,lenS,sliceA,boundA,makeSliceA,elemsA,appendA,buildA,fillA,buildSliceA,partsA,extractA,builtinA,minmaxA,AV.cells,AV.isAgg,allP,mkAgg,hget,hset,isRow,cellOk,setC,after,dstOk,St.put,St.get,lk,St.ev,cv,PV.one,Int.reduceToNat,entry,ent,Nat.reduceAdd,Nat.reduceLT,Nat.reduceBEq,Nat.reduceEqDiff,Nat.reduceLeDiff,Nat.reduceMul,Nat.reduceSub,Int.cast_ofNat_Int,decide_true,decide_false,reduceCtorEq,BEq.rfl,beq_self_eq_true,bne_self_eq_false,ite_true,ite_false,if_true,if_false,reduceIte]<;>trivial) ?_
 rintro ⟨w,i⟩ ⟨h1,h2,h3,h4,h5⟩
 simp only at h1 h2 h3 h4 h5
 repeat (first|refine qa ?_|refine qb ?_|refine qc ?_|refine qd ?_|refine qe ?_|refine qf ?_|refine qg rfl ?_|refine qh ?_|refine qi ?_|refine qj ?_|refine qk ?_|refine ql ?_|refine qm ?_)
 refine hk_region fun K hK=>runs_eval tab_ok ?_
 simp only [ev0,aops,xstep,guardA,opA,tab,binA,binInt,arith,unA,pickA,convA,allocA,boxA,loadA,storeA,fieldAddrA,fieldA,indexAddrA,lenA,lenS,sliceA,boundA,makeSliceA,elemsA,appendA,buildA,fillA,buildSliceA,partsA,extractA,builtinA,minmaxA,AV.cells,AV.isAgg,allP,mkAgg,hget,hset,isRow,cellOk,setC,after,dstOk,St.put,St.get,lk,St.ev,cv,PV.one,Int.reduceToNat,entry,ent,Nat.reduceAdd,Nat.reduceLT,Nat.reduceBEq,Nat.reduceEqDiff,Nat.reduceLeDiff,Nat.reduceMul,Nat.reduceSub,Int.cast_ofNat_Int,decide_true,decide_false,reduceCtorEq,BEq.rfl,beq_self_eq_true,bne_self_eq_false,ite_true,ite_false,if_true,if_false,reduceIte]
 refine fin_run ?_ (hK _ ?_)<;>clear hK<;>clear K
 ·simp only [In64]; omega
 repeat (first|refine qa ?_|refine qb ?_|refine qc ?_|refine qd ?_|refine qe ?_|refine qf ?_|refine qg rfl ?_|refine qh ?_|refine qi ?_|refine qj ?_|refine qk ?_|refine ql ?_|refine qm ?_)
 refine hk_cond rfl (fun hlt=>?_) (fun hlt=>?_)
 ·repeat (first|refine qa ?_|refine qb ?_|refine qc ?_|refine qd ?_|refine qe ?_|refine qf ?_|refine qg rfl ?_|refine qh ?_|refine qi ?_|refine qj ?_|refine qk ?_|refine ql ?_|refine qm ?_)
  have hlt:i + 1 < w.length:=by have:=of_decide_eq_true hlt; omega
  have hx:=h3 (w.getD (i + 1) 0) (by simp [List.getD,List.getElem?_eq_getElem hlt])
  have hcat:=splice hlt
  refine hk_draw mixed (by kernel_rfl) fun K hK=>runs_eval tab_ok ?_
  simp only [ev0,aops,xstep,guardA,opA,tab,binA,binInt,arith,unA,pickA,convA,allocA,boxA,loadA,storeA,fieldAddrA,fieldA,indexAddrA,lenA,lenS,sliceA,boundA,makeSliceA,elemsA,appendA,buildA,fillA,buildSliceA,partsA,extractA,builtinA,minmaxA,AV.cells,AV.isAgg,allP,mkAgg,hget,hset,isRow,cellOk,setC,after,dstOk,St.put,St.get,lk,St.ev,cv,PV.one,Int.reduceToNat,entry,ent,Nat.reduceAdd,Nat.reduceLT,Nat.reduceBEq,Nat.reduceEqDiff,Nat.reduceLeDiff,Nat.reduceMul,Nat.reduceSub,Int.cast_ofNat_Int,decide_true,decide_false,reduceCtorEq,BEq.rfl,beq_self_eq_true,bne_self_eq_false,ite_true,ite_false,if_true,if_false,reduceIte,ol_get hlt,ol_get (show i < w.length by omega)]
  refine fin_run ?_ (hK _ ?_)<;>clear hK<;>clear K
  ·simp only [In64]; omega
  repeat (first|refine qa ?_|refine qb ?_|refine qc ?_|refine qd ?_|refine qe ?_|refine qf ?_|refine qg rfl ?_|refine qh ?_|refine qi ?_|refine qj ?_|refine qk ?_|refine ql ?_|refine qm ?_)
  refine hk_cond rfl (fun hc=>?_) (fun hc=>?_)
  ·have hc:w.getD i 0 = -(w.getD (i + 1) 0):=by simpa using hc
   have hc' : w.getD (i + 1) 0 = -(w.getD i 0):=by omega
   repeat (first|refine qa ?_|refine qb ?_|refine qc ?_|refine qd ?_|refine qe ?_|refine qf ?_|refine qg rfl ?_|refine qh ?_|refine qi ?_|refine qj ?_|refine qk ?_|refine ql ?_|refine qm ?_)
   have e2:((i:Int) + 2).toNat=i + 2:=by omega
   refine hk_draw mixed (by kernel_rfl) fun K hK=>runs_eval tab_ok ?_
   simp only [ev0,aops,xstep,guardA,opA,tab,binA,binInt,arith,unA,pickA,convA,allocA,boxA,loadA,storeA,fieldAddrA,fieldA,indexAddrA,lenA,lenS,sliceA,boundA,makeSliceA,elemsA,appendA,buildA,fillA,buildSliceA,partsA,extractA,builtinA,minmaxA,AV.cells,AV.isAgg,allP,mkAgg,hget,hset,isRow,cellOk,setC,after,dstOk,St.put,St.get,lk,St.ev,cv,PV.one,Int.reduceToNat,entry,ent,Nat.reduceAdd,Nat.reduceLT,Nat.reduceBEq,Nat.reduceEqDiff,Nat.reduceLeDiff,Nat.reduceMul,Nat.reduceSub,Int.cast_ofNat_Int,decide_true,decide_false,reduceCtorEq,BEq.rfl,beq_self_eq_true,bne_self_eq_false,ite_true,ite_false,if_true,if_false,reduceIte,e2]
   have e3:List.take (w.length - (i + 2)) (List.drop (i + 2) w)=w.drop (i + 2):=List.take_of_length_le (by simp)
   have hw:∃ w',w' = w.take i++w.drop (i + 2)∧w'.length=w.length - 2:=⟨_,rfl,by simp; omega⟩
   obtain ⟨w',hw1,hw2⟩:=hw
   have e4:i + (List.drop (i + 2) w).length=w'.length:=by rw [hw1]; simp; omega
   simp only [e3,e4,← hw1]
   refine fin_run ?_ (hK _ ?_)<;>clear hK<;>clear K
   ·simp only [In64]; omega
   have hs' : short w' = short w0:=by
    rw [← h4,hcat,hc',short_cancel,hw1]
   have hm' : Sm w':=by
    rw [hw1]
    exact Sm.app (fun x hx=>h3 x (List.mem_of_mem_take hx)) (fun x hx=>h3 x (List.mem_of_mem_drop hx))
   have h5' : ∀ (i' : Nat),i'≤i - 1→∀ j,j < i'→j + 1 < w'.length→w'.getD j 0 ≠ -(w'.getD (j + 1) 0):=by
    intro i' hi' j hj hj2
    have hli:(w.take i).length=i:=by simp; omega
    rw [hw1,getD_app1 (by omega),getD_app1 (by omega),getD_take (by omega),getD_take (by omega)]
    exact h5 j (by omega) (by omega)
   repeat (first|refine qa ?_|refine qb ?_|refine qc ?_|refine qd ?_|refine qe ?_|refine qf ?_|refine qg rfl ?_|refine qh ?_|refine qi ?_|refine qj ?_|refine qk ?_|refine ql ?_|refine qm ?_)
   (refine hk_region fun K hK=>runs_eval tab_ok ?_); simp only [ev0,aops,xstep,guardA,opA,tab,binA,binInt,arith,unA,pickA,convA,allocA,boxA,loadA,storeA,fieldAddrA,fieldA,indexAddrA,lenA,lenS,sliceA,boundA,makeSliceA,elemsA,appendA,buildA,fillA,buildSliceA,partsA,extractA,builtinA,minmaxA,AV.cells,AV.isAgg,allP,mkAgg,hget,hset,isRow,cellOk,setC,after,dstOk,St.put,St.get,lk,St.ev,cv,PV.one,Int.reduceToNat,entry,ent,Nat.reduceAdd,Nat.reduceLT,Nat.reduceBEq,Nat.reduceEqDiff,Nat.reduceLeDiff,Nat.reduceMul,Nat.reduceSub,Int.cast_ofNat_Int,decide_true,decide_false,reduceCtorEq,BEq.rfl,beq_self_eq_true,bne_self_eq_false,ite_true,ite_false,if_true,if_false,reduceIte]; refine fin_run trivial (hK _ ?_)<;>clear hK<;>clear K; repeat (first|refine qa ?_|refine qb ?_|refine qc ?_|refine qd ?_|refine qe ?_|refine qf ?_|refine qg rfl ?_|refine qh ?_|refine qi ?_|refine qj ?_|refine qk ?_|refine ql ?_|refine qm ?_)
   refine hk_cond rfl (fun hp=>?_) (fun hp=>?_)
   ·have hp:0 < i:=by have:=of_decide_eq_true hp; omega
    repeat (first|refine qa ?_|refine qb ?_|refine qc ?_|refine qd ?_|refine qe ?_|refine qf ?_|refine qg rfl ?_|refine qh ?_|refine qi ?_|refine qj ?_|refine qk ?_|refine ql ?_|refine qm ?_)
    refine hk_region fun K hK=>runs_eval tab_ok ?_
    simp only [ev0,aops,xstep,guardA,opA,tab,binA,binInt,arith,unA,pickA,convA,allocA,boxA,loadA,storeA,fieldAddrA,fieldA,indexAddrA,lenA,lenS,sliceA,boundA,makeSliceA,elemsA,appendA,buildA,fillA,buildSliceA,partsA,extractA,builtinA,minmaxA,AV.cells,AV.isAgg,allP,mkAgg,hget,hset,isRow,cellOk,setC,after,dstOk,St.put,St.get,lk,St.ev,cv,PV.one,Int.reduceToNat,entry,ent,Nat.reduceAdd,Nat.reduceLT,Nat.reduceBEq,Nat.reduceEqDiff,Nat.reduceLeDiff,Nat.reduceMul,Nat.reduceSub,Int.cast_ofNat_Int,decide_true,decide_false,reduceCtorEq,BEq.rfl,beq_self_eq_true,bne_self_eq_false,ite_true,ite_false,if_true,if_false,reduceIte]
    refine fin_run ?_ (hK _ ?_)<;>clear hK<;>clear K
    ·simp only [In64]; omega
    repeat (first|refine qa ?_|refine qb ?_|refine qc ?_|refine qd ?_|refine qe ?_|refine qf ?_|refine qg rfl ?_|refine qh ?_|refine qi ?_|refine qj ?_|refine qk ?_|refine ql ?_|refine qm ?_)
    refine ⟨(w',i - 1),[1],⟨by simp only; omega,by simp only; omega,hm',hs',h5' (i - 1) (Nat.le_refl _)⟩,by simp only; omega,?_⟩
    simp only [AV.p.injEq,AV.sl.injEq,AV.ptr.injEq,Blk.own.injEq,PV.int.injEq,PV.bool.injEq,PV.list.injEq,Nat.sub_zero,Int.natCast_add,List.length_append,take_take_len,take_app1,take_app2,Le,LeH,LeS,LeB,ren,ren1,scA,sc1,List.nodup_cons,List.nodup_nil,List.mem_cons,List.not_mem_nil,or_false,not_false_eq_true,ev0,aops,xstep,guardA,opA,tab,binA,binInt,arith,unA,pickA,convA,allocA,boxA,loadA,storeA,fieldAddrA,fieldA,indexAddrA,lenA,lenS,sliceA,boundA,makeSliceA,elemsA,appendA,buildA,fillA,buildSliceA,partsA,extractA,builtinA,minmaxA,AV.cells,AV.isAgg,allP,mkAgg,hget,hset,isRow,cellOk,setC,after,dstOk,St.put,St.get,lk,St.ev,cv,PV.one,Int.reduceToNat,entry,ent,Nat.reduceAdd,Nat.reduceLT,Nat.reduceBEq,Nat.reduceEqDiff,Nat.reduceLeDiff,Nat.reduceMul,Nat.reduceSub,Int.cast_ofNat_Int,decide_true,decide_false,reduceCtorEq,BEq.rfl,beq_self_eq_true,bne_self_eq_false,ite_true,ite_false,if_true,if_false,reduceIte]<;>omega
   ·have hp:i=0:=by have:=of_decide_eq_false hp; omega
    subst hp
    repeat (first|refine qa ?_|refine qb ?_|refine qc ?_|refine qd ?_|refine qe ?_|refine qf ?_|refine qg rfl ?_|refine qh ?_|refine qi ?_|refine qj ?_|refine qk ?_|refine ql ?_|refine qm ?_)
    refine ⟨(w',0),[1],⟨Nat.zero_le _,by simp only; omega,hm',hs',h5' 0 (Nat.le_refl _)⟩,by simp only; omega,?_⟩
    simp only [AV.p.injEq,AV.sl.injEq,AV.ptr.injEq,Blk.own.injEq,PV.int.injEq,PV.bool.injEq,PV.list.injEq,Nat.sub_zero,Int.natCast_add,List.length_append,take_take_len,take_app1,take_app2,Le,LeH,LeS,LeB,ren,ren1,scA,sc1,List.nodup_cons,List.nodup_nil,List.mem_cons,List.not_mem_nil,or_false,not_false_eq_true,ev0,aops,xstep,guardA,opA,tab,binA,binInt,arith,unA,pickA,convA,allocA,boxA,loadA,storeA,fieldAddrA,fieldA,indexAddrA,lenA,lenS,sliceA,boundA,makeSliceA,elemsA,appendA,buildA,fillA,buildSliceA,partsA,extractA,builtinA,minmaxA,AV.cells,AV.isAgg,allP,mkAgg,hget,hset,isRow,cellOk,setC,after,dstOk,St.put,St.get,lk,St.ev,cv,PV.one,Int.reduceToNat,entry,ent,Nat.reduceAdd,Nat.reduceLT,Nat.reduceBEq,Nat.reduceEqDiff,Nat.reduceLeDiff,Nat.reduceMul,Nat.reduceSub,Int.cast_ofNat_Int,decide_true,decide_false,reduceCtorEq,BEq.rfl,beq_self_eq_true,bne_self_eq_false,ite_true,ite_false,if_true,if_false,reduceIte]<;>trivial
  ·have hc:w.getD i 0 ≠ -(w.getD (i + 1) 0):=by simpa using hc
   repeat (first|refine qa ?_|refine qb ?_|refine qc ?_|refine qd ?_|refine qe ?_|refine qf ?_|refine qg rfl ?_|refine qh ?_|refine qi ?_|refine qj ?_|refine qk ?_|refine ql ?_|refine qm ?_)
   refine hk_region fun K hK=>runs_eval tab_ok ?_
   simp only [ev0,aops,xstep,guardA,opA,tab,binA,binInt,arith,unA,pickA,convA,allocA,boxA,loadA,storeA,fieldAddrA,fieldA,indexAddrA,lenA,lenS,sliceA,boundA,makeSliceA,elemsA,appendA,buildA,fillA,buildSliceA,partsA,extractA,builtinA,minmaxA,AV.cells,AV.isAgg,allP,mkAgg,hget,hset,isRow,cellOk,setC,after,dstOk,St.put,St.get,lk,St.ev,cv,PV.one,Int.reduceToNat,entry,ent,Nat.reduceAdd,Nat.reduceLT,Nat.reduceBEq,Nat.reduceEqDiff,Nat.reduceLeDiff,Nat.reduceMul,Nat.reduceSub,Int.cast_ofNat_Int,decide_true,decide_false,reduceCtorEq,BEq.rfl,beq_self_eq_true,bne_self_eq_false,ite_true,ite_false,if_true,if_false,reduceIte]
   refine fin_run ?_ (hK _ ?_)<;>clear hK<;>clear K
   ·simp only [In64]; omega
   repeat (first|refine qa ?_|refine qb ?_|refine qc ?_|refine qd ?_|refine qe ?_|refine qf ?_|refine qg rfl ?_|refine qh ?_|refine qi ?_|refine qj ?_|refine qk ?_|refine ql ?_|refine qm ?_)
   refine ⟨(w,i + 1),[0],⟨by simp only; omega,h2,h3,h4,fun j hj hj2=>?_⟩,by simp only; omega,?_⟩
   ·simp only at hj hj2
    by_cases e:j=i
    ·subst e; exact hc
    ·exact h5 j (by omega) hj2
   ·simp only [AV.p.injEq,AV.sl.injEq,AV.ptr.injEq,Blk.own.injEq,PV.int.injEq,PV.bool.injEq,PV.list.injEq,Nat.sub_zero,Int.natCast_add,List.length_append,take_take_len,take_app1,take_app2,Le,LeH,LeS,LeB,ren,ren1,scA,sc1,List.nodup_cons,List.nodup_nil,List.mem_cons,List.not_mem_nil,or_false,not_false_eq_true,ev0,aops,xstep,guardA,opA,tab,binA,binInt,arith,unA,pickA,convA,allocA,boxA,loadA,storeA,fieldAddrA,fieldA,indexAddrA,lenA,lenS,sliceA,boundA,makeSliceA,elemsA,appendA,buildA,fillA,buildSliceA,partsA,extractA,builtinA,minmaxA,AV.cells,AV.isAgg,allP,mkAgg,hget,hset,isRow,cellOk,setC,after,dstOk,St.put,St.get,lk,St.ev,cv,PV.one,Int.reduceToNat,entry,ent,Nat.reduceAdd,Nat.reduceLT,Nat.reduceBEq,Nat.reduceEqDiff,Nat.reduceLeDiff,Nat.reduceMul,Nat.reduceSub,Int.cast_ofNat_Int,decide_true,decide_false,reduceCtorEq,BEq.rfl,beq_self_eq_true,bne_self_eq_false,ite_true,ite_false,if_true,if_false,reduceIte]<;>omega
 ·repeat (first|refine qa ?_|refine qb ?_|refine qc ?_|refine qd ?_|refine qe ?_|refine qf ?_|refine qg rfl ?_|refine qh ?_|refine qi ?_|refine qj ?_|refine qk ?_|refine ql ?_|refine qm ?_)
  (refine hk_region fun K hK=>runs_eval tab_ok ?_); simp only [ev0,aops,xstep,guardA,opA,tab,binA,binInt,arith,unA,pickA,convA,allocA,boxA,loadA,storeA,fieldAddrA,fieldA,indexAddrA,lenA,lenS,sliceA,boundA,makeSliceA,elemsA,appendA,buildA,fillA,buildSliceA,partsA,extractA,builtinA,minmaxA,AV.cells,AV.isAgg,allP,mkAgg,hget,hset,isRow,cellOk,setC,after,dstOk,St.put,St.get,lk,St.ev,cv,PV.one,Int.reduceToNat,entry,ent,Nat.reduceAdd,Nat.reduceLT,Nat.reduceBEq,Nat.reduceEqDiff,Nat.reduceLeDiff,Nat.reduceMul,Nat.reduceSub,Int.cast_ofNat_Int,decide_true,decide_false,reduceCtorEq,BEq.rfl,beq_self_eq_true,bne_self_eq_false,ite_true,ite_false,if_true,if_false,reduceIte]; refine fin_run trivial (hK _ ?_)<;>clear hK<;>clear K; repeat (first|refine qa ?_|refine qb ?_|refine qc ?_|refine qd ?_|refine qe ?_|refine qf ?_|refine qg rfl ?_|refine qh ?_|refine qi ?_|refine qj ?_|refine qk ?_|refine ql ?_|refine qm ?_)
  simp only [Try.results22,Post,endA,rvsA,rvA,mkTup,peekA,peekG,peekS,peekList,PV.norm,PV.norm1,PV.norm0,PV.list.injEq,PV.tup.injEq,PV.agg.injEq,PV.int.injEq,PV.bool.injEq,List.cons.injEq,ev0,aops,xstep,guardA,opA,tab,binA,binInt,arith,unA,pickA,convA,allocA,boxA,loadA,storeA,fieldAddrA,fieldA,indexAddrA,lenA,lenS,sliceA,boundA,makeSliceA,elemsA,appendA,buildA,fillA,buildSliceA,partsA,extractA,builtinA,minmaxA,AV.cells,AV.isAgg,allP,mkAgg,hget,hset,isRow,cellOk,setC,after,dstOk,St.put,St.get,lk,St.ev,cv,PV.one,Int.reduceToNat,entry,ent,Nat.reduceAdd,Nat.reduceLT,Nat.reduceBEq,Nat.reduceEqDiff,Nat.reduceLeDiff,Nat.reduceMul,Nat.reduceSub,Int.cast_ofNat_Int,decide_true,decide_false,reduceCtorEq,BEq.rfl,beq_self_eq_true,bne_self_eq_false,ite_true,ite_false,if_true,if_false,reduceIte]
  have hlt:¬ i + 1 < w.length:=by have:=of_decide_eq_false hlt; omega
  rw [← h4,short_red fun j hj=>h5 j (by omega) hj]
  exact ⟨Nat.le_refl _,rfl⟩

theorem behind_c (ls:List (List Int)) (hl:ls.flatten.length≤1000000000) (hk:ls.length≤1000000000) (hs:Sm ls.flatten):FnC Try.prog 29 [.nn (ll ls)] (.list (il (short ls.flatten))):=by
 have hle:∀ i,(ls.take i).flatten.length≤ls.flatten.length:=by
  intro i
  have:=congrArg List.length (congrArg List.flatten (List.take_append_drop i ls))
  simp only [List.flatten_append,List.length_append] at this
  omega
 refine fnc_of tab_ok Try.func29 rfl (by kernel_rfl) (by rw [Try.ntmps29]; exact Nat.le_add_left 1 _) ?_; rw [Try.ntmps29]; repeat (first|refine qa ?_|refine qb ?_|refine qc ?_|refine qd ?_|refine qe ?_|refine qf ?_|refine qg rfl ?_|refine qh ?_|refine qi ?_|refine qj ?_|refine qk ?_|refine ql ?_|refine qm ?_)
 (refine hk_region fun K hK=>runs_eval tab_ok ?_); simp only [ev0,aops,xstep,guardA,opA,tab,binA,binInt,arith,unA,pickA,convA,allocA,boxA,loadA,storeA,fieldAddrA,fieldA,indexAddrA,lenA,lenS,sliceA,boundA,makeSliceA,elemsA,appendA,buildA,fillA,buildSliceA,partsA,extractA,builtinA,minmaxA,AV.cells,AV.isAgg,allP,mkAgg,hget,hset,isRow,cellOk,setC,after,dstOk,St.put,St.get,lk,St.ev,cv,PV.one,Int.reduceToNat,entry,ent,Nat.reduceAdd,Nat.reduceLT,Nat.reduceBEq,Nat.reduceEqDiff,Nat.reduceLeDiff,Nat.reduceMul,Nat.reduceSub,Int.cast_ofNat_Int,decide_true,decide_false,reduceCtorEq,BEq.rfl,beq_self_eq_true,bne_self_eq_false,ite_true,ite_false,if_true,if_false,reduceIte]; refine fin_run trivial (hK _ ?_)<;>clear hK<;>clear K; repeat (first|refine qa ?_|refine qb ?_|refine qc ?_|refine qd ?_|refine qe ?_|refine qf ?_|refine qg rfl ?_|refine qh ?_|refine qi ?_|refine qj ?_|refine qk ?_|refine ql ?_|refine qm ?_)
 (refine hk_region fun K hK=>runs_eval tab_ok ?_); simp only [ev0,aops,xstep,guardA,opA,tab,binA,binInt,arith,unA,pickA,convA,allocA,boxA,loadA,storeA,fieldAddrA,fieldA,indexAddrA,lenA,lenS,sliceA,boundA,makeSliceA,elemsA,appendA,buildA,fillA,buildSliceA,partsA,extractA,builtinA,minmaxA,AV.cells,AV.isAgg,allP,mkAgg,hget,hset,isRow,cellOk,setC,after,dstOk,St.put,St.get,lk,St.ev,cv,PV.one,Int.reduceToNat,entry,ent,Nat.reduceAdd,Nat.reduceLT,Nat.reduceBEq,Nat.reduceEqDiff,Nat.reduceLeDiff,Nat.reduceMul,Nat.reduceSub,Int.cast_ofNat_Int,decide_true,decide_false,reduceCtorEq,BEq.rfl,beq_self_eq_true,bne_self_eq_false,ite_true,ite_false,if_true,if_false,reduceIte]; refine fin_run trivial (hK _ ?_)<;>clear hK<;>clear K; repeat (first|refine qa ?_|refine qb ?_|refine qc ?_|refine qd ?_|refine qe ?_|refine qf ?_|refine qg rfl ?_|refine qh ?_|refine qi ?_|refine qj ?_|refine qk ?_|refine ql ?_|refine qm ?_)
 refine hk_own0 3 rfl ?_
 (refine hk_region fun K hK=>runs_eval tab_ok ?_); simp only [ev0,aops,xstep,guardA,opA,tab,binA,binInt,arith,unA,pickA,convA,allocA,boxA,loadA,storeA,fieldAddrA,fieldA,indexAddrA,lenA,lenS,sliceA,boundA,makeSliceA,elemsA,appendA,buildA,fillA,buildSliceA,partsA,extractA,builtinA,minmaxA,AV.cells,AV.isAgg,allP,mkAgg,hget,hset,isRow,cellOk,setC,after,dstOk,St.put,St.get,lk,St.ev,cv,PV.one,Int.reduceToNat,entry,ent,Nat.reduceAdd,Nat.reduceLT,Nat.reduceBEq,Nat.reduceEqDiff,Nat.reduceLeDiff,Nat.reduceMul,Nat.reduceSub,Int.cast_ofNat_Int,decide_true,decide_false,reduceCtorEq,BEq.rfl,beq_self_eq_true,bne_self_eq_false,ite_true,ite_false,if_true,if_false,reduceIte]; refine fin_run trivial (hK _ ?_)<;>clear hK<;>clear K; repeat (first|refine qa ?_|refine qb ?_|refine qc ?_|refine qd ?_|refine qe ?_|refine qf ?_|refine qg rfl ?_|refine qh ?_|refine qi ?_|refine qj ?_|refine qk ?_|refine ql ?_|refine qm ?_)
 refine hk_loop (ι:=Nat) (fun i=>⟨19,[(0,.p (.nn (ll ls))),(3,.sl 0 0 (ls.take i).flatten.length),(4,.p (.int .i64 i))],[.own (ol (ls.take i).flatten)]⟩) (fun i=>i≤ls.length) (fun i=>ls.length - i) 0 (Nat.zero_le _) [0] (by simp only [AV.p.injEq,AV.sl.injEq,AV.ptr.injEq,Blk.own.injEq,PV.int.injEq,PV.bool.injEq,PV.list.injEq,Nat.sub_zero,Int.natCast_add,List.length_append,take_take_len,take_app1,take_app2,Le,LeH,LeS,LeB,ren,ren1,scA,sc1,List.nodup_cons,List.nodup_nil,List.mem_cons,List.not_mem_nil,or_false,not_false_eq_true,ev0,aops,xstep,guardA,opA,tab,binA,binInt,arith,unA,pickA,convA,allocA,boxA,loadA,storeA,fieldAddrA,fieldA,indexAddrA,lenA,lenS,sliceA,boundA,makeSliceA,elemsA,appendA,buildA,fillA,buildSliceA,partsA,extractA,builtinA,minmaxA,AV.cells,AV.isAgg,allP,mkAgg,hget,hset,isRow,cellOk,setC,after,dstOk,St.put,St.get,lk,St.ev,cv,PV.one,Int.reduceToNat,entry,ent,Nat.reduceAdd,Nat.reduceLT,Nat.reduceBEq,Nat.reduceEqDiff,Nat.reduceLeDiff,Nat.reduceMul,Nat.reduceSub,Int.cast_ofNat_Int,decide_true,decide_false,reduceCtorEq,BEq.rfl,beq_self_eq_true,bne_self_eq_false,ite_true,ite_false,if_true,if_false,reduceIte]<;>simp [ol_nil]) fun i hi=>?_
 repeat (first|refine qa ?_|refine qb ?_|refine qc ?_|refine qd ?_|refine qe ?_|refine qf ?_|refine qg rfl ?_|refine qh ?_|refine qi ?_|refine qj ?_|refine qk ?_|refine ql ?_|refine qm ?_)
 (refine hk_region fun K hK=>runs_eval tab_ok ?_); simp only [ev0,aops,xstep,guardA,opA,tab,binA,binInt,arith,unA,pickA,convA,allocA,boxA,loadA,storeA,fieldAddrA,fieldA,indexAddrA,lenA,lenS,sliceA,boundA,makeSliceA,elemsA,appendA,buildA,fillA,buildSliceA,partsA,extractA,builtinA,minmaxA,AV.cells,AV.isAgg,allP,mkAgg,hget,hset,isRow,cellOk,setC,after,dstOk,St.put,St.get,lk,St.ev,cv,PV.one,Int.reduceToNat,entry,ent,Nat.reduceAdd,Nat.reduceLT,Nat.reduceBEq,Nat.reduceEqDiff,Nat.reduceLeDiff,Nat.reduceMul,Nat.reduceSub,Int.cast_ofNat_Int,decide_true,decide_false,reduceCtorEq,BEq.rfl,beq_self_eq_true,bne_self_eq_false,ite_true,ite_false,if_true,if_false,reduceIte]; refine fin_run trivial (hK _ ?_)<;>clear hK<;>clear K; repeat (first|refine qa ?_|refine qb ?_|refine qc ?_|refine qd ?_|refine qe ?_|refine qf ?_|refine qg rfl ?_|refine qh ?_|refine qi ?_|refine qj ?_|refine qk ?_|refine ql ?_|refine qm ?_)
 refine hk_cond rfl (fun hlt=>?_) (fun hlt=>?_)
 ·have hlt:i < ls.length:=by have:=of_decide_eq_true hlt; omega
  have hs:=tot_succ hlt
  have h1:=hle i
  have h2:=hle (i + 1)
  rw [hs,List.length_append] at h2
  repeat (first|refine qa ?_|refine qb ?_|refine qc ?_|refine qd ?_|refine qe ?_|refine qf ?_|refine qg rfl ?_|refine qh ?_|refine qi ?_|refine qj ?_|refine qk ?_|refine ql ?_|refine qm ?_)
  refine hk_region fun K hK=>runs_eval tab_ok ?_
  simp only [ev0,aops,xstep,guardA,opA,tab,binA,binInt,arith,unA,pickA,convA,allocA,boxA,loadA,storeA,fieldAddrA,fieldA,indexAddrA,lenA,lenS,sliceA,boundA,makeSliceA,elemsA,appendA,buildA,fillA,buildSliceA,partsA,extractA,builtinA,minmaxA,AV.cells,AV.isAgg,allP,mkAgg,hget,hset,isRow,cellOk,setC,after,dstOk,St.put,St.get,lk,St.ev,cv,PV.one,Int.reduceToNat,entry,ent,Nat.reduceAdd,Nat.reduceLT,Nat.reduceBEq,Nat.reduceEqDiff,Nat.reduceLeDiff,Nat.reduceMul,Nat.reduceSub,Int.cast_ofNat_Int,decide_true,decide_false,reduceCtorEq,BEq.rfl,beq_self_eq_true,bne_self_eq_false,ite_true,ite_false,if_true,if_false,reduceIte,ll_get hlt]
  refine fin_run ?_ (hK _ ?_)<;>clear hK<;>clear K
  ·omega
  repeat (first|refine qa ?_|refine qb ?_|refine qc ?_|refine qd ?_|refine qe ?_|refine qf ?_|refine qg rfl ?_|refine qh ?_|refine qi ?_|refine qj ?_|refine qk ?_|refine ql ?_|refine qm ?_)
  refine hk_region fun K hK=>runs_eval tab_ok ?_
  simp only [ev0,aops,xstep,guardA,opA,tab,binA,binInt,arith,unA,pickA,convA,allocA,boxA,loadA,storeA,fieldAddrA,fieldA,indexAddrA,lenA,lenS,sliceA,boundA,makeSliceA,elemsA,appendA,buildA,fillA,buildSliceA,partsA,extractA,builtinA,minmaxA,AV.cells,AV.isAgg,allP,mkAgg,hget,hset,isRow,cellOk,setC,after,dstOk,St.put,St.get,lk,St.ev,cv,PV.one,Int.reduceToNat,entry,ent,Nat.reduceAdd,Nat.reduceLT,Nat.reduceBEq,Nat.reduceEqDiff,Nat.reduceLeDiff,Nat.reduceMul,Nat.reduceSub,Int.cast_ofNat_Int,decide_true,decide_false,reduceCtorEq,BEq.rfl,beq_self_eq_true,bne_self_eq_false,ite_true,ite_false,if_true,if_false,reduceIte]
  refine fin_run ?_ (hK _ ?_)<;>clear hK<;>clear K
  ·simp only [In64]; omega
  repeat (first|refine qa ?_|refine qb ?_|refine qc ?_|refine qd ?_|refine qe ?_|refine qf ?_|refine qg rfl ?_|refine qh ?_|refine qi ?_|refine qj ?_|refine qk ?_|refine ql ?_|refine qm ?_)
  refine ⟨i + 1,[1],by omega,by omega,?_⟩
  rw [hs]
  simp only [AV.p.injEq,AV.sl.injEq,AV.ptr.injEq,Blk.own.injEq,PV.int.injEq,PV.bool.injEq,PV.list.injEq,Nat.sub_zero,Int.natCast_add,List.length_append,take_take_len,take_app1,take_app2,Le,LeH,LeS,LeB,ren,ren1,scA,sc1,List.nodup_cons,List.nodup_nil,List.mem_cons,List.not_mem_nil,or_false,not_false_eq_true,ev0,aops,xstep,guardA,opA,tab,binA,binInt,arith,unA,pickA,convA,allocA,boxA,loadA,storeA,fieldAddrA,fieldA,indexAddrA,lenA,lenS,sliceA,boundA,makeSliceA,elemsA,appendA,buildA,fillA,buildSliceA,partsA,extractA,builtinA,minmaxA,AV.cells,AV.isAgg,allP,mkAgg,hget,hset,isRow,cellOk,setC,after,dstOk,St.put,St.get,lk,St.ev,cv,PV.one,Int.reduceToNat,entry,ent,Nat.reduceAdd,Nat.reduceLT,Nat.reduceBEq,Nat.reduceEqDiff,Nat.reduceLeDiff,Nat.reduceMul,Nat.reduceSub,Int.cast_ofNat_Int,decide_true,decide_false,reduceCtorEq,BEq.rfl,beq_self_eq_true,bne_self_eq_false,ite_true,ite_false,if_true,if_false,reduceIte]<;>(first|exact trivial|omega|(simp only [In64] at *; omega)|(rw [Bool.eq_iff_iff]; simp; done)|(rw [Bool.eq_iff_iff]; simp; omega)|(simp [In64] at *; omega)|(simp_all; done)|(simp_all [In64]<;>omega)|skip)
 ·repeat (first|refine qa ?_|refine qb ?_|refine qc ?_|refine qd ?_|refine qe ?_|refine qf ?_|refine qg rfl ?_|refine qh ?_|refine qi ?_|refine qj ?_|refine qk ?_|refine ql ?_|refine qm ?_)
  have hii:i=ls.length:=by have:=of_decide_eq_false hlt; omega
  subst hii
  rw [List.take_length]
  refine hk_seal 3 0 rfl rfl ?_
  refine hk_region fun K hK=>runs_eval tab_ok ?_
  simp only [ev0,aops,xstep,guardA,opA,tab,binA,binInt,arith,unA,pickA,convA,allocA,boxA,loadA,storeA,fieldAddrA,fieldA,indexAddrA,lenA,lenS,sliceA,boundA,makeSliceA,elemsA,appendA,buildA,fillA,buildSliceA,partsA,extractA,builtinA,minmaxA,AV.cells,AV.isAgg,allP,mkAgg,hget,hset,isRow,cellOk,setC,after,dstOk,St.put,St.get,lk,St.ev,cv,PV.one,Int.reduceToNat,entry,ent,Nat.reduceAdd,Nat.reduceLT,Nat.reduceBEq,Nat.reduceEqDiff,Nat.reduceLeDiff,Nat.reduceMul,Nat.reduceSub,Int.cast_ofNat_Int,decide_true,decide_false,reduceCtorEq,BEq.rfl,beq_self_eq_true,bne_self_eq_false,ite_true,ite_false,if_true,if_false,reduceIte]
  refine fin_stop trivial (runs_call (reduced_c ls.flatten hl hs) rfl rfl rfl (by simp only [dstOk,Nat.reduceLT]) (by repeat (first|exact trivial|constructor)) (runs_eval tab_ok ?_))
  simp only [ev0,aops,xstep,guardA,opA,tab,binA,binInt,arith,unA,pickA,convA,allocA,boxA,loadA,storeA,fieldAddrA,fieldA,indexAddrA,lenA,lenS,sliceA,boundA,makeSliceA,elemsA,appendA,buildA,fillA,buildSliceA,partsA,extractA,builtinA,minmaxA,AV.cells,AV.isAgg,allP,mkAgg,hget,hset,isRow,cellOk,setC,after,dstOk,St.put,St.get,lk,St.ev,cv,PV.one,Int.reduceToNat,entry,ent,Nat.reduceAdd,Nat.reduceLT,Nat.reduceBEq,Nat.reduceEqDiff,Nat.reduceLeDiff,Nat.reduceMul,Nat.reduceSub,Int.cast_ofNat_Int,decide_true,decide_false,reduceCtorEq,BEq.rfl,beq_self_eq_true,bne_self_eq_false,ite_true,ite_false,if_true,if_false,reduceIte]
  refine fin_run trivial (hK _ ?_)<;>clear hK<;>clear K
  repeat (first|refine qa ?_|refine qb ?_|refine qc ?_|refine qd ?_|refine qe ?_|refine qf ?_|refine qg rfl ?_|refine qh ?_|refine qi ?_|refine qj ?_|refine qk ?_|refine ql ?_|refine qm ?_)
  simp only [Try.results29,Post,endA,rvsA,rvA,mkTup,peekA,peekG,peekS,peekList,PV.norm,PV.norm1,PV.norm0,PV.list.injEq,PV.tup.injEq,PV.agg.injEq,PV.int.injEq,PV.bool.injEq,List.cons.injEq,ev0,aops,xstep,guardA,opA,tab,binA,binInt,arith,unA,pickA,convA,allocA,boxA,loadA,storeA,fieldAddrA,fieldA,indexAddrA,lenA,lenS,sliceA,boundA,makeSliceA,elemsA,appendA,buildA,fillA,buildSliceA,partsA,extractA,builtinA,minmaxA,AV.cells,AV.isAgg,allP,mkAgg,hget,hset,isRow,cellOk,setC,after,dstOk,St.put,St.get,lk,St.ev,cv,PV.one,Int.reduceToNat,entry,ent,Nat.reduceAdd,Nat.reduceLT,Nat.reduceBEq,Nat.reduceEqDiff,Nat.reduceLeDiff,Nat.reduceMul,Nat.reduceSub,Int.cast_ofNat_Int,decide_true,decide_false,reduceCtorEq,BEq.rfl,beq_self_eq_true,bne_self_eq_false,ite_true,ite_false,if_true,if_false,reduceIte]

theorem turned_c (w:List Int) (hl:w.length≤1000000000) (hs:Sm w):FnC Try.prog 30 [.list (il w)] (.list (il (back w))):=by
 refine fnc_of tab_ok Try.func30 rfl (by kernel_rfl) (by rw [Try.ntmps30]; exact Nat.le_add_left 1 _) ?_; rw [Try.ntmps30]; repeat (first|refine qa ?_|refine qb ?_|refine qc ?_|refine qd ?_|refine qe ?_|refine qf ?_|refine qg rfl ?_|refine qh ?_|refine qi ?_|refine qj ?_|refine qk ?_|refine ql ?_|refine qm ?_)
 (refine hk_region fun K hK=>runs_eval tab_ok ?_); simp only [ev0,aops,xstep,guardA,opA,tab,binA,binInt,arith,unA,pickA,convA,allocA,boxA,loadA,storeA,fieldAddrA,fieldA,indexAddrA,lenA,lenS,sliceA,boundA,makeSliceA,elemsA,appendA,buildA,fillA,buildSliceA,partsA,extractA,builtinA,minmaxA,AV.cells,AV.isAgg,allP,mkAgg,hget,hset,isRow,cellOk,setC,after,dstOk,St.put,St.get,lk,St.ev,cv,PV.one,Int.reduceToNat,entry,ent,Nat.reduceAdd,Nat.reduceLT,Nat.reduceBEq,Nat.reduceEqDiff,Nat.reduceLeDiff,Nat.reduceMul,Nat.reduceSub,Int.cast_ofNat_Int,decide_true,decide_false,reduceCtorEq,BEq.rfl,beq_self_eq_true,bne_self_eq_false,ite_true,ite_false,if_true,if_false,reduceIte]; refine fin_run trivial (hK _ ?_)<;>clear hK<;>clear K; repeat (first|refine qa ?_|refine qb ?_|refine qc ?_|refine qd ?_|refine qe ?_|refine qf ?_|refine qg rfl ?_|refine qh ?_|refine qi ?_|refine qj ?_|refine qk ?_|refine ql ?_|refine qm ?_)
 (refine hk_region fun K hK=>runs_eval tab_ok ?_); simp only [ev0,aops,xstep,guardA,opA,tab,binA,binInt,arith,unA,pickA,convA,allocA,boxA,loadA,storeA,fieldAddrA,fieldA,indexAddrA,lenA,lenS,sliceA,boundA,makeSliceA,elemsA,appendA,buildA,fillA,buildSliceA,partsA,extractA,builtinA,minmaxA,AV.cells,AV.isAgg,allP,mkAgg,hget,hset,isRow,cellOk,setC,after,dstOk,St.put,St.get,lk,St.ev,cv,PV.one,Int.reduceToNat,entry,ent,Nat.reduceAdd,Nat.reduceLT,Nat.reduceBEq,Nat.reduceEqDiff,Nat.reduceLeDiff,Nat.reduceMul,Nat.reduceSub,Int.cast_ofNat_Int,decide_true,decide_false,reduceCtorEq,BEq.rfl,beq_self_eq_true,bne_self_eq_false,ite_true,ite_false,if_true,if_false,reduceIte]; refine fin_run trivial (hK _ ?_)<;>clear hK<;>clear K; repeat (first|refine qa ?_|refine qb ?_|refine qc ?_|refine qd ?_|refine qe ?_|refine qf ?_|refine qg rfl ?_|refine qh ?_|refine qi ?_|refine qj ?_|refine qk ?_|refine ql ?_|refine qm ?_)
 refine hk_own0 3 rfl ?_
 (refine hk_region fun K hK=>runs_eval tab_ok ?_); simp only [ev0,aops,xstep,guardA,opA,tab,binA,binInt,arith,unA,pickA,convA,allocA,boxA,loadA,storeA,fieldAddrA,fieldA,indexAddrA,lenA,lenS,sliceA,boundA,makeSliceA,elemsA,appendA,buildA,fillA,buildSliceA,partsA,extractA,builtinA,minmaxA,AV.cells,AV.isAgg,allP,mkAgg,hget,hset,isRow,cellOk,setC,after,dstOk,St.put,St.get,lk,St.ev,cv,PV.one,Int.reduceToNat,entry,ent,Nat.reduceAdd,Nat.reduceLT,Nat.reduceBEq,Nat.reduceEqDiff,Nat.reduceLeDiff,Nat.reduceMul,Nat.reduceSub,Int.cast_ofNat_Int,decide_true,decide_false,reduceCtorEq,BEq.rfl,beq_self_eq_true,bne_self_eq_false,ite_true,ite_false,if_true,if_false,reduceIte]; refine fin_run trivial (hK _ ?_)<;>clear hK<;>clear K; repeat (first|refine qa ?_|refine qb ?_|refine qc ?_|refine qd ?_|refine qe ?_|refine qf ?_|refine qg rfl ?_|refine qh ?_|refine qi ?_|refine qj ?_|refine qk ?_|refine ql ?_|refine qm ?_)
 refine hk_loop (ι:=Nat) (fun j=>⟨21,[(0,.p (.list (il w))),(3,.sl 0 0 (bk w j).length),(4,.p (.int .i64 ((w.length:Int) - j)))],[.own (ol (bk w j))]⟩) (fun j=>j≤w.length) (fun j=>w.length - j) 0 (Nat.zero_le _) [0] (by simp only [AV.p.injEq,AV.sl.injEq,AV.ptr.injEq,Blk.own.injEq,PV.int.injEq,PV.bool.injEq,PV.list.injEq,Nat.sub_zero,Int.natCast_add,List.length_append,take_take_len,take_app1,take_app2,Le,LeH,LeS,LeB,ren,ren1,scA,sc1,List.nodup_cons,List.nodup_nil,List.mem_cons,List.not_mem_nil,or_false,not_false_eq_true,ev0,aops,xstep,guardA,opA,tab,binA,binInt,arith,unA,pickA,convA,allocA,boxA,loadA,storeA,fieldAddrA,fieldA,indexAddrA,lenA,lenS,sliceA,boundA,makeSliceA,elemsA,appendA,buildA,fillA,buildSliceA,partsA,extractA,builtinA,minmaxA,AV.cells,AV.isAgg,allP,mkAgg,hget,hset,isRow,cellOk,setC,after,dstOk,St.put,St.get,lk,St.ev,cv,PV.one,Int.reduceToNat,entry,ent,Nat.reduceAdd,Nat.reduceLT,Nat.reduceBEq,Nat.reduceEqDiff,Nat.reduceLeDiff,Nat.reduceMul,Nat.reduceSub,Int.cast_ofNat_Int,decide_true,decide_false,reduceCtorEq,BEq.rfl,beq_self_eq_true,bne_self_eq_false,ite_true,ite_false,if_true,if_false,reduceIte]<;>simp [bk,ol_nil]) fun j hj=>?_
 repeat (first|refine qa ?_|refine qb ?_|refine qc ?_|refine qd ?_|refine qe ?_|refine qf ?_|refine qg rfl ?_|refine qh ?_|refine qi ?_|refine qj ?_|refine qk ?_|refine ql ?_|refine qm ?_)
 (refine hk_region fun K hK=>runs_eval tab_ok ?_); simp only [ev0,aops,xstep,guardA,opA,tab,binA,binInt,arith,unA,pickA,convA,allocA,boxA,loadA,storeA,fieldAddrA,fieldA,indexAddrA,lenA,lenS,sliceA,boundA,makeSliceA,elemsA,appendA,buildA,fillA,buildSliceA,partsA,extractA,builtinA,minmaxA,AV.cells,AV.isAgg,allP,mkAgg,hget,hset,isRow,cellOk,setC,after,dstOk,St.put,St.get,lk,St.ev,cv,PV.one,Int.reduceToNat,entry,ent,Nat.reduceAdd,Nat.reduceLT,Nat.reduceBEq,Nat.reduceEqDiff,Nat.reduceLeDiff,Nat.reduceMul,Nat.reduceSub,Int.cast_ofNat_Int,decide_true,decide_false,reduceCtorEq,BEq.rfl,beq_self_eq_true,bne_self_eq_false,ite_true,ite_false,if_true,if_false,reduceIte]; refine fin_run trivial (hK _ ?_)<;>clear hK<;>clear K; repeat (first|refine qa ?_|refine qb ?_|refine qc ?_|refine qd ?_|refine qe ?_|refine qf ?_|refine qg rfl ?_|refine qh ?_|refine qi ?_|refine qj ?_|refine qk ?_|refine ql ?_|refine qm ?_)
 refine hk_cond rfl (fun hlt=>?_) (fun hlt=>?_)
 ·repeat (first|refine qa ?_|refine qb ?_|refine qc ?_|refine qd ?_|refine qe ?_|refine qf ?_|refine qg rfl ?_|refine qh ?_|refine qi ?_|refine qj ?_|refine qk ?_|refine ql ?_|refine qm ?_)
  have hlt:j < w.length:=by have:=of_decide_eq_true hlt; omega
  have hx:=hs (w.getD (w.length - 1 - j) 0) (by simp [List.getD,List.getElem?_eq_getElem (show w.length - 1 - j < w.length by omega)])
  have hi:((w.length:Int) - j - 1).toNat=w.length - 1 - j:=by omega
  have hb:=bk_len (Nat.le_of_lt hlt)
  have hsn:=bk_succ hlt
  refine hk_region fun K hK=>runs_eval tab_ok ?_
  simp only [ev0,aops,xstep,guardA,opA,tab,binA,binInt,arith,unA,pickA,convA,allocA,boxA,loadA,storeA,fieldAddrA,fieldA,indexAddrA,lenA,lenS,sliceA,boundA,makeSliceA,elemsA,appendA,buildA,fillA,buildSliceA,partsA,extractA,builtinA,minmaxA,AV.cells,AV.isAgg,allP,mkAgg,hget,hset,isRow,cellOk,setC,after,dstOk,St.put,St.get,lk,St.ev,cv,PV.one,Int.reduceToNat,entry,ent,Nat.reduceAdd,Nat.reduceLT,Nat.reduceBEq,Nat.reduceEqDiff,Nat.reduceLeDiff,Nat.reduceMul,Nat.reduceSub,Int.cast_ofNat_Int,decide_true,decide_false,reduceCtorEq,BEq.rfl,beq_self_eq_true,bne_self_eq_false,ite_true,ite_false,if_true,if_false,reduceIte,hi,il_get (show w.length - 1 - j < w.length by omega)]
  refine fin_run ?_ (hK _ ?_)<;>clear hK<;>clear K
  ·simp only [In64]; omega
  repeat (first|refine qa ?_|refine qb ?_|refine qc ?_|refine qd ?_|refine qe ?_|refine qf ?_|refine qg rfl ?_|refine qh ?_|refine qi ?_|refine qj ?_|refine qk ?_|refine ql ?_|refine qm ?_)
  refine hk_region fun K hK=>runs_eval tab_ok ?_
  simp only [ev0,aops,xstep,guardA,opA,tab,binA,binInt,arith,unA,pickA,convA,allocA,boxA,loadA,storeA,fieldAddrA,fieldA,indexAddrA,lenA,lenS,sliceA,boundA,makeSliceA,elemsA,appendA,buildA,fillA,buildSliceA,partsA,extractA,builtinA,minmaxA,AV.cells,AV.isAgg,allP,mkAgg,hget,hset,isRow,cellOk,setC,after,dstOk,St.put,St.get,lk,St.ev,cv,PV.one,Int.reduceToNat,entry,ent,Nat.reduceAdd,Nat.reduceLT,Nat.reduceBEq,Nat.reduceEqDiff,Nat.reduceLeDiff,Nat.reduceMul,Nat.reduceSub,Int.cast_ofNat_Int,decide_true,decide_false,reduceCtorEq,BEq.rfl,beq_self_eq_true,bne_self_eq_false,ite_true,ite_false,if_true,if_false,reduceIte]
  refine fin_run ?_ (hK _ ?_)<;>clear hK<;>clear K
  ·simp only [In64]; omega
  repeat (first|refine qa ?_|refine qb ?_|refine qc ?_|refine qd ?_|refine qe ?_|refine qf ?_|refine qg rfl ?_|refine qh ?_|refine qi ?_|refine qj ?_|refine qk ?_|refine ql ?_|refine qm ?_)
  refine ⟨j + 1,[1],by omega,by omega,?_⟩
  rw [hsn]
  simp only [AV.p.injEq,AV.sl.injEq,AV.ptr.injEq,Blk.own.injEq,PV.int.injEq,PV.bool.injEq,PV.list.injEq,Nat.sub_zero,Int.natCast_add,List.length_append,take_take_len,take_app1,take_app2,Le,LeH,LeS,LeB,ren,ren1,scA,sc1,List.nodup_cons,List.nodup_nil,List.mem_cons,List.not_mem_nil,or_false,not_false_eq_true,ev0,aops,xstep,guardA,opA,tab,binA,binInt,arith,unA,pickA,convA,allocA,boxA,loadA,storeA,fieldAddrA,fieldA,indexAddrA,lenA,lenS,sliceA,boundA,makeSliceA,elemsA,appendA,buildA,fillA,buildSliceA,partsA,extractA,builtinA,minmaxA,AV.cells,AV.isAgg,allP,mkAgg,hget,hset,isRow,cellOk,setC,after,dstOk,St.put,St.get,lk,St.ev,cv,PV.one,Int.reduceToNat,entry,ent,Nat.reduceAdd,Nat.reduceLT,Nat.reduceBEq,Nat.reduceEqDiff,Nat.reduceLeDiff,Nat.reduceMul,Nat.reduceSub,Int.cast_ofNat_Int,decide_true,decide_false,reduceCtorEq,BEq.rfl,beq_self_eq_true,bne_self_eq_false,ite_true,ite_false,if_true,if_false,reduceIte]<;>omega
 ·repeat (first|refine qa ?_|refine qb ?_|refine qc ?_|refine qd ?_|refine qe ?_|refine qf ?_|refine qg rfl ?_|refine qh ?_|refine qi ?_|refine qj ?_|refine qk ?_|refine ql ?_|refine qm ?_)
  have:j=w.length:=by have:=of_decide_eq_false hlt; omega
  rw [this,bk_all]
  (refine hk_region fun K hK=>runs_eval tab_ok ?_); simp only [ev0,aops,xstep,guardA,opA,tab,binA,binInt,arith,unA,pickA,convA,allocA,boxA,loadA,storeA,fieldAddrA,fieldA,indexAddrA,lenA,lenS,sliceA,boundA,makeSliceA,elemsA,appendA,buildA,fillA,buildSliceA,partsA,extractA,builtinA,minmaxA,AV.cells,AV.isAgg,allP,mkAgg,hget,hset,isRow,cellOk,setC,after,dstOk,St.put,St.get,lk,St.ev,cv,PV.one,Int.reduceToNat,entry,ent,Nat.reduceAdd,Nat.reduceLT,Nat.reduceBEq,Nat.reduceEqDiff,Nat.reduceLeDiff,Nat.reduceMul,Nat.reduceSub,Int.cast_ofNat_Int,decide_true,decide_false,reduceCtorEq,BEq.rfl,beq_self_eq_true,bne_self_eq_false,ite_true,ite_false,if_true,if_false,reduceIte]; refine fin_run trivial (hK _ ?_)<;>clear hK<;>clear K; repeat (first|refine qa ?_|refine qb ?_|refine qc ?_|refine qd ?_|refine qe ?_|refine qf ?_|refine qg rfl ?_|refine qh ?_|refine qi ?_|refine qj ?_|refine qk ?_|refine ql ?_|refine qm ?_)
  simp only [Try.results30,Post,endA,rvsA,rvA,mkTup,peekA,peekG,peekS,peekList,PV.norm,PV.norm1,PV.norm0,PV.list.injEq,PV.tup.injEq,PV.agg.injEq,PV.int.injEq,PV.bool.injEq,List.cons.injEq,ev0,aops,xstep,guardA,opA,tab,binA,binInt,arith,unA,pickA,convA,allocA,boxA,loadA,storeA,fieldAddrA,fieldA,indexAddrA,lenA,lenS,sliceA,boundA,makeSliceA,elemsA,appendA,buildA,fillA,buildSliceA,partsA,extractA,builtinA,minmaxA,AV.cells,AV.isAgg,allP,mkAgg,hget,hset,isRow,cellOk,setC,after,dstOk,St.put,St.get,lk,St.ev,cv,PV.one,Int.reduceToNat,entry,ent,Nat.reduceAdd,Nat.reduceLT,Nat.reduceBEq,Nat.reduceEqDiff,Nat.reduceLeDiff,Nat.reduceMul,Nat.reduceSub,Int.cast_ofNat_Int,decide_true,decide_false,reduceCtorEq,BEq.rfl,beq_self_eq_true,bne_self_eq_false,ite_true,ite_false,if_true,if_false,reduceIte]
  exact Nat.le_refl _
end Go.Proofs.Ytneglephfhiamaa

/-
  Words as a group: plain laws, with no program in sight. Conditions: none.
-/
set_option linter.all false
namespace Go.Proofs.Ytneglephfhiamaa
open Go.Pv

def Ok (w:List Int):Prop:=∀ x∈w,x ≠ 0∧-26≤x∧x≤26

theorem Ok.sm {w:List Int} (h:Ok w):Sm w:=fun x hx=>(h x hx).2
theorem chk_ok:∀ (w:List Int) (i:Nat),(chk i w).1=0→Ok w
 | [],_,_=>fun x hx=>by simp at hx
 | x :: r,i,h=>by
  unfold chk at h
  split at h
  ·simp at h
  ·rename_i hn
   intro y hy
   rcases List.mem_cons.1 hy with rfl | hy
   ·omega
   ·exact chk_ok r (i + 1) h y hy
theorem check_ok {w:List Int} (h:(check w).1=0):Ok w∧w.length≤2000:=by
 unfold check at h
 split at h
 ·simp at h
 ·exact ⟨chk_ok w 0 h,by omega⟩
theorem ok_chk:∀ (w:List Int) (i:Nat),Ok w→chk i w=(0,0)
 | [],_,_=>rfl
 | x :: r,i,h=>by
  have h0:=h x (by simp)
  rw [chk,if_neg (by omega)]
  exact ok_chk r (i + 1) fun y hy=>h y (by simp [hy])
theorem ok_check {w:List Int} (h:Ok w) (hl:w.length≤2000):check w=(0,0):=by
 rw [check,if_neg (by omega)]
 exact ok_chk w 0 h
theorem ok_allS:∀ {ls:List (List Int)},(∀ w∈ls,Ok w∧w.length≤2000)→allS ls=(0,0)
 | [],_=>rfl
 | w :: r,h=>by
  have h0:=h w (by simp)
  rw [allS,ok_check h0.1 h0.2,if_neg (by simp)]
  exact ok_allS fun v hv=>h v (by simp [hv])
theorem Ok.app {v w:List Int} (hv:Ok v) (hw:Ok w):Ok (v++w):=by
 intro x hx
 rcases List.mem_append.1 hx with h | h
 ·exact hv x h
 ·exact hw x h
theorem short_sub:∀ (w:List Int),∀ x∈short w,x∈w:=by
 have:∀ (w o:List Int),∀ x∈w.foldl push o,x∈o∨x∈w:=by
  intro w
  induction w with
  | nil=>intro o x hx; exact .inl hx
  | cons y r ih =>
   intro o x hx
   rcases ih (push o y) x hx with h | h
   ·unfold push at h
    split at h
    ·exact .inl (List.mem_of_mem_take h)
    ·rcases List.mem_append.1 h with h | h
     ·exact .inl h
     ·exact .inr (by simp at h; simp [h])
   ·exact .inr (by simp [h])
 intro w x hx
 rcases this w [] x hx with h | h
 ·simp at h
 ·exact h
theorem Ok.short {w:List Int} (h:Ok w):Ok (short w):=fun x hx=>h x (short_sub w x hx)
theorem Ok.back {w:List Int} (h:Ok w):Ok (back w):=by
 intro x hx
 obtain ⟨y,hy,rfl⟩:=List.mem_map.1 hx
 have:=h y (List.mem_reverse.1 hy)
 omega

theorem short_left (x y:List Int):short (short x++y)=short (x++y):=by
 rw [short_app,short_app,short_short]

theorem foldl_short {o:List Int} (ho:Red o):∀ y:List Int,(short y).foldl push o=y.foldl push o:=by
 have key:∀ n (y:List Int),y.length=n→(short y).foldl push o=y.foldl push o:=by
  intro n
  induction n with
  | zero=>intro y hy; rw [List.eq_nil_of_length_eq_zero hy]; rfl
  | succ n ih =>
   intro y hy
   have hne:y ≠ []:=by intro h; subst h; simp at hy
   obtain ⟨y',z,rfl⟩:∃ y' z,y=y'++[z]:=⟨y.dropLast,y.getLast hne,(List.dropLast_concat_getLast hne).symm⟩
   have ih':=ih y' (by simpa using hy)
   have e:short (y'++[z])=push (short y') z:=by rw [short_app]; rfl
   rw [e,List.foldl_append,← ih']
   simp only [List.foldl_cons,List.foldl_nil]
   have hr:=red_short y'
   generalize short y' = s at *
   by_cases hc:0 < s.length∧s.getD (s.length - 1) 0 = -z
   ·have h1:push s z=s.take (s.length - 1):=by rw [push,if_pos hc]
    have h2:=take_last hc.1
    rw [hc.2] at h2
    rw [h1]
    generalize s.take (s.length - 1)=s' at *
    rw [← h2,List.foldl_append]
    simp only [List.foldl_cons,List.foldl_nil]
    have hred:∀ (l o:List Int),Red o→Red (l.foldl push o):=by
     intro l
     induction l with
     | nil=>intro o h; exact h
     | cons a b ih=>intro o h; exact ih _ (red_push h)
    have:=push_cancel (-z) (hred s' o ho)
    rw [Int.neg_neg] at this
    exact this.symm
   ·have h1:push s z=s++[z]:=by rw [push,if_neg hc]
    rw [h1,List.foldl_append]
    rfl
 exact fun y=>key y.length y rfl

theorem short_right (x y:List Int):short (x++short y)=short (x++y):=by
 rw [short_app,short_app,foldl_short (red_short x)]
theorem short_mid (p m q:List Int):short (p++short m++q)=short (p++m++q):=by
 rw [← short_left,short_right,short_left]

theorem back_cons (x:Int) (r:List Int):back (x :: r)=back r++[-x]:=by simp [back]
theorem back_back (a:List Int):back (back a)=a:=by simp [back,List.map_reverse,Function.comp_def]
theorem back_len (a:List Int):(back a).length=a.length:=by simp [back]

theorem short_inv (a:List Int):short (a++back a)=[]:=by
 induction a with
 | nil=>rfl
 | cons x r ih =>
  rw [back_cons]
  have e:x :: r++(back r++[-x])=[x]++(r++back r)++[-x]:=by simp
  rw [e,← short_mid,ih]
  have:=short_cancel [] [] x
  simpa [short] using this
theorem short_inv' (a:List Int):short (back a++a)=[]:=by
 have:=short_inv (back a)
 rwa [back_back] at this

end Go.Proofs.Ytneglephfhiamaa
