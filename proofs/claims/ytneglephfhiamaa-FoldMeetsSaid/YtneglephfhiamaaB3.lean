/-
  Texts of this proof, one behind the other: what each says stands at its head. Conditions: none.
-/
import Derived.Test.YtneglephfhiamaaB2
import Derived.Maps.RangeRun

set_option linter.all false
namespace Go.Proofs.Ytneglephfhiamaa
open Go.Pv
theorem fault_c (c a:Int):FnC Try.prog 82 [.int .i64 c,.int .i64 a] (.agg [.int .i64 c,.int .i64 a]):=by
 refine fnc_of tab_ok Try.func82 rfl (by kernel_rfl) (by rw [Try.ntmps82]; exact Nat.le_add_left 2 _) ?_; rw [Try.ntmps82]; repeat (first|refine qa ?_|refine qb ?_|refine qc ?_|refine qd ?_|refine qe ?_|refine qf ?_|refine qg rfl ?_|refine qh ?_|refine qi ?_|refine qj ?_|refine qk ?_|refine ql ?_|refine qm ?_)
 (refine hk_region fun K hK=>runs_eval tab_ok ?_); simp only [evz,gp,tab,simprocAttr,reduceCtorEq,reduceIte]; refine fin_run trivial (hK _ ?_)<;>clear hK K; repeat (first|refine qa ?_|refine qb ?_|refine qc ?_|refine qd ?_|refine qe ?_|refine qf ?_|refine qg rfl ?_|refine qh ?_|refine qi ?_|refine qj ?_|refine qk ?_|refine ql ?_|refine qm ?_)
 (refine hk_region fun K hK=>runs_eval tab_ok ?_); simp only [evz,gp,tab,simprocAttr,reduceCtorEq,reduceIte]; refine fin_run trivial (hK _ ?_)<;>clear hK K; repeat (first|refine qa ?_|refine qb ?_|refine qc ?_|refine qd ?_|refine qe ?_|refine qf ?_|refine qg rfl ?_|refine qh ?_|refine qi ?_|refine qj ?_|refine qk ?_|refine ql ?_|refine qm ?_)
 simp only [Try.results82,Post,endA,rvsA,rvA,mkTup,peekA,peekG,peekS,peekList,PV.norm,PV.norm1,PV.norm0,PV.list.injEq,PV.tup.injEq,PV.agg.injEq,PV.int.injEq,PV.bool.injEq,List.cons.injEq,evz,gp,tab,simprocAttr,reduceCtorEq,reduceIte]
def chk:Nat→List Int→Int × Int
 | _,[]=>(0,0)
 | i,x :: r=>if x=0∨x < -26∨x > 26 then (3,i) else chk (i + 1) r
def check (w:List Int):Int × Int:=if (w.length:Int) > 2000 then (2,0) else chk 0 w
def fl (p:Int × Int):PV:=.agg [.int .i64 p.1,.int .i64 p.2]
theorem check_c (w:List Int):FnC Try.prog 61 [.list (il w)] (fl (check w)):=by
 refine fnc_of tab_ok Try.func61 rfl (by kernel_rfl) (by rw [Try.ntmps61]; exact Nat.le_add_left 1 _) ?_; rw [Try.ntmps61]; repeat (first|refine qa ?_|refine qb ?_|refine qc ?_|refine qd ?_|refine qe ?_|refine qf ?_|refine qg rfl ?_|refine qh ?_|refine qi ?_|refine qj ?_|refine qk ?_|refine ql ?_|refine qm ?_)
 (refine hk_region fun K hK=>runs_eval tab_ok ?_); simp only [evz,gp,tab,simprocAttr,reduceCtorEq,reduceIte]; refine fin_run trivial (hK _ ?_)<;>clear hK K; repeat (first|refine qa ?_|refine qb ?_|refine qc ?_|refine qd ?_|refine qe ?_|refine qf ?_|refine qg rfl ?_|refine qh ?_|refine qi ?_|refine qj ?_|refine qk ?_|refine ql ?_|refine qm ?_)
 (refine hk_region fun K hK=>runs_eval tab_ok ?_); simp only [evz,gp,tab,simprocAttr,reduceCtorEq,reduceIte,il_length]; refine fin_run trivial (hK _ ?_)<;>clear hK K; repeat (first|refine qa ?_|refine qb ?_|refine qc ?_|refine qd ?_|refine qe ?_|refine qf ?_|refine qg rfl ?_|refine qh ?_|refine qi ?_|refine qj ?_|refine qk ?_|refine ql ?_|refine qm ?_)
 refine hk_cond rfl (fun h=>?_) (fun h=>?_)
 ·repeat (first|refine qa ?_|refine qb ?_|refine qc ?_|refine qd ?_|refine qe ?_|refine qf ?_|refine qg rfl ?_|refine qh ?_|refine qi ?_|refine qj ?_|refine qk ?_|refine ql ?_|refine qm ?_)
  refine hk_region fun K hK=>runs_eval tab_ok ?_
  simp only [evz,gp,tab,simprocAttr,reduceCtorEq,reduceIte]
  refine fin_stop trivial (runs_call (fault_c 2 0) rfl rfl rfl (by simp only [dstOk,Nat.reduceLT]) (by repeat (first|exact trivial|constructor)) (runs_eval tab_ok ?_))
  simp only [evz,gp,tab,simprocAttr,reduceCtorEq,reduceIte]
  refine fin_run trivial (hK _ ?_)<;>clear hK K
  repeat (first|refine qa ?_|refine qb ?_|refine qc ?_|refine qd ?_|refine qe ?_|refine qf ?_|refine qg rfl ?_|refine qh ?_|refine qi ?_|refine qj ?_|refine qk ?_|refine ql ?_|refine qm ?_)
  simp only [Try.results61,Post,endA,rvsA,rvA,mkTup,peekA,peekG,peekS,peekList,PV.norm,PV.norm1,PV.norm0,PV.list.injEq,PV.tup.injEq,PV.agg.injEq,PV.int.injEq,PV.bool.injEq,List.cons.injEq,evz,gp,tab,simprocAttr,reduceCtorEq,reduceIte]
  simp [check,fl,of_decide_eq_true h]
 repeat (first|refine qa ?_|refine qb ?_|refine qc ?_|refine qd ?_|refine qe ?_|refine qf ?_|refine qg rfl ?_|refine qh ?_|refine qi ?_|refine qj ?_|refine qk ?_|refine ql ?_|refine qm ?_)
 (refine hk_region fun K hK=>runs_eval tab_ok ?_); simp only [evz,gp,tab,simprocAttr,reduceCtorEq,reduceIte,il_length]; refine fin_run trivial (hK _ ?_)<;>clear hK K; repeat (first|refine qa ?_|refine qb ?_|refine qc ?_|refine qd ?_|refine qe ?_|refine qf ?_|refine qg rfl ?_|refine qh ?_|refine qi ?_|refine qj ?_|refine qk ?_|refine ql ?_|refine qm ?_)
 have hw:w.length≤2000:=by have:=of_decide_eq_false h; omega
 refine hk_loop (ι:=Nat) (fun i=>⟨30,[(2,.ptr 0 0),(9,.p (.list (il w))),(10,.p (.int .i64 w.length)),(11,.p (.int .i64 i))],[.own [.p (.int .i64 0),.p (.int .i64 0)]]⟩) (fun i=>i≤w.length∧chk i (w.drop i)=chk 0 w) (fun i=>w.length - i) 0 ⟨Nat.zero_le _,rfl⟩ [0] (by simp only [AV.p.injEq,AV.sl.injEq,AV.ptr.injEq,Blk.own.injEq,PV.int.injEq,PV.bool.injEq,PV.list.injEq,Nat.sub_zero,Int.natCast_add,List.length_append,take_take_len,take_app1,take_app2,Le,LeH,LeS,LeB,ren,ren1,scA,sc1,List.nodup_cons,List.nodup_nil,List.mem_cons,List.not_mem_nil,or_false,not_false_eq_true,evz,gp,tab,simprocAttr,reduceCtorEq,reduceIte]<;>trivial) fun i hi=>?_
 repeat (first|refine qa ?_|refine qb ?_|refine qc ?_|refine qd ?_|refine qe ?_|refine qf ?_|refine qg rfl ?_|refine qh ?_|refine qi ?_|refine qj ?_|refine qk ?_|refine ql ?_|refine qm ?_)
 (refine hk_region fun K hK=>runs_eval tab_ok ?_); simp only [evz,gp,tab,simprocAttr,reduceCtorEq,reduceIte]; refine fin_run trivial (hK _ ?_)<;>clear hK K; repeat (first|refine qa ?_|refine qb ?_|refine qc ?_|refine qd ?_|refine qe ?_|refine qf ?_|refine qg rfl ?_|refine qh ?_|refine qi ?_|refine qj ?_|refine qk ?_|refine ql ?_|refine qm ?_)
 refine hk_cond rfl (fun hlt=>?_) (fun hlt=>?_)
 ·repeat (first|refine qa ?_|refine qb ?_|refine qc ?_|refine qd ?_|refine qe ?_|refine qf ?_|refine qg rfl ?_|refine qh ?_|refine qi ?_|refine qj ?_|refine qk ?_|refine ql ?_|refine qm ?_)
  have hlt:i < w.length:=by have:=of_decide_eq_true hlt; omega
  refine hk_region fun K hK=>runs_eval tab_ok ?_
  simp only [evz,gp,tab,simprocAttr,reduceCtorEq,reduceIte,il_get hlt,il_length]
  refine fin_run ?_ (hK _ ?_)<;>clear hK K
  ·omega
  repeat (first|refine qa ?_|refine qb ?_|refine qc ?_|refine qd ?_|refine qe ?_|refine qf ?_|refine qg rfl ?_|refine qh ?_|refine qi ?_|refine qj ?_|refine qk ?_|refine ql ?_|refine qm ?_)
  obtain ⟨hi1,hi2⟩:=hi
  have hdrop:w.drop i=w.getD i 0 :: w.drop (i + 1):=by
   rw [List.drop_eq_getElem_cons hlt]; simp [List.getD,List.getElem?_eq_getElem hlt]
  have next:¬ (w.getD i 0=0∨w.getD i 0 < -26∨w.getD i 0 > 26)→chk (i + 1) (w.drop (i + 1))=chk 0 w:=by
   intro hn
   rw [hdrop,chk,if_neg hn] at hi2; exact hi2
  have last:(w.getD i 0=0∨w.getD i 0 < -26∨w.getD i 0 > 26)→chk 0 w=(3,(i:Int)):=by
   intro hn
   rw [hdrop,chk,if_pos hn] at hi2; exact hi2.symm
  generalize w.getD i 0=x at *
  refine hk_cut ⟨30,[(25,.p (.bool (decide (x=0∨x < -26∨x > 26)))),(3,.p (.int .i64 i)),(2,.ptr 0 0),(9,.p (.list (il w))),(10,.p (.int .i64 w.length)),(11,.p (.int .i64 i))],[.own [.p (.int .i64 0),.p (.int .i64 0)]]⟩ ?_ ?_
  ·cases e1:(x == 0)
   ·cases e2:decide (x < -26)
    ·refine hk_region fun K hK=>runs_eval tab_ok ?_
     simp only [evz,gp,tab,simprocAttr,reduceCtorEq,reduceIte,e1,e2]
     refine fin_run trivial (hK _ ?_)<;>clear hK K
     refine ⟨rfl,[0],?_⟩; simp only [AV.p.injEq,AV.sl.injEq,AV.ptr.injEq,Blk.own.injEq,PV.int.injEq,PV.bool.injEq,PV.list.injEq,Nat.sub_zero,Int.natCast_add,List.length_append,take_take_len,take_app1,take_app2,Le,LeH,LeS,LeB,ren,ren1,scA,sc1,List.nodup_cons,List.nodup_nil,List.mem_cons,List.not_mem_nil,or_false,not_false_eq_true,evz,gp,tab,simprocAttr,reduceCtorEq,reduceIte]; (first|exact trivial|omega|(simp only [In64] at *; omega)|(rw [Bool.eq_iff_iff]; simp; done)|(rw [Bool.eq_iff_iff]; simp; omega)|(simp [In64] at *; omega)|(simp_all; done)|(simp_all [In64]<;>omega)|skip)
    refine hk_region fun K hK=>runs_eval tab_ok ?_
    simp only [evz,gp,tab,simprocAttr,reduceCtorEq,reduceIte,e1,e2]
    refine fin_run trivial (hK _ ?_)<;>clear hK K
    refine ⟨rfl,[0],?_⟩; simp only [AV.p.injEq,AV.sl.injEq,AV.ptr.injEq,Blk.own.injEq,PV.int.injEq,PV.bool.injEq,PV.list.injEq,Nat.sub_zero,Int.natCast_add,List.length_append,take_take_len,take_app1,take_app2,Le,LeH,LeS,LeB,ren,ren1,scA,sc1,List.nodup_cons,List.nodup_nil,List.mem_cons,List.not_mem_nil,or_false,not_false_eq_true,evz,gp,tab,simprocAttr,reduceCtorEq,reduceIte]; (first|exact trivial|omega|(simp only [In64] at *; omega)|(rw [Bool.eq_iff_iff]; simp; done)|(rw [Bool.eq_iff_iff]; simp; omega)|(simp [In64] at *; omega)|(simp_all; done)|(simp_all [In64]<;>omega)|skip)
   refine hk_region fun K hK=>runs_eval tab_ok ?_
   simp only [evz,gp,tab,simprocAttr,reduceCtorEq,reduceIte,e1]
   refine fin_run trivial (hK _ ?_)<;>clear hK K
   refine ⟨rfl,[0],?_⟩; simp only [AV.p.injEq,AV.sl.injEq,AV.ptr.injEq,Blk.own.injEq,PV.int.injEq,PV.bool.injEq,PV.list.injEq,Nat.sub_zero,Int.natCast_add,List.length_append,take_take_len,take_app1,take_app2,Le,LeH,LeS,LeB,ren,ren1,scA,sc1,List.nodup_cons,List.nodup_nil,List.mem_cons,List.not_mem_nil,or_false,not_false_eq_true,evz,gp,tab,simprocAttr,reduceCtorEq,reduceIte]; (first|exact trivial|omega|(simp only [In64] at *; omega)|(rw [Bool.eq_iff_iff]; simp; done)|(rw [Bool.eq_iff_iff]; simp; omega)|(simp [In64] at *; omega)|(simp_all; done)|(simp_all [In64]<;>omega)|skip)
  refine hk_cond rfl (fun hc=>?_) (fun hc=>?_)
  ·repeat (first|refine qa ?_|refine qb ?_|refine qc ?_|refine qd ?_|refine qe ?_|refine qf ?_|refine qg rfl ?_|refine qh ?_|refine qi ?_|refine qj ?_|refine qk ?_|refine ql ?_|refine qm ?_)
   refine hk_region fun K hK=>runs_eval tab_ok ?_
   simp only [evz,gp,tab,simprocAttr,reduceCtorEq,reduceIte]
   refine fin_stop trivial (runs_call (fault_c 3 i) rfl rfl rfl (by simp only [dstOk,Nat.reduceLT]) (by repeat (first|exact trivial|constructor)) (runs_eval tab_ok ?_))
   simp only [evz,gp,tab,simprocAttr,reduceCtorEq,reduceIte]
   refine fin_run trivial (hK _ ?_)<;>clear hK K
   repeat (first|refine qa ?_|refine qb ?_|refine qc ?_|refine qd ?_|refine qe ?_|refine qf ?_|refine qg rfl ?_|refine qh ?_|refine qi ?_|refine qj ?_|refine qk ?_|refine ql ?_|refine qm ?_)
   simp only [Try.results61,Post,endA,rvsA,rvA,mkTup,peekA,peekG,peekS,peekList,PV.norm,PV.norm1,PV.norm0,PV.list.injEq,PV.tup.injEq,PV.agg.injEq,PV.int.injEq,PV.bool.injEq,List.cons.injEq,evz,gp,tab,simprocAttr,reduceCtorEq,reduceIte]
   rw [check,if_neg (by omega),last (of_decide_eq_true hc)]; rfl
  repeat (first|refine qa ?_|refine qb ?_|refine qc ?_|refine qd ?_|refine qe ?_|refine qf ?_|refine qg rfl ?_|refine qh ?_|refine qi ?_|refine qj ?_|refine qk ?_|refine ql ?_|refine qm ?_)
  refine hk_region fun K hK=>runs_eval tab_ok ?_
  simp only [evz,gp,tab,simprocAttr,reduceCtorEq,reduceIte]
  refine fin_run ?_ (hK _ ?_)<;>clear hK K
  ·(first|exact trivial|omega|(simp only [In64] at *; omega)|(rw [Bool.eq_iff_iff]; simp; done)|(rw [Bool.eq_iff_iff]; simp; omega)|(simp [In64] at *; omega)|(simp_all; done)|(simp_all [In64]<;>omega)|skip)
  repeat (first|refine qa ?_|refine qb ?_|refine qc ?_|refine qd ?_|refine qe ?_|refine qf ?_|refine qg rfl ?_|refine qh ?_|refine qi ?_|refine qj ?_|refine qk ?_|refine ql ?_|refine qm ?_)
  refine ⟨i + 1,[0],⟨by omega,next (of_decide_eq_false hc)⟩,by omega,?_⟩
  simp only [AV.p.injEq,AV.sl.injEq,AV.ptr.injEq,Blk.own.injEq,PV.int.injEq,PV.bool.injEq,PV.list.injEq,Nat.sub_zero,Int.natCast_add,List.length_append,take_take_len,take_app1,take_app2,Le,LeH,LeS,LeB,ren,ren1,scA,sc1,List.nodup_cons,List.nodup_nil,List.mem_cons,List.not_mem_nil,or_false,not_false_eq_true,evz,gp,tab,simprocAttr,reduceCtorEq,reduceIte]<;>(first|exact trivial|omega|(simp only [In64] at *; omega)|(rw [Bool.eq_iff_iff]; simp; done)|(rw [Bool.eq_iff_iff]; simp; omega)|(simp [In64] at *; omega)|(simp_all; done)|(simp_all [In64]<;>omega)|skip)
 repeat (first|refine qa ?_|refine qb ?_|refine qc ?_|refine qd ?_|refine qe ?_|refine qf ?_|refine qg rfl ?_|refine qh ?_|refine qi ?_|refine qj ?_|refine qk ?_|refine ql ?_|refine qm ?_)
 (refine hk_region fun K hK=>runs_eval tab_ok ?_); simp only [evz,gp,tab,simprocAttr,reduceCtorEq,reduceIte]; refine fin_run trivial (hK _ ?_)<;>clear hK K; repeat (first|refine qa ?_|refine qb ?_|refine qc ?_|refine qd ?_|refine qe ?_|refine qf ?_|refine qg rfl ?_|refine qh ?_|refine qi ?_|refine qj ?_|refine qk ?_|refine ql ?_|refine qm ?_)
 simp only [Try.results61,Post,endA,rvsA,rvA,mkTup,peekA,peekG,peekS,peekList,PV.norm,PV.norm1,PV.norm0,PV.list.injEq,PV.tup.injEq,PV.agg.injEq,PV.int.injEq,PV.bool.injEq,List.cons.injEq,evz,gp,tab,simprocAttr,reduceCtorEq,reduceIte]
 have:i=w.length:=by have:=of_decide_eq_false hlt; omega
 rw [check,if_neg (by omega),← hi.2,this,List.drop_length]; rfl
def push (o:List Int) (x:Int):List Int:=if 0 < o.length∧o.getD (o.length - 1) 0 = -x then o.take (o.length - 1) else o++[x]
def short (w:List Int):List Int:=w.foldl push []
def Sm (w:List Int):Prop:=∀ x∈w,-26≤x∧x≤26
theorem push_len (o:List Int) (x:Int):(push o x).length≤o.length + 1:=by
 unfold push; split<;>simp<;>omega
theorem short_snoc (w:List Int) (i:Nat) (h:i < w.length):short (w.take (i + 1))=push (short (w.take i)) (w.getD i 0):=by
 rw [List.take_succ_eq_append_getElem h]
 simp only [short,List.foldl_append,List.foldl_cons,List.foldl_nil,List.getD,List.getElem?_eq_getElem h,Option.getD_some]
theorem short_len (w:List Int):(short w).length≤w.length:=by
 have:∀ (w o:List Int),(w.foldl push o).length≤o.length + w.length:=by
  intro w
  induction w with
  | nil=>intro o; simp
  | cons x r ih=>intro o; have:=ih (push o x); have:=push_len o x; simp at *; omega
 have:=this w []
 simpa [short] using this
theorem short_c (w:List Int) (hl:w.length≤1000000000) (hs:Sm w):FnC Try.prog 54 [.list (il w)] (.list (il (short w))):=by
 refine fnc_of tab_ok Try.func54 rfl (by kernel_rfl) (by rw [Try.ntmps54]; exact Nat.le_add_left 1 _) ?_; rw [Try.ntmps54]; repeat (first|refine qa ?_|refine qb ?_|refine qc ?_|refine qd ?_|refine qe ?_|refine qf ?_|refine qg rfl ?_|refine qh ?_|refine qi ?_|refine qj ?_|refine qk ?_|refine ql ?_|refine qm ?_)
 (refine hk_region fun K hK=>runs_eval tab_ok ?_); simp only [evz,gp,tab,simprocAttr,reduceCtorEq,reduceIte]; refine fin_run trivial (hK _ ?_)<;>clear hK K; repeat (first|refine qa ?_|refine qb ?_|refine qc ?_|refine qd ?_|refine qe ?_|refine qf ?_|refine qg rfl ?_|refine qh ?_|refine qi ?_|refine qj ?_|refine qk ?_|refine ql ?_|refine qm ?_)
 refine hk_region fun K hK=>runs_eval tab_ok ?_
 simp only [evz,gp,tab,simprocAttr,reduceCtorEq,reduceIte]
 refine fin_run ?_ (hK _ ?_)<;>clear hK K
 ·(first|exact trivial|omega|(simp only [In64] at *; omega)|(rw [Bool.eq_iff_iff]; simp; done)|(rw [Bool.eq_iff_iff]; simp; omega)|(simp [In64] at *; omega)|(simp_all; done)|(simp_all [In64]<;>omega)|skip)
 repeat (first|refine qa ?_|refine qb ?_|refine qc ?_|refine qd ?_|refine qe ?_|refine qf ?_|refine qg rfl ?_|refine qh ?_|refine qi ?_|refine qj ?_|refine qk ?_|refine ql ?_|refine qm ?_)
 (refine hk_region fun K hK=>runs_eval tab_ok ?_); simp only [evz,gp,tab,simprocAttr,reduceCtorEq,reduceIte]; refine fin_run trivial (hK _ ?_)<;>clear hK K; repeat (first|refine qa ?_|refine qb ?_|refine qc ?_|refine qd ?_|refine qe ?_|refine qf ?_|refine qg rfl ?_|refine qh ?_|refine qi ?_|refine qj ?_|refine qk ?_|refine ql ?_|refine qm ?_)
 refine hk_loop (ι:=Nat) (fun i=>⟨40,[(3,.sl 0 0 (short (w.take i)).length),(10,.p (.list (il w))),(11,.p (.int .i64 w.length)),(12,.p (.int .i64 i))],[.own (ol (short (w.take i)))]⟩) (fun i=>i≤w.length) (fun i=>w.length - i) 0 (Nat.zero_le _) [0] (by simp only [AV.p.injEq,AV.sl.injEq,AV.ptr.injEq,Blk.own.injEq,PV.int.injEq,PV.bool.injEq,PV.list.injEq,Nat.sub_zero,Int.natCast_add,List.length_append,take_take_len,take_app1,take_app2,Le,LeH,LeS,LeB,ren,ren1,scA,sc1,List.nodup_cons,List.nodup_nil,List.mem_cons,List.not_mem_nil,or_false,not_false_eq_true,evz,gp,tab,simprocAttr,reduceCtorEq,reduceIte]<;>trivial) fun i hi=>?_
 repeat (first|refine qa ?_|refine qb ?_|refine qc ?_|refine qd ?_|refine qe ?_|refine qf ?_|refine qg rfl ?_|refine qh ?_|refine qi ?_|refine qj ?_|refine qk ?_|refine ql ?_|refine qm ?_)
 (refine hk_region fun K hK=>runs_eval tab_ok ?_); simp only [evz,gp,tab,simprocAttr,reduceCtorEq,reduceIte]; refine fin_run trivial (hK _ ?_)<;>clear hK K; repeat (first|refine qa ?_|refine qb ?_|refine qc ?_|refine qd ?_|refine qe ?_|refine qf ?_|refine qg rfl ?_|refine qh ?_|refine qi ?_|refine qj ?_|refine qk ?_|refine ql ?_|refine qm ?_)
 refine hk_cond rfl (fun hlt=>?_) (fun hlt=>?_)
 ·repeat (first|refine qa ?_|refine qb ?_|refine qc ?_|refine qd ?_|refine qe ?_|refine qf ?_|refine qg rfl ?_|refine qh ?_|refine qi ?_|refine qj ?_|refine qk ?_|refine ql ?_|refine qm ?_)
  have hlt:i < w.length:=by have:=of_decide_eq_true hlt; omega
  refine hk_region fun K hK=>runs_eval tab_ok ?_
  simp only [evz,gp,tab,simprocAttr,reduceCtorEq,reduceIte,il_get hlt]
  refine fin_run ?_ (hK _ ?_)<;>clear hK K
  ·omega
  repeat (first|refine qa ?_|refine qb ?_|refine qc ?_|refine qd ?_|refine qe ?_|refine qf ?_|refine qg rfl ?_|refine qh ?_|refine qi ?_|refine qj ?_|refine qk ?_|refine ql ?_|refine qm ?_)
  have hx:=hs (w.getD i 0) (by simp [List.getD,List.getElem?_eq_getElem hlt])
  have hsn:=short_snoc w i hlt
  have hle:=short_len (w.take i)
  rw [List.length_take] at hle
  generalize short (w.take i)=o at *
  generalize w.getD i 0=x at *
  (refine hk_region fun K hK=>runs_eval tab_ok ?_); simp only [evz,gp,tab,simprocAttr,reduceCtorEq,reduceIte]; refine fin_run trivial (hK _ ?_)<;>clear hK K; repeat (first|refine qa ?_|refine qb ?_|refine qc ?_|refine qd ?_|refine qe ?_|refine qf ?_|refine qg rfl ?_|refine qh ?_|refine qi ?_|refine qj ?_|refine qk ?_|refine ql ?_|refine qm ?_)
  refine hk_cut ⟨40,[(29,.p (.bool (decide (0 < o.length∧o.getD (o.length - 1) 0 = -x)))),(6,.p (.int .i64 o.length)),(5,.p (.int .i64 x)),(3,.sl 0 0 o.length),(10,.p (.list (il w))),(11,.p (.int .i64 w.length)),(12,.p (.int .i64 i))],[.own (ol o)]⟩ ?_ ?_
  ·cases e0:decide ((o.length:Int) > 0)
   ·refine hk_region fun K hK=>runs_eval tab_ok ?_
    simp only [evz,gp,tab,simprocAttr,reduceCtorEq,reduceIte,e0]
    refine fin_run trivial (hK _ ?_)<;>clear hK K
    refine ⟨rfl,[0],?_⟩; simp only [AV.p.injEq,AV.sl.injEq,AV.ptr.injEq,Blk.own.injEq,PV.int.injEq,PV.bool.injEq,PV.list.injEq,Nat.sub_zero,Int.natCast_add,List.length_append,take_take_len,take_app1,take_app2,Le,LeH,LeS,LeB,ren,ren1,scA,sc1,List.nodup_cons,List.nodup_nil,List.mem_cons,List.not_mem_nil,or_false,not_false_eq_true,evz,gp,tab,simprocAttr,reduceCtorEq,reduceIte]; (first|exact trivial|omega|(simp only [In64] at *; omega)|(rw [Bool.eq_iff_iff]; simp; done)|(rw [Bool.eq_iff_iff]; simp; omega)|(simp [In64] at *; omega)|(simp_all; done)|(simp_all [In64]<;>omega)|skip)
   have h0:o.length - 1 < o.length:=by have:=of_decide_eq_true e0; omega
   refine hk_region fun K hK=>runs_eval tab_ok ?_
   simp only [evz,gp,tab,simprocAttr,reduceCtorEq,reduceIte,e0,ol_get h0]
   refine fin_run ?_ (hK _ ?_)<;>clear hK K
   ·(first|exact trivial|omega|(simp only [In64] at *; omega)|(rw [Bool.eq_iff_iff]; simp; done)|(rw [Bool.eq_iff_iff]; simp; omega)|(simp [In64] at *; omega)|(simp_all; done)|(simp_all [In64]<;>omega)|skip)
   refine ⟨rfl,[0],?_⟩; simp only [AV.p.injEq,AV.sl.injEq,AV.ptr.injEq,Blk.own.injEq,PV.int.injEq,PV.bool.injEq,PV.list.injEq,Nat.sub_zero,Int.natCast_add,List.length_append,take_take_len,take_app1,take_app2,Le,LeH,LeS,LeB,ren,ren1,scA,sc1,List.nodup_cons,List.nodup_nil,List.mem_cons,List.not_mem_nil,or_false,not_false_eq_true,evz,gp,tab,simprocAttr,reduceCtorEq,reduceIte]; (first|exact trivial|omega|(simp only [In64] at *; omega)|(rw [Bool.eq_iff_iff]; simp; done)|(rw [Bool.eq_iff_iff]; simp; omega)|(simp [In64] at *; omega)|(simp_all; done)|(simp_all [In64]<;>omega)|skip)
  refine hk_cond rfl (fun hc=>?_) (fun hc=>?_)
  ·have hc:=of_decide_eq_true hc
   refine hk_region fun K hK=>runs_eval tab_ok ?_
   simp only [evz,gp,tab,simprocAttr,reduceCtorEq,reduceIte]
   refine fin_run ?_ (hK _ ?_)<;>clear hK K
   ·(first|exact trivial|omega|(simp only [In64] at *; omega)|(rw [Bool.eq_iff_iff]; simp; done)|(rw [Bool.eq_iff_iff]; simp; omega)|(simp [In64] at *; omega)|(simp_all; done)|(simp_all [In64]<;>omega)|skip)
   repeat (first|refine qa ?_|refine qb ?_|refine qc ?_|refine qd ?_|refine qe ?_|refine qf ?_|refine qg rfl ?_|refine qh ?_|refine qi ?_|refine qj ?_|refine qk ?_|refine ql ?_|refine qm ?_)
   refine hk_region fun K hK=>runs_eval tab_ok ?_
   simp only [evz,gp,tab,simprocAttr,reduceCtorEq,reduceIte]
   refine fin_run ?_ (hK _ ?_)<;>clear hK K
   ·(first|exact trivial|omega|(simp only [In64] at *; omega)|(rw [Bool.eq_iff_iff]; simp; done)|(rw [Bool.eq_iff_iff]; simp; omega)|(simp [In64] at *; omega)|(simp_all; done)|(simp_all [In64]<;>omega)|skip)
   repeat (first|refine qa ?_|refine qb ?_|refine qc ?_|refine qd ?_|refine qe ?_|refine qf ?_|refine qg rfl ?_|refine qh ?_|refine qi ?_|refine qj ?_|refine qk ?_|refine ql ?_|refine qm ?_)
   refine ⟨i + 1,[0],by omega,by omega,?_⟩
   rw [hsn,push,if_pos hc]
   simp only [AV.p.injEq,AV.sl.injEq,AV.ptr.injEq,Blk.own.injEq,PV.int.injEq,PV.bool.injEq,PV.list.injEq,Nat.sub_zero,Int.natCast_add,List.length_append,take_take_len,take_app1,take_app2,Le,LeH,LeS,LeB,ren,ren1,scA,sc1,List.nodup_cons,List.nodup_nil,List.mem_cons,List.not_mem_nil,or_false,not_false_eq_true,evz,gp,tab,simprocAttr,reduceCtorEq,reduceIte]
   (first|exact trivial|omega|(simp only [In64] at *; omega)|(rw [Bool.eq_iff_iff]; simp; done)|(rw [Bool.eq_iff_iff]; simp; omega)|(simp [In64] at *; omega)|(simp_all; done)|(simp_all [In64]<;>omega)|skip)
  have hc:=of_decide_eq_false hc
  refine hk_region fun K hK=>runs_eval tab_ok ?_
  simp only [evz,gp,tab,simprocAttr,reduceCtorEq,reduceIte]
  refine fin_run ?_ (hK _ ?_)<;>clear hK K
  ·(first|exact trivial|omega|(simp only [In64] at *; omega)|(rw [Bool.eq_iff_iff]; simp; done)|(rw [Bool.eq_iff_iff]; simp; omega)|(simp [In64] at *; omega)|(simp_all; done)|(simp_all [In64]<;>omega)|skip)
  repeat (first|refine qa ?_|refine qb ?_|refine qc ?_|refine qd ?_|refine qe ?_|refine qf ?_|refine qg rfl ?_|refine qh ?_|refine qi ?_|refine qj ?_|refine qk ?_|refine ql ?_|refine qm ?_)
  refine hk_region fun K hK=>runs_eval tab_ok ?_
  simp only [evz,gp,tab,simprocAttr,reduceCtorEq,reduceIte]
  refine fin_run ?_ (hK _ ?_)<;>clear hK K
  ·(first|exact trivial|omega|(simp only [In64] at *; omega)|(rw [Bool.eq_iff_iff]; simp; done)|(rw [Bool.eq_iff_iff]; simp; omega)|(simp [In64] at *; omega)|(simp_all; done)|(simp_all [In64]<;>omega)|skip)
  repeat (first|refine qa ?_|refine qb ?_|refine qc ?_|refine qd ?_|refine qe ?_|refine qf ?_|refine qg rfl ?_|refine qh ?_|refine qi ?_|refine qj ?_|refine qk ?_|refine ql ?_|refine qm ?_)
  refine ⟨i + 1,[1],by omega,by omega,?_⟩
  rw [hsn,push,if_neg hc]
  simp only [AV.p.injEq,AV.sl.injEq,AV.ptr.injEq,Blk.own.injEq,PV.int.injEq,PV.bool.injEq,PV.list.injEq,Nat.sub_zero,Int.natCast_add,List.length_append,take_take_len,take_app1,take_app2,Le,LeH,LeS,LeB,ren,ren1,scA,sc1,List.nodup_cons,List.nodup_nil,List.mem_cons,List.not_mem_nil,or_false,not_false_eq_true,evz,gp,tab,simprocAttr,reduceCtorEq,reduceIte]
  (first|exact trivial|omega|(simp only [In64] at *; omega)|(rw [Bool.eq_iff_iff]; simp; done)|(rw [Bool.eq_iff_iff]; simp; omega)|(simp [In64] at *; omega)|(simp_all; done)|(simp_all [In64]<;>omega)|skip)
 repeat (first|refine qa ?_|refine qb ?_|refine qc ?_|refine qd ?_|refine qe ?_|refine qf ?_|refine qg rfl ?_|refine qh ?_|refine qi ?_|refine qj ?_|refine qk ?_|refine ql ?_|refine qm ?_)
 (refine hk_region fun K hK=>runs_eval tab_ok ?_); simp only [evz,gp,tab,simprocAttr,reduceCtorEq,reduceIte]; refine fin_run trivial (hK _ ?_)<;>clear hK K; repeat (first|refine qa ?_|refine qb ?_|refine qc ?_|refine qd ?_|refine qe ?_|refine qf ?_|refine qg rfl ?_|refine qh ?_|refine qi ?_|refine qj ?_|refine qk ?_|refine ql ?_|refine qm ?_)
 simp only [Try.results54,Post,endA,rvsA,rvA,mkTup,peekA,peekG,peekS,peekList,PV.norm,PV.norm1,PV.norm0,PV.list.injEq,PV.tup.injEq,PV.agg.injEq,PV.int.injEq,PV.bool.injEq,List.cons.injEq,evz,gp,tab,simprocAttr,reduceCtorEq,reduceIte]
 have:i=w.length:=by have:=of_decide_eq_false hlt; omega
 rw [this,List.take_length]
 exact ⟨Nat.le_refl _,rfl⟩
def bk (w:List Int) (j:Nat):List Int:=(w.reverse.take j).map (fun x=>-x)
def back (w:List Int):List Int:=(w.reverse).map (fun x=>-x)
theorem bk_len {w:List Int} {j:Nat} (h:j≤w.length):(bk w j).length=j:=by simp [bk]; omega
theorem bk_succ {w:List Int} {j:Nat} (h:j < w.length):bk w (j + 1)=bk w j++[-(w.getD (w.length - 1 - j) 0)]:=by
 unfold bk
 rw [List.take_succ_eq_append_getElem (by simpa using h),List.map_append,List.getElem_reverse]
 simp [List.getD,List.getElem?_eq_getElem (show w.length - 1 - j < w.length by omega)]
theorem bk_all (w:List Int):bk w w.length=back w:=by
 unfold bk back
 rw [List.take_of_length_le (by simp)]
theorem back_c (w:List Int) (hl:w.length≤1000000000) (hs:Sm w):FnC Try.prog 68 [.list (il w)] (.list (il (back w))):=by
 refine fnc_of tab_ok Try.func68 rfl (by kernel_rfl) (by rw [Try.ntmps68]; exact Nat.le_add_left 1 _) ?_; rw [Try.ntmps68]; repeat (first|refine qa ?_|refine qb ?_|refine qc ?_|refine qd ?_|refine qe ?_|refine qf ?_|refine qg rfl ?_|refine qh ?_|refine qi ?_|refine qj ?_|refine qk ?_|refine ql ?_|refine qm ?_)
 (refine hk_region fun K hK=>runs_eval tab_ok ?_); simp only [evz,gp,tab,simprocAttr,reduceCtorEq,reduceIte]; refine fin_run trivial (hK _ ?_)<;>clear hK K; repeat (first|refine qa ?_|refine qb ?_|refine qc ?_|refine qd ?_|refine qe ?_|refine qf ?_|refine qg rfl ?_|refine qh ?_|refine qi ?_|refine qj ?_|refine qk ?_|refine ql ?_|refine qm ?_)
 refine hk_region fun K hK=>runs_eval tab_ok ?_
 simp only [evz,gp,tab,simprocAttr,reduceCtorEq,reduceIte]
 refine fin_run ?_ (hK _ ?_)<;>clear hK K
 ·(first|exact trivial|omega|(simp only [In64] at *; omega)|(rw [Bool.eq_iff_iff]; simp; done)|(rw [Bool.eq_iff_iff]; simp; omega)|(simp [In64] at *; omega)|(simp_all; done)|(simp_all [In64]<;>omega)|skip)
 repeat (first|refine qa ?_|refine qb ?_|refine qc ?_|refine qd ?_|refine qe ?_|refine qf ?_|refine qg rfl ?_|refine qh ?_|refine qi ?_|refine qj ?_|refine qk ?_|refine ql ?_|refine qm ?_)
 refine hk_region fun K hK=>runs_eval tab_ok ?_
 simp only [evz,gp,tab,simprocAttr,reduceCtorEq,reduceIte]
 refine fin_run ?_ (hK _ ?_)<;>clear hK K
 ·(first|exact trivial|omega|(simp only [In64] at *; omega)|(rw [Bool.eq_iff_iff]; simp; done)|(rw [Bool.eq_iff_iff]; simp; omega)|(simp [In64] at *; omega)|(simp_all; done)|(simp_all [In64]<;>omega)|skip)
 repeat (first|refine qa ?_|refine qb ?_|refine qc ?_|refine qd ?_|refine qe ?_|refine qf ?_|refine qg rfl ?_|refine qh ?_|refine qi ?_|refine qj ?_|refine qk ?_|refine ql ?_|refine qm ?_)
 refine hk_loop (ι:=Nat) (fun j=>⟨24,[(0,.p (.list (il w))),(3,.sl 0 0 (bk w j).length),(4,.p (.int .i64 ((w.length:Int) - 1 - j)))],[.own (ol (bk w j))]⟩) (fun j=>j≤w.length) (fun j=>w.length - j) 0 (Nat.zero_le _) [0] (by simp only [AV.p.injEq,AV.sl.injEq,AV.ptr.injEq,Blk.own.injEq,PV.int.injEq,PV.bool.injEq,PV.list.injEq,Nat.sub_zero,Int.natCast_add,List.length_append,take_take_len,take_app1,take_app2,Le,LeH,LeS,LeB,ren,ren1,scA,sc1,List.nodup_cons,List.nodup_nil,List.mem_cons,List.not_mem_nil,or_false,not_false_eq_true,evz,gp,tab,simprocAttr,reduceCtorEq,reduceIte]; simp [bk,ol_nil]) fun j hj=>?_
 repeat (first|refine qa ?_|refine qb ?_|refine qc ?_|refine qd ?_|refine qe ?_|refine qf ?_|refine qg rfl ?_|refine qh ?_|refine qi ?_|refine qj ?_|refine qk ?_|refine ql ?_|refine qm ?_)
 (refine hk_region fun K hK=>runs_eval tab_ok ?_); simp only [evz,gp,tab,simprocAttr,reduceCtorEq,reduceIte]; refine fin_run trivial (hK _ ?_)<;>clear hK K; repeat (first|refine qa ?_|refine qb ?_|refine qc ?_|refine qd ?_|refine qe ?_|refine qf ?_|refine qg rfl ?_|refine qh ?_|refine qi ?_|refine qj ?_|refine qk ?_|refine ql ?_|refine qm ?_)
 refine hk_cond rfl (fun hlt=>?_) (fun hlt=>?_)
 ·repeat (first|refine qa ?_|refine qb ?_|refine qc ?_|refine qd ?_|refine qe ?_|refine qf ?_|refine qg rfl ?_|refine qh ?_|refine qi ?_|refine qj ?_|refine qk ?_|refine ql ?_|refine qm ?_)
  have hlt:j < w.length:=by have:=of_decide_eq_true hlt; omega
  have hx:=hs (w.getD (w.length - 1 - j) 0) (by simp [List.getD,List.getElem?_eq_getElem (show w.length - 1 - j < w.length by omega)])
  have hi:((w.length:Int) - 1 - j).toNat=w.length - 1 - j:=by omega
  have hb:=bk_len (Nat.le_of_lt hlt)
  have hsn:=bk_succ hlt
  refine hk_region fun K hK=>runs_eval tab_ok ?_
  simp only [evz,gp,tab,simprocAttr,reduceCtorEq,reduceIte,hi,il_get (show w.length - 1 - j < w.length by omega)]
  refine fin_run ?_ (hK _ ?_)<;>clear hK K
  ·simp only [In64]; omega
  repeat (first|refine qa ?_|refine qb ?_|refine qc ?_|refine qd ?_|refine qe ?_|refine qf ?_|refine qg rfl ?_|refine qh ?_|refine qi ?_|refine qj ?_|refine qk ?_|refine ql ?_|refine qm ?_)
  refine hk_region fun K hK=>runs_eval tab_ok ?_
  simp only [evz,gp,tab,simprocAttr,reduceCtorEq,reduceIte]
  refine fin_run ?_ (hK _ ?_)<;>clear hK K
  ·simp only [In64]; omega
  repeat (first|refine qa ?_|refine qb ?_|refine qc ?_|refine qd ?_|refine qe ?_|refine qf ?_|refine qg rfl ?_|refine qh ?_|refine qi ?_|refine qj ?_|refine qk ?_|refine ql ?_|refine qm ?_)
  refine ⟨j + 1,[1],by omega,by omega,?_⟩
  rw [hsn]
  simp only [AV.p.injEq,AV.sl.injEq,AV.ptr.injEq,Blk.own.injEq,PV.int.injEq,PV.bool.injEq,PV.list.injEq,Nat.sub_zero,Int.natCast_add,List.length_append,take_take_len,take_app1,take_app2,Le,LeH,LeS,LeB,ren,ren1,scA,sc1,List.nodup_cons,List.nodup_nil,List.mem_cons,List.not_mem_nil,or_false,not_false_eq_true,evz,gp,tab,simprocAttr,reduceCtorEq,reduceIte]
  omega
 repeat (first|refine qa ?_|refine qb ?_|refine qc ?_|refine qd ?_|refine qe ?_|refine qf ?_|refine qg rfl ?_|refine qh ?_|refine qi ?_|refine qj ?_|refine qk ?_|refine ql ?_|refine qm ?_)
 (refine hk_region fun K hK=>runs_eval tab_ok ?_); simp only [evz,gp,tab,simprocAttr,reduceCtorEq,reduceIte]; refine fin_run trivial (hK _ ?_)<;>clear hK K; repeat (first|refine qa ?_|refine qb ?_|refine qc ?_|refine qd ?_|refine qe ?_|refine qf ?_|refine qg rfl ?_|refine qh ?_|refine qi ?_|refine qj ?_|refine qk ?_|refine ql ?_|refine qm ?_)
 simp only [Try.results68,Post,endA,rvsA,rvA,mkTup,peekA,peekG,peekS,peekList,PV.norm,PV.norm1,PV.norm0,PV.list.injEq,PV.tup.injEq,PV.agg.injEq,PV.int.injEq,PV.bool.injEq,List.cons.injEq,evz,gp,tab,simprocAttr,reduceCtorEq,reduceIte]
 have:j=w.length:=by have:=of_decide_eq_false hlt; omega
 rw [this,bk_all]
 exact ⟨Nat.le_refl _,rfl⟩
theorem own_c (w:List Int) (hl:w.length≤1000000000):FnC Try.prog 36 [.list (il w)] (.list (il w)):=by
 refine fnc_of tab_ok Try.func36 rfl (by kernel_rfl) (by rw [Try.ntmps36]; exact Nat.le_add_left 1 _) ?_; rw [Try.ntmps36]; repeat (first|refine qa ?_|refine qb ?_|refine qc ?_|refine qd ?_|refine qe ?_|refine qf ?_|refine qg rfl ?_|refine qh ?_|refine qi ?_|refine qj ?_|refine qk ?_|refine ql ?_|refine qm ?_)
 (refine hk_region fun K hK=>runs_eval tab_ok ?_); simp only [evz,gp,tab,simprocAttr,reduceCtorEq,reduceIte]; refine fin_run trivial (hK _ ?_)<;>clear hK K; repeat (first|refine qa ?_|refine qb ?_|refine qc ?_|refine qd ?_|refine qe ?_|refine qf ?_|refine qg rfl ?_|refine qh ?_|refine qi ?_|refine qj ?_|refine qk ?_|refine ql ?_|refine qm ?_)
 refine hk_region fun K hK=>runs_eval tab_ok ?_
 simp only [evz,gp,tab,simprocAttr,reduceCtorEq,reduceIte]
 refine fin_run ?_ (hK _ ?_)<;>clear hK K
 ·(first|exact trivial|omega|(simp only [In64] at *; omega)|(rw [Bool.eq_iff_iff]; simp; done)|(rw [Bool.eq_iff_iff]; simp; omega)|(simp [In64] at *; omega)|(simp_all; done)|(simp_all [In64]<;>omega)|skip)
 repeat (first|refine qa ?_|refine qb ?_|refine qc ?_|refine qd ?_|refine qe ?_|refine qf ?_|refine qg rfl ?_|refine qh ?_|refine qi ?_|refine qj ?_|refine qk ?_|refine ql ?_|refine qm ?_)
 simp only [Try.results36,Post,endA,rvsA,rvA,mkTup,peekA,peekG,peekS,peekList,PV.norm,PV.norm1,PV.norm0,PV.list.injEq,PV.tup.injEq,PV.agg.injEq,PV.int.injEq,PV.bool.injEq,List.cons.injEq,evz,gp,tab,simprocAttr,reduceCtorEq,reduceIte]
 simp
theorem clone_c (w:List Int) (hl:w.length≤1000000000):FnC Try.prog 77 [.list (il w)] (.list (il w)):=by
 by_cases hw:w=[]
 ·subst hw
  refine fnc_of tab_ok Try.func77 rfl (by kernel_rfl) (by rw [Try.ntmps77]; exact Nat.le_add_left 1 _) ?_; rw [Try.ntmps77]; repeat (first|refine qa ?_|refine qb ?_|refine qc ?_|refine qd ?_|refine qe ?_|refine qf ?_|refine qg rfl ?_|refine qh ?_|refine qi ?_|refine qj ?_|refine qk ?_|refine ql ?_|refine qm ?_)
  (refine hk_region fun K hK=>runs_eval tab_ok ?_); simp only [evz,gp,tab,simprocAttr,reduceCtorEq,reduceIte]; refine fin_run trivial (hK _ ?_)<;>clear hK K; repeat (first|refine qa ?_|refine qb ?_|refine qc ?_|refine qd ?_|refine qe ?_|refine qf ?_|refine qg rfl ?_|refine qh ?_|refine qi ?_|refine qj ?_|refine qk ?_|refine ql ?_|refine qm ?_)
  refine hk_nil 0 rfl ?_ ?_
  ·(refine hk_region fun K hK=>runs_eval tab_ok ?_); simp only [evz,gp,tab,simprocAttr,reduceCtorEq,reduceIte]; refine fin_run trivial (hK _ ?_)<;>clear hK K; repeat (first|refine qa ?_|refine qb ?_|refine qc ?_|refine qd ?_|refine qe ?_|refine qf ?_|refine qg rfl ?_|refine qh ?_|refine qi ?_|refine qj ?_|refine qk ?_|refine ql ?_|refine qm ?_)
   refine hk_cond rfl (fun hc=>?_) (fun hc=>?_)
   ·repeat (first|refine qa ?_|refine qb ?_|refine qc ?_|refine qd ?_|refine qe ?_|refine qf ?_|refine qg rfl ?_|refine qh ?_|refine qi ?_|refine qj ?_|refine qk ?_|refine ql ?_|refine qm ?_)
    (refine hk_region fun K hK=>runs_eval tab_ok ?_); simp only [evz,gp,tab,simprocAttr,reduceCtorEq,reduceIte]; refine fin_run trivial (hK _ ?_)<;>clear hK K; repeat (first|refine qa ?_|refine qb ?_|refine qc ?_|refine qd ?_|refine qe ?_|refine qf ?_|refine qg rfl ?_|refine qh ?_|refine qi ?_|refine qj ?_|refine qk ?_|refine ql ?_|refine qm ?_)
    simp only [Try.results77,Post,endA,rvsA,rvA,mkTup,peekA,peekG,peekS,peekList,PV.norm,PV.norm1,PV.norm0,PV.list.injEq,PV.tup.injEq,PV.agg.injEq,PV.int.injEq,PV.bool.injEq,List.cons.injEq,evz,gp,tab,simprocAttr,reduceCtorEq,reduceIte]
    rfl
   cases hc
  (refine hk_region fun K hK=>runs_eval tab_ok ?_); simp only [evz,gp,tab,simprocAttr,reduceCtorEq,reduceIte]; refine fin_run trivial (hK _ ?_)<;>clear hK K; repeat (first|refine qa ?_|refine qb ?_|refine qc ?_|refine qd ?_|refine qe ?_|refine qf ?_|refine qg rfl ?_|refine qh ?_|refine qi ?_|refine qj ?_|refine qk ?_|refine ql ?_|refine qm ?_)
  refine hk_cond rfl (fun hc=>?_) (fun hc=>?_)
  ·cases hc
  repeat (first|refine qa ?_|refine qb ?_|refine qc ?_|refine qd ?_|refine qe ?_|refine qf ?_|refine qg rfl ?_|refine qh ?_|refine qi ?_|refine qj ?_|refine qk ?_|refine ql ?_|refine qm ?_)
  refine hk_region fun K hK=>runs_eval tab_ok ?_
  simp only [evz,gp,tab,simprocAttr,reduceCtorEq,reduceIte]
  refine fin_stop trivial ?_
  refine runs_op (appendNz_does tab_ok rfl rfl rfl rfl rfl rfl rfl) rfl (by simp only [dstOk,Nat.reduceLT]) (runs_eval tab_ok ?_)
  simp only [evz,gp,tab,simprocAttr,reduceCtorEq,reduceIte]
  refine fin_run trivial (hK _ ?_)<;>clear hK K
  repeat (first|refine qa ?_|refine qb ?_|refine qc ?_|refine qd ?_|refine qe ?_|refine qf ?_|refine qg rfl ?_|refine qh ?_|refine qi ?_|refine qj ?_|refine qk ?_|refine ql ?_|refine qm ?_)
  simp only [Try.results77,Post,endA,rvsA,rvA,mkTup,peekA,peekG,peekS,peekList,PV.norm,PV.norm1,PV.norm0,PV.list.injEq,PV.tup.injEq,PV.agg.injEq,PV.int.injEq,PV.bool.injEq,List.cons.injEq,evz,gp,tab,simprocAttr,reduceCtorEq,reduceIte]
  rfl
 have hne:il w ≠ []:=by intro h; exact hw (by simpa [il] using h)
 refine fnc_of tab_ok Try.func77 rfl (by kernel_rfl) (by rw [Try.ntmps77]; exact Nat.le_add_left 1 _) ?_; rw [Try.ntmps77]; repeat (first|refine qa ?_|refine qb ?_|refine qc ?_|refine qd ?_|refine qe ?_|refine qf ?_|refine qg rfl ?_|refine qh ?_|refine qi ?_|refine qj ?_|refine qk ?_|refine ql ?_|refine qm ?_)
 (refine hk_region fun K hK=>runs_eval tab_ok ?_); simp only [evz,gp,tab,simprocAttr,reduceCtorEq,reduceIte]; refine fin_run trivial (hK _ ?_)<;>clear hK K; repeat (first|refine qa ?_|refine qb ?_|refine qc ?_|refine qd ?_|refine qe ?_|refine qf ?_|refine qg rfl ?_|refine qh ?_|refine qi ?_|refine qj ?_|refine qk ?_|refine ql ?_|refine qm ?_)
 refine hk_region fun K hK=>runs_eval tab_ok ?_
 simp only [evz,gp,tab,simprocAttr,reduceCtorEq,reduceIte]
 refine fin_run ?_ (hK _ ?_)<;>clear hK K
 ·exact hne
 repeat (first|refine qa ?_|refine qb ?_|refine qc ?_|refine qd ?_|refine qe ?_|refine qf ?_|refine qg rfl ?_|refine qh ?_|refine qi ?_|refine qj ?_|refine qk ?_|refine ql ?_|refine qm ?_)
 refine hk_cond rfl (fun hc=>?_) (fun hc=>?_)
 ·cases hc
 repeat (first|refine qa ?_|refine qb ?_|refine qc ?_|refine qd ?_|refine qe ?_|refine qf ?_|refine qg rfl ?_|refine qh ?_|refine qi ?_|refine qj ?_|refine qk ?_|refine ql ?_|refine qm ?_)
 refine hk_region fun K hK=>runs_eval tab_ok ?_
 simp only [evz,gp,tab,simprocAttr,reduceCtorEq,reduceIte]
 refine fin_run ?_ (hK _ ?_)<;>clear hK K
 ·have:0 < w.length:=List.length_pos_iff.2 hw
  (first|exact trivial|omega|(simp only [In64] at *; omega)|(rw [Bool.eq_iff_iff]; simp; done)|(rw [Bool.eq_iff_iff]; simp; omega)|(simp [In64] at *; omega)|(simp_all; done)|(simp_all [In64]<;>omega)|skip)
 repeat (first|refine qa ?_|refine qb ?_|refine qc ?_|refine qd ?_|refine qe ?_|refine qf ?_|refine qg rfl ?_|refine qh ?_|refine qi ?_|refine qj ?_|refine qk ?_|refine ql ?_|refine qm ?_)
 simp only [Try.results77,Post,endA,rvsA,rvA,mkTup,peekA,peekG,peekS,peekList,PV.norm,PV.norm1,PV.norm0,PV.list.injEq,PV.tup.injEq,PV.agg.injEq,PV.int.injEq,PV.bool.injEq,List.cons.injEq,evz,gp,tab,simprocAttr,reduceCtorEq,reduceIte]
 exact Nat.le_refl _
theorem grow_c (n:Nat) (hn:n≤1000000000):FnG Try.prog 84 [.nil,.int .i64 n] (.sl 0 0 0) [.own []]:=by
 refine fng_of tab_ok Try.func84 rfl (by kernel_rfl) (by rw [Try.ntmps84]; exact Nat.le_add_left 2 _) ?_; rw [Try.ntmps84]; repeat (first|refine qa ?_|refine qb ?_|refine qc ?_|refine qd ?_|refine qe ?_|refine qf ?_|refine qg rfl ?_|refine qh ?_|refine qi ?_|refine qj ?_|refine qk ?_|refine ql ?_|refine qm ?_)
 (refine hk_region fun K hK=>runs_eval tab_ok ?_); simp only [evz,gp,tab,simprocAttr,reduceCtorEq,reduceIte]; refine fin_run trivial (hK _ ?_)<;>clear hK K; repeat (first|refine qa ?_|refine qb ?_|refine qc ?_|refine qd ?_|refine qe ?_|refine qf ?_|refine qg rfl ?_|refine qh ?_|refine qi ?_|refine qj ?_|refine qk ?_|refine ql ?_|refine qm ?_)
 (refine hk_region fun K hK=>runs_eval tab_ok ?_); simp only [evz,gp,tab,simprocAttr,reduceCtorEq,reduceIte]; refine fin_run trivial (hK _ ?_)<;>clear hK K; repeat (first|refine qa ?_|refine qb ?_|refine qc ?_|refine qd ?_|refine qe ?_|refine qf ?_|refine qg rfl ?_|refine qh ?_|refine qi ?_|refine qj ?_|refine qk ?_|refine ql ?_|refine qm ?_)
 refine hk_cond rfl (fun hc=>?_) (fun hc=>?_)
 ·have:=of_decide_eq_true hc; omega
 repeat (first|refine qa ?_|refine qb ?_|refine qc ?_|refine qd ?_|refine qe ?_|refine qf ?_|refine qg rfl ?_|refine qh ?_|refine qi ?_|refine qj ?_|refine qk ?_|refine ql ?_|refine qm ?_)
 refine hk_region fun K hK=>runs_eval tab_ok ?_
 simp only [evz,gp,tab,simprocAttr,reduceCtorEq,reduceIte]
 refine fin_stop trivial ?_
 refine runs_op (capNil_does tab_ok rfl rfl rfl rfl) rfl (by simp only [dstOk,Nat.reduceLT]) (runs_eval tab_ok ?_)
 simp only [evz,gp,tab,simprocAttr,reduceCtorEq,reduceIte]
 refine fin_run ?_ (hK _ ?_)<;>clear hK K
 ·(first|exact trivial|omega|(simp only [In64] at *; omega)|(rw [Bool.eq_iff_iff]; simp; done)|(rw [Bool.eq_iff_iff]; simp; omega)|(simp [In64] at *; omega)|(simp_all; done)|(simp_all [In64]<;>omega)|skip)
 repeat (first|refine qa ?_|refine qb ?_|refine qc ?_|refine qd ?_|refine qe ?_|refine qf ?_|refine qg rfl ?_|refine qh ?_|refine qi ?_|refine qj ?_|refine qk ?_|refine ql ?_|refine qm ?_)
 (refine hk_region fun K hK=>runs_eval tab_ok ?_); simp only [evz,gp,tab,simprocAttr,reduceCtorEq,reduceIte]; refine fin_run trivial (hK _ ?_)<;>clear hK K; repeat (first|refine qa ?_|refine qb ?_|refine qc ?_|refine qd ?_|refine qe ?_|refine qf ?_|refine qg rfl ?_|refine qh ?_|refine qi ?_|refine qj ?_|refine qk ?_|refine ql ?_|refine qm ?_)
 refine hk_cond rfl (fun hc=>?_) (fun hc=>?_)
 ·have hc:0 < n:=by have:=of_decide_eq_true hc; omega
  repeat (first|refine qa ?_|refine qb ?_|refine qc ?_|refine qd ?_|refine qe ?_|refine qf ?_|refine qg rfl ?_|refine qh ?_|refine qi ?_|refine qj ?_|refine qk ?_|refine ql ?_|refine qm ?_)
  refine hk_region fun K hK=>runs_eval tab_ok ?_
  simp only [evz,gp,tab,simprocAttr,reduceCtorEq,reduceIte]
  refine fin_stop trivial ?_
  refine runs_op (capNil_does tab_ok rfl rfl rfl rfl) rfl (by simp only [dstOk,Nat.reduceLT]) (runs_eval tab_ok ?_)
  simp only [evz,gp,tab,simprocAttr,reduceCtorEq,reduceIte]
  refine fin_stop trivial ?_
  refine runs_op (sliceNil_does tab_ok rfl rfl rfl rfl rfl rfl) rfl (by simp only [dstOk,Nat.reduceLT]) (runs_eval tab_ok ?_)
  simp only [evz,gp,tab,simprocAttr,reduceCtorEq,reduceIte]
  refine fin_stop trivial ?_
  refine runs_op (appendZeros_does tab_ok rfl rfl rfl rfl rfl rfl rfl rfl rfl rfl hc (show n * 8≤140737488355328 by omega) (by omega)) rfl (by simp only [dstOk,Nat.reduceLT]) (runs_eval tab_ok ?_)
  simp only [evz,gp,tab,simprocAttr,reduceCtorEq,reduceIte]
  refine fin_run ?_ (hK _ ?_)<;>clear hK K
  ·(first|exact trivial|omega|(simp only [In64] at *; omega)|(rw [Bool.eq_iff_iff]; simp; done)|(rw [Bool.eq_iff_iff]; simp; omega)|(simp [In64] at *; omega)|(simp_all; done)|(simp_all [In64]<;>omega)|skip)
  repeat (first|refine qa ?_|refine qb ?_|refine qc ?_|refine qd ?_|refine qe ?_|refine qf ?_|refine qg rfl ?_|refine qh ?_|refine qi ?_|refine qj ?_|refine qk ?_|refine ql ?_|refine qm ?_)
  (refine hk_region fun K hK=>runs_eval tab_ok ?_); simp only [evz,gp,tab,simprocAttr,reduceCtorEq,reduceIte]; refine fin_run trivial (hK _ ?_)<;>clear hK K; repeat (first|refine qa ?_|refine qb ?_|refine qc ?_|refine qd ?_|refine qe ?_|refine qf ?_|refine qg rfl ?_|refine qh ?_|refine qi ?_|refine qj ?_|refine qk ?_|refine ql ?_|refine qm ?_)
  simp only [Try.results84,PostG,endG,rvsA,rvA,mkTup,evz,gp,tab,simprocAttr,reduceCtorEq,reduceIte]
  exact ⟨[0],rfl,rfl,by simp only [AV.p.injEq,AV.sl.injEq,AV.ptr.injEq,Blk.own.injEq,PV.int.injEq,PV.bool.injEq,PV.list.injEq,Nat.sub_zero,Int.natCast_add,List.length_append,take_take_len,take_app1,take_app2,Le,LeH,LeS,LeB,ren,ren1,scA,sc1,List.nodup_cons,List.nodup_nil,List.mem_cons,List.not_mem_nil,or_false,not_false_eq_true,evz,gp,tab,simprocAttr,reduceCtorEq,reduceIte]<;>trivial⟩
 have hc:n=0:=by have:=of_decide_eq_false hc; omega
 repeat (first|refine qa ?_|refine qb ?_|refine qc ?_|refine qd ?_|refine qe ?_|refine qf ?_|refine qg rfl ?_|refine qh ?_|refine qi ?_|refine qj ?_|refine qk ?_|refine ql ?_|refine qm ?_)
 refine hk_own0 0 rfl ?_
 (refine hk_region fun K hK=>runs_eval tab_ok ?_); simp only [evz,gp,tab,simprocAttr,reduceCtorEq,reduceIte]; refine fin_run trivial (hK _ ?_)<;>clear hK K; repeat (first|refine qa ?_|refine qb ?_|refine qc ?_|refine qd ?_|refine qe ?_|refine qf ?_|refine qg rfl ?_|refine qh ?_|refine qi ?_|refine qj ?_|refine qk ?_|refine ql ?_|refine qm ?_)
 simp only [Try.results84,PostG,endG,rvsA,rvA,mkTup,evz,gp,tab,simprocAttr,reduceCtorEq,reduceIte]
 exact ⟨[0],rfl,rfl,by simp only [AV.p.injEq,AV.sl.injEq,AV.ptr.injEq,Blk.own.injEq,PV.int.injEq,PV.bool.injEq,PV.list.injEq,Nat.sub_zero,Int.natCast_add,List.length_append,take_take_len,take_app1,take_app2,Le,LeH,LeS,LeB,ren,ren1,scA,sc1,List.nodup_cons,List.nodup_nil,List.mem_cons,List.not_mem_nil,or_false,not_false_eq_true,evz,gp,tab,simprocAttr,reduceCtorEq,reduceIte]<;>trivial⟩
def tot (ls:List (List Int)):Nat:=ls.flatten.length
theorem tot_succ {ls:List (List Int)} {i:Nat} (h:i < ls.length):(ls.take (i + 1)).flatten=(ls.take i).flatten++ls.getD i []:=by
 rw [List.take_succ_eq_append_getElem h]
 simp only [List.flatten_append,List.flatten_cons,List.flatten_nil,List.append_nil,List.getD,List.getElem?_eq_getElem h,Option.getD_some]
theorem concat_c (ls:List (List Int)) (hl:ls.flatten.length≤1000000000) (hk:ls.length≤1000000000):FnC Try.prog 67 [.nn (ll ls)] (.list (il ls.flatten)):=by
 have hle:∀ i,(ls.take i).flatten.length≤ls.flatten.length:=by
  intro i
  have:=congrArg List.length (congrArg List.flatten (List.take_append_drop i ls))
  simp only [List.flatten_append,List.length_append] at this
  omega
 refine fnc_of tab_ok Try.func67 rfl (by kernel_rfl) (by rw [Try.ntmps67]; exact Nat.le_add_left 1 _) ?_; rw [Try.ntmps67]; repeat (first|refine qa ?_|refine qb ?_|refine qc ?_|refine qd ?_|refine qe ?_|refine qf ?_|refine qg rfl ?_|refine qh ?_|refine qi ?_|refine qj ?_|refine qk ?_|refine ql ?_|refine qm ?_)
 (refine hk_region fun K hK=>runs_eval tab_ok ?_); simp only [evz,gp,tab,simprocAttr,reduceCtorEq,reduceIte]; refine fin_run trivial (hK _ ?_)<;>clear hK K; repeat (first|refine qa ?_|refine qb ?_|refine qc ?_|refine qd ?_|refine qe ?_|refine qf ?_|refine qg rfl ?_|refine qh ?_|refine qi ?_|refine qj ?_|refine qk ?_|refine ql ?_|refine qm ?_)
 (refine hk_region fun K hK=>runs_eval tab_ok ?_); simp only [evz,gp,tab,simprocAttr,reduceCtorEq,reduceIte]; refine fin_run trivial (hK _ ?_)<;>clear hK K; repeat (first|refine qa ?_|refine qb ?_|refine qc ?_|refine qd ?_|refine qe ?_|refine qf ?_|refine qg rfl ?_|refine qh ?_|refine qi ?_|refine qj ?_|refine qk ?_|refine ql ?_|refine qm ?_)
 (refine hk_region fun K hK=>runs_eval tab_ok ?_); simp only [evz,gp,tab,simprocAttr,reduceCtorEq,reduceIte]; refine fin_run trivial (hK _ ?_)<;>clear hK K; repeat (first|refine qa ?_|refine qb ?_|refine qc ?_|refine qd ?_|refine qe ?_|refine qf ?_|refine qg rfl ?_|refine qh ?_|refine qi ?_|refine qj ?_|refine qk ?_|refine ql ?_|refine qm ?_)
 refine hk_loop (ι:=Nat) (fun i=>⟨36,[(0,.p (.nn (ll ls))),(3,.p (.int .i64 (ls.take i).flatten.length)),(9,.p (.nn (ll ls))),(10,.p (.int .i64 ls.length)),(11,.p (.int .i64 i))],[]⟩) (fun i=>i≤ls.length) (fun i=>ls.length - i) 0 (Nat.zero_le _) [] (by simp only [AV.p.injEq,AV.sl.injEq,AV.ptr.injEq,Blk.own.injEq,PV.int.injEq,PV.bool.injEq,PV.list.injEq,Nat.sub_zero,Int.natCast_add,List.length_append,take_take_len,take_app1,take_app2,Le,LeH,LeS,LeB,ren,ren1,scA,sc1,List.nodup_cons,List.nodup_nil,List.mem_cons,List.not_mem_nil,or_false,not_false_eq_true,evz,gp,tab,simprocAttr,reduceCtorEq,reduceIte]<;>trivial) fun i hi=>?_
 repeat (first|refine qa ?_|refine qb ?_|refine qc ?_|refine qd ?_|refine qe ?_|refine qf ?_|refine qg rfl ?_|refine qh ?_|refine qi ?_|refine qj ?_|refine qk ?_|refine ql ?_|refine qm ?_)
 (refine hk_region fun K hK=>runs_eval tab_ok ?_); simp only [evz,gp,tab,simprocAttr,reduceCtorEq,reduceIte]; refine fin_run trivial (hK _ ?_)<;>clear hK K; repeat (first|refine qa ?_|refine qb ?_|refine qc ?_|refine qd ?_|refine qe ?_|refine qf ?_|refine qg rfl ?_|refine qh ?_|refine qi ?_|refine qj ?_|refine qk ?_|refine ql ?_|refine qm ?_)
 refine hk_cond rfl (fun hlt=>?_) (fun hlt=>?_)
 ·have hlt:i < ls.length:=by have:=of_decide_eq_true hlt; omega
  have hs:=tot_succ hlt
  have h1:=hle i
  have h2:=hle (i + 1)
  repeat (first|refine qa ?_|refine qb ?_|refine qc ?_|refine qd ?_|refine qe ?_|refine qf ?_|refine qg rfl ?_|refine qh ?_|refine qi ?_|refine qj ?_|refine qk ?_|refine ql ?_|refine qm ?_)
  refine hk_region fun K hK=>runs_eval tab_ok ?_
  simp only [evz,gp,tab,simprocAttr,reduceCtorEq,reduceIte,ll_get hlt]
  refine fin_run ?_ (hK _ ?_)<;>clear hK K
  ·omega
  repeat (first|refine qa ?_|refine qb ?_|refine qc ?_|refine qd ?_|refine qe ?_|refine qf ?_|refine qg rfl ?_|refine qh ?_|refine qi ?_|refine qj ?_|refine qk ?_|refine ql ?_|refine qm ?_)
  refine hk_region fun K hK=>runs_eval tab_ok ?_
  simp only [evz,gp,tab,simprocAttr,reduceCtorEq,reduceIte]
  refine fin_run ?_ (hK _ ?_)<;>clear hK K
  ·rw [hs,List.length_append] at h2
   simp only [In64]; omega
  repeat (first|refine qa ?_|refine qb ?_|refine qc ?_|refine qd ?_|refine qe ?_|refine qf ?_|refine qg rfl ?_|refine qh ?_|refine qi ?_|refine qj ?_|refine qk ?_|refine ql ?_|refine qm ?_)
  (refine hk_region fun K hK=>runs_eval tab_ok ?_); simp only [evz,gp,tab,simprocAttr,reduceCtorEq,reduceIte]; refine fin_run trivial (hK _ ?_)<;>clear hK K; repeat (first|refine qa ?_|refine qb ?_|refine qc ?_|refine qd ?_|refine qe ?_|refine qf ?_|refine qg rfl ?_|refine qh ?_|refine qi ?_|refine qj ?_|refine qk ?_|refine ql ?_|refine qm ?_)
  refine hk_cond rfl (fun hc=>?_) (fun hc=>?_)
  ·have:=of_decide_eq_true hc; omega
  repeat (first|refine qa ?_|refine qb ?_|refine qc ?_|refine qd ?_|refine qe ?_|refine qf ?_|refine qg rfl ?_|refine qh ?_|refine qi ?_|refine qj ?_|refine qk ?_|refine ql ?_|refine qm ?_)
  refine hk_region fun K hK=>runs_eval tab_ok ?_
  simp only [evz,gp,tab,simprocAttr,reduceCtorEq,reduceIte]
  refine fin_run ?_ (hK _ ?_)<;>clear hK K
  ·simp only [In64]; omega
  repeat (first|refine qa ?_|refine qb ?_|refine qc ?_|refine qd ?_|refine qe ?_|refine qf ?_|refine qg rfl ?_|refine qh ?_|refine qi ?_|refine qj ?_|refine qk ?_|refine ql ?_|refine qm ?_)
  refine ⟨i + 1,[],by omega,by omega,?_⟩
  rw [hs]
  simp only [AV.p.injEq,AV.sl.injEq,AV.ptr.injEq,Blk.own.injEq,PV.int.injEq,PV.bool.injEq,PV.list.injEq,Nat.sub_zero,Int.natCast_add,List.length_append,take_take_len,take_app1,take_app2,Le,LeH,LeS,LeB,ren,ren1,scA,sc1,List.nodup_cons,List.nodup_nil,List.mem_cons,List.not_mem_nil,or_false,not_false_eq_true,evz,gp,tab,simprocAttr,reduceCtorEq,reduceIte]<;>(first|exact trivial|omega|(simp only [In64] at *; omega)|(rw [Bool.eq_iff_iff]; simp; done)|(rw [Bool.eq_iff_iff]; simp; omega)|(simp [In64] at *; omega)|(simp_all; done)|(simp_all [In64]<;>omega)|skip)
 repeat (first|refine qa ?_|refine qb ?_|refine qc ?_|refine qd ?_|refine qe ?_|refine qf ?_|refine qg rfl ?_|refine qh ?_|refine qi ?_|refine qj ?_|refine qk ?_|refine ql ?_|refine qm ?_)
 have hii:i=ls.length:=by have:=of_decide_eq_false hlt; omega
 subst hii
 rw [List.take_length]
 refine hk_region fun K hK=>runs_eval tab_ok ?_
 simp only [evz,gp,tab,simprocAttr,reduceCtorEq,reduceIte]
 refine fin_stop trivial (runs_callG (grow_c _ hl) rfl rfl rfl (by simp only [dstOk,Nat.reduceLT]) (by repeat (first|exact trivial|constructor)) (runs_eval tab_ok ?_))
 simp only [shf,List.range',Blk.ren,ren,ren1,evz,gp,tab,simprocAttr,reduceCtorEq,reduceIte]
 refine fin_run trivial (hK _ ?_)<;>clear hK K
 repeat (first|refine qa ?_|refine qb ?_|refine qc ?_|refine qd ?_|refine qe ?_|refine qf ?_|refine qg rfl ?_|refine qh ?_|refine qi ?_|refine qj ?_|refine qk ?_|refine ql ?_|refine qm ?_)
 (refine hk_region fun K hK=>runs_eval tab_ok ?_); simp only [evz,gp,tab,simprocAttr,reduceCtorEq,reduceIte]; refine fin_run trivial (hK _ ?_)<;>clear hK K; repeat (first|refine qa ?_|refine qb ?_|refine qc ?_|refine qd ?_|refine qe ?_|refine qf ?_|refine qg rfl ?_|refine qh ?_|refine qi ?_|refine qj ?_|refine qk ?_|refine ql ?_|refine qm ?_)
 refine hk_loop (ι:=Nat) (fun i=>⟨36,[(6,.sl 0 0 (ls.take i).flatten.length),(25,.p (.nn (ll ls))),(26,.p (.int .i64 ls.length)),(27,.p (.int .i64 i))],[.own (ol (ls.take i).flatten)]⟩) (fun i=>i≤ls.length) (fun i=>ls.length - i) 0 (Nat.zero_le _) [0] (by simp only [AV.p.injEq,AV.sl.injEq,AV.ptr.injEq,Blk.own.injEq,PV.int.injEq,PV.bool.injEq,PV.list.injEq,Nat.sub_zero,Int.natCast_add,List.length_append,take_take_len,take_app1,take_app2,Le,LeH,LeS,LeB,ren,ren1,scA,sc1,List.nodup_cons,List.nodup_nil,List.mem_cons,List.not_mem_nil,or_false,not_false_eq_true,evz,gp,tab,simprocAttr,reduceCtorEq,reduceIte]<;>simp [ol_nil]) fun i hi=>?_
 repeat (first|refine qa ?_|refine qb ?_|refine qc ?_|refine qd ?_|refine qe ?_|refine qf ?_|refine qg rfl ?_|refine qh ?_|refine qi ?_|refine qj ?_|refine qk ?_|refine ql ?_|refine qm ?_)
 (refine hk_region fun K hK=>runs_eval tab_ok ?_); simp only [evz,gp,tab,simprocAttr,reduceCtorEq,reduceIte]; refine fin_run trivial (hK _ ?_)<;>clear hK K; repeat (first|refine qa ?_|refine qb ?_|refine qc ?_|refine qd ?_|refine qe ?_|refine qf ?_|refine qg rfl ?_|refine qh ?_|refine qi ?_|refine qj ?_|refine qk ?_|refine ql ?_|refine qm ?_)
 refine hk_cond rfl (fun hlt=>?_) (fun hlt=>?_)
 ·have hlt:i < ls.length:=by have:=of_decide_eq_true hlt; omega
  have hs:=tot_succ hlt
  have h1:=hle i
  have h2:=hle (i + 1)
  rw [hs,List.length_append] at h2
  repeat (first|refine qa ?_|refine qb ?_|refine qc ?_|refine qd ?_|refine qe ?_|refine qf ?_|refine qg rfl ?_|refine qh ?_|refine qi ?_|refine qj ?_|refine qk ?_|refine ql ?_|refine qm ?_)
  refine hk_region fun K hK=>runs_eval tab_ok ?_
  simp only [evz,gp,tab,simprocAttr,reduceCtorEq,reduceIte,ll_get hlt]
  refine fin_run ?_ (hK _ ?_)<;>clear hK K
  ·omega
  repeat (first|refine qa ?_|refine qb ?_|refine qc ?_|refine qd ?_|refine qe ?_|refine qf ?_|refine qg rfl ?_|refine qh ?_|refine qi ?_|refine qj ?_|refine qk ?_|refine ql ?_|refine qm ?_)
  refine hk_region fun K hK=>runs_eval tab_ok ?_
  simp only [evz,gp,tab,simprocAttr,reduceCtorEq,reduceIte]
  refine fin_run ?_ (hK _ ?_)<;>clear hK K
  ·omega
  repeat (first|refine qa ?_|refine qb ?_|refine qc ?_|refine qd ?_|refine qe ?_|refine qf ?_|refine qg rfl ?_|refine qh ?_|refine qi ?_|refine qj ?_|refine qk ?_|refine ql ?_|refine qm ?_)
  refine hk_region fun K hK=>runs_eval tab_ok ?_
  simp only [evz,gp,tab,simprocAttr,reduceCtorEq,reduceIte]
  refine fin_run ?_ (hK _ ?_)<;>clear hK K
  ·simp only [In64]; omega
  repeat (first|refine qa ?_|refine qb ?_|refine qc ?_|refine qd ?_|refine qe ?_|refine qf ?_|refine qg rfl ?_|refine qh ?_|refine qi ?_|refine qj ?_|refine qk ?_|refine ql ?_|refine qm ?_)
  refine ⟨i + 1,[1],by omega,by omega,?_⟩
  rw [hs]
  simp only [AV.p.injEq,AV.sl.injEq,AV.ptr.injEq,Blk.own.injEq,PV.int.injEq,PV.bool.injEq,PV.list.injEq,Nat.sub_zero,Int.natCast_add,List.length_append,take_take_len,take_app1,take_app2,Le,LeH,LeS,LeB,ren,ren1,scA,sc1,List.nodup_cons,List.nodup_nil,List.mem_cons,List.not_mem_nil,or_false,not_false_eq_true,evz,gp,tab,simprocAttr,reduceCtorEq,reduceIte]<;>(first|exact trivial|omega|(simp only [In64] at *; omega)|(rw [Bool.eq_iff_iff]; simp; done)|(rw [Bool.eq_iff_iff]; simp; omega)|(simp [In64] at *; omega)|(simp_all; done)|(simp_all [In64]<;>omega)|skip)
 repeat (first|refine qa ?_|refine qb ?_|refine qc ?_|refine qd ?_|refine qe ?_|refine qf ?_|refine qg rfl ?_|refine qh ?_|refine qi ?_|refine qj ?_|refine qk ?_|refine ql ?_|refine qm ?_)
 have hii:i=ls.length:=by have:=of_decide_eq_false hlt; omega
 subst hii
 rw [List.take_length]
 (refine hk_region fun K hK=>runs_eval tab_ok ?_); simp only [evz,gp,tab,simprocAttr,reduceCtorEq,reduceIte]; refine fin_run trivial (hK _ ?_)<;>clear hK K; repeat (first|refine qa ?_|refine qb ?_|refine qc ?_|refine qd ?_|refine qe ?_|refine qf ?_|refine qg rfl ?_|refine qh ?_|refine qi ?_|refine qj ?_|refine qk ?_|refine ql ?_|refine qm ?_)
 simp only [Try.results67,Post,endA,rvsA,rvA,mkTup,peekA,peekG,peekS,peekList,PV.norm,PV.norm1,PV.norm0,PV.list.injEq,PV.tup.injEq,PV.agg.injEq,PV.int.injEq,PV.bool.injEq,List.cons.injEq,evz,gp,tab,simprocAttr,reduceCtorEq,reduceIte]
 exact Nat.le_refl _
end Go.Proofs.Ytneglephfhiamaa

namespace Go.Proofs.Ytneglephfhiamaa
open Go.Pv
theorem Sm.app {v w:List Int} (hv:Sm v) (hw:Sm w):Sm (v++w):=by
 intro x hx
 rcases List.mem_append.1 hx with h | h
 ·exact hv x h
 exact hw x h
theorem push_sm {o:List Int} {x:Int} (ho:Sm o) (hx : -26≤x∧x≤26):Sm (push o x):=by
 unfold push
 split
 ·exact fun y hy=>ho y (List.mem_of_mem_take hy)
 exact ho.app (fun y hy=>by simp at hy; subst hy; exact hx)
theorem short_sm {w:List Int} (hw:Sm w):Sm (short w):=by
 have:∀ (w o:List Int),Sm w→Sm o→Sm (w.foldl push o):=by
  intro w
  induction w with
  | nil=>intro o _ ho; exact ho
  | cons x r ih=>intro o hw ho; exact ih (push o x) (fun y hy=>hw y (by simp [hy])) (push_sm ho (hw x (by simp)))
 exact this w [] hw (fun y hy=>by simp at hy)
def Red (o:List Int):Prop:=∀ i,i + 1 < o.length→o.getD i 0 ≠ -(o.getD (i + 1) 0)
theorem getD_take {o:List Int} {n i:Nat} (h:i < n):(o.take n).getD i 0=o.getD i 0:=by
 simp [List.getD,List.getElem?_take,h]
theorem getD_app1 {a b:List Int} {i:Nat} (h:i < a.length):(a++b).getD i 0=a.getD i 0:=by
 simp [List.getD,List.getElem?_append_left h]
theorem getD_app2 {a b:List Int} {i:Nat} (h:a.length≤i):(a++b).getD i 0=b.getD (i - a.length) 0:=by
 simp [List.getD,List.getElem?_append_right h]
theorem Red.take {o:List Int} (h:Red o) (n:Nat):Red (o.take n):=by
 intro i hi
 rw [List.length_take] at hi
 rw [getD_take (by omega),getD_take (by omega)]
 exact h i (by omega)
theorem red_push {o:List Int} {x:Int} (h:Red o):Red (push o x):=by
 unfold push
 split
 ·exact h.take _
 rename_i hn
 intro i hi
 simp only [List.length_append,List.length_cons,List.length_nil] at hi
 by_cases hl:i + 1 < o.length
 ·rw [getD_app1 (by omega),getD_app1 hl]; exact h i hl
 have e:i=o.length - 1:=by omega
 rw [getD_app1 (by omega),getD_app2 (by omega),e]
 intro hc
 apply hn
 refine ⟨by omega,?_⟩
 rw [hc]
 have:o.length - 1 + 1 - o.length=0:=by omega
 rw [this]; rfl
theorem red_short (w:List Int):Red (short w):=by
 have:∀ (w o:List Int),Red o→Red (w.foldl push o):=by
  intro w
  induction w with
  | nil=>intro o h; exact h
  | cons x r ih=>intro o h; exact ih _ (red_push h)
 exact this w [] (fun i hi=>by simp at hi)
theorem take_last {o:List Int} (h:0 < o.length):o.take (o.length - 1)++[o.getD (o.length - 1) 0]=o:=by
 have:o.length - 1 < o.length:=by omega
 have e:=List.take_succ_eq_append_getElem this
 rw [show o.length - 1 + 1=o.length by omega,List.take_length] at e
 simp [List.getD,List.getElem?_eq_getElem this,← e]
theorem push_cancel {o:List Int} (x:Int) (h:Red o):push (push o x) (-x)=o:=by
 by_cases hc:0 < o.length∧o.getD (o.length - 1) 0 = -x
 ·have e1:push o x=o.take (o.length - 1):=by rw [push,if_pos hc]
  rw [e1]
  have hl:(o.take (o.length - 1)).length=o.length - 1:=by simp
  rw [push,hl,if_neg ?_]
  ·have:=take_last hc.1
   rw [hc.2] at this; exact this
  rintro ⟨h1,h2⟩
  rw [getD_take (by omega),Int.neg_neg] at h2
  have:=h (o.length - 1 - 1) (by omega)
  rw [show o.length - 1 - 1 + 1=o.length - 1 by omega,hc.2,h2] at this
  simp at this
 have e1:push o x=o++[x]:=by rw [push,if_neg hc]
 rw [e1,push,if_pos]
 ·simp
 simp [List.getD]
theorem short_app (a b:List Int):short (a++b)=b.foldl push (short a):=by simp [short,List.foldl_append]
theorem short_cancel (a r:List Int) (x:Int):short (a++x :: -x :: r)=short (a++r):=by
 rw [short_app,short_app]
 simp only [List.foldl_cons]
 rw [push_cancel x (red_short a)]
theorem short_red {w:List Int} (h:Red w):short w=w:=by
 have key:∀ n,n≤w.length→short (w.take n)=w.take n:=by
  intro n
  induction n with
  | zero=>intro _; rfl
  | succ n ih =>
   intro hn
   rw [short_snoc w n hn,ih (by omega),push,if_neg ?_]
   ·rw [List.take_succ_eq_append_getElem hn]
    simp [List.getD,List.getElem?_eq_getElem hn]
   rintro ⟨h1,h2⟩
   rw [List.length_take,Nat.min_eq_left (by omega)] at h1 h2
   rw [getD_take (by omega)] at h2
   have:=h (n - 1) (by omega)
   rw [show n - 1 + 1=n by omega] at this
   exact this h2
 have:=key w.length (Nat.le_refl _)
 rwa [List.take_length] at this
theorem short_short (w:List Int):short (short w)=short w:=short_red (red_short w)
theorem splice {w:List Int} {i:Nat} (h:i + 1 < w.length):w=w.take i++w.getD i 0 :: w.getD (i + 1) 0 :: w.drop (i + 2):=by
 have h0:i < w.length:=by omega
 have e1:=List.drop_eq_getElem_cons h0
 have e2:=List.drop_eq_getElem_cons h
 have:=List.take_append_drop i w
 rw [e1,e2] at this
 simp [List.getD,List.getElem?_eq_getElem h0,List.getElem?_eq_getElem h,this]
theorem f_c (c a:Int):FnC Try.prog 25 [.int .i64 c,.int .i64 a] (.agg [.int .i64 c,.int .i64 a]):=by
 refine fnc_of tab_ok Try.func25 rfl (by kernel_rfl) (by rw [Try.ntmps25]; exact Nat.le_add_left 2 _) ?_; rw [Try.ntmps25]; repeat (first|refine qa ?_|refine qb ?_|refine qc ?_|refine qd ?_|refine qe ?_|refine qf ?_|refine qg rfl ?_|refine qh ?_|refine qi ?_|refine qj ?_|refine qk ?_|refine ql ?_|refine qm ?_)
 (refine hk_region fun K hK=>runs_eval tab_ok ?_); simp only [evz,gp,tab,simprocAttr,reduceCtorEq,reduceIte]; refine fin_run trivial (hK _ ?_)<;>clear hK K; repeat (first|refine qa ?_|refine qb ?_|refine qc ?_|refine qd ?_|refine qe ?_|refine qf ?_|refine qg rfl ?_|refine qh ?_|refine qi ?_|refine qj ?_|refine qk ?_|refine ql ?_|refine qm ?_)
 (refine hk_region fun K hK=>runs_eval tab_ok ?_); simp only [evz,gp,tab,simprocAttr,reduceCtorEq,reduceIte]; refine fin_run trivial (hK _ ?_)<;>clear hK K; repeat (first|refine qa ?_|refine qb ?_|refine qc ?_|refine qd ?_|refine qe ?_|refine qf ?_|refine qg rfl ?_|refine qh ?_|refine qi ?_|refine qj ?_|refine qk ?_|refine ql ?_|refine qm ?_)
 simp only [Try.results25,Post,endA,rvsA,rvA,mkTup,peekA,peekG,peekS,peekList,PV.norm,PV.norm1,PV.norm0,PV.list.injEq,PV.tup.injEq,PV.agg.injEq,PV.int.injEq,PV.bool.injEq,List.cons.injEq,evz,gp,tab,simprocAttr,reduceCtorEq,reduceIte]
theorem wordFault_c (w:List Int):FnC Try.prog 28 [.list (il w)] (fl (check w)):=by
 refine fnc_of tab_ok Try.func28 rfl (by kernel_rfl) (by rw [Try.ntmps28]; exact Nat.le_add_left 1 _) ?_; rw [Try.ntmps28]; repeat (first|refine qa ?_|refine qb ?_|refine qc ?_|refine qd ?_|refine qe ?_|refine qf ?_|refine qg rfl ?_|refine qh ?_|refine qi ?_|refine qj ?_|refine qk ?_|refine ql ?_|refine qm ?_)
 (refine hk_region fun K hK=>runs_eval tab_ok ?_); simp only [evz,gp,tab,simprocAttr,reduceCtorEq,reduceIte]; refine fin_run trivial (hK _ ?_)<;>clear hK K; repeat (first|refine qa ?_|refine qb ?_|refine qc ?_|refine qd ?_|refine qe ?_|refine qf ?_|refine qg rfl ?_|refine qh ?_|refine qi ?_|refine qj ?_|refine qk ?_|refine ql ?_|refine qm ?_)
 (refine hk_region fun K hK=>runs_eval tab_ok ?_); simp only [evz,gp,tab,simprocAttr,reduceCtorEq,reduceIte]; refine fin_run trivial (hK _ ?_)<;>clear hK K; repeat (first|refine qa ?_|refine qb ?_|refine qc ?_|refine qd ?_|refine qe ?_|refine qf ?_|refine qg rfl ?_|refine qh ?_|refine qi ?_|refine qj ?_|refine qk ?_|refine ql ?_|refine qm ?_)
 refine hk_cond rfl (fun h=>?_) (fun h=>?_)
 ·repeat (first|refine qa ?_|refine qb ?_|refine qc ?_|refine qd ?_|refine qe ?_|refine qf ?_|refine qg rfl ?_|refine qh ?_|refine qi ?_|refine qj ?_|refine qk ?_|refine ql ?_|refine qm ?_)
  refine hk_region fun K hK=>runs_eval tab_ok ?_
  simp only [evz,gp,tab,simprocAttr,reduceCtorEq,reduceIte]
  refine fin_stop trivial (runs_call (f_c 2 0) rfl rfl rfl (by simp only [dstOk,Nat.reduceLT]) (by repeat (first|exact trivial|constructor)) (runs_eval tab_ok ?_))
  simp only [evz,gp,tab,simprocAttr,reduceCtorEq,reduceIte]
  refine fin_run trivial (hK _ ?_)<;>clear hK K
  repeat (first|refine qa ?_|refine qb ?_|refine qc ?_|refine qd ?_|refine qe ?_|refine qf ?_|refine qg rfl ?_|refine qh ?_|refine qi ?_|refine qj ?_|refine qk ?_|refine ql ?_|refine qm ?_)
  simp only [Try.results28,Post,endA,rvsA,rvA,mkTup,peekA,peekG,peekS,peekList,PV.norm,PV.norm1,PV.norm0,PV.list.injEq,PV.tup.injEq,PV.agg.injEq,PV.int.injEq,PV.bool.injEq,List.cons.injEq,evz,gp,tab,simprocAttr,reduceCtorEq,reduceIte]
  simp [check,fl,of_decide_eq_true h]
 have hw:w.length≤2000:=by have:=of_decide_eq_false h; omega
 repeat (first|refine qa ?_|refine qb ?_|refine qc ?_|refine qd ?_|refine qe ?_|refine qf ?_|refine qg rfl ?_|refine qh ?_|refine qi ?_|refine qj ?_|refine qk ?_|refine ql ?_|refine qm ?_)
 (refine hk_region fun K hK=>runs_eval tab_ok ?_); simp only [evz,gp,tab,simprocAttr,reduceCtorEq,reduceIte]; refine fin_run trivial (hK _ ?_)<;>clear hK K; repeat (first|refine qa ?_|refine qb ?_|refine qc ?_|refine qd ?_|refine qe ?_|refine qf ?_|refine qg rfl ?_|refine qh ?_|refine qi ?_|refine qj ?_|refine qk ?_|refine ql ?_|refine qm ?_)
 refine hk_loop (ι:=Nat) (fun i=>⟨36,[(0,.p (.list (il w))),(2,.ptr 0 0),(3,.p (.int .i64 i))],[.own [.p (.int .i64 0),.p (.int .i64 0)]]⟩) (fun i=>i≤w.length∧chk i (w.drop i)=chk 0 w) (fun i=>w.length - i) 0 ⟨Nat.zero_le _,rfl⟩ [0] (by simp only [AV.p.injEq,AV.sl.injEq,AV.ptr.injEq,Blk.own.injEq,PV.int.injEq,PV.bool.injEq,PV.list.injEq,Nat.sub_zero,Int.natCast_add,List.length_append,take_take_len,take_app1,take_app2,Le,LeH,LeS,LeB,ren,ren1,scA,sc1,List.nodup_cons,List.nodup_nil,List.mem_cons,List.not_mem_nil,or_false,not_false_eq_true,evz,gp,tab,simprocAttr,reduceCtorEq,reduceIte]<;>trivial) fun i hi=>?_
 repeat (first|refine qa ?_|refine qb ?_|refine qc ?_|refine qd ?_|refine qe ?_|refine qf ?_|refine qg rfl ?_|refine qh ?_|refine qi ?_|refine qj ?_|refine qk ?_|refine ql ?_|refine qm ?_)
 (refine hk_region fun K hK=>runs_eval tab_ok ?_); simp only [evz,gp,tab,simprocAttr,reduceCtorEq,reduceIte]; refine fin_run trivial (hK _ ?_)<;>clear hK K; repeat (first|refine qa ?_|refine qb ?_|refine qc ?_|refine qd ?_|refine qe ?_|refine qf ?_|refine qg rfl ?_|refine qh ?_|refine qi ?_|refine qj ?_|refine qk ?_|refine ql ?_|refine qm ?_)
 refine hk_cond rfl (fun hlt=>?_) (fun hlt=>?_)
 ·repeat (first|refine qa ?_|refine qb ?_|refine qc ?_|refine qd ?_|refine qe ?_|refine qf ?_|refine qg rfl ?_|refine qh ?_|refine qi ?_|refine qj ?_|refine qk ?_|refine ql ?_|refine qm ?_)
  have hlt:i < w.length:=by have:=of_decide_eq_true hlt; omega
  obtain ⟨hi1,hi2⟩:=hi
  have hdrop:w.drop i=w.getD i 0 :: w.drop (i + 1):=by
   rw [List.drop_eq_getElem_cons hlt]; simp [List.getD,List.getElem?_eq_getElem hlt]
  have next:¬ (w.getD i 0=0∨w.getD i 0 < -26∨w.getD i 0 > 26)→chk (i + 1) (w.drop (i + 1))=chk 0 w:=by
   intro hn
   rw [hdrop,chk,if_neg hn] at hi2; exact hi2
  have last:(w.getD i 0=0∨w.getD i 0 < -26∨w.getD i 0 > 26)→chk 0 w=(3,(i:Int)):=by
   intro hn
   rw [hdrop,chk,if_pos hn] at hi2; exact hi2.symm
  have hg:=il_get hlt
  refine hk_cut ⟨36,[(32,.p (.bool (decide (w.getD i 0=0∨w.getD i 0 < -26∨w.getD i 0 > 26)))),(0,.p (.list (il w))),(2,.ptr 0 0),(3,.p (.int .i64 i))],[.own [.p (.int .i64 0),.p (.int .i64 0)]]⟩ ?_ ?_
  ·generalize w.getD i 0=x at *
   cases e1:(x == 0)
   ·cases e2:decide (x > 26)
    ·refine hk_region fun K hK=>runs_eval tab_ok ?_
     simp only [evz,gp,tab,simprocAttr,reduceCtorEq,reduceIte,hg,e1,e2]
     refine fin_run ?_ (hK _ ?_)<;>clear hK K
     ·omega
     refine ⟨rfl,[0],?_⟩; simp only [AV.p.injEq,AV.sl.injEq,AV.ptr.injEq,Blk.own.injEq,PV.int.injEq,PV.bool.injEq,PV.list.injEq,Nat.sub_zero,Int.natCast_add,List.length_append,take_take_len,take_app1,take_app2,Le,LeH,LeS,LeB,ren,ren1,scA,sc1,List.nodup_cons,List.nodup_nil,List.mem_cons,List.not_mem_nil,or_false,not_false_eq_true,evz,gp,tab,simprocAttr,reduceCtorEq,reduceIte]; (first|exact trivial|omega|(simp only [In64] at *; omega)|(rw [Bool.eq_iff_iff]; simp; done)|(rw [Bool.eq_iff_iff]; simp; omega)|(simp [In64] at *; omega)|(simp_all; done)|(simp_all [In64]<;>omega)|skip)
    refine hk_region fun K hK=>runs_eval tab_ok ?_
    simp only [evz,gp,tab,simprocAttr,reduceCtorEq,reduceIte,hg,e1,e2]
    refine fin_run ?_ (hK _ ?_)<;>clear hK K
    ·omega
    refine ⟨rfl,[0],?_⟩; simp only [AV.p.injEq,AV.sl.injEq,AV.ptr.injEq,Blk.own.injEq,PV.int.injEq,PV.bool.injEq,PV.list.injEq,Nat.sub_zero,Int.natCast_add,List.length_append,take_take_len,take_app1,take_app2,Le,LeH,LeS,LeB,ren,ren1,scA,sc1,List.nodup_cons,List.nodup_nil,List.mem_cons,List.not_mem_nil,or_false,not_false_eq_true,evz,gp,tab,simprocAttr,reduceCtorEq,reduceIte]; (first|exact trivial|omega|(simp only [In64] at *; omega)|(rw [Bool.eq_iff_iff]; simp; done)|(rw [Bool.eq_iff_iff]; simp; omega)|(simp [In64] at *; omega)|(simp_all; done)|(simp_all [In64]<;>omega)|skip)
   refine hk_region fun K hK=>runs_eval tab_ok ?_
   simp only [evz,gp,tab,simprocAttr,reduceCtorEq,reduceIte,hg,e1]
   refine fin_run ?_ (hK _ ?_)<;>clear hK K
   ·omega
   refine ⟨rfl,[0],?_⟩; simp only [AV.p.injEq,AV.sl.injEq,AV.ptr.injEq,Blk.own.injEq,PV.int.injEq,PV.bool.injEq,PV.list.injEq,Nat.sub_zero,Int.natCast_add,List.length_append,take_take_len,take_app1,take_app2,Le,LeH,LeS,LeB,ren,ren1,scA,sc1,List.nodup_cons,List.nodup_nil,List.mem_cons,List.not_mem_nil,or_false,not_false_eq_true,evz,gp,tab,simprocAttr,reduceCtorEq,reduceIte]; (first|exact trivial|omega|(simp only [In64] at *; omega)|(rw [Bool.eq_iff_iff]; simp; done)|(rw [Bool.eq_iff_iff]; simp; omega)|(simp [In64] at *; omega)|(simp_all; done)|(simp_all [In64]<;>omega)|skip)
  refine hk_cond rfl (fun hc=>?_) (fun hc=>?_)
  ·repeat (first|refine qa ?_|refine qb ?_|refine qc ?_|refine qd ?_|refine qe ?_|refine qf ?_|refine qg rfl ?_|refine qh ?_|refine qi ?_|refine qj ?_|refine qk ?_|refine ql ?_|refine qm ?_)
   refine hk_region fun K hK=>runs_eval tab_ok ?_
   simp only [evz,gp,tab,simprocAttr,reduceCtorEq,reduceIte]
   refine fin_stop trivial (runs_call (f_c 3 i) rfl rfl rfl (by simp only [dstOk,Nat.reduceLT]) (by repeat (first|exact trivial|constructor)) (runs_eval tab_ok ?_))
   simp only [evz,gp,tab,simprocAttr,reduceCtorEq,reduceIte]
   refine fin_run trivial (hK _ ?_)<;>clear hK K
   repeat (first|refine qa ?_|refine qb ?_|refine qc ?_|refine qd ?_|refine qe ?_|refine qf ?_|refine qg rfl ?_|refine qh ?_|refine qi ?_|refine qj ?_|refine qk ?_|refine ql ?_|refine qm ?_)
   simp only [Try.results28,Post,endA,rvsA,rvA,mkTup,peekA,peekG,peekS,peekList,PV.norm,PV.norm1,PV.norm0,PV.list.injEq,PV.tup.injEq,PV.agg.injEq,PV.int.injEq,PV.bool.injEq,List.cons.injEq,evz,gp,tab,simprocAttr,reduceCtorEq,reduceIte]
   rw [check,if_neg (by omega),last (of_decide_eq_true hc)]; rfl
  repeat (first|refine qa ?_|refine qb ?_|refine qc ?_|refine qd ?_|refine qe ?_|refine qf ?_|refine qg rfl ?_|refine qh ?_|refine qi ?_|refine qj ?_|refine qk ?_|refine ql ?_|refine qm ?_)
  refine hk_region fun K hK=>runs_eval tab_ok ?_
  simp only [evz,gp,tab,simprocAttr,reduceCtorEq,reduceIte]
  refine fin_run ?_ (hK _ ?_)<;>clear hK K
  ·(first|exact trivial|omega|(simp only [In64] at *; omega)|(rw [Bool.eq_iff_iff]; simp; done)|(rw [Bool.eq_iff_iff]; simp; omega)|(simp [In64] at *; omega)|(simp_all; done)|(simp_all [In64]<;>omega)|skip)
  repeat (first|refine qa ?_|refine qb ?_|refine qc ?_|refine qd ?_|refine qe ?_|refine qf ?_|refine qg rfl ?_|refine qh ?_|refine qi ?_|refine qj ?_|refine qk ?_|refine ql ?_|refine qm ?_)
  refine ⟨i + 1,[0],⟨by omega,next (of_decide_eq_false hc)⟩,by omega,?_⟩
  simp only [AV.p.injEq,AV.sl.injEq,AV.ptr.injEq,Blk.own.injEq,PV.int.injEq,PV.bool.injEq,PV.list.injEq,Nat.sub_zero,Int.natCast_add,List.length_append,take_take_len,take_app1,take_app2,Le,LeH,LeS,LeB,ren,ren1,scA,sc1,List.nodup_cons,List.nodup_nil,List.mem_cons,List.not_mem_nil,or_false,not_false_eq_true,evz,gp,tab,simprocAttr,reduceCtorEq,reduceIte]<;>(first|exact trivial|omega|(simp only [In64] at *; omega)|(rw [Bool.eq_iff_iff]; simp; done)|(rw [Bool.eq_iff_iff]; simp; omega)|(simp [In64] at *; omega)|(simp_all; done)|(simp_all [In64]<;>omega)|skip)
 repeat (first|refine qa ?_|refine qb ?_|refine qc ?_|refine qd ?_|refine qe ?_|refine qf ?_|refine qg rfl ?_|refine qh ?_|refine qi ?_|refine qj ?_|refine qk ?_|refine ql ?_|refine qm ?_)
 (refine hk_region fun K hK=>runs_eval tab_ok ?_); simp only [evz,gp,tab,simprocAttr,reduceCtorEq,reduceIte]; refine fin_run trivial (hK _ ?_)<;>clear hK K; repeat (first|refine qa ?_|refine qb ?_|refine qc ?_|refine qd ?_|refine qe ?_|refine qf ?_|refine qg rfl ?_|refine qh ?_|refine qi ?_|refine qj ?_|refine qk ?_|refine ql ?_|refine qm ?_)
 simp only [Try.results28,Post,endA,rvsA,rvA,mkTup,peekA,peekG,peekS,peekList,PV.norm,PV.norm1,PV.norm0,PV.list.injEq,PV.tup.injEq,PV.agg.injEq,PV.int.injEq,PV.bool.injEq,List.cons.injEq,evz,gp,tab,simprocAttr,reduceCtorEq,reduceIte]
 have:i=w.length:=by have:=of_decide_eq_false hlt; omega
 rw [check,if_neg (by omega),← hi.2,this,List.drop_length]; rfl
theorem reduced_c (w0:List Int) (hl:w0.length≤1000000000) (hs:Sm w0):FnC Try.prog 22 [.list (il w0)] (.list (il (short w0))):=by
 refine fnc_of tab_ok Try.func22 rfl (by kernel_rfl) (by rw [Try.ntmps22]; exact Nat.le_add_left 1 _) ?_; rw [Try.ntmps22]; repeat (first|refine qa ?_|refine qb ?_|refine qc ?_|refine qd ?_|refine qe ?_|refine qf ?_|refine qg rfl ?_|refine qh ?_|refine qi ?_|refine qj ?_|refine qk ?_|refine ql ?_|refine qm ?_)
 (refine hk_region fun K hK=>runs_eval tab_ok ?_); simp only [evz,gp,tab,simprocAttr,reduceCtorEq,reduceIte]; refine fin_run trivial (hK _ ?_)<;>clear hK K; repeat (first|refine qa ?_|refine qb ?_|refine qc ?_|refine qd ?_|refine qe ?_|refine qf ?_|refine qg rfl ?_|refine qh ?_|refine qi ?_|refine qj ?_|refine qk ?_|refine ql ?_|refine qm ?_)
 refine hk_region fun K hK=>runs_eval tab_ok ?_
 simp only [evz,gp,tab,simprocAttr,reduceCtorEq,reduceIte]
 refine fin_run ?_ (hK _ ?_)<;>clear hK K
 ·(first|exact trivial|omega|(simp only [In64] at *; omega)|(rw [Bool.eq_iff_iff]; simp; done)|(rw [Bool.eq_iff_iff]; simp; omega)|(simp [In64] at *; omega)|(simp_all; done)|(simp_all [In64]<;>omega)|skip)
 repeat (first|refine qa ?_|refine qb ?_|refine qc ?_|refine qd ?_|refine qe ?_|refine qf ?_|refine qg rfl ?_|refine qh ?_|refine qi ?_|refine qj ?_|refine qk ?_|refine ql ?_|refine qm ?_)
 (refine hk_region fun K hK=>runs_eval tab_ok ?_); simp only [evz,gp,tab,simprocAttr,reduceCtorEq,reduceIte]; refine fin_run trivial (hK _ ?_)<;>clear hK K; repeat (first|refine qa ?_|refine qb ?_|refine qc ?_|refine qd ?_|refine qe ?_|refine qf ?_|refine qg rfl ?_|refine qh ?_|refine qi ?_|refine qj ?_|refine qk ?_|refine ql ?_|refine qm ?_)
 refine hk_loop (ι:=List Int × Nat) (fun p=>⟨37,[(0,.sl 0 0 p.1.length),(3,.p (.int .i64 p.2))],[.own (ol p.1)]⟩)
  (fun p=>p.2≤p.1.length∧p.1.length≤w0.length∧Sm p.1∧short p.1=short w0∧∀ j,j < p.2→j + 1 < p.1.length→p.1.getD j 0 ≠ -(p.1.getD (j + 1) 0)) (fun p=>2 * p.1.length - p.2) (w0,0)
  ⟨Nat.zero_le _,Nat.le_refl _,hs,rfl,fun j hj=>by omega⟩ [0] (by simp only [AV.p.injEq,AV.sl.injEq,AV.ptr.injEq,Blk.own.injEq,PV.int.injEq,PV.bool.injEq,PV.list.injEq,Nat.sub_zero,Int.natCast_add,List.length_append,take_take_len,take_app1,take_app2,Le,LeH,LeS,LeB,ren,ren1,scA,sc1,List.nodup_cons,List.nodup_nil,List.mem_cons,List.not_mem_nil,or_false,not_false_eq_true,evz,gp,tab,simprocAttr,reduceCtorEq,reduceIte]<;>trivial) ?_
 rintro ⟨w,i⟩ ⟨h1,h2,h3,h4,h5⟩
 simp only at h1 h2 h3 h4 h5
 repeat (first|refine qa ?_|refine qb ?_|refine qc ?_|refine qd ?_|refine qe ?_|refine qf ?_|refine qg rfl ?_|refine qh ?_|refine qi ?_|refine qj ?_|refine qk ?_|refine ql ?_|refine qm ?_)
 refine hk_region fun K hK=>runs_eval tab_ok ?_
 simp only [evz,gp,tab,simprocAttr,reduceCtorEq,reduceIte]
 refine fin_run ?_ (hK _ ?_)<;>clear hK K
 ·simp only [In64]; omega
 repeat (first|refine qa ?_|refine qb ?_|refine qc ?_|refine qd ?_|refine qe ?_|refine qf ?_|refine qg rfl ?_|refine qh ?_|refine qi ?_|refine qj ?_|refine qk ?_|refine ql ?_|refine qm ?_)
 refine hk_cond rfl (fun hlt=>?_) (fun hlt=>?_)
 ·repeat (first|refine qa ?_|refine qb ?_|refine qc ?_|refine qd ?_|refine qe ?_|refine qf ?_|refine qg rfl ?_|refine qh ?_|refine qi ?_|refine qj ?_|refine qk ?_|refine ql ?_|refine qm ?_)
  have hlt:i + 1 < w.length:=by have:=of_decide_eq_true hlt; omega
  have hx:=h3 (w.getD (i + 1) 0) (by simp [List.getD,List.getElem?_eq_getElem hlt])
  have hcat:=splice hlt
  refine hk_draw mixed (by kernel_rfl) fun K hK=>runs_eval tab_ok ?_
  simp only [evz,gp,tab,simprocAttr,reduceCtorEq,reduceIte,ol_get hlt,ol_get (show i < w.length by omega)]
  refine fin_run ?_ (hK _ ?_)<;>clear hK K
  ·simp only [In64]; omega
  repeat (first|refine qa ?_|refine qb ?_|refine qc ?_|refine qd ?_|refine qe ?_|refine qf ?_|refine qg rfl ?_|refine qh ?_|refine qi ?_|refine qj ?_|refine qk ?_|refine ql ?_|refine qm ?_)
  refine hk_cond rfl (fun hc=>?_) (fun hc=>?_)
  ·have hc:w.getD i 0 = -(w.getD (i + 1) 0):=by simpa using hc
   have hc' : w.getD (i + 1) 0 = -(w.getD i 0):=by omega
   repeat (first|refine qa ?_|refine qb ?_|refine qc ?_|refine qd ?_|refine qe ?_|refine qf ?_|refine qg rfl ?_|refine qh ?_|refine qi ?_|refine qj ?_|refine qk ?_|refine ql ?_|refine qm ?_)
   have e2:((i:Int) + 2).toNat=i + 2:=by omega
   refine hk_draw mixed (by kernel_rfl) fun K hK=>runs_eval tab_ok ?_
   simp only [evz,gp,tab,simprocAttr,reduceCtorEq,reduceIte,e2]
   have e3:List.take (w.length - (i + 2)) (List.drop (i + 2) w)=w.drop (i + 2):=List.take_of_length_le (by simp)
   have hw:∃ w',w' = w.take i++w.drop (i + 2)∧w'.length=w.length - 2:=⟨_,rfl,by simp; omega⟩
   obtain ⟨w',hw1,hw2⟩:=hw
   have e4:i + (List.drop (i + 2) w).length=w'.length:=by rw [hw1]; simp; omega
   simp only [e3,e4,← hw1]
   refine fin_run ?_ (hK _ ?_)<;>clear hK K
   ·simp only [In64]; omega
   have hs' : short w' = short w0:=by
    rw [← h4,hcat,hc',short_cancel,hw1]
   have hm' : Sm w':=by
    rw [hw1]
    exact Sm.app (fun x hx=>h3 x (List.mem_of_mem_take hx)) (fun x hx=>h3 x (List.mem_of_mem_drop hx))
   have h5' : ∀ (i' : Nat),i'≤i - 1→∀ j,j < i'→j + 1 < w'.length→w'.getD j 0 ≠ -(w'.getD (j + 1) 0):=by
    intro i' hi' j hj hj2
    have hli:(w.take i).length=i:=by simp; omega
    rw [hw1,getD_app1 (by omega),getD_app1 (by omega),getD_take (by omega),getD_take (by omega)]
    exact h5 j (by omega) (by omega)
   repeat (first|refine qa ?_|refine qb ?_|refine qc ?_|refine qd ?_|refine qe ?_|refine qf ?_|refine qg rfl ?_|refine qh ?_|refine qi ?_|refine qj ?_|refine qk ?_|refine ql ?_|refine qm ?_)
   (refine hk_region fun K hK=>runs_eval tab_ok ?_); simp only [evz,gp,tab,simprocAttr,reduceCtorEq,reduceIte]; refine fin_run trivial (hK _ ?_)<;>clear hK K; repeat (first|refine qa ?_|refine qb ?_|refine qc ?_|refine qd ?_|refine qe ?_|refine qf ?_|refine qg rfl ?_|refine qh ?_|refine qi ?_|refine qj ?_|refine qk ?_|refine ql ?_|refine qm ?_)
   refine hk_cond rfl (fun hp=>?_) (fun hp=>?_)
   ·have hp:0 < i:=by have:=of_decide_eq_true hp; omega
    repeat (first|refine qa ?_|refine qb ?_|refine qc ?_|refine qd ?_|refine qe ?_|refine qf ?_|refine qg rfl ?_|refine qh ?_|refine qi ?_|refine qj ?_|refine qk ?_|refine ql ?_|refine qm ?_)
    refine hk_region fun K hK=>runs_eval tab_ok ?_
    simp only [evz,gp,tab,simprocAttr,reduceCtorEq,reduceIte]
    refine fin_run ?_ (hK _ ?_)<;>clear hK K
    ·simp only [In64]; omega
    repeat (first|refine qa ?_|refine qb ?_|refine qc ?_|refine qd ?_|refine qe ?_|refine qf ?_|refine qg rfl ?_|refine qh ?_|refine qi ?_|refine qj ?_|refine qk ?_|refine ql ?_|refine qm ?_)
    refine ⟨(w',i - 1),[1],⟨by simp only; omega,by simp only; omega,hm',hs',h5' (i - 1) (Nat.le_refl _)⟩,by simp only; omega,?_⟩
    simp only [AV.p.injEq,AV.sl.injEq,AV.ptr.injEq,Blk.own.injEq,PV.int.injEq,PV.bool.injEq,PV.list.injEq,Nat.sub_zero,Int.natCast_add,List.length_append,take_take_len,take_app1,take_app2,Le,LeH,LeS,LeB,ren,ren1,scA,sc1,List.nodup_cons,List.nodup_nil,List.mem_cons,List.not_mem_nil,or_false,not_false_eq_true,evz,gp,tab,simprocAttr,reduceCtorEq,reduceIte]<;>omega
   have hp:i=0:=by have:=of_decide_eq_false hp; omega
   subst hp
   repeat (first|refine qa ?_|refine qb ?_|refine qc ?_|refine qd ?_|refine qe ?_|refine qf ?_|refine qg rfl ?_|refine qh ?_|refine qi ?_|refine qj ?_|refine qk ?_|refine ql ?_|refine qm ?_)
   refine ⟨(w',0),[1],⟨Nat.zero_le _,by simp only; omega,hm',hs',h5' 0 (Nat.le_refl _)⟩,by simp only; omega,?_⟩
   simp only [AV.p.injEq,AV.sl.injEq,AV.ptr.injEq,Blk.own.injEq,PV.int.injEq,PV.bool.injEq,PV.list.injEq,Nat.sub_zero,Int.natCast_add,List.length_append,take_take_len,take_app1,take_app2,Le,LeH,LeS,LeB,ren,ren1,scA,sc1,List.nodup_cons,List.nodup_nil,List.mem_cons,List.not_mem_nil,or_false,not_false_eq_true,evz,gp,tab,simprocAttr,reduceCtorEq,reduceIte]<;>trivial
  have hc:w.getD i 0 ≠ -(w.getD (i + 1) 0):=by simpa using hc
  repeat (first|refine qa ?_|refine qb ?_|refine qc ?_|refine qd ?_|refine qe ?_|refine qf ?_|refine qg rfl ?_|refine qh ?_|refine qi ?_|refine qj ?_|refine qk ?_|refine ql ?_|refine qm ?_)
  refine hk_region fun K hK=>runs_eval tab_ok ?_
  simp only [evz,gp,tab,simprocAttr,reduceCtorEq,reduceIte]
  refine fin_run ?_ (hK _ ?_)<;>clear hK K
  ·simp only [In64]; omega
  repeat (first|refine qa ?_|refine qb ?_|refine qc ?_|refine qd ?_|refine qe ?_|refine qf ?_|refine qg rfl ?_|refine qh ?_|refine qi ?_|refine qj ?_|refine qk ?_|refine ql ?_|refine qm ?_)
  refine ⟨(w,i + 1),[0],⟨by simp only; omega,h2,h3,h4,fun j hj hj2=>?_⟩,by simp only; omega,?_⟩
  ·simp only at hj hj2
   by_cases e:j=i
   ·subst e; exact hc
   exact h5 j (by omega) hj2
  simp only [AV.p.injEq,AV.sl.injEq,AV.ptr.injEq,Blk.own.injEq,PV.int.injEq,PV.bool.injEq,PV.list.injEq,Nat.sub_zero,Int.natCast_add,List.length_append,take_take_len,take_app1,take_app2,Le,LeH,LeS,LeB,ren,ren1,scA,sc1,List.nodup_cons,List.nodup_nil,List.mem_cons,List.not_mem_nil,or_false,not_false_eq_true,evz,gp,tab,simprocAttr,reduceCtorEq,reduceIte]<;>omega
 repeat (first|refine qa ?_|refine qb ?_|refine qc ?_|refine qd ?_|refine qe ?_|refine qf ?_|refine qg rfl ?_|refine qh ?_|refine qi ?_|refine qj ?_|refine qk ?_|refine ql ?_|refine qm ?_)
 (refine hk_region fun K hK=>runs_eval tab_ok ?_); simp only [evz,gp,tab,simprocAttr,reduceCtorEq,reduceIte]; refine fin_run trivial (hK _ ?_)<;>clear hK K; repeat (first|refine qa ?_|refine qb ?_|refine qc ?_|refine qd ?_|refine qe ?_|refine qf ?_|refine qg rfl ?_|refine qh ?_|refine qi ?_|refine qj ?_|refine qk ?_|refine ql ?_|refine qm ?_)
 simp only [Try.results22,Post,endA,rvsA,rvA,mkTup,peekA,peekG,peekS,peekList,PV.norm,PV.norm1,PV.norm0,PV.list.injEq,PV.tup.injEq,PV.agg.injEq,PV.int.injEq,PV.bool.injEq,List.cons.injEq,evz,gp,tab,simprocAttr,reduceCtorEq,reduceIte]
 have hlt:¬ i + 1 < w.length:=by have:=of_decide_eq_false hlt; omega
 rw [← h4,short_red fun j hj=>h5 j (by omega) hj]
 exact ⟨Nat.le_refl _,rfl⟩
theorem ints_c (v w:List Int) (hl:v.length≤1000000000):FnC Try.prog 21 [.list (il v),.list (il w)] (.bool (decide (v=w))):=by
 refine fnc_of tab_ok Try.func21 rfl (by kernel_rfl) (by rw [Try.ntmps21]; exact Nat.le_add_left 2 _) ?_; rw [Try.ntmps21]; repeat (first|refine qa ?_|refine qb ?_|refine qc ?_|refine qd ?_|refine qe ?_|refine qf ?_|refine qg rfl ?_|refine qh ?_|refine qi ?_|refine qj ?_|refine qk ?_|refine ql ?_|refine qm ?_)
 (refine hk_region fun K hK=>runs_eval tab_ok ?_); simp only [evz,gp,tab,simprocAttr,reduceCtorEq,reduceIte]; refine fin_run trivial (hK _ ?_)<;>clear hK K; repeat (first|refine qa ?_|refine qb ?_|refine qc ?_|refine qd ?_|refine qe ?_|refine qf ?_|refine qg rfl ?_|refine qh ?_|refine qi ?_|refine qj ?_|refine qk ?_|refine ql ?_|refine qm ?_)
 (refine hk_region fun K hK=>runs_eval tab_ok ?_); simp only [evz,gp,tab,simprocAttr,reduceCtorEq,reduceIte]; refine fin_run trivial (hK _ ?_)<;>clear hK K; repeat (first|refine qa ?_|refine qb ?_|refine qc ?_|refine qd ?_|refine qe ?_|refine qf ?_|refine qg rfl ?_|refine qh ?_|refine qi ?_|refine qj ?_|refine qk ?_|refine ql ?_|refine qm ?_)
 refine hk_cond rfl (fun hn=>?_) (fun hn=>?_)
 ·repeat (first|refine qa ?_|refine qb ?_|refine qc ?_|refine qd ?_|refine qe ?_|refine qf ?_|refine qg rfl ?_|refine qh ?_|refine qi ?_|refine qj ?_|refine qk ?_|refine ql ?_|refine qm ?_)
  (refine hk_region fun K hK=>runs_eval tab_ok ?_); simp only [evz,gp,tab,simprocAttr,reduceCtorEq,reduceIte]; refine fin_run trivial (hK _ ?_)<;>clear hK K; repeat (first|refine qa ?_|refine qb ?_|refine qc ?_|refine qd ?_|refine qe ?_|refine qf ?_|refine qg rfl ?_|refine qh ?_|refine qi ?_|refine qj ?_|refine qk ?_|refine ql ?_|refine qm ?_)
  simp only [Try.results21,Post,endA,rvsA,rvA,mkTup,peekA,peekG,peekS,peekList,PV.norm,PV.norm1,PV.norm0,PV.list.injEq,PV.tup.injEq,PV.agg.injEq,PV.int.injEq,PV.bool.injEq,List.cons.injEq,evz,gp,tab,simprocAttr,reduceCtorEq,reduceIte]
  have:v ≠ w:=by intro h; subst h; simp at hn
  simp [this]
 have hn:v.length=w.length:=by simp at hn; omega
 repeat (first|refine qa ?_|refine qb ?_|refine qc ?_|refine qd ?_|refine qe ?_|refine qf ?_|refine qg rfl ?_|refine qh ?_|refine qi ?_|refine qj ?_|refine qk ?_|refine ql ?_|refine qm ?_)
 (refine hk_region fun K hK=>runs_eval tab_ok ?_); simp only [evz,gp,tab,simprocAttr,reduceCtorEq,reduceIte]; refine fin_run trivial (hK _ ?_)<;>clear hK K; repeat (first|refine qa ?_|refine qb ?_|refine qc ?_|refine qd ?_|refine qe ?_|refine qf ?_|refine qg rfl ?_|refine qh ?_|refine qi ?_|refine qj ?_|refine qk ?_|refine ql ?_|refine qm ?_)
 refine hk_loop (ι:=Nat) (fun i=>⟨26,[(0,.p (.list (il v))),(1,.p (.list (il w))),(5,.p (.int .i64 i))],[]⟩) (fun i=>i≤v.length∧v.take i=w.take i) (fun i=>v.length - i) 0 ⟨Nat.zero_le _,rfl⟩ [] (by simp only [AV.p.injEq,AV.sl.injEq,AV.ptr.injEq,Blk.own.injEq,PV.int.injEq,PV.bool.injEq,PV.list.injEq,Nat.sub_zero,Int.natCast_add,List.length_append,take_take_len,take_app1,take_app2,Le,LeH,LeS,LeB,ren,ren1,scA,sc1,List.nodup_cons,List.nodup_nil,List.mem_cons,List.not_mem_nil,or_false,not_false_eq_true,evz,gp,tab,simprocAttr,reduceCtorEq,reduceIte]<;>trivial) fun i hi=>?_
 obtain ⟨hi1,hi2⟩:=hi
 repeat (first|refine qa ?_|refine qb ?_|refine qc ?_|refine qd ?_|refine qe ?_|refine qf ?_|refine qg rfl ?_|refine qh ?_|refine qi ?_|refine qj ?_|refine qk ?_|refine ql ?_|refine qm ?_)
 (refine hk_region fun K hK=>runs_eval tab_ok ?_); simp only [evz,gp,tab,simprocAttr,reduceCtorEq,reduceIte]; refine fin_run trivial (hK _ ?_)<;>clear hK K; repeat (first|refine qa ?_|refine qb ?_|refine qc ?_|refine qd ?_|refine qe ?_|refine qf ?_|refine qg rfl ?_|refine qh ?_|refine qi ?_|refine qj ?_|refine qk ?_|refine ql ?_|refine qm ?_)
 refine hk_cond rfl (fun hlt=>?_) (fun hlt=>?_)
 ·have hlt:i < v.length:=by have:=of_decide_eq_true hlt; omega
  repeat (first|refine qa ?_|refine qb ?_|refine qc ?_|refine qd ?_|refine qe ?_|refine qf ?_|refine qg rfl ?_|refine qh ?_|refine qi ?_|refine qj ?_|refine qk ?_|refine ql ?_|refine qm ?_)
  refine hk_draw mixed (by kernel_rfl) fun K hK=>runs_eval tab_ok ?_
  simp only [evz,gp,tab,simprocAttr,reduceCtorEq,reduceIte,il_get hlt,il_get (show i < w.length by omega)]
  refine fin_run ?_ (hK _ ?_)<;>clear hK K
  ·omega
  repeat (first|refine qa ?_|refine qb ?_|refine qc ?_|refine qd ?_|refine qe ?_|refine qf ?_|refine qg rfl ?_|refine qh ?_|refine qi ?_|refine qj ?_|refine qk ?_|refine ql ?_|refine qm ?_)
  refine hk_cond rfl (fun hc=>?_) (fun hc=>?_)
  ·repeat (first|refine qa ?_|refine qb ?_|refine qc ?_|refine qd ?_|refine qe ?_|refine qf ?_|refine qg rfl ?_|refine qh ?_|refine qi ?_|refine qj ?_|refine qk ?_|refine ql ?_|refine qm ?_)
   (refine hk_region fun K hK=>runs_eval tab_ok ?_); simp only [evz,gp,tab,simprocAttr,reduceCtorEq,reduceIte]; refine fin_run trivial (hK _ ?_)<;>clear hK K; repeat (first|refine qa ?_|refine qb ?_|refine qc ?_|refine qd ?_|refine qe ?_|refine qf ?_|refine qg rfl ?_|refine qh ?_|refine qi ?_|refine qj ?_|refine qk ?_|refine ql ?_|refine qm ?_)
   simp only [Try.results21,Post,endA,rvsA,rvA,mkTup,peekA,peekG,peekS,peekList,PV.norm,PV.norm1,PV.norm0,PV.list.injEq,PV.tup.injEq,PV.agg.injEq,PV.int.injEq,PV.bool.injEq,List.cons.injEq,evz,gp,tab,simprocAttr,reduceCtorEq,reduceIte]
   have:v ≠ w:=by intro h; subst h; simp at hc
   simp [this]
  repeat (first|refine qa ?_|refine qb ?_|refine qc ?_|refine qd ?_|refine qe ?_|refine qf ?_|refine qg rfl ?_|refine qh ?_|refine qi ?_|refine qj ?_|refine qk ?_|refine ql ?_|refine qm ?_)
  refine hk_region fun K hK=>runs_eval tab_ok ?_
  simp only [evz,gp,tab,simprocAttr,reduceCtorEq,reduceIte]
  refine fin_run ?_ (hK _ ?_)<;>clear hK K
  ·(first|exact trivial|omega|(simp only [In64] at *; omega)|(rw [Bool.eq_iff_iff]; simp; done)|(rw [Bool.eq_iff_iff]; simp; omega)|(simp [In64] at *; omega)|(simp_all; done)|(simp_all [In64]<;>omega)|skip)
  repeat (first|refine qa ?_|refine qb ?_|refine qc ?_|refine qd ?_|refine qe ?_|refine qf ?_|refine qg rfl ?_|refine qh ?_|refine qi ?_|refine qj ?_|refine qk ?_|refine ql ?_|refine qm ?_)
  have hx:v.getD i 0=w.getD i 0:=by simpa using hc
  refine ⟨i + 1,[],⟨by omega,?_⟩,by omega,?_⟩
  ·rw [List.take_succ_eq_append_getElem hlt,List.take_succ_eq_append_getElem (show i < w.length by omega),hi2]
   simp [List.getD,List.getElem?_eq_getElem hlt,List.getElem?_eq_getElem (show i < w.length by omega)] at hx
   rw [hx]
  simp only [AV.p.injEq,AV.sl.injEq,AV.ptr.injEq,Blk.own.injEq,PV.int.injEq,PV.bool.injEq,PV.list.injEq,Nat.sub_zero,Int.natCast_add,List.length_append,take_take_len,take_app1,take_app2,Le,LeH,LeS,LeB,ren,ren1,scA,sc1,List.nodup_cons,List.nodup_nil,List.mem_cons,List.not_mem_nil,or_false,not_false_eq_true,evz,gp,tab,simprocAttr,reduceCtorEq,reduceIte]<;>(first|exact trivial|omega|(simp only [In64] at *; omega)|(rw [Bool.eq_iff_iff]; simp; done)|(rw [Bool.eq_iff_iff]; simp; omega)|(simp [In64] at *; omega)|(simp_all; done)|(simp_all [In64]<;>omega)|skip)
 repeat (first|refine qa ?_|refine qb ?_|refine qc ?_|refine qd ?_|refine qe ?_|refine qf ?_|refine qg rfl ?_|refine qh ?_|refine qi ?_|refine qj ?_|refine qk ?_|refine ql ?_|refine qm ?_)
 (refine hk_region fun K hK=>runs_eval tab_ok ?_); simp only [evz,gp,tab,simprocAttr,reduceCtorEq,reduceIte]; refine fin_run trivial (hK _ ?_)<;>clear hK K; repeat (first|refine qa ?_|refine qb ?_|refine qc ?_|refine qd ?_|refine qe ?_|refine qf ?_|refine qg rfl ?_|refine qh ?_|refine qi ?_|refine qj ?_|refine qk ?_|refine ql ?_|refine qm ?_)
 simp only [Try.results21,Post,endA,rvsA,rvA,mkTup,peekA,peekG,peekS,peekList,PV.norm,PV.norm1,PV.norm0,PV.list.injEq,PV.tup.injEq,PV.agg.injEq,PV.int.injEq,PV.bool.injEq,List.cons.injEq,evz,gp,tab,simprocAttr,reduceCtorEq,reduceIte]
 have:i=v.length:=by have:=of_decide_eq_false hlt; omega
 subst this
 rw [List.take_length,List.take_of_length_le (by omega)] at hi2
 simp [hi2]
end Go.Proofs.Ytneglephfhiamaa

namespace Go.Proofs.Ytneglephfhiamaa
open Go.Pv
def Ok (w:List Int):Prop:=∀ x∈w,x ≠ 0∧-26≤x∧x≤26
theorem Ok.sm {w:List Int} (h:Ok w):Sm w:=fun x hx=>(h x hx).2
theorem chk_ok:∀ (w:List Int) (i:Nat),(chk i w).1=0→Ok w
 | [],_,_=>fun x hx=>by simp at hx
 | x :: r,i,h=>by
  unfold chk at h
  split at h
  ·simp at h
  rename_i hn
  intro y hy
  rcases List.mem_cons.1 hy with rfl | hy
  ·omega
  exact chk_ok r (i + 1) h y hy
theorem check_ok {w:List Int} (h:(check w).1=0):Ok w∧w.length≤2000:=by
 unfold check at h
 split at h
 ·simp at h
 exact ⟨chk_ok w 0 h,by omega⟩
theorem ok_chk:∀ (w:List Int) (i:Nat),Ok w→chk i w=(0,0)
 | [],_,_=>rfl
 | x :: r,i,h=>by
  have h0:=h x (by simp)
  rw [chk,if_neg (by omega)]
  exact ok_chk r (i + 1) fun y hy=>h y (by simp [hy])
theorem ok_check {w:List Int} (h:Ok w) (hl:w.length≤2000):check w=(0,0):=by
 rw [check,if_neg (by omega)]
 exact ok_chk w 0 h
theorem Ok.app {v w:List Int} (hv:Ok v) (hw:Ok w):Ok (v++w):=by
 intro x hx
 rcases List.mem_append.1 hx with h | h
 ·exact hv x h
 exact hw x h
theorem short_sub:∀ (w:List Int),∀ x∈short w,x∈w:=by
 have:∀ (w o:List Int),∀ x∈w.foldl push o,x∈o∨x∈w:=by
  intro w
  induction w with
  | nil=>intro o x hx; exact .inl hx
  | cons y r ih =>
   intro o x hx
   rcases ih (push o y) x hx with h | h
   ·unfold push at h
    split at h
    ·exact .inl (List.mem_of_mem_take h)
    rcases List.mem_append.1 h with h | h
    ·exact .inl h
    exact .inr (by simp at h; simp [h])
   exact .inr (by simp [h])
 intro w x hx
 rcases this w [] x hx with h | h
 ·simp at h
 exact h
theorem Ok.short {w:List Int} (h:Ok w):Ok (short w):=fun x hx=>h x (short_sub w x hx)
theorem Ok.back {w:List Int} (h:Ok w):Ok (back w):=by
 intro x hx
 obtain ⟨y,hy,rfl⟩:=List.mem_map.1 hx
 have:=h y (List.mem_reverse.1 hy)
 omega
theorem short_left (x y:List Int):short (short x++y)=short (x++y):=by
 rw [short_app,short_app,short_short]
theorem foldl_short {o:List Int} (ho:Red o):∀ y:List Int,(short y).foldl push o=y.foldl push o:=by
 have key:∀ n (y:List Int),y.length=n→(short y).foldl push o=y.foldl push o:=by
  intro n
  induction n with
  | zero=>intro y hy; rw [List.eq_nil_of_length_eq_zero hy]; rfl
  | succ n ih =>
   intro y hy
   have hne:y ≠ []:=by intro h; subst h; simp at hy
   obtain ⟨y',z,rfl⟩:∃ y' z,y=y'++[z]:=⟨y.dropLast,y.getLast hne,(List.dropLast_concat_getLast hne).symm⟩
   have ih':=ih y' (by simpa using hy)
   have e:short (y'++[z])=push (short y') z:=by rw [short_app]; rfl
   rw [e,List.foldl_append,← ih']
   simp only [List.foldl_cons,List.foldl_nil]
   have hr:=red_short y'
   generalize short y' = s at *
   by_cases hc:0 < s.length∧s.getD (s.length - 1) 0 = -z
   ·have h1:push s z=s.take (s.length - 1):=by rw [push,if_pos hc]
    have h2:=take_last hc.1
    rw [hc.2] at h2
    rw [h1]
    generalize s.take (s.length - 1)=s' at *
    rw [← h2,List.foldl_append]
    simp only [List.foldl_cons,List.foldl_nil]
    have hred:∀ (l o:List Int),Red o→Red (l.foldl push o):=by
     intro l
     induction l with
     | nil=>intro o h; exact h
     | cons a b ih=>intro o h; exact ih _ (red_push h)
    have:=push_cancel (-z) (hred s' o ho)
    rw [Int.neg_neg] at this
    exact this.symm
   have h1:push s z=s++[z]:=by rw [push,if_neg hc]
   rw [h1,List.foldl_append]
   rfl
 exact fun y=>key y.length y rfl
theorem short_right (x y:List Int):short (x++short y)=short (x++y):=by
 rw [short_app,short_app,foldl_short (red_short x)]
theorem short_mid (p m q:List Int):short (p++short m++q)=short (p++m++q):=by
 rw [← short_left,short_right,short_left]
theorem back_cons (x:Int) (r:List Int):back (x :: r)=back r++[-x]:=by simp [back]
theorem back_back (a:List Int):back (back a)=a:=by simp [back,List.map_reverse,Function.comp_def]
theorem back_len (a:List Int):(back a).length=a.length:=by simp [back]
theorem short_inv (a:List Int):short (a++back a)=[]:=by
 induction a with
 | nil=>rfl
 | cons x r ih =>
  rw [back_cons]
  have e:x :: r++(back r++[-x])=[x]++(r++back r)++[-x]:=by simp
  rw [e,← short_mid,ih]
  have:=short_cancel [] [] x
  simpa [short] using this
theorem short_inv' (a:List Int):short (back a++a)=[]:=by
 have:=short_inv (back a)
 rwa [back_back] at this
end Go.Proofs.Ytneglephfhiamaa

namespace Go.Pv
open Go.RowKit
def ancs:Nat→Nat→Heap
 | _,0=>[]
 | k,n + 1=>.anc k k :: ancs (k + 1) n
theorem ancs_get:∀ (n k j:Nat) (b:Blk),(ancs k n)[j]? = some b→j < n∧b = .anc (k + j) (k + j)
 | 0,k,j,b,h=>by simp [ancs] at h
 | n + 1,k,0,b,h=>by simp [ancs] at h; exact ⟨by omega,h.symm⟩
 | n + 1,k,j + 1,b,h=>by
  have:=ancs_get n (k + 1) j b (by simpa [ancs] using h)
  refine ⟨by omega,?_⟩
  rw [this.2,show k + 1 + j=k + (j + 1) by omega]
theorem ancs_at:∀ (n k j:Nat),j < n→(ancs k n)[j]? = some (.anc (k + j) (k + j))
 | n + 1,k,0,_=>rfl
 | n + 1,k,j + 1,h=>by
  rw [show ancs k (n + 1) = .anc k k :: ancs (k + 1) n from rfl,List.getElem?_cons_succ,ancs_at n (k + 1) j (by omega),show k + 1 + j=k + (j + 1) by omega]
theorem ancs_length:∀ (n k:Nat),(ancs k n).length=n
 | 0,_=>rfl
 | n + 1,k=>by simp [ancs,ancs_length n]
def entA:Nat→List AV→List (Nat × AV)
 | _,[]=>[]
 | k,a :: r=>(k,a) :: entA (k + 1) r
theorem entA_lk:∀ (l:List AV) (k t:Nat),lk (entA k l) t=if k≤t then l.getD (t - k) .dead else .dead
 | [],k,t=>by simp [entA,lk]
 | a :: r,k,t=>by
  simp only [entA,lk]
  by_cases h:k=t
  ·subst h; simp
  rw [show (k == t)=false by simpa using h]
  simp only [cond_false]
  rw [entA_lk r (k + 1) t]
  by_cases hk:k≤t
  ·rw [if_pos (by omega),if_pos hk,show t - k=(t - (k + 1)) + 1 by omega]; rfl
  rw [if_neg (by omega),if_neg hk]
theorem app_get {H X:Heap} {k:Nat} {b:Blk} (h:(H++X)[k]? = some b):(k < H.length∧H[k]? = some b)∨X[k - H.length]? = some b:=by
 by_cases hk:k < H.length
 ·exact .inl ⟨hk,by rwa [List.getElem?_append_left hk] at h⟩
 exact .inr (by rwa [List.getElem?_append_right (by omega)] at h)
section
variable {P:Program} {T:TypeId→Option TI} {C:Ctx} {m:Map} {s:St} {tmps:Array Value} {w:World}
theorem Rel.addAnc (R:Rel C m s tmps w) {n:Nat} (hn:n≤s.H.length) (ha:∀ i,i < n→m i=C.anc i):Rel C m { s with H:=s.H++ancs 0 n } tmps w:=by
 have gen:∀ (k:Nat) (b:Blk),(∀ i j,b ≠ .anc i j)→(s.H++ancs 0 n)[k]? = some b→k < s.H.length∧s.H[k]? = some b:=by
  intro k b hb h
  rcases app_get h with h | h
  ·exact h
  exact absurd (ancs_get _ _ _ _ h).2 (hb _ _)
 have own:∀ (k:Nat) (c:List AV),(s.H++ancs 0 n)[k]? = some (.own c)→k < s.H.length∧s.H[k]? = some (.own c):=fun k c h=>gen k _ (fun _ _ h=>by cases h) h
 have mps:∀ (k:Nat) (kk:IntKind) (d:Int→Bool) (v:Int→PV),(s.H++ancs 0 n)[k]? = some (Blk.mp kk d v)→k < s.H.length∧s.H[k]? = some (Blk.mp kk d v):=fun k _ _ _ h=>gen k _ (fun _ _ h=>by cases h) h
 have ho:∀ b,OK C m s.H w b→OK C m (s.H++ancs 0 n) w b:=fun b h=>⟨h.1,h.2.1,fun k c l hk hl=>h.2.2 k c l (own k c hk).2 hl⟩
 have hlen:s.H.length≤(s.H++ancs 0 n).length:=by simp
 have rd:∀ p v,Reads (OK C m s.H w) w p v→Reads (OK C m (s.H++ancs 0 n) w) w p v:=fun p v h=>h.mono ho
 refine ⟨R.laid.ext rd,R.below,R.base,R.size,fun k k' c c' l l' h1 h2=>R.inj k k' c c' l l' (own k c h1).2 (own k' c' h2).2,fun k c h=>(R.blk k c (own k c h).2).ext rd hlen (fun _ _=>rfl) rfl fun _ _=>rfl,
  fun k c h=>(R.fro k c (gen k _ (fun _ _ h=>by cases h) h).2).ext ho (fun _ _=>rfl) rfl,fun t=>(R.slot t).ext rd hlen fun _ _=>rfl,fun k kk d v h=>(R.mp.1 k kk d v (mps k kk d v h).2).ext ho (fun _ _=>rfl) rfl fun _ _=>rfl,
  fun k k' kk d v kk' d' v' l l' h1 h2=>R.mp.2.1 k k' kk d v kk' d' v' l l' (mps _ _ _ _ h1).2 (mps _ _ _ _ h2).2,fun k i j h=>?_,R.mp.2.2.2.ext id (fun k r h=>⟨(gen k _ (fun _ _ h=>by cases h) h).2,rfl⟩) (fun _ _ _ _ _ _ h=>h) (fun _ _ _ _ _ _=>rfl) fun _ _ _ _ _ h=>h⟩
 rcases app_get h with h | h
 ·obtain ⟨a1,a2⟩:=R.mp.2.2.1 k i j h.2
  exact ⟨by simp; omega,a2⟩
 obtain ⟨a1,a2⟩:=ancs_get _ _ _ _ h
 cases a2
 refine ⟨by simp; omega,?_⟩
 rw [ha _ (by omega)]
def FnM (P:Program) (f:FuncId) (args:List AV) (H0:Heap) (r:AV) (H1:Heap):Prop:=
 Fun P f∧∀ (C:Ctx) (m:Map) (w:World) (vals:Array Value),Rel C m ⟨args.length,entA 0 args,H0++ancs 0 H0.length⟩ vals w →
  Calls P f vals w fun e w'=>∃ v m',e = .returned v∧Rel C m' ⟨1,[(0,r)],H1++ancs 0 H0.length⟩ #[v] w'
theorem fnm_of (hT:∀ t ti,T t=some ti→tiOf P t=some ti) {f:FuncId} {fn:Func} {c:Code} {args:List AV} {av:AV} {H0 H1:Heap} (hf:P.funcs[f]? = some fn) (hb:fn.body=some c) (hnm:(fn.name == "runtime.NumGoroutine")=false) (hn:args.length≤fn.ntmps)
  (h:Holds P c (PostG T fn.results.toList av (H1++ancs 0 H0.length)) ⟨fn.ntmps,entA 0 args,H0++ancs 0 H0.length⟩):FnM P f args H0 av H1:=by
 refine ⟨⟨fn,hf,hnm,by rw [hb]; rfl⟩,fun C m w vals R0=>calls_of_wp hf hb (wpR_none.1 ?_)⟩
 have hsz:vals.size=args.length:=R0.size
 have R:Rel C m ⟨fn.ntmps,entA 0 args,H0++ancs 0 H0.length⟩ (vals++Array.replicate (fn.ntmps - vals.size) undef) w:=by
  refine ⟨R0.laid,R0.below,R0.base,by simp; omega,R0.inj,R0.blk,R0.fro,fun t=>?_,R0.mp⟩
  have hs:=R0.slot t
  by_cases ht:t < vals.size
  ·rw [Array.getD_eq_getD_getElem?,Array.getElem?_append_left ht,← Array.getD_eq_getD_getElem?]
   exact hs
  have e:lk (entA 0 args) t = .dead:=by
   rw [entA_lk,if_pos (Nat.zero_le _),List.getD_eq_getElem?_getD,List.getElem?_eq_none (by omega)]; rfl
  unfold St.get
  simp only
  rw [e]
  exact .dead _
 refine wpR_mono (h none [] _ _ { tmps:=vals++Array.replicate (fn.ntmps - vals.size) undef,defers:=[] } w R rfl) fun e a' w' ⟨s',m',h1,h2,h3⟩=>?_
 have fini:endG T fn.results.toList av (H1++ancs 0 H0.length) s'→a'.defers=[]∧∃ v,(results fn a'.tmps).run P w' = .ok v w'∧∃ v_1 m'',Ending.returned v = .returned v_1∧Rel C m'' ⟨1,[(0,av)],H1++ancs 0 H0.length⟩ #[v_1] w':=by
  intro he
  unfold endG at he
  split at he
  ·rename_i p l hl
   obtain ⟨hp,π,hav,hsc,hle⟩:=he
   obtain ⟨vs,e1,e2,e3⟩:=rvsA_run hT h2 fn.results.toList hl hp
   have hv:=mkTup_val (w:=w') e2 e3
   have R':=h2.weaken hle
   rw [hav] at hv
   have hlen:(H1++ancs 0 H0.length).length=π.length:=(hle.2.2.1.get).1.symm
   have ho:=OK.weaken (C:=C) (m:=m') (w:=w') hle.2.2.1
   have hv2:=hv.unren (fun p v h=>h.mono ho) hlen hsc
   refine ⟨h3,(if h:vs.toArray.size=1 then vs.toArray[0] else .tuple vs.toArray),?_,_,_,rfl,R'.laid,R'.below,R'.base,rfl,R'.inj,R'.blk,R'.fro,fun t=>?_,R'.mp⟩
   ·rw [results_eq,Array.mapM_eq_mapM_toList]
    simp only [Sem.run_bind,Sem.run_map]
    rw [e1]
    simp only [Result.andThen_ok]
    rfl
   cases t with
   | zero=>exact hv2
   | succ t=>exact .dead _
  exact he.elim
 cases e with
 | normal=>exact fini h1
 | ret=>exact fini h1
 | _=>exact h1.elim
theorem AVal.sig {rd rd' : PV→Value→Prop} {m m2:Map} {H H2:Heap} {σ:List Nat} (h1:∀ p v,rd p v→rd' p v) (hs:∀ k,k < σ.length→σ.getD k 0 < H2.length∧m2 (σ.getD k 0)=m k) {x:AV} {v:Value} (h:AVal rd m H x v)
  (hx:scA σ.length x=true):AVal rd' m2 H2 (Go.Pv.ren σ x) v:=by
 have one:∀ {x:AV} {v:Value},AVal rd m H x v→sc1 σ.length x=true→AVal rd' m2 H2 (ren1 σ x) v:=by
  intro x v h hsc
  cases h with
  | dead v=>exact .dead v
  | p pv v h=>exact .p pv v (h1 _ _ h)
  | sl k lo len v hk h =>
   obtain ⟨g1,g2⟩:=hs k (by simpa [sc1] using hsc)
   refine .sl _ lo len v g1 ?_
   unfold SlOk at *
   rw [g2]; exact h
  | ptr k i v hk h =>
   obtain ⟨g1,g2⟩:=hs k (by simpa [sc1] using hsc)
   refine .ptr _ i v g1 ?_
   unfold PtrOk at *
   rw [g2]; exact h
  | agg l vs hl hr=>simp [sc1] at hsc
  | tup l vs hl hr=>simp [sc1] at hsc
  | cl f l vs hl hr=>simp [sc1] at hsc
  | itv r=>exact .itv r
  | sls k lo len sz v hk h =>
   obtain ⟨g1,g2⟩:=hs k (by simpa [sc1] using hsc)
   refine .sls _ lo len sz v g1 ?_
   unfold SlsOk at *
   rw [g2]; exact h
  | mptr k v hk h =>
   obtain ⟨g1,g2⟩:=hs k (by simpa [sc1] using hsc)
   refine .mptr _ v g1 ?_
   unfold MptrOk at *
   rw [g2]; exact h
  | yv k l vs v hk h hl hr=>simp [sc1] at hsc
 cases x with
 | agg l =>
  cases h with
  | agg _ vs hl hr =>
   refine .agg _ vs (by simpa using hl) fun c hc=>?_
   rw [List.length_map] at hc
   rw [List.getElem_map]
   exact one (hr c hc) ((List.all_eq_true.1 hx) _ (List.getElem_mem hc))
 | tup l =>
  cases h with
  | tup _ vs hl hr =>
   refine .tup _ vs (by simpa using hl) fun c hc=>?_
   rw [List.length_map] at hc
   rw [List.getElem_map]
   exact one (hr c hc) ((List.all_eq_true.1 hx) _ (List.getElem_mem hc))
 | cl f l =>
  cases h with
  | cl _ _ vs hl hr =>
   refine .cl _ _ vs (by simpa using hl) fun c hc=>?_
   rw [List.length_map] at hc
   rw [List.getElem_map]
   exact one (hr c hc) ((List.all_eq_true.1 hx) _ (List.getElem_mem hc))
 | yv k l vs =>
  simp only [scA,Bool.and_eq_true,decide_eq_true_eq] at hx
  cases h with
  | yv _ _ _ _ hk h hl hr =>
   obtain ⟨g1,g2⟩:=hs k hx.1
   refine .yv _ _ vs v g1 ?_ (by simpa using hl) fun c hc=>?_
   ·unfold YvOk at *
    rw [g2]; exact h
   rw [List.length_map] at hc
   rw [List.getElem_map]
   exact one (hr c hc) ((List.all_eq_true.1 hx.2) _ (List.getElem_mem hc))
 | dead=>exact one h hx
 | p pv=>exact one h hx
 | sl k lo len=>exact one h hx
 | ptr k i=>exact one h hx
 | mptr k=>exact one h hx
 | itv r=>exact one h hx
 | sls k lo len sz=>exact one h hx
def putM:Heap→List Nat→Heap→Heap
 | H,[],bs=>H++bs
 | H,_ :: _,[]=>H
 | H,k :: ks,b :: bs=>putM (hset H k b) ks bs
theorem putM_get:∀ (ks:List Nat) (bs H:Heap) (k:Nat) (b:Blk),(∀ k∈ks,k < H.length)→ks.length≤bs.length→(putM H ks bs)[k]? = some b →
  (∃ j:Nat,bs[j]? = some b∧(ks++List.range' H.length (bs.length - ks.length))[j]? = some k)∨(k < H.length∧k ∉ ks∧H[k]? = some b)
 | [],bs,H,k,b,_,_,h=>by
  simp only [putM] at h
  by_cases hk:k < H.length
  ·exact .inr ⟨hk,by simp,by rwa [List.getElem?_append_left hk] at h⟩
  rw [List.getElem?_append_right (by omega)] at h
  refine .inl ⟨k - H.length,h,?_⟩
  have:=(List.getElem?_eq_some_iff.1 h).1
  simp only [List.nil_append,List.length_nil,Nat.sub_zero]
  rw [List.getElem?_range' this]
  simp; omega
 | k0 :: ks,[],H,k,b,_,hl,_=>by simp at hl
 | k0 :: ks,b0 :: bs,H,k,b,hk,hl,h=>by
  simp only [putM] at h
  have h0:=hk k0 (by simp)
  rcases putM_get ks bs (hset H k0 b0) k b (fun k hk'=>by rw [hset_length]; exact hk k (by simp [hk'])) (by simpa using hl) h with ⟨j,h1,h2⟩ | ⟨h1,h2,h3⟩
  ·rw [hset_length] at h2
   exact .inl ⟨j + 1,by simpa using h1,by simpa using h2⟩
  rw [hset_get] at h3
  rw [hset_length] at h1
  by_cases e:k=k0
  ·subst e
   rw [if_pos ⟨rfl,h0⟩] at h3
   exact .inl ⟨0,by simpa using h3,by simp⟩
  rw [if_neg (by simp [e])] at h3
  exact .inr ⟨h1,by simp [e,h2],h3⟩
theorem putM_length:∀ (ks:List Nat) (bs H:Heap),ks.length≤bs.length→(putM H ks bs).length=H.length + (bs.length - ks.length)
 | [],bs,H,_=>by simp [putM]
 | k0 :: ks,[],H,hl=>by simp at hl
 | k0 :: ks,b0 :: bs,H,hl=>by
  simp only [putM]
  rw [putM_length ks bs _ (by simpa using hl),hset_length]; simp
def mpKeep:Heap→Heap→Bool
 | .mp _ _ _ :: r,.mp _ _ _ :: t=>mpKeep r t
 | .mp _ _ _ :: _,_=>false
 | .lp _ :: r,.lp _ :: t=>mpKeep r t
 | .lp _ :: _,_=>false
 | _ :: r,_ :: t=>mpKeep r t
 | [],_=>true
 | _ :: _,[]=>false
theorem mpKeep_get:∀ {H0 H1:Heap},mpKeep H0 H1=true→∀ (j:Nat) (kk:IntKind) (d:Int→Bool) (v:Int→PV),H0[j]? = some (.mp kk d v)→∃ kk' d' v',H1[j]? = some (.mp kk' d' v')
 | [],_,_,j,_,_,_,h=>by simp at h
 | b :: r,[],hm,_,_,_,_,_=>by cases b<;>simp [mpKeep] at hm
 | b :: r,b' :: t,hm,0,kk,d,v,h=>by
  simp at h; subst h
  cases b'<;>simp [mpKeep] at hm
  exact ⟨_,_,_,rfl⟩
 | b :: r,b' :: t,hm,j + 1,kk,d,v,h=>by
  have hm2:mpKeep r t=true:=by cases b<;>cases b'<;>simp [mpKeep] at hm<;>exact hm
  simpa using mpKeep_get hm2 j kk d v (by simpa using h)
theorem mpKeep_lp:∀ {H0 H1:Heap},mpKeep H0 H1=true→∀ (j:Nat) (r0:Loop),H0[j]? = some (.lp r0)→∃ r1,H1[j]? = some (.lp r1)
 | [],_,_,j,_,h=>by simp at h
 | b :: r,[],hm,_,_,_=>by cases b<;>simp [mpKeep] at hm
 | b :: r,b' :: t,hm,0,r0,h=>by
  simp at h; subst h
  cases b'<;>simp [mpKeep] at hm
  exact ⟨_,rfl⟩
 | b :: r,b' :: t,hm,j + 1,r0,h=>by
  have hm2:mpKeep r t=true:=by cases b<;>cases b'<;>simp [mpKeep] at hm<;>exact hm
  simpa using mpKeep_lp hm2 j r0 (by simpa using h)
def scM (av:AV) (H0 H1:Heap):Bool:=
 scA H1.length av && H1.all (fun | .own c=>c.all (scA H1.length) | .anc _ _=>false | _=>true) && decide (H0.length≤H1.length) && mpKeep H0 H1 && H0.all notAnc
def subC (C:Ctx) (m:Map) (H:Heap) (ks:List Nat) (H0:Heap) (w:World):Ctx:=
 ⟨fun b=>OK C m H w b,fun b=>w.heap.size≤b∨∃ (j:Nat) (b0:Blk) (l:Loc),H0[j]? = some b0∧b0.wr=true∧mren m ks j=some l∧l.g=b,w,mren m ks⟩
theorem Rel.wrLt (R:Rel C m s tmps w) {k:Nat} {b:Blk} (hb:s.H[k]? = some b) (hw:b.wr=true) {l:Loc} (hl:m k=some l):C.B l.g∧l.g < w.heap.size:=by
 cases b with
 | own c =>
  rcases R.blk k c hb with ⟨_,hn⟩ | ⟨l',cur,e,a1,a2,a3,_⟩
  ·rw [hl] at hn; cases hn
  rw [hl] at a1; cases a1
  exact ⟨a2,(Array.getElem?_eq_some_iff.1 a3).1⟩
 | mp kk d v =>
  obtain ⟨l',ar,clk,vs,a1,a2,a3,_⟩:=R.mp.1 k kk d v hb
  rw [hl] at a1; cases a1
  exact ⟨a2,(Array.getElem?_eq_some_iff.1 a3).1⟩
 | lp r =>
  obtain ⟨l',a1,a2,a3⟩:=R.mp.2.2.2.1 k r hb
  rw [hl] at a1; cases a1
  exact ⟨a2,(Array.getElem?_eq_some_iff.1 a3).1⟩
 | _=>cases hw
theorem Rel.inj2 (R:Rel C m s tmps w) {k k' : Nat} {b b' : Blk} (hb:s.H[k]? = some b) (hw:b.wr=true) (hb' : s.H[k']? = some b') (hw' : b'.wr=true) {l l' : Loc} (hl:m k=some l) (hl' : m k' = some l') (e:l.g=l'.g):k=k':=by
 cases b with
 | own c =>
  cases b' with
  | own c'=>exact R.inj k k' c c' l l' hb hb' hl hl' e
  | mp kk d v=>exact absurd e ((R.mpOK hb' hl').2.2 k c l hb hl)
  | lp r=>exact absurd e ((R.lpOK hb' hl').2.2 k c l hb hl)
  | _=>cases hw'
 | mp kk d v =>
  cases b' with
  | own c'=>exact absurd e.symm ((R.mpOK hb hl).2.2 k' c' l' hb' hl')
  | mp kk' d' v'=>exact R.mp.2.1 _ _ _ _ _ _ _ _ _ _ hb hb' hl hl' e
  | lp r =>
   exfalso
   obtain ⟨l1,ar,clk,vs,a1,a2,a3,_⟩:=R.mp.1 k kk d v hb
   obtain ⟨l2,b1,b2,b3⟩:=R.mp.2.2.2.1 k' r hb'
   rw [hl] at a1; cases a1
   rw [hl'] at b1; cases b1
   rw [e,b3] at a3; cases a3
  | _=>cases hw'
 | lp r =>
  cases b' with
  | own c'=>exact absurd e.symm ((R.lpOK hb hl).2.2 k' c' l' hb' hl')
  | mp kk d v =>
   exfalso
   obtain ⟨l1,ar,clk,vs,a1,a2,a3,_⟩:=R.mp.1 k' kk d v hb'
   obtain ⟨l2,b1,b2,b3⟩:=R.mp.2.2.2.1 k r hb
   rw [hl'] at a1; cases a1
   rw [hl] at b1; cases b1
   rw [e,a3] at b3; cases b3
  | lp r'=>exact R.mp.2.2.2.2 _ _ _ _ _ _ hb hb' hl hl' e
  | _=>cases hw'
 | _=>cases hw
theorem LeH.wr {π:List Nat} {H H1:Heap} (h3:LeH π H π H1) {j:Nat} {b0:Blk} (h:H1[j]? = some b0) (hw:b0.wr=true):∃ k' b,π[j]? = some k'∧H[k']? = some b∧b.wr=true∧((∃ c,b0 = .own c)→∃ c,b = .own c)∧((∃ kk d v,b0 = .mp kk d v)→∃ kk d v,b = .mp kk d v):=by
 obtain ⟨g1,g2⟩:=h3.get
 cases b0 with
 | own c =>
  obtain ⟨k',d,a1,a2,_⟩:=LeH.own g2 j c h
  exact ⟨k',_,a1,a2,rfl,(fun _=>⟨_,rfl⟩),fun ⟨_,_,_,h⟩=>by cases h⟩
 | mp kk d v =>
  obtain ⟨k',a,b⟩:=g2 j _ h
  exact ⟨k',_,a,hget_some b (by simp),rfl,(fun ⟨_,h⟩=>by cases h),fun _=>⟨_,_,_,rfl⟩⟩
 | lp r =>
  obtain ⟨k',a,b⟩:=g2 j _ h
  exact ⟨k',_,a,hget_some b (by simp),rfl,(fun ⟨_,h⟩=>by cases h),fun ⟨_,_,_,h⟩=>by cases h⟩
 | _=>cases hw
def kills (H:Heap):List Nat→Heap
 | []=>H
 | k :: ks=>kills (hset H k .dead) ks
theorem kills_length:∀ (ks:List Nat) (H:Heap),(kills H ks).length=H.length
 | [],H=>rfl
 | k :: ks,H=>by rw [kills,kills_length ks,hset_length]
theorem kills_get:∀ (ks:List Nat) (H:Heap) {k:Nat} {b:Blk},(kills H ks)[k]? = some b→(k∈ks∧b = .dead)∨(k ∉ ks∧H[k]? = some b)
 | [],H,k,b,h=>.inr ⟨by simp,h⟩
 | k0 :: ks,H,k,b,h=>by
  rcases kills_get ks _ h with ⟨h1,h2⟩ | ⟨h1,h2⟩
  ·exact .inl ⟨by simp [h1],h2⟩
  rw [hset_get] at h2
  by_cases e:k=k0∧k0 < H.length
  ·rw [if_pos e] at h2; exact .inl ⟨by simp [e.1],(Option.some.inj h2).symm⟩
  rw [if_neg e] at h2
  by_cases e2:k=k0
  ·have:=(List.getElem?_eq_some_iff.1 h2).1
   exact absurd ⟨e2,by omega⟩ e
  exact .inr ⟨by simp [e2,h1],h2⟩
def scQ (q:Nat) (av:AV) (H0 H1:Heap):Bool:=
 scA H1.length av && H1.all (fun | .own c=>c.all (scA H1.length) | .anc _ _=>false | _=>true) && decide (q≤H1.length) && decide (q≤H0.length) && mpKeep (H0.take q) H1 && (H0.drop q).all (fun b=>!b.spc) && H0.all notAnc
theorem Rel.joinQ (R:Rel C m s tmps w) {q:Nat} {ks:List Nat} {H0 H1:Heap} {r:AV} {w' : World} {v:Value} {m' : Map} (hle:LeH ks s.H ks H0) (hks:∀ k∈ks,k < s.H.length) (R1:Rel (subC C m s.H ks H0 w) m' ⟨1,[(0,r)],H1++ancs 0 q⟩ #[v] w') (hsc:scQ q r H0 H1=true) :
  ∃ m2,Rel C m2 { s with H:=putM (kills s.H (ks.drop q)) (ks.take q) (H1.map (Blk.ren (ks.take q++List.range' s.H.length (H1.length - q)))) } tmps w' ∧
   AVal (Reads (OK C m2 (putM (kills s.H (ks.drop q)) (ks.take q) (H1.map (Blk.ren (ks.take q++List.range' s.H.length (H1.length - q))))) w') w') m2 (putM (kills s.H (ks.drop q)) (ks.take q) (H1.map (Blk.ren (ks.take q++List.range' s.H.length (H1.length - q))))) (Go.Pv.ren (ks.take q++List.range' s.H.length (H1.length - q)) r) v∧∀ k,k < s.H.length→m2 k=m k:=by
 obtain ⟨g1,g2⟩:=hle.get
 unfold scQ at hsc
 rw [Bool.and_eq_true,Bool.and_eq_true,Bool.and_eq_true,Bool.and_eq_true,Bool.and_eq_true,Bool.and_eq_true,decide_eq_true_eq,decide_eq_true_eq] at hsc
 obtain ⟨⟨⟨⟨⟨⟨s1,s2⟩,s3⟩,s6⟩,s4⟩,s7⟩,s5⟩:=hsc
 have hn:q≤H1.length:=s3
 have hqk:q≤ks.length:=by omega
 have hkt:∀ k∈ks.take q,k∈ks:=fun k h=>List.mem_of_mem_take h
 have htl:(ks.take q).length=q:=by rw [List.length_take]; omega
 generalize hσe:ks.take q++List.range' s.H.length (H1.length - q)=σ
 have hσlen:σ.length=H1.length:=by rw [← hσe,List.length_append,htl,List.length_range']; omega
 generalize hH2:putM (kills s.H (ks.drop q)) (ks.take q) (H1.map (Blk.ren σ))=H2
 have hlen2:H2.length=s.H.length + (H1.length - q):=by rw [← hH2,putM_length _ _ _ (by rw [htl,List.length_map]; exact hn),kills_length,htl]; simp
 have hm1:∀ j,j < q→m' j=mren m ks j:=fun j hj=>by
  have h:(H1++ancs 0 q)[H1.length + j]? = some (.anc j j):=by
   rw [List.getElem?_append_right (by omega),Nat.add_sub_cancel_left,ancs_at _ _ _ hj,Nat.zero_add]
  exact (R1.mp.2.2.1 _ _ _ h).2
 obtain ⟨m2,hm2⟩:∃ m2:Map,m2=fun k=>if k < s.H.length then m k else m' (q + (k - s.H.length)):=⟨_,rfl⟩
 have hmo:∀ k,k < s.H.length→m2 k=m k:=fun k h=>by rw [hm2]; simp [h]
 have hσ:∀ (j k:Nat),σ[j]? = some k→k < H2.length∧m2 k=m' j:=by
  intro j k h
  rw [← hσe] at h
  by_cases hj:j < q
  ·rw [List.getElem?_append_left (by omega)] at h
   rw [List.getElem?_take,if_pos hj] at h
   have hk:=hks k (List.mem_of_getElem? h)
   refine ⟨by omega,?_⟩
   rw [hmo k hk,hm1 j (by omega)]
   simp only [mren,h,Option.bind_some]
  rw [List.getElem?_append_right (by omega),htl] at h
  have hj2:j - q < H1.length - q:=by
   have:=(List.getElem?_eq_some_iff.1 h).1
   simpa using this
  rw [List.getElem?_range' hj2] at h
  simp only [Option.some.injEq,Nat.one_mul] at h
  subst h
  refine ⟨by omega,?_⟩
  rw [hm2]
  simp only
  rw [if_neg (by omega)]
  congr 1
  omega
 have hσ2:∀ k,k < σ.length→σ.getD k 0 < H2.length∧m2 (σ.getD k 0)=m' k:=fun k hk=>by
  have:σ[k]? = some (σ.getD k 0):=by simp [List.getD,List.getElem?_eq_getElem hk]
  exact hσ k _ this
 have hget:∀ (k:Nat) (b:Blk),H2[k]? = some b→(∃ (j:Nat) (b' : Blk),H1[j]? = some b'∧b=b'.ren σ∧σ[j]? = some k)∨(k < s.H.length∧k ∉ ks∧s.H[k]? = some b)∨b = .dead:=by
  intro k b h
  rw [← hH2] at h
  rcases putM_get (ks.take q) _ (kills s.H (ks.drop q)) k b (fun k hk=>by rw [kills_length]; exact hks k (hkt k hk)) (by rw [htl,List.length_map]; exact hn) h with ⟨j,h1,h2⟩ | ⟨h1,h2,h3⟩
  ·rw [List.length_map,htl,kills_length,hσe] at h2
   rw [List.getElem?_map] at h1
   cases e:H1[j]? with
   | none=>rw [e] at h1; cases h1
   | some b'=>rw [e] at h1; exact .inl ⟨j,b',e,(Option.some.inj h1).symm,h2⟩
  rcases kills_get _ _ h3 with ⟨_,e⟩ | ⟨g3,g4⟩
  ·exact .inr (.inr e)
  refine .inr (.inl ⟨by rw [kills_length] at h1; exact h1,fun hk=>?_,g4⟩)
  rw [← List.take_append_drop q ks] at hk
  rcases List.mem_append.1 hk with hk | hk
  ·exact h2 hk
  exact g3 hk
 have hHc:∀ (j:Nat) (b:Blk),H1[j]? = some b→(H1++ancs 0 q)[j]? = some b:=fun j b h=>by
  rw [List.getElem?_append_left (List.getElem?_eq_some_iff.1 h).1]; exact h
 have hown:∀ (k:Nat) (c:List AV),H2[k]? = some (.own c)→(∃ (j:Nat) (c' : List AV),H1[j]? = some (.own c')∧c=c'.map (Go.Pv.ren σ)∧σ[j]? = some k)∨(k < s.H.length∧k ∉ ks∧s.H[k]? = some (.own c)):=by
  intro k c h
  rcases hget k _ h with ⟨j,b',h1,h2,h3⟩ | h | h
  ·cases b' with
   | own c'=>simp only [Blk.ren,Blk.own.injEq] at h2; exact .inl ⟨j,c',h1,h2,h3⟩
   | _=>cases h2
  ·exact .inr h
  cases h
 have hmps:∀ (k:Nat) (kk:IntKind) (d:Int→Bool) (vv:Int→PV),H2[k]? = some (.mp kk d vv)→(∃ j:Nat,H1[j]? = some (.mp kk d vv)∧σ[j]? = some k)∨(k < s.H.length∧k ∉ ks∧s.H[k]? = some (.mp kk d vv)):=by
  intro k kk d vv h
  rcases hget k _ h with ⟨j,b',h1,h2,h3⟩ | h | h
  ·cases b' with
   | mp kk' d' v'=>simp only [Blk.ren,Blk.mp.injEq] at h2; obtain ⟨rfl,rfl,rfl⟩:=h2; exact .inl ⟨j,h1,h3⟩
   | _=>cases h2
  ·exact .inr h
  cases h
 have hfro:∀ (k:Nat) (c:List PV),H2[k]? = some (.fro c)→(∃ j:Nat,H1[j]? = some (.fro c)∧σ[j]? = some k)∨(k < s.H.length∧k ∉ ks∧s.H[k]? = some (.fro c)):=by
  intro k c h
  rcases hget k _ h with ⟨j,b',h1,h2,h3⟩ | h | h
  ·cases b' with
   | fro c'=>simp only [Blk.ren,Blk.fro.injEq] at h2; subst h2; exact .inl ⟨j,h1,h3⟩
   | _=>cases h2
  ·exact .inr h
  cases h
 have lent:∀ (j:Nat) (b0:Blk) (l:Loc),H0[j]? = some b0→b0.wr=true→mren m ks j=some l→∃ k' b,k'∈ks∧s.H[k']? = some b∧b.wr=true∧m k' = some l∧((∃ c,b0 = .own c)→∃ c,b = .own c)∧((∃ kk d v,b0 = .mp kk d v)→∃ kk d v,b = .mp kk d v):=by
  intro j b0 l h hw hl
  obtain ⟨k',b,a1,a2,a3,a4,a5⟩:=hle.wr h hw
  simp only [mren,a1,Option.bind_some] at hl
  exact ⟨k',b,List.mem_of_getElem? a1,a2,a3,hl,a4,a5⟩
 have hB1:∀ b,(subC C m s.H ks H0 w).B b→C.B b:=by
  intro b hb
  rcases hb with hb | ⟨j,b0,l,h1,h2,h3,rfl⟩
  ·exact R.base b hb
  obtain ⟨k',b,_,a2,a3,a4,_⟩:=lent j b0 l h1 h2 h3
  exact (R.wrLt a2 a3 a4).1
 have hBx:∀ (k:Nat) (b:Blk) (l:Loc),k ∉ ks→s.H[k]? = some b→b.wr=true→m k=some l→¬ (subC C m s.H ks H0 w).B l.g:=by
  intro k b l hk hb hw hl hB
  rcases hB with hB | ⟨j,b0,l0,h1,h2,h3,h4⟩
  ·have:=(R.wrLt hb hw hl).2
   omega
  obtain ⟨k',b',a1,a2,a3,a4,_⟩:=lent j b0 l0 h1 h2 h3
  have:=R.inj2 hb hw a2 a3 hl a4 h4.symm
  subst this
  exact hk a1
 have hcell:∀ b o x,OK C m s.H w b→w.cell? ⟨b,o,none⟩=some x→w'.cell? ⟨b,o,none⟩=some x:=by
  intro b o x hb hc
  by_cases hB:(subC C m s.H ks H0 w).B b
  ·exfalso
   rcases hB with hB | ⟨j,b0,l0,h1,h2,h3,h4⟩
   ·have:=hb.2.1; omega
   obtain ⟨k',b',a1,a2,a3,a4,_⟩:=lent j b0 l0 h1 h2 h3
   cases b' with
   | own c=>exact hb.2.2 k' c l0 a2 a4 h4
   | mp kk d vv =>
    obtain ⟨l',ar,clk,vs,c1,c2,c3,_⟩:=R.mp.1 k' kk d vv a2
    rw [a4] at c1; cases c1
    rw [h4] at c3
    unfold World.cell? at hc
    simp only [c3] at hc
    first|cases hc|simp at hc
   | lp rr =>
    obtain ⟨l',c1,c2,c3⟩:=R.mp.2.2.2.1 k' rr a2
    rw [a4] at c1; cases c1
    rw [h4] at c3
    unfold World.cell? at hc
    simp only [c3] at hc
    first|cases hc|simp at hc
   | _=>cases a3
  rw [World.cell?_of_block (w:=w) (R1.below.block b hB)]; exact hc
 have hOK:∀ b,OK (subC C m s.H ks H0 w) m' (H1++ancs 0 q) w' b→OK C m2 H2 w' b:=by
  intro b hb
  refine ⟨?_,hb.2.1,fun k c l h hl=>?_⟩
  ·rcases hb.1 with h | h
   ·exact h.1
   exact .inr (hB1 b h)
  rcases hown k c h with ⟨j,c',h1,_,h3⟩ | ⟨h1,h2,h3⟩
  ·rw [(hσ j k h3).2] at hl
   exact hb.2.2 j c' l (hHc _ _ h1) hl
  rw [hmo k h1] at hl
  rcases hb.1 with h' | h'
  ·exact h'.2.2 k c l h3 hl
  intro e
  exact hBx k _ l h2 h3 rfl hl (by rw [e]; exact h')
 have hsp:∀ (j:Nat) (b:Blk),H0[j]? = some b→b.spc=true→j < q:=fun j b h hb=>by
  refine Nat.lt_of_not_le fun hq=>?_
  have h2:(H0.drop q)[j - q]? = some b:=by rw [List.getElem?_drop,show q + (j - q)=j by omega]; exact h
  have:=(List.all_eq_true.1 s7) _ (List.mem_of_getElem? h2)
  rw [hb] at this; cases this
 have ho1:∀ b,OK C m s.H w b→OK C m2 H2 w' b:=by
  intro b hb
  refine ⟨hb.1,Nat.lt_of_lt_of_le hb.2.1 R1.below.size,fun k c l h hl e=>?_⟩
  rcases hown k c h with ⟨j,c',h1,_,h3⟩ | ⟨h1,h2,h3⟩
  ·rw [(hσ j k h3).2] at hl
   rcases (R1.wrLt (hHc _ _ h1) rfl hl).1 with hB | ⟨j0,b0,l0,a1,a2,a3,a4⟩
   ·have:=hb.2.1; omega
   obtain ⟨k',b',d1,d2,d3,d4,d5,d6⟩:=lent j0 b0 l0 a1 a2 a3
   cases b0 with
   | own c0 =>
    obtain ⟨c1,rfl⟩:=d5 ⟨_,rfl⟩
    exact hb.2.2 k' c1 l0 d2 d4 (by rw [a4,e])
   | mp kk d vv =>
    have hj0:=hsp j0 _ a1 rfl
    obtain ⟨kk',d',v',f1⟩:=mpKeep_get s4 j0 kk d vv (by rw [List.getElem?_take,if_pos hj0]; exact a1)
    have f2:m' j0=some l0:=by rw [hm1 j0 hj0]; exact a3
    exact (R1.mpOK (hHc _ _ f1) f2).2.2 j c' l (hHc _ _ h1) hl a4.symm
   | lp rr =>
    have hj0:=hsp j0 _ a1 rfl
    obtain ⟨r1,f1⟩:=mpKeep_lp s4 j0 rr (by rw [List.getElem?_take,if_pos hj0]; exact a1)
    have f2:m' j0=some l0:=by rw [hm1 j0 hj0]; exact a3
    exact (R1.lpOK (hHc _ _ f1) f2).2.2 j c' l (hHc _ _ h1) hl a4.symm
   | _=>cases a2
  rw [hmo k h1] at hl
  exact hb.2.2 k c l h3 hl e
 have rd1:∀ p x,Reads (OK C m s.H w) w p x→Reads (OK C m2 H2 w') w' p x:=fun p x h=>h.extc ho1 hcell
 have rd2:∀ p x,Reads (OK (subC C m s.H ks H0 w) m' (H1++ancs 0 q) w') w' p x→Reads (OK C m2 H2 w') w' p x:=fun p x h=>h.mono hOK
 have hlen3:s.H.length≤H2.length:=by omega
 have sall:∀ (j:Nat) (b:Blk),H1[j]? = some b→(match b with | .own c=>c.all (scA H1.length) | .anc _ _=>false | _=>true)=true:=fun j b h=>by
  have:=(List.all_eq_true.1 s2) _ (List.mem_of_getElem? h)
  cases b<;>exact this
 refine ⟨m2,⟨R.laid.ext rd1,R.below.trans ⟨R1.below.os,R1.below.tape,R1.below.output,R1.below.size,fun k hk=>R1.below.block k fun h=>hk (hB1 k h),R1.below.dr⟩,fun b h=>R.base b (Nat.le_trans R1.below.size h),R.size,?_,?_,?_,fun t=>?_,?_,?_,?_,?_⟩,?_,hmo⟩
 ·intro k k' c c' l l' h1 h2 h3 h4 h5
  rcases hown k c h1 with ⟨j,d,a1,_,a3⟩ | ⟨a1,a2,a3⟩<;>rcases hown k' c' h2 with ⟨j',d',b1,_,b3⟩ | ⟨b1,b2,b3⟩
  ·rw [(hσ _ _ a3).2] at h3; rw [(hσ _ _ b3).2] at h4
   have:=R1.inj j j' d d' l l' (hHc _ _ a1) (hHc _ _ b1) h3 h4 h5
   subst this
   rw [a3] at b3
   exact Option.some.inj b3
  ·rw [(hσ _ _ a3).2] at h3; rw [hmo _ b1] at h4
   exact absurd (by rw [← h5]; exact (R1.wrLt (hHc _ _ a1) rfl h3).1) (hBx k' _ l' b2 b3 rfl h4)
  ·rw [hmo _ a1] at h3; rw [(hσ _ _ b3).2] at h4
   exact absurd (by rw [h5]; exact (R1.wrLt (hHc _ _ b1) rfl h4).1) (hBx k _ l a2 a3 rfl h3)
  rw [hmo _ a1] at h3; rw [hmo _ b1] at h4
  exact R.inj k k' c c' l l' a3 b3 h3 h4 h5
 ·intro k c h
  rcases hown k c h with ⟨j,c',a1,rfl,a3⟩ | ⟨a1,a2,a3⟩
  ·rcases R1.blk j c' (hHc _ _ a1) with ⟨e,hn⟩ | ⟨l,cur,e,b1,b2,b3,b4,b5,b6,b7⟩
   ·exact .inl ⟨by rw [e]; rfl,by rw [(hσ _ _ a3).2]; exact hn⟩
   refine .inr ⟨l,cur,e,by rw [(hσ _ _ a3).2]; exact b1,hB1 _ b2,b3,b4,b5,by simpa using b6,fun i hi=>?_⟩
   rw [List.length_map] at hi
   rw [List.getElem_map]
   have hs:scA σ.length c'[i]=true:=by
    rw [hσlen]
    exact (List.all_eq_true.1 (sall j _ a1)) _ (List.getElem_mem hi)
   exact (b7 i hi).sig rd2 hσ2 hs
  refine (R.blk k c a3).ext rd1 hlen3 hmo (hmo k a1) fun l hl=>R1.below.block _ (hBx k _ l a2 a3 rfl hl)
 ·intro k c h
  rcases hfro k c h with ⟨j,a1,a3⟩ | ⟨a1,a2,a3⟩
  ·rcases R1.fro j c (hHc _ _ a1) with ⟨e1,e2⟩ | ⟨l,vs,e1,e2,e3,e4⟩
   ·exact .inl ⟨e1,by rw [(hσ _ _ a3).2]; exact e2⟩
   exact .inr ⟨l,vs,by rw [(hσ _ _ a3).2]; exact e1,hOK _ e2,e3,fun i hi=>⟨(e4 i hi).1,rd2 _ _ (e4 i hi).2⟩⟩
  rcases R.fro k c a3 with ⟨e1,e2⟩ | ⟨l,vs,e1,e2,e3,e4⟩
  ·exact .inl ⟨e1,by rw [hmo k a1]; exact e2⟩
  exact .inr ⟨l,vs,by rw [hmo k a1]; exact e1,ho1 _ e2,e3,fun i hi=>⟨hcell _ _ _ e2 (e4 i hi).1,rd1 _ _ (e4 i hi).2⟩⟩
 ·exact (R.slot t).ext rd1 hlen3 hmo
 ·intro k kk d vv h
  rcases hmps k kk d vv h with ⟨j,a1,a3⟩ | ⟨a1,a2,a3⟩
  ·obtain ⟨l,ar,clk,vs,b1,b2,b3,b4,b5,b6,b7⟩:=R1.mp.1 j kk d vv (hHc _ _ a1)
   exact ⟨l,ar,clk,vs,by rw [(hσ _ _ a3).2]; exact b1,hB1 _ b2,b3,b4,b5,b6,fun z hz=>rd2 _ _ (b7 z hz)⟩
  obtain ⟨l,ar,clk,vs,b1,b2,b3,b4,b5,b6,b7⟩:=R.mp.1 k kk d vv a3
  exact ⟨l,ar,clk,vs,by rw [hmo k a1]; exact b1,b2,by rw [R1.below.block _ (hBx k _ l a2 a3 rfl b1)]; exact b3,b4,b5,b6,fun z hz=>rd1 _ _ (b7 z hz)⟩
 ·intro k k' kk d vv kk' d' v' l l' h1 h2 h3 h4 h5
  rcases hmps k kk d vv h1 with ⟨j,a1,a3⟩ | ⟨a1,a2,a3⟩<;>rcases hmps k' kk' d' v' h2 with ⟨j',b1,b3⟩ | ⟨b1,b2,b3⟩
  ·rw [(hσ _ _ a3).2] at h3; rw [(hσ _ _ b3).2] at h4
   have:=R1.mp.2.1 _ _ _ _ _ _ _ _ _ _ (hHc _ _ a1) (hHc _ _ b1) h3 h4 h5
   subst this
   rw [a3] at b3
   exact Option.some.inj b3
  ·rw [(hσ _ _ a3).2] at h3; rw [hmo _ b1] at h4
   exact absurd (by rw [← h5]; exact (R1.wrLt (hHc _ _ a1) rfl h3).1) (hBx k' _ l' b2 b3 rfl h4)
  ·rw [hmo _ a1] at h3; rw [(hσ _ _ b3).2] at h4
   exact absurd (by rw [h5]; exact (R1.wrLt (hHc _ _ b1) rfl h4).1) (hBx k _ l a2 a3 rfl h3)
  rw [hmo _ a1] at h3; rw [hmo _ b1] at h4
  exact R.mp.2.1 _ _ _ _ _ _ _ _ _ _ a3 b3 h3 h4 h5
 ·intro k i j h
  rcases hget k _ h with ⟨j',b',h1,h2,_⟩ | ⟨a1,a2,a3⟩ | h
  ·have:=sall j' b' h1
   cases b' with
   | anc _ _=>cases this
   | _=>cases h2
  ·obtain ⟨c1,c2⟩:=R.mp.2.2.1 k i j a3
   exact ⟨by simp only; omega,by rw [hmo j c1]; exact c2⟩
  cases h
 ·have hlps:∀ (k:Nat) (r:Loop),H2[k]? = some (.lp r)→(∃ j:Nat,H1[j]? = some (.lp r)∧σ[j]? = some k)∨(k < s.H.length∧k ∉ ks∧s.H[k]? = some (.lp r)):=by
   intro k r h
   rcases hget k _ h with ⟨j,b',h1,h2,h3⟩ | h | h
   ·cases b' with
    | lp r'=>simp only [Blk.ren,Blk.lp.injEq] at h2; obtain rfl:=h2; exact .inl ⟨j,h1,h3⟩
    | _=>cases h2
   ·exact .inr h
   cases h
  constructor
  ·intro k r h
   rcases hlps k r h with ⟨j,a1,a3⟩ | ⟨a1,a2,a3⟩
   ·obtain ⟨l,b1,b2,b3⟩:=R1.mp.2.2.2.1 j r (hHc _ _ a1)
    exact ⟨l,by rw [(hσ _ _ a3).2]; exact b1,hB1 _ b2,b3⟩
   obtain ⟨l,b1,b2,b3⟩:=R.mp.2.2.2.1 k r a3
   exact ⟨l,by rw [hmo k a1]; exact b1,b2,by rw [R1.below.block _ (hBx k _ l a2 a3 rfl b1)]; exact b3⟩
  intro k k' r r' l l' h1 h2 h3 h4 h5
  rcases hlps k r h1 with ⟨j,a1,a3⟩ | ⟨a1,a2,a3⟩<;>rcases hlps k' r' h2 with ⟨j',b1,b3⟩ | ⟨b1,b2,b3⟩
  ·rw [(hσ _ _ a3).2] at h3; rw [(hσ _ _ b3).2] at h4
   have:=R1.mp.2.2.2.2 _ _ _ _ _ _ (hHc _ _ a1) (hHc _ _ b1) h3 h4 h5
   subst this
   rw [a3] at b3
   exact Option.some.inj b3
  ·rw [(hσ _ _ a3).2] at h3; rw [hmo _ b1] at h4
   exact absurd (by rw [← h5]; exact (R1.wrLt (hHc _ _ a1) rfl h3).1) (hBx k' _ l' b2 b3 rfl h4)
  ·rw [hmo _ a1] at h3; rw [(hσ _ _ b3).2] at h4
   exact absurd (by rw [h5]; exact (R1.wrLt (hHc _ _ b1) rfl h4).1) (hBx k _ l a2 a3 rfl h3)
  rw [hmo _ a1] at h3; rw [hmo _ b1] at h4
  exact R.mp.2.2.2.2 _ _ _ _ _ _ a3 b3 h3 h4 h5
 have:=R1.slot 0
 exact AVal.sig rd2 hσ2 this (by rw [hσlen]; exact s1)
theorem kills_nil (H:Heap):kills H []=H:=rfl
theorem Rel.joinM (R:Rel C m s tmps w) {ks:List Nat} {H0 H1:Heap} {r:AV} {w' : World} {v:Value} {m' : Map} (hle:LeH ks s.H ks H0) (hks:∀ k∈ks,k < s.H.length) (R1:Rel (subC C m s.H ks H0 w) m' ⟨1,[(0,r)],H1++ancs 0 H0.length⟩ #[v] w') (hsc:scM r H0 H1=true) :
  ∃ m2,Rel C m2 { s with H:=putM s.H ks (H1.map (Blk.ren (ks++List.range' s.H.length (H1.length - ks.length)))) } tmps w' ∧
   AVal (Reads (OK C m2 (putM s.H ks (H1.map (Blk.ren (ks++List.range' s.H.length (H1.length - ks.length))))) w') w') m2 (putM s.H ks (H1.map (Blk.ren (ks++List.range' s.H.length (H1.length - ks.length))))) (Go.Pv.ren (ks++List.range' s.H.length (H1.length - ks.length)) r) v:=by
 have g1:=(hle.get).1
 have h:=R.joinQ (q:=H0.length) hle hks R1 (by
  unfold scM at hsc
  unfold scQ
  rw [Bool.and_eq_true,Bool.and_eq_true,Bool.and_eq_true,Bool.and_eq_true] at hsc
  obtain ⟨⟨⟨⟨s1,s2⟩,s3⟩,s4⟩,s5⟩:=hsc
  rw [s1,s2,s3,s5,List.take_length,s4,List.drop_length]; simp)
 rw [← g1,List.take_length,List.drop_length,kills_nil] at h
 obtain ⟨m2,h1,h2,_⟩:=h
 exact ⟨m2,h1,h2⟩
def argM1 (H:Heap) (ks:List Nat) (x a:AV):Prop:=
 match a with
 | .p pv=>(match peekG H x with | some (p,pv',true)=>p∧pv' = pv | _=>False)
 | a=>x=Go.Pv.ren ks a∧scA ks.length a=true
def argsM (H:Heap) (ks:List Nat):List AV→List AV→Prop
 | x :: xs,a :: avs=>argM1 H ks x a∧argsM H ks xs avs
 | [],[]=>True
 | _,_=>False
theorem argsM_val (R:Rel C m s tmps w) {rd' : PV→Value→Prop} {ks:List Nat} {H0:Heap} (h1:∀ p v,Reads (OK C m s.H w) w p v→rd' p v) (hl:H0.length=ks.length):∀ (X avs:List AV) (f:Nat→Value),argsM s.H ks X avs→(∀ i (h:i < X.length),AVal (Reads (OK C m s.H w) w) m s.H X[i] (f i)) →
  avs.length=X.length∧∀ i (h:i < avs.length),AVal rd' (mren m ks) H0 avs[i] (f i)
 | [],[],f,_,_=>⟨rfl,fun i h=>by simp at h⟩
 | x :: xs,a :: avs,f,h,hv=>by
  obtain ⟨k1,k2⟩:=argsM_val R h1 hl xs avs (fun i=>f (i + 1)) h.2 fun i hi=>by have:=hv (i + 1) (by simp; omega); rwa [List.getElem_cons_succ] at this
  refine ⟨by simp [k1],fun i hi=>?_⟩
  cases i with
  | succ i=>simpa using k2 i (by simpa using hi)
  | zero =>
   have hx:=hv 0 (by simp)
   simp only [List.getElem_cons_zero] at hx ⊢
   have h0:=h.1
   unfold argM1 at h0
   split at h0
   ·rename_i pv
    split at h0
    ·rename_i p pv' hp
     obtain ⟨g1,rfl⟩:=h0
     exact .p _ _ (h1 _ _ ((peekG_val R hx hp g1).2 rfl))
    exact h0.elim
   obtain ⟨rfl,hsc⟩:=h0
   exact hx.unren h1 hl hsc
 | [],_ :: _,_,h,_=>h.elim
 | _ :: _,[],_,h,_=>h.elim
theorem call_doesM {o:Oper} {fo:Operand} {args:Array Operand} {ts:Array TypeId} (ho:o.op = .call { callee:=.value fo,args:=args,argTypes:=ts }) {g:FuncId} {cap:List PV} (hfo:s.ev fo = .p (.fn g cap)) {ks:List Nat} {avs:List AV} {H0 H1:Heap} {r:AV}
  (hc:FnM P g avs H0 r H1) (hargs:argsM s.H ks (args.toList.map s.ev++cap.map .p) avs) (hle:LeH ks s.H ks H0) (hnd:ks.Nodup) (hks:ks.all (fun k=>decide (k < s.H.length))=true) (hsc:scM r H0 H1=true) :
  DoesW P o s (Go.Pv.ren (ks++List.range' s.H.length (H1.length - ks.length)) r) (putM s.H ks (H1.map (Blk.ren (ks++List.range' s.H.length (H1.length - ks.length))))):=by
 intro C m a w K Q R hK
 have hks' : ∀ k∈ks,k < s.H.length:=fun k hk=>by simpa using (List.all_eq_true.1 hks) k hk
 have hfv:=R.ev fo
 rw [hfo] at hfv
 generalize hfe:a.eval fo=fv at hfv
 have hfv:=hfv.p_inv
 cases hfv with
 | fn _ _ vs hcl hcr =>
  obtain ⟨⟨fn,hfn,hnm,hbd⟩,hcalls⟩:=hc
  have hrun:(execOp a.eval o).run P w = .ok (.enter g (args.map a.eval++vs)) w:=by
   have hnm' : ¬ fn.name = "runtime.NumGoroutine":=by simpa using hnm
   have hbd' : ¬ fn.body=none:=by intro e; rw [e] at hbd; simp at hbd
   simp [execOp,ho,resolve,hfe,Deferred.ofValue,invoke,callFunc,hfn,hnm',hbd']
  refine opR_of_wp (by first|rfl|(rw [ho]; rfl)) ?_
  unfold Oper.wp
  rw [hrun]
  simp only [Oper.upon]
  obtain ⟨g1,g2⟩:=hle.get
  have ho1:∀ b,OK C m s.H w b→OK (subC C m s.H ks H0 w) (mren m ks) H0 w b:=by
   refine fun b h=>⟨.inl h,h.2.1,fun k c l hk hl=>?_⟩
   obtain ⟨k',d,a1,a2,_⟩:=LeH.own g2 k c hk
   simp only [mren,a1,Option.bind_some] at hl
   exact h.2.2 k' _ l a2 hl
  obtain ⟨e1,e2⟩:=argsM_val R (rd':=Reads (OK (subC C m s.H ks H0 w) (mren m ks) H0 w) w) (H0:=H0) (fun p v h=>h.mono ho1) g1.symm _ avs (fun i=>(args.map a.eval++vs).getD i undef) hargs fun i hi=>by
   simp only [List.length_append,List.length_map,Array.length_toList] at hi
   by_cases hip:i < args.size
   ·rw [List.getElem_append_left (by simpa using hip)]
    simp only [Array.getD_eq_getD_getElem?]
    rw [Array.getElem?_append_left (by simpa using hip)]
    have:=R.ev args[i]
    simpa [Array.getElem?_eq_getElem hip] using this
   rw [List.getElem_append_right (by simp; omega)]
   simp only [Array.getD_eq_getD_getElem?]
   rw [Array.getElem?_append_right (by simp; omega)]
   simp only [List.getElem_map,List.length_map,Array.length_toList,Array.size_map]
   have:=hcr (i - args.size) (by omega)
   rw [Array.getD_eq_getD_getElem?] at this
   exact .p _ _ this
  have hsz:(args.map a.eval++vs).size=avs.length:=by
   rw [e1]; simp; omega
  have s5:H0.all notAnc=true:=by
   unfold scM at hsc
   rw [Bool.and_eq_true] at hsc
   exact hsc.2
  have R0:Rel (subC C m s.H ks H0 w) (mren m ks) ⟨avs.length,entA 0 avs,H0⟩ (args.map a.eval++vs) w:=by
   refine R.weakenC (s1:=⟨avs.length,entA 0 avs,H0⟩) hsz hnd hle ho1 (BelowP.refl _ _) (fun b h=>.inl h) (fun k b l h hw hl _=>.inr ⟨k,b,l,h,hw,hl,rfl⟩) (fun k i j h=>?_) fun t=>?_
   ·exact absurd rfl (notAnc_spec ((List.all_eq_true.1 s5) _ (List.mem_of_getElem? h)) i j)
   unfold St.get
   simp only
   rw [entA_lk,if_pos (Nat.zero_le _),Nat.sub_zero]
   by_cases ht:t < avs.length
   ·have:=e2 t ht
    simpa [List.getD,List.getElem?_eq_getElem ht] using this
   rw [List.getD_eq_getElem?_getD,List.getElem?_eq_none (by omega)]
   exact .dead _
  have R0':=R0.addAnc (n:=H0.length) (Nat.le_refl _) fun i _=>rfl
  refine (hcalls _ _ w _ R0').mono fun e w' ⟨v,m',he,R1⟩=>?_
  subst he
  obtain ⟨m2,R2,hv⟩:=R.joinM hle hks' R1 hsc
  exact hK v m2 w' R2 hv
theorem runs_callM {all:Array Oper} {rest:List Oper} {K:St→Prop} {dst:Option Tmp} {ty:TypeId} {pos:String} {aft:Array Edge} {gd:Option (Nat × Bool)} {fo:Operand} {args:Array Operand} {ts:Array TypeId} {g:FuncId} {avs:List AV} {H0 H1:Heap} {r:AV} (ks:List Nat)
  (hc:FnM P g avs H0 r H1) {cap:List PV} (hfo:s.ev fo = .p (.fn g cap)) (hg:guardA all s { dst:=dst,op:=.call { callee:=.value fo,args:=args,argTypes:=ts },type:=ty,pos:=pos,after:=aft,guard:=gd } = some true)
  (hargs:argsM s.H ks (args.toList.map s.ev++cap.map .p) avs) (hle:LeH ks s.H ks H0) (hnd:ks.Nodup) (hks:ks.all (fun k=>decide (k < s.H.length))=true) (hsc:scM r H0 H1=true) (hd:dstOk s dst)
  (h:Runs P false all rest K (({ s with H:=putM s.H ks (H1.map (Blk.ren (ks++List.range' s.H.length (H1.length - ks.length)))) } : St).put dst (Go.Pv.ren (ks++List.range' s.H.length (H1.length - ks.length)) r))) :
  Runs P false all ({ dst:=dst,op:=.call { callee:=.value fo,args:=args,argTypes:=ts },type:=ty,pos:=pos,after:=aft,guard:=gd } :: rest) K s:=by
 obtain ⟨s',hr,hK⟩:=h
 exact ⟨s',.cons (.op s _ _ hg (dstOk_spec hd) (call_doesM rfl hfo hc hargs hle hnd hks hsc) fun h=>by cases h) hr,hK⟩
open Classical in
noncomputable def mpLen (d:Int→Bool):Nat:=if h:∃ l:List Int,l.Nodup∧∀ z,z∈l↔d z=true then h.choose.length else 0
theorem nodup_le:∀ {l l' : List Int},l.Nodup→(∀ z∈l,z∈l')→l.length≤l'.length
 | [],_,_,_=>Nat.zero_le _
 | x :: l,l',hn,h=>by
  have hx:=h x (by simp)
  have h1:=nodup_le (l:=l) (l':=l'.erase x) (List.nodup_cons.1 hn).2 fun z hz=>(List.mem_erase_of_ne (fun e=>(List.nodup_cons.1 hn).1 (by rw [← e]; exact hz))).2 (h z (by simp [hz]))
  rw [List.length_erase_of_mem hx] at h1
  have:=List.length_pos_of_mem hx
  simp only [List.length_cons]
  omega
theorem mpLen_eq {d:Int→Bool} {l:List Int} (h1:l.Nodup) (h2:∀ z,z∈l↔d z=true):mpLen d=l.length:=by
 have h:∃ l:List Int,l.Nodup∧∀ z,z∈l↔d z=true:=⟨l,h1,h2⟩
 unfold mpLen
 rw [dif_pos h]
 obtain ⟨a1,a2⟩:=h.choose_spec
 refine Nat.le_antisymm (nodup_le a1 fun z hz=>(h2 z).2 ((a2 z).1 hz)) (nodup_le h1 fun z hz=>(a2 z).2 ((h2 z).1 hz))
theorem mlk_some {kk:IntKind} {z:Int} : ∀ {es:List MapEntry} {x:Value},mlk kk z es=some x→∃ e∈es,e.key=keyV kk z
 | [],_,h=>by cases h
 | e :: es,x,h=>by
  by_cases hk:e.key=keyV kk z
  ·exact ⟨e,by simp,hk⟩
  rw [mlk_neg _ hk] at h
  obtain ⟨e',h1,h2⟩:=mlk_some h
  exact ⟨e',by simp [h1],h2⟩
theorem mlk_ne {kk:IntKind} {z:Int} : ∀ {es:List MapEntry},(∃ e∈es,e.key=keyV kk z)→mlk kk z es ≠ none
 | [],h=>by obtain ⟨e,h1,_⟩:=h; cases h1
 | e :: es,h=>by
  by_cases hk:e.key=keyV kk z
  ·rw [mlk_pos _ hk]; simp
  rw [mlk_neg _ hk]
  obtain ⟨e',h1,h2⟩:=h
  rcases List.mem_cons.1 h1 with rfl | h1
  ·exact absurd h2 hk
  exact mlk_ne ⟨e',h1,h2⟩
theorem mpLen_entries {kk:IntKind} {d:Int→Bool} {es:List MapEntry} {vs:Int→Value} {clk:Nat} (h1:MpK kk clk es) (h2:∀ z,d z=false→mlk kk z es=none) (h3:∀ z,d z=true→mlk kk z es=some (vs z)):mpLen d=es.length:=by
 have hk:∀ e∈es,e.key=keyV kk (keyZ e.key):=fun e he=>by
  obtain ⟨z,hz⟩:=h1.1 e he
  rw [hz,keyZ_V]
 have e1:es.map MapEntry.key=(es.map fun e=>keyZ e.key).map (keyV kk):=by
  rw [List.map_map]
  exact List.map_congr_left fun e he=>hk e he
 have hnd:(es.map fun e=>keyZ e.key).Nodup:=by
  have:=h1.2.1
  rw [e1] at this
  exact List.Pairwise.imp (fun h e=>h (by rw [e])) (List.pairwise_map.1 this)
 rw [mpLen_eq hnd fun z=>?_,List.length_map]
 rw [List.mem_map]
 constructor
 ·rintro ⟨e,he,rfl⟩
  cases hd:d (keyZ e.key) with
  | true=>rfl
  | false=>exact absurd (h2 _ hd) (mlk_ne ⟨e,he,hk e he⟩)
 intro hd
 obtain ⟨e,he,hz⟩:=mlk_some (h3 z hd)
 exact ⟨e,he,by rw [hz,keyZ_V]⟩
theorem mpLen_does (hT:∀ t ti,T t=some ti→tiOf P t=some ti) {o:Oper} {t:TypeId} {x:Operand} (ho:o.op = .call { callee:=.builtin .len,args:=#[x],argTypes:=#[t] }) {ti:TI} (ht:T t=some ti) {kt et:TypeId} {zo:Option Value} (hkind:ti.kind = .map kt et zo)
  {k:Nat} {kk:IntKind} {d:Int→Bool} {v:Int→PV} (hx:s.ev x = .mptr k) (hg:hget s.H k = .mp kk d v):DoesW P o s (.p (.int .i64 (mpLen d:Int))) s.H:=by
 intro C m a w K Q R hK
 obtain ⟨dst,op,type,pos,after,guard⟩:=o
 simp only at ho
 subst ho
 have hxe:=R.ev x
 rw [hx] at hxe
 generalize hxv:a.eval x=xv at hxe
 cases hxe with
 | mptr _ _ hkl hp =>
  obtain ⟨l,hml,rfl⟩:=hp
  obtain ⟨l',ar,clk,vs,a1,a2,a3,a4,a5,a6,a7⟩:=R.mp.1 k kk d v (hget_some hg (by simp))
  rw [hml] at a1; cases a1
  have hu:=(ti_map (hT _ _ ht) hkind).1
  have hlen:(mpLen d:Int)=(ar.size:Int):=by rw [mpLen_entries a4 a5 a6]; simp
  have hrun:(execOp a.eval { dst:=dst,op:=.call { callee:=.builtin .len,args:=#[x],argTypes:=#[t] },type:=type,pos:=pos,after:=after,guard:=guard }).run P w = .ok (.value (.int .i64 (ar.size:Int))) w:=by
   simp [BigFrame.execOp_builtin,BigFrame.builtin_len,Builtin.len_,hxv,run_underlying hu,goInt,MapKept.run_getObj_map a3]
  refine opR_of_wp (by first|rfl|(rw [ho]; rfl)) ?_
  unfold Oper.wp
  rw [hrun]
  refine hK _ m w R (.p _ _ ?_)
  rw [hlen]
  exact .int _ _
theorem runs_mapLen (hT:∀ t ti,T t=some ti→tiOf P t=some ti) {all:Array Oper} {rest:List Oper} {K:St→Prop} {dst:Option Tmp} {ty:TypeId} {pos:String} {aft:Array Edge} {gd:Option (Nat × Bool)} {x:Operand} {t:TypeId} {ti:TI} (ht:T t=some ti) {kt et:TypeId} {zo:Option Value} (hkind:ti.kind = .map kt et zo)
  {k:Nat} {kk:IntKind} {d:Int→Bool} {v:Int→PV} (hx:s.ev x = .mptr k) (hgt:hget s.H k = .mp kk d v) (hg:guardA all s { dst:=dst,op:=.call { callee:=.builtin .len,args:=#[x],argTypes:=#[t] },type:=ty,pos:=pos,after:=aft,guard:=gd } = some true) (hd:dstOk s dst)
  (h:Runs P false all rest K (s.put dst (.p (.int .i64 (mpLen d:Int))))):Runs P false all ({ dst:=dst,op:=.call { callee:=.builtin .len,args:=#[x],argTypes:=#[t] },type:=ty,pos:=pos,after:=aft,guard:=gd } :: rest) K s:=by
 obtain ⟨s',hr,hK⟩:=h
 exact ⟨s',.cons (.op s _ _ hg (dstOk_spec hd) (mpLen_does hT rfl ht hkind hx hgt) fun h=>by cases h) hr,hK⟩
end
end Go.Pv

namespace Go.Pv
open Go.RowKit
section
variable {P:Program} {T:TypeId→Option TI} {s:St}
theorem runs_opD {draw:Bool} {all:Array Oper} {rest:List Oper} {K:St→Prop} {o:Oper} {av:AV} {H' : Heap} (h1:Loc1 P o s av H') (hg:guardA all s o=some true) (hd:dstOk s o.dst)
  (h:Runs P draw all rest K (({ s with H:=H' } : St).put o.dst av)):Runs P draw all (o :: rest) K s:=by
 obtain ⟨s',hr,hK⟩:=h
 exact ⟨s',.cons (.op s _ _ hg (dstOk_spec hd) (h1.here s rfl (fun _ _=>rfl) rfl) fun _=>h1) hr,hK⟩
theorem runs_at {draw:Bool} {all:Array Oper} {K:St→Prop} (n:Nat) {l:List Oper} (h:Runs P draw all (l.take n) (fun s'=>Runs P draw all (l.drop n) K s') s):Runs P draw all l K s:=by
 have gen:∀ (l1 l2:List Oper) (s s1 s2:St),Run1 P draw all l1 s s1→Run1 P draw all l2 s1 s2→Run1 P draw all (l1++l2) s s2:=by
  intro l1
  induction l1 with
  | nil=>intro l2 s s1 s2 h1 h2; cases h1; exact h2
  | cons o r ih=>intro l2 s s1 s2 h1 h2; cases h1 with | cons a b=>exact .cons a (ih l2 _ _ _ b h2)
 obtain ⟨s1,h1,s2,h2,hK⟩:=h
 exact ⟨s2,by have:=gen _ _ _ _ _ h1 h2; rwa [List.take_append_drop] at this,hK⟩
theorem buildOwn_does (hT:∀ t ti,T t=some ti→tiOf P t=some ti) {o:Oper} {t:TypeId} {n:Nat} {parts:Array (Nat × Operand)} (ho:o.op = .buildSlice t n parts) {ti te:TI} (ht:T t=some ti) {e:TypeId} (hk:ti.kind = .slice e) (hte:T e=some te) (hsz:te.size=1) (hzl:te.zero.length=1)
  {p:Prop} {l:List PV} (hp:partsA 1 0 (parts.toList.map fun q=>(q.1,s.ev q.2))=some (p,l)) (hvc:p) (hl:l.length=n) (hn:n≤16777216) (hone:l.all PV.one=true):DoesW P o s (.sl s.H.length 0 n) (s.H++[.own (opl l)]):=by
 intro C m a w K Q R hK
 have hu:=ti_slice (hT _ _ ht) hk
 obtain ⟨i,d,z,h1,h2,h3,h4,h5,h6,h7,h8⟩:=tiOf_parts (hT _ _ hte)
 have key:∀ z0:Array Value,∃ cs',(∀ x∈l,x.cells.length=1)∧Instr.fill (fun i=>some (i * 1,1)) ((Array.range (n * 1)).map (z0[· % z0.size]!)) (parts.toList.map fun q=>(q.1,a.eval q.2))=some cs'∧cs'.size=n * 1 ∧
   ∀ c (h:c < (flat l).length),Reads (OK C m s.H w) w (flat l)[c] (cs'.getD c undef):=by
  intro z0
  obtain ⟨k1,cs',k2,k3,_,k5⟩:=partsA_run R 1 parts.toList 0 (cs:=(Array.range (n * 1)).map (z0[· % z0.size]!)) hp hvc (by simp [hl])
  exact ⟨cs',k1,k2,by rw [k3]; simp,fun c hc=>by have:=k5 c hc; rwa [Nat.zero_mul,Nat.zero_add] at this⟩
 obtain ⟨cs',k1,k2,k3,k5⟩:=key (if n * 1=0 then #[] else z.cells)
 have hss:=ti_size (hT _ _ hte) w
 rw [hsz] at hss
 have hfl0:=flat_length_eq 1 l k1
 have hfl:flat l=l:=flat_all_one hone
 have hrun:(execOp a.eval o).run P w = .ok (.value (.slice (some ⟨w.heap.size,0,none⟩) n n)) (w.alloc (.cells cs' e)):=by
  have hpt:(parts.map fun q=>(q.1,a.eval q.2)).toList=parts.toList.map fun q=>(q.1,a.eval q.2):=by simp
  have hne:¬ (n * 1 > 2 ^ 24):=by omega
  by_cases hz:n * 1=0
  ·rw [if_pos hz] at k2
   simp only [execOp,ho,Instr.buildSlice,Sem.run_bind,run_underlying hu,Result.andThen_ok,hss,Sem.run_ite,hz,if_true,Sem.run_pure,newRow] at k2 ⊢
   simp only [hpt,k2,Sem.run_bind,run_newObj,Result.andThen_ok,Sem.run_pure]
   rfl
  rw [if_neg hz] at k2
  simp only [execOp,ho,Instr.buildSlice,Sem.run_bind,run_underlying hu,Result.andThen_ok,hss,Sem.run_ite,hne,if_false,hz,zeroValue,typeInfo,run_program,h1,h3,Sem.run_pure,newRow] at k2 ⊢
  simp only [hpt,k2,Sem.run_bind,run_newObj,Result.andThen_ok,Sem.run_pure]
  rfl
 have hrel:=R.newBlk (below_alloc _) (cur:=cs') (e:=e) (heap_alloc_new w _) (le_mxl (by rw [k3]; unfold maxLen; omega)) (c:=opl l) (by rw [opl_length,k3]; omega) (by
  intro j hj
  rw [opl_length] at hj
  have:=k5 j (by rw [hfl]; exact hj)
  simp only [hfl] at this
  simp only [opl,List.getElem_map]
  exact .p _ _ this)
 refine opR_of_wp (by first|rfl|(rw [ho]; rfl)) ?_
 unfold Oper.wp
 rw [hrun]
 exact hK _ _ _ hrel (.sl _ _ _ _ (by simp) <| .inr ⟨⟨w.heap.size,0,cs'.size⟩,n,by simp [mput],by simp,Nat.le_refl _,by simp only; omega⟩)
theorem insert_does (hT:∀ t ti,T t=some ti→tiOf P t=some ti) {o:Oper} {t:TypeId} {x y z:Operand} (ho:o.op = .insert t x y z) {ti:TI} (ht:T t=some ti) {r:OV} (h:mapUpdateA T ti s.H (s.ev x) (s.ev y) (s.ev z)=some r) (hvc:r.vc):DoesW P o s r.av r.H:=by
 intro C m a w K Q R hK
 obtain ⟨v,w',m',hy,R',hv⟩:=mapUpdateA_does hT R (o:={ o with op:=.mapUpdate t x y z }) rfl ht h hvc
 have:=hK v m' w' R' hv
 have e:execOp a.eval o=execOp a.eval { o with op:=.mapUpdate t x y z }:=by
  simp only [execOp,ho]
 rcases hy with hr | ⟨hr,rfl⟩
 ·refine opR_of_wp (by first|rfl|(rw [ho]; rfl)) ?_; unfold Oper.wp; rw [e,hr]; exact this
 refine opR_of_wp (by first|rfl|(rw [ho]; rfl)) ?_; unfold Oper.wp; rw [e,hr]; exact this
section
variable {C:Ctx} {m:Map} {tmps:Array Value} {w:World}
theorem call_doesMc {o:Oper} {fo:Operand} {args:Array Operand} {ts:Array TypeId} (ho:o.op = .call { callee:=.value fo,args:=args,argTypes:=ts }) {g:FuncId} {cap:List AV} (hfo:s.ev fo = .cl g cap) {ks:List Nat} {avs:List AV} {H0 H1:Heap} {r:AV}
  (hc:FnM P g avs H0 r H1) (hargs:argsM s.H ks (args.toList.map s.ev++cap) avs) (hle:LeH ks s.H ks H0) (hnd:ks.Nodup) (hks:ks.all (fun k=>decide (k < s.H.length))=true) (hsc:scM r H0 H1=true) :
  DoesW P o s (Go.Pv.ren (ks++List.range' s.H.length (H1.length - ks.length)) r) (putM s.H ks (H1.map (Blk.ren (ks++List.range' s.H.length (H1.length - ks.length))))):=by
 intro C m a w K Q R hK
 have hks' : ∀ k∈ks,k < s.H.length:=fun k hk=>by simpa using (List.all_eq_true.1 hks) k hk
 have hfv:=R.ev fo
 rw [hfo] at hfv
 generalize hfe:a.eval fo=fv at hfv
 cases hfv with
 | cl _ _ vs hcl hcr =>
  obtain ⟨⟨fn,hfn,hnm,hbd⟩,hcalls⟩:=hc
  have hrun:(execOp a.eval o).run P w = .ok (.enter g (args.map a.eval++vs)) w:=by
   have hnm' : ¬ fn.name = "runtime.NumGoroutine":=by simpa using hnm
   have hbd' : ¬ fn.body=none:=by intro e; rw [e] at hbd; simp at hbd
   simp [execOp,ho,resolve,hfe,Deferred.ofValue,invoke,callFunc,hfn,hnm',hbd']
  refine opR_of_wp (by first|rfl|(rw [ho]; rfl)) ?_
  unfold Oper.wp
  rw [hrun]
  simp only [Oper.upon]
  obtain ⟨g1,g2⟩:=hle.get
  have ho1:∀ b,OK C m s.H w b→OK (subC C m s.H ks H0 w) (mren m ks) H0 w b:=by
   refine fun b h=>⟨.inl h,h.2.1,fun k c l hk hl=>?_⟩
   obtain ⟨k',d,a1,a2,_⟩:=LeH.own g2 k c hk
   simp only [mren,a1,Option.bind_some] at hl
   exact h.2.2 k' _ l a2 hl
  obtain ⟨e1,e2⟩:=argsM_val R (rd':=Reads (OK (subC C m s.H ks H0 w) (mren m ks) H0 w) w) (H0:=H0) (fun p v h=>h.mono ho1) g1.symm _ avs (fun i=>(args.map a.eval++vs).getD i undef) hargs fun i hi=>by
   simp only [List.length_append,List.length_map,Array.length_toList] at hi
   by_cases hip:i < args.size
   ·rw [List.getElem_append_left (by simpa using hip)]
    simp only [Array.getD_eq_getD_getElem?]
    rw [Array.getElem?_append_left (by simpa using hip)]
    have:=R.ev args[i]
    simpa [Array.getElem?_eq_getElem hip] using this
   rw [List.getElem_append_right (by simp; omega)]
   simp only [Array.getD_eq_getD_getElem?]
   rw [Array.getElem?_append_right (by simp; omega)]
   simp only [List.length_map,Array.length_toList,Array.size_map]
   have:=hcr (i - args.size) (by omega)
   rw [Array.getD_eq_getD_getElem?] at this
   exact this
  have hsz:(args.map a.eval++vs).size=avs.length:=by
   rw [e1]; simp; omega
  have s5:H0.all notAnc=true:=by
   unfold scM at hsc
   rw [Bool.and_eq_true] at hsc
   exact hsc.2
  have R0:Rel (subC C m s.H ks H0 w) (mren m ks) ⟨avs.length,entA 0 avs,H0⟩ (args.map a.eval++vs) w:=by
   refine R.weakenC (s1:=⟨avs.length,entA 0 avs,H0⟩) hsz hnd hle ho1 (BelowP.refl _ _) (fun b h=>.inl h) (fun k b l h hw hl _=>.inr ⟨k,b,l,h,hw,hl,rfl⟩) (fun k i j h=>?_) fun t=>?_
   ·exact absurd rfl (notAnc_spec ((List.all_eq_true.1 s5) _ (List.mem_of_getElem? h)) i j)
   unfold St.get
   simp only
   rw [entA_lk,if_pos (Nat.zero_le _),Nat.sub_zero]
   by_cases ht:t < avs.length
   ·have:=e2 t ht
    simpa [List.getD,List.getElem?_eq_getElem ht] using this
   rw [List.getD_eq_getElem?_getD,List.getElem?_eq_none (by omega)]
   exact .dead _
  have R0':=R0.addAnc (n:=H0.length) (Nat.le_refl _) fun i _=>rfl
  refine (hcalls _ _ w _ R0').mono fun e w' ⟨v,m',he,R1⟩=>?_
  subst he
  obtain ⟨m2,R2,hv⟩:=R.joinM hle hks' R1 hsc
  exact hK v m2 w' R2 hv
theorem runs_callMc {all:Array Oper} {rest:List Oper} {K:St→Prop} {dst:Option Tmp} {ty:TypeId} {pos:String} {aft:Array Edge} {gd:Option (Nat × Bool)} {fo:Operand} {args:Array Operand} {ts:Array TypeId} {g:FuncId} {avs:List AV} {H0 H1:Heap} {r:AV} (ks:List Nat)
  (hc:FnM P g avs H0 r H1) {cap:List AV} (hfo:s.ev fo = .cl g cap) (hg:guardA all s { dst:=dst,op:=.call { callee:=.value fo,args:=args,argTypes:=ts },type:=ty,pos:=pos,after:=aft,guard:=gd } = some true)
  (hargs:argsM s.H ks (args.toList.map s.ev++cap) avs) (hle:LeH ks s.H ks H0) (hnd:ks.Nodup) (hks:ks.all (fun k=>decide (k < s.H.length))=true) (hsc:scM r H0 H1=true) (hd:dstOk s dst)
  (h:Runs P false all rest K (({ s with H:=putM s.H ks (H1.map (Blk.ren (ks++List.range' s.H.length (H1.length - ks.length)))) } : St).put dst (Go.Pv.ren (ks++List.range' s.H.length (H1.length - ks.length)) r))) :
  Runs P false all ({ dst:=dst,op:=.call { callee:=.value fo,args:=args,argTypes:=ts },type:=ty,pos:=pos,after:=aft,guard:=gd } :: rest) K s:=by
 obtain ⟨s',hr,hK⟩:=h
 exact ⟨s',.cons (.op s _ _ hg (dstOk_spec hd) (call_doesMc rfl hfo hc hargs hle hnd hks hsc) fun h=>by cases h) hr,hK⟩
end
end
end Go.Pv

namespace Go.Pv
open Go.RowKit
section
variable {P:Program} {T:TypeId→Option TI} {s:St}
theorem flat_cells {l:List PV} (h:∀ x∈l,x.cells.all PV.one=true):(flat l).all PV.one=true:=by
 induction l with
 | nil=>rfl
 | cons x r ih =>
  simp only [flat,List.all_append,Bool.and_eq_true]
  exact ⟨h x (by simp),ih fun y hy=>h y (by simp [hy])⟩
theorem buildS_does (hT:∀ t ti,T t=some ti→tiOf P t=some ti) {o:Oper} {t:TypeId} {n:Nat} {parts:Array (Nat × Operand)} (ho:o.op = .buildSlice t n parts) {ti te:TI} (ht:T t=some ti) {e:TypeId} (hk:ti.kind = .slice e) (hte:T e=some te) {sz:Nat} (hsz:te.size=sz) (hzl:te.zero.length=sz)
  {p:Prop} {l:List PV} (hp:partsA sz 0 (parts.toList.map fun q=>(q.1,s.ev q.2))=some (p,l)) (hvc:p) (hl:l.length=n) (hn:n * sz≤16777216):DoesW P o s (.sls s.H.length 0 n sz) (s.H++[.own (opl (flat l))]):=by
 intro C m a w K Q R hK
 have hu:=ti_slice (hT _ _ ht) hk
 obtain ⟨i,d,z,h1,h2,h3,h4,h5,h6,h7,h8⟩:=tiOf_parts (hT _ _ hte)
 have key:∀ z0:Array Value,∃ cs',(∀ x∈l,x.cells.length=sz)∧Instr.fill (fun i=>some (i * sz,sz)) ((Array.range (n * sz)).map (z0[· % z0.size]!)) (parts.toList.map fun q=>(q.1,a.eval q.2))=some cs'∧cs'.size=n * sz ∧
   ∀ c (h:c < (flat l).length),Reads (OK C m s.H w) w (flat l)[c] (cs'.getD c undef):=by
  intro z0
  obtain ⟨k1,cs',k2,k3,_,k5⟩:=partsA_run R sz parts.toList 0 (cs:=(Array.range (n * sz)).map (z0[· % z0.size]!)) hp hvc (by simp [hl])
  exact ⟨cs',k1,k2,by rw [k3]; simp,fun c hc=>by have:=k5 c hc; rwa [Nat.zero_mul,Nat.zero_add] at this⟩
 obtain ⟨cs',k1,k2,k3,k5⟩:=key (if n * sz=0 then #[] else z.cells)
 have hss:=ti_size (hT _ _ hte) w
 rw [hsz] at hss
 have hfl0:=flat_length_eq sz l k1
 have hrun:(execOp a.eval o).run P w = .ok (.value (.slice (some ⟨w.heap.size,0,none⟩) n n)) (w.alloc (.cells cs' e)):=by
  have hpt:(parts.map fun q=>(q.1,a.eval q.2)).toList=parts.toList.map fun q=>(q.1,a.eval q.2):=by simp
  have hne:¬ (n * sz > 2 ^ 24):=by omega
  by_cases hz:n * sz=0
  ·rw [if_pos hz] at k2
   simp only [execOp,ho,Instr.buildSlice,Sem.run_bind,run_underlying hu,Result.andThen_ok,hss,Sem.run_ite,hz,if_true,Sem.run_pure,newRow] at k2 ⊢
   simp only [hpt,k2,Sem.run_bind,run_newObj,Result.andThen_ok,Sem.run_pure]
   rfl
  rw [if_neg hz] at k2
  simp only [execOp,ho,Instr.buildSlice,Sem.run_bind,run_underlying hu,Result.andThen_ok,hss,Sem.run_ite,hne,if_false,hz,zeroValue,typeInfo,run_program,h1,h3,Sem.run_pure,newRow] at k2 ⊢
  simp only [hpt,k2,Sem.run_bind,run_newObj,Result.andThen_ok,Sem.run_pure]
  rfl
 have hlen:(opl (flat l)).length=n * sz:=by rw [opl_length,hfl0,hl]
 have hrel:=R.newBlk (below_alloc _) (cur:=cs') (e:=e) (heap_alloc_new w _) (le_mxl (by rw [k3]; unfold maxLen; omega)) (c:=opl (flat l)) (by rw [hlen,k3]; exact Nat.le_refl _) (by
  intro j hj
  rw [hlen] at hj
  have hj2:j < (flat l).length:=by rw [hfl0,hl]; exact hj
  have:=k5 j hj2
  simp only [opl,List.getElem_map]
  exact .p _ _ this)
 refine opR_of_wp (by first|rfl|(rw [ho]; rfl)) ?_
 unfold Oper.wp
 rw [hrun]
 exact hK _ _ _ hrel (.sls _ _ _ _ _ (by simp) (.inr ⟨⟨w.heap.size,0,cs'.size⟩,n,by simp [mput],by simp,Nat.le_refl _,by simp only; omega⟩))
theorem lenS_does (hT:∀ t ti,T t=some ti→tiOf P t=some ti) {o:Oper} {t:TypeId} {x:Operand} (ho:o.op = .call { callee:=.builtin .len,args:=#[x],argTypes:=#[t] }) {ti:TI} (ht:T t=some ti) {e:TypeId} (hk:ti.kind = .slice e) {k lo len sz:Nat} (hx:s.ev x = .sls k lo len sz):DoesW P o s (.p (.int .i64 len)) s.H:=by
 intro C m a w K Q R hK
 have hu:=ti_slice (hT _ _ ht) hk
 have hv:=R.ev x
 rw [hx] at hv
 generalize hev:a.eval x=v at hv
 cases hv with
 | sls _ _ _ _ _ hk' hs =>
  have hrun:(execOp a.eval o).run P w = .ok (.value (.int .i64 len)) w:=by
   obtain ⟨dst,op,type,pos,after,guard⟩:=o
   simp only at ho
   subst ho
   rcases hs with ⟨rfl,rfl⟩ | ⟨l,cap,hm,rfl,h1,h2⟩
   ·simp [BigFrame.execOp_builtin,BigFrame.builtin_len,Builtin.len_,hev,run_underlying hu,goInt]
   simp [BigFrame.execOp_builtin,BigFrame.builtin_len,Builtin.len_,hev,run_underlying hu,goInt]
  refine opR_of_wp (by first|rfl|(rw [ho]; rfl)) ?_
  unfold Oper.wp
  rw [hrun]
  exact hK _ _ _ R (.p _ _ (.int _ _))
theorem idxS_does (hT:∀ t ti,T t=some ti→tiOf P t=some ti) {o:Oper} {t:TypeId} {x y:Operand} (ho:o.op = .indexAddr t x y) {ti te:TI} (ht:T t=some ti) {e:TypeId} (hk:ti.kind = .slice e) (hte:T e=some te) {sz:Nat} (hsz:te.size=sz) {k lo len:Nat} (hx:s.ev x = .sls k lo len sz)
  {kk:IntKind} {i:Int} (hy:s.ev y = .p (.int kk i)) (h0:0≤i) (h1:i < (len:Int)):DoesW P o s (.ptr k (lo + i.toNat * sz)) s.H:=by
 intro C m a w K Q R hK
 have hu:=ti_slice (hT _ _ ht) hk
 have hss:=ti_size (hT _ _ hte) w
 have hey:=eval_int R hy
 have hv:=R.ev x
 rw [hx] at hv
 generalize hev:a.eval x=v at hv
 cases hv with
 | sls _ _ _ _ _ hk' hs =>
  obtain ⟨l,cap,hm,rfl,h2,h3⟩:=hs.resolve_left fun h=>by omega
  have hrun:(execOp a.eval o).run P w = .ok (.value (.pointer (some ⟨l.g,l.o + lo + i.toNat * sz,none⟩))) w:=by
   simp [execOp,ho,hev,hey,Instr.indexAt,asIntOf,run_underlying hu,h0,h1,hss,hsz,add_lit]
  refine opR_of_wp (by first|rfl|(rw [ho]; rfl)) ?_
  unfold Oper.wp
  rw [hrun]
  exact hK _ _ _ R (.ptr _ _ _ hk' ⟨l,hm,by rw [Nat.add_assoc]⟩)
theorem cutS_does (hT:∀ t ti,T t=some ti→tiOf P t=some ti) {o:Oper} {t:TypeId} {x y:Operand} (ho:o.op = .slice t x none (some y) none) {ti te:TI} (ht:T t=some ti) {e:TypeId} (hk:ti.kind = .slice e) (hte:T e=some te) {sz:Nat} (hsz:te.size=sz) {k lo len:Nat} (hx:s.ev x = .sls k lo len sz)
  {kk:IntKind} {i:Int} (hy:s.ev y = .p (.int kk i)) (h0:0≤i) (h1:i≤(len:Int)) (hp:0 < len):DoesW P o s (.sls k lo i.toNat sz) s.H:=by
 intro C m a w K Q R hK
 have hu:=ti_slice (hT _ _ ht) hk
 have hss:=ti_size (hT _ _ hte) w
 have hv:=R.ev x
 rw [hx] at hv
 generalize hev:a.eval x=v at hv
 cases hv with
 | sls _ _ _ _ _ hk' hs =>
  obtain ⟨l,cap,hm,rfl,h2,h3⟩:=hs.resolve_left fun h=>by omega
  have hbd:=bound_run (P:=P) (len:=len) (cap:=cap) (lo:=none) (hi:=some y) R (p:=0) (q:=i) rfl (by simp [boundA,hy]) (Int.le_refl _) h0 h1 h2
  have hrun:(execOp a.eval o).run P w = .ok (.value (.slice (some ⟨l.g,l.o + lo,none⟩) i.toNat cap)) w:=by
   simp only [Option.map_none,Option.map_some] at hbd
   simp [execOp,ho,hev,Instr.sliceAt,Instr.slice,run_underlying hu,hbd,hss,add_lit]
  refine opR_of_wp (by first|rfl|(rw [ho]; rfl)) ?_
  unfold Oper.wp
  rw [hrun]
  exact hK _ _ _ R (.sls _ _ _ _ _ hk' (.inr ⟨l,cap,hm,rfl,by omega,h3⟩))
theorem append_roomS {w:World} {t e:TypeId} {i:TypeInfo} (ty:TypeId) (ht:P.underlying t=some (.slice e)) (hi:P.info? e=some i) {sz:Nat} (hsz:i.size=sz) {g q n cap k:Nat} {cur:Array Value} {e' : TypeId} (hg:w.heap[g]? = some (.cells cur e' (0,0)))
  {b:Addr} {cx:Nat} {news:List Value} (hl:news.length=k * sz) (hx:∀ j u,news[j]? = some u→w.cell? (b.add j)=some u) (h1:∀ u∈news,u.oneCell' = true) (hroom:n + k≤cap) (hfit:q + n * sz + k * sz≤cur.size) :
  (Builtin.append_ #[t,t] ty #[.slice (some ⟨g,q,none⟩) n cap,.slice (some b) k cx]).run P w =
   .ok (.slice (some ⟨g,q,none⟩) (n + k) cap) (w.setRow g (cur.toList.take (q + n * sz)++news++cur.toList.drop (q + n * sz + news.length)).toArray):=by
 have hf:=run_firstCells_some (P:=P) w sz k b k cx news hl hx
 have hst:=run_storeCells_at P g (q + n * sz) e' news 0 cur w hg (by omega) h1
 simp only [Nat.add_zero] at hst
 simp [Builtin.append_,run_underlying ht,sizeOf,typeInfo,hi,hsz,Builtin.lenOf,hroom,hf,Addr.add_lit,hst]
theorem appS_does (hT:∀ t ti,T t=some ti→tiOf P t=some ti) {o:Oper} {t:TypeId} {x y:Operand} (ho:o.op = .call { callee:=.builtin .append,args:=#[x,y],argTypes:=#[t,t] }) {ti te:TI} (ht:T t=some ti) {e:TypeId} (hk:ti.kind = .slice e) (hte:T e=some te) {sz:Nat} (hsz:te.size=sz) (hzl:te.zero.length=sz) (h0:0 < sz) (h64:sz≤64)
  {k lo len:Nat} {c:List AV} {l:List PV} (hx:s.ev x = .sls k lo len sz) (hg:hget s.H k = .own c) (hy:s.ev y = .p (.nn l)) (hls:∀ x∈l,x.cells.length=sz) (hone:∀ x∈l,x.cells.all PV.one=true) (hl0:0 < l.length) (hc:lo + len * sz≤c.length) (hok:((c.drop lo).take (len * sz)).all cellOk=true)
  (hb:(len + l.length) * te.bytes≤140737488355328) (hbig:(len + l.length) * sz≤1000000000000) (h63:len + l.length≤1000000000000):DoesW P o s (.sls s.H.length 0 (len + l.length) sz) (hset s.H k .dead++[.own ((c.drop lo).take (len * sz)++opl (flat l))]):=by
 intro C m a w K Q R hK
 have hu:=ti_slice (hT _ _ ht) hk
 obtain ⟨i,d,z,h1,h2,h3,h4,h5,h6,h7,h8⟩:=tiOf_parts (hT _ _ hte)
 have hi:i.size=sz:=by rw [h4,hsz]
 have hz1:z.cells.size=sz:=by rw [← Array.length_toList,h6]; exact hzl
 have hkH:=hget_mut hg
 have hflen:=flat_length_eq sz l hls
 have hfone:=flat_cells hone
 have hX:=R.ev x
 have hY:=R.ev y
 rw [hx] at hX
 rw [hy] at hY
 generalize hvx:a.eval x=vx at hX
 generalize hvy:a.eval y=vy at hY
 have hlen:((c.drop lo).take (len * sz)).length=len * sz:=by simp only [List.length_take,List.length_drop]; omega
 rcases hY.p_inv.nn_inv with ⟨rfl,_⟩ | ⟨b,off,sz',vs,rfl,hbo,hsz',hcy,hry⟩
 ·simp at hl0
 have hnl:((List.range (l.length * sz)).map vs).length=l.length * sz:=by simp
 have hng:∀ j,j < l.length * sz→((List.range (l.length * sz)).map vs).getD j undef=vs j:=fun j hj=>by simp [List.getD,List.getElem?_map,List.getElem?_range hj]
 have hnx:∀ j u,((List.range (l.length * sz)).map vs)[j]? = some u→w.cell? ((⟨b,off,none⟩:Addr).add j)=some u:=fun j u hj=>by
  have hjl:j < l.length * sz:=by have:=(List.getElem?_eq_some_iff.1 hj).1; simpa using this
  simp only [List.getElem?_map,List.getElem?_range hjl,Option.map_some,Option.some.injEq] at hj
  subst hj
  rw [add_lit]; exact hcy j (by rw [hflen]; exact hjl)
 have hnv:∀ j (hj:j < (opl (flat l)).length),AVal (Reads (OK C m s.H w) w) m s.H (opl (flat l))[j] (((List.range (l.length * sz)).map vs).getD j undef):=fun j hj=>by
  rw [opl_length,hflen] at hj
  rw [hng j hj]
  simp only [opl,List.getElem_map]
  exact .p _ _ (hry j (by rw [hflen]; exact hj))
 have hone1:∀ u∈(List.range (l.length * sz)).map vs,u.oneCell' = true:=fun u hu=>by
  obtain ⟨j,hj,rfl⟩:=List.getElem_of_mem hu
  have hj2:j < l.length * sz:=by simpa using hj
  have h1:=hnv j (by rw [opl_length,hflen]; exact hj2)
  have h2:cellOk ((opl (flat l))[j]'(by rw [opl_length,hflen]; exact hj2))=true:=by
   simp only [opl,List.getElem_map,cellOk]
   exact (List.all_eq_true.1 hfone) _ (List.getElem_mem _)
  have e:((List.range (l.length * sz)).map vs).getD j undef=((List.range (l.length * sz)).map vs)[j]:=by simp [List.getD,List.getElem?_eq_getElem hj]
  rw [e] at h1
  exact (cellOk_one h2 h1).1
 have yield:∀ v w',(Builtin.append_ #[t,t] o.type #[a.eval x,a.eval y]).run P w = .ok v w'→(execOp a.eval o).run P w = .ok (.value v) w':=by
  intro v w' hr
  obtain ⟨dst,op,type,pos,after,guard⟩:=o
  simp only at ho hr
  subst ho
  simp [BigFrame.execOp_builtin,BigFrame.builtin_append,hr]
 cases hX with
 | sls _ _ _ _ _ hk' hs =>
  rcases hs with ⟨rfl,rfl⟩ | ⟨l0,cap,hm,rfl,hc1,hc2⟩
  ·have hr:=run_append_nil (P:=P) (w:=w) t o.type e i z hu h1 h3 ⟨b,off,none⟩ l.length l.length _ (by rw [hnl,hi]) hnx hl0 (by omega) (by rw [h5]; rw [Nat.zero_add] at hb; omega)
   rw [hvx,hvy] at yield
   generalize hnews:(List.range (l.length * sz)).map vs=news at hr hnl hnv
   have hge:=grownCap_ge w l.length 0 e
   have hle:=grownCap_le_maxLen w l.length 0 e (by unfold maxLen; omega)
   obtain ⟨G,hG⟩:∃ G,grownCap w l.length 0 e=G:=⟨_,rfl⟩
   rw [hG] at hr hge hle
   have hGm:l.length * sz≤G * sz:=Nat.mul_le_mul_right _ (by omega)
   have hcs:(news.toArray++Builtin.zeroCells z.cells (G - l.length)).size=G * sz:=by
    simp only [Array.size_append,List.size_toArray,size_zeroCells,hz1,hnl,Nat.sub_mul]; omega
   refine opR_of_wp (by first|rfl|(rw [ho]; rfl)) ?_
   unfold Oper.wp
   rw [yield _ _ hr]
   refine hK _ _ _ (R.moveBlk hkH (l':=⟨w.heap.size,0,G * sz⟩) ((below_drew_alloc _).toP R.base) (fun b hb _=>(below_drew_alloc _).block b hb) (.inr (Nat.le_refl _)) (e:=e) (heap_alloc_new w.drew _) hcs ?_ ?_ ?_)
    (.sls _ _ _ _ _ (by simp [hset_length]) (.inr ⟨⟨w.heap.size,0,G * sz⟩,G,by simp [mput],by simp,by omega,by simp⟩))
   ·have:G * sz≤9223372036854775807 * 64:=Nat.mul_le_mul hle h64
    unfold mxl; simp only; omega
   ·simp only [List.length_append,hlen,opl_length,hflen]; omega
   intro j hj
   simp only [List.length_append,hlen,opl_length,hflen] at hj
   simp only [Nat.zero_add]
   have eg:(news.toArray++Builtin.zeroCells z.cells (G - l.length)).getD j undef=news.getD j undef:=by
    have:=getD_new (xs:=[]) (ys:=news) (zs:=(Builtin.zeroCells z.cells (G - l.length)).toList) (j:=j) (by simp only [List.length_nil]; omega)
    rw [Array.toArray_toList] at this
    simpa using this
   rw [eg,List.getElem_append_right (by omega)]
   have key:∀ k (hk:k < (opl (flat l)).length),k=j→AVal (Reads (OK C m s.H w) w) m s.H (opl (flat l))[k] (news.getD j undef):=fun k hk e=>by
    subst e; exact hnv _ hk
   simp only [hlen]
   exact key _ _ (by omega)
  rcases R.blk k c hkH with ⟨_,hn⟩ | ⟨l',cur,e',hm2,hB,hh,hs1,hs3,hs2,hcells⟩
  ·rw [hm] at hn; cases hn
  rw [hm] at hm2; cases hm2
  by_cases hroom:len + l.length≤cap
  ·have hmul:(len + l.length) * sz≤cap * sz:=Nat.mul_le_mul_right _ hroom
   rw [Nat.add_mul] at hmul
   have hr:=append_roomS (P:=P) (w:=w) o.type hu h1 hi hh (n:=len) (cap:=cap) (q:=l0.o + lo) (cx:=l.length) hnl hnx hone1 hroom (by omega)
   rw [hvx,hvy] at yield
   have hcsz:(cur.toList.take (l0.o + lo + len * sz)++(List.range (l.length * sz)).map vs++cur.toList.drop (l0.o + lo + len * sz + ((List.range (l.length * sz)).map vs).length)).toArray.size=l0.n:=by
    simp only [List.size_toArray,List.length_append,List.length_take,List.length_drop,Array.length_toList,hnl]; omega
   refine opR_of_wp (by first|rfl|(rw [ho]; rfl)) ?_
   unfold Oper.wp
   rw [yield _ _ hr]
   refine hK _ _ _ (R.moveBlk hkH (l':=⟨l0.g,l0.o + lo,l0.n⟩) ?_ (fun b hb hne=>setRow_other w l0.g b _ (hne l0 hm)) (.inl ⟨l0,hm,rfl⟩) (setRow_heap w l0.g cur _ e' _ hh) hcsz hs3 ?_ ?_)
    (.sls _ _ _ _ _ (by simp [hset_length]) (.inr ⟨⟨l0.g,l0.o + lo,l0.n⟩,cap,by simp [mput],rfl,by omega,by simp only; omega⟩))
   ·exact ⟨rfl,rfl,rfl,by simp [World.setRow],fun b hb=>setRow_other w l0.g b _ (fun e=>hb (by rw [e]; exact hB)),Nat.le_refl _⟩
   ·simp only [List.length_append,hlen,opl_length,hflen]; omega
   intro j hj
   simp only [List.length_append,hlen,opl_length,hflen] at hj
   dsimp only
   rw [stored_getD (by rw [hnl,hs1]; omega)]
   by_cases hjl:j < len * sz
   ·rw [if_neg (by omega),List.getElem_append_left (by omega)]
    simp only [List.getElem_take,List.getElem_drop]
    have:=hcells (lo + j) (by omega)
    rwa [← Nat.add_assoc] at this
   rw [if_pos (by rw [hnl]; omega),List.getElem_append_right (by omega)]
   have:=hnv (j - len * sz) (by rw [opl_length,hflen]; omega)
   simp only [hlen]
   rwa [show l0.o + lo + j - (l0.o + lo + len * sz)=j - len * sz by omega]
  have hol:((List.range (len * sz)).map fun j=>cur.getD (l0.o + lo + j) undef).length=len * sz:=by simp
  have hox:∀ j u,((List.range (len * sz)).map fun j=>cur.getD (l0.o + lo + j) undef)[j]? = some u→w.cell? ((⟨l0.g,l0.o + lo,none⟩:Addr).add j)=some u:=fun j u hj=>by
   have hjl:j < len * sz:=by have:=(List.getElem?_eq_some_iff.1 hj).1; simpa using this
   simp only [List.getElem?_map,List.getElem?_range hjl,Option.map_some,Option.some.injEq] at hj
   subst hj
   rw [add_lit]; exact cell_of hh (by omega)
  have hr:=run_append_grow (P:=P) w t o.type e i z hu h1 h3 ⟨l0.g,l0.o + lo,none⟩ len cap _ (by rw [hol,hi]) hox ⟨b,off,none⟩ l.length l.length _ (by rw [hnl,hi]) hnx (by omega) (by omega) (growslice_fits (by omega) (by rw [h5]; exact hb))
  rw [hvx,hvy] at yield
  generalize holds:(List.range (len * sz)).map (fun j=>cur.getD (l0.o + lo + j) undef)=olds at hr hol
  generalize hnews:(List.range (l.length * sz)).map vs=news at hr hnl hnv
  have hge:=grownCap_ge w (len + l.length) cap e
  have hle:=grownCap_le_maxLen w (len + l.length) cap e (by unfold maxLen; omega)
  obtain ⟨G,hG⟩:∃ G,grownCap w (len + l.length) cap e=G:=⟨_,rfl⟩
  rw [hG] at hr hge hle
  have hGm:(len + l.length) * sz≤G * sz:=Nat.mul_le_mul_right _ (by omega)
  rw [Nat.add_mul] at hGm
  have hcs:(olds.toArray++news.toArray++Builtin.zeroCells z.cells (G - (len + l.length))).size=G * sz:=by
   simp only [Array.size_append,List.size_toArray,size_zeroCells,hz1,hol,hnl,Nat.sub_mul,Nat.add_mul]; omega
  refine opR_of_wp (by first|rfl|(rw [ho]; rfl)) ?_
  unfold Oper.wp
  rw [yield _ _ hr]
  refine hK _ _ _ (R.moveBlk hkH (l':=⟨w.heap.size,0,G * sz⟩) ((below_drew_alloc _).toP R.base) (fun b hb _=>(below_drew_alloc _).block b hb) (.inr (Nat.le_refl _)) (e:=e) (heap_alloc_new w.drew _) hcs ?_ ?_ ?_)
   (.sls _ _ _ _ _ (by simp [hset_length]) (.inr ⟨⟨w.heap.size,0,G * sz⟩,G,by simp [mput],rfl,by omega,by simp⟩))
  ·have:G * sz≤9223372036854775807 * 64:=Nat.mul_le_mul hle h64
   unfold mxl; simp only; omega
  ·simp only [List.length_append,hlen,opl_length,hflen]; omega
  intro j hj
  simp only [List.length_append,hlen,opl_length,hflen] at hj
  simp only [Nat.zero_add]
  have eg:(olds.toArray++news.toArray++Builtin.zeroCells z.cells (G - (len + l.length))).getD j undef=if j < olds.length then olds.getD j undef else news.getD (j - olds.length) undef:=by
   have:=getD_new (xs:=olds) (ys:=news) (zs:=(Builtin.zeroCells z.cells (G - (len + l.length))).toList) (j:=j) (by omega)
   rwa [Array.toArray_toList] at this
  rw [eg]
  by_cases hjl:j < len * sz
  ·rw [if_pos (by omega),List.getElem_append_left (by omega)]
   simp only [List.getElem_take,List.getElem_drop]
   have h9:=hcells (lo + j) (by omega)
   have:olds.getD j undef=cur.getD (l0.o + lo + j) undef:=by
    rw [← holds]
    simp [List.getD,List.getElem?_map,List.getElem?_range hjl]
   rw [this]
   rwa [← Nat.add_assoc] at h9
  rw [if_neg (by omega),List.getElem_append_right (by omega)]
  have:=hnv (j - len * sz) (by rw [opl_length,hflen]; omega)
  simp only [hlen,hol]
  exact this
theorem hk_own0s {c:Code} {Q:Exit→St→Prop} (t sz:Nat) (hs:s.get t = .p .nil) (h:Holds P c Q { s with sl:=(t,.sls s.H.length 0 0 sz) :: s.sl,H:=s.H++[.own []] }):Holds P c Q s:=by
 intro r ds C m a w R hd
 have hv:=R.slot t
 rw [hs] at hv
 have hv:=hv.p_inv.nil_inv
 have R':=R.newNil
 refine h r ds C _ a w ⟨R'.laid,R'.below,R'.base,R'.size,R'.inj,R'.blk,R'.fro,fun t'=>?_,R'.mp⟩ hd
 by_cases e:t=t'
 ·subst e
  have e2:({ s with sl:=(t,.sls s.H.length 0 0 sz) :: s.sl,H:=s.H++[.own []] } : St).get t = .sls s.H.length 0 0 sz:=by simp [St.get,lk]
  rw [e2,hv]
  exact .sls _ _ _ _ _ (by simp) <| .inl ⟨rfl,rfl⟩
 have e2:({ s with sl:=(t,.sls s.H.length 0 0 sz) :: s.sl,H:=s.H++[.own []] } : St).get t' = s.get t':=by simp [St.get,lk,show (t == t')=false by simpa using e]
 rw [e2]
 exact R'.slot t'
end
end Go.Pv

namespace Go.Pv
open Go.RowKit
section
variable {P:Program} {C:Ctx} {m:Map} {s:St} {tmps:Array Value} {w:World}
def holdC (C:Ctx) (X:Nat→Prop) (w:World):Ctx:=⟨fun b=>C.okA b∨C.B b,fun b=>C.B b∧¬ X b,w,C.anc⟩
theorem holdC_ok (C:Ctx) (X:Nat→Prop) (w0:World) (m:Map) (H:Heap) (w:World):OK (holdC C X w0) m H w=OK C m H w:=by
 funext b
 unfold OK holdC
 refine propext ⟨fun h=>⟨?_,h.2⟩,fun h=>⟨.inl h.1,h.2⟩⟩
 rcases h.1 with h1 | h1
 ·exact h1
 exact .inr h1.1
theorem Rel.hold (R:Rel C m s tmps w) (X:Nat→Prop) (hX:∀ b,X b→b < w.heap.size∧∀ cur e sh,w.heap[b]? ≠ some (.cells cur e sh))
  (hmp:∀ (k:Nat) (kk:IntKind) (d:Int→Bool) (v:Int→PV) (l:Loc),s.H[k]? = some (Blk.mp kk d v)→m k=some l→¬ X l.g) (hlp:∀ b,X b→∀ rr,w.heap[b]? ≠ some (.loop rr)):Rel (holdC C X w) m s tmps w:=by
 have e:=holdC_ok C X w m s.H w
 refine ⟨by rw [e]; exact R.laid,BelowP.refl _ _,fun b hb=>⟨R.base b hb,fun hx=>by have:=(hX b hx).1; omega⟩,R.size,R.inj,fun k c h=>?_,by rw [e]; exact R.fro,by rw [e]; exact R.slot,fun k kk d v h=>?_,R.mp.2.1,R.mp.2.2.1,fun k rr h=>(let ⟨l,a1,a2,a3⟩:=R.mp.2.2.2.1 k rr h; ⟨l,a1,⟨a2,fun hx=>hlp _ hx _ a3⟩,a3⟩),R.mp.2.2.2.2⟩
 ·rw [e]
  rcases R.blk k c h with h1 | ⟨l,cur,ee,a1,a2,a3,a4⟩
  ·exact .inl h1
  exact .inr ⟨l,cur,ee,a1,⟨a2,fun hx=>(hX _ hx).2 _ _ _ a3⟩,a3,a4⟩
 rw [e]
 obtain ⟨l,ar,clk,vs,a1,a2,a3⟩:=R.mp.1 k kk d v h
 exact ⟨l,ar,clk,vs,a1,⟨a2,hmp k kk d v l h a1⟩,a3⟩
theorem BelowP.monoB {B B' : Nat→Prop} {a b:World} (h:BelowP B a b) (hB:∀ k,B k→B' k):BelowP B' a b:=
 ⟨h.os,h.tape,h.output,h.size,fun k hk=>h.block k fun hh=>hk (hB k hh),h.dr⟩
theorem Rel.anew {X:Nat→Prop} {w0:World} (R:Rel (holdC C X w0) m s tmps w):Rel (holdC C X w) m s tmps w:=by
 have e:OK (holdC C X w) m s.H w=OK (holdC C X w0) m s.H w:=(holdC_ok C X w m s.H w).trans (holdC_ok C X w0 m s.H w).symm
 exact ⟨by rw [e]; exact R.laid,BelowP.refl _ _,R.base,R.size,R.inj,by rw [e]; exact R.blk,by rw [e]; exact R.fro,by rw [e]; exact R.slot,by rw [e]; exact R.mp⟩
theorem Rel.turn {X:Nat→Prop} {w0 w2:World} (R:Rel (holdC C X w0) m s tmps w) {r:Nat} (hr:X r) (hw:∀ cur e sh,w.heap[r]? ≠ some (.cells cur e sh)) (h1:∀ b,b ≠ r→w2.heap[b]? = w.heap[b]?) (h2:w2.heap.size=w.heap.size):Rel (holdC C X w2) m s tmps w2:=by
 have e:OK (holdC C X w2) m s.H w2=OK (holdC C X w0) m s.H w:=by
  rw [holdC_ok,holdC_ok]
  funext b
  unfold OK
  rw [h2]
 have hcell:∀ (b o:Nat) (x:Value),w.cell? ⟨b,o,none⟩=some x→w2.cell? ⟨b,o,none⟩=some x:=fun b o x h=>by
  by_cases eb:b=r
  ·subst eb
   exfalso
   unfold World.cell? at h
   split at h
   ·rename_i hh; exact hw _ _ _ hh
   cases h
  rw [World.cell?_of_block (w:=w) (h1 b eb)]; exact h
 have rdx:∀ p x,Reads (OK (holdC C X w0) m s.H w) w p x→Reads (OK (holdC C X w0) m s.H w) w2 p x:=fun p x h=>h.extc (fun _ h=>h) fun b o y _ hc=>hcell b o y hc
 refine ⟨by rw [e]; exact R.laid.ext rdx,BelowP.refl _ _,by rw [h2]; exact R.base,R.size,R.inj,fun k c h=>?_,fun k c h=>?_,fun t=>?_,fun k kk d v h=>?_,R.mp.2.1,R.mp.2.2.1,fun k rr h=>(let ⟨l,a1,a2,a3⟩:=R.mp.2.2.2.1 k rr h; ⟨l,a1,a2,(h1 _ fun eb=>a2.2 (by rw [eb]; exact hr)).trans a3⟩),R.mp.2.2.2.2⟩
 ·rw [e]
  have hb:=R.blk k c h
  refine hb.ext rdx (Nat.le_refl _) (fun _ _=>rfl) rfl fun l hl=>?_
  rcases hb with ⟨_,hn⟩ | ⟨l2,cur,ee,a1,a2,a3,_⟩
  ·rw [hl] at hn; cases hn
  rw [hl] at a1; cases a1
  exact h1 _ fun eb=>a2.2 (eb ▸ hr)
 ·rw [e]
  rcases R.fro k c h with h' | ⟨l2,vs2,b1,b2,b3,b4⟩
  ·exact .inl h'
  exact .inr ⟨l2,vs2,b1,b2,b3,fun i hi=>⟨hcell _ _ _ (b4 i hi).1,rdx _ _ (b4 i hi).2⟩⟩
 ·rw [e]
  exact (R.slot t).ext rdx (Nat.le_refl _) fun _ _=>rfl
 rw [e]
 obtain ⟨l,ar,clk,vs,a1,a2,a3,a4,a5,a6,a7⟩:=R.mp.1 k kk d v h
 have hne:l.g ≠ r:=fun eb=>a2.2 (eb ▸ hr)
 exact ⟨l,ar,clk,vs,a1,a2,by rw [h1 _ hne]; exact a3,a4,a5,a6,fun z hz=>rdx _ _ (a7 z hz)⟩
def ItOk (ar:Array MapEntry) (clk bm r:Nat) (L:List Int) (w:World):Prop:=
 w.heap[bm]? = some (.map ar clk)∧∃ (seen:Array Nat) (vis:List MapEntry),w.heap[r]? = some (.mapIter (some bm) clk seen clk)∧(∀ e∈vis,e∈ar.toList)∧seen.toList=vis.map MapEntry.born∧L=vis.map (fun e=>keyZ e.key)∧L.Nodup
def itLeft (ar:Array MapEntry) (r:Nat) (w:World):Nat:=
 match w.heap[r]? with
 | some (.mapIter _ _ seen _)=>(leftOf ar seen).size
 | _=>0
theorem nodup_inj {α β:Type} {f:α→β} : ∀ {l:List α},(l.map f).Nodup→∀ {x y:α},x∈l→y∈l→f x=f y→x=y
 | a :: r,h,x,y,hx,hy,e=>by
  obtain ⟨h1,h2⟩:=List.nodup_cons.1 h
  rcases List.mem_cons.1 hx with rfl | hx'
  ·rcases List.mem_cons.1 hy with rfl | hy'
   ·rfl
   exact absurd (e ▸ List.mem_map.2 ⟨y,hy',rfl⟩) h1
  rcases List.mem_cons.1 hy with rfl | hy'
  ·exact absurd (e ▸ List.mem_map.2 ⟨x,hx',rfl⟩) h1
  exact nodup_inj h2 hx' hy' e
end
end Go.Pv

namespace Go.Pv
open Go.RowKit
theorem LeH_congr {π:List Nat} {H H2:Heap} : ∀ {ks:List Nat} {H1:Heap},(∀ k∈ks,hget H2 k=hget H k)→LeH π H ks H1→LeH π H2 ks H1
 | [],[],_,_=>trivial
 | [],_ :: _,_,h=>h.elim
 | _ :: _,[],_,h=>h.elim
 | k :: ks,b :: r,he,h=>by
  refine ⟨?_,LeH_congr (fun j hj=>he j (by simp [hj])) h.2⟩
  have h1:=h.1
  have e:=he k (by simp)
  cases b<;>simp only [LeB,e] at h1 ⊢<;>exact h1
def argN1 (ks:List Nat) (x a:AV):Prop:=
 match a with
 | .p pv=>x = .p pv
 | a=>x=Go.Pv.ren ks a∧scA ks.length a=true
def argsN (ks:List Nat):List AV→List AV→Prop
 | x :: xs,a :: avs=>argN1 ks x a∧argsN ks xs avs
 | [],[]=>True
 | _,_=>False
theorem argsN_M {H:Heap} {ks:List Nat} : ∀ {X avs:List AV},argsN ks X avs→argsM H ks X avs
 | [],[],_=>trivial
 | [],_ :: _,h=>h.elim
 | _ :: _,[],h=>h.elim
 | x :: xs,a :: avs,h=>by
  refine ⟨?_,argsN_M h.2⟩
  have h1:=h.1
  cases a with
  | p pv =>
   simp only [argN1] at h1
   subst h1
   simp only [argM1,peekG,peekS,and_self]
  | _=>simp only [argN1] at h1; simp only [argM1]; exact h1
theorem putM_zip:∀ (ks:List Nat) (bs H:Heap),ks.Nodup→ks.length=bs.length→putM H ks bs=setL H (ks.zip bs)
 | [],[],H,_,_=>by simp [putM,setL]
 | [],_ :: _,H,_,h=>by simp at h
 | _ :: _,[],H,_,h=>by simp at h
 | k :: ks,b :: bs,H,hn,hl=>by
  rw [List.nodup_cons] at hn
  simp only [putM,List.zip_cons_cons,setL]
  rw [putM_zip ks bs _ hn.2 (by simpa using hl)]
  have hno:((ks.zip bs).any fun p=>p.1 == k)=false:=by
   rw [List.any_eq_false]
   intro p hp e
   have e:p.1=k:=by simpa using e
   exact hn.1 (e ▸ (List.of_mem_zip hp).1)
  refine hget_ext (by rw [setL_length,hset_length,hset_length,setL_length]) fun j=>?_
  rw [setL_hget,hset_length,hset_hget,hset_hget,setL_length,setL_hget]
  by_cases h:j=k
  ·subst h
   rw [hno,if_neg (fun hh=>by cases hh.1)]
   by_cases h2:j < H.length
   ·rw [if_pos ⟨rfl,h2⟩,if_pos ⟨rfl,h2⟩]
   rw [if_neg (fun hh=>h2 hh.2),if_neg (fun hh=>h2 hh.2),if_neg (fun hh=>by cases hh.1)]
  rw [if_neg (show ¬ (j=k∧k < H.length) from fun hh=>h hh.1),if_neg (show ¬ (j=k∧k < H.length) from fun hh=>h hh.1)]
section
variable {P:Program} {s:St}
theorem runs2_callM {all:Array Oper} {rest:List Oper} {K:St→List I2→Prop} {acc:List I2} {dst:Option Tmp} {ty:TypeId} {pos:String} {aft:Array Edge} {gd:Option (Nat × Bool)} {fo:Operand} {args:Array Operand} {ts:Array TypeId} {g:FuncId} {avs:List AV} {H0 H1:Heap} {r:AV} (ks:List Nat)
  (hc:FnM P g avs H0 r H1) (hlen:ks.length=H1.length) {cap:List PV} (hfo:s.ev fo = .p (.fn g cap)) (hg:guardA all s { dst:=dst,op:=.call { callee:=.value fo,args:=args,argTypes:=ts },type:=ty,pos:=pos,after:=aft,guard:=gd } = some true)
  (hargs:argsN ks (args.toList.map s.ev++cap.map .p) avs) (hle:LeH ks s.H ks H0) (hnd:ks.Nodup) (hks:∀ k∈ks,k < s.H.length) (hsc:scM r H0 H1=true) (hd:dstOk s dst)
  (h:Runs2 P all rest K (({ s with H:=setL s.H (ks.zip (H1.map (Blk.ren ks))) } : St).put dst (Go.Pv.ren ks r)) (acc++[⟨.ms (ks.zip (H1.map (Blk.ren ks))),Go.Pv.ren ks r,.dead,false⟩])) :
  Runs2 P all ({ dst:=dst,op:=.call { callee:=.value fo,args:=args,argTypes:=ts },type:=ty,pos:=pos,after:=aft,guard:=gd } :: rest) K s acc:=by
 obtain ⟨s',xs,hr,hK⟩:=h
 have hz:∀ p∈ks.zip (H1.map (Blk.ren ks)),p.1∈ks∧p.2∈H1.map (Blk.ren ks):=fun p hp=>List.of_mem_zip hp
 refine ⟨s',⟨.ms (ks.zip (H1.map (Blk.ren ks))),Go.Pv.ren ks r,.dead,false⟩ :: xs,.op hg (dstOk_spec hd) ⟨⟨fun p hp=>hks _ (hz p hp).1,fun p hp i j e=>?_⟩,?_⟩ (fun h=>by cases h) hr,by rw [List.append_assoc] at hK; exact hK⟩
 ·obtain ⟨b,hb,e2⟩:=List.mem_map.1 (hz p hp).2
  unfold scM at hsc
  simp only [Bool.and_eq_true] at hsc
  have:=(List.all_eq_true.1 hsc.1.1.1.2) b hb
  rw [e] at e2
  cases b<;>simp [Blk.ren] at e2 this
 intro s2 hn ha hH
 simp only [Agree,Op.operands,Call.operands] at ha
 have h1:s2.ev fo = .p (.fn g cap):=(ha fo (by simp)).trans hfo
 have h2:args.toList.map s2.ev=args.toList.map s.ev:=List.map_congr_left fun x hx=>ha x (by simp; right; simpa using hx)
 have hHl:∀ k∈ks,k < s2.H.length∧hget s2.H k=hget s.H k:=fun k hk=>by
  obtain ⟨i,hi,e⟩:=List.getElem_of_mem hk
  have hi2:i < (ks.zip (H1.map (Blk.ren ks))).length:=by simp; omega
  have:=hH _ (List.getElem_mem hi2)
  rwa [List.getElem_zip,e] at this
 have hle2:=LeH_congr (fun k hk=>(hHl k hk).2) hle
 have hdo:=call_doesM (P:=P) (s:=s2) (o:={ dst:=dst,op:=.call { callee:=.value fo,args:=args,argTypes:=ts },type:=ty,pos:=pos,after:=aft,guard:=gd }) rfl h1 hc (ks:=ks) (by rw [h2]; exact argsN_M hargs) hle2 hnd (List.all_eq_true.2 fun k hk=>by simpa using (hHl k hk).1) hsc
 have e0:H1.length - ks.length=0:=by omega
 rw [e0] at hdo
 simp only [List.range'_zero,List.append_nil] at hdo
 rw [putM_zip ks _ _ hnd (by simp [hlen])] at hdo
 exact hdo
end
end Go.Pv

namespace Go.Pv
open Go.RowKit
def fr (M:List (List Int)):Heap:=M.map fun v=>.fro (il v)
theorem hget_eq:∀ (H:Heap) (k:Nat),hget H k=H.getD k .dead
 | [],k=>by simp [hget]
 | b :: r,0=>by simp [hget]
 | b :: r,k + 1=>by rw [hget,hget_eq r k]; simp
theorem hset_eq:∀ (H:Heap) (k:Nat) (b:Blk),hset H k b=H.set k b
 | [],k,b=>by simp [hset]
 | x :: r,0,b=>by simp [hset]
 | x :: r,k + 1,b=>by rw [hset,hset_eq r k]; simp
theorem hget_snoc (A:Heap) (x:Blk):hget (A++[x]) A.length=x:=by
 rw [hget_app2 (Nat.le_refl _),Nat.sub_self]; rfl
section
variable {P:Program} {c:Code} {Q:Exit→St→Prop}
end
end Go.Pv

namespace Go.Pv
open Go.RowKit
theorem ren1_id {L:Nat} {x:AV} (h:sc1 L x=true):ren1 (List.range L) x=x:=by
 have hg:∀ k,k < L→(List.range L).getD k 0=k:=fun k hk=>by simp [List.getD,List.getElem?_range hk]
 cases x<;>simp only [sc1,decide_eq_true_eq] at h<;>first|rfl|(simp only [ren1,hg _ h])
theorem ren_id {L:Nat} {x:AV} (h:scA L x=true):Go.Pv.ren (List.range L) x=x:=by
 have hg:∀ k,k < L→(List.range L).getD k 0=k:=fun k hk=>by simp [List.getD,List.getElem?_range hk]
 have hm:∀ l:List AV,l.all (sc1 L)=true→l.map (ren1 (List.range L))=l:=fun l hl=>by
  have:=List.map_congr_left (f:=ren1 (List.range L)) (g:=id) fun x hx=>ren1_id ((List.all_eq_true.1 hl) x hx)
  rw [this,List.map_id]
 cases x with
 | agg l=>simp only [Go.Pv.ren]; rw [hm l h]
 | tup l=>simp only [Go.Pv.ren]; rw [hm l h]
 | cl f l=>simp only [Go.Pv.ren]; rw [hm l h]
 | yv k l vs =>
  simp only [scA,Bool.and_eq_true,decide_eq_true_eq] at h
  simp only [Go.Pv.ren]; rw [hm l h.2,hg _ h.1]
 | _=>simp only [Go.Pv.ren]; exact ren1_id (by simpa only [scA] using h)
def hsc (L:Nat):Blk→Bool
 | .own c=>c.all (scA L)
 | .anc _ j=>decide (j < L)
 | _=>true
theorem leH_same {L:Nat} {H:Heap} (hs:∀ b∈H,hsc L b=true):∀ (H1:Heap) (a:Nat),(∀ i,i < H1.length→hget H (a + i)=hget H1 i)→(∀ b∈H1,b∈H)→a + H1.length≤L→LeH (List.range L) H (List.range' a H1.length) H1
 | [],a,_,_,_=>trivial
 | b :: r,a,h,hm,hl=>by
  rw [List.length_cons] at hl ⊢
  rw [List.range'_succ]
  refine ⟨?_,leH_same hs r (a + 1) (fun i hi=>?_) (fun x hx=>hm x (by simp [hx])) (by omega)⟩
  ·have h0:=h 0 (by simp)
   simp only [hget,Nat.add_zero] at h0
   have hb:=hs b (hm b (by simp))
   cases b with
   | own c =>
    simp only [LeB,h0,List.length_range]
    refine ⟨?_,hb⟩
    rw [List.take_of_length_le (Nat.le_refl _)]
    have:=List.map_congr_left (f:=Go.Pv.ren (List.range L)) (g:=id) fun x hx=>ren_id ((List.all_eq_true.1 hb) x hx)
    rw [this,List.map_id]
   | anc i j =>
    simp only [hsc,decide_eq_true_eq] at hb
    simp only [LeB,h0,List.length_range]
    refine ⟨?_,hb⟩
    simp [List.getD,List.getElem?_range hb]
   | dead=>trivial
   | _=>simp only [LeB,h0]
  have:=h (i + 1) (by simp; omega)
  rw [show a + 1 + i=a + (i + 1) by omega,this]; rfl
theorem LeS_same {L:Nat} {s:St} : ∀ {l:List (Nat × AV)},(∀ p∈l,s.get p.1=p.2∧scA L p.2=true)→LeS (List.range L) l s
 | [],_=>trivial
 | (t,x) :: r,h=>by
  obtain ⟨h1,h2⟩:=h (t,x) (by simp)
  refine ⟨by rw [ren_id h2]; exact h1,by rw [List.length_range]; exact h2,LeS_same fun p hp=>h p (by simp [hp])⟩
theorem le_same {S s:St} (hn:S.n=s.n) (hH:S.H=s.H) (hs:∀ b∈s.H,hsc s.H.length b=true) (hsl:∀ p∈S.sl,s.get p.1=p.2∧scA s.H.length p.2=true):Le (List.range s.H.length) S s:=by
 refine ⟨hn,List.nodup_range,?_,LeS_same hsl⟩
 rw [hH]
 have:=leH_same hs s.H 0 (fun i _=>by rw [Nat.zero_add]) (fun b hb=>hb) (by omega)
 rwa [← List.range_eq_range'] at this
theorem ancs_hsc {L k n:Nat} (h:k + n≤L):∀ b∈ancs k n,hsc L b=true:=fun b hb=>by
 obtain ⟨j,hj⟩:=List.getElem?_of_mem hb
 obtain ⟨h1,rfl⟩:=ancs_get _ _ _ _ hj
 simp [hsc]; omega
end Go.Pv

namespace Go.Pv
open Go.RowKit
section
variable {P:Program} {T:TypeId→Option TI} {s:St}
def DoesE (P:Program) (o:Oper) (s:St) (O:AV→Heap→Prop):Prop:=
 ∀ C m (a:Act) w (K:Act→World→Prop) (Q:Exit→Act→World→Prop),Rel C m s a.tmps w →
  (∀ v m' w' av H',O av H'→Rel C m' { s with H:=H' } a.tmps w'→AVal (Reads (OK C m' H' w') w') m' H' av v→K (a.put o.dst v) w')→opR P o a w K Q
theorem Run1.soundK {all:Array Oper} {Q:Exit→Act→World→Prop} {C:Ctx} {ds:List Deferred} {rest:List Oper} : ∀ {ops:List Oper} {s s' : St} {draw:Bool},Run1 P draw all ops s s'→∀ {m:Map} {a:Act} {w:World},Rel C m s a.tmps w→a.defers=ds →
  (∀ m' (a' : Act) w',Rel C m' s' a'.tmps w'→a'.defers=ds→lstR P all Q rest a' w')→lstR P all Q (ops++rest) a w:=by
 intro ops
 induction ops with
 | nil =>
  intro s s' draw h m a w R hd hQ
  cases h
  exact hQ m a w R hd
 | cons o r ih =>
  intro s s' draw h m a w R hd hQ
  cases h with
  | cons h hr =>
   cases h with
   | skip hg hlt =>
    have hw:=guardA_wanted (P:=P) R hg
    refine lstR_skip hw (ih hr (m:=m) ?_ (by rw [put_defers]; exact hd) hQ)
    exact R.put hlt (.p _ _ reads_un)
   | op av H' hg hlt h hl =>
    have hw:=guardA_wanted (P:=P) R hg
    refine lstR_step fun K hK=>?_
    rw [if_pos hw]
    refine h C m a w K Q R fun v m' w' R' hv=>hK _ _ (ih hr (m:=m') ?_ (by rw [put_defers]; exact hd) hQ)
    exact R'.put hlt hv
theorem hk_regE {id:Nat} {L:List Oper} {Q:Exit→St→Prop} (n:Nat)
  (h:Runs P false L.toArray (L.take n) (fun s1=>∃ o O,L[n]? = some o∧guardA L.toArray s1 o=some true∧dstOk s1 o.dst∧DoesE P o s1 O∧∀ av H',O av H'→Runs P false L.toArray (L.drop (n + 1)) (Q .normal) (({ s1 with H:=H' } : St).put o.dst av)) s):Holds P (.region id L.toArray false) Q s:=by
 intro r ds C m a w R hd
 obtain ⟨s1,hr,o,O,ho,hg,hdst,hdo,hrest⟩:=h
 refine wpR_region_lit ?_
 have hL:L=L.take n++(o :: L.drop (n + 1)):=by
  have hn:=(List.getElem?_eq_some_iff.1 ho).1
  have h1:=List.drop_eq_getElem_cons (l:=L) (i:=n) hn
  rw [List.getElem?_eq_getElem hn,Option.some.injEq] at ho
  rw [ho] at h1
  rw [← h1,List.take_append_drop]
 have go:lstR P L.toArray (fun e a' w'=>∃ s' m',Q e s'∧Rel C m' s' a'.tmps w'∧a'.defers=ds) (L.take n++(o :: L.drop (n + 1))) a w:=by
  refine hr.soundK R hd fun m' a' w' R' hd'=>?_
  have hw:=guardA_wanted (P:=P) R' hg
  refine lstR_step fun K hK=>?_
  rw [if_pos hw]
  refine hdo C m' a' w' K _ R' fun v m2 w2 av H' hO R2 hv=>hK _ _ ?_
  obtain ⟨s2,hr2,hQ⟩:=hrest av H' hO
  exact hr2.sound (R2.put (dstOk_spec hdst) hv) (by rw [put_defers]; exact hd') fun m3 a3 w3 R3 hd3=>⟨s2,m3,hQ,R3,hd3⟩
 rwa [← hL] at go
def FnE (P:Program) (f:FuncId) (args:List AV) (H0:Heap) (Post:AV→Heap→Prop):Prop:=
 Fun P f∧∀ (C:Ctx) (m:Map) (w:World) (vals:Array Value),Rel C m ⟨args.length,entA 0 args,H0++ancs 0 H0.length⟩ vals w →
  Calls P f vals w fun e w'=>∃ v m' r H1,Post r H1∧e = .returned v∧Rel C m' ⟨1,[(0,r)],H1++ancs 0 H0.length⟩ #[v] w'
theorem FnM.toE {f:FuncId} {args:List AV} {H0 H1:Heap} {r:AV} (h:FnM P f args H0 r H1):FnE P f args H0 (fun r' H'=>r' = r∧H' = H1):=
 ⟨h.1,fun C m w vals R=>(h.2 C m w vals R).mono fun e w' ⟨v,m',he,R'⟩=>⟨v,m',r,H1,⟨rfl,rfl⟩,he,R'⟩⟩
theorem FnE.mono {f:FuncId} {args:List AV} {H0:Heap} {Post Post' : AV→Heap→Prop} (h:FnE P f args H0 Post) (hp:∀ r H,Post r H→Post' r H):FnE P f args H0 Post':=
 ⟨h.1,fun C m w vals R=>(h.2 C m w vals R).mono fun e w' ⟨v,m',r,H1,hP,he,R'⟩=>⟨v,m',r,H1,hp r H1 hP,he,R'⟩⟩
theorem FnE.one {f:FuncId} {args:List AV} {H0 H1:Heap} {r:AV} {Post:AV→Heap→Prop} (h:FnE P f args H0 Post) (hp:∀ r' H',Post r' H'→r' = r∧H' = H1):FnM P f args H0 r H1:=
 ⟨h.1,fun C m w vals R=>(h.2 C m w vals R).mono fun e w' ⟨v,m',r',H',hP,he,R'⟩=>by obtain ⟨rfl,rfl⟩:=hp r' H' hP; exact ⟨v,m',he,R'⟩⟩
theorem fne_of (hT:∀ t ti,T t=some ti→tiOf P t=some ti) {f:FuncId} {fn:Func} {c:Code} {args:List AV} {H0:Heap} {Post:AV→Heap→Prop} (hf:P.funcs[f]? = some fn) (hb:fn.body=some c) (hnm:(fn.name == "runtime.NumGoroutine")=false) (hn:args.length≤fn.ntmps)
  (h:Holds P c (fun e s'=>∃ av H1,Post av H1∧PostG T fn.results.toList av (H1++ancs 0 H0.length) e s') ⟨fn.ntmps,entA 0 args,H0++ancs 0 H0.length⟩):FnE P f args H0 Post:=by
 refine ⟨⟨fn,hf,hnm,by rw [hb]; rfl⟩,fun C m w vals R0=>calls_of_wp hf hb (wpR_none.1 ?_)⟩
 have hsz:vals.size=args.length:=R0.size
 have R:Rel C m ⟨fn.ntmps,entA 0 args,H0++ancs 0 H0.length⟩ (vals++Array.replicate (fn.ntmps - vals.size) undef) w:=by
  refine ⟨R0.laid,R0.below,R0.base,by simp; omega,R0.inj,R0.blk,R0.fro,fun t=>?_,R0.mp⟩
  have hs:=R0.slot t
  by_cases ht:t < vals.size
  ·rw [Array.getD_eq_getD_getElem?,Array.getElem?_append_left ht,← Array.getD_eq_getD_getElem?]
   exact hs
  have e:lk (entA 0 args) t = .dead:=by
   rw [entA_lk,if_pos (Nat.zero_le _),List.getD_eq_getElem?_getD,List.getElem?_eq_none (by omega)]; rfl
  unfold St.get
  simp only
  rw [e]
  exact .dead _
 refine wpR_mono (h none [] _ _ { tmps:=vals++Array.replicate (fn.ntmps - vals.size) undef,defers:=[] } w R rfl) fun e a' w' ⟨s',m',⟨av,H1,hP,h1⟩,h2,h3⟩=>?_
 have fini:endG T fn.results.toList av (H1++ancs 0 H0.length) s'→a'.defers=[]∧∃ v,(results fn a'.tmps).run P w' = .ok v w'∧∃ v_1 m'' r H1,Post r H1∧Ending.returned v = .returned v_1∧Rel C m'' ⟨1,[(0,r)],H1++ancs 0 H0.length⟩ #[v_1] w':=by
  intro he
  unfold endG at he
  split at he
  ·rename_i p l hl
   obtain ⟨hp,π,hav,hsc,hle⟩:=he
   obtain ⟨vs,e1,e2,e3⟩:=rvsA_run hT h2 fn.results.toList hl hp
   have hv:=mkTup_val (w:=w') e2 e3
   have R':=h2.weaken hle
   rw [hav] at hv
   have hlen:(H1++ancs 0 H0.length).length=π.length:=(hle.2.2.1.get).1.symm
   have ho:=OK.weaken (C:=C) (m:=m') (w:=w') hle.2.2.1
   have hv2:=hv.unren (fun p v h=>h.mono ho) hlen hsc
   refine ⟨h3,(if h:vs.toArray.size=1 then vs.toArray[0] else .tuple vs.toArray),?_,_,_,av,H1,hP,rfl,R'.laid,R'.below,R'.base,rfl,R'.inj,R'.blk,R'.fro,fun t=>?_,R'.mp⟩
   ·rw [results_eq,Array.mapM_eq_mapM_toList]
    simp only [Sem.run_bind,Sem.run_map]
    rw [e1]
    simp only [Result.andThen_ok]
    rfl
   cases t with
   | zero=>exact hv2
   | succ t=>exact .dead _
  exact he.elim
 cases e with
 | normal=>exact fini h1
 | ret=>exact fini h1
 | _=>exact h1.elim
theorem call_doesE {o:Oper} {fo:Operand} {args:Array Operand} {ts:Array TypeId} (ho:o.op = .call { callee:=.value fo,args:=args,argTypes:=ts }) {g:FuncId} {cap:List PV} (hfo:s.ev fo = .p (.fn g cap)) {ks:List Nat} {avs:List AV} {H0:Heap} {Post:AV→Heap→Prop}
  (hc:FnE P g avs H0 Post) (hargs:argsM s.H ks (args.toList.map s.ev++cap.map .p) avs) (hle:LeH ks s.H ks H0) (hnd:ks.Nodup) (hks:∀ k∈ks,k < s.H.length) (h0:H0.all notAnc=true) (hsc:∀ r H1,Post r H1→scM r H0 H1=true) :
  DoesE P o s (fun av H'=>∃ r H1,Post r H1∧av=Go.Pv.ren (ks++List.range' s.H.length (H1.length - ks.length)) r∧H' = putM s.H ks (H1.map (Blk.ren (ks++List.range' s.H.length (H1.length - ks.length))))):=by
 intro C m a w K Q R hK
 have hfv:=R.ev fo
 rw [hfo] at hfv
 generalize hfe:a.eval fo=fv at hfv
 have hfv:=hfv.p_inv
 cases hfv with
 | fn _ _ vs hcl hcr =>
  obtain ⟨⟨fn,hfn,hnm,hbd⟩,hcalls⟩:=hc
  have hrun:(execOp a.eval o).run P w = .ok (.enter g (args.map a.eval++vs)) w:=by
   have hnm' : ¬ fn.name = "runtime.NumGoroutine":=by simpa using hnm
   have hbd' : ¬ fn.body=none:=by intro e; rw [e] at hbd; simp at hbd
   simp [execOp,ho,resolve,hfe,Deferred.ofValue,invoke,callFunc,hfn,hnm',hbd']
  refine opR_of_wp (by first|rfl|(rw [ho]; rfl)) ?_
  unfold Oper.wp
  rw [hrun]
  simp only [Oper.upon]
  obtain ⟨g1,g2⟩:=hle.get
  have ho1:∀ b,OK C m s.H w b→OK (subC C m s.H ks H0 w) (mren m ks) H0 w b:=by
   refine fun b h=>⟨.inl h,h.2.1,fun k c l hk hl=>?_⟩
   obtain ⟨k',d,a1,a2,_⟩:=LeH.own g2 k c hk
   simp only [mren,a1,Option.bind_some] at hl
   exact h.2.2 k' _ l a2 hl
  obtain ⟨e1,e2⟩:=argsM_val R (rd':=Reads (OK (subC C m s.H ks H0 w) (mren m ks) H0 w) w) (H0:=H0) (fun p v h=>h.mono ho1) g1.symm _ avs (fun i=>(args.map a.eval++vs).getD i undef) hargs fun i hi=>by
   simp only [List.length_append,List.length_map,Array.length_toList] at hi
   by_cases hip:i < args.size
   ·rw [List.getElem_append_left (by simpa using hip)]
    simp only [Array.getD_eq_getD_getElem?]
    rw [Array.getElem?_append_left (by simpa using hip)]
    have:=R.ev args[i]
    simpa [Array.getElem?_eq_getElem hip] using this
   rw [List.getElem_append_right (by simp; omega)]
   simp only [Array.getD_eq_getD_getElem?]
   rw [Array.getElem?_append_right (by simp; omega)]
   simp only [List.getElem_map,List.length_map,Array.length_toList,Array.size_map]
   have:=hcr (i - args.size) (by omega)
   rw [Array.getD_eq_getD_getElem?] at this
   exact .p _ _ this
  have hsz:(args.map a.eval++vs).size=avs.length:=by
   rw [e1]; simp; omega
  have R0:Rel (subC C m s.H ks H0 w) (mren m ks) ⟨avs.length,entA 0 avs,H0⟩ (args.map a.eval++vs) w:=by
   refine R.weakenC (s1:=⟨avs.length,entA 0 avs,H0⟩) hsz hnd hle ho1 (BelowP.refl _ _) (fun b h=>.inl h) (fun k b l h hw hl _=>.inr ⟨k,b,l,h,hw,hl,rfl⟩) (fun k i j h=>?_) fun t=>?_
   ·exact absurd rfl (notAnc_spec ((List.all_eq_true.1 h0) _ (List.mem_of_getElem? h)) i j)
   unfold St.get
   simp only
   rw [entA_lk,if_pos (Nat.zero_le _),Nat.sub_zero]
   by_cases ht:t < avs.length
   ·have:=e2 t ht
    simpa [List.getD,List.getElem?_eq_getElem ht] using this
   rw [List.getD_eq_getElem?_getD,List.getElem?_eq_none (by omega)]
   exact .dead _
  have R0':=R0.addAnc (n:=H0.length) (Nat.le_refl _) fun i _=>rfl
  refine (hcalls _ _ w _ R0').mono fun e w' ⟨v,m',r,H1,hP,he,R1⟩=>?_
  subst he
  obtain ⟨m2,R2,hv⟩:=R.joinM hle hks R1 (hsc r H1 hP)
  exact hK v m2 w' _ _ ⟨r,H1,hP,rfl,rfl⟩ R2 hv
theorem leH_pre {H0 X:Heap} (hs:∀ b∈H0,hsc H0.length b=true):LeH (List.range H0.length) (H0++X) (List.range H0.length) H0:=by
 have gen:∀ (H1:Heap) (a:Nat),(∀ i,i < H1.length→hget (H0++X) (a + i)=hget H1 i)→(∀ b∈H1,b∈H0)→a + H1.length≤H0.length→LeH (List.range H0.length) (H0++X) (List.range' a H1.length) H1:=by
  intro H1
  induction H1 with
  | nil=>intro a _ _ _; trivial
  | cons b r ih =>
   intro a h hm hl
   rw [List.length_cons] at hl ⊢
   rw [List.range'_succ]
   refine ⟨?_,ih (a + 1) (fun i hi=>?_) (fun x hx=>hm x (by simp [hx])) (by omega)⟩
   ·have h0:=h 0 (by simp)
    simp only [hget,Nat.add_zero] at h0
    have hb:=hs b (hm b (by simp))
    cases b with
    | own c =>
     simp only [LeB,h0,List.length_range]
     refine ⟨?_,hb⟩
     rw [List.take_of_length_le (Nat.le_refl _)]
     have:=List.map_congr_left (f:=Go.Pv.ren (List.range H0.length)) (g:=id) fun x hx=>ren_id ((List.all_eq_true.1 hb) x hx)
     rw [this,List.map_id]
    | anc i j =>
     simp only [hsc,decide_eq_true_eq] at hb
     simp only [LeB,h0,List.length_range]
     refine ⟨?_,hb⟩
     simp [List.getD,List.getElem?_range hb]
    | dead=>trivial
    | _=>simp only [LeB,h0]
   have:=h (i + 1) (by simp; omega)
   rw [show a + 1 + i=a + (i + 1) by omega,this]; rfl
 have:=gen H0 0 (fun i hi=>by rw [Nat.zero_add,hget_app1 hi]) (fun b hb=>hb) (by omega)
 rwa [← List.range_eq_range'] at this
theorem blkren_id {L:Nat} {b:Blk} (h:hsc L b=true):Blk.ren (List.range L) b=b:=by
 cases b with
 | own c =>
  simp only [Blk.ren]
  have:=List.map_congr_left (f:=Go.Pv.ren (List.range L)) (g:=id) fun x hx=>ren_id ((List.all_eq_true.1 h) x hx)
  rw [this,List.map_id]
 | _=>rfl
theorem setL_pre {H0 H1 X:Heap} (hl:H1.length=H0.length):setL (H0++X) ((List.range H0.length).zip H1)=H1++X:=by
 refine hget_ext (by rw [setL_length]; simp [hl]) fun j=>?_
 rw [setL_hget]
 have hz:((List.range H0.length).zip H1)=(List.range H1.length).zip H1:=by rw [hl]
 have gen:∀ (B:Heap) (a:Nat),((((List.range' a B.length).zip B).any fun p=>p.1 == j)=decide (a≤j∧j < a + B.length))∧(a≤j∧j < a + B.length→lkB j ((List.range' a B.length).zip B)=hget B (j - a)):=by
  intro B
  induction B with
  | nil=>intro a; simp; omega
  | cons b r ih =>
   intro a
   obtain ⟨i1,i2⟩:=ih (a + 1)
   rw [List.length_cons,List.range'_succ,List.zip_cons_cons]
   constructor
   ·rw [List.any_cons,i1]
    by_cases h:a=j
    ·subst h; simp
    have:(a == j)=false:=by simpa using h
    rw [this,Bool.false_or]
    exact decide_eq_decide.2 (by omega)
   intro hj
   simp only [lkB]
   by_cases h:a=j
   ·subst h; rw [if_pos rfl,Nat.sub_self]; rfl
   rw [if_neg h,i2 (by omega),show j - a=(j - (a + 1)) + 1 by omega]; rfl
 obtain ⟨g1,g2⟩:=gen H1 0
 rw [← List.range_eq_range'] at g1 g2
 rw [hz,g1]
 by_cases h:j < H1.length
 ·rw [if_pos ⟨by simpa using h,by simp; omega⟩,g2 ⟨Nat.zero_le _,by omega⟩,Nat.sub_zero,hget_app1 h]
 rw [if_neg (fun hh=>by simp at hh; omega),hget_app2 (by omega),hget_app2 (by omega),hl]
def scP (n:Nat) (av:AV) (H0 H1:Heap):Bool:=decide (H1.length=n) && (scA n av && H1.all (hsc n) && H1.all notAnc && mpKeep H0 H1)
theorem scP_M {n:Nat} {av:AV} {H0 H1:Heap} (h0:H0.all notAnc=true) (hn:H0.length=n) (h:scP n av H0 H1=true):scM av H0 H1=true∧H1.length=n∧scA n av=true∧∀ b∈H1,hsc n b=true:=by
 unfold scP at h
 simp only [Bool.and_eq_true,decide_eq_true_eq] at h
 obtain ⟨h1,⟨⟨h2,h3⟩,h4⟩,h5⟩:=h
 refine ⟨?_,h1,h2,fun b hb=>(List.all_eq_true.1 h3) b hb⟩
 unfold scM
 simp only [Bool.and_eq_true,decide_eq_true_eq]
 refine ⟨⟨⟨⟨by rw [h1]; exact h2,?_⟩,by omega⟩,h5⟩,h0⟩
 rw [List.all_eq_true]
 intro b hb
 have g1:=(List.all_eq_true.1 h3) b hb
 have g2:=(List.all_eq_true.1 h4) b hb
 cases b with
 | own c=>rw [h1]; exact g1
 | anc i j=>cases g2
 | _=>rfl
theorem call_doesEP {o:Oper} {fo:Operand} {args:Array Operand} {ts:Array TypeId} (ho:o.op = .call { callee:=.value fo,args:=args,argTypes:=ts }) {g:FuncId} {cap:List PV} (hfo:s.ev fo = .p (.fn g cap)) {avs:List AV} {H0 X:Heap} {Post:AV→Heap→Prop}
  (hc:FnE P g avs H0 Post) (hH:s.H=H0++X) (hargs:args.toList.map s.ev++cap.map .p=avs) (ha:avs.all (scA H0.length)=true) (hs:H0.all (hsc H0.length)=true) (h0:H0.all notAnc=true) (hsc:∀ r H1,Post r H1→scP H0.length r H0 H1=true) :
  DoesE P o s (fun av H'=>∃ H1,Post av H1∧H' = H1++X):=by
 have hn:∀ r H1,Post r H1→H1.length=H0.length:=fun r H1 h=>(scP_M h0 rfl (hsc r H1 h)).2.1
 have hargN:∀ (l:List AV),l.all (scA H0.length)=true→argsN (List.range H0.length) l l:=by
  intro l
  induction l with
  | nil=>intro _; trivial
  | cons x r ih =>
   intro hl
   rw [List.all_cons,Bool.and_eq_true] at hl
   refine ⟨?_,ih hl.2⟩
   cases x with
   | p v=>rfl
   | _=>exact ⟨(ren_id hl.1).symm,by rw [List.length_range]; exact hl.1⟩
 have:=call_doesE (P:=P) (s:=s) ho hfo hc (ks:=List.range H0.length) (by rw [hargs]; exact argsN_M (hargN _ ha)) (by rw [hH]; exact leH_pre fun b hb=>(List.all_eq_true.1 hs) b hb) List.nodup_range (fun k hk=>by rw [hH,List.length_append]; have:=List.mem_range.1 hk; omega) h0 fun r H1 h=>(scP_M h0 rfl (hsc r H1 h)).1
 intro C m a w K Q R hK
 refine this C m a w K Q R fun v m' w' av H' hO R2 hv=>hK v m' w' av H' ?_ R2 hv
 obtain ⟨r,H1,hP,rfl,rfl⟩:=hO
 obtain ⟨_,g2,g3,g4⟩:=scP_M h0 rfl (hsc r H1 hP)
 rw [List.length_range,g2,Nat.sub_self,List.range'_zero,List.append_nil,ren_id g3]
 refine ⟨H1,hP,?_⟩
 have hm:H1.map (Blk.ren (List.range H0.length))=H1:=by
  have:=List.map_congr_left (f:=Blk.ren (List.range H0.length)) (g:=id) fun x hx=>blkren_id (g4 x hx)
  rw [this,List.map_id]
 rw [hm,putM_zip _ _ _ List.nodup_range (by rw [List.length_range,g2]),hH,setL_pre g2]
theorem runs_callP {all:Array Oper} {rest:List Oper} {K:St→Prop} {dst:Option Tmp} {ty:TypeId} {pos:String} {aft:Array Edge} {gd:Option (Nat × Bool)} {fo:Operand} {args:Array Operand} {ts:Array TypeId} {g:FuncId} {avs:List AV} {H0 H1 X:Heap} {r:AV}
  (hc:FnM P g avs H0 r H1) {cap:List PV} (hfo:s.ev fo = .p (.fn g cap)) (hg:guardA all s { dst:=dst,op:=.call { callee:=.value fo,args:=args,argTypes:=ts },type:=ty,pos:=pos,after:=aft,guard:=gd } = some true)
  (hH:s.H=H0++X) (hargs:args.toList.map s.ev++cap.map .p=avs) (ha:avs.all (scA H0.length)=true) (hs:H0.all (hsc H0.length)=true) (h0:H0.all notAnc=true) (hsc:scP H0.length r H0 H1=true) (hd:dstOk s dst)
  (h:Runs P false all rest K (({ s with H:=H1++X } : St).put dst r)) :
  Runs P false all ({ dst:=dst,op:=.call { callee:=.value fo,args:=args,argTypes:=ts },type:=ty,pos:=pos,after:=aft,guard:=gd } :: rest) K s:=by
 obtain ⟨s',hr,hK⟩:=h
 refine ⟨s',.cons (.op s _ _ hg (dstOk_spec hd) ?_ fun h=>by cases h) hr,hK⟩
 intro C m a w K Q R hK
 exact call_doesEP (P:=P) rfl hfo hc.toE hH hargs ha hs h0 (fun r' H' h=>by rw [h.1,h.2]; exact hsc) C m a w K Q R fun v m' w' av H' ⟨H1',⟨e1,e2⟩,e3⟩ R2 hv=>by
  subst e1 e2 e3
  exact hK v m' w' R2 hv
theorem runs2_callP {all:Array Oper} {rest:List Oper} {K:St→List I2→Prop} {acc:List I2} {dst:Option Tmp} {ty:TypeId} {pos:String} {aft:Array Edge} {gd:Option (Nat × Bool)} {fo:Operand} {args:Array Operand} {ts:Array TypeId} {g:FuncId} {avs:List AV} {H0 H1 X:Heap} {r:AV}
  (hc:FnM P g avs H0 r H1) {cap:List PV} (hfo:s.ev fo = .p (.fn g cap)) (hg:guardA all s { dst:=dst,op:=.call { callee:=.value fo,args:=args,argTypes:=ts },type:=ty,pos:=pos,after:=aft,guard:=gd } = some true)
  (hH:s.H=H0++X) (hargs:args.toList.map s.ev++cap.map .p=avs) (ha:avs.all (scA H0.length)=true) (hs:H0.all (hsc H0.length)=true) (h0:H0.all notAnc=true) (hsc:scP H0.length r H0 H1=true) (hd:dstOk s dst)
  (h:Runs2 P all rest K (({ s with H:=H1++X } : St).put dst r) (acc++[⟨.ms ((List.range H0.length).zip H1),r,.dead,false⟩])) :
  Runs2 P all ({ dst:=dst,op:=.call { callee:=.value fo,args:=args,argTypes:=ts },type:=ty,pos:=pos,after:=aft,guard:=gd } :: rest) K s acc:=by
 obtain ⟨g1,g2,g3,g4⟩:=scP_M h0 rfl hsc
 have hargN:∀ (l:List AV),l.all (scA H0.length)=true→argsN (List.range H0.length) l l:=by
  intro l
  induction l with
  | nil=>intro _; trivial
  | cons x r ih =>
   intro hl
   rw [List.all_cons,Bool.and_eq_true] at hl
   refine ⟨?_,ih hl.2⟩
   cases x with
   | p v=>rfl
   | _=>exact ⟨(ren_id hl.1).symm,by rw [List.length_range]; exact hl.1⟩
 have hm:H1.map (Blk.ren (List.range H0.length))=H1:=by
  have:=List.map_congr_left (f:=Blk.ren (List.range H0.length)) (g:=id) fun x hx=>blkren_id (g4 x hx)
  rw [this,List.map_id]
 refine runs2_callM (List.range H0.length) hc (by rw [List.length_range,g2]) hfo hg (by rw [hargs]; exact hargN _ ha) (by rw [hH]; exact leH_pre fun b hb=>(List.all_eq_true.1 hs) b hb) List.nodup_range (fun k hk=>by rw [hH,List.length_append]; have:=List.mem_range.1 hk; omega) g1 hd ?_
 rw [hm,hH,setL_pre g2,ren_id g3]
 exact h
end
end Go.Pv

namespace Go.Pv
open Go.RowKit
section
variable {P:Program} {C:Ctx} {m:Map} {s:St} {tmps:Array Value} {w:World}
def ancC (C:Ctx) (A:Nat) (l:Option Loc):Ctx:=⟨C.okA,C.B,C.w0,fun i=>if i=A then l else C.anc i⟩
theorem ancC_ok (C:Ctx) (A:Nat) (l:Option Loc) (m:Map) (H:Heap) (w:World):OK (ancC C A l) m H w=OK C m H w:=rfl
theorem Rel.mark (R:Rel C m s tmps w) {A k:Nat} (hA:∀ k j:Nat,s.H[k]? ≠ some (.anc A j)) (hk:k < s.H.length):Rel (ancC C A (m k)) m { s with H:=s.H++[.anc A k] } tmps w:=by
 have gen:∀ (j:Nat) (b:Blk),(∀ i j,b ≠ .anc i j)→(s.H++([.anc A k]:Heap))[j]? = some b→j < s.H.length∧s.H[j]? = some b:=by
  intro j b hb h
  rcases app_get h with h | h
  ·exact h
  have h0:=(List.getElem?_eq_some_iff.1 h).1
  simp only [List.length_singleton,Nat.lt_one_iff] at h0
  rw [h0] at h
  simp only [List.getElem?_cons_zero,Option.some.injEq] at h
  exact absurd h.symm (hb _ _)
 have own:∀ (j:Nat) (c:List AV),(s.H++([.anc A k]:Heap))[j]? = some (.own c)→j < s.H.length∧s.H[j]? = some (.own c):=fun j c h=>gen j _ (fun _ _ h=>by cases h) h
 have mps:∀ (j:Nat) (kk:IntKind) (d:Int→Bool) (v:Int→PV),(s.H++([.anc A k]:Heap))[j]? = some (Blk.mp kk d v)→j < s.H.length∧s.H[j]? = some (Blk.mp kk d v):=fun j _ _ _ h=>gen j _ (fun _ _ h=>by cases h) h
 have ho:∀ b,OK C m s.H w b→OK (ancC C A (m k)) m (s.H++([.anc A k]:Heap)) w b:=fun b h=>⟨h.1,h.2.1,fun j c l hk hl=>h.2.2 j c l (own j c hk).2 hl⟩
 have hlen:s.H.length≤(s.H++([.anc A k]:Heap)).length:=by simp
 have rd:∀ p v,Reads (OK C m s.H w) w p v→Reads (OK (ancC C A (m k)) m (s.H++([.anc A k]:Heap)) w) w p v:=fun p v h=>h.mono ho
 refine ⟨R.laid.ext rd,R.below,R.base,R.size,fun k k' c c' l l' h1 h2=>R.inj k k' c c' l l' (own k c h1).2 (own k' c' h2).2,fun k c h=>(R.blk k c (own k c h).2).ext rd hlen (fun _ _=>rfl) rfl fun _ _=>rfl,
  fun k c h=>(R.fro k c (gen k _ (fun _ _ h=>by cases h) h).2).ext ho (fun _ _=>rfl) rfl,fun t=>(R.slot t).ext rd hlen fun _ _=>rfl,fun k kk d v h=>(R.mp.1 k kk d v (mps k kk d v h).2).ext ho (fun _ _=>rfl) rfl fun _ _=>rfl,
  fun k k' kk d v kk' d' v' l l' h1 h2=>R.mp.2.1 k k' kk d v kk' d' v' l l' (mps _ _ _ _ h1).2 (mps _ _ _ _ h2).2,fun j i j' h=>?_,R.mp.2.2.2.ext id (fun k r h=>⟨(gen k _ (fun _ _ h=>by cases h) h).2,rfl⟩) (fun _ _ _ _ _ _ h=>h) (fun _ _ _ _ _ _=>rfl) fun _ _ _ _ _ h=>h⟩
 rcases app_get h with h | h
 ·obtain ⟨a1,a2⟩:=R.mp.2.2.1 j i j' h.2
  have hne:i ≠ A:=fun e=>hA j j' (by rw [← e]; exact h.2)
  exact ⟨by simp; omega,by simp only [ancC,if_neg hne]; exact a2⟩
 have h0:=(List.getElem?_eq_some_iff.1 h).1
 simp only [List.length_singleton,Nat.lt_one_iff] at h0
 rw [h0] at h
 simp only [List.getElem?_cons_zero,Option.some.injEq,Blk.anc.injEq] at h
 obtain ⟨rfl,rfl⟩:=h
 exact ⟨by simp; omega,by simp [ancC]⟩
theorem Rel.turnA {A:Nat} {lo:Option Loc} {X:Nat→Prop} {w0 w2:World} (R:Rel (ancC (holdC C X w0) A lo) m s tmps w) {r:Nat} (hr:X r) (hw:∀ cur e sh,w.heap[r]? ≠ some (.cells cur e sh)) (h1:∀ b,b ≠ r→w2.heap[b]? = w.heap[b]?) (h2:w2.heap.size=w.heap.size):Rel (ancC (holdC C X w2) A lo) m s tmps w2:=
 Rel.turn (C:=ancC C A lo) R hr hw h1 h2
theorem Rel.anewA {A:Nat} {lo:Option Loc} {X:Nat→Prop} {w0:World} (R:Rel (ancC (holdC C X w0) A lo) m s tmps w):Rel (ancC (holdC C X w) A lo) m s tmps w:=
 Rel.anew (C:=ancC C A lo) R
theorem Rel.unmark {A κ β:Nat} {X:Nat→Prop} {w0:World} {l:Loc} (R:Rel (ancC (holdC C X w0) A (some l)) m s tmps w) (hb:BelowP C.B C.w0 w0) (hA:∀ k j:Nat,s.H[k]? = some (.anc A j)→k=β) (hβ:s.H[β]? = some (.anc A κ)) (hκ:s.H[κ]? = some .dead)
  {kk:IntKind} {d:Int→Bool} {v:Int→PV} {ar:Array MapEntry} {clk:Nat} {vs:Int→Value} (hX:X l.g) (hB:C.B l.g) (hw:w.heap[l.g]? = some (.map ar clk)) (hm:MpK kk clk ar.toList)
  (h1:∀ z,d z=false→mlk kk z ar.toList=none) (h2:∀ z,d z=true→mlk kk z ar.toList=some (vs z)) (h3:∀ z,d z=true→(v z).flatOnly=true) (h4:∀ z,d z=true→∀ ok w,Reads ok w (v z) (vs z)) :
  Rel C m { s with H:=hset (hset s.H κ (.mp kk d v)) β .dead } tmps w:=by
 have e:OK (ancC (holdC C X w0) A (some l)) m s.H w=OK C m s.H w:=(ancC_ok _ _ _ _ _ _).trans (holdC_ok C X w0 m s.H w)
 have hBB:∀ b,(ancC (holdC C X w0) A (some l)).B b→C.B b:=fun b h=>h.1
 have hml:m κ=some l:=by
  have:=(R.mp.2.2.1 β A κ hβ).2
  simpa [ancC] using this
 have hne:κ ≠ β:=fun h=>by rw [h,hβ] at hκ; cases hκ
 have hκl:κ < s.H.length:=(List.getElem?_eq_some_iff.1 hκ).1
 have hβl:β < s.H.length:=(List.getElem?_eq_some_iff.1 hβ).1
 have hget:∀ j:Nat,(hset (hset s.H κ (.mp kk d v)) β .dead)[j]? = if j=β then some .dead else if j=κ then some (.mp kk d v) else s.H[j]?:=fun j=>by
  rw [hset_get,hset_length,hset_get]
  by_cases h:j=β
  ·rw [if_pos ⟨h,hβl⟩,if_pos h]
  rw [if_neg (fun hh=>h hh.1),if_neg h]
  by_cases h' : j=κ
  ·rw [if_pos ⟨h',hκl⟩,if_pos h']
  rw [if_neg (fun hh=>h' hh.1),if_neg h']
 have old:∀ (j:Nat) (b:Blk),b ≠ .dead→(∀ kk d v,b ≠ .mp kk d v)→(hset (hset s.H κ (.mp kk d v)) β .dead)[j]? = some b→s.H[j]? = some b:=fun j b hb hb2 h=>by
  rw [hget] at h
  split at h
  ·exact absurd (Option.some.inj h).symm hb
  split at h
  ·exact absurd (Option.some.inj h).symm (hb2 _ _ _)
  exact h
 have own:∀ (j:Nat) (c:List AV),(hset (hset s.H κ (.mp kk d v)) β .dead)[j]? = some (.own c)→s.H[j]? = some (.own c):=fun j c h=>old j _ (by simp) (by simp) h
 have ho:∀ b,OK C m s.H w b→OK C m (hset (hset s.H κ (.mp kk d v)) β .dead) w b:=fun b h=>⟨h.1,h.2.1,fun j c l2 hj hl=>h.2.2 j c l2 (own j c hj) hl⟩
 have hlen:(hset (hset s.H κ (.mp kk d v)) β .dead).length=s.H.length:=by rw [hset_length,hset_length]
 have rd:∀ p x,Reads (OK (ancC (holdC C X w0) A (some l)) m s.H w) w p x→Reads (OK C m (hset (hset s.H κ (.mp kk d v)) β .dead) w) w p x:=fun p x h=>by
  rw [e] at h; exact h.mono ho
 refine ⟨R.laid.ext rd,hb.trans (R.below.monoB hBB),fun b h=>hBB b (R.base b h),R.size,fun j j' c c' l1 l2 a1 a2=>R.inj j j' c c' l1 l2 (own j c a1) (own j' c' a2),fun j c h=>?_,
  fun j c h=>?_,fun t=>(R.slot t).ext rd (by rw [hlen]; exact Nat.le_refl _) fun _ _=>rfl,fun j kk' d' v' h=>?_,fun j j' kk1 d1 v1 kk2 d2 v2 l1 l2 a1 a2 b1 b2 b3=>?_,fun j i j' h=>?_,?_,fun k1 k2 r1 r2 l1 l2 a1 a2=>R.mp.2.2.2.2 k1 k2 r1 r2 l1 l2 (old _ _ (by simp) (by simp) a1) (old _ _ (by simp) (by simp) a2)⟩
 ·have hh:=(R.blk j c (own j c h)).ext (H':=hset (hset s.H κ (.mp kk d v)) β .dead) rd (by rw [hlen]; exact Nat.le_refl _) (fun _ _=>rfl) rfl fun _ _=>rfl
  rcases hh with h1 | ⟨l2,cur,ee,a1,a2,a3,a4⟩
  ·exact .inl h1
  exact .inr ⟨l2,cur,ee,a1,hBB _ a2,a3,a4⟩
 ·exact (R.fro j c (old j _ (by simp) (by simp) h)).ext (fun b h=>by rw [e] at h; exact ho b h) (fun _ _=>rfl) rfl
 ·rw [hget] at h
  split at h
  ·cases h
  split at h
  ·rename_i hj
   simp only [Option.some.injEq,Blk.mp.injEq] at h
   obtain ⟨rfl,rfl,rfl⟩:=h
   exact ⟨l,ar,clk,vs,by rw [hj]; exact hml,hB,hw,hm,h1,h2,fun z hz=>h4 z hz _ _⟩
  obtain ⟨l2,ar2,clk2,vs2,a1,a2,a3,a4,a5,a6,a7⟩:=R.mp.1 j kk' d' v' h
  exact ⟨l2,ar2,clk2,vs2,a1,hBB _ a2,a3,a4,a5,a6,fun z hz=>rd _ _ (a7 z hz)⟩
 ·have side:∀ (j:Nat) (kk' : IntKind) (d' : Int→Bool) (v' : Int→PV) (l2:Loc),s.H[j]? = some (Blk.mp kk' d' v')→m j=some l2→l2.g ≠ l.g:=fun j kk' d' v' l2 a1 a2 e=>by
   obtain ⟨l3,ar2,clk2,vs2,b1,b2,_⟩:=R.mp.1 j kk' d' v' a1
   rw [a2] at b1; cases b1
   exact b2.2 (by rw [e]; exact hX)
  rw [hget] at a1 a2
  split at a1
  ·cases a1
  split at a2
  ·cases a2
  split at a1<;>split at a2
  ·rename_i e1 e2; rw [e1,e2]
  ·rename_i e1 e2
   rw [e1,hml] at b1; cases b1
   exact absurd b3.symm (side _ _ _ _ _ a2 b2)
  ·rename_i e1 e2
   rw [e2,hml] at b2; cases b2
   exact absurd b3 (side _ _ _ _ _ a1 b1)
  exact R.mp.2.1 _ _ _ _ _ _ _ _ _ _ a1 a2 b1 b2 b3
 ·have h0:=old j _ (by simp) (by simp) h
  obtain ⟨a1,a2⟩:=R.mp.2.2.1 j i j' h0
  have hi:i ≠ A:=fun ei=>by
   have hj:=hA j j' (by rw [← ei]; exact h0)
   rw [hj,hget,if_pos rfl] at h; cases h
  refine ⟨by rw [hlen]; exact a1,?_⟩
  have a3:=a2
  unfold ancC at a3
  simp only [if_neg hi] at a3
  exact a3
 intro j r h
 obtain ⟨l2,a1,a2,a3⟩:=R.mp.2.2.2.1 j r (old _ _ (by simp) (by simp) h)
 exact ⟨l2,a1,hBB _ a2,a3⟩
theorem mlk_val {kk:IntKind} {z:Int} : ∀ {es:List MapEntry} {x:Value},(es.map MapEntry.key).Nodup→mlk kk z es=some x→∀ e∈es,e.key=keyV kk z→e.val=x
 | [],_,_,h,_,_,_=>by cases h
 | e0 :: es,x,hn,h,e,he,hk=>by
  rw [List.map_cons,List.nodup_cons] at hn
  by_cases h0:e0.key=keyV kk z
  ·rw [mlk_pos _ h0] at h
   rcases List.mem_cons.1 he with rfl | he
   ·exact Option.some.inj h
   exact absurd (List.mem_map.2 ⟨e,he,hk.trans h0.symm⟩) hn.1
  rw [mlk_neg _ h0] at h
  rcases List.mem_cons.1 he with rfl | he
  ·exact absurd hk h0
  exact mlk_val hn.2 h e he hk
theorem hk_rangeF {T:TypeId→Option TI} (hT:∀ t ti,T t=some ti→tiOf P t=some ti) {Q:Exit→St→Prop} {rid rid1 rid2 bid bid3 t34 t35 t36 t37 t38:Nat} {ty y2 y3 y4 y5:TypeId} {p2 p3 p4 p5:String} {e2 e3 e4 e5:Array Edge} {L L2:List Oper} {body:Code} {s0:St} (n:Nat)
  (hL:L.drop n=[{ dst:=some t35,op:=.range ty (.tmp t34),type:=y2,pos:=p2,after:=e2,guard:=none }])
  (hL2:L2.take 1=[{ dst:=some t38,op:=.entry (.tmp t35),type:=y5,pos:=p5,after:=e5,guard:=none }])
  {ti:TI} (ht:T ty=some ti) {kt et:TypeId} {zo:Option Value} (hkind:ti.kind = .map kt et zo) (A:Nat)
  (h:Runs P false L.toArray (L.take n) (fun s=>∃ k kk d v,s.get t34 = .mptr k∧hget s.H k = .mp kk d v∧(∀ z,d z=true→(v z).flatOnly=true)∧(∀ k' j:Nat,s.H[k']? ≠ some (.anc A j)) ∧
   (decide (t35 < s.n∧t36 < s.n∧t37 < s.n∧t38 < s.n∧¬ t36=t35∧¬ t37=t35∧kk ≠ .i8))=true∧∃ (S:Nat→List Int→St) (π:List Nat) (κ β:Nat),
    (∀ r L,(S r L).get t35 = .itv r∧(S r L).n=s.n∧(S r L).H[κ]? = some .dead∧(S r L).H[β]? = some (.anc A κ)∧∀ k' j:Nat,(S r L).H[k']? = some (.anc A j)→k' = β) ∧
    (∀ r,Le π (S r []) (({ s with H:=hset s.H k .dead++[.anc A k] } : St).put (some t35) (.itv r))) ∧
    (∀ r L z,L.Nodup→(∀ y∈L,d y=true)→d z=true→z ∉ L→Runs P false L2.toArray (L2.drop 1) (fun s'=>Holds P body (InB bid3 (Thn (fun s'=>∃ π,Le π (S r (L++[z])) s') fun _ _=>False)) s') ((((S r L).put (some t36) .dead).put (some t37) (.p (.bool true))).put (some t38) (.p (.tup [.int kk z,v z])))) ∧
    (∀ r L,L.Nodup→(∀ z,d z=true↔z∈L)→Q .normal ((({ S r L with H:=hset (hset (S r L).H κ (.mp kk d v)) β .dead } : St).put (some t36) .dead).put (some t37) (.p (.bool false))))) s0) :
  Holds P ((Code.region rid L.toArray false).seq
   (Code.block bid (((Code.region rid1 #[{ dst:=some t36,op:=.next (.tmp t35) false,type:=y3,pos:=p3,after:=e3,guard:=none },{ dst:=some t37,op:=.extract (.tmp t36) 0,type:=y4,pos:=p4,after:=e4,guard:=none }] false).seq
    ((Code.cond (.tmp t37) .skip (.exit bid)).seq (Code.block bid3 ((Code.region rid2 L2.toArray false).seq body)))).loop))) Q s0:=by
 intro rr ds C m0 a0 w R0 hdf0
 obtain ⟨s,hrun0,k,kk,d,v,hx,hg,hfl,hA,hd,S,π,κ,β,hS,h0,step,fin⟩:=h
 rw [decide_eq_true_eq] at hd
 obtain ⟨d35,d36,d37,d38,n36,n37,hk8⟩:=hd
 have hu:=(ti_map (hT _ _ ht) hkind).1
 have hk:=hget_some hg (by simp)
 have hLe:L=L.take n++[{ dst:=some t35,op:=.range ty (.tmp t34),type:=y2,pos:=p2,after:=e2,guard:=none }]:=by rw [← hL,List.take_append_drop]
 refine wpR_seq (wpR_region_lit ?_)
 have go:lstR P L.toArray (fun e a' w'=>Exit.then (wpR rr P (Code.block bid (((Code.region rid1 #[{ dst:=some t36,op:=.next (.tmp t35) false,type:=y3,pos:=p3,after:=e3,guard:=none },{ dst:=some t37,op:=.extract (.tmp t36) 0,type:=y4,pos:=p4,after:=e4,guard:=none }] false).seq
    ((Code.cond (.tmp t37) .skip (.exit bid)).seq (Code.block bid3 ((Code.region rid2 L2.toArray false).seq body)))).loop)) fun e a' w'=>∃ s' m',Q e s'∧Rel C m' s' a'.tmps w'∧a'.defers=ds) (fun e a' w'=>∃ s' m',Q e s'∧Rel C m' s' a'.tmps w'∧a'.defers=ds) e a' w') (L.take n++[{ dst:=some t35,op:=.range ty (.tmp t34),type:=y2,pos:=p2,after:=e2,guard:=none }]) a0 w:=by
  refine hrun0.soundK R0 hdf0 fun m a w R hdf=>?_
  have hxe:=R.ev (.tmp t34)
  rw [show s.ev (.tmp t34) = .mptr k from hx] at hxe
  generalize hxv:a.eval (.tmp t34)=xv at hxe
  cases hxe with
  | mptr _ _ hkl hp =>
  obtain ⟨l,hml,rfl⟩:=hp
  obtain ⟨l',ar,clk,vs,a1,a2,a3,a4,a5,a6,a7⟩:=R.mp.1 k kk d v hk
  rw [hml] at a1; cases a1
  have hbl:l.g < w.heap.size:=(Array.getElem?_eq_some_iff.1 a3).1
  have hrv:∀ z,d z=true→∀ ok w',Reads ok w' (v z) (vs z):=fun z hz ok w'=>flatOnly_reads (a7 z hz) (hfl z hz)
  have hkey:∀ e∈ar.toList,e.key=keyV kk (keyZ e.key):=fun e he=>by
   obtain ⟨z,hz⟩:=a4.1 e he
   rw [hz,keyZ_V]
  have hdk:∀ e∈ar.toList,d (keyZ e.key)=true:=fun e he=>by
   cases hdd:d (keyZ e.key) with
   | true=>rfl
   | false=>exact absurd (a5 _ hdd) (mlk_ne ⟨e,he,hkey e he⟩)
  refine lstR_plain rfl fun K2 hK2=>?_
  refine opR_of_wp rfl ?_
  unfold Oper.wp
  have hrun:=run_range_map (P:=P) w ty kt et l.g ar clk hu a3
  simp only [execOp,Sem.run_bind,Sem.run_pure,Sem.run_map,Result.andThen_ok,hxv,hrun]
  refine hK2 _ _ (lstR_nil ?_)
  obtain ⟨r,hr⟩:∃ r,r=w.heap.size:=⟨_,rfl⟩
  obtain ⟨w1,hw1⟩:∃ w1,w1=w.alloc (.mapIter (some l.g) clk #[] clk):=⟨_,rfl⟩
  rw [← hr,← hw1]
  have hal:=MapKept.heap_alloc w (.mapIter (some l.g) clk #[] clk)
  have hr1:w1.heap[r]? = some (.mapIter (some l.g) clk #[] clk):=by rw [hw1,hr]; exact hal.1
  have hb1:w1.heap[l.g]? = some (.map ar clk):=by rw [hw1]; exact (hal.2 _ hbl).trans a3
  have hCr:C.B r:=R.base r (by omega)
  have hbel1:Below w.heap.size w w1:=by rw [hw1]; exact (Below.refl _ _).alloc (Nat.le_refl _) _
  have R1:Rel C m { s with H:=hset s.H k .dead } a.tmps w1:=(R.kill k).later hbel1
  obtain ⟨X,hX⟩:∃ X:Nat→Prop,X=fun b=>b=l.g∨b=r:=⟨_,rfl⟩
  have hXg:X l.g:=by rw [hX]; exact .inl rfl
  have hXr:X r:=by rw [hX]; exact .inr rfl
  have R2:=R1.hold X (fun b hb=>by
   rw [hX] at hb
   rcases hb with rfl | rfl
   ·exact ⟨(Array.getElem?_eq_some_iff.1 hb1).1,fun _ _ _ h=>by rw [hb1] at h; cases h⟩
   ·exact ⟨(Array.getElem?_eq_some_iff.1 hr1).1,fun _ _ _ h=>by rw [hr1] at h; cases h⟩) (fun j kk' d' v' l2 h hl2=>by
   have h2:j ≠ k∧s.H[j]? = some (.mp kk' d' v'):=by
    simp only at h
    rw [hset_get] at h
    by_cases e:j=k
    ·rw [if_pos ⟨e,hkl⟩] at h; cases h
    rw [if_neg (by simp [e])] at h; exact ⟨e,h⟩
   rw [hX]
   rintro (e | e)
   ·exact h2.1 (R.mp.2.1 _ _ _ _ _ _ _ _ _ _ h2.2 hk hl2 hml e)
   ·obtain ⟨l3,ar3,clk3,vs3,b1,b2,b3,_⟩:=R.mp.1 j kk' d' v' h2.2
    rw [hl2] at b1; cases b1
    have:=(Array.getElem?_eq_some_iff.1 b3).1
    omega) (fun b hb rr=>by
   rw [hX] at hb
   rcases hb with rfl | rfl
   ·rw [hb1]; exact fun h=>by cases h
   rw [hr1]; exact fun h=>by cases h)
  have R2m:=R2.mark (A:=A) (k:=k) (fun k' j h=>by
   simp only at h
   rw [hset_get] at h
   split at h
   ·cases h
   exact hA k' j h) (by simp only [hset_length]; exact hkl)
  rw [hml] at R2m
  have R2p:=R2m.put (a:=a) (d:=some t35) (v:=.pointer (some ⟨r,0,none⟩)) (x:=.itv r) (fun t h=>by cases h; exact d35) (.itv r)
  have R3:=R2p.weaken (h0 r)
  have hB0:BelowP C.B C.w0 w1:=R1.below
  show wpR rr P _ _ _ _
  refine wpR_block (wpR_loop (fun a' w'=>∃ L m',Rel (ancC (holdC C X w') A (some l)) m' (S r L) a'.tmps w'∧a'.defers=ds∧ItOk ar clk l.g r L w'∧(∀ y∈L,d y=true)∧BelowP C.B C.w0 w') (fun _ w'=>itLeft ar r w') ⟨[],_,R3,hdf,⟨hb1,#[],[],hr1,by simp,rfl,rfl,List.nodup_nil⟩,by simp,hB0⟩ ?_)
  rintro a2' w2 ⟨L,m2,RL,hdf2,⟨hb2,seen,vis,hr2,hvis,hseen,hLv,hLn⟩,hLd,hbel⟩
  obtain ⟨hS1,hS2,hS3,hS4,hS5⟩:=hS r L
  have hv35:a2'.eval (.tmp t35) = .pointer (some ⟨r,0,none⟩):=by
   have h:=RL.ev (.tmp t35)
   rw [show (S r L).ev (.tmp t35) = .itv r from hS1] at h
   generalize a2'.eval (.tmp t35)=x at h ⊢
   cases h; rfl
  have hsz:=RL.size
  rw [hS2] at hsz
  have hput:∀ (a:Act) (t:Nat) (v:Value),a.tmps.size=s.n→t < s.n→(a.put (some t) v).eval (.tmp t)=v:=fun a t v h1 h2=>by
   simp [Act.put,Act.eval,h1,h2]
  have hnsz:∀ (a:Act) (t:Nat) (v:Value),a.tmps.size=s.n→(a.put (some t) v).tmps.size=s.n:=fun a t v h1=>by
   simp [Act.put,h1]
  refine wpR_seq (wpR_region_lit ?_)
  refine lstR_plain rfl fun K3 hK3=>?_
  refine opR_of_wp rfl ?_
  unfold Oper.wp
  rcases run_next_at (P:=P) w2 y3 r l.g clk clk seen ar clk hr2 hb2 a4.2.2.1 (Nat.le_refl _) with ⟨hz0,hrun2⟩ | ⟨e,he,w3,hal3,hrun2⟩
  ·simp only [execOp,Sem.run_bind,Sem.run_pure,Sem.run_map,Result.andThen_ok,hv35,hrun2]
   refine hK3 _ _ ?_
   refine lstR_plain rfl fun K4 hK4=>?_
   refine opR_of_wp rfl ?_
   unfold Oper.wp
   simp only [execOp,Sem.run_bind,Sem.run_pure,Sem.run_map,Result.andThen_ok,hput a2' t36 _ hsz d36]
   have hex:(Instr.extract (.tuple #[.bool false]) 0).run P w2 = .ok (.bool false) w2:=rfl
   simp only [hex,Result.andThen_ok]
   refine hK4 _ _ (lstR_nil ?_)
   show wpR rr P _ _ _ _
   refine wpR_seq (wpR_cond_false (hput _ t37 _ (hnsz _ _ _ hsz) d37) (wpR_exit ?_))
   have hall:=all_seen ar seen hz0
   simp only [Exit.then,Exit.inBlock,if_true]
   have Ru:=RL.unmark (β:=β) (κ:=κ) hbel hS5 hS4 hS3 (kk:=kk) (d:=d) (v:=v) (vs:=vs) hXg a2 hb2 a4 a5 a6 hfl hrv
   refine ⟨_,m2,fin r L hLn fun z=>⟨fun hz=>?_,hLd z⟩,(Ru.put (d:=some t36) (fun t h=>by cases h; show t36 < (S r L).n; rw [hS2]; exact d36) (.dead _)).put (d:=some t37) (fun t h=>by cases h; show t37 < (S r L).n; rw [hS2]; exact d37) (.p _ _ (.bool false)),hdf2⟩
   obtain ⟨e0,he0,hz0'⟩:=mlk_some (a6 z hz)
   have h1:=hall e0 he0
   rw [Array.contains_iff_mem,← Array.mem_toList_iff,hseen] at h1
   obtain ⟨e1,he1,hb1'⟩:=List.mem_map.1 h1
   have:=nodup_inj a4.2.2.2 (hvis e1 he1) he0 hb1'
   rw [hLv]
   exact List.mem_map.2 ⟨e1,he1,by rw [this,hz0',keyZ_V]⟩
  obtain ⟨hem,hes⟩:=mem_left he
  simp only [execOp,Sem.run_bind,Sem.run_pure,Sem.run_map,Result.andThen_ok,hv35,hrun2]
  refine hK3 _ _ ?_
  refine lstR_plain rfl fun K4 hK4=>?_
  refine opR_of_wp rfl ?_
  unfold Oper.wp
  simp only [execOp,Sem.run_bind,Sem.run_pure,Sem.run_map,Result.andThen_ok,hput a2' t36 _ hsz d36]
  obtain ⟨w4,hw4⟩:∃ w4,w4=Go.ChangeMaps.setBlock w3 r (.mapIter (some l.g) clk (seen.push e.born) clk):=⟨_,rfl⟩
  rw [← hw4]
  have hex:(Instr.extract (.tuple #[.bool true,e.key,e.val]) 0).run P w4 = .ok (.bool true) w4:=rfl
  simp only [hex,Result.andThen_ok]
  refine hK4 _ _ (lstR_nil ?_)
  show wpR rr P _ _ _ _
  refine wpR_seq (wpR_cond_true (hput _ t37 _ (hnsz _ _ _ hsz) d37) (wpR_skip ?_))
  show wpR rr P _ _ _ _
  have hr3:w3.heap[r]? = some (.mapIter (some l.g) clk seen clk):=by rcases hal3 with rfl | rfl<;>exact hr2
  have hset:=MapKept.heap_set (o':=.mapIter (some l.g) clk (seen.push e.born) clk) hr3
  have h3o:∀ b,b ≠ r→w4.heap[b]? = w2.heap[b]?:=fun b hb=>by
   rw [hw4]
   rcases hal3 with rfl | rfl<;>exact hset.2 b hb
  have h3s:w4.heap.size=w2.heap.size:=by
   rw [hw4]
   rcases hal3 with rfl | rfl<;>simp [Go.ChangeMaps.setBlock]
  have hr4:w4.heap[r]? = some (.mapIter (some l.g) clk (seen.push e.born) clk):=by rw [hw4]; exact hset.1
  have hb4:w4.heap[l.g]? = some (.map ar clk):=(h3o _ (by omega)).trans hb2
  have RT:=RL.turnA hXr (fun _ _ _ h=>by rw [hr2] at h; cases h) h3o h3s
  have hbel4:BelowP C.B C.w0 w4:=hbel.trans ⟨by rw [hw4]; rcases hal3 with rfl | rfl<;>rfl,by rw [hw4]; rcases hal3 with rfl | rfl<;>rfl,by rw [hw4]; rcases hal3 with rfl | rfl<;>rfl,by rw [h3s]; exact Nat.le_refl _,fun b hb=>h3o b fun e=>hb (e ▸ hCr),by rw [hw4]; rcases hal3 with rfl | rfl; exact Nat.le_refl _; exact Nat.le_succ _⟩
  have hkz:=hkey e hem
  generalize hzz:keyZ e.key=z at hkz
  have hzL:z ∉ L:=fun hz=>by
   rw [hLv] at hz
   obtain ⟨e1,he1,h1⟩:=List.mem_map.1 hz
   have h2:e1=e:=nodup_inj a4.2.1 (hvis e1 he1) hem (by rw [hkey e1 (hvis e1 he1),h1,hkz])
   rw [h2] at he1
   have h3:seen.contains e.born=true:=by rw [Array.contains_iff_mem,← Array.mem_toList_iff,hseen]; exact List.mem_map.2 ⟨e,he1,rfl⟩
   rw [hes] at h3; cases h3
  have hdz:d z=true:=by rw [← hzz]; exact hdk e hem
  have hval:e.val=vs z:=mlk_val a4.2.1 (a6 z hdz) e hem hkz
  refine wpR_block (wpR_seq (wpR_region_lit ?_))
  have hL2e:L2=[{ dst:=some t38,op:=.entry (.tmp t35),type:=y5,pos:=p5,after:=e5,guard:=none }]++L2.drop 1:=by rw [← hL2,List.take_append_drop]
  have RT2:=(RT.put (a:=a2') (d:=some t36) (v:=.tuple #[.bool true,e.key,e.val]) (x:=.dead) (fun t h=>by cases h; rw [hS2]; exact d36) (.dead _)).put (d:=some t37) (v:=.bool true) (x:=.p (.bool true)) (fun t h=>by cases h; show t37 < (S r L).n; rw [hS2]; exact d37) (.p _ _ (.bool true))
  have hsz5:((a2'.put (some t36) (.tuple #[.bool true,e.key,e.val])).put (some t37) (.bool true)).tmps.size=s.n:=hnsz _ _ _ (hnsz _ _ _ hsz)
  generalize ha5:(a2'.put (some t36) (.tuple #[.bool true,e.key,e.val])).put (some t37) (.bool true)=a5' at RT2 hsz5 ⊢
  have hdf5:a5'.defers=ds:=by rw [← ha5]; exact hdf2
  have hv5:a5'.eval (.tmp t35) = .pointer (some ⟨r,0,none⟩):=by
   have h:=RT2.ev (.tmp t35)
   have e35:(((S r L).put (some t36) .dead).put (some t37) (.p (.bool true))).ev (.tmp t35) = .itv r:=by
    show lk _ t35=_
    simp only [St.put,lk,show (t37 == t35)=false by simpa using n37,show (t36 == t35)=false by simpa using n36,cond_false]
    exact hS1
   rw [e35] at h
   generalize a5'.eval (.tmp t35)=x at h ⊢
   cases h; rfl
  have hen:=run_entry_at (P:=P) w4 r l.g clk seen ar clk e hr4 hb4 hem a4.2.2.2
  rw [hL2e]
  refine lstR_plain rfl fun K5 hK5=>?_
  refine opR_of_wp rfl ?_
  unfold Oper.wp
  simp only [execOp,Sem.run_bind,Sem.run_pure,Sem.run_map,Result.andThen_ok,hv5,hen]
  refine hK5 _ _ ?_
  rw [hkz,hval,keyV_int hk8]
  have RT5:=RT2.put (d:=some t38) (v:=.tuple #[.int kk z,vs z]) (x:=.p (.tup [.int kk z,v z])) (fun t h=>by cases h; show t38 < (S r L).n; rw [hS2]; exact d38) (.p _ _ (.tup _ _ rfl fun c hc=>by
   match c,hc with
   | 0,_=>exact .int kk z
   | 1,_=>exact hrv z hdz _ _
   | c + 2,hc=>exact absurd hc (by simp)))
  obtain ⟨s9,hr9,hbody⟩:=step r L z hLn hLd hdz hzL
  rw [← hL2e]
  refine hr9.sound RT5 hdf5 fun m9 a9 w9 R9 hdf9=>?_
  show wpR rr P _ _ _ _
  refine wpR_mono (hbody rr ds _ m9 a9 w9 R9 hdf9) fun ex a6 w6 ⟨s6,m6,q1,q2,q3⟩=>?_
  have hBr:¬ (ancC (holdC C X w4) A (some l)).B r:=fun h=>h.2 hXr
  have hBg:¬ (ancC (holdC C X w4) A (some l)).B l.g:=fun h=>h.2 hXg
  have hr6:w6.heap[r]? = some (.mapIter (some l.g) clk (seen.push e.born) clk):=(q2.below.block r hBr).trans hr4
  have hb6:w6.heap[l.g]? = some (.map ar clk):=(q2.below.block l.g hBg).trans hb4
  have nrm:(∃ π,Le π (S r (L++[z])) s6)→(∃ L m',Rel (ancC (holdC C X w6) A (some l)) m' (S r L) a6.tmps w6∧a6.defers=ds∧ItOk ar clk l.g r L w6∧(∀ y∈L,d y=true)∧BelowP C.B C.w0 w6)∧itLeft ar r w6 < itLeft ar r w2:=by
   rintro ⟨π',hle⟩
   refine ⟨⟨L++[z],_,(q2.weaken hle).anewA,q3,⟨hb6,seen.push e.born,vis++[e],hr6,fun x hx=>?_,by rw [Array.toList_push,hseen]; simp,by rw [hLv]; simp [hzz],List.nodup_append.2 ⟨hLn,by simp,fun x hx y hy he=>hzL (by rw [List.mem_singleton] at hy; rw [← hy,← he]; exact hx)⟩⟩,fun y hy=>?_,hbel4.trans (q2.below.monoB fun _ h=>h.1)⟩,?_⟩
   ·rcases List.mem_append.1 hx with hx | hx
    ·exact hvis x hx
    rw [List.mem_singleton] at hx; rw [hx]; exact hem
   ·rcases List.mem_append.1 hy with hy | hy
    ·exact hLd y hy
    rw [List.mem_singleton] at hy; rw [hy]; exact hdz
   simp only [itLeft,hr6,hr2]
   exact left_shrinks ar seen e he
  cases ex with
  | normal=>exact nrm q1
  | exit j =>
   simp only [Exit.then,Exit.inBlock,InB] at q1 ⊢
   by_cases hj:j=bid3
   ·rw [if_pos hj] at q1 ⊢; exact nrm q1
   rw [if_neg hj] at q1
   exact q1.elim
  | goto g=>exact q1.elim
  | ret=>exact q1.elim
  | panic c=>exact q1.elim
  | outgrown=>exact q1.elim
 rwa [← hLe] at go
end
end Go.Pv

namespace Go.Pv
open Go.RowKit
abbrev Mp:=Int→Option Int
def mpB (f:Mp):Blk:=.mp .i64 (fun z=>(f z).isSome) (fun z=>.int .i64 ((f z).getD 0))
def mps (k:Nat):List AV:=(List.range k).map fun i=>.mptr (i + 3)
def GB (G:List Mp) (U:List Int):Heap:=.own [.sl 1 0 G.length,.sl 2 0 U.length] :: .own (mps G.length) :: .own (ol U) :: G.map mpB
def updM (f:Mp) (z x:Int):Mp:=fun u=>if u=z then some x else f u
theorem mpB_upd (f:Mp) (z x:Int):Blk.mp .i64 (fun u=>u == z || (f u).isSome) (fun u=>bif u == z then .int .i64 x else .int .i64 ((f u).getD 0))=mpB (updM f z x):=by
 unfold mpB updM
 congr 1
 ·funext u
  by_cases h:u=z
  ·simp [h]
  simp [h]
 funext u
 by_cases h:u=z
 ·simp [h]
 have:(u == z)=false:=by simpa using h
 simp [h,this]
theorem mps_len (k:Nat):(mps k).length=k:=by simp [mps]
theorem mps_get {k a:Nat} (h:a < k) (x:AV):(mps k).getD a x = .mptr (a + 3):=by
 simp [mps,List.getD,List.getElem?_map,List.getElem?_range h]
theorem mps_sc {k L:Nat} (h:k + 3≤L):(mps k).all (scA L)=true:=by
 rw [List.all_eq_true]
 intro x hx
 obtain ⟨i,hi,rfl⟩:=List.mem_map.1 hx
 have:=List.mem_range.1 hi
 simp [scA,sc1]; omega
theorem mps_snoc (k:Nat):mps k++[.mptr (k + 3)]=mps (k + 1):=by simp [mps,List.range_succ]
theorem mps_ok (k:Nat):(mps k).all cellOk=true:=by simp [mps,cellOk]
theorem hget_G {G:List Mp} {X:Heap} {i:Nat} (h:i < G.length):hget (G.map mpB++X) i=mpB (G.getD i fun _=>none):=by
 rw [hget_app1 (by simpa using h),hget_eq]
 simp [List.getD,List.getElem?_map,List.getElem?_eq_getElem h]
theorem hset_G {G:List Mp} {X:Heap} {i:Nat} (h:i < G.length) (f:Mp):hset (G.map mpB++X) i (mpB f)=(G.set i f).map mpB++X:=by
 rw [hset_eq,List.set_append_left _ _ (by simpa using h),List.map_set]
theorem G_len (G:List Mp):(G.map mpB).length=G.length:=by simp
theorem GB_len (G:List Mp) (U:List Int):(GB G U).length=G.length + 3:=by simp [GB]
theorem GB_hsc {G:List Mp} {U:List Int} {L:Nat} (h:G.length + 3≤L):∀ b∈GB G U,hsc L b=true:=by
 intro b hb
 unfold GB at hb
 rcases List.mem_cons.1 hb with rfl | hb
 ·simp [hsc,scA,sc1]; omega
 rcases List.mem_cons.1 hb with rfl | hb
 ·exact mps_sc h
 rcases List.mem_cons.1 hb with rfl | hb
 ·exact ol_sc _ _
 obtain ⟨f,_,rfl⟩:=List.mem_map.1 hb
 rfl
theorem GB_hscX {G:List Mp} {U:List Int} {X:Heap} {L:Nat} (h:G.length + 3≤L) (hX:∀ b∈X,hsc L b=true):∀ b∈(GB G U++X),hsc L b=true:=fun b hb=>by
 rcases List.mem_append.1 hb with hb | hb
 ·exact GB_hsc h b hb
 exact hX b hb
end Go.Pv
namespace Go.Proofs.Ytneglephfhiamaa
open Go.Pv
def Fo (U:List Int):Prop:=∀ i,i < U.length→0≤U.getD i 0∧U.getD i 0≤(i:Int)
def ofS:Nat→List Int→Nat→Nat × List Int
 | 0,U,v=>(v,U)
 | n + 1,U,v=>if U.getD v 0=(v:Int) then (v,U) else
  ofS n (U.set v (U.getD (U.getD v 0).toNat 0)) (U.getD (U.getD v 0).toNat 0).toNat
def ofV (U:List Int) (v:Nat):Nat:=(ofS (v + 1) U v).1
def ofU (U:List Int) (v:Nat):List Int:=(ofS (v + 1) U v).2
theorem Fo.half {U:List Int} (h:Fo U) {v:Nat} (hv:v < U.length):Fo (U.set v (U.getD (U.getD v 0).toNat 0))∧(U.getD (U.getD v 0).toNat 0).toNat≤(U.getD v 0).toNat∧(U.getD v 0).toNat≤v∧0≤U.getD (U.getD v 0).toNat 0:=by
 obtain ⟨h1,h2⟩:=h v hv
 obtain ⟨h3,h4⟩:=h (U.getD v 0).toNat (by omega)
 refine ⟨fun i hi=>?_,by omega,by omega,h3⟩
 rw [List.length_set] at hi
 rw [List.getD_eq_getElem?_getD,List.getElem?_set]
 split
 ·rename_i e
  simp only [Option.getD_some]; omega
 rw [← List.getD_eq_getElem?_getD]; exact h i hi
theorem ofS_fuel:∀ (n m:Nat) (U:List Int) (v:Nat),Fo U→v < U.length→v < n→v < m→ofS n U v=ofS m U v
 | 0,_,_,_,_,_,h,_=>absurd h (Nat.not_lt_zero _)
 | _,0,_,_,_,_,_,h=>absurd h (Nat.not_lt_zero _)
 | n + 1,m + 1,U,v,hU,hv,h1,h2=>by
  rw [ofS,ofS]
  split
  ·rfl
  rename_i hne
  obtain ⟨g1,g2,g3,g4⟩:=hU.half hv
  have hb:=hU v hv
  exact ofS_fuel n m _ _ g1 (by rw [List.length_set]; omega) (by omega) (by omega)
theorem ofS_len:∀ (n:Nat) (U:List Int) (v:Nat),(ofS n U v).2.length=U.length
 | 0,_,_=>rfl
 | n + 1,U,v=>by
  rw [ofS]
  split
  ·rfl
  rw [ofS_len n]; simp
theorem ofU_len (U:List Int) (v:Nat):(ofU U v).length=U.length:=ofS_len _ _ _
section
variable {G:List Mp} {U:List Int}
set_option maxHeartbeats 4000000 in
set_option maxRecDepth 20000 in
theorem of_c (hU:Fo U) (hl:U.length=G.length) (hk:G.length≤100000000) {v:Nat} (hv:v < G.length):FnM Try.prog 56 [.ptr 0 0,.p (.int .i64 v)] (GB G U) (.p (.int .i64 (ofV U v:Nat))) (GB G (ofU U v)):=by
 unfold GB
 refine fnm_of tab_ok Try.func56 rfl (by kernel_rfl) (by rw [Try.ntmps56]; exact Nat.le_add_left 2 _) ?_; rw [Try.ntmps56]; simp only [ancs,entA,List.length_cons,List.length_nil,List.cons_append,List.nil_append,Nat.reduceAdd,Nat.zero_add]
 have hXs:∀ b∈(.anc 0 0 :: .anc 1 1 :: .anc 2 2 :: ancs 3 (G.map mpB).length:Heap),hsc (G.length + 3 + (G.length + 3)) b=true:=fun b hb=>by
  have:(.anc 0 0 :: .anc 1 1 :: .anc 2 2 :: ancs 3 (G.map mpB).length:Heap)=ancs 0 (G.length + 3):=by rw [G_len]; rfl
  rw [this] at hb
  exact ancs_hsc (by omega) b hb
 have hXl:(.anc 0 0 :: .anc 1 1 :: .anc 2 2 :: ancs 3 (G.map mpB).length:Heap).length=G.length + 3:=by simp [ancs_length]
 generalize (.anc 0 0 :: .anc 1 1 :: .anc 2 2 :: ancs 3 (G.map mpB).length:Heap)=X at hXs hXl ⊢
 have hHl:∀ U1:List Int,(.own [.sl 1 0 G.length,.sl 2 0 U.length] :: .own (mps G.length) :: .own (ol U1) :: (G.map mpB++X):Heap).length=G.length + 3 + (G.length + 3):=fun U1=>by simp [hXl]; omega
 have hHs:∀ U1:List Int,U1.length=U.length→∀ b∈(.own [.sl 1 0 G.length,.sl 2 0 U.length] :: .own (mps G.length) :: .own (ol U1) :: (G.map mpB++X):Heap),hsc (.own [.sl 1 0 G.length,.sl 2 0 U.length] :: .own (mps G.length) :: .own (ol U1) :: (G.map mpB++X):Heap).length b=true:=fun U1 h1 b hb=>by
  rw [hHl]
  refine GB_hscX (G:=G) (U:=U1) (X:=X) (by omega) hXs b ?_
  unfold GB
  rw [h1]
  simpa using hb
 refine qm ?_
 refine hk_region fun K hK=>runs_eval tab_ok ?_
 simp only [evz,fl,gp,tab,simprocAttr]
 refine fin_run trivial (hK _ ?_)<;>clear hK K
 refine qa (qm (ql ?_))
 refine hk_loop (ι:=Nat × List Int) (fun x=>⟨41,[(0,.ptr 0 0),(1,.p (.int .i64 (x.1:Nat)))],.own [.sl 1 0 G.length,.sl 2 0 U.length] :: .own (mps G.length) :: .own (ol x.2) :: (G.map mpB++X)⟩) (fun x=>Fo x.2∧x.2.length=U.length∧x.1 < U.length∧ofS (v + 1) U v=ofS (x.1 + 1) x.2 x.1) (fun x=>x.1) (v,U) ⟨hU,rfl,by simp only; omega,rfl⟩ (List.range (.own [.sl 1 0 G.length,.sl 2 0 U.length] :: .own (mps G.length) :: .own (ol U) :: (G.map mpB++X):Heap).length) (le_same rfl rfl (hHs U rfl) (by
  rw [hHl]
  simp [St.get,lk,scA,sc1]; omega)) fun x hx=>?_
 obtain ⟨y,U1⟩:=x
 obtain ⟨x1,x2,x3,x4⟩:=hx
 simp only at x1 x2 x3 x4
 have hy:=x1 y (by omega)
 obtain ⟨p,hp⟩:=Int.eq_ofNat_of_zero_le hy.1
 obtain ⟨f1,f2,f3,f4⟩:=x1.half (v:=y) (by omega)
 have hpn:(U1.getD y 0).toNat=p:=by omega
 rw [hpn] at f1 f2 f3 f4
 obtain ⟨q,hq⟩:=Int.eq_ofNat_of_zero_le f4
 have hqn:(U1.getD p 0).toNat=q:=by omega
 obtain ⟨U2,hU2⟩:∃ U2,U1.set y (U1.getD p 0)=U2:=⟨_,rfl⟩
 have l2:U2.length=U.length:=by rw [← hU2,List.length_set]; exact x2
 have g2:U2.getD y 0=(q:Int):=by
  rw [← hU2,← hq,List.getD_eq_getElem?_getD,List.getElem?_set_self (by omega)]; rfl
 rw [hU2] at f1
 refine qm (qm ?_)
 refine hk_region fun K hK=>runs_eval tab_ok ?_
 simp only [evz,fl,gp,tab,simprocAttr,ol_get (show y < U1.length by omega)]
 refine fin_run ?_ (hK _ ?_)<;>clear hK K
 ·exact ⟨⟨by omega,by omega⟩,by omega⟩
 refine qa ?_
 refine hk_cond rfl (fun hC1=>?_) (fun hC1=>?_)
 ·(try simp only [nhs] at hC1)
  have hne:¬ U1.getD y 0=(y:Int):=by simpa using hC1
  refine qh (qa (ql (qm ?_)))
  refine hk_draw mixed (by kernel_rfl) fun K hK=>runs_eval tab_ok ?_
  simp only [evz,fl,gp,tab,simprocAttr,ol_get (show y < U1.length by omega),hp,Int.ofNat_eq_natCast,Int.toNat_natCast,ol_get (show p < U1.length by omega),ol_set,hU2]
  refine fin_run ?_ (hK _ ?_)<;>clear hK K
  ·(first|exact trivial|omega|(simp only [In64] at *; omega)|(simp [In64] at *; omega)|(simp_all; done)|skip)
  refine qa ?_
  refine hk_region fun K hK=>runs_eval tab_ok ?_
  simp only [evz,fl,gp,tab,simprocAttr,ol_get (show y < U2.length by omega),g2]
  refine fin_run ?_ (hK _ ?_)<;>clear hK K
  ·(first|exact trivial|omega|(simp only [In64] at *; omega)|(simp [In64] at *; omega)|(simp_all; done)|skip)
  refine qd (qa ?_)
  have hst:ofS (y + 1) U1 y=ofS (q + 1) U2 q:=by
   rw [ofS,if_neg hne,hpn,hU2,hqn]
   exact ofS_fuel _ _ _ _ f1 (by omega) (by omega) (by omega)
  refine ⟨(q,U2),List.range (.own [.sl 1 0 G.length,.sl 2 0 U.length] :: .own (mps G.length) :: .own (ol U2) :: (G.map mpB++X):Heap).length,⟨f1,l2,by simp only; omega,by rw [x4,hst]⟩,by simp only; omega,le_same rfl rfl (hHs U2 l2) (by
   rw [hHl]
   simp [St.get,lk,scA,sc1]; omega)⟩
 (try simp only [nhs] at hC1)
 have hey:U1.getD y 0=(y:Int):=by simpa using hC1
 have hst:ofS (v + 1) U v=(y,U1):=by rw [x4,ofS,if_pos hey]
 refine qj (qc (qc (qf (qa (qm ?_)))))
 refine hk_region fun K hK=>runs_eval tab_ok ?_
 simp only [evz,fl,gp,tab,simprocAttr]
 refine fin_run trivial (hK _ ?_)<;>clear hK K
 refine qa (qk ?_)
 simp only [Try.results56,PostG,endG,rvsA,rvA,mkTup,evz,fl,gp,tab,simprocAttr]
 have e1:ofV U v=y:=by rw [ofV,hst]
 have e2:ofU U v=U1:=by rw [ofU,hst]
 rw [e1,e2,x2]
 exact ⟨List.range (.own [.sl 1 0 G.length,.sl 2 0 U.length] :: .own (mps G.length) :: .own (ol U1) :: (G.map mpB++X):Heap).length,rfl,rfl,le_same rfl rfl (hHs U1 x2) (by simp)⟩
end
end Go.Proofs.Ytneglephfhiamaa
