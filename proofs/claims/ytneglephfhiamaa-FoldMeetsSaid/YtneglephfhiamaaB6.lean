/-
  Texts of this proof, one behind the other: what each says stands at its head. Conditions: none.
-/
import Derived.Test.YtneglephfhiamaaB5
import Derived.Test.YtneglephfhiamaaB4
import Derived.Test.YtneglephfhiamaaB2
import Derived.Test.YtneglephfhiamaaB3

set_option linter.all false
namespace Go.Proofs.Ytneglephfhiamaa
open Go.Pv
theorem Rle.nn3l {a b c:List PV} : Rle (.nn [.nn a,.nn b,.nn c]) (.list [.list a,.list b,.list c]):=fun ok w v h=>by
 cases h with
 | nn _ k off sz vs hb hsz hc hr =>
  refine .list [.list a,.list b,.list c] k off 3 1 vs hb (by simp [PV.cells]) (by simp) (fun i hc'=>hc i (by simpa [flat,PV.cells] using hc')) fun i hcl=>?_
  have h0:=hr 0 (by simp [flat,PV.cells])
  have h1:=hr 1 (by simp [flat,PV.cells])
  have h2:=hr 2 (by simp [flat,PV.cells])
  match i,hcl with
  | 0,_=>exact Reads.nn_list h0
  | 1,_=>exact Reads.nn_list h1
  | 2,_=>exact Reads.nn_list h2
theorem ckX:ckL sX=(0,0):=rfl
theorem shX:sX.map short=sX:=rfl
theorem goodX:Good sX:=by
 refine ⟨fun w hw=>?_,by decide,by decide⟩
 simp only [sX,List.mem_cons,List.not_mem_nil,or_false] at hw
 rcases hw with rfl | rfl | rfl
 ·exact ⟨by decide,fun x hx=>by simp at hx; omega⟩
 ·exact ⟨by decide,fun x hx=>by simp at hx; omega⟩
 exact ⟨by decide,fun x hx=>by simp at hx; omega⟩
theorem indexX:indexS sX 2=(2,(0,0)):=by
 have h1:idxF sX 2=(0,0):=rfl
 unfold indexS
 rw [h1,shX,cntX.1,cntX.2]; rfl
theorem rankX:rankS sX=(3,(0,0)):=by
 unfold rankS
 rw [ckX,shX,cntX.1,cntX.2]; rfl
theorem lenX:sX.length≤1000000000∧∀ w∈sX,w.length≤1000000000:=⟨by decide,fun w hw=>(goodX.1 w hw).1⟩
theorem indexX_c:FnC Try.prog 24 [.nn [.nn [.int .i64 1,.int .i64 1],.nn [.int .i64 2],.nn [.int .i64 1,.int .i64 2,.int .i64 (-1)]],.int .i64 2] (.tup [.int .i64 2,fl (0,0)]):=by
 have:=index_c sX 2 lenX.1 lenX.2 (fun _=>goodX)
 rw [indexX] at this
 exact FnC.weak this ⟨Rle.nn3l,Rle.rfl,trivial⟩
theorem rankX_c:FnC Try.prog 17 [.nn [.nn [.int .i64 1,.int .i64 1],.nn [.int .i64 2],.nn [.int .i64 1,.int .i64 2,.int .i64 (-1)]]] (.tup [.int .i64 3,fl (0,0)]):=by
 have:=rank_c sX lenX.1 lenX.2 (fun _=>goodX)
 rw [rankX] at this
 exact FnC.weak this ⟨Rle.nn3l,trivial⟩
set_option maxHeartbeats 4000000 in
theorem foldBegun_c:FnC Try.prog 13 [] (.bool true):=by
 refine fnc_of tab_ok Try.func13 rfl (by kernel_rfl) (by rw [Try.ntmps13]; exact Nat.le_add_left 0 _) ?_; rw [Try.ntmps13]
 refine qm ?_
 refine hk_region fun K hK=>runs_eval tab_ok ?_
 simp only [evz,fl,gp,tab,simprocAttr]
 refine fin_run trivial (hK _ ?_)<;>clear hK K
 refine qa (qm ?_)
 refine hk_region fun K hK=>runs_eval tab_ok ?_
 simp only [evz,fl,gp,tab,simprocAttr]
 refine fin_run ?_ (hK _ ?_)<;>clear hK K
 ·(first|exact trivial|omega|(simp only [In64] at *; omega)|(simp [In64] at *; omega)|(simp_all; done)|skip)
 refine qa (qm ?_)
 refine hk_region fun K hK=>runs_eval tab_ok ?_
 simp only [evz,fl,gp,tab,simprocAttr]
 refine fin_stop trivial (runs_call (indexX_c) rfl rfl rfl (by simp only [dstOk,Nat.reduceLT]) (by repeat (first|exact trivial|constructor)) (runs_eval tab_ok ?_))
 simp only [evz,fl,gp,tab,simprocAttr]
 refine fin_run ?_ (hK _ ?_)<;>clear hK K
 ·(first|exact trivial|omega|(simp only [In64] at *; omega)|(simp [In64] at *; omega)|(simp_all; done)|skip)
 refine qa (qm ?_)
 refine hk_region fun K hK=>runs_eval tab_ok ?_
 simp only [evz,fl,gp,tab,simprocAttr]
 refine fin_stop trivial (runs_call (rankX_c) rfl rfl rfl (by simp only [dstOk,Nat.reduceLT]) (by repeat (first|exact trivial|constructor)) (runs_eval tab_ok ?_))
 simp only [evz,fl,gp,tab,simprocAttr]
 refine fin_run ?_ (hK _ ?_)<;>clear hK K
 ·(first|exact trivial|omega|(simp only [In64] at *; omega)|(simp [In64] at *; omega)|(simp_all; done)|skip)
 refine qa (qm ?_)
 refine hk_region fun K hK=>runs_eval tab_ok ?_
 simp only [evz,fl,gp,tab,simprocAttr]
 refine fin_run ?_ (hK _ ?_)<;>clear hK K
 ·(first|exact trivial|omega|(simp only [In64] at *; omega)|(simp [In64] at *; omega)|(simp_all; done)|skip)
 refine qa (qk ?_)
 simp only [Try.results13,enA,evz,fl,gp,tab,simprocAttr]
 all_goals ((first|exact rfl|exact ⟨rfl,rfl⟩|exact ⟨rfl,rfl,rfl⟩|exact ⟨trivial,rfl⟩|exact ⟨Nat.le_refl _,rfl⟩|trivial|(simp; done)))
end Go.Proofs.Ytneglephfhiamaa

namespace Go.Proofs.Ytneglephfhiamaa
open Go.Pv
set_option maxHeartbeats 4000000 in
theorem someWords_c (L:List (List Int)) (hl:L.length≤1000000000) (hw:∀ w∈L,w.length≤1000000000):FnC Try.prog 18 [.list (ll L)] (fl (ckL L)):=by
 refine fnc_of tab_ok Try.func18 rfl (by kernel_rfl) (by rw [Try.ntmps18]; exact Nat.le_add_left 1 _) ?_; rw [Try.ntmps18]
 refine qm ?_
 refine hk_region fun K hK=>runs_eval tab_ok ?_
 simp only [evz,fl,gp,tab,simprocAttr]
 refine fin_run ?_ (hK _ ?_)<;>clear hK K
 ·(first|exact trivial|omega|(simp only [In64] at *; omega)|(simp [In64] at *; omega)|(simp_all; done)|skip)
 refine qa (qm (qm ?_))
 refine hk_region fun K hK=>runs_eval tab_ok ?_
 simp only [evz,fl,gp,tab,simprocAttr,ll_length]
 refine fin_run trivial (hK _ ?_)<;>clear hK K
 refine qa ?_
 refine hk_cond rfl (fun hC1=>?_) (fun hC1=>?_)
 ·(try simp only [nhs] at hC1)
  have h20:20 < L.length:=by omega
  refine qm ?_
  refine hk_region fun K hK=>runs_eval tab_ok ?_
  simp only [evz,fl,gp,tab,simprocAttr]
  refine fin_stop trivial (runs_call (f_c 2 0) rfl rfl rfl (by simp only [dstOk,Nat.reduceLT]) (by repeat (first|exact trivial|constructor)) (runs_eval tab_ok ?_))
  simp only [evz,fl,gp,tab,simprocAttr]
  refine fin_run ?_ (hK _ ?_)<;>clear hK K
  ·(first|exact trivial|omega|(simp only [In64] at *; omega)|(simp [In64] at *; omega)|(simp_all; done)|skip)
  refine qa (qk (qb ?_))
  simp only [Try.results18,enA,evz,fl,gp,tab,simprocAttr]
  have e:ckL L=(2,0):=by unfold ckL; rw [if_pos (by omega)]
  rw [e]
  exact ⟨rfl,rfl⟩
 (try simp only [nhs] at hC1)
 have h20:¬ 20 < L.length:=by omega
 refine qh (qa (qm ?_))
 refine hk_region fun K hK=>runs_eval tab_ok ?_
 simp only [evz,fl,gp,tab,simprocAttr]
 refine fin_run trivial (hK _ ?_)<;>clear hK K
 refine qa (qm (qm ?_))
 refine hk_region fun K hK=>runs_eval tab_ok ?_
 simp only [evz,fl,gp,tab,simprocAttr]
 refine fin_run trivial (hK _ ?_)<;>clear hK K
 refine qa (ql ?_)
 refine hk_loop (ι:=Nat × Nat) (fun q=>⟨40,[(0,.p (.list (ll L))),(2,.ptr 0 0),(3,.p (.int .i64 (q.2:Nat))),(4,.p (.int .i64 (q.1:Nat)))],[.own [.p (.int .i64 0),.p (.int .i64 0)]]⟩) (fun q=>q.1≤L.length∧q.2≤2000∧ckL L=ckG (L.drop q.1) q.1 q.2) (fun q=>L.length - q.1) (0,0) ⟨Nat.zero_le _,Nat.zero_le _,by unfold ckL; rw [if_neg h20]; rfl⟩ [0] (by simp only [leq,leA,evz,fl,gp,tab,simprocAttr]<;>trivial) fun q hq=>?_
 obtain ⟨i,n⟩:=q
 obtain ⟨q1,q2,q3⟩:=hq
 simp only at q1 q2 q3 ⊢
 refine qm (qm ?_)
 refine hk_region fun K hK=>runs_eval tab_ok ?_
 simp only [evz,fl,gp,tab,simprocAttr,ll_length]
 refine fin_run trivial (hK _ ?_)<;>clear hK K
 refine qa ?_
 refine hk_cond rfl (fun hC2=>?_) (fun hC2=>?_)
 ·(try simp only [nhs] at hC2)
  have hi:i < L.length:=by omega
  have hdr:L.drop i=L.getD i [] :: L.drop (i + 1):=by
   rw [List.drop_eq_getElem_cons hi,List.getD_eq_getElem?_getD,List.getElem?_eq_getElem hi]; rfl
  obtain ⟨w,hwd⟩:∃ w,L.getD i []=w:=⟨_,rfl⟩
  have hwl:w.length≤1000000000:=hw w (by rw [← hwd,List.getD_eq_getElem?_getD,List.getElem?_eq_getElem hi]; exact List.getElem_mem hi)
  rw [hdr,hwd,ckG] at q3
  refine qh (qa (qm (ql (qm ?_))))
  refine hk_region fun K hK=>runs_eval tab_ok ?_
  simp only [evz,fl,gp,tab,simprocAttr,ll_length,ll_get hi,hwd]
  refine fin_stop ?_ (runs_call (wordFault_c w) rfl rfl rfl (by simp only [dstOk,Nat.reduceLT]) (by repeat (first|exact trivial|constructor)) (runs_eval tab_ok ?_))
  ·(first|exact trivial|omega|exact ⟨by omega,by omega⟩|trace_state)
  simp only [evz,fl,gp,tab,simprocAttr,ll_length,ll_get hi,hwd]
  refine fin_run ?_ (hK _ ?_)<;>clear hK K
  ·(first|exact trivial|omega|trace_state)
  refine qa (qm (qm ?_))
  refine hk_region fun K hK=>runs_eval tab_ok ?_
  simp only [evz,fl,gp,tab,simprocAttr]
  refine fin_run ?_ (hK _ ?_)<;>clear hK K
  ·(first|exact trivial|omega|(simp only [In64] at *; omega)|(simp [In64] at *; omega)|(simp_all; done)|skip)
  refine qa ?_
  refine hk_cond rfl (fun hC3=>?_) (fun hC3=>?_)
  ·(try simp only [nhs] at hC3)
   have h0:(check w).1 ≠ 0:=hC3
   rw [if_pos h0] at q3
   refine qm ?_
   refine hk_region fun K hK=>runs_eval tab_ok ?_
   simp only [evz,fl,gp,tab,simprocAttr]
   refine fin_stop trivial (runs_call (f_c (check w).1 i) rfl rfl rfl (by simp only [dstOk,Nat.reduceLT]) (by repeat (first|exact trivial|constructor)) (runs_eval tab_ok ?_))
   simp only [evz,fl,gp,tab,simprocAttr]
   refine fin_run ?_ (hK _ ?_)<;>clear hK K
   ·(first|exact trivial|omega|(simp only [In64] at *; omega)|(simp [In64] at *; omega)|(simp_all; done)|skip)
   refine qa (qk (qb (qe (qb (qb (qe (qb ?_)))))))
   simp only [Try.results18,enA,evz,fl,gp,tab,simprocAttr]
   all_goals (rw [q3]; exact ⟨rfl,rfl⟩)
  (try simp only [nhs] at hC3)
  have h0:¬ (check w).1 ≠ 0:=fun h=>h hC3
  rw [if_neg h0] at q3
  refine qh (qa (qm ?_))
  refine hk_region fun K hK=>runs_eval tab_ok ?_
  simp only [evz,fl,gp,tab,simprocAttr,il_length,ll_length,ll_get hi,hwd]
  refine fin_run ?_ (hK _ ?_)<;>clear hK K
  ·(first|omega|(simp only [In64]; omega)|exact ⟨by omega,by simp only [In64]; omega⟩|trace_state)
  refine qa (qm ?_)
  refine hk_region fun K hK=>runs_eval tab_ok ?_
  simp only [evz,fl,gp,tab,simprocAttr]
  refine fin_run trivial (hK _ ?_)<;>clear hK K
  refine qa ?_
  refine hk_cond rfl (fun hC4=>?_) (fun hC4=>?_)
  ·(try simp only [nhs] at hC4)
   have h1:2000 < n + w.length:=by omega
   rw [if_pos h1] at q3
   refine qm ?_
   refine hk_region fun K hK=>runs_eval tab_ok ?_
   simp only [evz,fl,gp,tab,simprocAttr]
   refine fin_stop trivial (runs_call (f_c 2 i) rfl rfl rfl (by simp only [dstOk,Nat.reduceLT]) (by repeat (first|exact trivial|constructor)) (runs_eval tab_ok ?_))
   simp only [evz,fl,gp,tab,simprocAttr]
   refine fin_run ?_ (hK _ ?_)<;>clear hK K
   ·(first|exact trivial|omega|(simp only [In64] at *; omega)|(simp [In64] at *; omega)|(simp_all; done)|skip)
   refine qa (qk (qe (qb (qb (qe (qb ?_))))))
   simp only [Try.results18,enA,evz,fl,gp,tab,simprocAttr]
   all_goals (rw [q3]; exact ⟨rfl,rfl⟩)
  (try simp only [nhs] at hC4)
  have h1:¬ 2000 < n + w.length:=by omega
  rw [if_neg h1] at q3
  refine qh (qd (qa ?_))
  refine hk_region fun K hK=>runs_eval tab_ok ?_
  simp only [evz,fl,gp,tab,simprocAttr]
  refine fin_run ?_ (hK _ ?_)<;>clear hK K
  ·(first|exact trivial|omega|(simp only [In64] at *; omega)|(simp [In64] at *; omega)|(simp_all; done)|skip)
  refine qa ?_
  refine ⟨(i + 1,n + w.length),[0],⟨by simp only; omega,by simp only; omega,q3⟩,by simp only; omega,?_⟩
  simp only [leq,leA,evz,fl,gp,tab,simprocAttr]<;>first|trivial|trace_state
 (try simp only [nhs] at hC2)
 refine qj (qc (qc (qf (qa (qm ?_)))))
 refine hk_region fun K hK=>runs_eval tab_ok ?_
 simp only [evz,fl,gp,tab,simprocAttr]
 refine fin_run ?_ (hK _ ?_)<;>clear hK K
 ·(first|exact trivial|omega|(simp only [In64] at *; omega)|(simp [In64] at *; omega)|(simp_all; done)|skip)
 refine qa (qk ?_)
 simp only [Try.results18,enA,evz,fl,gp,tab,simprocAttr]
 have hie:i=L.length:=by omega
 rw [hie,List.drop_length,ckG] at q3
 rw [q3]
 exact ⟨rfl,rfl⟩
end Go.Proofs.Ytneglephfhiamaa

namespace Go.Proofs.Ytneglephfhiamaa
open Go.Pv
set_option maxHeartbeats 4000000 in
theorem ownLists_c (L:List (List Int)) (hl:L.length≤1000000000) (hw:∀ w∈L,w.length≤1000000000):FnC Try.prog 16 [.list (ll L)] (.list (ll L)):=by
 refine fnc_of tab_ok Try.func16 rfl (by kernel_rfl) (by rw [Try.ntmps16]; exact Nat.le_add_left 1 _) ?_; rw [Try.ntmps16]
 refine qm ?_
 refine hk_region fun K hK=>runs_eval tab_ok ?_
 simp only [evz,fl,gp,tab,simprocAttr]
 refine fin_run trivial (hK _ ?_)<;>clear hK K
 refine qa (qm ?_)
 refine hk_region fun K hK=>runs_eval tab_ok ?_
 simp only [evz,fl,gp,tab,simprocAttr]
 refine fin_run trivial (hK _ ?_)<;>clear hK K
 refine qa (qm (qm ?_))
 refine hk_own0 3 rfl ?_
 refine hk_region fun K hK=>runs_eval tab_ok ?_
 simp only [evz,fl,gp,tab,simprocAttr]
 refine fin_run trivial (hK _ ?_)<;>clear hK K
 refine qa (ql ?_)
 refine hk_loop (ι:=Nat) (fun i=>⟨20,[(0,.p (.list (ll L))),(3,.sl 0 0 i),(4,.p (.int .i64 (i:Nat)))],[.own (opl (ll (L.take i)))]⟩) (fun i=>i≤L.length) (fun i=>L.length - i) 0 (Nat.zero_le _) [0] ⟨rfl,by decide,⟨⟨rfl,rfl⟩,trivial⟩,rfl,rfl,rfl,rfl,rfl,rfl,trivial⟩ fun i hq=>?_
 refine qm (qm ?_)
 refine hk_region fun K hK=>runs_eval tab_ok ?_
 simp only [evz,fl,gp,tab,simprocAttr,ll_length]
 refine fin_run trivial (hK _ ?_)<;>clear hK K
 refine qa ?_
 refine hk_cond rfl (fun hC1=>?_) (fun hC1=>?_)
 ·(try simp only [nhs] at hC1)
  have hi:i < L.length:=by omega
  have hlen:(L.take i).length=i:=by rw [List.length_take]; omega
  have ha:L.take (i + 1)=L.take i++[L.getD i []]:=by
   rw [List.take_succ,List.getElem?_eq_getElem hi,List.getD_eq_getElem?_getD,List.getElem?_eq_getElem hi]; rfl
  have htk:List.take i (opl (ll (L.take i)))=opl (ll (L.take i)):=List.take_of_length_le (by rw [opl_length,ll_length,hlen]; exact Nat.le_refl _)
  refine qh (qa (qm (ql ?_)))
  refine hk_region fun K hK=>runs_eval tab_ok ?_
  simp only [evz,fl,gp,tab,simprocAttr,ll_length,ll_get hi,htk,opl_length,hlen]
  refine fin_stop ?_ (runs_call (own_c (L.getD i []) (hw _ (by rw [List.getD_eq_getElem?_getD,List.getElem?_eq_getElem hi]; exact List.getElem_mem hi))) rfl rfl rfl (by simp only [dstOk,Nat.reduceLT]) (by repeat (first|exact trivial|constructor)) (runs_eval tab_ok ?_))
  ·(first|exact trivial|omega|exact ⟨by omega,by omega⟩|trace_state)
  simp only [evz,fl,gp,tab,simprocAttr,ll_length,ll_get hi,htk,opl_length,hlen]
  refine fin_run ?_ (hK _ ?_)<;>clear hK K
  ·exact ⟨Nat.le_refl _,by omega,by omega⟩
  refine qd (qa ?_)
  refine hk_region fun K hK=>runs_eval tab_ok ?_
  simp only [evz,fl,gp,tab,simprocAttr]
  refine fin_run ?_ (hK _ ?_)<;>clear hK K
  ·(first|exact trivial|omega|(simp only [In64] at *; omega)|(simp [In64] at *; omega)|(simp_all; done)|skip)
  refine qa ?_
  refine ⟨i + 1,[1],by omega,by omega,rfl,by decide,⟨⟨?_,?_⟩,trivial⟩,rfl,rfl,rfl,rfl,rfl,rfl,trivial⟩
  ·rw [ha,opl_ren]; exact (List.take_of_length_le (Nat.le_refl _)).symm
  exact opl_sc _ _
 (try simp only [nhs] at hC1)
 refine qj (qc (qc (qf (qa (qm ?_)))))
 have hie:i=L.length:=by omega
 rw [hie,List.take_length]
 refine hk_sealp 3 0 (ll_all L) (by rw [ll_length]; rfl) rfl ?_
 refine hk_region fun K hK=>runs_eval tab_ok ?_
 simp only [evz,fl,gp,tab,simprocAttr]
 refine fin_run trivial (hK _ ?_)<;>clear hK K
 refine qa (qk ?_)
 simp only [Try.results16,enA,evz,fl,gp,tab,simprocAttr]
 all_goals ((first|exact rfl|exact ⟨rfl,rfl⟩|exact ⟨rfl,rfl,rfl⟩|exact ⟨trivial,rfl⟩|exact ⟨Nat.le_refl _,rfl⟩|trivial|(simp; done)))
def lwS (L:List (List Int)):Bool:=decide (3000 < tot L) || decide (200 < L.length) || (decide (120 < tot L) && decide ((ckL L).1=0))
theorem tot_mem:∀ {L:List (List Int)} {w:List Int},w∈L→w.length≤tot L
 | v :: L,w,h=>by
  have e:tot (v :: L)=v.length + tot L:=by simp [tot]
  rcases List.mem_cons.1 h with rfl | h
  ·omega
  have:=tot_mem h; omega
set_option maxHeartbeats 4000000 in
theorem longWords_c (L:List (List Int)) (hl:L.length≤100000000000000) (hw:∀ w∈L,w.length≤100000000000000):FnC Try.prog 14 [.list (ll L)] (.bool (lwS L)):=by
 refine fnc_of tab_ok Try.func14 rfl (by kernel_rfl) (by rw [Try.ntmps14]; exact Nat.le_add_left 1 _) ?_; rw [Try.ntmps14]
 refine qm ?_
 refine hk_region fun K hK=>runs_eval tab_ok ?_
 simp only [evz,fl,gp,tab,simprocAttr]
 refine fin_run trivial (hK _ ?_)<;>clear hK K
 refine qa (qm ?_)
 refine hk_region fun K hK=>runs_eval tab_ok ?_
 simp only [evz,fl,gp,tab,simprocAttr]
 refine fin_run trivial (hK _ ?_)<;>clear hK K
 refine qa (qm (qm ?_))
 refine hk_region fun K hK=>runs_eval tab_ok ?_
 simp only [evz,fl,gp,tab,simprocAttr]
 refine fin_run trivial (hK _ ?_)<;>clear hK K
 refine qa (ql ?_)
 refine hk_loop (ι:=Nat) (fun i=>⟨33,[(0,.p (.list (ll L))),(3,.p (.int .i64 (tot (L.take i):Nat))),(4,.p (.int .i64 (i:Nat)))],[]⟩) (fun i=>i≤L.length∧tot (L.take i)≤3000) (fun i=>L.length - i) 0 ⟨Nat.zero_le _,by simp [tot]⟩ [] ⟨rfl,List.nodup_nil,trivial,rfl,rfl,rfl,rfl,rfl,rfl,trivial⟩ fun i hq=>?_
 obtain ⟨q1,q2⟩:=hq
 refine qm (qm ?_)
 refine hk_region fun K hK=>runs_eval tab_ok ?_
 simp only [evz,fl,gp,tab,simprocAttr,ll_length]
 refine fin_run trivial (hK _ ?_)<;>clear hK K
 refine qa ?_
 refine hk_cond rfl (fun hC1=>?_) (fun hC1=>?_)
 ·(try simp only [nhs] at hC1)
  have hi:i < L.length:=by omega
  have ht:tot (L.take (i + 1))=tot (L.take i) + (L.getD i []).length:=by rw [take_snoc (d:=[]) hi,tot_sn]
  have hwl:=hw (L.getD i []) (by rw [List.getD_eq_getElem?_getD,List.getElem?_eq_getElem hi]; exact List.getElem_mem hi)
  refine qh (qa (qm (ql (qm ?_))))
  refine hk_region fun K hK=>runs_eval tab_ok ?_
  simp only [evz,fl,gp,tab,simprocAttr,ll_length,ll_get hi,il_length]
  refine fin_run ?_ (hK _ ?_)<;>clear hK K
  ·(first|exact ⟨⟨by omega,by omega⟩,by simp only [In64]; omega⟩|exact ⟨by omega,by simp only [In64]; omega⟩|trace_state)
  refine qa (qm ?_)
  refine hk_region fun K hK=>runs_eval tab_ok ?_
  simp only [evz,fl,gp,tab,simprocAttr]
  refine fin_run trivial (hK _ ?_)<;>clear hK K
  refine qa ?_
  refine hk_cond rfl (fun hC2=>?_) (fun hC2=>?_)
  ·(try simp only [nhs] at hC2)
   have h3:3000 < tot L:=by
    have:=tot_tk L (i + 1)
    omega
   refine qm ?_
   refine hk_region fun K hK=>runs_eval tab_ok ?_
   simp only [evz,fl,gp,tab,simprocAttr]
   refine fin_run trivial (hK _ ?_)<;>clear hK K
   refine qa (qk (qe (qb (qb (qe (qb ?_))))))
   simp only [Try.results14,enA,evz,fl,gp,tab,simprocAttr]
   all_goals (simp [lwS,h3])
  (try simp only [nhs] at hC2)
  refine qh (qd (qa ?_))
  refine hk_region fun K hK=>runs_eval tab_ok ?_
  simp only [evz,fl,gp,tab,simprocAttr]
  refine fin_run ?_ (hK _ ?_)<;>clear hK K
  ·(first|exact trivial|omega|(simp only [In64] at *; omega)|(simp [In64] at *; omega)|(simp_all; done)|skip)
  refine qa ?_
  refine ⟨i + 1,[],⟨by omega,by omega⟩,by omega,?_⟩
  rw [ht]
  simp only [leq,leA,evz,fl,gp,tab,simprocAttr]<;>first|trivial|trace_state
 (try simp only [nhs] at hC1)
 have hie:i=L.length:=by omega
 rw [hie,List.take_length] at q2
 rw [hie,List.take_length]
 refine qj (qc (qc (qf (qa (qm ?_)))))
 by_cases g8a:(L.length:Int) > 200
 ·refine hk_region fun K hK=>runs_eval tab_ok ?_
  simp only [evz,fl,gp,tab,simprocAttr,ll_length,decide_eq_true g8a]
  refine fin_run trivial (hK _ ?_)<;>clear hK K
  refine qa (qk ?_)
  simp only [Try.results14,enA,evz,fl,gp,tab,simprocAttr]
  have h1:200 < L.length:=by omega
  simp [lwS,h1]
 by_cases g8b:(tot L:Int) > 120
 ·refine hk_region fun K hK=>runs_eval tab_ok ?_
  simp only [evz,fl,gp,tab,simprocAttr,ll_length,decide_eq_false g8a,decide_eq_true g8b]
  refine fin_stop trivial (runs_call (someWords_c L (by omega) (fun w hw=>by have:=tot_mem hw; omega)) rfl rfl rfl (by simp only [dstOk,Nat.reduceLT]) (by repeat (first|exact trivial|constructor)) (runs_eval tab_ok ?_))
  simp only [evz,fl,gp,tab,simprocAttr,ll_length,decide_eq_false g8a,decide_eq_true g8b]
  refine fin_run trivial (hK _ ?_)<;>clear hK K
  refine qa (qk ?_)
  simp only [Try.results14,enA,evz,fl,gp,tab,simprocAttr]
  have h1:¬ 200 < L.length:=by omega
  have h2:120 < tot L:=by omega
  have h3:¬ 3000 < tot L:=by omega
  simp [lwS,h1,h2,h3]
 refine hk_region fun K hK=>runs_eval tab_ok ?_
 simp only [evz,fl,gp,tab,simprocAttr,ll_length,decide_eq_false g8a,decide_eq_false g8b]
 refine fin_run trivial (hK _ ?_)<;>clear hK K
 refine qa (qk ?_)
 simp only [Try.results14,enA,evz,fl,gp,tab,simprocAttr]
 have h1:¬ 200 < L.length:=by omega
 have h2:¬ 120 < tot L:=by omega
 have h3:¬ 3000 < tot L:=by omega
 simp [lwS,h1,h2,h3]
end Go.Proofs.Ytneglephfhiamaa

namespace Go.Pv
open Go.RowKit Go.ChangeShapes Go.WideShapes Go.ChangeAt
section
variable {H:Type} {enc:TypeId × Value→H} {P:Program}
theorem weightsAll_mem {e:TypeId} {f:Nat→Bool} : ∀ {l:List (DataW H)},(DataW.weightsAll P e l).all f=true→∀ d∈l,(d.weights P e).all f=true
 | [],_,d,hd=>by simp at hd
 | x :: r,h,d,hd=>by
  simp only [DataW.weightsAll,List.all_append,Bool.and_eq_true] at h
  rcases List.mem_cons.1 hd with rfl | hd
  ·exact h.1
  exact weightsAll_mem h.2 d hd
theorem wcells_one {W:World} {base:Nat} {a:Addr} {u:Value} (h:W.cells? base a 1=some [u]):W.cell? a=some u:=by
 unfold World.cells? at h
 split at h
 ·simp only [List.range_succ,List.range_zero,List.nil_append,List.mapM_cons,List.mapM_nil,Option.bind_eq_bind,Option.pure_def,Option.bind_eq_some_iff] at h
  obtain ⟨v,hv,l,hl,e⟩:=h
  simp only [Option.some.injEq] at hl e
  subst hl
  simp only [List.cons.injEq,and_true] at e
  subst e
  have:a.add 0=a:=by cases a; simp [Addr.add]
  rwa [this] at hv
 cases h
theorem open_ll {t e ti:TypeId} {W:World} {base:Nat} {v:Value} {d:DataW H} {p:List MemPlace} (ht:P.underlying t=some (.slice e)) (he:P.underlying e=some (.slice ti)) (hti:P.underlying ti=some (.int .i64)) (hce:P.cellsOf e=1) (hc:P.cellsOf ti=1)
  (hbe:P.bytesOf e=24) (hby:P.bytesOf ti=8) (hval:Value.okWide P W .any base t v) (h:DataW.Trod enc P W 0 (fun _=>true) true t v d p) (hw:(d.weights P t).all (·≤reachBytes)=true) :
  ∃ ls:List (List Int),(∀ w∈ls,w.length≤17592186043904)∧ls.length≤17592186043904∧Reads (fun b=>b < W.heap.size) W (.list (ll ls)) v:=by
 obtain ⟨a0,len0,cap0,rfl⟩:=okWide_slice ht hval
 obtain ⟨fuel,hf⟩:=h
 rcases DataW.trod_slice ht hf with ⟨hcs,hx⟩ | ⟨a,len,cap,elems,rest,n,_,hcs,hx,hb,hle,hmax,hlen,hel,_,_⟩
 ·simp [Value.cells] at hcs
  obtain ⟨rfl,rfl,rfl⟩:=hcs
  exact ⟨[],fun x hx=>by simp at hx,Nat.zero_le _,.list0 none 0 fun _=>rfl⟩
 simp [Value.cells] at hcs
 obtain ⟨rfl,rfl,rfl⟩:=hcs
 simp only [Prod.mk.injEq] at hx
 obtain ⟨rfl,rfl⟩:=hx
 simp only [DataW.weights,ht,hbe,List.all_cons,List.all_append,Bool.and_eq_true,decide_eq_true_eq,List.length_map] at hw
 obtain ⟨hw1,hw2,_⟩:=hw
 unfold reachBytes at hw1
 have each:∀ i,∃ xs:List Int,∃ u:Value,i < len0→W.cell? (a.add i)=some u∧xs.length≤17592186043904∧Reads (fun b=>b < W.heap.size) W (.list (il xs)) u:=by
  intro i
  by_cases hi:i < len0
  ·have h1:=hel i hi
   rw [hce,Nat.mul_one,List.getElem?_eq_getElem (show i < elems.length by omega)] at h1
   obtain ⟨cs,hcs,htr⟩:=Option.bind_eq_some_iff.1 h1
   have hwi:=weightsAll_mem hw2 (elems[i]'(by omega)).1 (List.mem_map.2 ⟨_,List.getElem_mem _,rfl⟩)
   obtain ⟨xs,u,rfl,_,g2,g3⟩:=il_of_trod he hti hc hby htr hwi
   exact ⟨xs,u,fun _=>⟨wcells_one hcs,g2,g3⟩⟩
  exact ⟨[],undef,fun h=>absurd h hi⟩
 obtain ⟨fx,hfx⟩:=Classical.skolem.1 each
 obtain ⟨fu,hfu⟩:=Classical.skolem.1 hfx
 refine ⟨(List.range len0).map fx,fun w hw=>?_,by rw [List.length_map,List.length_range]; omega,?_⟩
 ·obtain ⟨i,hi,rfl⟩:=List.mem_map.1 hw
  exact (hfu i (List.mem_range.1 hi)).2.1
 have hlen' : (ll ((List.range len0).map fx)).length=len0:=by rw [ll_length,List.length_map,List.length_range]
 by_cases h0:len0=0
 ·subst h0
  exact .list0 _ _ fun h=>by cases h
 obtain ⟨b,off,spot⟩:=a
 have hspot:spot=none:=by simpa [Addr.add] using World.cell?_spot (hfu 0 (by omega)).1
 subst hspot
 have hone:∀ x∈ll ((List.range len0).map fx),x.cells.length=1:=by
  intro x hx
  obtain ⟨y,_,rfl⟩:=List.mem_map.1 hx
  rfl
 have hfl:flat (ll ((List.range len0).map fx))=ll ((List.range len0).map fx):=flat_all_one (ll_all _)
 have hcell' : ∀ c,c < len0→W.cell? ⟨b,off + c,none⟩=some (fu c):=fun c hc=>by rw [← Go.WideShapes.add_plain]; exact (hfu c hc).1
 have:=Reads.list (ok:=fun b=>b < W.heap.size) (w:=W) (ll ((List.range len0).map fx)) b off cap0 1 fu ?_ hone (by rw [hlen']; exact hle) (fun c hcl=>?_) (fun c hcl=>?_)
 ·rwa [hlen'] at this
 ·have:=hcell' 0 (by omega)
  simp only [World.cell?] at this
  by_cases hb:b < W.heap.size
  ·exact hb
  rw [Array.getElem?_eq_none (by omega)] at this
  simp at this
 ·rw [hfl,hlen'] at hcl
  exact hcell' c hcl
 simp only [hfl]
 have hcl2:c < len0:=by rw [hfl,hlen'] at hcl; exact hcl
 have e:(ll ((List.range len0).map fx))[c]'(by rw [hlen']; exact hcl2) = .list (il (fx c)):=by
  simp [ll]
 rw [e]
 exact (hfu c hcl2).2.2
end
end Go.Pv

namespace Go.Proofs.Ytneglephfhiamaa
open Go.Pv
theorem lw_no {L:List (List Int)} (h:lwS L=false):L.length≤200∧tot L≤3000∧(120 < tot L→(ckL L).1 ≠ 0):=by
 unfold lwS at h
 simp only [Bool.or_eq_false_iff,Bool.and_eq_false_iff,decide_eq_false_iff_not] at h
 obtain ⟨⟨h1,h2⟩,h3⟩:=h
 exact ⟨by omega,by omega,fun h4=>h3.resolve_left fun h5=>h5 h4⟩
theorem lw_len {L:List (List Int)} (h:lwS L=false):L.length≤1000000000∧∀ w∈L,w.length≤1000000000:=by
 obtain ⟨h1,h2,_⟩:=lw_no h
 exact ⟨by omega,fun w hw=>by have:=tot_mem hw; omega⟩
theorem ckG_ok:∀ (L:List (List Int)) (i n:Nat),(ckG L i n).1=0→(∀ w∈L,Ok w∧w.length≤2000)∧(L ≠ []→n + tot L≤2000)∧ckG L i n=(0,0)
 | [],i,n,_=>⟨fun w hw=>(by cases hw),fun h=>absurd rfl h,rfl⟩
 | w :: r,i,n,h=>by
  unfold ckG at h ⊢
  by_cases h1:(check w).1 ≠ 0
  ·rw [if_pos h1] at h; exact absurd h h1
  rw [if_neg h1] at h ⊢
  by_cases h2:2000 < n + w.length
  ·rw [if_pos h2] at h; cases h
  rw [if_neg h2] at h ⊢
  obtain ⟨a1,a2,a3⟩:=ckG_ok r (i + 1) (n + w.length) h
  have hw:=check_ok (Classical.not_not.1 h1)
  refine ⟨fun v hv=>?_,fun _=>?_,a3⟩
  ·rcases List.mem_cons.1 hv with rfl | hv
   ·exact hw
   exact a1 v hv
  rw [tot_cons]
  by_cases hr:r=[]
  ·subst hr; simp [tot]; omega
  have:=a2 hr; omega
theorem ckL_ok {L:List (List Int)} (h:(ckL L).1=0):L.length≤20∧(∀ w∈L,Ok w∧w.length≤2000)∧tot L≤2000∧ckL L=(0,0):=by
 unfold ckL at h ⊢
 by_cases h1:20 < L.length
 ·rw [if_pos h1] at h; cases h
 rw [if_neg h1] at h ⊢
 obtain ⟨a1,a2,a3⟩:=ckG_ok L 0 0 h
 refine ⟨by omega,a1,?_,a3⟩
 by_cases hL:L=[]
 ·subst hL; simp [tot]
 have:=a2 hL; omega
theorem tot_short:∀ L:List (List Int),tot (L.map short)≤tot L
 | []=>Nat.le_refl _
 | w :: L=>by
  rw [List.map_cons,tot_cons,tot_cons]
  have:=short_len w
  have:=tot_short L
  omega
theorem ckL_good {L:List (List Int)} (h:(ckL L).1=0):Good L:=by
 obtain ⟨h1,h2,h3,_⟩:=ckL_ok h
 refine ⟨fun w hw=>⟨by have:=(h2 w hw).2; omega,(h2 w hw).1⟩,by omega,?_⟩
 have:=tot_short L
 omega
theorem ckL_fold {L:List (List Int)} (h:(ckL L).1=0):(∀ w∈L,Ok w∧w.length≤1000000000)∧L.length≤1000000∧tot (L.map short)≤90000:=by
 obtain ⟨h1,h2,h3,_⟩:=ckL_ok h
 have:=tot_short L
 exact ⟨fun w hw=>⟨(h2 w hw).1,by have:=(h2 w hw).2; omega⟩,by omega,by omega⟩
theorem ckL_flen {L:List (List Int)} (h:(ckL L).1=0):(folded L).length≤100000:=by
 obtain ⟨h1,h2,h3⟩:=ckL_fold h
 have:=folded_len L fun w hw=>(h1 w hw).1
 omega
theorem ckL_cnt {L:List (List Int)} (h:(ckL L).1=0):(plS (folded L)).length=vS (L.map short)∧(folded L).length=eS (L.map short)∧vS (L.map short)≤200001∧eS (L.map short)≤100000:=by
 obtain ⟨h1,h2,h3⟩:=ckL_fold h
 obtain ⟨s1,s2,s3⟩:=folded_spec fun w hw=>(h1 w hw).1
 have hc:=fc_cnt s1 s2 s3
 have hl:=ckL_flen h
 have hp:=plS_len (folded L)
 refine ⟨hc.1,hc.2,by omega,by omega⟩
end Go.Proofs.Ytneglephfhiamaa

namespace Go.Proofs.Ytneglephfhiamaa
open Go.Pv
theorem ckG_mk:∀ (L:List (List Int)) (i n:Nat),(∀ w∈L,Ok w)→n + tot L≤2000→ckG L i n=(0,0)
 | [],_,_,_,_=>rfl
 | w :: r,i,n,h,ht=>by
  rw [tot_cons] at ht
  unfold ckG
  have hw:check w=(0,0):=ok_check (h w (by simp)) (by omega)
  rw [hw,if_neg (by simp),if_neg (by omega)]
  exact ckG_mk r (i + 1) (n + w.length) (fun v hv=>h v (by simp [hv])) (by omega)
theorem ckL_mk {L:List (List Int)} (hl:L.length≤20) (h:∀ w∈L,Ok w) (ht:tot L≤2000):ckL L=(0,0):=by
 unfold ckL
 rw [if_neg (by omega)]
 exact ckG_mk L 0 0 h (by omega)
structure BasF (l b:List (List Int)):Prop where
 len:b.length≤20
 ok:∀ w∈b,Ok w∧Red w∧w ≠ []
 tot:tot b≤2000
 rank:(b.length:Int)=(eS (l.map short):Int) - vS (l.map short) + 1
 to:∀ w∈b,Mem (l.map short) w
 fro:∀ w,Mem (l.map short) w→Red w→Mem b w
theorem BasF.short {l b:List (List Int)} (h:BasF l b):b.map Go.Proofs.Ytneglephfhiamaa.short=b:=by
 have:=List.map_congr_left (f:=Go.Proofs.Ytneglephfhiamaa.short) (g:=id) (l:=b) fun w hw=>short_red (h.ok w hw).2.1
 rw [this,List.map_id]
end Go.Proofs.Ytneglephfhiamaa

namespace Go.Proofs.Ytneglephfhiamaa
open Go.Pv
structure PT (step:Nat→Int→Option Nat) (lst0 lst:List Nat) (f:Wy):Prop where
 nd:lst.Nodup
 sub:∀ u∈lst,u∈lst0
 hd:lst.head? = some 0
 dom:∀ z:Int,(f z).isSome=true↔∃ u∈lst,(u:Int)=z
 zero:f 0=some []
 tree:∀ j,j < lst.length→0 < j→∃ i x l,i < j∧f (lst.getD i 0:Nat)=some l∧f (lst.getD j 0:Nat)=some (l++[x])∧step (lst.getD i 0) x=some (lst.getD j 0)
section
variable {step:Nat→Int→Option Nat} {lst0 lst:List Nat} {f:Wy}
theorem pt_zero (h:0∈lst0):PT step lst0 [0] (updW (fun _=>none) 0 []):=by
 refine ⟨by simp,fun u hu=>?_,rfl,fun z=>?_,rfl,fun j h1 h2=>?_⟩
 ·rw [List.mem_singleton] at hu; subst hu; exact h
 ·unfold updW
  by_cases e:z=0
  ·subst e; simp
  rw [if_neg e]
  simp only [Option.isSome_none,Bool.false_eq_true,List.mem_singleton,exists_eq_left,false_iff]
  intro h; exact e (by rw [← h]; rfl)
 simp only [List.length_singleton] at h1; omega
theorem PT.snoc (h : PT step lst0 lst f) {u v : Nat} {x : Int} (hu : u ∈ lst) (hv : v ∈ lst0) (hn : v ∉ lst) (hs : step u x = some v) : PT step lst0 (lst ++ [v]) (updW f v (wy f u ++ [x])) := by
  have old : ∀ w ∈ lst, updW f v (wy f u ++ [x]) (w : Nat) = f w := fun w hw => by
    unfold updW
    rw [if_neg fun e => hn (by have : w = v := by omega
                               rw [← this]; exact hw)]
  have fu : f (u : Int) = some (wy f u) := by
    obtain ⟨l, hl⟩ := Option.isSome_iff_exists.1 ((h.dom u).2 ⟨u, hu, rfl⟩)
    unfold wy; rw [hl]; rfl
  have h0 : (0 : Nat) ∈ lst := List.mem_of_mem_head? (by rw [h.hd]; rfl)
  refine ⟨?_, fun w hw => ?_, ?_, fun z => ?_, ?_, fun j h1 h2 => ?_⟩
  · rw [List.nodup_append]
    exact ⟨h.nd, by simp, fun a ha b hb => by rw [List.mem_singleton] at hb; subst hb; exact fun e => hn (e ▸ ha)⟩
  · rcases List.mem_append.1 hw with hw | hw
    · exact h.sub w hw
    · rw [List.mem_singleton] at hw; subst hw; exact hv
  · have := h.hd
    cases lst with
    | nil => cases this
    | cons a r => exact this
  · unfold updW
    by_cases e : z = (v : Int)
    · rw [if_pos e]
      simp only [Option.isSome_some, List.mem_append, List.mem_singleton, true_iff]
      exact ⟨v, .inr rfl, e.symm⟩
    · rw [if_neg e, h.dom z]
      constructor
      · rintro ⟨w, hw, hz⟩; exact ⟨w, List.mem_append_left _ hw, hz⟩
      · rintro ⟨w, hw, hz⟩
        rcases List.mem_append.1 hw with hw | hw
        · exact ⟨w, hw, hz⟩
        · rw [List.mem_singleton] at hw; subst hw; exact absurd hz.symm e
  · have := old 0 h0
    rw [show ((0 : Nat) : Int) = 0 from rfl] at this
    rw [this]; exact h.zero
  · rw [List.length_append, List.length_singleton] at h1
    by_cases hj : j < lst.length
    · obtain ⟨i', x', l', a1, a2, a3, a4⟩ := h.tree j hj h2
      refine ⟨i', x', l', a1, ?_, ?_, ?_⟩
      · rw [snoc_getD (by omega), old _ (mem_ix (by omega))]; exact a2
      · rw [snoc_getD hj, old _ (mem_ix hj)]; exact a3
      · rw [snoc_getD hj, snoc_getD (by omega)]; exact a4
    · obtain rfl : j = lst.length := by omega
      obtain ⟨i, hi, e⟩ := ix_of hu
      have ev : (lst ++ [v]).getD lst.length 0 = v := by simp
      refine ⟨i, x, wy f u, hi, ?_, ?_, ?_⟩
      · rw [snoc_getD hi, e, old _ hu]; exact fu
      · rw [ev]; unfold updW; rw [if_pos rfl]
      · rw [ev, snoc_getD hi, e]; exact hs
theorem PT.grow (c:CG step lst0):∀ (n:Nat) (lst:List Nat) (f:Wy),PT step lst0 lst f→lst0.length - lst.length≤n→∃ lst' f',PT step lst0 lst' f'∧∀ u∈lst',∀ x v,step u x=some v→v∈lst'
 | n,lst,f,h,hn=>by
  by_cases hc:∀ u∈lst,∀ x v,step u x=some v→v∈lst
  ·exact ⟨lst,f,h,hc⟩
  have:∃ u x v,u∈lst∧step u x=some v∧v ∉ lst:=by
   refine Classical.byContradiction fun hno=>hc fun u hu x v hs=>Classical.byContradiction fun hv=>hno ⟨u,x,v,hu,hs,hv⟩
  obtain ⟨u,x,v,hu,hs,hv⟩:=this
  have hv0:=c.cl u (h.sub u hu) x v hs
  have h2:=h.snoc hu hv0 hv hs
  have hlt:=nd_le h2.nd h2.sub
  rw [List.length_append,List.length_singleton] at hlt
  cases n with
  | zero=>omega
  | succ n=>exact PT.grow c n _ _ h2 (by rw [List.length_append,List.length_singleton]; omega)
theorem isC_gt {S:List (List Int)} (h:IsC S step lst0):∃ lst f,GT step lst f∧IsC S step lst:=by
 obtain ⟨lst,f,p,hcl⟩:=PT.grow h.cg _ [0] _ (pt_zero h.cg.m0) (Nat.le_refl _)
 have g:GT step lst f:=⟨h.cg.inv,p.nd,p.hd,p.dom,p.zero,p.tree,hcl,fun u hu=>h.cg.lt u (p.sub u hu)⟩
 refine ⟨lst,f,g,g.cg,fun X st x0 hi hc=>?_,h.cl⟩
 obtain ⟨κ,k1,k2⟩:=h.uni X st x0 hi hc
 exact ⟨κ,k1,fun u hu=>k2 u (p.sub u hu)⟩
end
theorem ckL_isC {l:List (List Int)} (h0:(ckL l).1=0):∃ st lst f,GT st lst f∧IsC (l.map short) st lst:=by
 obtain ⟨f1,f2,f3⟩:=ckL_fold h0
 obtain ⟨s1,s2,s3⟩:=folded_spec fun v hv=>(f1 v hv).1
 obtain ⟨c,u,cl,_⟩:=fc_cg s1 s2 s3
 obtain ⟨lst,f,g,hc⟩:=isC_gt (IsC.mk c u cl)
 exact ⟨_,lst,f,g,hc⟩
section
variable {l:List (List Int)} {w:List Int}
end
end Go.Proofs.Ytneglephfhiamaa

namespace Go.Proofs.Ytneglephfhiamaa
open Go.Pv
section
variable {step step' : Nat→Int→Option Nat} {lst lst' : List Nat} {S:List (List Int)}
theorem UniG.mono {T:List (List Int)} (h:UniG step lst S) (hs:∀ s∈S,s∈T):UniG step lst T:=fun X st x0 hi hc=>h X st x0 hi fun w hw=>hc w (hs w hw)
theorem cg_nz (c:CG step lst):∀ {w:List Int} {u v:Nat},u∈lst→runW step u w=some v→Nz w∧v∈lst
 | [],u,v,hu,h=>by
  simp only [runW,Option.some.injEq] at h
  subst h
  exact ⟨fun x hx=>(by cases hx),hu⟩
 | x :: w,u,v,hu,h=>by
  simp only [runW] at h
  cases hs:step u x with
  | none=>rw [hs] at h; cases h
  | some d =>
   rw [hs] at h
   obtain ⟨h1,h2⟩:=cg_nz c (c.cl u hu x d hs) h
   refine ⟨fun y hy=>?_,h2⟩
   rcases List.mem_cons.1 hy with rfl | hy
   ·exact (c.lt u hu y d hs).1
   exact h1 y hy
theorem cg_loops (c:CG step lst):∃ S:List (List Int),UniG step lst S∧∀ s∈S,runW step 0 s=some 0:=by
 have hw:∀ u,∃ w,u∈lst→runW step 0 w=some u:=fun u=>by
  by_cases h:u∈lst
  ·obtain ⟨w,hw⟩:=c.con u h
   exact ⟨w,fun _=>hw⟩
  exact ⟨[],fun h2=>absurd h2 h⟩
 obtain ⟨way,hway⟩:∃ way:Nat→List Int,(∀ u∈lst,runW step 0 (way u)=some u)∧way 0=[]:=by
  refine ⟨fun u=>if u=0 then [] else (hw u).choose,fun u hu=>?_,if_pos rfl⟩
  by_cases h:u=0
  ·simp only [h,if_true]; rfl
  simp only [if_neg h]; exact (hw u).choose_spec hu
 obtain ⟨h1,h0⟩:=hway
 refine ⟨lst.flatMap fun u=>(lets 26).flatMap fun x=>match step u x with | some v=>[way u++[x]++back (way v)] | none=>[],fun X st x0 hi hc=>?_,fun s hs=>?_⟩
 ·refine ⟨fun u=>(runW st x0 (way u)).getD x0,by simp only [h0]; rfl,fun u hu x v hs=>?_⟩
  have hl:=c.lt u hu x v hs
  have hz:=(cg_nz c c.m0 (h1 v (c.cl u hu x v hs))).1
  have hm:way u++[x]++back (way v)∈lst.flatMap fun u=>(lets 26).flatMap fun x=>match step u x with | some v=>[way u++[x]++back (way v)] | none=>[]:=by
   refine List.mem_flatMap.2 ⟨u,hu,List.mem_flatMap.2 ⟨x,mem_lets.2 ⟨hl.1,by omega,by omega⟩,?_⟩⟩
   rw [hs]; simp
  have h:=hc _ hm
  rw [runW_app,runW_app] at h
  cases ha:runW st x0 (way u) with
  | none=>rw [ha] at h; cases h
  | some a =>
   rw [ha] at h
   simp only [Option.bind_some] at h
   cases hb:runW st a [x] with
   | none=>rw [hb] at h; cases h
   | some b =>
    rw [hb] at h
    simp only [Option.bind_some] at h
    have hv:=run_back hi hz.back h
    rw [back_back] at hv
    simp only [hv,ha,Option.getD_some]
    simp only [runW] at hb
    cases hx:st a x with
    | none=>rw [hx] at hb; cases hb
    | some d=>rw [hx] at hb; rw [← hb]
 obtain ⟨u,hu,hs⟩:=List.mem_flatMap.1 hs
 obtain ⟨x,hx,hs⟩:=List.mem_flatMap.1 hs
 cases hv:step u x with
 | none=>rw [hv] at hs; cases hs
 | some v =>
  rw [hv] at hs
  rw [List.mem_singleton.1 hs,runW_app,runW_app,h1 u hu]
  have hv2:=c.cl u hu x v hv
  have e:runW step u [x]=some v:=by simp only [runW,hv]
  simp only [Option.bind_some,e]
  exact run_back c.inv (cg_nz c c.m0 (h1 v hv2)).1 (h1 v hv2)
theorem cg_lang (c:CG step lst) (c' : CG step' lst') (h:∀ w,runW step 0 w=some 0↔runW step' 0 w=some 0) :
  lst.length=lst'.length∧(PE step lst).length=(PE step' lst').length:=by
 obtain ⟨S,u,hs⟩:=cg_loops c
 obtain ⟨S',u',hs'⟩:=cg_loops c'
 refine cg_iso (S:=S++S') c c' (u.mono fun s h=>List.mem_append.2 (.inl h)) (u'.mono fun s h=>List.mem_append.2 (.inr h)) (fun s hm=>?_) fun s hm=>?_
 ·rcases List.mem_append.1 hm with hm | hm
  ·exact hs s hm
  exact (h s).2 (hs' s hm)
 rcases List.mem_append.1 hm with hm | hm
 ·exact (h s).1 (hs s hm)
 exact hs' s hm
end
section
variable {A B:Nat→Int→Option Nat}
def sP (A B:Nat→Int→Option Nat) (p:Nat × Nat) (x:Int):Option (Nat × Nat):=(A p.1 x).bind fun u=>(B p.2 x).map fun v=>(u,v)
theorem sP_iff {p q:Nat × Nat} {x:Int} : sP A B p x=some q↔A p.1 x=some q.1∧B p.2 x=some q.2:=by
 unfold sP
 obtain ⟨a,b⟩:=q
 cases h1:A p.1 x<;>cases h2:B p.2 x<;>simp
theorem sP_inv (hA:InvS A) (hB:InvS B):InvS (sP A B):=fun c d x h hs=>by
 have:=sP_iff.1 hs
 exact sP_iff.2 ⟨hA _ _ _ h this.1,hB _ _ _ h this.2⟩
theorem run_sP:∀ {w:List Int} {p q:Nat × Nat},runW (sP A B) p w=some q↔runW A p.1 w=some q.1∧runW B p.2 w=some q.2
 | [],p,q=>by
  obtain ⟨a,b⟩:=p
  obtain ⟨c,d⟩:=q
  simp [runW]
 | x :: w,p,q=>by
  simp only [runW]
  cases h:sP A B p x with
  | none =>
   simp only [reduceCtorEq,false_iff]
   rintro ⟨h1,h2⟩
   cases ha:A p.1 x with
   | none=>rw [ha] at h1; cases h1
   | some u =>
    cases hb:B p.2 x with
    | none=>rw [hb] at h2; cases h2
    | some v=>rw [(sP_iff (q:=(u,v))).2 ⟨ha,hb⟩] at h; cases h
  | some r =>
   have:=sP_iff.1 h
   rw [this.1,this.2]
   exact run_sP
structure PG (A B:Nat→Int→Option Nat) (q:List (Nat × Nat)):Prop where
 nd:q.Nodup
 hd:q.head? = some (0,0)
 cl:∀ p∈q,∀ x r,sP A B p x=some r→r∈q
 con:∀ p∈q,∃ w,runW (sP A B) (0,0) w=some p
def stQ (A B:Nat→Int→Option Nat) (q:List (Nat × Nat)) (i:Nat) (x:Int):Option Nat:=if i < q.length then (sP A B (q.getD i (0,0)) x).map fun r=>q.idxOf r else none
variable {q:List (Nat × Nat)}
theorem ixq {p:Nat × Nat} (h:p∈q):q.idxOf p < q.length∧q.getD (q.idxOf p) (0,0)=p:=by
 have h1:=List.idxOf_lt_length_iff.2 h
 refine ⟨h1,?_⟩
 rw [List.getD_eq_getElem?_getD,List.getElem?_eq_getElem h1]
 exact List.getElem_idxOf h1
theorem qix (hn:q.Nodup) {i:Nat} (h:i < q.length):q.idxOf (q.getD i (0,0))=i:=by
 rw [List.getD_eq_getElem?_getD,List.getElem?_eq_getElem h]
 exact hn.idxOf_getElem i h
theorem q_mem {i:Nat} (h:i < q.length):q.getD i (0,0)∈q:=by
 rw [List.getD_eq_getElem?_getD,List.getElem?_eq_getElem h]
 exact List.getElem_mem h
theorem stQ_iff (g:PG A B q) {i j:Nat} {x:Int} : stQ A B q i x=some j↔i < q.length∧j < q.length∧sP A B (q.getD i (0,0)) x=some (q.getD j (0,0)):=by
 unfold stQ
 by_cases hi:i < q.length
 ·rw [if_pos hi]
  constructor
  ·intro h
   obtain ⟨r,hr,e⟩:=Option.map_eq_some_iff.1 h
   have hm:=g.cl _ (q_mem hi) x r hr
   have:=ixq hm
   rw [e] at this
   exact ⟨hi,this.1,by rw [this.2]; exact hr⟩
  rintro ⟨_,hj,h⟩
  rw [h]
  simp only [Option.map_some,qix g.nd hj]
 rw [if_neg hi]
 constructor
 ·intro h; cases h
 exact fun h=>absurd h.1 hi
theorem PG.pos (g:PG A B q):0 < q.length∧q.getD 0 (0,0)=(0,0):=by
 have:=g.hd
 cases q with
 | nil=>cases this
 | cons a r=>simp at this; exact ⟨by simp,by simp [this]⟩
theorem run_stQ (g:PG A B q):∀ {w:List Int} {i j:Nat},i < q.length→j < q.length→(runW (stQ A B q) i w=some j↔runW (sP A B) (q.getD i (0,0)) w=some (q.getD j (0,0)))
 | [],i,j,hi,hj=>by
  simp only [runW,Option.some.injEq]
  constructor
  ·intro h; rw [h]
  intro h
  have:=congrArg q.idxOf h
  rwa [qix g.nd hi,qix g.nd hj] at this
 | x :: w,i,j,hi,hj=>by
  simp only [runW]
  cases h:sP A B (q.getD i (0,0)) x with
  | none =>
   have:stQ A B q i x=none:=by unfold stQ; rw [if_pos hi,h]; rfl
   rw [this]
   simp
  | some r =>
   have hm:=ixq (g.cl _ (q_mem hi) x r h)
   have:stQ A B q i x=some (q.idxOf r):=(stQ_iff g).2 ⟨hi,hm.1,by rw [hm.2]; exact h⟩
   rw [this]
   have:=run_stQ g (w:=w) hm.1 hj
   rw [hm.2] at this
   exact this
theorem PG.cg (g:PG A B q) (hA:InvS A) (hB:InvS B) (hlt:∀ p∈q,∀ x v,A p.1 x=some v→x ≠ 0∧-26≤x∧x≤26):CG (stQ A B q) (List.range q.length):=by
 obtain ⟨p0,p1⟩:=g.pos
 refine ⟨fun c d x hx h=>?_,List.nodup_range,List.mem_range.2 p0,fun u hu x v h=>List.mem_range.2 ((stQ_iff g).1 h).2.1,fun u hu x v h=>?_,fun u hu=>?_⟩
 ·obtain ⟨h1,h2,h3⟩:=(stQ_iff g).1 h
  exact (stQ_iff g).2 ⟨h2,h1,sP_inv hA hB _ _ _ hx h3⟩
 ·obtain ⟨h1,h2,h3⟩:=(stQ_iff g).1 h
  exact hlt _ (q_mem h1) x _ (sP_iff.1 h3).1
 have hu:=List.mem_range.1 hu
 obtain ⟨w,hw⟩:=g.con _ (q_mem hu)
 refine ⟨w,(run_stQ g p0 hu).2 ?_⟩
 rw [p1]; exact hw
theorem PG.closed (g:PG A B q) (w:List Int):runW (stQ A B q) 0 w=some 0↔runW A 0 w=some 0∧runW B 0 w=some 0:=by
 obtain ⟨p0,p1⟩:=g.pos
 rw [run_stQ g p0 p0,p1,run_sP]
theorem pg_cnt {A' B' : Nat→Int→Option Nat} {q' : List (Nat × Nat)} {S T:List (List Int)} (g:PG A B q) (g' : PG A' B' q') (hA:InvS A) (hB:InvS B) (hA' : InvS A') (hB' : InvS B')
  (hlt:∀ p∈q,∀ x v,A p.1 x=some v→x ≠ 0∧-26≤x∧x≤26) (hlt' : ∀ p∈q',∀ x v,A' p.1 x=some v→x ≠ 0∧-26≤x∧x≤26)
  (l1:Lang A S) (l2:Lang B T) (l3:Lang A' S) (l4:Lang B' T) :
  q.length=q'.length∧(PE (stQ A B q) (List.range q.length)).length=(PE (stQ A' B' q') (List.range q'.length)).length:=by
 have:=cg_lang (g.cg hA hB hlt) (g'.cg hA' hB' hlt') fun w=>by rw [g.closed,g'.closed,l1 w,l2 w,l3 w,l4 w]
 rwa [List.length_range,List.length_range] at this
end
end Go.Proofs.Ytneglephfhiamaa

namespace Go.Proofs.Ytneglephfhiamaa
open Go.Pv
def psl:List Int:=(List.range 26).map fun i:Nat=>(i:Int) + 1
theorem mem_psl {x:Int} : x∈psl↔1≤x∧x≤26:=by
 unfold psl
 rw [List.mem_map]
 constructor
 ·rintro ⟨i,hi,rfl⟩
  have:=List.mem_range.1 hi
  omega
 intro h
 exact ⟨(x - 1).toNat,List.mem_range.2 (by omega),by omega⟩
theorem psl_nd:psl.Nodup:=nodup_mapF List.nodup_range fun x _ y _ h=>by omega
def eX (step:Nat→Int→Option Nat) (lst:List Nat) (x:Int):List Nat:=lst.filter fun u=>(step u x).isSome
def byX (step:Nat→Int→Option Nat) (lst:List Nat):List (Nat × Int):=psl.flatMap fun x=>(eX step lst x).map fun u=>(u,x)
theorem mem_byX {step:Nat→Int→Option Nat} {lst:List Nat} {u:Nat} {x:Int} : (u,x)∈byX step lst↔(1≤x∧x≤26)∧u∈lst∧(step u x).isSome=true:=by
 unfold byX eX
 rw [List.mem_flatMap]
 constructor
 ·rintro ⟨y,hy,h⟩
  obtain ⟨v,hv,e⟩:=List.mem_map.1 h
  cases e
  exact ⟨mem_psl.1 hy,List.mem_filter.1 hv⟩
 rintro ⟨h1,h2⟩
 exact ⟨x,mem_psl.2 h1,List.mem_map.2 ⟨u,List.mem_filter.2 h2,rfl⟩⟩
theorem byX_nd {step:Nat→Int→Option Nat} {lst:List Nat} (h:lst.Nodup):(byX step lst).Nodup:=by
 refine nodup_flat psl_nd (fun x _=>nodup_mapF (List.Nodup.sublist List.filter_sublist h) fun a _ b _ e=>by cases e; rfl) fun x _ y _ z h1 h2=>?_
 obtain ⟨a,_,rfl⟩:=List.mem_map.1 h1
 obtain ⟨b,_,e⟩:=List.mem_map.1 h2
 cases e; rfl
theorem byX_len {step:Nat→Int→Option Nat} {lst:List Nat} : (byX step lst).length=(psl.map fun x=>(eX step lst x).length).sum:=by
 unfold byX
 rw [flat_len]
 congr 1
 refine List.map_congr_left fun x _=>?_
 rw [List.length_map]
theorem PE_byX {step:Nat→Int→Option Nat} {lst:List Nat} (c:CG step lst):(PE step lst).length=(psl.map fun x=>(eX step lst x).length).sum:=by
 rw [← byX_len]
 refine nd_eq (PE_nd c.nd) (byX_nd c.nd) fun p=>?_
 obtain ⟨u,x⟩:=p
 rw [mem_PE0 c.lt,mem_byX]
 constructor
 ·rintro ⟨h1,h2,h3⟩
  obtain ⟨v,hv⟩:=Option.isSome_iff_exists.1 h3
  have:=c.lt u h1 x v hv
  exact ⟨⟨by omega,by omega⟩,h1,h3⟩
 rintro ⟨h1,h2,h3⟩
 exact ⟨h2,by omega,h3⟩
theorem sum_mul {α:Type} (e a b:α→Nat):∀ l:List α,(∀ x∈l,e x≤a x * b x)→(l.map e).sum≤(l.map a).sum * (l.map b).sum
 | [],_=>Nat.zero_le _
 | x :: l,h=>by
  have h1:=h x (by simp)
  have h2:=sum_mul e a b l fun y hy=>h y (by simp [hy])
  simp only [List.map_cons,List.sum_cons]
  rw [Nat.add_mul,Nat.mul_add,Nat.mul_add]
  omega
theorem sum_scale {α:Type} (e a:α→Nat) (m:Nat):∀ l:List α,(∀ x∈l,e x≤m * a x)→(l.map e).sum≤m * (l.map a).sum
 | [],_=>Nat.zero_le _
 | x :: l,h=>by
  have h1:=h x (by simp)
  have h2:=sum_scale e a m l fun y hy=>h y (by simp [hy])
  simp only [List.map_cons,List.sum_cons]
  rw [Nat.mul_add]
  omega
theorem arg_max {α:Type} (e:α→Nat):∀ l:List α,l ≠ []→∃ x∈l,∀ y∈l,e y≤e x
 | [],h=>absurd rfl h
 | [x],_=>⟨x,by simp,fun y hy=>by rw [List.mem_singleton.1 hy]; exact Nat.le_refl _⟩
 | x :: y :: l,_=>by
  obtain ⟨z,h1,h2⟩:=arg_max e (y :: l) (by simp)
  by_cases h:e x≤e z
  ·refine ⟨z,by simp [List.mem_cons.1 h1],fun w hw=>?_⟩
   rcases List.mem_cons.1 hw with rfl | hw
   ·exact h
   exact h2 w hw
  refine ⟨x,by simp,fun w hw=>?_⟩
  rcases List.mem_cons.1 hw with rfl | hw
  ·exact Nat.le_refl _
  have:=h2 w hw
  omega
theorem few_sum {α:Type} {e a b:α→Nat} {l:List α} {V:Nat} (he:∀ x∈l,e x≤a x * b x) (hV:∀ x∈l,e x≤V) (hn:(l.map a).sum + (l.map b).sum≤12):(l.map e).sum≤V + 16:=by
 by_cases hl:l=[]
 ·subst hl; exact Nat.zero_le _
 obtain ⟨x,hx,hm⟩:=arg_max e l hl
 obtain ⟨l1,l2,rfl⟩:=List.append_of_mem hx
 have hsplit:∀ g:α→Nat,((l1++x :: l2).map g).sum=g x + ((l1++l2).map g).sum:=fun g=>by
  simp only [List.map_append,List.map_cons,List.sum_append,List.sum_cons]; omega
 rw [hsplit,hsplit] at hn
 rw [hsplit]
 have hsub:∀ y∈l1++l2,y∈l1++x :: l2:=fun y hy=>by
  rcases List.mem_append.1 hy with h | h
  ·exact List.mem_append.2 (.inl h)
  exact List.mem_append.2 (.inr (by simp [h]))
 have hex:=he x (by simp)
 have hVx:=hV x (by simp)
 have z:∀ y∈l1++l2,∀ g h:α→Nat,(e y≤g y * h y)→e y≤e x * g y:=fun y hy g h hh=>by
  have h1:=hm y (hsub y hy)
  by_cases h0:g y=0
  ·rw [h0,Nat.zero_mul] at hh; omega
  exact Nat.le_trans h1 (Nat.le_mul_of_pos_right _ (Nat.pos_of_ne_zero h0))
 have r1:=sum_mul e a b (l1++l2) fun y hy=>he y (hsub y hy)
 have r2:=sum_scale e a (e x) (l1++l2) fun y hy=>z y hy a b (he y (hsub y hy))
 have r3:=sum_scale e b (e x) (l1++l2) fun y hy=>z y hy b a (by rw [Nat.mul_comm]; exact he y (hsub y hy))
 generalize ((l1++l2).map e).sum=r at r1 r2 r3 ⊢
 generalize ((l1++l2).map a).sum=p at r1 r2 hn
 generalize ((l1++l2).map b).sum=s at r1 r3 hn
 generalize e x=m at r2 r3 hex hVx ⊢
 generalize a x=i at hex hn
 generalize b x=j at hex hn
 have key:r≤16:=by
  by_cases hij:4≤i + j
  ·have h8:p + s≤8:=by omega
   have:p * s≤16:=by
    have hp:p≤8:=by omega
    have hs:s≤8 - p:=by omega
    have h1:p * s≤p * (8 - p):=Nat.mul_le_mul_left _ hs
    have h2:p * (8 - p)≤16:=by
     match p,hp with
     | 0,_=>decide
     | 1,_=>decide
     | 2,_=>decide
     | 3,_=>decide
     | 4,_=>decide
     | 5,_=>decide
     | 6,_=>decide
     | 7,_=>decide
     | 8,_=>decide
     | n + 9,h=>omega
    omega
   omega
  have hm2:m≤2:=by
   refine Nat.le_trans hex ?_
   have hi:i≤3:=by omega
   match i,hi with
   | 0,_=>simp
   | 1,_=>omega
   | 2,_=>omega
   | 3,_=>omega
  by_cases h0:i + j=0
  ·have:m=0:=by
    have:i=0:=by omega
    rw [this,Nat.zero_mul] at hex; omega
   rw [this,Nat.zero_mul] at r2; omega
  have r2' : r≤2 * p:=Nat.le_trans r2 (Nat.mul_le_mul_right _ hm2)
  have r3' : r≤2 * s:=Nat.le_trans r3 (Nat.mul_le_mul_right _ hm2)
  omega
 omega
theorem GT.wy_len {step:Nat→Int→Option Nat} {lst:List Nat} {f:Wy} (g:GT step lst f):∀ (n j:Nat),j≤n→j < lst.length→(wy f (lst.getD j 0)).length≤j:=by
 intro n
 induction n with
 | zero =>
  intro j hj hl
  obtain rfl:j=0:=by omega
  have h0:lst.getD 0 0=0:=by
   have:=g.hd
   cases lst with
   | nil=>cases hl
   | cons a r=>simp at this; simp [this]
  have hz:f ((0:Nat):Int)=some []:=g.zero
  rw [h0]
  unfold wy
  rw [hz]; exact Nat.le_refl _
 | succ n ih =>
  intro j hj hl
  by_cases h0:j=0
  ·subst h0; exact ih 0 (Nat.zero_le _) hl
  obtain ⟨i,x,l,h1,h2,h3,h4⟩:=g.tree j hl (by omega)
  have:=ih i (by omega) (by omega)
  unfold wy at this ⊢
  rw [h2] at this
  rw [h3]
  simp only [Option.getD_some,List.length_append,List.length_singleton] at this ⊢
  omega
end Go.Proofs.Ytneglephfhiamaa

namespace Go.Proofs.Ytneglephfhiamaa
open Go.Pv
section
variable {A B:Nat→Int→Option Nat} {q:List (Nat × Nat)} {lA lB:List Nat}
theorem PG.sub (g:PG A B q) (cA:CG A lA) (cB:CG B lB) {p:Nat × Nat} (h:p∈q):p.1∈lA∧p.2∈lB:=by
 obtain ⟨w,hw⟩:=g.con p h
 have:=run_sP.1 hw
 exact ⟨(cg_nz cA cA.m0 this.1).2,(cg_nz cB cB.m0 this.2).2⟩
theorem pg_eX (g:PG A B q) (cA:CG A lA) (cB:CG B lB) (x:Int):(eX (stQ A B q) (List.range q.length) x).length≤(eX A lA x).length * (eX B lB x).length:=by
 have h1:((eX (stQ A B q) (List.range q.length) x).map fun u=>q.getD u (0,0)).length≤((eX A lA x).flatMap fun u=>(eX B lB x).map fun v=>(u,v)).length:=by
  refine nd_le (nodup_mapF (List.Nodup.sublist List.filter_sublist List.nodup_range) fun a ha b hb e=>?_) fun p hp=>?_
  ·have h1:=List.mem_range.1 (List.mem_filter.1 ha).1
   have h2:=List.mem_range.1 (List.mem_filter.1 hb).1
   have:=congrArg q.idxOf e
   rwa [qix g.nd h1,qix g.nd h2] at this
  obtain ⟨u,hu,rfl⟩:=List.mem_map.1 hp
  obtain ⟨hu,hs⟩:=List.mem_filter.1 hu
  have hu:=List.mem_range.1 hu
  obtain ⟨v,hv⟩:=Option.isSome_iff_exists.1 hs
  obtain ⟨_,hvl,hv⟩:=(stQ_iff g).1 hv
  have hv:=sP_iff.1 hv
  have hm:=g.sub cA cB (q_mem hu)
  refine List.mem_flatMap.2 ⟨_,List.mem_filter.2 ⟨hm.1,by rw [hv.1]; rfl⟩,List.mem_map.2 ⟨_,List.mem_filter.2 ⟨hm.2,by rw [hv.2]; rfl⟩,rfl⟩⟩
 rw [List.length_map,flat_len,sum_all (fun u=>((eX B lB x).map fun v=>(u,v)).length) (eX B lB x).length _ fun u _=>List.length_map _] at h1
 rwa [Nat.mul_comm] at h1
theorem cg_all {step:Nat→Int→Option Nat} {l1 l2:List Nat} (c1:CG step l1) (c2:CG step l2) (u:Nat):u∈l1↔u∈l2:=by
 constructor
 ·intro h
  obtain ⟨w,hw⟩:=c1.con u h
  exact (cg_nz c2 c2.m0 hw).2
 intro h
 obtain ⟨w,hw⟩:=c2.con u h
 exact (cg_nz c1 c1.m0 hw).2
theorem eX_all {step:Nat→Int→Option Nat} {l1 l2:List Nat} (c1:CG step l1) (c2:CG step l2) (x:Int):(eX step l1 x).length=(eX step l2 x).length:=
 nd_eq (List.Nodup.sublist List.filter_sublist c1.nd) (List.Nodup.sublist List.filter_sublist c2.nd) fun u=>by
  unfold eX
  rw [List.mem_filter,List.mem_filter,cg_all c1 c2]
theorem meet_small (g:PG A B q) (cA:CG A lA) (cB:CG B lB) {lst:List Nat} {f:Wy} (gt:GT (stQ A B q) lst f) (hn:(PE A lA).length + (PE B lB).length≤12) :
  (basS (stQ A B q) lst f).length≤17∧tot (basS (stQ A B q) lst f)≤1241:=by
 have cQ:=g.cg cA.inv cB.inv fun p hp x v h=>cA.lt p.1 (g.sub cA cB hp).1 x v h
 have cG:=gt.cg
 rw [PE_byX cA,PE_byX cB] at hn
 have he:∀ x,(eX (stQ A B q) lst x).length≤(eX A lA x).length * (eX B lB x).length:=fun x=>by
  rw [eX_all cG cQ]; exact pg_eX g cA cB x
 have h1:=few_sum (e:=fun x=>(eX (stQ A B q) lst x).length) (V:=lst.length) (fun x _=>he x) (fun x _=>List.length_filter_le _ _) hn
 have h2:=sum_mul (fun x=>(eX (stQ A B q) lst x).length) _ _ psl fun x _=>he x
 rw [← PE_byX cG] at h1 h2
 have hl:=basS_len gt
 have hE:(PE (stQ A B q) lst).length≤36:=by
  refine Nat.le_trans h2 ?_
  generalize (psl.map fun x=>(eX A lA x).length).sum=p at hn
  generalize (psl.map fun x=>(eX B lB x).length).sum=s at hn
  have hp:p≤12:=by omega
  have hs:s≤12 - p:=by omega
  refine Nat.le_trans (Nat.mul_le_mul_left _ hs) ?_
  match p,hp with
  | 0,_=>decide
  | 1,_=>decide
  | 2,_=>decide
  | 3,_=>decide
  | 4,_=>decide
  | 5,_=>decide
  | 6,_=>decide
  | 7,_=>decide
  | 8,_=>decide
  | 9,_=>decide
  | 10,_=>decide
  | 11,_=>decide
  | 12,_=>decide
  | n + 13,h=>omega
 have hV:lst.length≤37:=by omega
 have hb:(basS (stQ A B q) lst f).length≤17:=by omega
 have hw:∀ w∈basS (stQ A B q) lst f,w.length≤73:=fun w hw=>by
  unfold basS at hw
  obtain ⟨hw,_⟩:=List.mem_filter.1 hw
  obtain ⟨e,he,rfl⟩:=List.mem_map.1 hw
  obtain ⟨u,x⟩:=e
  obtain ⟨m1,m2,m3⟩:=(mem_PE gt).1 he
  obtain ⟨v,hv⟩:=Option.isSome_iff_exists.1 m3
  have hvm:=gt.cl u m1 x v hv
  have ht:tgt (stQ A B q) (u,x)=v:=by unfold tgt; simp only [hv,Option.getD_some]
  have wl:∀ u∈lst,(wy f u).length≤36:=fun u hu=>by
   obtain ⟨i,hi,rfl⟩:=ix_of hu
   have:=gt.wy_len i i (Nat.le_refl _) hi
   omega
  have a1:=wl u m1
  have a2:=wl v hvm
  unfold bw
  rw [ht]
  have:=short_len (wy f u++[x]++back (wy f v))
  simp only [List.length_append,List.length_singleton,back_len] at this ⊢
  omega
 refine ⟨hb,?_⟩
 have ht:∀ (L:List (List Int)),(∀ w∈L,w.length≤73)→tot L≤73 * L.length:=fun L=>by
  induction L with
  | nil=>intro _; exact Nat.zero_le _
  | cons w r ih =>
   intro h
   rw [tot_cons,List.length_cons]
   have:=h w (by simp)
   have:=ih fun v hv=>h v (by simp [hv])
   omega
 have:=ht _ hw
 omega
theorem meet_lang (g:PG A B q) {S T:List (List Int)} (hA:Lang A S) (hB:Lang B T) (w:List Int):runW (stQ A B q) 0 w=some 0↔Mem S w∧Mem T w:=by
 rw [g.closed,hA w,hB w]
end
end Go.Proofs.Ytneglephfhiamaa

namespace Go.Proofs.Ytneglephfhiamaa
open Go.Pv
section
variable {st:Nat→Int→Option Nat} {lst:List Nat} {f:Wy}
theorem bas_short (g:GT st lst f):(basS st lst f).map short=basS st lst f:=by
 have:=List.map_congr_left (f:=short) (g:=id) (l:=basS st lst f) fun w hw=>short_red (GT.bas_red hw)
 rw [this,List.map_id]
theorem bas_mem (g:GT st lst f) {w:List Int} (hr:Red w):Mem (basS st lst f) w↔runW st 0 w=some 0:=
 ⟨fun h=>h _ st 0 g.inv fun u hu=>g.bas_run hu,fun h=>g.genR h hr⟩
theorem bas_fold (g:GT st lst f) (h0:(ckL (basS st lst f)).1=0):(eS ((basS st lst f).map short):Int) - vS ((basS st lst f).map short) + 1=(basS st lst f).length:=by
 obtain ⟨st',lst',f',g',hi⟩:=ckL_isC h0
 rw [bas_short g] at hi
 have hL:=lang_of hi.cg hi.uni hi.cl
 have r1:=rank_le g' hi.cl fun e he=>(hL _).1 (g'.run_bw (List.mem_filter.1 he).1)
 have r2:=rank_le g (S:=basS st' lst' f') (fun s hs=>(hL s).1 (g'.bas_run hs) _ st 0 g.inv fun u hu=>g.bas_run hu) fun e he=>by
  by_cases h:bw st f e=[]
  ·intro X step x0 hi hc; rw [h]; rfl
  have hm:bw st f e∈basS st lst f:=basS_mem.2 ⟨e,(List.mem_filter.1 he).1,rfl,h⟩
  exact g'.genR (hi.cl _ hm) (GT.bas_red hm)
 have e1:=basS_len g'
 have c1:=hi.cnt
 rw [bas_short g,← c1.1,← c1.2]
 omega
end
theorem meet_within {A B:Nat→Int→Option Nat} {q:List (Nat × Nat)} {lst:List Nat} {f:Wy} {l m:List (List Int)} (g:PG A B q) (gt:GT (stQ A B q) lst f) (hA:Lang A (l.map short)) (hB:Lang B (m.map short)) (w:List Int) :
  memB (basS (stQ A B q) lst f) w=(memB l w && memB m w):=by
 rw [Bool.eq_iff_iff,Bool.and_eq_true,memB_iff,memB_iff,memB_iff,bas_short gt,bas_mem gt (red_short w),meet_lang g hA hB]
theorem meet_in {A B:Nat→Int→Option Nat} {q:List (Nat × Nat)} {lst:List Nat} {f:Wy} {l m:List (List Int)} (g:PG A B q) (gt:GT (stQ A B q) lst f) (hA:Lang A (l.map short)) (hB:Lang B (m.map short)) {w:List Int} (h:w∈basS (stQ A B q) lst f) :
  memB l w=true∧memB m w=true:=by
 have:=meet_within g gt hA hB w
 rw [← Bool.and_eq_true,← this]
 rw [memB_iff,bas_short gt,bas_mem gt (red_short w),short_red (GT.bas_red h)]
 exact gt.bas_run h
end Go.Proofs.Ytneglephfhiamaa

namespace Go.Proofs.Ytneglephfhiamaa
open Go.Pv
def addP (q:List (Nat × Nat)) (p:Nat × Nat):List (Nat × Nat):=if p∈q then q else q++[p]
theorem mem_addP {q:List (Nat × Nat)} {p r:Nat × Nat} : r∈addP q p↔r∈q∨r=p:=by
 unfold addP
 by_cases h:p∈q
 ·rw [if_pos h]
  exact ⟨.inl,fun h2=>h2.elim id fun e=>e ▸ h⟩
 rw [if_neg h,List.mem_append,List.mem_singleton]
theorem nd_addP {q:List (Nat × Nat)} {p:Nat × Nat} (h:q.Nodup):(addP q p).Nodup:=by
 unfold addP
 by_cases hp:p∈q
 ·rw [if_pos hp]; exact h
 rw [if_neg hp,List.nodup_append]
 exact ⟨h,by simp,fun x hx y hy e=>hp (by rw [List.mem_singleton] at hy; rw [← hy,← e]; exact hx)⟩
theorem pre_addP (q:List (Nat × Nat)) (p:Nat × Nat):∃ r,addP q p=q++r:=by
 unfold addP
 by_cases hp:p∈q
 ·exact ⟨[],by rw [if_pos hp,List.append_nil]⟩
 exact ⟨[p],if_neg hp⟩
def mrS (p:Nat × Nat) (z:List (Nat × Nat) × Nat) (s t:E3):List (Nat × Nat) × Nat:=
 if s.2.1=t.2.1 then
  (fun z1:List (Nat × Nat) × Nat=>if s.2.2=p.1∧t.2.2=p.2 then (addP z1.1 (s.1,t.1),z1.2) else z1)
   (if s.1=p.1∧t.1=p.2 then (addP z.1 (s.2.2,t.2.2),z.2 + 1) else z)
 else z
def mrT (p:Nat × Nat) (z:List (Nat × Nat) × Nat) (s:E3) (l:List E3):List (Nat × Nat) × Nat:=l.foldl (fun z t=>mrS p z s t) z
def mrR (p:Nat × Nat) (e2:List E3) (z:List (Nat × Nat) × Nat) (l:List E3):List (Nat × Nat) × Nat:=l.foldl (fun z s=>mrT p z s e2) z
def cnS (p:Nat × Nat) (s t:E3):Nat:=if s.2.1=t.2.1∧s.1=p.1∧t.1=p.2 then 1 else 0
theorem mrS_cnt (p:Nat × Nat) (z:List (Nat × Nat) × Nat) (s t:E3):(mrS p z s t).2=z.2 + cnS p s t:=by
 unfold mrS cnS
 by_cases h1:s.2.1=t.2.1
 ·by_cases h2:s.1=p.1∧t.1=p.2
  ·by_cases h3:s.2.2=p.1∧t.2.2=p.2<;>simp [h1,h2,h3]
  have h4:¬ (s.2.1=t.2.1∧s.1=p.1∧t.1=p.2):=fun h=>h2 h.2
  rw [if_pos h1,if_neg h2,if_neg h4]
  by_cases h3:s.2.2=p.1∧t.2.2=p.2<;>simp [h3]
 have h4:¬ (s.2.1=t.2.1∧s.1=p.1∧t.1=p.2):=fun h=>h1 h.1
 rw [if_neg h1,if_neg h4]; rfl
theorem mrT_cnt (p:Nat × Nat) (s:E3):∀ (l:List E3) (z:List (Nat × Nat) × Nat),(mrT p z s l).2=z.2 + (l.map fun t=>cnS p s t).sum
 | [],z=>rfl
 | t :: l,z=>by
  show (mrT p (mrS p z s t) s l).2=_
  rw [mrT_cnt p s l,mrS_cnt,List.map_cons,List.sum_cons]; omega
theorem mrR_cnt (p:Nat × Nat) (e2:List E3):∀ (l:List E3) (z:List (Nat × Nat) × Nat),(mrR p e2 z l).2=z.2 + (l.map fun s=>(e2.map fun t=>cnS p s t).sum).sum
 | [],z=>rfl
 | s :: l,z=>by
  show (mrR p e2 (mrT p z s e2) l).2=_
  rw [mrR_cnt p e2 l,mrT_cnt,List.map_cons,List.sum_cons]; omega
theorem mrS_pre (p:Nat × Nat) (z:List (Nat × Nat) × Nat) (s t:E3):(∃ r,(mrS p z s t).1=z.1++r)∧(z.1.Nodup→(mrS p z s t).1.Nodup) ∧
  ∀ x∈(mrS p z s t).1,x∈z.1∨(s.2.1=t.2.1∧s.1=p.1∧t.1=p.2∧x=(s.2.2,t.2.2))∨(s.2.1=t.2.1∧s.2.2=p.1∧t.2.2=p.2∧x=(s.1,t.1)):=by
 unfold mrS
 by_cases h1:s.2.1=t.2.1
 ·rw [if_pos h1]
  by_cases h2:s.1=p.1∧t.1=p.2
  ·rw [if_pos h2]
   obtain ⟨r1,e1⟩:=pre_addP z.1 (s.2.2,t.2.2)
   by_cases h3:s.2.2=p.1∧t.2.2=p.2
   ·simp only [if_pos h3]
    obtain ⟨r2,e2⟩:=pre_addP (addP z.1 (s.2.2,t.2.2)) (s.1,t.1)
    refine ⟨⟨r1++r2,by rw [e2,e1,List.append_assoc]⟩,fun h=>nd_addP (nd_addP h),fun x hx=>?_⟩
    rcases mem_addP.1 hx with hx | hx
    ·rcases mem_addP.1 hx with hx | hx
     ·exact .inl hx
     exact .inr (.inl ⟨h1,h2.1,h2.2,hx⟩)
    exact .inr (.inr ⟨h1,h3.1,h3.2,hx⟩)
   simp only [if_neg h3]
   refine ⟨⟨r1,e1⟩,nd_addP,fun x hx=>?_⟩
   rcases mem_addP.1 hx with hx | hx
   ·exact .inl hx
   exact .inr (.inl ⟨h1,h2.1,h2.2,hx⟩)
  rw [if_neg h2]
  by_cases h3:s.2.2=p.1∧t.2.2=p.2
  ·simp only [if_pos h3]
   obtain ⟨r2,e2⟩:=pre_addP z.1 (s.1,t.1)
   refine ⟨⟨r2,e2⟩,nd_addP,fun x hx=>?_⟩
   rcases mem_addP.1 hx with hx | hx
   ·exact .inl hx
   exact .inr (.inr ⟨h1,h3.1,h3.2,hx⟩)
  simp only [if_neg h3]
  exact ⟨⟨[],by simp⟩,id,fun x hx=>.inl hx⟩
 rw [if_neg h1]
 exact ⟨⟨[],by simp⟩,id,fun x hx=>.inl hx⟩
theorem mrS_has (p:Nat × Nat) (z:List (Nat × Nat) × Nat) (s t:E3) (h:s.2.1=t.2.1):(s.1=p.1→t.1=p.2→(s.2.2,t.2.2)∈(mrS p z s t).1)∧(s.2.2=p.1→t.2.2=p.2→(s.1,t.1)∈(mrS p z s t).1):=by
 unfold mrS
 rw [if_pos h]
 constructor
 ·intro h1 h2
  rw [if_pos ⟨h1,h2⟩]
  by_cases h3:s.2.2=p.1∧t.2.2=p.2
  ·simp only [if_pos h3]
   exact mem_addP.2 (.inl (mem_addP.2 (.inr rfl)))
  simp only [if_neg h3]
  exact mem_addP.2 (.inr rfl)
 intro h1 h2
 simp only [if_pos (show s.2.2=p.1∧t.2.2=p.2 from ⟨h1,h2⟩)]
 exact mem_addP.2 (.inr rfl)
theorem mrT_keep {P:Nat × Nat→Prop} {p:Nat × Nat} {s:E3} : ∀ (l:List E3) (z:List (Nat × Nat) × Nat),(∀ t∈l,s.2.1=t.2.1→(s.1=p.1→t.1=p.2→P (s.2.2,t.2.2))∧(s.2.2=p.1→t.2.2=p.2→P (s.1,t.1)))→z.1.Nodup→(∀ x∈z.1,P x) →
  (∃ r,(mrT p z s l).1=z.1++r)∧(mrT p z s l).1.Nodup∧(∀ x∈(mrT p z s l).1,P x)∧∀ t∈l,s.2.1=t.2.1→(s.1=p.1→t.1=p.2→(s.2.2,t.2.2)∈(mrT p z s l).1)∧(s.2.2=p.1→t.2.2=p.2→(s.1,t.1)∈(mrT p z s l).1)
 | [],z,_,hn,hP=>⟨⟨[],by simp [mrT]⟩,hn,hP,fun t ht=>(by cases ht)⟩
 | t :: l,z,h,hn,hP=>by
  obtain ⟨⟨r1,e1⟩,n1,m1⟩:=mrS_pre p z s t
  have ht:=h t (by simp)
  obtain ⟨⟨r2,e2⟩,n2,m2,c2⟩:=mrT_keep l (mrS p z s t) (fun u hu=>h u (by simp [hu])) (n1 hn) fun x hx=>by
   rcases m1 x hx with hx | ⟨a1,a2,a3,rfl⟩ | ⟨a1,a2,a3,rfl⟩
   ·exact hP x hx
   ·exact (ht a1).1 a2 a3
   exact (ht a1).2 a2 a3
  have e:mrT p z s (t :: l)=mrT p (mrS p z s t) s l:=rfl
  rw [e]
  refine ⟨⟨r1++r2,by rw [e2,e1,List.append_assoc]⟩,n2,m2,fun u hu hl=>?_⟩
  rcases List.mem_cons.1 hu with rfl | hu
  ·have hh:=mrS_has p z s u hl
   rw [e2]
   exact ⟨fun a b=>List.mem_append.2 (.inl (hh.1 a b)),fun a b=>List.mem_append.2 (.inl (hh.2 a b))⟩
  exact c2 u hu hl
theorem mrR_keep {P:Nat × Nat→Prop} {p:Nat × Nat} {e2:List E3} : ∀ (l:List E3) (z:List (Nat × Nat) × Nat),(∀ s∈l,∀ t∈e2,s.2.1=t.2.1→(s.1=p.1→t.1=p.2→P (s.2.2,t.2.2))∧(s.2.2=p.1→t.2.2=p.2→P (s.1,t.1)))→z.1.Nodup→(∀ x∈z.1,P x) →
  (∃ r,(mrR p e2 z l).1=z.1++r)∧(mrR p e2 z l).1.Nodup∧(∀ x∈(mrR p e2 z l).1,P x)∧∀ s∈l,∀ t∈e2,s.2.1=t.2.1→(s.1=p.1→t.1=p.2→(s.2.2,t.2.2)∈(mrR p e2 z l).1)∧(s.2.2=p.1→t.2.2=p.2→(s.1,t.1)∈(mrR p e2 z l).1)
 | [],z,_,hn,hP=>⟨⟨[],by simp [mrR]⟩,hn,hP,fun t ht=>(by cases ht)⟩
 | s :: l,z,h,hn,hP=>by
  obtain ⟨⟨r1,e1⟩,n1,m1,c1⟩:=mrT_keep (P:=P) (p:=p) (s:=s) e2 z (h s (by simp)) hn hP
  obtain ⟨⟨r2,e3⟩,n2,m2,c2⟩:=mrR_keep l (mrT p z s e2) (fun u hu=>h u (by simp [hu])) n1 m1
  have e:mrR p e2 z (s :: l)=mrR p e2 (mrT p z s e2) l:=rfl
  rw [e]
  refine ⟨⟨r1++r2,by rw [e3,e1,List.append_assoc]⟩,n2,m2,fun u hu t ht hl=>?_⟩
  rcases List.mem_cons.1 hu with rfl | hu
  ·have hh:=c1 t ht hl
   rw [e3]
   exact ⟨fun a b=>List.mem_append.2 (.inl (hh.1 a b)),fun a b=>List.mem_append.2 (.inl (hh.2 a b))⟩
  exact c2 u hu t ht hl
end Go.Proofs.Ytneglephfhiamaa

namespace Go.Proofs.Ytneglephfhiamaa
open Go.Pv
section
variable {e1 e2:List E3}
def cnL (e1 e2:List E3) (p:Nat × Nat):List Int:=e1.flatMap fun s=>(e2.filter fun t=>decide (s.2.1=t.2.1∧s.1=p.1∧t.1=p.2)).map fun _=>s.2.1
theorem cnL_len (p:Nat × Nat):(cnL e1 e2 p).length=(e1.map fun s=>(e2.map fun t=>cnS p s t).sum).sum:=by
 unfold cnL
 rw [flat_len]
 congr 1
 refine List.map_congr_left fun s _=>?_
 rw [List.length_map]
 induction e2 with
 | nil=>rfl
 | cons t r ih =>
  rw [List.filter_cons,List.map_cons,List.sum_cons]
  by_cases h:s.2.1=t.2.1∧s.1=p.1∧t.1=p.2
  ·rw [if_pos (by simpa using h),List.length_cons,ih]
   unfold cnS
   rw [if_pos h]; omega
  rw [if_neg (by simpa using h),ih]
  have:cnS p s t=0:=by unfold cnS; rw [if_neg h]
  rw [this]; omega
variable (d1:Det e1) (d2:Det e2) (n1:e1.Nodup) (n2:e2.Nodup) (p1:∀ t∈e1,0 < t.2.1) (p2:∀ t∈e2,0 < t.2.1)
include d1 d2 p1 p2
theorem mem_cnL {p:Nat × Nat} {x:Int} : x∈cnL e1 e2 p↔0 < x∧(sP (stE e1) (stE e2) p x).isSome=true:=by
 unfold cnL
 rw [List.mem_flatMap]
 constructor
 ·rintro ⟨s,hs,h⟩
  obtain ⟨t,ht,rfl⟩:=List.mem_map.1 h
  obtain ⟨ht,hc⟩:=List.mem_filter.1 ht
  have hc:s.2.1=t.2.1∧s.1=p.1∧t.1=p.2:=by simpa using hc
  obtain ⟨a,b,c⟩:=hc
  have hp:=p1 s hs
  refine ⟨hp,?_⟩
  have h1:stE e1 p.1 s.2.1=some s.2.2:=(stE_iff d1).2 (.inl ⟨hp,by rw [← b]; exact hs⟩)
  have h2:stE e2 p.2 s.2.1=some t.2.2:=(stE_iff d2).2 (.inl ⟨hp,by rw [← c,a]; exact ht⟩)
  rw [(sP_iff (q:=(s.2.2,t.2.2))).2 ⟨h1,h2⟩]; rfl
 rintro ⟨hx,h⟩
 obtain ⟨q,hq⟩:=Option.isSome_iff_exists.1 h
 obtain ⟨h1,h2⟩:=sP_iff.1 hq
 have r1:=(stE_iff d1).1 h1
 have r2:=(stE_iff d2).1 h2
 rcases r1 with ⟨_,r1⟩ | ⟨r1,_⟩
 ·rcases r2 with ⟨_,r2⟩ | ⟨r2,_⟩
  ·exact ⟨_,r1,List.mem_map.2 ⟨_,List.mem_filter.2 ⟨r2,by simp⟩,rfl⟩⟩
  omega
 omega
include n1 n2
theorem cnL_nd (p:Nat × Nat):(cnL e1 e2 p).Nodup:=by
 unfold cnL
 refine nodup_flat n1 (fun s hs=>?_) fun s hs s' hs' z h h'=>?_
 ·refine nodup_mapF (List.Nodup.sublist List.filter_sublist n2) fun t ht t' ht' _=>?_
  obtain ⟨ht,hc⟩:=List.mem_filter.1 ht
  obtain ⟨ht',hc'⟩:=List.mem_filter.1 ht'
  have hc:s.2.1=t.2.1∧s.1=p.1∧t.1=p.2:=by simpa using hc
  have hc' : s.2.1=t'.2.1∧s.1=p.1∧t'.1=p.2:=by simpa using hc'
  obtain ⟨a,x,b⟩:=t
  obtain ⟨a',x',b'⟩:=t'
  simp only at hc hc'
  have e1:x' = x:=hc'.1.symm.trans hc.1
  have e2:a' = a:=hc'.2.2.trans hc.2.2.symm
  subst e1 e2
  have:b=b':=d2 _ _ _ _ (.inl ⟨p2 (a',x',b) ht,ht⟩) (.inl ⟨p2 (a',x',b') ht',ht'⟩)
  rw [this]
 obtain ⟨t,ht,rfl⟩:=List.mem_map.1 h
 obtain ⟨t',ht',e⟩:=List.mem_map.1 h'
 obtain ⟨ht,hc⟩:=List.mem_filter.1 ht
 obtain ⟨ht',hc'⟩:=List.mem_filter.1 ht'
 have hc:s.2.1=t.2.1∧s.1=p.1∧t.1=p.2:=by simpa using hc
 have hc' : s'.2.1=t'.2.1∧s'.1=p.1∧t'.1=p.2:=by simpa using hc'
 obtain ⟨a,x,b⟩:=s
 obtain ⟨a',x',b'⟩:=s'
 simp only at hc hc' e
 have e2:a' = a:=hc'.2.1.trans hc.2.1.symm
 subst e e2
 have:b=b':=d1 _ _ _ _ (.inl ⟨p1 (a',x',b) hs,hs⟩) (.inl ⟨p1 (a',x',b') hs',hs'⟩)
 rw [this]
theorem sum_ix {q:List (Nat × Nat)} (g:Nat × Nat→Nat):(q.map g).sum=((List.range q.length).map fun i=>g (q.getD i (0,0))).sum:=by
 congr 1
 refine List.ext_getElem (by simp) fun i h1 h2=>?_
 have hi:i < q.length:=by simpa using h1
 simp only [List.getElem_map,List.getElem_range]
 rw [List.getD_eq_getElem?_getD,List.getElem?_eq_getElem hi]; rfl
theorem pairs_cnt {q:List (Nat × Nat)} (g:PG (stE e1) (stE e2) q) (hlt:∀ t∈e1,t.2.1≤26):(q.map fun p=>(cnL e1 e2 p).length).sum=(PE (stQ (stE e1) (stE e2) q) (List.range q.length)).length:=by
 rw [sum_ix (d1:=d1) (d2:=d2) (n1:=n1) (n2:=n2) (p1:=p1) (p2:=p2)]
 unfold PE
 rw [flat_len]
 congr 1
 refine List.map_congr_left fun i hi=>?_
 have hi:=List.mem_range.1 hi
 rw [List.length_map]
 have hsome:∀ x,(stQ (stE e1) (stE e2) q i x).isSome=(sP (stE e1) (stE e2) (q.getD i (0,0)) x).isSome:=fun x=>by
  unfold stQ
  rw [if_pos hi,Option.isSome_map]
 refine nd_eq (cnL_nd d1 d2 n1 n2 p1 p2 _) (List.Nodup.sublist List.filter_sublist ?_) fun x=>?_
 ·unfold ltS
  refine List.Nodup.sublist List.filter_sublist (nodup_mapF List.nodup_range fun a _ b _ e=>by omega)
 rw [mem_cnL d1 d2 p1 p2,List.mem_filter,mem_ltS,hsome]
 constructor
 ·rintro ⟨h1,h2⟩
  obtain ⟨r,hr⟩:=Option.isSome_iff_exists.1 h2
  have hx:=(stE_iff d1).1 (sP_iff.1 hr).1
  have:x≤26:=by
   rcases hx with ⟨_,hx⟩ | ⟨hx,_⟩
   ·exact hlt _ hx
   omega
  exact ⟨⟨⟨by omega,this⟩,h2⟩,by simpa using h1⟩
 rintro ⟨⟨h1,h2⟩,h3⟩
 exact ⟨by simpa using h3,h2⟩
end
theorem pg_of {e1 e2:List E3} (d1:Det e1) (d2:Det e2) {q:List (Nat × Nat)} (nd:q.Nodup) (hd:q.head? = some (0,0)) (hP:∀ p∈q,∃ w,runW (sP (stE e1) (stE e2)) (0,0) w=some p)
  (hc:∀ p∈q,∀ s∈e1,∀ t∈e2,s.2.1=t.2.1→(s.1=p.1→t.1=p.2→(s.2.2,t.2.2)∈q)∧(s.2.2=p.1→t.2.2=p.2→(s.1,t.1)∈q)):PG (stE e1) (stE e2) q:=by
 refine ⟨nd,hd,fun p hp x r h=>?_,hP⟩
 obtain ⟨h1,h2⟩:=sP_iff.1 h
 have r1:=(stE_iff d1).1 h1
 have r2:=(stE_iff d2).1 h2
 obtain ⟨a,b⟩:=r
 rcases r1 with ⟨x1,r1⟩ | ⟨x1,r1⟩
 ·rcases r2 with ⟨x2,r2⟩ | ⟨x2,r2⟩
  ·exact (hc p hp _ r1 _ r2 rfl).1 rfl rfl
  omega
 rcases r2 with ⟨x2,r2⟩ | ⟨x2,r2⟩
 ·omega
 exact (hc p hp _ r1 _ r2 rfl).2 rfl rfl
theorem pg_step {e1 e2:List E3} (d1:Det e1) (d2:Det e2) (p1:∀ t∈e1,0 < t.2.1) {p:Nat × Nat} (hp:∃ w,runW (sP (stE e1) (stE e2)) (0,0) w=some p) {s t:E3} (hs:s∈e1) (ht:t∈e2) (hl:s.2.1=t.2.1) :
  (s.1=p.1→t.1=p.2→∃ w,runW (sP (stE e1) (stE e2)) (0,0) w=some (s.2.2,t.2.2))∧(s.2.2=p.1→t.2.2=p.2→∃ w,runW (sP (stE e1) (stE e2)) (0,0) w=some (s.1,t.1)):=by
 obtain ⟨w,hw⟩:=hp
 have hpos:=p1 s hs
 have on:∀ (x:Int) (r:Nat × Nat),sP (stE e1) (stE e2) p x=some r→∃ w,runW (sP (stE e1) (stE e2)) (0,0) w=some r:=fun x r h=>⟨w++[x],by rw [runW_app,hw]; simp only [Option.bind_some,runW,h]⟩
 constructor
 ·intro a b
  refine on s.2.1 _ (sP_iff.2 ⟨(stE_iff d1).2 (.inl ⟨hpos,by rw [← a]; exact hs⟩),(stE_iff d2).2 (.inl ⟨hpos,by rw [← b,hl]; exact ht⟩)⟩)
 intro a b
 refine on (-s.2.1) _ (sP_iff.2 ⟨(stE_iff d1).2 (.inr ⟨by omega,by rw [← a,Int.neg_neg]; exact hs⟩),(stE_iff d2).2 (.inr ⟨by omega,by rw [← b,Int.neg_neg,hl]; exact ht⟩)⟩)
end Go.Proofs.Ytneglephfhiamaa

namespace Go.Pv.Fw
open Go.Pv Go.RowKit
structure FW where
 W:Oper→Bool
 T:Oper→Bool
 wt:∀ {o:Oper},W o=true→T o=true
structure Loc1 (F:FW) (P:Program) (o:Oper) (s:St) (av:AV) (H' : Heap):Prop where
 here:∀ s2:St,s2.n=s.n→Agree o s s2→s2.H=s.H→DoesW P o s2 av H'
 free:F.T o=false→H' = s.H∧∀ s2:St,s2.n=s.n→Agree o s s2→DoesW P o s2 av s2.H
 calm:F.W o=false→H' = s.H
inductive Step1 (F:FW) (P:Program) (draw:Bool) (all:Array Oper) (o:Oper):St→St→Prop
 | skip (s:St) (hg:guardA all s o=some false) (hd:∀ t,o.dst=some t→t < s.n):Step1 F P draw all o s (s.put o.dst (.p (.tup [])))
 | op (s:St) (av:AV) (H' : Heap) (hg:guardA all s o=some true) (hd:∀ t,o.dst=some t→t < s.n) (h:DoesW P o s av H') (hl:draw=true→Loc1 F P o s av H'):Step1 F P draw all o s ({ s with H:=H' }.put o.dst av)
inductive Run1 (F:FW) (P:Program) (draw:Bool) (all:Array Oper):List Oper→St→St→Prop
 | nil (s:St):Run1 F P draw all [] s s
 | cons {o:Oper} {r:List Oper} {s s1 s2:St} (h:Step1 F P draw all o s s1) (hr:Run1 F P draw all r s1 s2):Run1 F P draw all (o :: r) s s2
def apartB (F:FW) (ops:Array Oper) (x y:Oper):Bool:=x.apart ops y && !(F.W x && F.T y) && !(F.T x && F.W y)
def drawOK (F:FW) (ops:Array Oper):Bool:=
 (List.range ops.size).all fun j =>
  ((opAt ops j).after.toList.all fun e=>!Region.binds .any e || e.on < j) &&
  (List.range j).all fun i=>apartB F ops (opAt ops i) (opAt ops j) || ((anc ops).getD j 0).testBit i
section
variable {F:FW} {P:Program} {ops:Array Oper}
def sD (F:FW) (ops:Array Oper) (out:Nat→Out) (s:St) (D:Nat→Bool):Nat→St
 | 0=>s
 | k + 1=>if D k then ({ sD F ops out s D k with H:=if F.W (opAt ops k) then (out k).H else (sD F ops out s D k).H } : St).put (opAt ops k).dst (out k).av else sD F ops out s D k
theorem sD_n (out:Nat→Out) (s:St) (D:Nat→Bool):∀ k,(sD F ops out s D k).n=s.n
 | 0=>rfl
 | k + 1=>by
  simp only [sD]
  split
  ·rw [St.put_n]; exact sD_n out s D k
  exact sD_n out s D k
theorem sD_get (out:Nat→Out) (s:St) (D:Nat→Bool) (k t:Nat):(sD F ops out s D (k + 1)).get t=if D k=true∧(opAt ops k).dst=some t then (out k).av else (sD F ops out s D k).get t:=by
 simp only [sD]
 by_cases h:D k=true
 ·rw [if_pos h,get_put]
  by_cases hd:(opAt ops k).dst=some t
  ·have hr:D k=true∧(opAt ops k).dst=some t:=⟨h,hd⟩
   rw [if_pos hd,if_pos hr]
  have hr:¬ (D k=true∧(opAt ops k).dst=some t):=fun hh=>hd hh.2
  rw [if_neg hd,if_neg hr]; rfl
 have hr:¬ (D k=true∧(opAt ops k).dst=some t):=fun hh=>h hh.1
 rw [if_neg h,if_neg hr]
theorem sD_H (out:Nat→Out) (s:St) (D:Nat→Bool) (k:Nat):(sD F ops out s D (k + 1)).H=if D k=true∧F.W (opAt ops k)=true then (out k).H else (sD F ops out s D k).H:=by
 simp only [sD]
 by_cases h:D k=true
 ·rw [if_pos h,St.put_H]
  by_cases hd:F.W (opAt ops k)=true
  ·have hr:D k=true∧F.W (opAt ops k)=true:=⟨h,hd⟩
   rw [if_pos hr]; simp only [hd,if_true]
  have hr:¬ (D k=true∧F.W (opAt ops k)=true):=fun hh=>hd hh.2
  rw [if_neg hr]; simp only [hd,Bool.false_eq_true,if_false]
 have hr:¬ (D k=true∧F.W (opAt ops k)=true):=fun hh=>h hh.1
 rw [if_neg h,if_neg hr]
theorem sD_get_stay (out : Nat → Out) (s : St) (D : Nat → Bool) (t : Nat) : ∀ k n, k ≤ n → (∀ i, k ≤ i → i < n → D i = true → (opAt ops i).dst ≠ some t) → (sD F ops out s D n).get t = (sD F ops out s D k).get t := by
  intro k n hkn h
  induction n with
  | zero => obtain rfl : k = 0 := by omega
            rfl
  | succ n ih =>
    by_cases hk : k = n + 1
    · rw [hk]
    · rw [sD_get, if_neg (fun hh => h n (by omega) (by omega) hh.1 hh.2)]
      exact ih (by omega) fun i h1 h2 => h i h1 (by omega)
theorem sD_H_stay (out : Nat → Out) (s : St) (D : Nat → Bool) : ∀ k n, k ≤ n → (∀ i, k ≤ i → i < n → D i = true → F.W (opAt ops i) = false) → (sD F ops out s D n).H = (sD F ops out s D k).H := by
  intro k n hkn h
  induction n with
  | zero => obtain rfl : k = 0 := by omega
            rfl
  | succ n ih =>
    by_cases hk : k = n + 1
    · rw [hk]
    · rw [sD_H, if_neg (fun hh => by have := h n (by omega) (by omega) hh.1; rw [this] at hh; simp at hh)]
      exact ih (by omega) fun i h1 h2 => h i h1 (by omega)
theorem sD_get_same (out:Nat→Out) (s:St) (D D' : Nat→Bool) (t:Nat):∀ k,(∀ i,i < k→(opAt ops i).dst=some t→D i=D' i)→(sD F ops out s D k).get t=(sD F ops out s D' k).get t:=by
 intro k h
 induction k with
 | zero=>rfl
 | succ k ih =>
  rw [sD_get,sD_get,ih fun i hi=>h i (by omega)]
  by_cases hd:(opAt ops k).dst=some t
  ·rw [h k (by omega) hd]
  rw [if_neg (fun hh=>hd hh.2),if_neg (fun hh=>hd hh.2)]
theorem sD_H_same (out:Nat→Out) (s:St) (D D' : Nat→Bool):∀ k,(∀ i,i < k→F.W (opAt ops i)=true→D i=D' i)→(sD F ops out s D k).H=(sD F ops out s D' k).H:=by
 intro k h
 induction k with
 | zero=>rfl
 | succ k ih =>
  rw [sD_H,sD_H,ih fun i hi=>h i (by omega)]
  by_cases hd:F.W (opAt ops k)=true
  ·rw [h k (by omega) hd]
  rw [if_neg (fun hh=>hd hh.2),if_neg (fun hh=>hd hh.2)]
structure Fact (F:FW) (P:Program) (ops:Array Oper) (out:Nat→Out) (s:St) (j:Nat) (o:Oper):Prop where
 dst:∀ t,o.dst=some t→t < s.n
 how:(guardA ops (sD F ops out s (fun _=>true) j) o=some false∧(out j).av = .p (.tup [])∧F.W o=false) ∨
  (guardA ops (sD F ops out s (fun _=>true) j) o=some true∧Loc1 F P o (sD F ops out s (fun _=>true) j) (out j).av (out j).H)
theorem Run1.facts:∀ (l:List Oper) (k:Nat) (pre:Nat→Out) (s s1 s' : St),(∀ i,l[i]? = ops[k + i]?)→k + l.length=ops.size→(∀ t,s1.get t=(sD F ops pre s (fun _=>true) k).get t)→s1.H=(sD F ops pre s (fun _=>true) k).H→s1.n=s.n →
  (∀ o∈l,o.guard ≠ none→F.W o=false) →
  Run1 F P true ops l s1 s'→∃ out:Nat→Out,(∀ i,i < k→out i=pre i)∧(∀ i o,k≤i→ops[i]? = some o→Fact F P ops out s i o)∧(∀ t,s'.get t=(sD F ops out s (fun _=>true) ops.size).get t)∧s'.H=(sD F ops out s (fun _=>true) ops.size).H∧s'.n=s.n
 | [],k,pre,s,s1,s',hl,hk,hg,hH,hn,_,hr=>by
  cases hr
  simp at hk
  subst hk
  refine ⟨pre,fun _ _=>rfl,fun i o hi ho=>?_,hg,hH,hn⟩
  have:=(Array.getElem?_eq_some_iff.1 ho).1
  omega
 | o :: r,k,pre,s,s1,s',hl,hk,hg,hH,hn,hgw,hr=>by
  have ho:ops[k]? = some o:=by have:=hl 0; simpa using this.symm
  have hod:opAt ops k=o:=opAt_of ho
  have sDpre:∀ (x:Out) (j:Nat),j≤k→sD F ops (fun i=>if i=k then x else pre i) s (fun _=>true) j=sD F ops pre s (fun _=>true) j:=by
   intro x j hj
   induction j with
   | zero=>rfl
   | succ j ih =>
    simp only [sD]
    rw [ih (by omega),if_neg (by omega:¬ j=k)]
  have hgs:∀ b,guardA ops s1 o=some b→guardA ops (sD F ops pre s (fun _=>true) k) o=some b:=by
   intro b h
   unfold guardA at h ⊢
   simp only [hg] at h
   exact h
  cases hr with
  | cons h hr =>
   have next:∀ (x:Out) (sn:St),(∀ t,sn.get t=if o.dst=some t then x.av else s1.get t)→(sn.H=if F.W o=true then x.H else s1.H)→sn.n=s1.n→Run1 F P true ops r sn s' →
     Fact F P ops (fun i=>if i=k then x else pre i) s k o →
     ∃ out:Nat→Out,(∀ i,i < k→out i=pre i)∧(∀ i o,k≤i→ops[i]? = some o→Fact F P ops out s i o)∧(∀ t,s'.get t=(sD F ops out s (fun _=>true) ops.size).get t)∧s'.H=(sD F ops out s (fun _=>true) ops.size).H∧s'.n=s.n:=by
    intro x sn h1 h2 h3 hrn hf
    obtain ⟨out,g1,g2,g3⟩:=Run1.facts r (k + 1) (fun i=>if i=k then x else pre i) s sn s' (fun i=>by have:=hl (i + 1); simp only [List.getElem?_cons_succ] at this; rw [this]; congr 1; omega) (by simp at hk; omega)
     (fun t=>by rw [h1,sD_get,hod,sDpre x k (Nat.le_refl _),hg]; simp) (by rw [h2,sD_H,hod,sDpre x k (Nat.le_refl _),hH]; simp) (by rw [h3,hn]) (fun o ho=>hgw o (by simp [ho])) hrn
    refine ⟨out,fun i hi=>?_,fun i o' hi ho'=>?_,g3⟩
    ·rw [g1 i (by omega),if_neg (by omega)]
    by_cases hik:i=k
    ·subst hik
     rw [ho] at ho'; cases ho'
     have e1:∀ j,j≤i→sD F ops out s (fun _=>true) j=sD F ops (fun i'=>if i' = i then x else pre i') s (fun _=>true) j:=by
      intro j hj
      induction j with
      | zero=>rfl
      | succ j ih=>simp only [sD]; rw [ih (by omega),g1 j (by omega)]
     have e2:out i=(fun i'=>if i' = i then x else pre i') i:=g1 i (by omega)
     refine ⟨hf.dst,?_⟩
     have:=hf.how
     rw [e1 i (Nat.le_refl _),e2]
     exact this
    exact g2 i o' (by omega) ho'
   cases h with
   | skip hgd hd =>
    have hgn:o.guard ≠ none:=by
     intro e
     unfold guardA at hgd
     rw [e] at hgd
     simp at hgd
    have hw:=hgw o (by simp) hgn
    refine next ⟨.p (.tup []),s1.H⟩ _ (fun t=>get_put _ _ _ _) (by rw [St.put_H]; simp) (St.put_n _ _ _) hr ⟨fun t ht=>by rw [← hn]; exact hd t ht,.inl ⟨?_,by simp,hw⟩⟩
    rw [sDpre _ k (Nat.le_refl _)]
    exact hgs false hgd
   | op av H' hgd hd hdo hloc =>
    have hloc:=hloc rfl
    have hag:∀ (s2:St),(∀ t,s2.get t=(sD F ops pre s (fun _=>true) k).get t)→∀ x,s2.ev x=s1.ev x:=by
     intro s2 h2 x
     cases x<;>simp only [St.ev]
     rw [h2,hg]
    refine next ⟨av,H'⟩ (({ s1 with H:=H' } : St).put o.dst av) (fun t=>by rw [get_put]; rfl) (by
      rw [St.put_H]
      by_cases hw:F.W o=true
      ·rw [if_pos hw]
      rw [if_neg hw]; exact hloc.calm (by simpa using hw)) (St.put_n _ _ _) hr ⟨fun t ht=>by rw [← hn]; exact hd t ht,.inr ⟨?_,?_⟩⟩
    ·rw [sDpre _ k (Nat.le_refl _)]; exact hgs true hgd
    rw [sDpre _ k (Nat.le_refl _)]
    simp only [if_true]
    have hev:∀ x,(sD F ops pre s (fun _=>true) k).ev x=s1.ev x:=hag _ fun _=>rfl
    have hnn:(sD F ops pre s (fun _=>true) k).n=s1.n:=by rw [sD_n,hn]
    refine ⟨fun s2 h1 h2 h3=>hloc.here s2 (h1.trans hnn) (fun x hx=>(h2 x hx).trans (hev x)) (h3.trans hH.symm),fun hf=>?_,fun hw=>by rw [← hH]; exact hloc.calm hw⟩
    obtain ⟨e1,e2⟩:=hloc.free hf
    exact ⟨by rw [← hH]; exact e1,fun s2 h1 h2=>e2 s2 (h1.trans hnn) (fun x hx=>(h2 x hx).trans (hev x))⟩
theorem drawOK_spec (h:drawOK F ops=true):(∀ j o,ops[j]? = some o→∀ e∈o.after.toList,Region.binds .any e=true→e.on < j) ∧
  ∀ i j oi oj,i < j→ops[i]? = some oi→ops[j]? = some oj→apartB F ops oi oj=false→((anc ops).getD j 0).testBit i=true:=by
 unfold drawOK at h
 rw [List.all_eq_true] at h
 constructor
 ·intro j o ho e he hb
  have hj:=(Array.getElem?_eq_some_iff.1 ho).1
  have:=h j (by simpa using hj)
  rw [Bool.and_eq_true] at this
  have h1:=(List.all_eq_true.1 this.1) e (by rw [opAt_of ho]; exact he)
  rw [hb] at h1
  simpa using h1
 intro i j oi oj hij hi hj ha
 have hj':=(Array.getElem?_eq_some_iff.1 hj).1
 have:=h j (by simpa using hj')
 rw [Bool.and_eq_true] at this
 have h1:=(List.all_eq_true.1 this.2) i (by simpa using hij)
 rw [opAt_of hi,opAt_of hj,ha,Bool.false_or] at h1
 exact h1
theorem draw_sound {Q:Exit→Act→World→Prop} {C:Ctx} {ds:List Deferred} {s s' : St} (hok:drawOK F ops=true) (hgw:∀ o∈ops.toList,o.guard ≠ none→F.W o=false) (hrun:Run1 F P true ops ops.toList s s') {m:Map} {a:Act} {w:World} (R:Rel C m s a.tmps w) (hd:a.defers=ds)
  (hQ:∀ m' (a' : Act) w',Rel C m' s' a'.tmps w'→a'.defers=ds→Q .normal a' w'):anyR P .any ops Q ops.size (Array.replicate ops.size false) a w:=by
 obtain ⟨hedge,hconf⟩:=drawOK_spec hok
 obtain ⟨out,_,hfact,hget',hH',hn'⟩:=Run1.facts (ops:=ops) ops.toList 0 (fun _=>⟨.dead,[]⟩) s s s' (fun i=>by simp) (by simp) (fun _=>rfl) rfl rfl hgw hrun
 have hfact:∀ i o,ops[i]? = some o→Fact F P ops out s i o:=fun i o=>hfact i o (Nat.zero_le _)
 have key:∀ (fuel:Nat) (listed:Array Bool) (m:Map) (a:Act) (w:World),listed.size=ops.size→(List.range ops.size).countP (fun i=>!listed.getD i true)=fuel →
   (∀ j o,listed.getD j false=true→ops[j]? = some o→∀ e∈o.after.toList,Region.binds .any e=true→listed.getD e.on false=true) →
   Rel C m (sD F ops out s (fun i=>listed.getD i false) ops.size) a.tmps w→a.defers=ds→anyR P .any ops Q fuel listed a w:=by
  intro fuel
  induction fuel with
  | zero =>
   intro listed m a w hsz hcnt hcl R hd
   have hall:∀ i,i < ops.size→listed.getD i true=true:=by
    intro i hi
    have:=List.countP_eq_zero.1 hcnt i (by simpa using hi)
    simpa using this
   refine ⟨?_,hQ m a w (R.congr (fun t=>?_) ?_ ?_) hd⟩
   ·unfold Region.ready
    rw [List.filter_eq_nil_iff]
    intro i hi
    have:=hall i (by simpa using hi)
    simp [this]
   ·rw [hget']
    refine (sD_get_same out s _ _ t _ fun i hi _=>?_).symm
    have:=hall i hi
    simp [Array.getD_eq_getD_getElem?,Array.getElem?_eq_getElem (show i < listed.size by omega)] at this ⊢
    exact this
   ·rw [hH']
    refine (sD_H_same out s _ _ _ fun i hi _=>?_).symm
    have:=hall i hi
    simp [Array.getD_eq_getD_getElem?,Array.getElem?_eq_getElem (show i < listed.size by omega)] at this ⊢
    exact this
   rw [sD_n,hn']
  | succ fuel ih =>
   intro listed m a w hsz hcnt hcl R hd
   refine ⟨fun hnil=>?_,fun j hj=>?_⟩
   ·
    exfalso
    have hex:∃ i,i < ops.size∧listed.getD i true=false:=by
     have:0 < (List.range ops.size).countP (fun i=>!listed.getD i true):=by omega
     obtain ⟨i,hi,h⟩:=List.countP_pos_iff.1 this
     exact ⟨i,by simpa using hi,by simpa using h⟩
    have hmin:∃ i,i < ops.size∧listed.getD i true=false∧∀ k,k < i→listed.getD k true=true:=by
     obtain ⟨i,hi,h⟩:=hex
     induction i using Nat.strongRecOn with
     | _ i ihh =>
      by_cases hall:∀ k,k < i→listed.getD k true=true
      ·exact ⟨i,hi,h,hall⟩
      simp only [Classical.not_forall] at hall
      obtain ⟨k,hk,hkn⟩:=hall
      exact ihh k hk (by omega) (by simpa using hkn)
    obtain ⟨i,hi,hli,hbelow⟩:=hmin
    have hmem:i∈Region.ready .any ops listed:=by
     unfold Region.ready
     rw [List.mem_filter]
     refine ⟨by simpa using hi,?_⟩
     rw [hli,Array.getElem?_eq_getElem hi]
     simp only [Bool.not_false,Bool.true_and,Option.map_some,Option.getD_some]
     rw [Array.all_eq_true_iff_forall_mem]
     intro e he
     by_cases hb:Region.binds .any e=true
     ·have hlt:=hedge i ops[i] (Array.getElem?_eq_getElem hi) e (by simpa using he) hb
      have:=hbelow e.on hlt
      have hlt' : e.on < listed.size:=by omega
      simp [Array.getD_eq_getD_getElem?,Array.getElem?_eq_getElem hlt'] at this ⊢
      simp [this]
     simp [hb]
    rw [hnil] at hmem
    simp at hmem
   unfold Region.ready at hj
   rw [List.mem_filter] at hj
   obtain ⟨hjlt,hj⟩:=hj
   have hjlt:j < ops.size:=by simpa using hjlt
   have hoj:ops[j]? = some ops[j]:=Array.getElem?_eq_getElem hjlt
   generalize ops[j]=o at hoj
   rw [hoj] at hj
   simp only [Option.map_some,Option.getD_some,Bool.and_eq_true,Bool.not_eq_eq_eq_not,Bool.not_true] at hj
   obtain ⟨hnl,hal⟩:=hj
   have hjls:j < listed.size:=by omega
   have hnl' : listed.getD j false=false:=by
    simp [Array.getD_eq_getD_getElem?,Array.getElem?_eq_getElem hjls] at hnl ⊢
    exact hnl
   have hpre:∀ e∈o.after.toList,Region.binds .any e=true→listed.getD e.on false=true:=by
    intro e he hb
    have:=(Array.all_eq_true_iff_forall_mem.1 hal) e (by simpa using he)
    rw [hb] at this
    simpa using this
   have hanc:∀ i,((anc ops).getD j 0).testBit i=true→listed.getD i false=true:=
    anc_in (D:=fun i=>listed.getD i false=true) hcl j j o (Nat.le_refl _) hoj hpre
   have hanc' : ∀ i,listed.getD i false=true→∀ oi,ops[i]? = some oi→∀ k,((anc ops).getD i 0).testBit k=true→listed.getD k false=true:=
    fun i hi oi hoi=>anc_in (D:=fun i=>listed.getD i false=true) hcl i i oi (Nat.le_refl _) hoi (hcl i oi hi hoi)
   have hod:opAt ops j=o:=opAt_of hoj
   have low:∀ i,i < j→apartB F ops (opAt ops i) o=false→listed.getD i false=true:=by
    intro i hi ha
    have hoi:ops[i]? = some ops[i]:=Array.getElem?_eq_getElem (by omega)
    refine hanc i (hconf i j ops[i] o hi hoi hoj ?_)
    rwa [opAt_of hoi] at ha
   have high:∀ i,j < i→i < ops.size→listed.getD i false=true→apartB F ops o (opAt ops i)=true:=by
    intro i hi hlt hli
    have hoi:ops[i]? = some ops[i]:=Array.getElem?_eq_getElem hlt
    have e:opAt ops i=ops[i]:=opAt_of hoi
    rw [e]
    by_cases ha:apartB F ops o ops[i]=true
    ·exact ha
    have:=hanc' i hli ops[i] hoi j (hconf j i o ops[i] hi hoj hoi (by simpa using ha))
    rw [this] at hnl'; cases hnl'
   have agree:∀ t,t∈o.looksAt ops→(sD F ops out s (fun i=>listed.getD i false) ops.size).get t=(sD F ops out s (fun _=>true) j).get t:=by
    intro t ht
    rw [sD_get_stay out s _ t j ops.size (by omega) (fun i h1 h2 h3 h4=>?_)]
    ·refine sD_get_same out s _ _ t j fun i hi hdi=>?_
     rw [low i hi ?_]
     rw [Bool.eq_false_iff]
     intro hap
     unfold apartB at hap
     rw [Bool.and_eq_true,Bool.and_eq_true] at hap
     exact (Oper.apart_spec hap.1.1).1 t hdi ht
    by_cases hij:i=j
    ·subst hij; rw [hnl'] at h3; cases h3
    have hap:=high i (by omega) h2 h3
    unfold apartB at hap
    rw [Bool.and_eq_true,Bool.and_eq_true] at hap
    exact (Oper.apart_spec hap.1.1).2.2 t h4 ht
   have agreeH:F.T o=true→(sD F ops out s (fun i=>listed.getD i false) ops.size).H=(sD F ops out s (fun _=>true) j).H:=by
    intro hT
    rw [sD_H_stay out s _ j ops.size (by omega) (fun i h1 h2 h3=>?_)]
    ·refine sD_H_same out s _ _ j fun i hi hwi=>?_
     rw [low i hi ?_]
     rw [Bool.eq_false_iff]
     intro hap
     unfold apartB at hap
     simp [hwi,hT] at hap
    by_cases hij:i=j
    ·subst hij; rw [hnl'] at h3; cases h3
    have hap:=high i (by omega) h2 h3
    unfold apartB at hap
    simp only [hT,Bool.true_and,Bool.and_eq_true,Bool.not_eq_eq_eq_not,Bool.not_true] at hap
    exact hap.2
   have hlist:∀ i,(listed.setIfInBounds j true).getD i false=if i=j then true else listed.getD i false:=by
    intro i
    simp only [Array.getD_eq_getD_getElem?]
    by_cases hij:i=j
    ·subst hij; rw [Array.getElem?_setIfInBounds_self_of_lt hjls,if_pos rfl]; rfl
    rw [Array.getElem?_setIfInBounds_ne (Ne.symm hij),if_neg hij]
   have insertGet:∀ t,(sD F ops out s (fun i=>(listed.setIfInBounds j true).getD i false) ops.size).get t=if o.dst=some t then (out j).av else (sD F ops out s (fun i=>listed.getD i false) ops.size).get t:=by
    intro t
    have base:∀ k,k≤j→(sD F ops out s (fun i=>(listed.setIfInBounds j true).getD i false) k).get t=(sD F ops out s (fun i=>listed.getD i false) k).get t:=fun k hk =>
     sD_get_same out s _ _ t k fun i hi _=>by rw [hlist,if_neg (by omega)]
    have step:∀ n,j + 1≤n→n≤ops.size→(sD F ops out s (fun i=>(listed.setIfInBounds j true).getD i false) n).get t=if o.dst=some t then (out j).av else (sD F ops out s (fun i=>listed.getD i false) n).get t:=by
     intro n hn hns
     induction n with
     | zero=>omega
     | succ n ihn =>
      by_cases hnj:n=j
      ·subst hnj
       rw [sD_get,sD_get,hod,base n (Nat.le_refl _),hlist,if_pos rfl,hnl']
       by_cases hdt:o.dst=some t
       ·simp [hdt]
       simp [hdt]
      rw [sD_get,sD_get,ihn (by omega) (by omega),hlist,if_neg hnj]
      by_cases hln:listed.getD n false=true∧(opAt ops n).dst=some t
      ·rw [if_pos hln,if_pos hln]
       have hap:=high n (by omega) (by omega) hln.1
       unfold apartB at hap
       rw [Bool.and_eq_true,Bool.and_eq_true] at hap
       by_cases hdt:o.dst=some t
       ·exact absurd hln.2 ((Oper.apart_spec hap.1.1).2.1 t hdt)
       rw [if_neg hdt]
      rw [if_neg hln,if_neg hln]
    exact step ops.size (by omega) (Nat.le_refl _)
   have insertH:(sD F ops out s (fun i=>(listed.setIfInBounds j true).getD i false) ops.size).H=if F.W o=true then (out j).H else (sD F ops out s (fun i=>listed.getD i false) ops.size).H:=by
    have base:∀ k,k≤j→(sD F ops out s (fun i=>(listed.setIfInBounds j true).getD i false) k).H=(sD F ops out s (fun i=>listed.getD i false) k).H:=fun k hk =>
     sD_H_same out s _ _ k fun i hi _=>by rw [hlist,if_neg (by omega)]
    have step:∀ n,j + 1≤n→n≤ops.size→(sD F ops out s (fun i=>(listed.setIfInBounds j true).getD i false) n).H=if F.W o=true then (out j).H else (sD F ops out s (fun i=>listed.getD i false) n).H:=by
     intro n hn hns
     induction n with
     | zero=>omega
     | succ n ihn =>
      by_cases hnj:n=j
      ·subst hnj
       rw [sD_H,sD_H,hod,base n (Nat.le_refl _),hlist,if_pos rfl,hnl']
       by_cases hdt:F.W o=true
       ·simp [hdt]
       simp [hdt]
      rw [sD_H,sD_H,ihn (by omega) (by omega),hlist,if_neg hnj]
      by_cases hln:listed.getD n false=true∧F.W (opAt ops n)=true
      ·rw [if_pos hln,if_pos hln]
       have hap:=high n (by omega) (by omega) hln.1
       unfold apartB at hap
       by_cases hdt:F.W o=true
       ·simp [hdt,F.wt hln.2] at hap
       rw [if_neg hdt]
      rw [if_neg hln,if_neg hln]
    exact step ops.size (by omega) (Nat.le_refl _)
   have hcnt' : (List.range ops.size).countP (fun i=>!(listed.setIfInBounds j true).getD i true)=fuel:=by
    have hsplit:∀ (l:List Nat),l.Nodup→j∈l→l.countP (fun i=>!listed.getD i true)=l.countP (fun i=>!(listed.setIfInBounds j true).getD i true) + 1:=by
     intro l
     induction l with
     | nil=>intro _ h; simp at h
     | cons x r ihl =>
      intro hnd hmem
      have hx:∀ i,i ≠ j→(listed.setIfInBounds j true).getD i true=listed.getD i true:=by
       intro i hi
       simp only [Array.getD_eq_getD_getElem?]
       rw [Array.getElem?_setIfInBounds_ne (Ne.symm hi)]
      rw [List.nodup_cons] at hnd
      by_cases hxj:x=j
      ·subst hxj
       have e1:(listed.setIfInBounds x true).getD x true=true:=by
        simp only [Array.getD_eq_getD_getElem?]
        rw [Array.getElem?_setIfInBounds_self_of_lt hjls]; rfl
       rw [List.countP_cons,List.countP_cons,hnl,e1]
       have:r.countP (fun i=>!listed.getD i true)=r.countP (fun i=>!(listed.setIfInBounds x true).getD i true):=by
        apply List.countP_congr
        intro i hi
        rw [hx i (fun e=>hnd.1 (e ▸ hi))]
       simp only [this,Bool.not_false,Bool.not_true,if_true,Bool.false_eq_true,if_false,Nat.add_zero]
      rw [List.countP_cons,List.countP_cons,hx x hxj,ihl hnd.2 (by rcases List.mem_cons.1 hmem with h | h; exact absurd h.symm hxj; exact h)]
      omega
    have:=hsplit (List.range ops.size) List.nodup_range (by simpa using hjlt)
    omega
   have hcl' : ∀ i oi,(listed.setIfInBounds j true).getD i false=true→ops[i]? = some oi→∀ e∈oi.after.toList,Region.binds .any e=true→(listed.setIfInBounds j true).getD e.on false=true:=by
    intro i oi hi hoi e he hb
    rw [hlist] at hi ⊢
    by_cases hij:i=j
    ·subst hij
     rw [hoj] at hoi; cases hoi
     rw [hpre e he hb]; simp
    rw [if_neg hij] at hi
    rw [hcl i oi hi hoi e he hb]; simp
   have next:∀ (m' : Map) (a' : Act) (w' : World),(∃ s2:St,Rel C m' s2 a'.tmps w'∧(∀ t,s2.get t=if o.dst=some t then (out j).av else (sD F ops out s (fun i=>listed.getD i false) ops.size).get t) ∧
      (s2.H=if F.W o=true then (out j).H else (sD F ops out s (fun i=>listed.getD i false) ops.size).H)∧s2.n=s.n)→a'.defers=ds→anyR P .any ops Q fuel (listed.setIfInBounds j true) a' w':=by
    rintro m' a' w' ⟨s2,R2,e1,e2,e3⟩ hd'
    refine ih _ m' a' w' (by simpa using hsz) hcnt' hcl' (R2.congr (fun t=>?_) ?_ ?_) hd'
    ·rw [insertGet,e1]
    ·rw [insertH,e2]
    rw [sD_n,e3]
   have hgd:∀ b,guardA ops (sD F ops out s (fun _=>true) j) o=some b→guardA ops (sD F ops out s (fun i=>listed.getD i false) ops.size) o=some b:=by
    intro b h
    unfold guardA at h ⊢
    split at h
    ·exact h
    rename_i g want e
    split at h
    ·rename_i d hdd
     have:(sD F ops out s (fun i=>listed.getD i false) ops.size).get d=(sD F ops out s (fun _=>true) j).get d:=agree d (by
      unfold Oper.looksAt
      rw [e]
      simp [hdd])
     rw [this]
     exact h
    cases h
   have hsn:(sD F ops out s (fun i=>listed.getD i false) ops.size).n=s.n:=sD_n _ _ _ _
   obtain ⟨fd,fh⟩:=hfact j o hoj
   unfold onR
   rw [hoj]
   simp only
   rcases fh with ⟨hg,hdead,hw⟩ | ⟨hg,hloc⟩
   ·rw [guardA_wanted (P:=P) R (hgd _ hg)]
    simp only [Bool.false_eq_true,if_false]
    refine next m _ w ⟨_,R.put (fun t ht=>by rw [hsn]; exact fd t ht) (.p _ _ reads_un),fun t=>?_,?_,?_⟩ (by rw [put_defers]; exact hd)
    ·rw [get_put,hdead]
    ·rw [St.put_H,hw]; simp
    rw [St.put_n,hsn]
   rw [guardA_wanted (P:=P) R (hgd _ hg)]
   simp only [if_true]
   left
   have hag:Agree o (sD F ops out s (fun _=>true) j) (sD F ops out s (fun i=>listed.getD i false) ops.size):=by
    intro x hx
    cases x with
    | tmp t =>
     simp only [St.ev]
     refine agree t ?_
     unfold Oper.looksAt
     rw [List.mem_append]
     left
     rw [List.mem_filterMap]
     exact ⟨.tmp t,by simpa using hx,rfl⟩
    | _=>rfl
   have hn2:(sD F ops out s (fun i=>listed.getD i false) ops.size).n=(sD F ops out s (fun _=>true) j).n:=by rw [sD_n,sD_n]
   by_cases hT:F.T o=true
   ·refine hloc.here _ hn2 hag (agreeH hT) C m a w _ Q R fun v m' w' R' hv=>?_
    refine next m' _ w' ⟨_,R'.put (fun t ht=>by simp only; rw [hsn]; exact fd t ht) hv,fun t=>?_,?_,?_⟩ (by rw [put_defers]; exact hd)
    ·rw [get_put]; rfl
    ·rw [St.put_H]
     by_cases hw:F.W o=true
     ·rw [if_pos hw]
     rw [if_neg hw,agreeH hT]; exact hloc.calm (by simpa using hw)
    rw [St.put_n]; exact hsn
   obtain ⟨e1,e2⟩:=hloc.free (by simpa using hT)
   refine e2 _ hn2 hag C m a w _ Q R fun v m' w' R' hv=>?_
   have hw:F.W o=false:=by
    rw [Bool.eq_false_iff]
    exact fun hw=>hT (F.wt hw)
   refine next m' _ w' ⟨_,R'.put (fun t ht=>by simp only; rw [hsn]; exact fd t ht) hv,fun t=>?_,?_,?_⟩ (by rw [put_defers]; exact hd)
   ·rw [get_put]
   ·rw [St.put_H,hw]; simp
   rw [St.put_n]; exact hsn
 refine key ops.size (Array.replicate ops.size false) m a w (by simp) ?_ ?_ ?_ hd
 ·have:∀ i∈List.range ops.size,(!(Array.replicate ops.size false).getD i true)=true:=by
   intro i hi
   have hi:i < ops.size:=by simpa using hi
   simp [Array.getD_eq_getD_getElem?,hi]
  rw [List.countP_eq_length.2 this]
  simp
 ·intro j o hj
  exfalso
  simp only [Array.getD_eq_getD_getElem?,Array.getElem?_replicate] at hj
  split at hj<;>simp at hj
 refine R.congr (fun t=>?_) ?_ (sD_n _ _ _ _)
 ·refine sD_get_stay out s _ t 0 ops.size (Nat.zero_le _) fun i _ hi h=>?_
  simp only [Array.getD_eq_getD_getElem?,Array.getElem?_replicate] at h
  split at h<;>simp at h
 refine sD_H_stay out s _ 0 ops.size (Nat.zero_le _) fun i _ hi h=>?_
 simp only [Array.getD_eq_getD_getElem?,Array.getElem?_replicate] at h
 split at h<;>simp at h
end
def noGW (F:FW) (l:List Oper):Bool:=l.all fun o=>o.guard.isNone || !F.W o
def Runs (F:FW) (P:Program) (all:Array Oper) (rest:List Oper) (K:St→Prop) (s:St):Prop:=∃ s',Run1 F P true all rest s s'∧K s'
theorem hk_drawF {F:FW} {P:Program} {Q:Exit→St→Prop} {s:St} {id:Nat} {l:List Oper} (hm:P.follows .mixedOrders=true) (hok:(drawOK F l.toArray && noGW F l)=true) (h:∀ K:St→Prop,(∀ s',Q .normal s'→K s')→Runs F P l.toArray l K s):Holds P (.region id l.toArray true) Q s:=by
 intro r ds C m a w R hd
 rw [Bool.and_eq_true] at hok
 obtain ⟨s',hr,hK⟩:=h (Q .normal) fun _ h=>h
 refine wpR_region_any hm ?_
 refine draw_sound hok.1 (fun o ho hg=>?_) hr (R.later ⟨rfl,rfl,rfl,Nat.le_refl _,fun _ _=>rfl,Nat.le_succ _⟩) hd fun m' a' w' R' hd'=>⟨s',m',hK,R',hd'⟩
 have:=(List.all_eq_true.1 hok.2) o ho
 cases hgu:o.guard with
 | none=>exact absurd hgu hg
 | some g=>rw [hgu] at this; simpa using this
section
variable {F:FW} {P:Program} {all:Array Oper} {o:Oper} {rest:List Oper} {K:St→Prop} {s:St}
theorem runsF_nil (h:K s):Runs F P all [] K s:=⟨s,.nil s,h⟩
theorem runsF_op {T:TypeId→Option TI} (hT:∀ t ti,T t=some ti→tiOf P t=some ti) {r:OV} (h:opA T s o.op=some r) (hvc:r.vc) (hg:guardA all s o=some true) (hd:dstOk s o.dst) (hw:F.W o=isW o.op) (ht:F.T o=isT o.op)
  (hn:Runs F P all rest K (({ s with H:=r.H } : St).put o.dst r.av)):Runs F P all (o :: rest) K s:=by
 obtain ⟨s',hr,hK⟩:=hn
 have hl:=opA_loc hT h hvc
 exact ⟨s',.cons (.op s _ _ hg (dstOk_spec hd) (hl.here s rfl (fun _ _=>rfl) rfl) fun _=>⟨hl.here,fun hf=>hl.free (by rw [← ht]; exact hf),fun hf=>hl.calm (by rw [← hw]; exact hf)⟩) hr,hK⟩
theorem runsF_free {T:TypeId→Option TI} (hT:∀ t ti,T t=some ti→tiOf P t=some ti) {r:OV} (hc:clsA s o.op=some .f) (h:opA T s o.op=some r) (hvc:r.vc) (hg:guardA all s o=some true) (hd:dstOk s o.dst)
  (hn:Runs F P all rest K (s.put o.dst r.av)):Runs F P all (o :: rest) K s:=by
 obtain ⟨s',hr,hK⟩:=hn
 obtain ⟨h2,h3⟩:=opA_loc2 hT hc h hvc
 have h3:r.H=s.H:=h3
 have h2:∀ s2:St,s2.n=s.n→Agree o s s2→DoesW P o s2 r.av s2.H:=h2
 exact ⟨s',.cons (.op s _ _ hg (dstOk_spec hd) (h2 s rfl fun _ _=>rfl) fun _=>⟨fun s2 h1 ha hH=>by rw [← hH]; exact h2 s2 h1 ha,fun _=>⟨rfl,h2⟩,fun _=>rfl⟩) hr,hK⟩
theorem runsF_callM {dst:Option Tmp} {ty:TypeId} {pos:String} {aft:Array Edge} {gd:Option (Nat × Bool)} {fo:Operand} {args:Array Operand} {ts:Array TypeId} {g:FuncId} {avs:List AV} {H0 H1:Heap} {r:AV} (ks:List Nat)
  (hc:FnM P g avs H0 r H1) {cap:List PV} (hfo:s.ev fo = .p (.fn g cap)) (hg:guardA all s { dst:=dst,op:=.call { callee:=.value fo,args:=args,argTypes:=ts },type:=ty,pos:=pos,after:=aft,guard:=gd } = some true)
  (hargs:argsN ks (args.toList.map s.ev++cap.map .p) avs) (hle:LeH ks s.H ks H0) (hnd:ks.Nodup) (hks:ks.all (fun k=>decide (k < s.H.length))=true) (hsc:scM r H0 H1=true) (hd:dstOk s dst)
  (hw:F.W { dst:=dst,op:=.call { callee:=.value fo,args:=args,argTypes:=ts },type:=ty,pos:=pos,after:=aft,guard:=gd } = true)
  (h:Runs F P all rest K (({ s with H:=putM s.H ks (H1.map (Blk.ren (ks++List.range' s.H.length (H1.length - ks.length)))) } : St).put dst (Go.Pv.ren (ks++List.range' s.H.length (H1.length - ks.length)) r))) :
  Runs F P all ({ dst:=dst,op:=.call { callee:=.value fo,args:=args,argTypes:=ts },type:=ty,pos:=pos,after:=aft,guard:=gd } :: rest) K s:=by
 obtain ⟨s',hr,hK⟩:=h
 have key:∀ s2:St,s2.n=s.n→Agree { dst:=dst,op:=.call { callee:=.value fo,args:=args,argTypes:=ts },type:=ty,pos:=pos,after:=aft,guard:=gd } s s2→s2.H=s.H→DoesW P { dst:=dst,op:=.call { callee:=.value fo,args:=args,argTypes:=ts },type:=ty,pos:=pos,after:=aft,guard:=gd } s2 (Go.Pv.ren (ks++List.range' s.H.length (H1.length - ks.length)) r) (putM s.H ks (H1.map (Blk.ren (ks++List.range' s.H.length (H1.length - ks.length))))):=by
  intro s2 hn ha hH
  simp only [Agree,Op.operands,Call.operands] at ha
  have h1:s2.ev fo = .p (.fn g cap):=(ha fo (by simp)).trans hfo
  have h2:args.toList.map s2.ev=args.toList.map s.ev:=List.map_congr_left fun x hx=>ha x (by simp; right; simpa using hx)
  rw [← hH] at hle hks ⊢
  exact call_doesM rfl h1 hc (by rw [h2]; exact argsN_M hargs) hle hnd hks hsc
 refine ⟨s',.cons (.op s _ _ hg (dstOk_spec hd) (key s rfl (fun _ _=>rfl) rfl) fun _=>⟨key,fun hf=>?_,fun hf=>?_⟩) hr,hK⟩
 ·rw [F.wt hw] at hf; cases hf
 rw [hw] at hf; cases hf
end
end Go.Pv.Fw

namespace Go.Pv
open Go.RowKit Go.Proofs.Ytneglephfhiamaa
theorem ren1_comp {π ρ σ τ:List Nat} {L:Nat} (h:∀ i,i < L→π.getD (ρ.getD i 0) 0=σ.getD (τ.getD i 0) 0) {x:AV} (hx:sc1 L x=true):ren1 π (ren1 ρ x)=ren1 σ (ren1 τ x):=by
 cases x with
 | sl k a b=>simp only [sc1,decide_eq_true_eq] at hx; simp only [ren1]; rw [h k hx]
 | ptr k a=>simp only [sc1,decide_eq_true_eq] at hx; simp only [ren1]; rw [h k hx]
 | mptr k=>simp only [sc1,decide_eq_true_eq] at hx; simp only [ren1]; rw [h k hx]
 | sls k a b c=>simp only [sc1,decide_eq_true_eq] at hx; simp only [ren1]; rw [h k hx]
 | agg l=>cases hx
 | tup l=>cases hx
 | cl f l=>cases hx
 | yv k l v=>cases hx
 | _=>rfl
theorem ren_comp {π ρ σ τ:List Nat} {L:Nat} (h:∀ i,i < L→π.getD (ρ.getD i 0) 0=σ.getD (τ.getD i 0) 0) {x:AV} (hx:scA L x=true):Go.Pv.ren π (Go.Pv.ren ρ x)=Go.Pv.ren σ (Go.Pv.ren τ x):=by
 have lst:∀ l:List AV,l.all (sc1 L)=true→(l.map (ren1 ρ)).map (ren1 π)=(l.map (ren1 τ)).map (ren1 σ):=fun l hl=>by
  rw [List.map_map,List.map_map]
  exact List.map_congr_left fun y hy=>ren1_comp h ((List.all_eq_true.1 hl) y hy)
 cases x with
 | agg l=>simp only [Go.Pv.ren]; rw [lst l hx]
 | tup l=>simp only [Go.Pv.ren]; rw [lst l hx]
 | cl f l=>simp only [Go.Pv.ren]; rw [lst l hx]
 | yv k l v =>
  simp only [scA,Bool.and_eq_true,decide_eq_true_eq] at hx
  simp only [Go.Pv.ren]
  rw [lst l hx.2,h k hx.1]
 | _=>simp only [Go.Pv.ren]; exact ren1_comp h (by simpa only [scA] using hx)
theorem sc1_ren {ρ:List Nat} {L M:Nat} (h:∀ i,i < L→ρ.getD i 0 < M) {x:AV} (hx:sc1 L x=true):sc1 M (ren1 ρ x)=true:=by
 cases x with
 | sl k a b=>simp only [sc1,decide_eq_true_eq,ren1] at hx ⊢; exact h k hx
 | ptr k a=>simp only [sc1,decide_eq_true_eq,ren1] at hx ⊢; exact h k hx
 | mptr k=>simp only [sc1,decide_eq_true_eq,ren1] at hx ⊢; exact h k hx
 | sls k a b c=>simp only [sc1,decide_eq_true_eq,ren1] at hx ⊢; exact h k hx
 | agg l=>cases hx
 | tup l=>cases hx
 | cl f l=>cases hx
 | yv k l v=>cases hx
 | _=>rfl
theorem scA_ren {ρ:List Nat} {L M:Nat} (h:∀ i,i < L→ρ.getD i 0 < M) {x:AV} (hx:scA L x=true):scA M (Go.Pv.ren ρ x)=true:=by
 have lst:∀ l:List AV,l.all (sc1 L)=true→(l.map (ren1 ρ)).all (sc1 M)=true:=fun l hl=>by
  rw [List.all_eq_true]
  intro y hy
  obtain ⟨z,hz,rfl⟩:=List.mem_map.1 hy
  exact sc1_ren h ((List.all_eq_true.1 hl) z hz)
 cases x with
 | agg l=>exact lst l hx
 | tup l=>exact lst l hx
 | cl f l=>exact lst l hx
 | yv k l v =>
  simp only [scA,Bool.and_eq_true,decide_eq_true_eq,Go.Pv.ren] at hx ⊢
  exact ⟨h k hx.1,lst l hx.2⟩
 | sl k a b=>have:=sc1_ren h (x:=.sl k a b) (by simpa only [scA] using hx); simpa only [Go.Pv.ren,ren1,scA] using this
 | ptr k a=>have:=sc1_ren h (x:=.ptr k a) (by simpa only [scA] using hx); simpa only [Go.Pv.ren,ren1,scA] using this
 | mptr k=>have:=sc1_ren h (x:=.mptr k) (by simpa only [scA] using hx); simpa only [Go.Pv.ren,ren1,scA] using this
 | sls k a b c=>have:=sc1_ren h (x:=.sls k a b c) (by simpa only [scA] using hx); simpa only [Go.Pv.ren,ren1,scA] using this
 | _=>rfl
theorem hget_behind {Q H0:Heap} {ρ:List Nat} {i:Nat} (hi:i < H0.length):hget (Q++H0.map (Blk.ren ρ)) (Q.length + i)=Blk.ren ρ (hget H0 i):=by
 rw [hget_app2 (by omega),Nat.add_sub_cancel_left,hget_eq,List.getD_eq_getElem?_getD,List.getElem?_map,hget_eq,List.getD_eq_getElem?_getD,List.getElem?_eq_getElem hi]; rfl
theorem range'_getD {a n i:Nat} (h:i < n):(List.range' a n).getD i 0=a + i:=by simp [List.getD,List.getElem?_range' h]
theorem le_end {S s:St} {Q X Y:Heap} {π:List Nat} (hn:S.n=s.n) (hs:s.H=Q++X.map (Blk.ren (List.range' Q.length X.length))) (hS:S.H=Q++Y.map (Blk.ren (List.range' Q.length Y.length))) (hQ:∀ b∈Q,hsc Q.length b=true) (hQa:Q.all notAnc=true)
  (hπ:π.Nodup) (hπl:∀ k∈π,k < X.length) (hXY:LeH π X π Y) (hYa:Y.all notAnc=true) (hXs:∀ b∈X,hsc X.length b=true) (hsl:LeS (List.range Q.length++π.map (Q.length + ·)) S.sl s):Le (List.range Q.length++π.map (Q.length + ·)) S s:=by
 obtain ⟨hlen,hget1⟩:=hXY.get
 obtain ⟨a,ha⟩:∃ a,Q.length=a:=⟨_,rfl⟩
 obtain ⟨Rn,hRn⟩:∃ Rn,Rn=List.range Q.length++π.map (Q.length + ·):=⟨_,rfl⟩
 have hRl:Rn.length=a + Y.length:=by rw [hRn,List.length_append,List.length_range,List.length_map,hlen,ha]
 have p0:∀ i,i < a→Rn.getD i 0=i:=fun i hi=>by
  rw [hRn,ha,List.getD_eq_getElem?_getD,List.getElem?_append_left (by simpa using hi)]
  simp [hi]
 have p1:∀ i,i < Y.length→Rn.getD (a + i) 0=a + π.getD i 0:=fun i hi=>by
  rw [hRn,ha,List.getD_eq_getElem?_getD,List.getElem?_append_right (by simp),List.length_range,Nat.add_sub_cancel_left,List.getElem?_map]
  rw [List.getD_eq_getElem?_getD,List.getElem?_eq_getElem (by omega:i < π.length)]; rfl
 rw [← hRn] at hsl ⊢
 refine ⟨hn,?_,?_,hsl⟩
 ·rw [hRn,List.nodup_append]
  refine ⟨List.nodup_range,?_,fun x hx y hy=>?_⟩
  ·exact List.Pairwise.map _ (fun x y h e=>h (by omega)) hπ
  have:=List.mem_range.1 hx
  obtain ⟨z,_,rfl⟩:=List.mem_map.1 hy
  omega
 rw [hS]
 conv=>arg 3; rw [hRn]
 refine leH_app ?_ ?_
 ·refine leH_at (by simp) fun i hi=>?_
  have e:(List.range Q.length).getD i 0=i:=by simp [List.getD,hi]
  rw [e]
  have eb:hget s.H i=hget Q i:=by rw [hs,hget_app1 hi]
  have hm:hget Q i∈Q:=by rw [hget_eq,List.getD_eq_getElem?_getD,List.getElem?_eq_getElem hi]; exact List.getElem_mem hi
  have hb:=hQ _ hm
  have hna:=(List.all_eq_true.1 hQa) _ hm
  revert eb hb hna
  generalize hget Q i=b
  intro eb hb hna
  cases b with
  | own d =>
   simp only [LeB,eb]
   refine ⟨?_,List.all_eq_true.2 fun x hx=>scA_mn (by omega) ((List.all_eq_true.1 hb) x hx)⟩
   rw [List.take_of_length_le (Nat.le_refl _)]
   have:=List.map_congr_left (f:=Go.Pv.ren Rn) (g:=id) (l:=d) fun x hx=>ren_pre (L:=a) p0 (by rw [← ha]; exact (List.all_eq_true.1 hb) x hx)
   rw [this,List.map_id]
  | anc i j=>cases hna
  | dead=>trivial
  | _=>simp only [LeB,eb]
 refine leH_at (by simp [hlen]) fun i hi=>?_
 have hi:i < Y.length:=by simpa using hi
 have hiπ:i < π.length:=by omega
 have e:(π.map (Q.length + ·)).getD i 0=Q.length + π.getD i 0:=by
  rw [List.getD_eq_getElem?_getD,List.getElem?_map,List.getD_eq_getElem?_getD,List.getElem?_eq_getElem hiπ]; rfl
 have hk:π.getD i 0 < X.length:=by
  rw [List.getD_eq_getElem?_getD,List.getElem?_eq_getElem hiπ]
  exact hπl _ (List.getElem_mem hiπ)
 have eY:hget (Y.map (Blk.ren (List.range' Q.length Y.length))) i=Blk.ren (List.range' Q.length Y.length) (hget Y i):=by
  rw [hget_eq,List.getD_eq_getElem?_getD,List.getElem?_map,hget_eq,List.getD_eq_getElem?_getD,List.getElem?_eq_getElem hi]; rfl
 rw [e,eY]
 have eb:hget s.H (Q.length + π.getD i 0)=Blk.ren (List.range' Q.length X.length) (hget X (π.getD i 0)):=by rw [hs]; exact hget_behind hk
 have hm:hget Y i∈Y:=by rw [hget_eq,List.getD_eq_getElem?_getD,List.getElem?_eq_getElem hi]; exact List.getElem_mem hi
 have hna:=(List.all_eq_true.1 hYa) _ hm
 have hL:LeB π X (π.getD i 0) (hget Y i):=by
  obtain ⟨k',h1,h2⟩:=hget1 i (hget Y i) (by rw [hget_eq,List.getD_eq_getElem?_getD,List.getElem?_eq_getElem hi]; rfl)
  have:π.getD i 0=k':=by rw [List.getD_eq_getElem?_getD,h1]; rfl
  rw [this]; exact h2
 revert hna hL
 generalize hget Y i=b
 intro hna hL
 cases b with
 | own c =>
  simp only [LeB] at hL
  cases hX:hget X (π.getD i 0) with
  | own d =>
   rw [hX] at hL eb
   simp only [Blk.ren] at eb
   simp only at hL
   obtain ⟨h1,h2⟩:=hL
   simp only [Blk.ren,LeB,eb]
   refine ⟨?_,?_⟩
   ·rw [List.length_map,← List.map_take,← h1,List.map_map,List.map_map]
    refine List.map_congr_left fun x hx=>?_
    refine ren_comp (L:=Y.length) (fun j hj=>?_) (by rw [← hlen]; exact (List.all_eq_true.1 h2) x hx)
    have hjk:π.getD j 0 < X.length:=by
     rw [List.getD_eq_getElem?_getD,List.getElem?_eq_getElem (by omega:j < π.length)]
     exact hπl _ (List.getElem_mem (by omega))
    rw [range'_getD hj,range'_getD hjk,ha,p1 j hj]
   rw [List.all_eq_true]
   intro x hx
   obtain ⟨y,hy,rfl⟩:=List.mem_map.1 hx
   have hy:=(List.all_eq_true.1 h2) y hy
   rw [hlen] at hy
   refine scA_ren (L:=Y.length) (fun j hj=>?_) hy
   rw [range'_getD hj,hRl]; omega
  | _=>rw [hX] at hL; exact hL.elim
 | anc i j=>cases hna
 | dead=>trivial
 | fro c=>simp only [LeB] at hL; rw [hL] at eb; simp only [Blk.ren] at eb ⊢; simp only [LeB,eb]
 | mp kk d v=>simp only [LeB] at hL; rw [hL] at eb; simp only [Blk.ren] at eb ⊢; simp only [LeB,eb]
 | lp r=>simp only [LeB] at hL; rw [hL] at eb; simp only [Blk.ren] at eb ⊢; simp only [LeB,eb]
end Go.Pv
namespace Go.Pv
open Go.RowKit Go.Proofs.Ytneglephfhiamaa
theorem leH_end {H Q H0:Heap} (hH:H=Q++H0.map (Blk.ren (List.range' Q.length H0.length))) (h1:∀ b∈H0,hsc H0.length b=true) (h2:H0.all notAnc=true):LeH (List.range' Q.length H0.length) H (List.range' Q.length H0.length) H0:=by
 refine leH_at (by simp) fun i hi=>?_
 have eb:hget H (Q.length + i)=Blk.ren (List.range' Q.length H0.length) (hget H0 i):=by rw [hH]; exact hget_behind hi
 have hm:hget H0 i∈H0:=by rw [hget_eq,List.getD_eq_getElem?_getD,List.getElem?_eq_getElem hi]; exact List.getElem_mem hi
 have hb:=h1 _ hm
 have hna:=(List.all_eq_true.1 h2) _ hm
 rw [range'_getD hi]
 revert eb hb hna
 generalize hget H0 i=b
 intro eb hb hna
 cases b with
 | own d =>
  simp only [Blk.ren] at eb
  simp only [LeB,eb]
  refine ⟨?_,List.all_eq_true.2 fun x hx=>scA_mn (by simp) ((List.all_eq_true.1 hb) x hx)⟩
  rw [List.take_of_length_le (by simp)]
 | anc i j=>cases hna
 | dead=>trivial
 | _=>simp only [Blk.ren] at eb; simp only [LeB,eb]
theorem putM_end {H Q H0 H1:Heap} (hH:H=Q++H0.map (Blk.ren (List.range' Q.length H0.length))) (hl:H0.length≤H1.length) :
  putM H (List.range' Q.length H0.length) (H1.map (Blk.ren (List.range' Q.length H0.length++List.range' H.length (H1.length - (List.range' Q.length H0.length).length))))=Q++H1.map (Blk.ren (List.range' Q.length H1.length)) ∧
  List.range' Q.length H0.length++List.range' H.length (H1.length - (List.range' Q.length H0.length).length)=List.range' Q.length H1.length:=by
 have hsl:H.length=Q.length + H0.length:=by rw [hH]; simp
 have er:List.range' Q.length H0.length++List.range' H.length (H1.length - (List.range' Q.length H0.length).length)=List.range' Q.length H1.length:=by
  rw [List.length_range',hsl,List.range'_append_1]; congr 1; omega
 refine ⟨?_,er⟩
 rw [er,hH]
 obtain ⟨M,hM⟩:∃ M,H1.map (Blk.ren (List.range' Q.length H1.length))=M:=⟨_,rfl⟩
 have hMl:M.length=H1.length:=by rw [← hM]; simp
 rw [hM]
 have:=putM_pre0 (H0.map (Blk.ren (List.range' Q.length H0.length))) (M.take H0.length) Q [] (M.drop H0.length) (by simp; omega)
 rw [List.append_nil,List.take_append_drop,List.append_nil,List.length_map,List.append_assoc,List.take_append_drop] at this
 exact this
end Go.Pv
namespace Go.Proofs.Ytneglephfhiamaa
open Go.Pv
section
variable {G:List Mp} {U:List Int}
theorem runsF_place {F:Fw.FW} {s:St} {all:Array Oper} {rest:List Oper} {K:St→Prop} {dst:Option Tmp} {ty:TypeId} {pos:String} {aft:Array Edge} {gd:Option (Nat × Bool)} {fo:Operand} {args:Array Operand} {ts:Array TypeId} {Q:Heap}
  (hl:U.length=G.length) (hk:G.length≤100000000) (hfo:s.ev fo = .p (.fn 57 [])) (hg:guardA all s { dst:=dst,op:=.call { callee:=.value fo,args:=args,argTypes:=ts },type:=ty,pos:=pos,after:=aft,guard:=gd } = some true)
  (hH:s.H=Q++(GB G U).map (Blk.ren (List.range' Q.length (GB G U).length))) (hargs:args.toList.map s.ev=[.ptr Q.length 0]) (hd:dstOk s dst)
  (hw:F.W { dst:=dst,op:=.call { callee:=.value fo,args:=args,argTypes:=ts },type:=ty,pos:=pos,after:=aft,guard:=gd } = true)
  (h:Fw.Runs F Try.prog all rest K (({ s with H:=Q++(PB G U).map (Blk.ren (List.range' Q.length (PB G U).length)) } : St).put dst (.p (.int .i64 (U.length:Nat))))) :
  Fw.Runs F Try.prog all ({ dst:=dst,op:=.call { callee:=.value fo,args:=args,argTypes:=ts },type:=ty,pos:=pos,after:=aft,guard:=gd } :: rest) K s:=by
 have hlen:(GB G U).length≤(PB G U).length:=by rw [GB_len,PB_len]; omega
 obtain ⟨e1,e2⟩:=putM_end hH hlen
 refine Fw.runsF_callM (cap:=[]) (List.range' Q.length (GB G U).length) (place_c hl hk) hfo hg ?_ (leH_end hH (fun b hb=>(List.all_eq_true.1 GB_all) b hb) GB_na) (List.nodup_range' ..) ?_ PB_scM hd hw ?_
 ·rw [hargs]
  have h0:(List.range' Q.length (GB G U).length).getD 0 0=Q.length:=by rw [range'_getD (by rw [GB_len]; omega)]; rfl
  simp only [List.map_nil,List.append_nil,argsN,argN1,Go.Pv.ren,ren1,h0,scA,sc1,and_true,true_and]
  first|trivial|(simp [GB_len]; done)|trace_state
 ·rw [List.all_eq_true]
  intro k hk
  have:=List.mem_range'_1.1 hk
  have hsl:s.H.length=Q.length + (GB G U).length:=by rw [hH]; simp
  simp only [decide_eq_true_eq]; omega
 rw [e1,e2]
 exact h
end
end Go.Proofs.Ytneglephfhiamaa

namespace Go.Pv
open Go.RowKit Go.Proofs.Ytneglephfhiamaa
theorem hget_mid {Q H0 R:Heap} {ρ:List Nat} {i:Nat} (hi:i < H0.length):hget (Q++H0.map (Blk.ren ρ)++R) (Q.length + i)=Blk.ren ρ (hget H0 i):=by
 rw [hget_app1 (by simp; omega)]
 exact hget_behind hi
theorem leH_mid {H Q H0 R:Heap} (hH:H=Q++H0.map (Blk.ren (List.range' Q.length H0.length))++R) (h1:∀ b∈H0,hsc H0.length b=true) (h2:H0.all notAnc=true):LeH (List.range' Q.length H0.length) H (List.range' Q.length H0.length) H0:=by
 refine leH_at (by simp) fun i hi=>?_
 have eb:hget H (Q.length + i)=Blk.ren (List.range' Q.length H0.length) (hget H0 i):=by rw [hH]; exact hget_mid hi
 have hm:hget H0 i∈H0:=by rw [hget_eq,List.getD_eq_getElem?_getD,List.getElem?_eq_getElem hi]; exact List.getElem_mem hi
 have hb:=h1 _ hm
 have hna:=(List.all_eq_true.1 h2) _ hm
 rw [range'_getD hi]
 revert eb hb hna
 generalize hget H0 i=b
 intro eb hb hna
 cases b with
 | own d =>
  simp only [Blk.ren] at eb
  simp only [LeB,eb]
  refine ⟨?_,List.all_eq_true.2 fun x hx=>scA_mn (by simp) ((List.all_eq_true.1 hb) x hx)⟩
  rw [List.take_of_length_le (by simp)]
 | anc i j=>cases hna
 | dead=>trivial
 | _=>simp only [Blk.ren] at eb; simp only [LeB,eb]
theorem setL_mid {Q X Y R:Heap} (h:Y.length=X.length):setL (Q++X++R) ((List.range' Q.length X.length).zip Y)=Q++Y++R:=by
 rw [← putM_zip _ _ _ (List.nodup_range' ..) (by simp [h])]
 have:=putM_pre0 X Y Q R [] (by omega)
 simpa using this
end Go.Pv
namespace Go.Proofs.Ytneglephfhiamaa
open Go.Pv
section
variable {G:List Mp} {U:List Int}
theorem runs2_ofM {s:St} {all:Array Oper} {rest:List Oper} {K:St→List I2→Prop} {acc:List I2} {dst:Option Tmp} {ty:TypeId} {pos:String} {aft:Array Edge} {gd:Option (Nat × Bool)} {fo:Operand} {args:Array Operand} {ts:Array TypeId} {Q R:Heap}
  (w:WG G U) (hk:G.length≤100000000) {v:Nat} (hv:v < G.length) {z:Int} (hz:z=v) (hfo:s.ev fo = .p (.fn 56 [])) (hg:guardA all s { dst:=dst,op:=.call { callee:=.value fo,args:=args,argTypes:=ts },type:=ty,pos:=pos,after:=aft,guard:=gd } = some true)
  (hH:s.H=Q++(GB G U).map (Blk.ren (List.range' Q.length (GB G U).length))++R) (hargs:args.toList.map s.ev=[.ptr Q.length 0,.p (.int .i64 z)]) (hd:dstOk s dst)
  (h:Runs2 Try.prog all rest K (({ s with H:=Q++(GB G (ofU U v)).map (Blk.ren (List.range' Q.length (GB G U).length))++R } : St).put dst (.p (.int .i64 (rV U v:Nat)))) (acc++[⟨.ms ((List.range' Q.length (GB G U).length).zip ((GB G (ofU U v)).map (Blk.ren (List.range' Q.length (GB G U).length)))),.p (.int .i64 (rV U v:Nat)),.dead,false⟩])) :
  Runs2 Try.prog all ({ dst:=dst,op:=.call { callee:=.value fo,args:=args,argTypes:=ts },type:=ty,pos:=pos,after:=aft,guard:=gd } :: rest) K s acc:=by
 subst hz
 have hsl:s.H.length=Q.length + (GB G U).length + R.length:=by rw [hH]; simp; omega
 have e1:setL s.H ((List.range' Q.length (GB G U).length).zip ((GB G (ofU U v)).map (Blk.ren (List.range' Q.length (GB G U).length))))=Q++(GB G (ofU U v)).map (Blk.ren (List.range' Q.length (GB G U).length))++R:=by
  rw [hH]
  have:=setL_mid (Q:=Q) (R:=R) (X:=(GB G U).map (Blk.ren (List.range' Q.length (GB G U).length))) (Y:=(GB G (ofU U v)).map (Blk.ren (List.range' Q.length (GB G U).length))) (by simp [GB_len])
  rwa [List.length_map] at this
 refine runs2_callM (cap:=[]) (List.range' Q.length (GB G U).length) (of_w w hk hv) (by simp [GB_len]) hfo hg ?_ (leH_mid hH (fun b hb=>(List.all_eq_true.1 GB_all) b hb) GB_na) (List.nodup_range' ..) (fun k hk=>?_) GB_scM hd ?_
 ·rw [hargs]
  have h0:(List.range' Q.length (GB G U).length).getD 0 0=Q.length:=by rw [range'_getD (by rw [GB_len]; omega)]; rfl
  simp only [List.map_nil,List.append_nil,argsN,argN1,Go.Pv.ren,ren1,h0,scA,sc1,and_true,true_and]
  first|trivial|(simp [GB_len]; done)|trace_state
 ·have:=List.mem_range'_1.1 hk
  omega
 rw [e1]
 exact h
end
end Go.Proofs.Ytneglephfhiamaa

namespace Go.Pv
open Go.RowKit
theorem arrEq2_does {P:Program} {T:TypeId→Option TI} {s:St} (hT:∀ t ti,T t=some ti→tiOf P t=some ti) {o:Oper} {t u:TypeId} {x y:Operand} (ho:o.op = .binOp .eql t x y u) {ti te:TI} (ht:T t=some ti) {e:TypeId} (hk:ti.kind = .array 2 e) (hte:T e=some te) (hki:te.kind = .int .i64) (hsz:te.size=1)
  {a b a' b' : Int} (hx:s.ev x = .p (.agg [.int .i64 a,.int .i64 b])) (hy:s.ev y = .p (.agg [.int .i64 a',.int .i64 b'])) (hge:P.eqGuardType P.depth t=false):DoesW P o s (.p (.bool (a == a' && b == b'))) s.H:=by
 intro C m ac w K Q R hK
 have get:∀ {z:Operand} {a b:Int},s.ev z = .p (.agg [.int .i64 a,.int .i64 b])→ac.eval z = .agg #[.int .i64 a,.int .i64 b]:=by
  intro z a b hz
  have h:=R.ev z
  rw [hz] at h
  generalize ac.eval z=v at h
  have h:=h.p_inv
  cases h with
  | agg _ vs hl hr =>
   have h0:=(hr 0 (by simp)).int_inv
   have h1:=(hr 1 (by simp)).int_inv
   congr 1
   simp only [List.length_cons,List.length_nil] at hl
   apply Array.ext
   ·simp [hl]
   intro i hi1 hi2
   match i,hi2 with
   | 0,_=>simpa [Array.getD_eq_getD_getElem?,hl] using h0
   | 1,_=>simpa [Array.getD_eq_getD_getElem?,hl] using h1
 have ex:=get hx
 have ey:=get hy
 have hu:=ti_array (hT _ _ ht) hk
 have hue:=ti_int (hT _ _ hte) hki
 obtain ⟨i,de,z,h1,h2,h3,h4,h5,h6,h7,h8⟩:=tiOf_parts (hT _ _ hte)
 have hce:P.cellsOf e=1:=by simp [Program.cellsOf,h1,h4,hsz]
 have ag:∀ w,(isAgg e).run P w = .ok false w:=fun w=>by simp [isAgg,run_underlying hue]
 have q0:∀ (x y:Value) w,(part e #[x,y] 0).run P w = .ok x w:=fun x y w=>by simp [part,ag]
 have q1:∀ (x y:Value) w,(part e #[x,y] 1).run P w = .ok y w:=fun x y w=>by simp [part,ag]
 have en:∀ (p q:Int) w,(Op.equalIn 9999 e (.int .i64 p) (.int .i64 q)).run P w = .ok (p == q) w:=fun p q w=>run_equalIn_num 9998 hue p q w
 have hr:(Op.equalIn 10000 t (.agg #[.int .i64 a,.int .i64 b]) (.agg #[.int .i64 a',.int .i64 b'])).run P w = .ok (a == a' && b == b') w:=by
  rw [run_equalIn_array w 9999 _ _ hu h1,hce]
  simp only [show List.range 2=[0,1] from rfl,Op.eqItems,Sem.run_bind,q0,q1,Result.andThen_ok,Nat.zero_mul,Nat.one_mul,Nat.mul_one,en]
  cases h1:(a == a')<;>cases h2:(b == b')<;>simp [q1,en,h2]
 have hgg:(eqGuard .eql t x y (.agg #[.int .i64 a,.int .i64 b]) (.agg #[.int .i64 a',.int .i64 b'])).run P w = .ok () w:=by
  unfold eqGuard
  split<;>simp [hge]
 have hrun:(execOp ac.eval o).run P w = .ok (.value (.bool (a == a' && b == b'))) w:=by
  simp only [execOp,ho,ex,ey,hgg,Sem.run_bind,Result.andThen_ok,run_eql_struct,hr,Sem.run_pure]
 refine opR_of_wp (by first|rfl|(rw [ho]; rfl)) ?_
 unfold Oper.wp
 rw [hrun]
 exact hK _ m w R (.p _ _ (.bool _))
theorem arrEq2_loc {P:Program} {T:TypeId→Option TI} {s:St} (hT:∀ t ti,T t=some ti→tiOf P t=some ti) {o:Oper} {t u:TypeId} {x y:Operand} (ho:o.op = .binOp .eql t x y u) {ti te:TI} (ht:T t=some ti) {e:TypeId} (hk:ti.kind = .array 2 e) (hte:T e=some te) (hki:te.kind = .int .i64) (hsz:te.size=1)
  {a b a' b' : Int} (hx:s.ev x = .p (.agg [.int .i64 a,.int .i64 b])) (hy:s.ev y = .p (.agg [.int .i64 a',.int .i64 b'])) (hge:P.eqGuardType P.depth t=false):Loc1 P o s (.p (.bool (a == a' && b == b'))) s.H:=by
 have hx2:x∈o.op.operands:=by rw [ho]; simp [Op.operands]
 have hy2:y∈o.op.operands:=by rw [ho]; simp [Op.operands]
 have D:∀ s2:St,Agree o s s2→DoesW P o s2 (.p (.bool (a == a' && b == b'))) s2.H:=fun s2 ha=>arrEq2_does hT ho ht hk hte hki hsz ((ha _ hx2).trans hx) ((ha _ hy2).trans hy) hge
 exact ⟨fun s2 hn ha hH=>by rw [← hH]; exact D s2 ha,fun _=>⟨rfl,fun s2 hn ha=>D s2 ha⟩,fun _=>rfl⟩
end Go.Pv

namespace Go.Proofs.Ytneglephfhiamaa
open Go.Pv
def pwl (q:List (Nat × Nat)):List PV:=q.map fun p=>PV.agg [.int .i64 p.1,.int .i64 p.2]
def pf (q:List (Nat × Nat)):List AV:=opl (flat (pwl q))
theorem pf_app (q r:List (Nat × Nat)):pf (q++r)=pf q++pf r:=by unfold pf pwl; rw [List.map_append,flat_append,opl_append]
theorem pf_one (p:Nat × Nat):pf [p]=[.p (.int .i64 p.1),.p (.int .i64 p.2)]:=rfl
theorem pf_len (q:List (Nat × Nat)):(pf q).length=q.length * 2:=by
 induction q with
 | nil=>rfl
 | cons p r ih=>rw [show p :: r=[p]++r from rfl,pf_app,List.length_append,ih,pf_one]; simp; omega
theorem pf_at {q:List (Nat × Nat)} {k:Nat} (h:k < q.length):((pf q).drop (k * 2)).take 2=[.p (.int .i64 (q.getD k (0,0)).1),.p (.int .i64 (q.getD k (0,0)).2)]:=by
 have hs:q=q.take k++(q.getD k (0,0) :: q.drop (k + 1)):=by
  rw [List.getD_eq_getElem?_getD,List.getElem?_eq_getElem h]
  have:=List.drop_eq_getElem_cons h
  simp only [Option.getD_some]
  rw [← this,List.take_append_drop]
 have hl:(pf (q.take k)).length=k * 2:=by rw [pf_len,List.length_take,Nat.min_eq_left (by omega)]
 obtain ⟨t,ht⟩:∃ t,q.getD k (0,0)=t:=⟨_,rfl⟩
 rw [ht] at hs ⊢
 have e1:pf q=pf (q.take k)++(pf [t]++pf (q.drop (k + 1))):=by
  conv=>lhs; rw [hs]
  rw [pf_app,← pf_app [t]]; rfl
 rw [e1,← hl,List.drop_left,pf_one]
 rfl
theorem pf_ok (q:List (Nat × Nat)):(pf q).all cellOk=true:=by
 rw [List.all_eq_true]
 intro x hx
 induction q with
 | nil=>cases hx
 | cons p r ih =>
  rw [show p :: r=[p]++r from rfl,pf_app,pf_one] at hx
  rcases List.mem_append.1 hx with h | h
  ·rcases List.mem_cons.1 h with rfl | h
   ·rfl
   rw [List.mem_singleton.1 h]; rfl
  exact ih h
theorem pf_sc (L:Nat) (q:List (Nat × Nat)):(pf q).all (scA L)=true:=opl_sc _ _
theorem pf_ren (π:List Nat) (q:List (Nat × Nat)):(pf q).map (Go.Pv.ren π)=pf q:=opl_ren _ _
set_option maxHeartbeats 4000000 in
set_option maxRecDepth 20000 in
theorem at_old (q:List (Nat × Nat)) (a b:Nat) (hl:q.length≤1000000) (hn:q.Nodup) (hm:(a,b)∈q):FnM Try.prog 59 [.p (.agg [.int .i64 a,.int .i64 b]),.ptr 0 0] [.own [.sls 1 0 q.length 2],.own (pf q)] (.p (.int .i64 (q.idxOf (a,b):Nat))) [.own [.sls 1 0 q.length 2],.own (pf q)]:=by
 refine fnm_of tab_ok Try.func59 rfl (by kernel_rfl) (by rw [Try.ntmps59]; exact Nat.le_add_left 2 _) ?_; rw [Try.ntmps59]; simp only [ancs,entA,List.length_cons,List.length_nil,List.cons_append,List.nil_append,Nat.reduceAdd,Nat.zero_add]
 refine qm ?_
 refine hk_region fun K hK=>runs_eval tab_ok ?_
 simp only [evz,fl,gp,tab,simprocAttr]
 refine fin_run ?_ (hK _ ?_)<;>clear hK K
 ·(first|exact trivial|omega|(simp only [In64] at *; omega)|(simp [In64] at *; omega)|(simp_all; done)|skip)
 refine qa (qm (qm ?_))
 refine hk_region fun K hK=>runs_eval tab_ok ?_
 simp only [evz,fl,gp,tab,simprocAttr]
 refine fin_run trivial (hK _ ?_)<;>clear hK K
 refine qa (ql ?_)
 refine hk_loop (ι:=Nat) (fun i=>⟨25,[(1,.ptr 0 0),(2,.ptr 4 0),(4,.p (.int .i64 (i:Nat)))],[.own [.sls 1 0 q.length 2],.own (pf q),.anc 0 0,.anc 1 1,.own [.p (.int .i64 a),.p (.int .i64 b)]]⟩) (fun i=>i≤q.length∧∀ j,j < i→q.getD j (0,0) ≠ (a,b)) (fun i=>q.length - i) 0 ⟨Nat.zero_le _,fun j hj=>absurd hj (Nat.not_lt_zero _)⟩ [0,1,2,3,4] (by simp only [leq,leA,evz,fl,gp,tab,simprocAttr,pf_ren,pf_sc]<;>trivial) fun i hi=>?_
 obtain ⟨i1,i2⟩:=hi
 refine qm (qm ?_)
 refine hk_region fun K hK=>runs_eval tab_ok ?_
 simp only [evz,fl,gp,tab,simprocAttr]
 refine fin_stop ?_ (runs_op (lenS_does tab_ok rfl rfl rfl rfl) rfl (by simp only [dstOk,Nat.reduceLT]) (runs_eval tab_ok ?_))
 ·(first|exact trivial|omega|(simp only [In64] at *; omega)|(simp [In64] at *; omega)|(simp_all; done)|skip)
 simp only [evz,fl,gp,tab,simprocAttr]
 refine fin_run ?_ (hK _ ?_)<;>clear hK K
 ·(first|exact trivial|omega|(simp only [In64] at *; omega)|(simp [In64] at *; omega)|(simp_all; done)|skip)
 refine qa ?_
 refine hk_cond rfl (fun hC1=>?_) (fun hC1=>?_)
 ·(try simp only [nhs] at hC1)
  have hi:i < q.length:=by omega
  have hat:=pf_at hi
  obtain ⟨p,hp⟩:∃ p,q.getD i (0,0)=p:=⟨_,rfl⟩
  rw [hp] at hat
  have hpm:p∈q:=by rw [← hp]; exact q_mem hi
  obtain ⟨pa,pb⟩:=p
  refine qh (qa (qm (ql (qm ?_))))
  refine hk_draw mixed (by kernel_rfl) fun K hK=>runs_eval tab_ok ?_
  simp only [evz,fl,gp,tab,simprocAttr,Int.toNat_natCast,Nat.zero_add,hat]
  refine fin_stop ?_ (runs_opD (idxS_loc tab_ok rfl rfl rfl rfl rfl rfl rfl (by omega) (by omega)) rfl (by simp only [dstOk,Nat.reduceLT]) (runs_eval tab_ok ?_))
  ·first|trivial|(rw [pf_len]; omega)
  simp only [evz,fl,gp,tab,simprocAttr,Int.toNat_natCast,Nat.zero_add,hat]
  refine fin_stop ?_ (runs_opD (arrEq2_loc tab_ok rfl rfl rfl rfl rfl rfl rfl rfl (by kernel_rfl)) rfl (by simp only [dstOk,Nat.reduceLT]) (runs_eval tab_ok ?_))
  ·first|trivial|(rw [pf_len]; omega)
  simp only [evz,fl,gp,tab,simprocAttr,Int.toNat_natCast,Nat.zero_add,hat]
  refine fin_run ?_ (hK _ ?_)<;>clear hK K
  ·(first|exact trivial|omega|(simp only [In64] at *; omega)|(simp [In64] at *; omega)|(simp_all; done)|skip)
  refine qa ?_
  refine hk_cond rfl (fun hC2=>?_) (fun hC2=>?_)
  ·(try simp only [nhs] at hC2)
   have h2:pa=a∧pb=b:=by
    first
    | omega
    | (simp only [Bool.and_eq_true,decide_eq_true_eq] at hC2; omega)
    | (simp at hC2; omega)
   obtain ⟨rfl,rfl⟩:=h2
   have hix:q.idxOf (pa,pb)=i:=by rw [← hp]; exact qix hn hi
   refine qm ?_
   refine hk_region fun K hK=>runs_eval tab_ok ?_
   simp only [evz,fl,gp,tab,simprocAttr]
   refine fin_run trivial (hK _ ?_)<;>clear hK K
   refine qa (qk (qe (qb (qb (qe (qb ?_))))))
   simp only [Try.results59,PostG,endG,rvsA,rvA,mkTup,evz,fl,gp,tab,simprocAttr]
   rw [hix]
   refine ⟨[0,1,2,3],rfl,rfl,?_⟩
   simp only [leq,leA,evz,fl,gp,tab,simprocAttr,pf_ren,pf_sc]<;>trivial
  (try simp only [nhs] at hC2)
  refine qh (qd (qa ?_))
  refine hk_region fun K hK=>runs_eval tab_ok ?_
  simp only [evz,fl,gp,tab,simprocAttr]
  refine fin_run ?_ (hK _ ?_)<;>clear hK K
  ·(first|exact trivial|omega|(simp only [In64] at *; omega)|(simp [In64] at *; omega)|(simp_all; done)|skip)
  refine qa ?_
  have h2:¬ (pa=a∧pb=b):=by
   intro ⟨e1,e2⟩
   rw [e1,e2] at hC2
   simp at hC2
  refine ⟨i + 1,[0,1,2,3,4],⟨by omega,fun j hj=>?_⟩,by omega,by simp only [leq,leA,evz,fl,gp,tab,simprocAttr,pf_ren,pf_sc]<;>trivial⟩
  by_cases hji:j < i
  ·exact i2 j hji
  obtain rfl:j=i:=by omega
  rw [hp]
  intro e
  cases e
  exact h2 ⟨rfl,rfl⟩
 (try simp only [nhs] at hC1)
 have hie:i=q.length:=by omega
 obtain ⟨h1,h2⟩:=ixq hm
 exact absurd h2 (i2 _ (by omega))
set_option maxHeartbeats 4000000 in
set_option maxRecDepth 20000 in
theorem at_new (q:List (Nat × Nat)) (a b:Nat) (hl:q.length≤1000000) (hm:(a,b) ∉ q):FnM Try.prog 59 [.p (.agg [.int .i64 a,.int .i64 b]),.ptr 0 0] [.own [.sls 1 0 q.length 2],.own (pf q)] (.p (.int .i64 (q.length:Nat))) [.own [.sls 2 0 (q.length + 1) 2],.dead,.own (pf (q++[(a,b)]))]:=by
 refine fnm_of tab_ok Try.func59 rfl (by kernel_rfl) (by rw [Try.ntmps59]; exact Nat.le_add_left 2 _) ?_; rw [Try.ntmps59]; simp only [ancs,entA,List.length_cons,List.length_nil,List.cons_append,List.nil_append,Nat.reduceAdd,Nat.zero_add]
 refine qm ?_
 refine hk_region fun K hK=>runs_eval tab_ok ?_
 simp only [evz,fl,gp,tab,simprocAttr]
 refine fin_run ?_ (hK _ ?_)<;>clear hK K
 ·(first|exact trivial|omega|(simp only [In64] at *; omega)|(simp [In64] at *; omega)|(simp_all; done)|skip)
 refine qa (qm (qm ?_))
 refine hk_region fun K hK=>runs_eval tab_ok ?_
 simp only [evz,fl,gp,tab,simprocAttr]
 refine fin_run trivial (hK _ ?_)<;>clear hK K
 refine qa (ql ?_)
 refine hk_loop (ι:=Nat) (fun i=>⟨25,[(1,.ptr 0 0),(2,.ptr 4 0),(4,.p (.int .i64 (i:Nat)))],[.own [.sls 1 0 q.length 2],.own (pf q),.anc 0 0,.anc 1 1,.own [.p (.int .i64 a),.p (.int .i64 b)]]⟩) (fun i=>i≤q.length∧∀ j,j < i→q.getD j (0,0) ≠ (a,b)) (fun i=>q.length - i) 0 ⟨Nat.zero_le _,fun j hj=>absurd hj (Nat.not_lt_zero _)⟩ [0,1,2,3,4] (by simp only [leq,leA,evz,fl,gp,tab,simprocAttr,pf_ren,pf_sc]<;>trivial) fun i hi=>?_
 obtain ⟨i1,i2⟩:=hi
 refine qm (qm ?_)
 refine hk_region fun K hK=>runs_eval tab_ok ?_
 simp only [evz,fl,gp,tab,simprocAttr]
 refine fin_stop ?_ (runs_op (lenS_does tab_ok rfl rfl rfl rfl) rfl (by simp only [dstOk,Nat.reduceLT]) (runs_eval tab_ok ?_))
 ·(first|exact trivial|omega|(simp only [In64] at *; omega)|(simp [In64] at *; omega)|(simp_all; done)|skip)
 simp only [evz,fl,gp,tab,simprocAttr]
 refine fin_run ?_ (hK _ ?_)<;>clear hK K
 ·(first|exact trivial|omega|(simp only [In64] at *; omega)|(simp [In64] at *; omega)|(simp_all; done)|skip)
 refine qa ?_
 refine hk_cond rfl (fun hC1=>?_) (fun hC1=>?_)
 ·(try simp only [nhs] at hC1)
  have hi:i < q.length:=by omega
  have hat:=pf_at hi
  obtain ⟨p,hp⟩:∃ p,q.getD i (0,0)=p:=⟨_,rfl⟩
  rw [hp] at hat
  have hpm:p∈q:=by rw [← hp]; exact q_mem hi
  obtain ⟨pa,pb⟩:=p
  refine qh (qa (qm (ql (qm ?_))))
  refine hk_draw mixed (by kernel_rfl) fun K hK=>runs_eval tab_ok ?_
  simp only [evz,fl,gp,tab,simprocAttr,Int.toNat_natCast,Nat.zero_add,hat]
  refine fin_stop ?_ (runs_opD (idxS_loc tab_ok rfl rfl rfl rfl rfl rfl rfl (by omega) (by omega)) rfl (by simp only [dstOk,Nat.reduceLT]) (runs_eval tab_ok ?_))
  ·first|trivial|(rw [pf_len]; omega)
  simp only [evz,fl,gp,tab,simprocAttr,Int.toNat_natCast,Nat.zero_add,hat]
  refine fin_stop ?_ (runs_opD (arrEq2_loc tab_ok rfl rfl rfl rfl rfl rfl rfl rfl (by kernel_rfl)) rfl (by simp only [dstOk,Nat.reduceLT]) (runs_eval tab_ok ?_))
  ·first|trivial|(rw [pf_len]; omega)
  simp only [evz,fl,gp,tab,simprocAttr,Int.toNat_natCast,Nat.zero_add,hat]
  refine fin_run ?_ (hK _ ?_)<;>clear hK K
  ·(first|exact trivial|omega|(simp only [In64] at *; omega)|(simp [In64] at *; omega)|(simp_all; done)|skip)
  refine qa ?_
  refine hk_cond rfl (fun hC2=>?_) (fun hC2=>?_)
  ·(try simp only [nhs] at hC2)
   have h2:pa=a∧pb=b:=by
    first
    | omega
    | (simp only [Bool.and_eq_true,decide_eq_true_eq] at hC2; omega)
    | (simp at hC2; omega)
   obtain ⟨rfl,rfl⟩:=h2
   exact absurd hpm hm
  (try simp only [nhs] at hC2)
  refine qh (qd (qa ?_))
  refine hk_region fun K hK=>runs_eval tab_ok ?_
  simp only [evz,fl,gp,tab,simprocAttr]
  refine fin_run ?_ (hK _ ?_)<;>clear hK K
  ·(first|exact trivial|omega|(simp only [In64] at *; omega)|(simp [In64] at *; omega)|(simp_all; done)|skip)
  refine qa ?_
  have h2:¬ (pa=a∧pb=b):=by
   intro ⟨e1,e2⟩
   rw [e1,e2] at hC2
   simp at hC2
  refine ⟨i + 1,[0,1,2,3,4],⟨by omega,fun j hj=>?_⟩,by omega,by simp only [leq,leA,evz,fl,gp,tab,simprocAttr,pf_ren,pf_sc]<;>trivial⟩
  by_cases hji:j < i
  ·exact i2 j hji
  obtain rfl:j=i:=by omega
  rw [hp]
  intro e
  cases e
  exact h2 ⟨rfl,rfl⟩
 (try simp only [nhs] at hC1)
 have e0:((pf q).drop 0).take (q.length * 2)=pf q:=by rw [List.drop_zero]; exact List.take_of_length_le (by rw [pf_len]; exact Nat.le_refl _)
 have e1:(pf q).take (q.length * 2)++opl (flat [PV.agg [.int .i64 a,.int .i64 b]])=pf (q++[(a,b)]):=by
  rw [List.drop_zero] at e0
  rw [e0,pf_app,pf_one]; rfl
 refine qj (qc (qc (qf (qa (qm ?_)))))
 refine hk_region fun K hK=>runs_eval tab_ok ?_
 simp only [evz,fl,gp,tab,simprocAttr,e1]
 refine fin_stop ?_ (runs_op (appS_does (sz:=2) (k:=1) (lo:=0) (len:=q.length) (c:=pf q) (l:=[PV.agg [.int .i64 a,.int .i64 b]]) tab_ok rfl rfl rfl rfl rfl rfl (by decide) (by decide) rfl rfl rfl (by intro x hx; simp at hx; subst hx; rfl) (by intro x hx; simp at hx; subst hx; rfl) (show 0 < 1 by decide) (by rw [pf_len]; omega) (by rw [e0]; exact pf_ok _) (by show (q.length + 1) * 16≤_; omega) (by show (q.length + 1) * 2≤_; omega) (by show q.length + 1≤_; omega)) rfl (by simp only [dstOk,Nat.reduceLT]) (runs_eval tab_ok ?_))
 ·(first|exact trivial|omega|(simp only [In64] at *; omega)|(simp [In64] at *; omega)|(simp_all; done)|skip)
 simp only [evz,fl,gp,tab,simprocAttr,e1]
 refine fin_run ?_ (hK _ ?_)<;>clear hK K
 ·(first|exact trivial|omega|(simp only [In64] at *; omega)|(simp [In64] at *; omega)|(simp_all; done)|skip)
 refine qa (qm ?_)
 refine hk_region fun K hK=>runs_eval tab_ok ?_
 simp only [evz,fl,gp,tab,simprocAttr]
 refine fin_stop ?_ (runs_op (lenS_does tab_ok rfl rfl rfl rfl) rfl (by simp only [dstOk,Nat.reduceLT]) (runs_eval tab_ok ?_))
 ·(first|exact trivial|omega|(simp only [In64] at *; omega)|(simp [In64] at *; omega)|(simp_all; done)|skip)
 simp only [evz,fl,gp,tab,simprocAttr]
 refine fin_run ?_ (hK _ ?_)<;>clear hK K
 ·(first|exact trivial|omega|(simp only [In64] at *; omega)|(simp [In64] at *; omega)|(simp_all; done)|skip)
 refine qa (qk ?_)
 simp only [Try.results59,PostG,endG,rvsA,rvA,mkTup,evz,fl,gp,tab,simprocAttr]
 have en:((q.length + 1:Nat):Int) - 1=(q.length:Int):=by omega
 rw [en]
 refine ⟨[0,1,5,2,3],rfl,rfl,?_⟩
 simp only [leq,leA,evz,fl,gp,tab,simprocAttr,pf_ren,pf_sc]<;>first|trivial|trace_state
end Go.Proofs.Ytneglephfhiamaa

namespace Go.Proofs.Ytneglephfhiamaa
open Go.Pv
def GM (k:Nat) (G:List Mp) (U:List Int):Heap:=(GB G U).map (Blk.ren (List.range' k (GB G U).length))
def mpK (k n:Nat):List AV:=(List.range n).map fun i=>.mptr (k + 3 + i)
theorem GM_len (k:Nat) (G:List Mp) (U:List Int):(GM k G U).length=G.length + 3:=by unfold GM; rw [List.length_map,GB_len]
theorem GM_eq (k:Nat) (G:List Mp) (U:List Int):GM k G U = .own [.sl (k + 1) 0 G.length,.sl (k + 2) 0 U.length] :: .own (mpK k G.length) :: .own (ol U) :: G.map mpB:=by
 unfold GM
 rw [GB_len]
 unfold GB
 simp only [List.map_cons,List.map_map,Blk.ren,Go.Pv.ren,ren1,List.map_nil,ol_ren]
 rw [range'_getD (by omega),range'_getD (by omega)]
 congr 1
 congr 1
 congr 1
 unfold mps mpK
 rw [List.map_map]
 refine List.map_congr_left fun i hi=>?_
 have:=List.mem_range.1 hi
 simp only [Function.comp,Go.Pv.ren,ren1]
 rw [range'_getD (by omega)]
 congr 1
 omega
theorem mpK_get {k n a:Nat} (h:a < n) (x:AV):(mpK k n).getD a x = .mptr (k + 3 + a):=by
 simp [mpK,List.getD,List.getElem?_map,List.getElem?_range h]
theorem mpK_len (k n:Nat):(mpK k n).length=n:=by simp [mpK]
def mpC (f:Mp):Blk:=.mp .i8 (fun z=>(f z).isSome) (fun z=>.int .i64 ((f z).getD 0))
theorem mpC_upd (f:Mp) (z x:Int):Blk.mp .i8 (fun u=>u == z || (f u).isSome) (fun u=>bif u == z then .int .i64 x else .int .i64 ((f u).getD 0))=mpC (updM f z x):=by
 unfold mpC updM
 congr 1
 ·funext u
  by_cases h:u=z
  ·simp [h]
  simp [h]
 funext u
 by_cases h:u=z
 ·simp [h]
 have:(u == z)=false:=by simpa using h
 simp [h,this]
def rb0:Blk:=.own [.p (.int .i64 0),.p (.int .i64 0)]
def P3 (A:List Mp) (Ua:List Int) (B:List Mp) (Ub:List Int):Heap:=rb0 :: (GM 1 A Ua++GM (A.length + 4) B Ub)
def P5 (A:List Mp) (Ua:List Int) (B:List Mp) (Ub:List Int) (f:Mp) (q:List (Nat × Nat)):Heap:=P3 A Ua B Ub++[mpC f,.own (pf q)]
def MH (A:List Mp) (Ua:List Int) (B:List Mp) (Ub:List Int) (f:Mp) (q:List (Nat × Nat)) (G:List Mp) (U:List Int):Heap:=P5 A Ua B Ub f q++GM (A.length + B.length + 9) G U
section
variable {A B G:List Mp} {Ua Ub U:List Int} {f:Mp} {q:List (Nat × Nat)}
theorem P3_len:(P3 A Ua B Ub).length=A.length + B.length + 7:=by unfold P3; simp only [List.length_cons,List.length_append,GM_len]; omega
theorem P5_len:(P5 A Ua B Ub f q).length=A.length + B.length + 9:=by unfold P5; simp only [List.length_append,P3_len,List.length_cons,List.length_nil]
theorem MH_len:(MH A Ua B Ub f q G U).length=A.length + B.length + 12 + G.length:=by unfold MH; rw [List.length_append,P5_len,GM_len]; omega
theorem hget_P3a {Z:Heap} {i:Nat} (h:i < A.length + 3):hget (P3 A Ua B Ub++Z) (1 + i)=hget (GM 1 A Ua) i:=by
 unfold P3
 rw [show 1 + i=i + 1 by omega]
 show hget ((GM 1 A Ua++GM (A.length + 4) B Ub)++Z) i=_
 rw [List.append_assoc,hget_app1 (by rw [GM_len]; exact h)]
theorem hget_P3b {Z:Heap} {i:Nat} (h:i < B.length + 3):hget (P3 A Ua B Ub++Z) (A.length + 4 + i)=hget (GM (A.length + 4) B Ub) i:=by
 unfold P3
 rw [show A.length + 4 + i=(A.length + 3 + i) + 1 by omega]
 show hget ((GM 1 A Ua++GM (A.length + 4) B Ub)++Z) (A.length + 3 + i)=_
 rw [List.append_assoc,hget_app2 (by rw [GM_len]; omega),GM_len,show A.length + 3 + i - (A.length + 3)=i by omega,hget_app1 (by rw [GM_len]; exact h)]
theorem hget_P3c {Z:Heap} {i:Nat} : hget (P3 A Ua B Ub++Z) (A.length + B.length + 7 + i)=hget Z i:=by
 rw [hget_app2 (by rw [P3_len]; omega),P3_len,show A.length + B.length + 7 + i - (A.length + B.length + 7)=i by omega]
structure MF (H:Heap) (kB kM kW kX:Nat) (A:List Mp) (Ua:List Int) (B:List Mp) (Ub:List Int) (f:Mp) (q:List (Nat × Nat)) (G:List Mp) (U:List Int):Prop where
 h0:hget H 0=rb0
 a0:hget H 1 = .own [.sl 2 0 A.length,.sl 3 0 Ua.length]
 a1:hget H 2 = .own (mpK 1 A.length)
 a3:∀ i,i < A.length→hget H (4 + i)=mpB (gm A i)
 b0:hget H kB = .own [.sl (kB + 1) 0 B.length,.sl (kB + 2) 0 Ub.length]
 b1:hget H (kB + 1) = .own (mpK kB B.length)
 b3:∀ i,i < B.length→hget H (kB + 3 + i)=mpB (gm B i)
 m:hget H kM=mpC f
 w:hget H kW = .own (pf q)
 x0:hget H kX = .own [.sl (kX + 1) 0 G.length,.sl (kX + 2) 0 U.length]
 x1:hget H (kX + 1) = .own (mpK kX G.length)
 x3:∀ i,i < G.length→hget H (kX + 3 + i)=mpB (gm G i)
theorem hget_GM0 (k:Nat):hget (GM k G U) 0 = .own [.sl (k + 1) 0 G.length,.sl (k + 2) 0 U.length]:=by rw [GM_eq]; rfl
theorem hget_GM1 (k:Nat):hget (GM k G U) 1 = .own (mpK k G.length):=by rw [GM_eq]; rfl
theorem hget_GM3 (k:Nat) {i:Nat} (h:i < G.length):hget (GM k G U) (3 + i)=mpB (gm G i):=by
 rw [GM_eq,show 3 + i=i + 1 + 1 + 1 by omega]
 show hget (G.map mpB) i=_
 have:=hget_G (X:=[]) h
 rw [List.append_nil] at this
 exact this
theorem MF.of:MF (MH A Ua B Ub f q G U) (A.length + 4) (A.length + B.length + 7) (A.length + B.length + 8) (A.length + B.length + 9) A Ua B Ub f q G U:=by
 have e:MH A Ua B Ub f q G U=P3 A Ua B Ub++([mpC f,.own (pf q)]++GM (A.length + B.length + 9) G U):=by unfold MH P5; rw [List.append_assoc]
 have c:∀ i,i < G.length + 3→hget (MH A Ua B Ub f q G U) (A.length + B.length + 9 + i)=hget (GM (A.length + B.length + 9) G U) i:=fun i hi=>by
  unfold MH
  rw [hget_app2 (by rw [P5_len]; omega),P5_len,Nat.add_sub_cancel_left]
 refine ⟨by rw [e]; rfl,?_,?_,fun i hi=>?_,?_,?_,fun i hi=>?_,?_,?_,?_,?_,fun i hi=>?_⟩
 ·rw [e,show (1:Nat)=1 + 0 from rfl,hget_P3a (by omega),hget_GM0]
 ·rw [e,show (2:Nat)=1 + 1 from rfl,hget_P3a (by omega),hget_GM1]
 ·rw [e,show 4 + i=1 + (3 + i) by omega,hget_P3a (by omega),hget_GM3 _ hi]
 ·have:=hget_P3b (A:=A) (Ua:=Ua) (B:=B) (Ub:=Ub) (Z:=[mpC f,.own (pf q)]++GM (A.length + B.length + 9) G U) (i:=0) (by omega)
  rw [Nat.add_zero] at this
  rw [e,this,hget_GM0]
 ·rw [e,hget_P3b (by omega),hget_GM1]
 ·rw [e,show A.length + 4 + 3 + i=A.length + 4 + (3 + i) by omega,hget_P3b (by omega),hget_GM3 _ hi]
 ·rw [e]
  have:=hget_P3c (A:=A) (Ua:=Ua) (B:=B) (Ub:=Ub) (Z:=[mpC f,.own (pf q)]++GM (A.length + B.length + 9) G U) (i:=0)
  rw [Nat.add_zero] at this
  rw [this]; rfl
 ·rw [e,show A.length + B.length + 8=A.length + B.length + 7 + 1 by omega,hget_P3c]; rfl
 ·have:=c 0 (by omega)
  rw [Nat.add_zero] at this
  rw [this,hget_GM0]
 ·rw [c 1 (by omega),hget_GM1]
 rw [show A.length + B.length + 9 + 3 + i=A.length + B.length + 9 + (3 + i) by omega,c _ (by omega),hget_GM3 _ hi]
theorem GM_hsc {k L:Nat} (h:k + G.length + 3≤L):∀ b∈GM k G U,hsc L b=true:=by
 rw [GM_eq]
 intro b hb
 rcases List.mem_cons.1 hb with rfl | hb
 ·simp [hsc,scA,sc1]; omega
 rcases List.mem_cons.1 hb with rfl | hb
 ·show (mpK k G.length).all (scA L)=true
  rw [List.all_eq_true]
  intro x hx
  obtain ⟨i,hi,rfl⟩:=List.mem_map.1 hx
  have:=List.mem_range.1 hi
  simp [scA,sc1]; omega
 rcases List.mem_cons.1 hb with rfl | hb
 ·exact ol_sc _ _
 obtain ⟨f,_,rfl⟩:=List.mem_map.1 hb
 rfl
theorem GM_na {k:Nat} : (GM k G U).all notAnc=true:=by
 rw [GM_eq,List.all_eq_true]
 intro b hb
 rcases List.mem_cons.1 hb with rfl | hb
 ·rfl
 rcases List.mem_cons.1 hb with rfl | hb
 ·rfl
 rcases List.mem_cons.1 hb with rfl | hb
 ·rfl
 obtain ⟨f,_,rfl⟩:=List.mem_map.1 hb
 rfl
theorem P3_hsc {L:Nat} (h:A.length + B.length + 7≤L):∀ b∈P3 A Ua B Ub,hsc L b=true:=by
 intro b hb
 unfold P3 at hb
 rcases List.mem_cons.1 hb with rfl | hb
 ·rfl
 rcases List.mem_append.1 hb with hb | hb
 ·exact GM_hsc (by omega) b hb
 exact GM_hsc (by omega) b hb
theorem P3_na:(P3 A Ua B Ub).all notAnc=true:=by
 unfold P3
 rw [List.all_cons,List.all_append,GM_na,GM_na]; rfl
theorem P5_hsc {L:Nat} (h:A.length + B.length + 7≤L):∀ b∈P5 A Ua B Ub f q,hsc L b=true:=by
 intro b hb
 unfold P5 at hb
 rcases List.mem_append.1 hb with hb | hb
 ·exact P3_hsc h b hb
 rcases List.mem_cons.1 hb with rfl | hb
 ·rfl
 rw [List.mem_singleton.1 hb]
 exact pf_sc _ _
theorem P5_na:(P5 A Ua B Ub f q).all notAnc=true:=by
 unfold P5
 rw [List.all_append,P3_na]; rfl
theorem MH_hsc {L:Nat} (h:A.length + B.length + 12 + G.length≤L):∀ b∈MH A Ua B Ub f q G U,hsc L b=true:=by
 intro b hb
 unfold MH at hb
 rcases List.mem_append.1 hb with hb | hb
 ·exact P5_hsc (by omega) b hb
 exact GM_hsc (by omega) b hb
end
theorem le_front {S s:St} {Y Z:Heap} (hn:S.n=s.n) (hS:S.H=Y) (hs:s.H=Y++Z) (hY:∀ b∈Y,hsc Y.length b=true) (hsl:∀ p∈S.sl,s.get p.1=p.2∧scA Y.length p.2=true):Le (List.range Y.length) S s:=
 le_stay hn rfl hS hY (fun i hi=>by rw [hs,hget_app1 hi]) (LeS_same hsl)
def kyP (p:Nat × Nat):Int:=(p.1:Int) * 1099511627776 + p.2
theorem kyP_inj {p r:Nat × Nat} (h1:p.2 < 1099511627776) (h2:r.2 < 1099511627776) (h:kyP p=kyP r):p=r:=by
 obtain ⟨a,b⟩:=p
 obtain ⟨c,d⟩:=r
 unfold kyP at h
 simp only at h h1 h2
 have:a=c:=by omega
 subst this
 have:b=d:=by omega
 subst this
 rfl
def PM (f:Mp) (q:List (Nat × Nat)):Prop:=∀ p:Nat × Nat,p.2 < 1099511627776→f (kyP p)=if p∈q then some ((q.idxOf p:Nat):Int) else none
theorem PM.new {f:Mp} {q:List (Nat × Nat)} (h:PM f q) {p:Nat × Nat} (hp:p ∉ q) (hs:p.2 < 1099511627776):PM (updM f (kyP p) q.length) (q++[p]):=by
 intro r hr
 unfold updM
 by_cases e:r=p
 ·subst e
  rw [if_pos rfl,if_pos (by simp)]
  rw [List.idxOf_append,if_neg hp]
  simp
 rw [if_neg fun e2=>e (kyP_inj hr hs e2),h r hr]
 by_cases hm:r∈q
 ·rw [if_pos hm,if_pos (by simp [hm]),List.idxOf_append,if_pos hm]
 rw [if_neg hm,if_neg (by simp [hm,e])]
theorem PM.nil:PM (fun _=>none) []:=fun p _=>by simp
end Go.Proofs.Ytneglephfhiamaa

namespace Go.Proofs.Ytneglephfhiamaa
open Go.Pv
def rts (G:List Mp) (U:List Int):List Nat:=(List.range G.length).filter fun u=>decide (rV U u=u)
theorem mem_rts {G:List Mp} {U:List Int} {u:Nat} : u∈rts G U↔u < G.length∧rV U u=u:=by
 unfold rts
 rw [List.mem_filter,List.mem_range,decide_eq_true_eq]
theorem fi_isC {G:List Mp} {U:List Int} {S:List (List Int)} (fi:FI S G U S 0 []):IsC S (stR G U) (rts G U):=by
 have hz:rV U 0=0:=rV_zero fi.wg.fo (by rw [fi.wg.len]; exact fi.pos)
 refine ⟨⟨stR_inv fi.wg fi.sym,List.Nodup.sublist List.filter_sublist List.nodup_range,mem_rts.2 ⟨fi.pos,hz⟩,fun u hu x v h=>mem_rts.2 (stR_root fi.wg h).2,fun u hu x v h=>?_,fun u hu=>?_⟩,fun X st x0 hi hc=>?_,fun s hs=>?_⟩
 ·have h1:=(stR_root fi.wg h).1
  rw [stR_of h1] at h
  unfold stp at h
  obtain ⟨d,hd,_⟩:=Option.map_eq_some_iff.1 h
  have:=fi.wg.ent u x d h1.1 hd
  exact this.2.2
 ·obtain ⟨h1,h2⟩:=mem_rts.1 hu
  obtain ⟨w,hw⟩:=fi.con u h1
  have:=pth_run fi.wg w 0 u fi.pos h1 hw
  rw [hz,h2] at this
  exact ⟨w,this⟩
 ·obtain ⟨κ,k1,k2,_⟩:=fi.uni X st x0 hi hc
  refine ⟨κ,k1,fun u hu x v hs=>?_⟩
  obtain ⟨h1,h2⟩:=stR_root fi.wg hs
  rw [stR_of h1] at hs
  exact k2.2 u x v h1.1 h2.1 (pe_nil.2 ((stp_ed fi.wg h1 h2.2).1 hs))
 have:=pth_run fi.wg s 0 0 fi.pos fi.pos (fi.cl s hs)
 rwa [hz] at this
theorem gm_setM {G:List Mp} {i j:Nat} (h:i < G.length) (f:Mp):gm (G.set i f) j=if j=i then f else gm G j:=by
 unfold gm
 rw [List.getD_eq_getElem?_getD,List.getElem?_set]
 by_cases e:j=i
 ·subst e; rw [if_pos rfl,if_pos rfl,if_pos h]; rfl
 rw [if_neg (Ne.symm e),if_neg e,← List.getD_eq_getElem?_getD]
theorem hd_app {q r:List (Nat × Nat)} {p:Nat × Nat} (h:q.head? = some p):(q++r).head? = some p:=by
 cases q with
 | nil=>cases h
 | cons a l=>exact h
section
variable {A B:Nat→Int→Option Nat} {q:List (Nat × Nat)} {f:Mp} {G:List Mp} {U:List Int} {dn:Nat→Int→Prop}
structure MX (A B:Nat→Int→Option Nat) (q:List (Nat × Nat)) (f:Mp) (G:List Mp) (U:List Int) (dn:Nat→Int→Prop):Prop where
 nd:q.Nodup
 hd:q.head? = some (0,0)
 con:∀ p∈q,∃ w,runW (sP A B) (0,0) w=some p
 gl:G.length=q.length
 ul:U=(List.range q.length).map fun i:Nat=>(i:Int)
 pm:PM f q
 cl:∀ j,j < q.length→∀ x r,dn j x→sP A B (q.getD j (0,0)) x=some r→r∈q
 ed:∀ j,j < q.length→∀ x,(dn j x→gm G j x=(sP A B (q.getD j (0,0)) x).map fun r=>((q.idxOf r:Nat):Int))∧(¬ dn j x→gm G j x=none)
theorem MX.ulen (m:MX A B q f G U dn):U.length=q.length:=by rw [m.ul]; simp
theorem getD_q {r:List (Nat × Nat)} {j:Nat} (h:j < q.length):(q++r).getD j (0,0)=q.getD j (0,0):=by
 rw [List.getD_eq_getElem?_getD,List.getElem?_append_left h,← List.getD_eq_getElem?_getD]
theorem MX.zero:MX A B [(0,0)] (updM (fun _=>none) (kyP (0,0)) 0) [nul] [0] (fun _ _=>False):=by
 refine ⟨by simp,rfl,fun p hp=>⟨[],by rw [List.mem_singleton.1 hp]; rfl⟩,rfl,rfl,?_,fun j hj x r h=>h.elim,fun j hj x=>⟨fun h=>h.elim,fun _=>?_⟩⟩
 ·have:=PM.nil.new (p:=(0,0)) (by simp) (by decide)
  exact this
 have:j=0:=by simpa using hj
 subst this; rfl
theorem MX.add (m:MX A B q f G U dn) {r:Nat × Nat} (hr:r ∉ q) (h2:r.2 < 1099511627776) (hw:∃ w,runW (sP A B) (0,0) w=some r) (hdn:∀ x,¬ dn q.length x) :
  MX A B (q++[r]) (updM f (kyP r) q.length) (G++[nul]) (U++[(U.length:Int)]) dn:=by
 have hne:q ≠ []:=fun e=>by have:=m.hd; rw [e] at this; cases this
 refine ⟨?_,hd_app m.hd,fun p hp=>?_,by simp [m.gl],?_,m.pm.new hr h2,fun j hj x s hd hs=>?_,fun j hj x=>?_⟩
 ·rw [List.nodup_append]
  exact ⟨m.nd,by simp,fun x hx y hy e=>hr (by rw [List.mem_singleton] at hy; rw [← hy,← e]; exact hx)⟩
 ·rcases List.mem_append.1 hp with hp | hp
  ·exact m.con p hp
  rw [List.mem_singleton.1 hp]; exact hw
 ·rw [m.ulen,m.ul,List.length_append,List.length_singleton,List.range_succ,List.map_append]; rfl
 ·rw [List.length_append,List.length_singleton] at hj
  by_cases hl:j < q.length
  ·rw [getD_q hl] at hs
   exact List.mem_append.2 (.inl (m.cl j hl x s hd hs))
  obtain rfl:j=q.length:=by omega
  exact absurd hd (hdn x)
 rw [List.length_append,List.length_singleton] at hj
 by_cases hl:j < q.length
 ·rw [getD_q hl,gm_snoc (by rw [m.gl]; exact hl)]
  refine ⟨fun hd=>?_,(m.ed j hl x).2⟩
  rw [(m.ed j hl x).1 hd]
  cases hs:sP A B (q.getD j (0,0)) x with
  | none=>rfl
  | some s =>
   have:=m.cl j hl x s hd hs
   simp only [Option.map_some]
   rw [List.idxOf_append,if_pos this]
 obtain rfl:j=q.length:=by omega
 refine ⟨fun hd=>absurd hd (hdn x),fun _=>?_⟩
 rw [← m.gl,gm_new]; rfl
theorem MX.put (m:MX A B q f G U dn) {i:Nat} {x:Int} {r:Nat × Nat} (hi:i < q.length) (hr:r∈q) (hs:sP A B (q.getD i (0,0)) x=some r) :
  MX A B q f (G.set i (updM (gm G i) x (q.idxOf r:Nat))) U (fun j y=>dn j y∨(j=i∧y=x)):=by
 refine ⟨m.nd,m.hd,m.con,by simp [m.gl],m.ul,m.pm,fun j hj y s hd hs2=>?_,fun j hj y=>?_⟩
 ·rcases hd with hd | ⟨rfl,rfl⟩
  ·exact m.cl j hj y s hd hs2
  rw [hs] at hs2
  obtain rfl:=Option.some.inj hs2
  exact hr
 rw [gm_setM (by rw [m.gl]; exact hi)]
 by_cases e:j=i
 ·subst e
  rw [if_pos rfl]
  unfold updM
  by_cases e2:y=x
  ·subst e2
   rw [if_pos rfl,hs]
   exact ⟨fun _=>rfl,fun h=>absurd (.inr ⟨rfl,rfl⟩) h⟩
  rw [if_neg e2]
  exact ⟨fun h=>(m.ed j hj y).1 (h.resolve_right fun h=>e2 h.2),fun h=>(m.ed j hj y).2 fun h3=>h (.inl h3)⟩
 rw [if_neg e]
 exact ⟨fun h=>(m.ed j hj y).1 (h.resolve_right fun h=>e h.1),fun h=>(m.ed j hj y).2 fun h3=>h (.inl h3)⟩
theorem MX.ext (m:MX A B q f G U dn) {dn' : Nat→Int→Prop} (h1:∀ j x,dn j x→dn' j x) (h2:∀ j,j < q.length→∀ x,dn' j x→dn j x∨sP A B (q.getD j (0,0)) x=none):MX A B q f G U dn':=by
 refine ⟨m.nd,m.hd,m.con,m.gl,m.ul,m.pm,fun j hj x r hd hs=>?_,fun j hj x=>⟨fun hd=>?_,fun hd=>(m.ed j hj x).2 fun h=>hd (h1 j x h)⟩⟩
 ·rcases h2 j hj x hd with h | h
  ·exact m.cl j hj x r h hs
  rw [h] at hs; cases hs
 rcases h2 j hj x hd with h | h
 ·exact (m.ed j hj x).1 h
 rw [h]
 by_cases h3:dn j x
 ·rw [(m.ed j hj x).1 h3,h]
 rw [(m.ed j hj x).2 h3]; rfl
theorem MX.pg (m:MX A B q f G U fun j _=>j < q.length):PG A B q:=
 ⟨m.nd,m.hd,fun p hp x r h=>by
  obtain ⟨h1,h2⟩:=ixq hp
  exact m.cl _ h1 x r h1 (by rw [h2]; exact h),m.con⟩
theorem range_getD {n j:Nat} (h:j < n):((List.range n).map fun i:Nat=>(i:Int)).getD j 0=j:=by
 simp [List.getD,List.getElem?_map,List.getElem?_range h]
theorem MX.st (m:MX A B q f G U fun j _=>j < q.length):stR G U=stQ A B q:=by
 funext u x
 unfold stR stQ
 by_cases h:u < q.length
 ·have hr:∀ v,v < q.length→rV U v=v:=fun v hv=>rV_self (by rw [m.ul,range_getD hv])
  rw [if_pos h,if_pos ⟨by rw [m.gl]; exact h,hr u h⟩]
  unfold stp
  rw [(m.ed u h x).1 h]
  cases hs:sP A B (q.getD u (0,0)) x with
  | none=>rfl
  | some r =>
   have hm:=m.cl u h x r h hs
   simp only [Option.map_some,Int.toNat_natCast]
   rw [hr _ (ixq hm).1]
 rw [if_neg h,if_neg fun h2=>h (by rw [← m.gl]; exact h2.1)]
theorem MX.wg (m:MX A B q f G U fun j _=>j < q.length) (hlt:∀ p∈q,∀ x v,A p.1 x=some v→x ≠ 0∧-26≤x∧x≤26):WG G U:=by
 refine ⟨by rw [m.ulen,m.gl],fun i hi=>?_,fun v x d hv h=>?_⟩
 ·rw [m.ulen] at hi
  rw [m.ul,range_getD hi]
  omega
 rw [m.gl] at hv ⊢
 rw [(m.ed v hv x).1 hv] at h
 obtain ⟨r,hr,rfl⟩:=Option.map_eq_some_iff.1 h
 have hm:=m.cl v hv x r hv hr
 refine ⟨by omega,by rw [Int.toNat_natCast]; exact (ixq hm).1,?_⟩
 exact hlt _ (q_mem hv) x _ (sP_iff.1 hr).1
theorem MX.sym (m:MX A B q f G U fun j _=>j < q.length) (hA:InvS A) (hB:InvS B) (hlt:∀ p∈q,∀ x v,A p.1 x=some v→x ≠ 0∧-26≤x∧x≤26):SymW G U []:=by
 have hw:=m.wg hlt
 have hr:∀ v,v < q.length→rV U v=v:=fun v hv=>rV_self (by rw [m.ul,range_getD hv])
 have cg:=m.pg.cg hA hB hlt
 intro u x v hu hv h
 rw [m.gl] at hu hv
 have h:=pe_nil.1 h
 refine pe_nil.2 ?_
 have hu2:u < G.length∧rV U u=u:=⟨by rw [m.gl]; exact hu,hr u hu⟩
 have hv2:v < G.length∧rV U v=v:=⟨by rw [m.gl]; exact hv,hr v hv⟩
 have h1:=(stp_ed hw hu2 hv2.2).2 h
 rw [← stR_of hu2,m.st] at h1
 have hx:=(cg.lt u (List.mem_range.2 hu) x v h1).1
 have h2:=cg.inv _ _ _ hx h1
 rw [← m.st,stR_of hv2] at h2
 exact (stp_ed hw hv2 hu2.2).1 h2
theorem MX.qlen (m:MX A B q f G U dn) {lA lB:List Nat} (cA:CG A lA) (cB:CG B lB):q.length≤lA.length * lB.length∧∀ p∈q,p.1∈lA∧p.2∈lB:=by
 have hs:∀ p∈q,p.1∈lA∧p.2∈lB:=fun p hp=>by
  obtain ⟨w,hw⟩:=m.con p hp
  have:=run_sP.1 hw
  exact ⟨(cg_nz cA cA.m0 this.1).2,(cg_nz cB cB.m0 this.2).2⟩
 refine ⟨?_,hs⟩
 have hh:q.length≤(lA.flatMap fun u=>lB.map fun v=>(u,v)).length:=nd_le m.nd fun p hp=>by
  obtain ⟨a,b⟩:=hs p hp
  exact List.mem_flatMap.2 ⟨p.1,a,List.mem_map.2 ⟨p.2,b,rfl⟩⟩
 rw [flat_len,sum_all (fun u=>(lB.map fun v=>(u,v)).length) lB.length _ fun u _=>List.length_map _] at hh
 rw [Nat.mul_comm] at hh
 first
 | exact hh
 | (rw [Nat.mul_comm]; exact hh)
end
end Go.Proofs.Ytneglephfhiamaa

namespace Go.Proofs.Ytneglephfhiamaa
open Go.Pv
theorem hget_endM (X:Heap) (b:Blk):hget (X++[b]) X.length=b:=by rw [hget_app2 (Nat.le_refl _),Nat.sub_self]; rfl
theorem hset_endM (X:Heap) (b c:Blk):hset (X++[b]) X.length c=X++[c]:=by rw [hset_eq,List.set_append_right _ _ (Nat.le_refl _),Nat.sub_self]; rfl
def wOp:Op→Bool
 | .call { callee:=.value _,.. }=>true
 | op=>isW op
def frL (ks:List Nat):Op→Bool
 | .load _ (.tmp k)=>ks.contains k
 | _=>false
def fwP (ks:List Nat):Fw.FW:=⟨fun o=>wOp o.op,fun o=>wOp o.op || (isT o.op && !frL ks o.op),fun h=>by rw [h]; rfl⟩
theorem end_pi1 {a i:Nat} {ρ:List Nat} (h:i < a):(List.range a++ρ.map (a + ·)).getD i 0=i:=by
 rw [List.getD_eq_getElem?_getD,List.getElem?_append_left (by simpa using h)]; simp [h]
theorem end_pi2 {a i:Nat} {ρ:List Nat} (h:i < ρ.length):(List.range a++ρ.map (a + ·)).getD (a + i) 0=a + ρ.getD i 0:=by
 rw [List.getD_eq_getElem?_getD,List.getElem?_append_right (by simp),List.length_range,Nat.add_sub_cancel_left,List.getElem?_map,List.getD_eq_getElem?_getD,List.getElem?_eq_getElem h]; rfl
section
variable {G:List Mp} {U U' : List Int}
theorem runs_midM {s:St} {all:Array Oper} {rest:List Oper} {K:St→Prop} {dst:Option Tmp} {ty:TypeId} {pos:String} {aft:Array Edge} {gd:Option (Nat × Bool)} {fo:Operand} {args:Array Operand} {ts:Array TypeId} {Q R:Heap} {k:Nat} {g:FuncId} {avs:List PV} {r:PV}
  (hc:FnM Try.prog g (.ptr 0 0 :: avs.map .p) (GB G U) (.p r) (GB G U')) (hfo:s.ev fo = .p (.fn g [])) (hg:guardA all s { dst:=dst,op:=.call { callee:=.value fo,args:=args,argTypes:=ts },type:=ty,pos:=pos,after:=aft,guard:=gd } = some true)
  (hk:Q.length=k) (hH:s.H=Q++GM k G U++R) (hargs:args.toList.map s.ev = .ptr k 0 :: avs.map .p) (hd:dstOk s dst)
  (h:Runs Try.prog false all rest K (({ s with H:=Q++GM k G U'++R } : St).put dst (.p r))) :
  Runs Try.prog false all ({ dst:=dst,op:=.call { callee:=.value fo,args:=args,argTypes:=ts },type:=ty,pos:=pos,after:=aft,guard:=gd } :: rest) K s:=by
 subst hk
 have hsl:s.H.length=Q.length + (GB G U).length + R.length:=by rw [hH]; simp [GM_len,GB_len]; omega
 have hl2:(GB G U').length=(GB G U).length:=by rw [GB_len,GB_len]
 have e0:(List.range' Q.length (GB G U).length)++List.range' s.H.length ((GB G U').length - (List.range' Q.length (GB G U).length).length)=List.range' Q.length (GB G U).length:=by
  rw [List.length_range',hl2,Nat.sub_self]; simp
 have e1:putM s.H (List.range' Q.length (GB G U).length) ((GB G U').map (Blk.ren ((List.range' Q.length (GB G U).length)++List.range' s.H.length ((GB G U').length - (List.range' Q.length (GB G U).length).length))))=Q++GM Q.length G U'++R:=by
  rw [e0,hH]
  unfold GM
  rw [hl2]
  have:=putM_pre0 ((GB G U).map (Blk.ren (List.range' Q.length (GB G U).length))) ((GB G U').map (Blk.ren (List.range' Q.length (GB G U).length))) Q R [] (by simp [hl2])
  simpa using this
 refine runs_callM (cap:=[]) (List.range' Q.length (GB G U).length) hc hfo hg ?_ (leH_mid (by rw [hH]; rfl) (fun b hb=>(List.all_eq_true.1 GB_all) b hb) GB_na) (List.nodup_range' ..) ?_ GB_scM hd ?_
 ·refine argsN_M ?_
  rw [hargs]
  have h0:(List.range' Q.length (GB G U).length).getD 0 0=Q.length:=by rw [range'_getD (by rw [GB_len]; omega)]; rfl
  simp only [List.map_nil,List.append_nil,argsN,argN1,Go.Pv.ren,ren1,h0,scA,sc1]
  refine ⟨⟨trivial,by simp [GB_len]⟩,?_⟩
  clear hargs hc h
  induction avs with
  | nil=>trivial
  | cons a l ih=>exact ⟨rfl,ih⟩
 ·rw [List.all_eq_true]
  intro k hk
  have:=List.mem_range'_1.1 hk
  simp only [decide_eq_true_eq]; omega
 rw [e1]
 exact h
theorem runs2_ofG {s:St} {all:Array Oper} {rest:List Oper} {K:St→List I2→Prop} {acc:List I2} {dst:Option Tmp} {ty:TypeId} {pos:String} {aft:Array Edge} {gd:Option (Nat × Bool)} {fo:Operand} {args:Array Operand} {ts:Array TypeId} {Q R:Heap} {k:Nat}
  (w:WG G U) (hb:G.length≤100000000) {v:Nat} (hv:v < G.length) {z:Int} (hz:z=v) (hfo:s.ev fo = .p (.fn 56 [])) (hg:guardA all s { dst:=dst,op:=.call { callee:=.value fo,args:=args,argTypes:=ts },type:=ty,pos:=pos,after:=aft,guard:=gd } = some true)
  (hk:Q.length=k) (hH:s.H=Q++GM k G U++R) (hargs:args.toList.map s.ev=[.ptr k 0,.p (.int .i64 z)]) (hd:dstOk s dst)
  (h:Runs2 Try.prog all rest K (({ s with H:=Q++GM k G (ofU U v)++R } : St).put dst (.p (.int .i64 (rV U v:Nat)))) (acc++[⟨.ms ((List.range' k (G.length + 3)).zip (GM k G (ofU U v))),.p (.int .i64 (rV U v:Nat)),.dead,false⟩])) :
  Runs2 Try.prog all ({ dst:=dst,op:=.call { callee:=.value fo,args:=args,argTypes:=ts },type:=ty,pos:=pos,after:=aft,guard:=gd } :: rest) K s acc:=by
 subst hk
 refine runs2_ofM (Q:=Q) (R:=R) w hb hv hz hfo hg hH hargs hd ?_
 have:GM Q.length G (ofU U v)=(GB G (ofU U v)).map (Blk.ren (List.range' Q.length (GB G U).length)):=by unfold GM; rw [GB_len,GB_len]
 rw [← this,GB_len]
 exact h
end
section
variable {G:List Mp} {U:List Int}
theorem runsF_placeG {F:Fw.FW} {s:St} {all:Array Oper} {rest:List Oper} {K:St→Prop} {dst:Option Tmp} {ty:TypeId} {pos:String} {aft:Array Edge} {gd:Option (Nat × Bool)} {fo:Operand} {args:Array Operand} {ts:Array TypeId} {Q:Heap} {k:Nat}
  (hl:U.length=G.length) (hb:G.length≤100000000) (hfo:s.ev fo = .p (.fn 57 [])) (hg:guardA all s { dst:=dst,op:=.call { callee:=.value fo,args:=args,argTypes:=ts },type:=ty,pos:=pos,after:=aft,guard:=gd } = some true)
  (hk:Q.length=k) (hH:s.H=Q++GM k G U) (hargs:args.toList.map s.ev=[.ptr k 0]) (hd:dstOk s dst)
  (hw:F.W { dst:=dst,op:=.call { callee:=.value fo,args:=args,argTypes:=ts },type:=ty,pos:=pos,after:=aft,guard:=gd } = true)
  (h:Fw.Runs F Try.prog all rest K (({ s with H:=Q++(PB G U).map (Blk.ren (List.range' k (PB G U).length)) } : St).put dst (.p (.int .i64 (U.length:Nat))))) :
  Fw.Runs F Try.prog all ({ dst:=dst,op:=.call { callee:=.value fo,args:=args,argTypes:=ts },type:=ty,pos:=pos,after:=aft,guard:=gd } :: rest) K s:=by
 subst hk
 exact runsF_place hl hb hfo hg hH hargs hd hw h
end
section
variable {A B G:List Mp} {Ua Ub U:List Int} {f:Mp} {q:List (Nat × Nat)}
theorem mh_A:MH A Ua B Ub f q G U=[rb0]++GM 1 A Ua++(GM (A.length + 4) B Ub++([mpC f,.own (pf q)]++GM (A.length + B.length + 9) G U)):=by
 unfold MH P5 P3
 simp only [List.cons_append,List.nil_append,List.append_assoc]
theorem mh_B:MH A Ua B Ub f q G U=(rb0 :: GM 1 A Ua)++GM (A.length + 4) B Ub++([mpC f,.own (pf q)]++GM (A.length + B.length + 9) G U):=by
 unfold MH P5 P3
 simp only [List.cons_append,List.nil_append,List.append_assoc]
theorem mh_Bl:(rb0 :: GM 1 A Ua).length=A.length + 4:=by rw [List.length_cons,GM_len]
theorem p3_A {T:Heap} : P3 A Ua B Ub++T=[rb0]++GM 1 A Ua++(GM (A.length + 4) B Ub++T):=by
 unfold P3
 simp only [List.cons_append,List.nil_append,List.append_assoc]
theorem p3_B {T:Heap} : P3 A Ua B Ub++T=(rb0 :: GM 1 A Ua)++GM (A.length + 4) B Ub++T:=by
 unfold P3
 simp only [List.cons_append,List.nil_append,List.append_assoc]
theorem mh_dead {b:Blk} : hset (MH A Ua B Ub f q G U) (A.length + B.length + 8) b=(P3 A Ua B Ub++[mpC f])++(b :: GM (A.length + B.length + 9) G U):=by
 have e:MH A Ua B Ub f q G U=(P3 A Ua B Ub++[mpC f])++(.own (pf q) :: GM (A.length + B.length + 9) G U):=by unfold MH P5; simp
 have hl:(P3 A Ua B Ub++[mpC f]).length=A.length + B.length + 8:=by rw [List.length_append,P3_len]; rfl
 rw [e,hset_eq,List.set_append_right _ _ (by omega),hl,Nat.sub_self]; rfl
theorem mh_set {i:Nat} (h:i < G.length) (g:Mp):hset (MH A Ua B Ub f q G U) (A.length + B.length + 9 + 3 + i) (mpB g)=MH A Ua B Ub f q (G.set i g) U:=by
 unfold MH
 rw [hset_eq,List.set_append_right _ _ (by rw [P5_len]; omega),P5_len,show A.length + B.length + 9 + 3 + i - (A.length + B.length + 9)=i + 1 + 1 + 1 by omega,GM_eq,GM_eq]
 simp only [List.set_cons_succ,List.map_set,List.length_set]
theorem hget_P5 {Z:Heap} : hget (P5 A Ua B Ub f q++Z) (A.length + B.length + 7) = .mp .i8 (fun z=>(f z).isSome) (fun z=>.int .i64 ((f z).getD 0)):=by
 unfold P5
 rw [List.append_assoc,hget_app2 (by rw [P3_len]; omega),P3_len,Nat.sub_self]; rfl
theorem hset_P5 {Z:Heap} {f2:Mp} : hset (P5 A Ua B Ub f q++Z) (A.length + B.length + 7) (mpC f2)=P5 A Ua B Ub f2 q++Z:=by
 unfold P5
 rw [List.append_assoc,hset_eq,List.set_append_right _ _ (by rw [P3_len]; omega),P3_len,Nat.sub_self]; simp
theorem le_row {S s:St} {q' : List (Nat × Nat)} {b0:Blk} {x:List AV} (hn:S.n=s.n) (hx:x=pf q') (hS:S.H=MH A Ua B Ub f q' G U) (hs:s.H=((P3 A Ua B Ub++[mpC f])++(b0 :: GM (A.length + B.length + 9) G U))++[.own x])
  (hsl:∀ p∈S.sl,(∃ l,p.2 = .sls (A.length + B.length + 8) 0 l 2∧s.get p.1 = .sls (A.length + B.length + 12 + G.length) 0 l 2)∨(s.get p.1=p.2∧((∃ k i,p.2 = .ptr k i∧k ≠ A.length + B.length + 8∧k < A.length + B.length + 12 + G.length)∨(∃ k,p.2 = .mptr k∧k ≠ A.length + B.length + 8∧k < A.length + B.length + 12 + G.length)∨∃ v,p.2 = .p v))) :
  Le (List.range (A.length + B.length + 8)++((A.length + B.length + 12 + G.length) :: List.range' (A.length + B.length + 9) (G.length + 3))) S s:=by
 obtain ⟨a,ha⟩:∃ a,A.length + B.length + 8=a:=⟨_,rfl⟩
 have ha9:A.length + B.length + 9=a + 1:=by omega
 have ha12:A.length + B.length + 12 + G.length=a + 4 + G.length:=by omega
 rw [ha,ha9,ha12]
 rw [ha,ha12] at hsl
 obtain ⟨π,hπ⟩:∃ π,List.range a++((a + 4 + G.length) :: List.range' (a + 1) (G.length + 3))=π:=⟨_,rfl⟩
 have hpl:π.length=a + 4 + G.length:=by rw [← hπ]; simp; omega
 have p0:∀ i,i < a→π.getD i 0=i:=fun i hi=>by
  rw [← hπ,List.getD_eq_getElem?_getD,List.getElem?_append_left (by simpa using hi)]; simp [hi]
 have p1:π.getD a 0=a + 4 + G.length:=by
  rw [← hπ,List.getD_eq_getElem?_getD,List.getElem?_append_right (by simp),List.length_range,Nat.sub_self]; rfl
 have p2:∀ i,i < G.length + 3→π.getD (a + 1 + i) 0=a + 1 + i:=fun i hi=>by
  rw [← hπ,List.getD_eq_getElem?_getD,List.getElem?_append_right (by simp; omega),List.length_range,show a + 1 + i - a=i + 1 by omega,List.getElem?_cons_succ,List.getElem?_range' hi]
  simp
 have pfix:∀ i,i ≠ a→i < a + 4 + G.length→π.getD i 0=i:=fun i h1 h2=>by
  by_cases h:i < a
  ·exact p0 i h
  have:=p2 (i - a - 1) (by omega)
  rwa [show a + 1 + (i - a - 1)=i by omega] at this
 have key:∀ {H:Heap} (k:Nat) (b:Blk),(match b with | .own c=>c.map (Go.Pv.ren π)=c∧c.all (scA π.length)=true | .anc _ _=>False | _=>True)→hget H k=b→LeB π H k b:=by
  intro H k b hb he
  cases b with
  | own c=>simp only [LeB,he]; exact ⟨by rw [hb.1,List.take_of_length_le (Nat.le_refl _)],hb.2⟩
  | anc i j=>exact hb.elim
  | dead=>trivial
  | _=>simp only [LeB,he]
 have gmk:∀ (k:Nat) (G' : List Mp) (U' : List Int),(k + G'.length + 3≤a∨(a < k∧k + G'.length + 3≤a + 4 + G.length))→∀ b∈GM k G' U',(match b with | .own c=>c.map (Go.Pv.ren π)=c∧c.all (scA π.length)=true | .anc _ _=>False | _=>True):=by
  intro k G' U' hk b hb
  have hh:=GM_hsc (G:=G') (U:=U') (k:=k) (L:=π.length) (by omega) b hb
  rw [GM_eq] at hb
  rcases List.mem_cons.1 hb with rfl | hb
  ·refine ⟨?_,hh⟩
   simp only [List.map_cons,List.map_nil,Go.Pv.ren,ren1]
   rw [pfix (k + 1) (by omega) (by omega),pfix (k + 2) (by omega) (by omega)]
  rcases List.mem_cons.1 hb with rfl | hb
  ·refine ⟨?_,hh⟩
   unfold mpK
   rw [List.map_map]
   refine List.map_congr_left fun i hi=>?_
   have:=List.mem_range.1 hi
   simp only [Function.comp,Go.Pv.ren,ren1]
   rw [pfix (k + 3 + i) (by omega) (by omega)]
  rcases List.mem_cons.1 hb with rfl | hb
  ·exact ⟨ol_ren _ _,ol_sc _ _⟩
  obtain ⟨f,_,rfl⟩:=List.mem_map.1 hb
  trivial
 subst hx
 have hsH:s.H=(P3 A Ua B Ub++[mpC f])++(b0 :: (GM (a + 1) G U++[.own (pf q')])):=by
  rw [hs,ha9]; simp
 have hSH:S.H=(P3 A Ua B Ub++[mpC f])++(.own (pf q') :: GM (a + 1) G U):=by
  rw [hS]; unfold MH P5; rw [ha9]; simp
 have hPl:(P3 A Ua B Ub++[mpC f]).length=a:=by rw [List.length_append,P3_len]; simp; omega
 have hr:=hπ
 rw [hπ]
 refine ⟨hn,?_,?_,?_⟩
 ·rw [← hπ,List.nodup_append]
  refine ⟨List.nodup_range,?_,fun x hx y hy=>?_⟩
  ·rw [List.nodup_cons]
   refine ⟨fun h=>?_,List.nodup_range' ..⟩
   have:=List.mem_range'_1.1 h
   omega
  have:=List.mem_range.1 hx
  rcases List.mem_cons.1 hy with rfl | hy
  ·omega
  have:=List.mem_range'_1.1 hy
  omega
 ·rw [hSH]
  conv=>arg 3; rw [← hπ]
  refine leH_app ?_ ⟨?_,?_⟩
  ·refine leH_at (by rw [List.length_range,hPl]) fun i hi=>?_
   have e:(List.range a).getD i 0=i:=by rw [hPl] at hi; simp [List.getD,hi]
   rw [e]
   refine key i _ ?_ (by rw [hsH,hget_app1 hi])
   have hm:hget (P3 A Ua B Ub++[mpC f]) i∈P3 A Ua B Ub++[mpC f]:=by rw [hget_eq,List.getD_eq_getElem?_getD,List.getElem?_eq_getElem hi]; exact List.getElem_mem hi
   revert hm
   generalize hget (P3 A Ua B Ub++[mpC f]) i=b
   intro hm
   rcases List.mem_append.1 hm with hm | hm
   ·unfold P3 at hm
    rcases List.mem_cons.1 hm with rfl | hm
    ·exact ⟨rfl,rfl⟩
    rcases List.mem_append.1 hm with hm | hm
    ·exact gmk 1 A Ua (.inl (by omega)) b hm
    exact gmk _ B Ub (.inl (by omega)) b hm
   rw [List.mem_singleton.1 hm]; trivial
  ·refine key _ (.own (pf q')) ⟨pf_ren _ _,pf_sc _ _⟩ ?_
   rw [hsH,hget_app2 (by omega),hPl,show a + 4 + G.length - a=(G.length + 3) + 1 by omega]
   show hget (GM (a + 1) G U++[Blk.own (pf q')]) (G.length + 3)=_
   rw [hget_app2 (by rw [GM_len]; omega),GM_len,Nat.sub_self]; rfl
  refine leH_at (by rw [List.length_range',GM_len]) fun i hi=>?_
  have hi:i < G.length + 3:=by rw [GM_len] at hi; exact hi
  rw [range'_getD hi]
  refine key _ _ ?_ (by
   rw [hsH,hget_app2 (by omega),hPl,show a + 1 + i - a=i + 1 by omega]
   show hget (GM (a + 1) G U++[Blk.own (pf q')]) i=_
   rw [hget_app1 (by rw [GM_len]; exact hi)])
  have hm:hget (GM (a + 1) G U) i∈GM (a + 1) G U:=by rw [hget_eq,List.getD_eq_getElem?_getD,List.getElem?_eq_getElem (by rw [GM_len]; exact hi)]; exact List.getElem_mem _
  exact gmk (a + 1) G U (.inr ⟨by omega,by omega⟩) _ hm
 clear hS hSH
 have:∀ l:List (Nat × AV),(∀ p∈l,p∈S.sl)→LeS π l s:=by
  intro l
  induction l with
  | nil=>intro _; trivial
  | cons p l ih =>
   intro hl
   obtain ⟨t,x⟩:=p
   refine ⟨?_,?_,ih fun y hy=>hl y (by simp [hy])⟩
   ·rcases hsl (t,x) (hl _ (by simp)) with ⟨n,e1,e2⟩ | ⟨e1,⟨k,i,e2,n1,n2⟩ | ⟨k,e2,n1,n2⟩ | ⟨v,e2⟩⟩
    ·simp only at e1 e2
     rw [e2,e1]; simp only [Go.Pv.ren,ren1,p1]
    ·simp only at e1 e2
     rw [e1,e2]; simp only [Go.Pv.ren,ren1,pfix k n1 n2]
    ·simp only at e1 e2
     rw [e1,e2]; simp only [Go.Pv.ren,ren1,pfix k n1 n2]
    simp only at e1 e2
    rw [e1,e2]; simp only [Go.Pv.ren,ren1]
   rcases hsl (t,x) (hl _ (by simp)) with ⟨n,e1,e2⟩ | ⟨e1,⟨k,i,e2,n1,n2⟩ | ⟨k,e2,n1,n2⟩ | ⟨v,e2⟩⟩
   ·simp only at e1
    rw [e1,hpl]; simp [scA,sc1]; omega
   ·simp only at e2
    rw [e2,hpl]; simp [scA,sc1]; exact n2
   ·simp only at e2
    rw [e2,hpl]; simp [scA,sc1]; exact n2
   simp only at e2
   rw [e2]; rfl
 exact this S.sl fun _ h=>h
theorem le_first {S s:St} {x:List AV} (hn:S.n=s.n) (hx:x=pf [(0,0)]) (hS:S.H=MH A Ua B Ub f [(0,0)] [nul] [0]) (hs:s.H=(P3 A Ua B Ub++[mpC f])++((PB [] []).map (Blk.ren (List.range' (A.length + B.length + 8) (PB [] []).length))++[.own x]))
  (hsl:LeS (List.range (A.length + B.length + 8)++[6,0,4,5,3].map ((A.length + B.length + 8) + ·)) S.sl s):Le (List.range (A.length + B.length + 8)++[6,0,4,5,3].map ((A.length + B.length + 8) + ·)) S s:=by
 subst hx
 have hP:(P3 A Ua B Ub++[mpC f]).length=A.length + B.length + 8:=by rw [List.length_append,P3_len]; rfl
 rw [← hP] at hsl hs ⊢
 refine le_end (X:=PB [] []++[.own (pf [(0,0)])]) (Y:=.own (pf [(0,0)]) :: GM 1 [nul] [0]) hn ?_ ?_ ?_ ?_ (by decide) (by decide) ?_ ?_ ?_ hsl
 ·rw [hs]; rfl
 ·rw [hS]
  unfold MH P5
  rw [GM_eq,GM_eq]
  simp only [List.append_assoc,List.cons_append,List.nil_append]
  rw [hP]
  rfl
 ·rw [hP]
  intro b hb
  rcases List.mem_append.1 hb with hb | hb
  ·exact P3_hsc (by omega) b hb
  rw [List.mem_singleton.1 hb]; rfl
 ·rw [List.all_append,P3_na]; rfl
 ·rw [GM_eq]
  simp [LeH,LeB,hget,PB,mpK,Go.Pv.ren,ren1,scA,sc1,mps,ol,il,pf,pwl,flat,opl,PV.cells,nul,mpB]
 ·rw [GM_eq]; rfl
 simp [hsc,PB,mps,ol,il,pf,pwl,flat,opl,PV.cells,scA,sc1,mpB]
theorem le_new {S s:St} (hl:U.length=G.length) (hn:S.n=s.n) {f' : Mp} (hS:S.H=MH A Ua B Ub f' q (G++[nul]) (U++[(U.length:Int)])) (hs:s.H=P5 A Ua B Ub f' q++(PB G U).map (Blk.ren (List.range' (A.length + B.length + 9) (PB G U).length)))
  (hsl:LeS (List.range (A.length + B.length + 9)++(0 :: (G.length + 4) :: (G.length + 5) :: List.range' 3 (G.length + 1)).map ((A.length + B.length + 9) + ·)) S.sl s):Le (List.range (A.length + B.length + 9)++(0 :: (G.length + 4) :: (G.length + 5) :: List.range' 3 (G.length + 1)).map ((A.length + B.length + 9) + ·)) S s:=by
 have hP:=P5_len (A:=A) (Ua:=Ua) (B:=B) (Ub:=Ub) (f:=f') (q:=q)
 have hle:=le_PB (G:=G) (U:=U) (S:=⟨0,[],GB (G++[nul]) (U++[(U.length:Int)])⟩) (s:=⟨0,[],PB G U⟩) hl rfl rfl rfl trivial
 rw [← hP] at hsl ⊢
 refine le_end (X:=PB G U) (Y:=GB (G++[nul]) (U++[(U.length:Int)])) hn (by rw [hs,hP]) (by rw [hS]; unfold MH GM; rw [hP]) (P5_hsc (by rw [hP]; omega)) P5_na hle.2.1 ?_ hle.2.2.1 GB_na (fun b hb=>PB_hsc b hb) hsl
 intro k hk
 rw [PB_len]
 rcases List.mem_cons.1 hk with rfl | hk
 ·omega
 rcases List.mem_cons.1 hk with rfl | hk
 ·omega
 rcases List.mem_cons.1 hk with rfl | hk
 ·omega
 have:=List.mem_range'_1.1 hk
 omega
end
end Go.Proofs.Ytneglephfhiamaa

namespace Go.Pv
open Go.RowKit
def draw2OKd (sp nr : Nat → Nat → Bool) (ops : Array Oper) (xs : List I2) : Bool :=
  (List.range ops.size).all fun j =>
    ((opAt ops j).after.toList.all fun e => !Region.binds .any e || e.on < j) &&
    ((List.range j).all fun i => ((anc ops).getD j 0).testBit i || ((opAt ops i).apart ops (opAt ops j) && (sp i j || isF (xs.getD i default).c || isF (xs.getD j default).c || (isLd (xs.getD i default).c && isLd (xs.getD j default).c)))) &&
    (match (xs.getD j default).c.mk with
     | some κ => (List.range ops.size).all fun i => i == j || ((anc ops).getD i 0).testBit j || nr j i
     | none => true) && (xs.getD j default).na
theorem draw2_cd {ops:Array Oper} {xs:List I2} (sp nr:Nat→Nat→Bool) (hsp:∀ i j,sp i j=true→confl (xs.getD i default).c (xs.getD j default).c=false)
  (hnr:∀ j i κ,nr j i=true→(xs.getD j default).c.mk=some κ→nrA κ (xs.getD i default).av=true∧((xs.getD i default).pu=true∨(xs.getD i default).blks.all (blkNr κ)=true)) (h:draw2OKd sp nr ops xs=true):draw2OK ops xs=true:=by
 unfold draw2OKd at h
 unfold draw2OK
 rw [List.all_eq_true] at h ⊢
 intro j hj
 have hj2:=h j hj
 simp only [Bool.and_eq_true] at hj2 ⊢
 obtain ⟨⟨⟨h1,h2⟩,h3⟩,h4⟩:=hj2
 refine ⟨⟨⟨h1,?_⟩,?_⟩,h4⟩
 ·rw [List.all_eq_true] at h2 ⊢
  intro i hi
  have:=h2 i hi
  rw [Bool.or_eq_true] at this ⊢
  rcases this with h | h
  ·exact .inr h
  left
  rw [Bool.and_eq_true] at h
  unfold apart2
  rw [Bool.and_eq_true]
  refine ⟨h.1,?_⟩
  have hc:confl (xs.getD i default).c (xs.getD j default).c=false:=by
   have h2:=h.2
   simp only [Bool.or_eq_true,Bool.and_eq_true] at h2
   rcases h2 with ((h2 | h2) | h2) | ⟨h2,h3⟩
   ·exact hsp i j h2
   ·exact confl_f1 h2
   ·exact confl_f2 h2
   exact confl_ld h2 h3
  simp only [hc,Bool.not_false]
 cases hm:(xs.getD j default).c.mk with
 | none=>trivial
 | some κ =>
  rw [hm] at h3
  simp only at h3 ⊢
  rw [List.all_eq_true] at h3 ⊢
  intro i hi
  have:=h3 i hi
  simp only [Bool.or_eq_true,Bool.and_eq_true] at this ⊢
  rcases this with (h | h) | h
  ·exact .inl (.inl h)
  ·exact .inl (.inr h)
  exact .inr (hnr j i κ h hm)
theorem ld_nw {k n:Nat} (h:k < n):confl (.ld k) (.nw n)=false:=by
 simp only [confl,Cls.tch,beq_eq_false_iff_ne]; omega
theorem ms_nw {l:List (Nat × Blk)} {n:Nat} (h:∀ p∈l,p.1 < n):confl (.ms l) (.nw n)=false:=by
 simp only [confl,Cls.tch]
 rw [List.any_eq_false]
 intro p hp
 have:=h p hp
 simp; omega
end Go.Pv
namespace Go.Proofs.Ytneglephfhiamaa
open Go.Pv
theorem GM_nr {k κ:Nat} {G:List Mp} {U:List Int} (h:k + G.length + 3≤κ):(GM k G U).all (blkNr κ)=true:=by
 rw [GM_eq,List.all_eq_true]
 intro b hb
 rcases List.mem_cons.1 hb with rfl | hb
 ·simp [blkNr,nrA,nr1]; omega
 rcases List.mem_cons.1 hb with rfl | hb
 ·show (mpK k G.length).all (nrA κ)=true
  rw [List.all_eq_true]
  intro x hx
  obtain ⟨i,hi,rfl⟩:=List.mem_map.1 hx
  have:=List.mem_range.1 hi
  simp [nrA,nr1]; omega
 rcases List.mem_cons.1 hb with rfl | hb
 ·show (ol U).all (nrA κ)=true
  simp [ol,il,nrA,nr1]
 obtain ⟨f,_,rfl⟩:=List.mem_map.1 hb
 rfl
theorem zip_fst {k n N:Nat} {H1:Heap} (h:k + n≤N):∀ p∈(List.range' k n).zip H1,p.1 < N:=fun p hp=>by
 have:=List.mem_range'_1.1 (List.of_mem_zip (a:=p.1) (b:=p.2) hp).1
 omega
theorem zip_nr {ks:List Nat} {H1:Heap} {κ:Nat} (h:H1.all (blkNr κ)=true):((ks.zip H1).map (·.2)).all (blkNr κ)=true:=by
 rw [List.all_eq_true] at h ⊢
 intro b hb
 obtain ⟨p,hp,rfl⟩:=List.mem_map.1 hb
 exact h _ (List.of_mem_zip (a:=p.1) (b:=p.2) hp).2
end Go.Proofs.Ytneglephfhiamaa

namespace Go.Pv
open Go.RowKit
theorem makeCl_does {P:Program} {s:St} {o:Oper} {f:FuncId} {first:Array Operand} {caps:Array Operand} (ho:o.op = .makeFunc (.func f) first caps) (hf:first.isEmpty=true):DoesW P o s (.cl f (caps.toList.map s.ev)) s.H:=by
 intro C m a w K Q R hK
 have hfe:first = #[]:=by simpa using hf
 have hrun:(execOp a.eval o).run P w = .ok (.value (.func (.func f) #[] (caps.map a.eval))) w:=by
  simp [execOp,ho,hfe,Instr.makeFunc]
 refine opR_of_wp (by first|rfl|(rw [ho]; rfl)) ?_
 unfold Oper.wp
 rw [hrun]
 refine hK _ m w R (.cl _ _ _ (by simp) fun c hc=>?_)
 have hc' : c < caps.size:=by simpa using hc
 have e1:(caps.map a.eval).getD c undef=a.eval caps[c]:=by simp [Array.getD_eq_getD_getElem?,hc']
 have e2:(caps.toList.map s.ev)[c]=s.ev caps[c]:=by simp
 rw [e1,e2]
 exact R.ev _
end Go.Pv

namespace Go.Pv
open Go.RowKit
def lastOK (L:List Oper) (n:Nat):Bool:=
 decide (L.length=n + 1) && (L.take n).all (fun o=>match o.guard with | some (g,_)=>decide (g < n) | none=>true) && (List.range n).all (fun i=>((anc L.toArray).getD n 0).testBit i) &&
  (opAt L.toArray n).after.toList.all (fun e=>!Region.binds .any e || decide (e.on < n))
section
variable {P:Program}
theorem onR_mono {ops:Array Oper} {Q:Exit→Act→World→Prop} {i:Nat} {a:Act} {w:World} {K K' : Act→World→Prop} (h:∀ a w,K a w→K' a w) (hh:onR P ops Q i K a w):onR P ops Q i K' a w:=by
 unfold onR at *
 split
 ·exact h _ _ (by simpa [*] using hh)
 rename_i o ho
 simp only [ho] at hh
 split
 ·rename_i hw; simp only [hw,if_true] at hh; exact .inl (opR_mono h (fun _ _ _ h=>h) (fun _ _ h=>h) (hh.resolve_right fun h=>h))
 rename_i hw; simp only [hw] at hh; exact h _ _ hh
theorem hk_drawL {id:Nat} {L:List Oper} (n:Nat) {Q:Exit→St→Prop} {s:St} (hm:P.follows .mixedOrders=true) (hok:(drawOK (L.take n).toArray && noGW (L.take n) && lastOK L n)=true)
  (h:∀ K:St→Prop,(∀ s',Q .normal s'→K s')→Runs P true (L.take n).toArray (L.take n) (fun s1=>Runs P false L.toArray (L.drop n) K s1) s):Holds P (.region id L.toArray true) Q s:=by
 intro rr ds C m a w R hd
 rw [Bool.and_eq_true,Bool.and_eq_true] at hok
 obtain ⟨⟨hok1,hok2⟩,hok3⟩:=hok
 unfold lastOK at hok3
 rw [Bool.and_eq_true,Bool.and_eq_true,Bool.and_eq_true,decide_eq_true_eq] at hok3
 obtain ⟨⟨⟨hlen,hgs⟩,hanc⟩,hlast⟩:=hok3
 obtain ⟨s1,hr,hrest⟩:=h (Q .normal) fun _ h=>h
 refine wpR_region_any hm ?_
 have hsz:L.toArray.size=n + 1:=by simpa using hlen
 have hsz' : (L.take n).toArray.size=n:=by simp; omega
 have hget:∀ j,j < n→(L.take n).toArray[j]? = L.toArray[j]?:=fun j hj=>by simp [hj]
 obtain ⟨o,ho⟩:∃ o,L.toArray[n]? = some o:=⟨L[n]'(by omega),by simp [List.getElem?_eq_getElem (show n < L.length by omega)]⟩
 have hdrop:L.drop n=[o]:=by
  have h1:=List.drop_eq_getElem_cons (l:=L) (i:=n) (by omega)
  rw [List.drop_eq_nil_of_le (show L.length≤n + 1 by omega)] at h1
  rw [h1]
  have:L[n]? = some o:=by simpa using ho
  rw [List.getElem?_eq_getElem (by omega)] at this
  rw [Option.some.inj this]
 rw [hdrop] at hrest
 obtain ⟨hedge,_⟩:=drawOK_spec hok1
 have hedgeN:∀ e∈o.after.toList,Region.binds .any e=true→e.on < n:=fun e he hb=>by
  rw [opAt_of ho] at hlast
  have:=(List.all_eq_true.1 hlast) e he
  rw [hb] at this; simpa using this
 let Q1:Exit→Act→World→Prop:=fun e a' w'=>∃ s' m',Q e s'∧Rel C m' s' a'.tmps w'∧a'.defers=ds
 let Q2:Exit→Act→World→Prop:=fun e a' w'=>match e with
  | .normal=>onR P L.toArray Q1 n (fun a w=>Q1 .normal a w) a' w'
  | e=>Q1 e a' w'
 have pre:anyR P .any (L.take n).toArray Q2 (L.take n).toArray.size (Array.replicate (L.take n).toArray.size false) a w.drew:=by
  refine draw_sound hok1 (fun o ho hg=>?_) (by simpa using hr) (R.later (w':=w.drew) ⟨rfl,rfl,rfl,Nat.le_refl _,fun _ _=>rfl,Nat.le_succ _⟩) hd fun m' a' w' R' hd'=>?_
  ·have:=(List.all_eq_true.1 hok2) o (by simpa using ho)
   cases hgu:o.guard with
   | none=>exact absurd hgu hg
   | some g=>rw [hgu] at this; simpa using this
  obtain ⟨s',h1,hK⟩:=hrest
  show onR P L.toArray Q1 n (fun a w=>Q1 .normal a w) a' w'
  unfold onR
  rw [ho]
  cases h1 with
  | cons h1 hnil =>
   cases hnil
   cases h1 with
   | skip hg hlt =>
    have hw:=guardA_wanted (P:=P) R' hg
    simp only
    rw [if_neg (by simpa using hw)]
    exact ⟨_,m',hK,R'.put hlt (.p _ _ reads_un),by rw [put_defers]; exact hd'⟩
   | op av H' hg hlt h2 hl =>
    have hw:=guardA_wanted (P:=P) R' hg
    simp only
    rw [if_pos hw]
    exact .inl (h2 C m' a' w' _ Q1 R' fun v m2 w2 R2 hv=>⟨_,m2,hK,R2.put hlt hv,by rw [put_defers]; exact hd'⟩)
 have conv:∀ i K' K a w,i < n→(∀ a w,K' a w→K a w)→onR P (L.take n).toArray Q2 i K' a w→onR P L.toArray Q1 i K a w:=by
  intro i K' K a w hi hK hh
  have hi':=hget i hi
  obtain ⟨oi,hoi⟩:∃ oi,L.toArray[i]? = some oi:=⟨L[i]'(by omega),by simp [List.getElem?_eq_getElem (show i < L.length by omega)]⟩
  unfold onR at hh ⊢
  rw [hi',hoi] at hh
  rw [hoi]
  simp only at hh ⊢
  have hmem:oi∈L.take n:=by
   have:(L.take n)[i]? = some oi:=by
    have:=hi'.trans hoi
    simpa using this
   exact List.mem_of_getElem? this
  have hyw:Region.wanted oi (yielded L.toArray a.tmps)=Region.wanted oi (yielded (L.take n).toArray a.tmps):=by
   unfold Region.wanted
   have hg:=(List.all_eq_true.1 hgs) oi hmem
   cases hgu:oi.guard with
   | none=>rfl
   | some gb =>
    obtain ⟨g,b⟩:=gb
    rw [hgu] at hg
    have hgn:g < n:=by simpa using hg
    simp only
    unfold yielded
    rw [hget g hgn]
  rw [hyw]
  split at hh
  ·rename_i hw
   rw [if_pos hw]
   exact .inl (opR_mono hK (fun _ _ _ h=>h) (fun _ _ h=>h) (hh.resolve_right fun h=>h))
  rename_i hw
  rw [if_neg hw]
  exact hK _ _ hh
 have pg:∀ (x:Array Bool) (j:Nat) (d:Bool),x.size=n→j < n→(x.push false).getD j d=x.getD j d:=fun x j d hx hj=>by
  simp only [Array.getD_eq_getD_getElem?]
  rw [Array.getElem?_push,if_neg (by omega)]
 have pgn:∀ (x:Array Bool) (d:Bool),x.size=n→(x.push false).getD n d=false:=fun x d hx=>by
  simp only [Array.getD_eq_getD_getElem?]
  rw [Array.getElem?_push,if_pos hx.symm]; rfl
 have lift:∀ fuel (listed:Array Bool) a w,listed.size=n→(List.range n).countP (fun i=>!listed.getD i true)=fuel →
   (∀ j o,listed.getD j false=true→L.toArray[j]? = some o→∀ e∈o.after.toList,Region.binds .any e=true→listed.getD e.on false=true) →
   anyR P .any (L.take n).toArray Q2 fuel listed a w→anyR P .any L.toArray Q1 (fuel + 1) (listed.push false) a w:=by
  intro fuel
  induction fuel with
  | zero =>
   intro listed a w hls hcnt hcl hh
   have hall:∀ i,i < n→listed.getD i true=true:=fun i hi=>by
    have:=List.countP_eq_zero.1 hcnt i (by simpa using hi)
    simpa using this
   have hallf:∀ i,i < n→listed.getD i false=true:=fun i hi=>by
    have:=hall i hi
    simp only [Array.getD_eq_getD_getElem?,Array.getElem?_eq_getElem (show i < listed.size by omega)] at this ⊢
    exact this
   have hnr:n∈Region.ready .any L.toArray (listed.push false):=by
    unfold Region.ready
    rw [List.mem_filter]
    refine ⟨by simp; omega,?_⟩
    rw [pgn listed true hls,ho]
    simp only [Bool.not_false,Bool.true_and,Option.map_some,Option.getD_some]
    rw [Array.all_eq_true_iff_forall_mem]
    intro e he
    cases hb:Region.binds .any e with
    | false=>simp
    | true =>
     have hlt:=hedgeN e (by simpa using he) hb
     rw [pg listed _ _ hls hlt,hallf _ hlt]; simp
   refine ⟨fun hnil=>by rw [hnil] at hnr; simp at hnr,fun i hi=>?_⟩
   have hin:i=n:=by
    unfold Region.ready at hi
    rw [List.mem_filter] at hi
    obtain ⟨h1,h2⟩:=hi
    have h1:i < n + 1:=by rw [← hsz]; simpa using h1
    by_cases hin:i < n
    ·rw [pg listed _ _ hls hin,hall i hin] at h2; simp at h2
    omega
   subst hin
   refine onR_mono (fun a w hq=>?_) hh.2
   refine ⟨?_,hq⟩
   unfold Region.ready
   rw [List.filter_eq_nil_iff]
   intro j hj
   have hj:j < i + 1:=by rw [← hsz]; simpa using hj
   have:((listed.push false).setIfInBounds i true).getD j true=true:=by
    simp only [Array.getD_eq_getD_getElem?]
    by_cases hji:i=j
    ·subst hji
     rw [Array.getElem?_setIfInBounds_self_of_lt (by simp; omega)]; rfl
    rw [Array.getElem?_setIfInBounds_ne hji]
    have:=pg listed j true hls (by omega)
    simp only [Array.getD_eq_getD_getElem?] at this
    rw [this]
    have:=hall j (by omega)
    simpa [Array.getD_eq_getD_getElem?] using this
   rw [this]; simp
  | succ fuel ih =>
   intro listed a w hls hcnt hcl hh
   have hex:∃ i,i < n∧listed.getD i true=false:=by
    have:0 < (List.range n).countP (fun i=>!listed.getD i true):=by omega
    obtain ⟨i,hi,h⟩:=List.countP_pos_iff.1 this
    exact ⟨i,by simpa using hi,by simpa using h⟩
   have tf:∀ i,i < n→listed.getD i true=listed.getD i false:=fun i hi=>by
    simp [Array.getD_eq_getD_getElem?,Array.getElem?_eq_getElem (show i < listed.size by omega)]
   have hmin:∃ i,i < n∧listed.getD i true=false∧∀ k,k < i→listed.getD k true=true:=by
    obtain ⟨i,hi,h⟩:=hex
    induction i using Nat.strongRecOn with
    | _ i ihh =>
     by_cases hall:∀ k,k < i→listed.getD k true=true
     ·exact ⟨i,hi,h,hall⟩
     simp only [Classical.not_forall] at hall
     obtain ⟨k,hk,hkn⟩:=hall
     exact ihh k hk (by omega) (by simpa using hkn)
   obtain ⟨hh1,hh2⟩:=hh
   have same:∀ i,i < n→(i∈Region.ready .any L.toArray (listed.push false)↔i∈Region.ready .any (L.take n).toArray listed):=by
    intro i hi
    unfold Region.ready
    rw [List.mem_filter,List.mem_filter]
    have e1:i∈List.range L.toArray.size↔i∈List.range (L.take n).toArray.size:=by
     rw [hsz,hsz',List.mem_range,List.mem_range]; omega
    rw [e1,pg listed _ _ hls hi,hget i hi]
    refine and_congr_right fun _=>?_
    have e2:((L.toArray[i]?).map (·.after.all fun e=>!Region.binds .any e || (listed.push false).getD e.on false)).getD false=((L.toArray[i]?).map (·.after.all fun e=>!Region.binds .any e || listed.getD e.on false)).getD false:=by
     cases hoi:L.toArray[i]? with
     | none=>rfl
     | some oi =>
      simp only [Option.map_some,Option.getD_some]
      rw [Bool.eq_iff_iff,Array.all_eq_true_iff_forall_mem,Array.all_eq_true_iff_forall_mem]
      refine forall_congr' fun e=>forall_congr' fun he=>?_
      cases hb:Region.binds .any e with
      | false=>simp
      | true =>
       have hlt:=hedge i oi (by rw [hget i hi]; exact hoi) e (by simpa using he) hb
       rw [pg listed _ _ hls (by omega)]
    rw [e2]
   refine ⟨fun hnil=>?_,fun i hi=>?_⟩
   ·exfalso
    obtain ⟨i,hi,hli,hbelow⟩:=hmin
    have hmem:i∈Region.ready .any L.toArray (listed.push false):=by
     unfold Region.ready
     rw [List.mem_filter]
     obtain ⟨oi,hoi⟩:∃ oi,L.toArray[i]? = some oi:=⟨L[i]'(by omega),by simp [List.getElem?_eq_getElem (show i < L.length by omega)]⟩
     refine ⟨by rw [hsz,List.mem_range]; omega,?_⟩
     rw [pg listed _ _ hls hi,hli,hoi]
     simp only [Bool.not_false,Bool.true_and,Option.map_some,Option.getD_some]
     rw [Array.all_eq_true_iff_forall_mem]
     intro e he
     cases hb:Region.binds .any e with
     | false=>simp
     | true =>
      have hlt:=hedge i oi (by rw [hget i hi]; exact hoi) e (by simpa using he) hb
      rw [pg listed _ _ hls (by omega),← tf _ (by omega),hbelow _ hlt]; simp
    rw [hnil] at hmem; simp at hmem
   have hin:i < n:=by
    have h1:i < n + 1:=by
     have:=hi
     unfold Region.ready at this
     rw [List.mem_filter] at this
     have:=this.1
     rw [hsz,List.mem_range] at this; exact this
    by_cases hin:i=n
    ·exfalso
     subst hin
     have hpre:∀ e∈o.after.toList,Region.binds .any e=true→listed.getD e.on false=true:=by
      intro e he hb
      unfold Region.ready at hi
      rw [List.mem_filter] at hi
      have h2:=hi.2
      rw [ho] at h2
      simp only [Option.map_some,Option.getD_some,Bool.and_eq_true] at h2
      have h3:=(Array.all_eq_true_iff_forall_mem.1 h2.2) e (by simpa using he)
      rw [hb] at h3
      have h4:=hedgeN e he hb
      rw [pg listed _ _ hls h4] at h3
      simpa using h3
     obtain ⟨k,hk,hkl⟩:=hex
     have hb:=(List.all_eq_true.1 hanc) k (by simpa using hk)
     have:=anc_in (D:=fun i=>listed.getD i false=true) hcl i i o (Nat.le_refl _) ho hpre k hb
     have h5:=tf k hk
     rw [hkl] at h5
     have this:listed.getD k false=true:=this
     rw [this] at h5; cases h5
    omega
   have hi':=(same i hin).1 hi
   refine conv i _ _ a w hin (fun a w hk=>?_) (hh2 i hi')
   have e3:(listed.push false).setIfInBounds i true=(listed.setIfInBounds i true).push false:=by
    apply Array.ext_getElem?
    intro k
    by_cases hki:i=k
    ·subst hki
     rw [Array.getElem?_setIfInBounds_self_of_lt (by simp; omega),Array.getElem?_push,if_neg (by simp; omega),Array.getElem?_setIfInBounds_self_of_lt (by omega)]
    rw [Array.getElem?_setIfInBounds_ne hki,Array.getElem?_push,Array.getElem?_push,Array.getElem?_setIfInBounds_ne hki]
    simp
   rw [e3]
   have hni:listed.getD i true=false:=by
    unfold Region.ready at hi'
    rw [List.mem_filter] at hi'
    have:=hi'.2
    rw [Bool.and_eq_true] at this
    simpa using this.1
   have hil:i < listed.size:=by omega
   have hlist:∀ k d,(listed.setIfInBounds i true).getD k d=if k=i then true else listed.getD k d:=by
    intro k d
    simp only [Array.getD_eq_getD_getElem?]
    by_cases hki:k=i
    ·subst hki; rw [Array.getElem?_setIfInBounds_self_of_lt hil,if_pos rfl]; rfl
    rw [Array.getElem?_setIfInBounds_ne (Ne.symm hki),if_neg hki]
   refine ih _ a w (by simpa using hls) ?_ (fun j oj hj hoj e he hb=>?_) hk
   ·have hsplit:∀ (l:List Nat),l.Nodup→i∈l→l.countP (fun i=>!listed.getD i true)=l.countP (fun k=>!(listed.setIfInBounds i true).getD k true) + 1:=by
     intro l
     induction l with
     | nil=>intro _ h; simp at h
     | cons x r ihl =>
      intro hnd hmem
      rw [List.nodup_cons] at hnd
      by_cases hxi:x=i
      ·subst hxi
       rw [List.countP_cons,List.countP_cons,hni,hlist,if_pos rfl]
       have:r.countP (fun i=>!listed.getD i true)=r.countP (fun k=>!(listed.setIfInBounds x true).getD k true):=by
        apply List.countP_congr
        intro k hk
        rw [hlist k true,if_neg (show ¬ k=x from fun e=>hnd.1 (e ▸ hk))]
       simp only [this,Bool.not_false,Bool.not_true,if_true,Bool.false_eq_true,if_false,Nat.add_zero]
      rw [List.countP_cons,List.countP_cons,hlist x,if_neg hxi,ihl hnd.2 (by rcases List.mem_cons.1 hmem with h | h; exact absurd h.symm hxi; exact h)]
      omega
    have:=hsplit (List.range n) List.nodup_range (by simpa using hin)
    omega
   rw [hlist] at hj ⊢
   by_cases hji:j=i
   ·subst hji
    have hpre:listed.getD e.on false=true:=by
     unfold Region.ready at hi'
     rw [List.mem_filter] at hi'
     have h2:=hi'.2
     rw [hget j hin,hoj] at h2
     simp only [Option.map_some,Option.getD_some,Bool.and_eq_true] at h2
     have h3:=(Array.all_eq_true_iff_forall_mem.1 h2.2) e (by simpa using he)
     rw [hb] at h3; simpa using h3
    rw [hpre]; simp
   rw [if_neg hji] at hj
   rw [hcl j oj hj hoj e he hb]; simp
 rw [hsz]
 have hrep:Array.replicate (n + 1) false=(Array.replicate n false).push false:=by
  rw [Array.replicate_succ]
 rw [hrep]
 refine lift n _ a _ (by simp) ?_ (fun j o hj _ _ _ _=>?_) (by rw [hsz'] at pre; exact pre)
 ·rw [List.countP_eq_length.2 fun i hi=>?_,List.length_range]
  have:i < n:=by simpa using hi
  simp [Array.getD_eq_getD_getElem?,this]
 exfalso
 simp only [Array.getD_eq_getD_getElem?,Array.getElem?_replicate] at hj
 split at hj<;>simp at hj
end
end Go.Pv

namespace Go.Proofs.Ytneglephfhiamaa
open Go.Pv
open Classical in
noncomputable def vP (A B:Nat→Int→Option Nat):Nat:=if h:∃ q,PG A B q then h.choose.length else 0
open Classical in
noncomputable def eP (A B:Nat→Int→Option Nat):Nat:=if h:∃ q,PG A B q then (PE (stQ A B h.choose) (List.range h.choose.length)).length else 0
theorem mrT_snoc {p:Nat × Nat} {z:List (Nat × Nat) × Nat} {s:E3} {l:List E3} {t:E3} : mrT p z s (l++[t])=mrS p (mrT p z s l) s t:=by
 unfold mrT
 rw [List.foldl_append]; rfl
theorem mrR_snoc {p:Nat × Nat} {e2:List E3} {z:List (Nat × Nat) × Nat} {l:List E3} {s:E3} : mrR p e2 z (l++[s])=mrT p (mrR p e2 z l) s e2:=by
 unfold mrR
 rw [List.foldl_append]; rfl
structure MRI (e1 e2:List E3) (q:List (Nat × Nat)):Prop where
 nd:q.Nodup
 hd:q.head? = some (0,0)
 con:∀ p∈q,∃ w,runW (sP (stE e1) (stE e2)) (0,0) w=some p
 pl:∀ p∈q,p.1∈plS e1∧p.2∈plS e2
def MRC (e1 e2:List E3) (q:List (Nat × Nat)) (p:Nat × Nat):Prop:=∀ s∈e1,∀ t∈e2,s.2.1=t.2.1→(s.1=p.1→t.1=p.2→(s.2.2,t.2.2)∈q)∧(s.2.2=p.1→t.2.2=p.2→(s.1,t.1)∈q)
theorem mri_zero {e1 e2:List E3} (d1:Det e1) (d2:Det e2):MRI e1 e2 [(0,0)]:=by
 refine ⟨by simp,rfl,fun p hp=>⟨[],by rw [List.mem_singleton.1 hp]; rfl⟩,fun p hp=>?_⟩
 rw [List.mem_singleton.1 hp]
 exact ⟨mem_plS.2 (.inl rfl),mem_plS.2 (.inl rfl)⟩
theorem MRI.len {e1 e2:List E3} {q:List (Nat × Nat)} (h:MRI e1 e2 q) (h1:e1.length≤400) (h2:e2.length≤400):q.length≤650000:=by
 have hh:q.length≤((plS e1).flatMap fun u=>(plS e2).map fun v=>(u,v)).length:=nd_le h.nd fun p hp=>by
  obtain ⟨a,b⟩:=h.pl p hp
  exact List.mem_flatMap.2 ⟨p.1,a,List.mem_map.2 ⟨p.2,b,rfl⟩⟩
 rw [flat_len,sum_all (fun u=>((plS e2).map fun v=>(u,v)).length) (plS e2).length _ fun u _=>List.length_map _] at hh
 have a1:=plS_len e1
 have a2:=plS_len e2
 have:(plS e2).length * (plS e1).length≤801 * 801:=Nat.mul_le_mul (by omega) (by omega)
 omega
theorem cnS_le (p:Nat × Nat) (s t:E3):cnS p s t≤1:=by unfold cnS; split<;>omega
theorem sum_le1 {α:Type} (f:α→Nat) (k:Nat):∀ l:List α,(∀ x∈l,f x≤k)→(l.map f).sum≤l.length * k
 | [],_=>by simp
 | x :: l,h=>by
  have h1:=sum_le1 f k l fun y hy=>h y (by simp [hy])
  have h2:=h x (by simp)
  simp only [List.map_cons,List.sum_cons,List.length_cons,Nat.add_mul]
  omega
theorem mrT_le (p:Nat × Nat) (z:List (Nat × Nat) × Nat) (s:E3) (l:List E3):(mrT p z s l).2≤z.2 + l.length:=by
 rw [mrT_cnt]
 have:=sum_le1 (fun t=>cnS p s t) 1 l fun t _=>cnS_le p s t
 omega
theorem mrR_le (p:Nat × Nat) (e2:List E3) (z:List (Nat × Nat) × Nat) (l:List E3):(mrR p e2 z l).2≤z.2 + l.length * e2.length:=by
 rw [mrR_cnt]
 have:=sum_le1 (fun s=>(e2.map fun t=>cnS p s t).sum) e2.length l fun s _=>by
  have:=sum_le1 (fun t=>cnS p s t) 1 e2 fun t _=>cnS_le p s t
  omega
 omega
theorem cnL_le (e1 e2:List E3) (p:Nat × Nat):(cnL e1 e2 p).length≤e1.length * e2.length:=by
 rw [cnL_len]
 exact sum_le1 (fun s=>(e2.map fun t=>cnS p s t).sum) e2.length e1 fun s _=>by
  have:=sum_le1 (fun t=>cnS p s t) 1 e2 fun t _=>cnS_le p s t
  omega
theorem hd_appP {q r:List (Nat × Nat)} {p:Nat × Nat} (h:q.head? = some p):(q++r).head? = some p:=by
 cases q with
 | nil=>cases h
 | cons a l=>exact h
section
variable {e1 e2:List E3} (d1:Det e1) (d2:Det e2) (p1:∀ t∈e1,0 < t.2.1)
include d1 d2 p1
theorem mri_see {p:Nat × Nat} (hp:∃ w,runW (sP (stE e1) (stE e2)) (0,0) w=some p) {s t:E3} (hs:s∈e1) (ht:t∈e2) (hl:s.2.1=t.2.1) :
  (s.1=p.1→t.1=p.2→(∃ w,runW (sP (stE e1) (stE e2)) (0,0) w=some (s.2.2,t.2.2))∧s.2.2∈plS e1∧t.2.2∈plS e2)∧(s.2.2=p.1→t.2.2=p.2→(∃ w,runW (sP (stE e1) (stE e2)) (0,0) w=some (s.1,t.1))∧s.1∈plS e1∧t.1∈plS e2):=by
 have h:=pg_step d1 d2 p1 hp hs ht hl
 exact ⟨fun a b=>⟨h.1 a b,mem_plS.2 (.inr ⟨s,hs,.inr rfl⟩),mem_plS.2 (.inr ⟨t,ht,.inr rfl⟩)⟩,fun a b=>⟨h.2 a b,mem_plS.2 (.inr ⟨s,hs,.inl rfl⟩),mem_plS.2 (.inr ⟨t,ht,.inl rfl⟩)⟩⟩
theorem MRI.rr {q:List (Nat × Nat)} (h:MRI e1 e2 q) {p:Nat × Nat} (hp:p∈q) (n:Nat) {l:List E3} (hl:∀ s∈l,s∈e1) :
  MRI e1 e2 (mrR p e2 (q,n) l).1∧(∃ r,(mrR p e2 (q,n) l).1=q++r)∧∀ s∈l,∀ t∈e2,s.2.1=t.2.1→(s.1=p.1→t.1=p.2→(s.2.2,t.2.2)∈(mrR p e2 (q,n) l).1)∧(s.2.2=p.1→t.2.2=p.2→(s.1,t.1)∈(mrR p e2 (q,n) l).1):=by
 obtain ⟨⟨r,a⟩,b,c,d⟩:=mrR_keep (P:=fun x=>(∃ w,runW (sP (stE e1) (stE e2)) (0,0) w=some x)∧x.1∈plS e1∧x.2∈plS e2) (p:=p) (e2:=e2) l (q,n) (fun s hs t ht hx=>mri_see d1 d2 p1 (h.con p hp) (hl s hs) ht hx) h.nd fun x hx=>⟨h.con x hx,h.pl x hx⟩
 exact ⟨⟨b,by rw [a]; exact hd_appP h.hd,fun x hx=>(c x hx).1,fun x hx=>(c x hx).2⟩,⟨r,a⟩,d⟩
theorem MRI.tt {q:List (Nat × Nat)} (h:MRI e1 e2 q) {p:Nat × Nat} (hp:p∈q) (n:Nat) {s:E3} (hs:s∈e1) {l:List E3} (hl:∀ t∈l,t∈e2) :
  MRI e1 e2 (mrT p (q,n) s l).1∧(∃ r,(mrT p (q,n) s l).1=q++r):=by
 obtain ⟨⟨r,a⟩,b,c,d⟩:=mrT_keep (P:=fun x=>(∃ w,runW (sP (stE e1) (stE e2)) (0,0) w=some x)∧x.1∈plS e1∧x.2∈plS e2) (p:=p) (s:=s) l (q,n) (fun t ht hx=>mri_see d1 d2 p1 (h.con p hp) hs (hl t ht) hx) h.nd fun x hx=>⟨h.con x hx,h.pl x hx⟩
 exact ⟨⟨b,by rw [a]; exact hd_appP h.hd,fun x hx=>(c x hx).1,fun x hx=>(c x hx).2⟩,⟨r,a⟩⟩
end
def mrA (p:Nat × Nat) (z:List (Nat × Nat) × Nat) (s t:E3):List (Nat × Nat) × Nat:=if s.1=p.1∧t.1=p.2 then (addP z.1 (s.2.2,t.2.2),z.2 + 1) else z
theorem mrS_two {p:Nat × Nat} {z:List (Nat × Nat) × Nat} {s t:E3} (h:s.2.1=t.2.1):mrS p z s t=if s.2.2=p.1∧t.2.2=p.2 then (addP (mrA p z s t).1 (s.1,t.1),(mrA p z s t).2) else mrA p z s t:=by
 unfold mrS mrA
 rw [if_pos h]
theorem pg_vP {A B:Nat→Int→Option Nat} {q:List (Nat × Nat)} (hA:InvS A) (hB:InvS B) (g:PG A B q) (hlt:∀ q',PG A B q'→∀ p∈q',∀ x v,A p.1 x=some v→x ≠ 0∧-26≤x∧x≤26):vP A B=q.length∧eP A B=(PE (stQ A B q) (List.range q.length)).length:=by
 have h:∃ q,PG A B q:=⟨q,g⟩
 unfold vP eP
 rw [dif_pos h,dif_pos h]
 have hc:=h.choose_spec
 have:=cg_lang (hc.cg hA hB (hlt _ hc)) (g.cg hA hB (hlt _ g)) fun w=>by rw [hc.closed,g.closed]
 rw [List.length_range,List.length_range] at this
 exact this
set_option maxHeartbeats 16000000 in
set_option maxRecDepth 20000 in
theorem meetRank_c (e1 e2:List E3) (hl1:e1.length≤400) (hl2:e2.length≤400) (d1:Det e1) (d2:Det e2) (n1:e1.Nodup) (n2:e2.Nodup) (p1:∀ t∈e1,0 < t.2.1) (p2:∀ t∈e2,0 < t.2.1) (lt1:∀ t∈e1,t.2.1≤26) :
  FnC Try.prog 32 [.list (wl e1),.list (wl e2)] (.int .i64 ((eP (stE e1) (stE e2):Int) - vP (stE e1) (stE e2) + 1)):=by
 refine fnc_of tab_ok Try.func32 rfl (by kernel_rfl) (by rw [Try.ntmps32]; exact Nat.le_add_left 2 _) ?_; rw [Try.ntmps32]
 refine qm ?_
 refine hk_region fun K hK=>runs_eval tab_ok ?_
 simp only [evz,fl,gp,tab,simprocAttr]
 refine fin_run trivial (hK _ ?_)<;>clear hK K
 refine qa (qm ?_)
 refine hk_region fun K hK=>runs_at 1 (runs_eval tab_ok ?_)
 simp only [List.take_succ_cons,List.take_zero]
 simp only [evz,fl,gp,tab,simprocAttr]
 refine fin_run trivial ?_
 refine runs_op (buildS_does (n:=1) (sz:=2) tab_ok rfl rfl rfl rfl rfl rfl rfl (by repeat (first|exact trivial|constructor)) rfl (by decide)) rfl (by simp only [dstOk,Nat.reduceLT]) (runs_eval tab_ok ?_)
 simp only [evz,fl,gp,tab,simprocAttr]
 refine fin_run trivial (hK _ ?_)<;>clear hK K
 refine qa (qm ?_)
 refine hk_region fun K hK=>runs_eval tab_ok ?_
 simp only [evz,fl,gp,tab,simprocAttr]
 refine fin_stop ?_ (runs_op (makeCl_does rfl rfl) rfl (by simp only [dstOk,Nat.reduceLT]) (runs_eval tab_ok ?_))
 ·(first|exact trivial|omega|(simp only [In64] at *; omega)|(simp [In64] at *; omega)|(simp_all; done)|skip)
 simp only [evz,fl,gp,tab,simprocAttr]
 refine fin_run ?_ (hK _ ?_)<;>clear hK K
 ·(first|exact trivial|omega|(simp only [In64] at *; omega)|(simp [In64] at *; omega)|(simp_all; done)|skip)
 refine qa (qm ?_)
 refine hk_region fun K hK=>runs_eval tab_ok ?_
 simp only [evz,fl,gp,tab,simprocAttr]
 refine fin_run trivial (hK _ ?_)<;>clear hK K
 refine qa (qm (qm ?_))
 refine hk_region fun K hK=>runs_eval tab_ok ?_
 simp only [evz,fl,gp,tab,simprocAttr]
 refine fin_run trivial (hK _ ?_)<;>clear hK K
 refine qa (ql ?_)
 refine hk_loop (ι:=Nat × List (Nat × Nat) × Nat) (fun z=>⟨117,[(0,.p (.list (wl e1))),(1,.p (.list (wl e2))),(5,.ptr 1 0),(6,.cl 59 [.ptr 1 0]),(7,.p (.int .i64 (z.2.2:Nat))),(8,.p (.int .i64 (z.1:Nat)))],[.own (pf z.2.1),.own [.sls 0 0 z.2.1.length 2]]⟩) (fun z=>z.1≤z.2.1.length∧MRI e1 e2 z.2.1∧z.2.2=((z.2.1.take z.1).map fun p=>(cnL e1 e2 p).length).sum∧∀ j,j < z.1→MRC e1 e2 z.2.1 (z.2.1.getD j (0,0))) (fun z=>700000 - z.1) (0,[(0,0)],0) ⟨Nat.zero_le _,mri_zero d1 d2,rfl,fun j hj=>absurd hj (Nat.not_lt_zero _)⟩ [0,1] (by simp only [leq,leA,evz,fl,gp,tab,simprocAttr,pf_ren,pf_sc]<;>first|trivial|trace_state) fun z hz=>?_
 obtain ⟨k,q,n⟩:=z
 obtain ⟨z1,z2,z3,z4⟩:=hz
 simp only at z1 z2 z3 z4 ⊢
 have hql:=z2.len hl1 hl2
 have hee:e1.length * e2.length≤400 * 400:=Nat.mul_le_mul hl1 hl2
 have hn:n≤650000 * 160000:=by
  rw [z3]
  have:=sum_le1 (fun p=>(cnL e1 e2 p).length) (e1.length * e2.length) (q.take k) fun p _=>cnL_le e1 e2 p
  have h2:(q.take k).length * (e1.length * e2.length)≤650000 * 160000:=Nat.mul_le_mul (by rw [List.length_take]; omega) (by omega)
  omega
 refine qm (qm ?_)
 refine hk_region fun K hK=>runs_eval tab_ok ?_
 simp only [evz,fl,gp,tab,simprocAttr]
 refine fin_stop ?_ (runs_op (lenS_does tab_ok rfl rfl rfl rfl) rfl (by simp only [dstOk,Nat.reduceLT]) (runs_eval tab_ok ?_))
 ·(first|exact trivial|omega|(simp only [In64] at *; omega)|(simp [In64] at *; omega)|(simp_all; done)|skip)
 simp only [evz,fl,gp,tab,simprocAttr]
 refine fin_run ?_ (hK _ ?_)<;>clear hK K
 ·(first|exact trivial|omega|(simp only [In64] at *; omega)|(simp [In64] at *; omega)|(simp_all; done)|skip)
 refine qa ?_
 refine hk_cond rfl (fun hC1=>?_) (fun hC1=>?_)
 ·(try simp only [nhs] at hC1)
  have hk:k < q.length:=by omega
  have hat:=pf_at hk
  obtain ⟨p,hp⟩:∃ p,q.getD k (0,0)=p:=⟨_,rfl⟩
  rw [hp] at hat
  have hpm:p∈q:=by rw [← hp]; exact q_mem hk
  obtain ⟨pa,pb⟩:=p
  refine qh (qa (qm (ql (qm ?_))))
  refine hk_region fun K hK=>runs_eval tab_ok ?_
  simp only [evz,fl,gp,tab,simprocAttr,Int.toNat_natCast,Nat.zero_add,hat]
  refine fin_stop ?_ (runs_op (idxS_does tab_ok rfl rfl rfl rfl rfl rfl rfl (by omega) (by omega)) rfl (by simp only [dstOk,Nat.reduceLT]) (runs_eval tab_ok ?_))
  ·first|trivial|(rw [pf_len]; omega)|trace_state
  simp only [evz,fl,gp,tab,simprocAttr,Int.toNat_natCast,Nat.zero_add,hat]
  refine fin_run ?_ (hK _ ?_)<;>clear hK K
  ·first|trivial|(rw [pf_len]; omega)|trace_state
  refine qa (qm ?_)
  refine hk_region fun K hK=>runs_eval tab_ok ?_
  simp only [evz,fl,gp,tab,simprocAttr]
  refine fin_run trivial (hK _ ?_)<;>clear hK K
  refine qa (ql ?_)
  refine hk_loop (ι:=Nat × List (Nat × Nat) × Nat) (fun z=>⟨117,[(0,.p (.list (wl e1))),(1,.p (.list (wl e2))),(5,.ptr 1 0),(6,.cl 59 [.ptr 1 0]),(7,.p (.int .i64 (z.2.2:Nat))),(8,.p (.int .i64 (k:Nat))),(9,.ptr 2 0),(10,.p (.int .i64 (z.1:Nat)))],[.own (pf z.2.1),.own [.sls 0 0 z.2.1.length 2],.own [.p (.int .i64 pa),.p (.int .i64 pb)]]⟩) (fun z=>z.1≤e1.length∧z.2=mrR (pa,pb) e2 (q,n) (e1.take z.1)) (fun z=>e1.length - z.1) (0,q,n) ⟨Nat.zero_le _,rfl⟩ [0,1,2] (by simp only [leq,leA,evz,fl,gp,tab,simprocAttr,pf_ren,pf_sc]<;>first|trivial|trace_state) fun z hz=>?_
  obtain ⟨i,q1,m1⟩:=z
  obtain ⟨y1,y2⟩:=hz
  simp only at y1 y2 ⊢
  obtain ⟨hI1,⟨r1,hr1⟩,hS1⟩:=z2.rr d1 d2 p1 hpm n (l:=e1.take i) fun s hs=>List.mem_of_mem_take hs
  rw [← y2] at hI1 hr1 hS1
  simp only at hI1 hr1 hS1
  have hm1:m1≤n + 160000:=by
   have:=mrR_le (pa,pb) e2 (q,n) (e1.take i)
   rw [← y2] at this
   simp only at this
   have h2:(e1.take i).length * e2.length≤400 * 400:=Nat.mul_le_mul (by rw [List.length_take]; omega) hl2
   omega
  refine qm (qm ?_)
  refine hk_region fun K hK=>runs_eval tab_ok ?_
  simp only [evz,fl,gp,tab,simprocAttr,wl_len]
  refine fin_run trivial (hK _ ?_)<;>clear hK K
  refine qa ?_
  refine hk_cond rfl (fun hC2=>?_) (fun hC2=>?_)
  ·(try simp only [nhs] at hC2)
   have hi:i < e1.length:=by omega
   obtain ⟨s,hs⟩:∃ s,e1.getD i e3d=s:=⟨_,rfl⟩
   have hsm:s∈e1:=by rw [← hs]; exact mem_e3 hi
   have htk:e1.take (i + 1)=e1.take i++[s]:=by rw [take_snoc (d:=e3d) hi,hs]
   obtain ⟨sa,sx,sb⟩:=s
   refine qh (qa (qm (ql (qm ?_))))
   refine hk_region fun K hK=>runs_eval tab_ok ?_
   simp only [evz,fl,gp,tab,simprocAttr]
   refine fin_run trivial (hK _ ?_)<;>clear hK K
   refine qa (ql ?_)
   refine hk_loop (ι:=Nat × List (Nat × Nat) × Nat) (fun z=>⟨117,[(0,.p (.list (wl e1))),(1,.p (.list (wl e2))),(5,.ptr 1 0),(6,.cl 59 [.ptr 1 0]),(7,.p (.int .i64 (z.2.2:Nat))),(8,.p (.int .i64 (k:Nat))),(9,.ptr 2 0),(10,.p (.int .i64 (i:Nat))),(11,.p (.int .i64 (z.1:Nat)))],[.own (pf z.2.1),.own [.sls 0 0 z.2.1.length 2],.own [.p (.int .i64 pa),.p (.int .i64 pb)]]⟩) (fun z=>z.1≤e2.length∧z.2=mrT (pa,pb) (q1,m1) (sa,sx,sb) (e2.take z.1)) (fun z=>e2.length - z.1) (0,q1,m1) ⟨Nat.zero_le _,rfl⟩ [0,1,2] (by simp only [leq,leA,evz,fl,gp,tab,simprocAttr,pf_ren,pf_sc]<;>first|trivial|trace_state) fun z hz=>?_
   obtain ⟨j,q2,m2⟩:=z
   obtain ⟨x1,x2⟩:=hz
   simp only at x1 x2 ⊢
   obtain ⟨hI2,_⟩:=hI1.tt d1 d2 p1 (p:=(pa,pb)) (by rw [hr1]; exact List.mem_append.2 (.inl hpm)) m1 hsm (l:=e2.take j) fun t ht=>List.mem_of_mem_take ht
   rw [← x2] at hI2
   simp only at hI2
   have hm2:m2≤m1 + 400:=by
    have:=mrT_le (pa,pb) (q1,m1) (sa,sx,sb) (e2.take j)
    rw [← x2] at this
    simp only at this
    have h2:(e2.take j).length≤400:=by rw [List.length_take]; omega
    omega
   have hq2:=hI2.len hl1 hl2
   have hnd2:=hI2.nd
   refine qm (qm ?_)
   refine hk_region fun K hK=>runs_eval tab_ok ?_
   simp only [evz,fl,gp,tab,simprocAttr,wl_len]
   refine fin_run trivial (hK _ ?_)<;>clear hK K
   refine qa ?_
   refine hk_cond rfl (fun hC3=>?_) (fun hC3=>?_)
   ·(try simp only [nhs] at hC3)
    have hj:j < e2.length:=by omega
    obtain ⟨t,ht⟩:∃ t,e2.getD j e3d=t:=⟨_,rfl⟩
    have htm:t∈e2:=by rw [← ht]; exact mem_e3 hj
    have htk2:e2.take (j + 1)=e2.take j++[t]:=by rw [take_snoc (d:=e3d) hj,ht]
    obtain ⟨ta,tx,tb⟩:=t
    refine qh (qa (qm (ql (qm (qm ?_)))))
    refine hk_draw mixed (by kernel_rfl) fun K hK=>runs_eval tab_ok ?_
    simp only [evz,fl,gp,tab,simprocAttr,wl_len,wl_get hi,wl_get hj,hs,ht]
    refine fin_run ?_ (hK _ ?_)<;>clear hK K
    ·first|trivial|omega|trace_state
    refine qa ?_
    refine hk_cond rfl (fun hC4=>?_) (fun hC4=>?_)
    ·(try simp only [nhs] at hC4)
     refine qj (qc (qf (qa ?_)))
     refine hk_region fun K hK=>runs_eval tab_ok ?_
     simp only [evz,fl,gp,tab,simprocAttr]
     refine fin_run ?_ (hK _ ?_)<;>clear hK K
     ·(first|exact trivial|omega|(simp only [In64] at *; omega)|(simp [In64] at *; omega)|(simp_all; done)|skip)
     refine qa ?_
     have hne:¬ (sx=tx):=fun h=>by rw [h] at hC4; simp at hC4
     refine ⟨(j + 1,q2,m2),[0,1,2],⟨by simp only; omega,?_⟩,by simp only; omega,by simp only [leq,leA,evz,fl,gp,tab,simprocAttr,pf_ren,pf_sc]<;>first|trivial|trace_state⟩
     simp only
     rw [htk2,mrT_snoc,← x2,mrS,if_neg hne]
    (try simp only [nhs] at hC4)
    have hlt:sx=tx:=by simpa using hC4
    obtain ⟨za,hza⟩:∃ za,mrA (pa,pb) (q2,m2) (sa,sx,sb) (ta,tx,tb)=za:=⟨_,rfl⟩
    have hza2:=hza
    unfold mrA at hza2
    simp only at hza2
    obtain ⟨q3,m3⟩:=za
    have hnd3:q3.Nodup∧q3.length≤650001∧m3≤m2 + 1:=by
     by_cases h:sa=pa∧ta=pb
     ·rw [if_pos h] at hza2
      cases hza2
      refine ⟨nd_addP hnd2,?_,Nat.le_refl _⟩
      unfold addP
      split
      ·omega
      rw [List.length_append,List.length_singleton]; omega
     rw [if_neg h] at hza2
     cases hza2
     exact ⟨hnd2,by omega,by omega⟩
    obtain ⟨hnd3,hq3,hm3⟩:=hnd3
    refine qh (qa (qm (qm ?_)))
    by_cases g15a:(sa:Int)=(pa:Int)
    ·refine hk_draw mixed (by kernel_rfl) fun K hK=>runs_eval tab_ok ?_
     simp only [evz,fl,gp,tab,simprocAttr,wl_len,wl_get hi,wl_get hj,hs,ht,decide_eq_true g15a]
     refine fin_run ?_ (hK _ ?_)<;>clear hK K
     ·first|trivial|omega|trace_state
     refine qa ?_
     refine hk_cut (⟨117,[(0,.p (.list (wl e1))),(1,.p (.list (wl e2))),(5,.ptr 1 0),(6,.cl 59 [.ptr 1 0]),(7,.p (.int .i64 (m3:Nat))),(8,.p (.int .i64 (k:Nat))),(9,.ptr 2 0),(10,.p (.int .i64 (i:Nat))),(11,.p (.int .i64 (j:Nat)))],[.own (pf q3),.own [.sls 0 0 q3.length 2],.own [.p (.int .i64 pa),.p (.int .i64 pb)]]⟩) ?_ ?_
     ·refine hk_cond rfl (fun hC5=>?_) (fun hC5=>?_)
      ·(try simp only [nhs] at hC5)
       have hsp:sa=pa∧ta=pb:=by
        constructor
        ·omega
        first|omega|(simp at hC5; omega)
       rw [if_pos hsp] at hza2
       refine qm ?_
       refine hk_region fun K hK=>runs_eval tab_ok ?_
       simp only [evz,fl,gp,tab,simprocAttr]
       refine fin_run ?_ (hK _ ?_)<;>clear hK K
       ·(simp only [In64] at *; omega)
       refine qa ?_
       by_cases hm:(sb,tb)∈q2
       ·refine hk_drawL 12 mixed (by kernel_rfl) fun K hK=>runs_eval tab_ok ?_
        simp only [List.take_succ_cons,List.take_zero,List.drop_succ_cons,List.drop_zero]
        simp only [evz,fl,gp,tab,simprocAttr,wl_len,wl_get hi,wl_get hj,hs,ht]
        refine fin_run ?_ (runs_eval tab_ok ?_)
        ·first|trivial|omega|trace_state
        simp only [evz,fl,gp,tab,simprocAttr]
        refine fin_stop ?_ (runs_callMc [1,0] (at_old q2 sb tb (by omega) hnd2 hm) rfl rfl ?_ (by simp only [leA,pf_ren,pf_sc,evz,fl,gp,tab,simprocAttr]; first|trivial|(repeat constructor)) (by decide) (by first|rfl|(simp only [List.length_cons,List.length_nil,List.length_append]; decide)) (by simp only [scM,pf_sc,scA,sc1,mpKeep,notAnc,List.all_cons,List.all_nil,List.length_cons,List.length_nil]; first|rfl|decide|trivial|exact pf_sc _ _) (by simp only [dstOk,Nat.reduceLT]) (runs_eval tab_ok ?_))
        ·first|trivial|trace_state
        ·(simp only [argsM,argM1,peekG,peekS,scA,sc1,ren,ren1,pf_ren,List.map_cons,List.map_nil,List.append_nil,List.cons_append,List.nil_append,enA,evz,fl,gp,tab,simprocAttr]; try trivial)
        simp only [putM,hset,List.range',Blk.ren,ren,ren1,List.map_cons,List.map_nil,List.cons_append,List.nil_append,List.append_nil,List.length_cons,List.length_nil,evz,fl,gp,tab,simprocAttr,pf_ren]
        refine fin_run ?_ (hK _ ?_)<;>clear hK K
        ·first|trivial|trace_state
        unfold addP at hza2
        rw [if_pos hm] at hza2
        cases hza2
        refine ⟨rfl,[0,1,2],?_⟩
        simp only [leq,leA,evz,fl,gp,tab,simprocAttr,pf_ren,pf_sc]<;>first|trivial|omega|trace_state
       refine hk_drawL 12 mixed (by kernel_rfl) fun K hK=>runs_eval tab_ok ?_
       simp only [List.take_succ_cons,List.take_zero,List.drop_succ_cons,List.drop_zero]
       simp only [evz,fl,gp,tab,simprocAttr,wl_len,wl_get hi,wl_get hj,hs,ht]
       refine fin_run ?_ (runs_eval tab_ok ?_)
       ·first|trivial|omega|trace_state
       simp only [evz,fl,gp,tab,simprocAttr]
       refine fin_stop ?_ (runs_callMc [1,0] (at_new q2 sb tb (by omega) hm) rfl rfl ?_ (by simp only [leA,pf_ren,pf_sc,evz,fl,gp,tab,simprocAttr]; first|trivial|(repeat constructor)) (by decide) (by first|rfl|(simp only [List.length_cons,List.length_nil,List.length_append]; decide)) (by simp only [scM,pf_sc,scA,sc1,mpKeep,notAnc,List.all_cons,List.all_nil,List.length_cons,List.length_nil]; first|rfl|decide|trivial|exact pf_sc _ _) (by simp only [dstOk,Nat.reduceLT]) (runs_eval tab_ok ?_))
       ·first|trivial|trace_state
       ·(simp only [argsM,argM1,peekG,peekS,scA,sc1,ren,ren1,pf_ren,List.map_cons,List.map_nil,List.append_nil,List.cons_append,List.nil_append,enA,evz,fl,gp,tab,simprocAttr]; try trivial)
       simp only [putM,hset,List.range',Blk.ren,ren,ren1,List.map_cons,List.map_nil,List.cons_append,List.nil_append,List.append_nil,List.length_cons,List.length_nil,evz,fl,gp,tab,simprocAttr,pf_ren]
       refine fin_run ?_ (hK _ ?_)<;>clear hK K
       ·first|trivial|trace_state
       unfold addP at hza2
       rw [if_neg hm] at hza2
       cases hza2
       refine ⟨rfl,[3,1,2],?_⟩
       simp only [leq,leA,evz,fl,gp,tab,simprocAttr,pf_ren,pf_sc,List.length_append,List.length_singleton]<;>first|trivial|omega|trace_state
      (try simp only [nhs] at hC5)
      refine qh ?_
      have hsp:¬ (sa=pa∧ta=pb):=fun h=>by
       obtain ⟨rfl,rfl⟩:=h
       first
       | exact absurd rfl g15a
       | simp at hC5
      rw [if_neg hsp] at hza2
      cases hza2
      refine ⟨rfl,[0,1,2],?_⟩
      simp only [leq,leA,evz,fl,gp,tab,simprocAttr,pf_ren,pf_sc]<;>first|trivial|omega|trace_state
     refine qm ?_
     by_cases g18a:(sb:Int)=(pa:Int)
     ·refine hk_draw mixed (by kernel_rfl) fun K hK=>runs_eval tab_ok ?_
      simp only [evz,fl,gp,tab,simprocAttr,wl_len,wl_get hi,wl_get hj,hs,ht,decide_eq_true g18a]
      refine fin_run ?_ (hK _ ?_)<;>clear hK K
      ·first|trivial|omega|trace_state
      refine qa ?_
      refine hk_cond rfl (fun hC6=>?_) (fun hC6=>?_)
      ·(try simp only [nhs] at hC6)
       have hsp:sb=pa∧tb=pb:=by
        constructor
        ·omega
        first|omega|(simp at hC6; omega)
       have hS:=mrS_two (p:=(pa,pb)) (z:=(q2,m2)) (s:=(sa,sx,sb)) (t:=(ta,tx,tb)) hlt
       simp only at hS
       rw [if_pos hsp,hza] at hS
       by_cases hm:(sa,ta)∈q3
       ·refine hk_drawL 12 mixed (by kernel_rfl) fun K hK=>runs_eval tab_ok ?_
        simp only [List.take_succ_cons,List.take_zero,List.drop_succ_cons,List.drop_zero]
        simp only [evz,fl,gp,tab,simprocAttr,wl_len,wl_get hi,wl_get hj,hs,ht]
        refine fin_run ?_ (runs_eval tab_ok ?_)
        ·first|trivial|omega|trace_state
        simp only [evz,fl,gp,tab,simprocAttr]
        refine fin_stop ?_ (runs_callMc [1,0] (at_old q3 sa ta (by omega) hnd3 hm) rfl rfl ?_ (by simp only [leA,pf_ren,pf_sc,evz,fl,gp,tab,simprocAttr]; first|trivial|(repeat constructor)) (by decide) (by first|rfl|(simp only [List.length_cons,List.length_nil,List.length_append]; decide)) (by simp only [scM,pf_sc,scA,sc1,mpKeep,notAnc,List.all_cons,List.all_nil,List.length_cons,List.length_nil]; first|rfl|decide|trivial|exact pf_sc _ _) (by simp only [dstOk,Nat.reduceLT]) (runs_eval tab_ok ?_))
        ·first|trivial|trace_state
        ·(simp only [argsM,argM1,peekG,peekS,scA,sc1,ren,ren1,pf_ren,List.map_cons,List.map_nil,List.append_nil,List.cons_append,List.nil_append,enA,evz,fl,gp,tab,simprocAttr]; try trivial)
        simp only [putM,hset,List.range',Blk.ren,ren,ren1,List.map_cons,List.map_nil,List.cons_append,List.nil_append,List.append_nil,List.length_cons,List.length_nil,evz,fl,gp,tab,simprocAttr,pf_ren]
        refine fin_run ?_ (hK _ ?_)<;>clear hK K
        ·first|trivial|trace_state
        refine qd (qa ?_)
        refine hk_region fun K hK=>runs_eval tab_ok ?_
        simp only [evz,fl,gp,tab,simprocAttr]
        refine fin_run ?_ (hK _ ?_)<;>clear hK K
        ·(first|exact trivial|omega|(simp only [In64] at *; omega)|(simp [In64] at *; omega)|(simp_all; done)|skip)
        refine qa ?_
        skip
        unfold addP at hS
        rw [if_pos hm] at hS
        refine ⟨(j + 1,q3,m3),[0,1,2],⟨by simp only; omega,by simp only; rw [htk2,mrT_snoc,← x2,hS]⟩,by simp only; omega,by simp only [leq,leA,evz,fl,gp,tab,simprocAttr,pf_ren,pf_sc]<;>first|trivial|trace_state⟩
       refine hk_drawL 12 mixed (by kernel_rfl) fun K hK=>runs_eval tab_ok ?_
       simp only [List.take_succ_cons,List.take_zero,List.drop_succ_cons,List.drop_zero]
       simp only [evz,fl,gp,tab,simprocAttr,wl_len,wl_get hi,wl_get hj,hs,ht]
       refine fin_run ?_ (runs_eval tab_ok ?_)
       ·first|trivial|omega|trace_state
       simp only [evz,fl,gp,tab,simprocAttr]
       refine fin_stop ?_ (runs_callMc [1,0] (at_new q3 sa ta (by omega) hm) rfl rfl ?_ (by simp only [leA,pf_ren,pf_sc,evz,fl,gp,tab,simprocAttr]; first|trivial|(repeat constructor)) (by decide) (by first|rfl|(simp only [List.length_cons,List.length_nil,List.length_append]; decide)) (by simp only [scM,pf_sc,scA,sc1,mpKeep,notAnc,List.all_cons,List.all_nil,List.length_cons,List.length_nil]; first|rfl|decide|trivial|exact pf_sc _ _) (by simp only [dstOk,Nat.reduceLT]) (runs_eval tab_ok ?_))
       ·first|trivial|trace_state
       ·(simp only [argsM,argM1,peekG,peekS,scA,sc1,ren,ren1,pf_ren,List.map_cons,List.map_nil,List.append_nil,List.cons_append,List.nil_append,enA,evz,fl,gp,tab,simprocAttr]; try trivial)
       simp only [putM,hset,List.range',Blk.ren,ren,ren1,List.map_cons,List.map_nil,List.cons_append,List.nil_append,List.append_nil,List.length_cons,List.length_nil,evz,fl,gp,tab,simprocAttr,pf_ren]
       refine fin_run ?_ (hK _ ?_)<;>clear hK K
       ·first|trivial|trace_state
       refine qd (qa ?_)
       refine hk_region fun K hK=>runs_eval tab_ok ?_
       simp only [evz,fl,gp,tab,simprocAttr]
       refine fin_run ?_ (hK _ ?_)<;>clear hK K
       ·(first|exact trivial|omega|(simp only [In64] at *; omega)|(simp [In64] at *; omega)|(simp_all; done)|skip)
       refine qa ?_
       skip
       unfold addP at hS
       rw [if_neg hm] at hS
       refine ⟨(j + 1,q3++[(sa,ta)],m3),[3,1,2],⟨by simp only; omega,by simp only; rw [htk2,mrT_snoc,← x2,hS]⟩,by simp only; omega,by simp only [leq,leA,evz,fl,gp,tab,simprocAttr,pf_ren,pf_sc,List.length_append,List.length_singleton]<;>first|trivial|trace_state⟩
      (try simp only [nhs] at hC6)
      refine qh (qd (qa ?_))
      refine hk_region fun K hK=>runs_eval tab_ok ?_
      simp only [evz,fl,gp,tab,simprocAttr]
      refine fin_run ?_ (hK _ ?_)<;>clear hK K
      ·(first|exact trivial|omega|(simp only [In64] at *; omega)|(simp [In64] at *; omega)|(simp_all; done)|skip)
      refine qa ?_
      have hS:=mrS_two (p:=(pa,pb)) (z:=(q2,m2)) (s:=(sa,sx,sb)) (t:=(ta,tx,tb)) hlt
      simp only at hS
      have hsp:¬ (sb=pa∧tb=pb):=fun h=>by
       obtain ⟨rfl,rfl⟩:=h
       first
       | exact absurd rfl g18a
       | simp at hC6
      rw [if_neg hsp,hza] at hS
      refine ⟨(j + 1,q3,m3),[0,1,2],⟨by simp only; omega,by simp only; rw [htk2,mrT_snoc,← x2,hS]⟩,by simp only; omega,by simp only [leq,leA,evz,fl,gp,tab,simprocAttr,pf_ren,pf_sc]<;>first|trivial|trace_state⟩
     refine hk_draw mixed (by kernel_rfl) fun K hK=>runs_eval tab_ok ?_
     simp only [evz,fl,gp,tab,simprocAttr,wl_len,wl_get hi,wl_get hj,hs,ht,decide_eq_false g18a]
     refine fin_run ?_ (hK _ ?_)<;>clear hK K
     ·first|trivial|omega|trace_state
     refine qa ?_
     refine hk_cond rfl (fun hC6=>?_) (fun hC6=>?_)
     ·cases hC6
     refine qh (qd (qa ?_))
     refine hk_region fun K hK=>runs_eval tab_ok ?_
     simp only [evz,fl,gp,tab,simprocAttr]
     refine fin_run ?_ (hK _ ?_)<;>clear hK K
     ·(first|exact trivial|omega|(simp only [In64] at *; omega)|(simp [In64] at *; omega)|(simp_all; done)|skip)
     refine qa ?_
     have hS:=mrS_two (p:=(pa,pb)) (z:=(q2,m2)) (s:=(sa,sx,sb)) (t:=(ta,tx,tb)) hlt
     simp only at hS
     have hsp:¬ (sb=pa∧tb=pb):=fun h=>by
      obtain ⟨rfl,rfl⟩:=h
      first
      | exact absurd rfl g18a
      | simp at hC6
     rw [if_neg hsp,hza] at hS
     refine ⟨(j + 1,q3,m3),[0,1,2],⟨by simp only; omega,by simp only; rw [htk2,mrT_snoc,← x2,hS]⟩,by simp only; omega,by simp only [leq,leA,evz,fl,gp,tab,simprocAttr,pf_ren,pf_sc]<;>first|trivial|trace_state⟩
    refine hk_draw mixed (by kernel_rfl) fun K hK=>runs_eval tab_ok ?_
    simp only [evz,fl,gp,tab,simprocAttr,wl_len,wl_get hi,wl_get hj,hs,ht,decide_eq_false g15a]
    refine fin_run ?_ (hK _ ?_)<;>clear hK K
    ·first|trivial|omega|trace_state
    refine qa ?_
    refine hk_cut (⟨117,[(0,.p (.list (wl e1))),(1,.p (.list (wl e2))),(5,.ptr 1 0),(6,.cl 59 [.ptr 1 0]),(7,.p (.int .i64 (m3:Nat))),(8,.p (.int .i64 (k:Nat))),(9,.ptr 2 0),(10,.p (.int .i64 (i:Nat))),(11,.p (.int .i64 (j:Nat)))],[.own (pf q3),.own [.sls 0 0 q3.length 2],.own [.p (.int .i64 pa),.p (.int .i64 pb)]]⟩) ?_ ?_
    ·refine hk_cond rfl (fun hC5=>?_) (fun hC5=>?_)
     ·cases hC5
     refine qh ?_
     have hsp:¬ (sa=pa∧ta=pb):=fun h=>by
      obtain ⟨rfl,rfl⟩:=h
      first
      | exact absurd rfl g15a
      | simp at hC5
     rw [if_neg hsp] at hza2
     cases hza2
     refine ⟨rfl,[0,1,2],?_⟩
     simp only [leq,leA,evz,fl,gp,tab,simprocAttr,pf_ren,pf_sc]<;>first|trivial|omega|trace_state
    refine qm ?_
    by_cases g18a:(sb:Int)=(pa:Int)
    ·refine hk_draw mixed (by kernel_rfl) fun K hK=>runs_eval tab_ok ?_
     simp only [evz,fl,gp,tab,simprocAttr,wl_len,wl_get hi,wl_get hj,hs,ht,decide_eq_true g18a]
     refine fin_run ?_ (hK _ ?_)<;>clear hK K
     ·first|trivial|omega|trace_state
     refine qa ?_
     refine hk_cond rfl (fun hC6=>?_) (fun hC6=>?_)
     ·(try simp only [nhs] at hC6)
      have hsp:sb=pa∧tb=pb:=by
       constructor
       ·omega
       first|omega|(simp at hC6; omega)
      have hS:=mrS_two (p:=(pa,pb)) (z:=(q2,m2)) (s:=(sa,sx,sb)) (t:=(ta,tx,tb)) hlt
      simp only at hS
      rw [if_pos hsp,hza] at hS
      by_cases hm:(sa,ta)∈q3
      ·refine hk_drawL 12 mixed (by kernel_rfl) fun K hK=>runs_eval tab_ok ?_
       simp only [List.take_succ_cons,List.take_zero,List.drop_succ_cons,List.drop_zero]
       simp only [evz,fl,gp,tab,simprocAttr,wl_len,wl_get hi,wl_get hj,hs,ht]
       refine fin_run ?_ (runs_eval tab_ok ?_)
       ·first|trivial|omega|trace_state
       simp only [evz,fl,gp,tab,simprocAttr]
       refine fin_stop ?_ (runs_callMc [1,0] (at_old q3 sa ta (by omega) hnd3 hm) rfl rfl ?_ (by simp only [leA,pf_ren,pf_sc,evz,fl,gp,tab,simprocAttr]; first|trivial|(repeat constructor)) (by decide) (by first|rfl|(simp only [List.length_cons,List.length_nil,List.length_append]; decide)) (by simp only [scM,pf_sc,scA,sc1,mpKeep,notAnc,List.all_cons,List.all_nil,List.length_cons,List.length_nil]; first|rfl|decide|trivial|exact pf_sc _ _) (by simp only [dstOk,Nat.reduceLT]) (runs_eval tab_ok ?_))
       ·first|trivial|trace_state
       ·(simp only [argsM,argM1,peekG,peekS,scA,sc1,ren,ren1,pf_ren,List.map_cons,List.map_nil,List.append_nil,List.cons_append,List.nil_append,enA,evz,fl,gp,tab,simprocAttr]; try trivial)
       simp only [putM,hset,List.range',Blk.ren,ren,ren1,List.map_cons,List.map_nil,List.cons_append,List.nil_append,List.append_nil,List.length_cons,List.length_nil,evz,fl,gp,tab,simprocAttr,pf_ren]
       refine fin_run ?_ (hK _ ?_)<;>clear hK K
       ·first|trivial|trace_state
       refine qd (qa ?_)
       refine hk_region fun K hK=>runs_eval tab_ok ?_
       simp only [evz,fl,gp,tab,simprocAttr]
       refine fin_run ?_ (hK _ ?_)<;>clear hK K
       ·(first|exact trivial|omega|(simp only [In64] at *; omega)|(simp [In64] at *; omega)|(simp_all; done)|skip)
       refine qa ?_
       skip
       unfold addP at hS
       rw [if_pos hm] at hS
       refine ⟨(j + 1,q3,m3),[0,1,2],⟨by simp only; omega,by simp only; rw [htk2,mrT_snoc,← x2,hS]⟩,by simp only; omega,by simp only [leq,leA,evz,fl,gp,tab,simprocAttr,pf_ren,pf_sc]<;>first|trivial|trace_state⟩
      refine hk_drawL 12 mixed (by kernel_rfl) fun K hK=>runs_eval tab_ok ?_
      simp only [List.take_succ_cons,List.take_zero,List.drop_succ_cons,List.drop_zero]
      simp only [evz,fl,gp,tab,simprocAttr,wl_len,wl_get hi,wl_get hj,hs,ht]
      refine fin_run ?_ (runs_eval tab_ok ?_)
      ·first|trivial|omega|trace_state
      simp only [evz,fl,gp,tab,simprocAttr]
      refine fin_stop ?_ (runs_callMc [1,0] (at_new q3 sa ta (by omega) hm) rfl rfl ?_ (by simp only [leA,pf_ren,pf_sc,evz,fl,gp,tab,simprocAttr]; first|trivial|(repeat constructor)) (by decide) (by first|rfl|(simp only [List.length_cons,List.length_nil,List.length_append]; decide)) (by simp only [scM,pf_sc,scA,sc1,mpKeep,notAnc,List.all_cons,List.all_nil,List.length_cons,List.length_nil]; first|rfl|decide|trivial|exact pf_sc _ _) (by simp only [dstOk,Nat.reduceLT]) (runs_eval tab_ok ?_))
      ·first|trivial|trace_state
      ·(simp only [argsM,argM1,peekG,peekS,scA,sc1,ren,ren1,pf_ren,List.map_cons,List.map_nil,List.append_nil,List.cons_append,List.nil_append,enA,evz,fl,gp,tab,simprocAttr]; try trivial)
      simp only [putM,hset,List.range',Blk.ren,ren,ren1,List.map_cons,List.map_nil,List.cons_append,List.nil_append,List.append_nil,List.length_cons,List.length_nil,evz,fl,gp,tab,simprocAttr,pf_ren]
      refine fin_run ?_ (hK _ ?_)<;>clear hK K
      ·first|trivial|trace_state
      refine qd (qa ?_)
      refine hk_region fun K hK=>runs_eval tab_ok ?_
      simp only [evz,fl,gp,tab,simprocAttr]
      refine fin_run ?_ (hK _ ?_)<;>clear hK K
      ·(first|exact trivial|omega|(simp only [In64] at *; omega)|(simp [In64] at *; omega)|(simp_all; done)|skip)
      refine qa ?_
      skip
      unfold addP at hS
      rw [if_neg hm] at hS
      refine ⟨(j + 1,q3++[(sa,ta)],m3),[3,1,2],⟨by simp only; omega,by simp only; rw [htk2,mrT_snoc,← x2,hS]⟩,by simp only; omega,by simp only [leq,leA,evz,fl,gp,tab,simprocAttr,pf_ren,pf_sc,List.length_append,List.length_singleton]<;>first|trivial|trace_state⟩
     (try simp only [nhs] at hC6)
     refine qh (qd (qa ?_))
     refine hk_region fun K hK=>runs_eval tab_ok ?_
     simp only [evz,fl,gp,tab,simprocAttr]
     refine fin_run ?_ (hK _ ?_)<;>clear hK K
     ·(first|exact trivial|omega|(simp only [In64] at *; omega)|(simp [In64] at *; omega)|(simp_all; done)|skip)
     refine qa ?_
     have hS:=mrS_two (p:=(pa,pb)) (z:=(q2,m2)) (s:=(sa,sx,sb)) (t:=(ta,tx,tb)) hlt
     simp only at hS
     have hsp:¬ (sb=pa∧tb=pb):=fun h=>by
      obtain ⟨rfl,rfl⟩:=h
      first
      | exact absurd rfl g18a
      | simp at hC6
     rw [if_neg hsp,hza] at hS
     refine ⟨(j + 1,q3,m3),[0,1,2],⟨by simp only; omega,by simp only; rw [htk2,mrT_snoc,← x2,hS]⟩,by simp only; omega,by simp only [leq,leA,evz,fl,gp,tab,simprocAttr,pf_ren,pf_sc]<;>first|trivial|trace_state⟩
    refine hk_draw mixed (by kernel_rfl) fun K hK=>runs_eval tab_ok ?_
    simp only [evz,fl,gp,tab,simprocAttr,wl_len,wl_get hi,wl_get hj,hs,ht,decide_eq_false g18a]
    refine fin_run ?_ (hK _ ?_)<;>clear hK K
    ·first|trivial|omega|trace_state
    refine qa ?_
    refine hk_cond rfl (fun hC6=>?_) (fun hC6=>?_)
    ·cases hC6
    refine qh (qd (qa ?_))
    refine hk_region fun K hK=>runs_eval tab_ok ?_
    simp only [evz,fl,gp,tab,simprocAttr]
    refine fin_run ?_ (hK _ ?_)<;>clear hK K
    ·(first|exact trivial|omega|(simp only [In64] at *; omega)|(simp [In64] at *; omega)|(simp_all; done)|skip)
    refine qa ?_
    have hS:=mrS_two (p:=(pa,pb)) (z:=(q2,m2)) (s:=(sa,sx,sb)) (t:=(ta,tx,tb)) hlt
    simp only at hS
    have hsp:¬ (sb=pa∧tb=pb):=fun h=>by
     obtain ⟨rfl,rfl⟩:=h
     first
     | exact absurd rfl g18a
     | simp at hC6
    rw [if_neg hsp,hza] at hS
    refine ⟨(j + 1,q3,m3),[0,1,2],⟨by simp only; omega,by simp only; rw [htk2,mrT_snoc,← x2,hS]⟩,by simp only; omega,by simp only [leq,leA,evz,fl,gp,tab,simprocAttr,pf_ren,pf_sc]<;>first|trivial|trace_state⟩
   (try simp only [nhs] at hC3)
   refine qj (qc (qc (qf (qd (qa ?_)))))
   refine hk_region fun K hK=>runs_eval tab_ok ?_
   simp only [evz,fl,gp,tab,simprocAttr]
   refine fin_run ?_ (hK _ ?_)<;>clear hK K
   ·(first|exact trivial|omega|(simp only [In64] at *; omega)|(simp [In64] at *; omega)|(simp_all; done)|skip)
   refine qa ?_
   have hj:j=e2.length:=by omega
   refine ⟨(i + 1,q2,m2),[0,1,2],⟨by simp only; omega,by simp only; rw [htk,mrR_snoc,← y2,x2,hj,List.take_length]⟩,by simp only; omega,by simp only [leq,leA,evz,fl,gp,tab,simprocAttr,pf_ren,pf_sc]<;>first|trivial|trace_state⟩
  (try simp only [nhs] at hC2)
  refine qj (qc (qc (qf (qd (qa ?_)))))
  refine hk_region fun K hK=>runs_eval tab_ok ?_
  simp only [evz,fl,gp,tab,simprocAttr]
  refine fin_run ?_ (hK _ ?_)<;>clear hK K
  ·(first|exact trivial|omega|(simp only [In64] at *; omega)|(simp [In64] at *; omega)|(simp_all; done)|skip)
  refine qa ?_
  have hi:i=e1.length:=by omega
  rw [hi,List.take_length] at y2 hS1
  have hlen:q.length≤q1.length:=by rw [hr1,List.length_append]; omega
  have hget:∀ j,j < q.length→q1.getD j (0,0)=q.getD j (0,0):=fun j hj=>by
   rw [hr1,List.getD_eq_getElem?_getD,List.getElem?_append_left hj,← List.getD_eq_getElem?_getD]
  have htq:q1.take (k + 1)=q.take k++[(pa,pb)]:=by
   rw [hr1,List.take_append_of_le_length (by omega),take_snoc (d:=(0,0)) hk,hp]
  have hmn:m1=n + (cnL e1 e2 (pa,pb)).length:=by
   have:=mrR_cnt (pa,pb) e2 e1 (q,n)
   rw [← y2,← cnL_len] at this
   exact this
  refine ⟨(k + 1,q1,m1),[0,1],⟨by simp only; omega,hI1,by simp only; rw [htq,List.map_append,List.sum_append,← z3,hmn]; simp,fun j hj=>?_⟩,by simp only; omega,by simp only [leq,leA,evz,fl,gp,tab,simprocAttr,pf_ren,pf_sc]<;>first|trivial|trace_state⟩
  simp only at hj ⊢
  by_cases hjk:j < k
  ·rw [hget j (by omega)]
   intro s hs t ht hx
   have h:=z4 j hjk s hs t ht hx
   rw [hr1]
   exact ⟨fun a b=>List.mem_append.2 (.inl (h.1 a b)),fun a b=>List.mem_append.2 (.inl (h.2 a b))⟩
  obtain rfl:j=k:=by omega
  rw [hget j hk,hp]
  exact hS1
 (try simp only [nhs] at hC1)
 refine qj (qc (qc (qf (qa (qm ?_)))))
 refine hk_region fun K hK=>runs_eval tab_ok ?_
 simp only [evz,fl,gp,tab,simprocAttr]
 refine fin_stop ?_ (runs_op (lenS_does tab_ok rfl rfl rfl rfl) rfl (by simp only [dstOk,Nat.reduceLT]) (runs_eval tab_ok ?_))
 ·(first|exact trivial|omega|(simp only [In64] at *; omega)|(simp [In64] at *; omega)|(simp_all; done)|skip)
 simp only [evz,fl,gp,tab,simprocAttr]
 refine fin_run ?_ (hK _ ?_)<;>clear hK K
 ·(first|exact trivial|omega|(simp only [In64] at *; omega)|(simp [In64] at *; omega)|(simp_all; done)|skip)
 refine qa (qk ?_)
 simp only [Try.results32,enA,evz,fl,gp,tab,simprocAttr]
 have hk:k=q.length:=by omega
 rw [hk,List.take_length] at z3
 have g:PG (stE e1) (stE e2) q:=pg_of d1 d2 z2.nd z2.hd z2.con fun p hp=>by
  obtain ⟨h1,h2⟩:=ixq hp
  have:=z4 (q.idxOf p) (by omega)
  rw [h2] at this
  exact this
 have hc:=pairs_cnt d1 d2 n1 n2 p1 p2 g lt1
 obtain ⟨v1,v2⟩:=pg_vP (stE_inv d1) (stE_inv d2) g fun q' g' p hp x v h=>by
  rcases (stE_iff d1).1 h with ⟨a,b⟩ | ⟨a,b⟩
  ·have:=lt1 _ b
   simp only at this
   omega
  have:=lt1 _ b
  simp only at this
  omega
 rw [v1,v2,← hc,← z3]
end Go.Proofs.Ytneglephfhiamaa
