/-
  Texts of this proof, one behind the other: what each says stands at its head. Conditions: none.
-/
import Derived.Test.YtneglephfhiamaaB4
import Derived.Test.YtneglephfhiamaaB3
import Derived.Shelf.SlSortCmp.Whole1
import Derived.Shelf.Sort.Plain
import Derived.Shelf.Slices.In.SortNone
import Derived.ChangeKeysEq
import Derived.Test.YtneglephfhiamaaProg
import Derived.Shelf.Lays
import Derived.Test.YtneglephfhiamaaB2

set_option linter.all false
namespace Go.Proofs.Ytneglephfhiamaa
open Go.Pv
theorem tot_sn (L:List (List Int)) (w:List Int):tot (L++[w])=tot L + w.length:=by simp [tot]
theorem tot_tk (L:List (List Int)) (i:Nat):tot (L.take i)≤tot L:=by
 have:tot L=tot (L.take i) + tot (L.drop i):=by
  unfold tot
  rw [← List.length_append,← List.flatten_append,List.take_append_drop]
 omega
theorem take_snoc {α:Type} {L:List α} {i:Nat} {d:α} (h:i < L.length):L.take (i + 1)=L.take i++[L.getD i d]:=by
 rw [List.take_succ,List.getElem?_eq_getElem h,List.getD_eq_getElem?_getD,List.getElem?_eq_getElem h]; rfl
def Lt26 (w:List Int):Prop:=∀ x∈w,x ≠ 0∧-26≤x∧x≤26
theorem short_lt {w:List Int} (hw:Lt26 w):Lt26 (short w):=by
 have:∀ (w o:List Int),Lt26 w→Lt26 o→Lt26 (w.foldl push o):=by
  intro w
  induction w with
  | nil=>intro o _ ho; exact ho
  | cons x r ih =>
   intro o hw ho
   refine ih _ (fun y hy=>hw y (by simp [hy])) ?_
   unfold push
   split
   ·exact fun y hy=>ho y (List.mem_of_mem_take hy)
   ·intro y hy
    rcases List.mem_append.1 hy with h | h
    ·exact ho y h
    ·rw [List.mem_singleton] at h
     subst h
     exact hw _ (by simp)
 exact this w [] hw (fun x hx=>by simp at hx)
theorem edge_E {G:List Mp} {U:List Int} {s:St} {o:Oper} {fo:Operand} {args:Array Operand} {ts:Array TypeId} (ho:o.op = .call { callee:=.value fo,args:=args,argTypes:=ts }) (hfo:s.ev fo = .p (.fn 79 []))
  (w:WG G U) (hk:G.length≤100000000) {a b:Nat} {x:Int} (ha:a < G.length) (hb:b < G.length) (hx:x ≠ 0∧-26≤x∧x≤26) (hs:SymW G U [(a,x,b),(b,-x,a)]) (hH:s.H=GB G U)
  (hargs:args.toList.map s.ev++([]:List PV).map .p=[.ptr 0 0,.p (.int .i64 a),.p (.int .i64 x),.p (.int .i64 b)]) :
  DoesE Try.prog o s (fun av H'=>av = .p (.tup [])∧∃ G' U',H' = GB G' U'∧WG G' U'∧Nxt G U [(a,x,b),(b,-x,a)] G' U' []):=by
 have:=call_doesEP (X:=[]) ho hfo (edge_c w hk ha hb hx hs) (by rw [hH,List.append_nil]) hargs (by rw [GB_len]; simp [scA,sc1]) GB_all GB_na (by
  rintro r H1 ⟨rfl,G',U',rfl,h2,h3⟩
  exact GB_scP h3.len)
 intro C m a w K Q R hK
 refine this C m a w K Q R fun v m' w' av H' ⟨H1,⟨e,G',U',e1,e2,e3⟩,e4⟩ R2 hv=>hK v m' w' av H' ⟨e,G',U',?_,e2,e3⟩ R2 hv
 rw [e4,e1,List.append_nil]
set_option maxHeartbeats 4000000 in
set_option maxRecDepth 20000 in
theorem fold_c (L:List (List Int)) (hL:∀ w∈L,w.length≤1000000000∧Lt26 w) (hn:L.length≤1000000) (hb:tot (L.map short)≤10000000) :
  FnE Try.prog 48 [.p (.list (ll L))] [] (fun r H=>r = .ptr 0 0∧∃ G U,H=GB G U∧G.length≤10000001∧FI (L.map short) G U (L.map short) 0 []):=by
 obtain ⟨Post,hP⟩:∃ Post:AV→Heap→Prop,Post=(fun r H=>r = .ptr 0 0∧∃ G U,H=GB G U∧G.length≤10000001∧FI (L.map short) G U (L.map short) 0 []):=⟨_,rfl⟩
 rw [← hP]
 obtain ⟨S,hS⟩:∃ S,L.map short=S:=⟨_,rfl⟩
 rw [hS] at hb hP
 have hSl:S.length=L.length:=by rw [← hS]; simp
 refine fne_of tab_ok Try.func48 rfl (by kernel_rfl) (by rw [Try.ntmps48]; exact Nat.le_add_left 1 _) ?_; rw [Try.ntmps48]; simp only [ancs,entA,List.length_cons,List.length_nil,List.cons_append,List.nil_append,Nat.reduceAdd,Nat.zero_add]
 refine qm ?_
 refine hk_region fun K hK=>runs_eval tab_ok ?_
 simp only [ev0,evA,evB,evP,fl,gp,tab,simprocAttr]
 refine fin_run trivial (hK _ ?_)<;>clear hK<;>clear K
 refine qa (qm ?_)
 refine hk_region fun K hK=>runs_eval tab_ok ?_
 simp only [ev0,evA,evB,evP,fl,gp,tab,simprocAttr]
 refine fin_run ?_ (hK _ ?_)<;>clear hK<;>clear K
 ·(first|exact trivial|omega|(simp only [In64] at *; omega)|(simp [In64] at *; omega)|(simp_all; done)|skip)
 refine qa (qm ?_)
 refine hk_own0c 0 0 rfl rfl ?_
 refine hk_own0c 0 1 rfl rfl ?_
 refine hk_region fun K hK=>runs_eval tab_ok ?_
 simp only [ev0,evA,evB,evP,fl,gp,tab,simprocAttr]
 refine fin_stop ?_ (runs_place (G:=[]) (U:=[]) rfl (by decide) rfl rfl rfl rfl (by simp only [dstOk,Nat.reduceLT]) (runs_eval tab_ok ?_))
 ·exact trivial
 simp only [ev0,evA,evB,evP,fl,gp,tab,simprocAttr]
 refine fin_run trivial (hK _ ?_)<;>clear hK<;>clear K
 refine qa (qm (qm ?_))
 refine hk_region fun K hK=>runs_eval tab_ok ?_
 simp only [ev0,evA,evB,evP,fl,gp,tab,simprocAttr,ll_length]
 refine fin_run trivial (hK _ ?_)<;>clear hK<;>clear K
 refine qa (ql ?_)
 refine hk_loop (ι:=Nat × List Mp × List Int) (fun q=>⟨45,[(3,.ptr 0 0),(14,.p (.list (ll L))),(15,.p (.int .i64 L.length)),(16,.p (.int .i64 (q.1:Nat)))],GB q.2.1 q.2.2⟩) (fun q=>q.1≤L.length∧FI S q.2.1 q.2.2 (S.take q.1) 0 []∧q.2.1.length≤1 + tot (S.take q.1)) (fun q=>L.length - q.1) (0,[nul],[0]) ⟨Nat.zero_le _,fi_zero S,by simp [tot]⟩ _ (le_PB (G:=[]) (U:=[]) rfl rfl rfl rfl ?_) fun q hq=>?_
 ·exact ⟨rfl,rfl,rfl,rfl,rfl,rfl,rfl,rfl,trivial⟩
 obtain ⟨i,G,U⟩:=q
 obtain ⟨q1,q2,q3⟩:=hq
 simp only at q1 q2 q3 ⊢
 refine qm ?_
 refine hk_region fun K hK=>runs_eval tab_ok ?_
 simp only [ev0,evA,evB,evP,fl,gp,tab,simprocAttr]
 refine fin_run trivial (hK _ ?_)<;>clear hK<;>clear K
 refine qa (qm ?_)
 refine hk_cond rfl (fun hC1=>?_) (fun hC1=>?_)
 ·(try simp only [nhs] at hC1)
  have hi:i < L.length:=by omega
  refine qh (qa (qm (ql (qm ?_))))
  refine hk_region fun K hK=>runs_eval tab_ok ?_
  simp only [ev0,evA,evB,evP,fl,gp,tab,simprocAttr,ll_length,ll_get hi]
  refine fin_run ?_ (hK _ ?_)<;>clear hK<;>clear K
  ·omega
  refine qa (qm ?_)
  obtain ⟨hw1,hw2⟩:=hL (L.getD i []) (by rw [List.getD_eq_getElem?_getD,List.getElem?_eq_getElem hi]; exact List.getElem_mem hi)
  obtain ⟨w,hw⟩:∃ w,short (L.getD i [])=w:=⟨_,rfl⟩
  have hSi:S.getD i []=w:=by
   rw [← hS,← hw,List.getD_eq_getElem?_getD,List.getD_eq_getElem?_getD,List.getElem?_map,List.getElem?_eq_getElem hi]; rfl
  refine hk_region fun K hK=>runs_eval tab_ok ?_
  simp only [ev0,evA,evB,evP,fl,gp,tab,simprocAttr,hw]
  refine fin_stop trivial (runs_call (short_c (L.getD i []) hw1 (fun x hx=>(hw2 x hx).2)) rfl rfl rfl (by simp only [dstOk,Nat.reduceLT]) (by repeat (first|exact trivial|constructor)) (runs_eval tab_ok ?_))
  simp only [ev0,evA,evB,evP,fl,gp,tab,simprocAttr,hw]
  refine fin_run trivial (hK _ ?_)<;>clear hK<;>clear K
  refine qa (qm ?_)
  refine hk_region fun K hK=>runs_eval tab_ok ?_
  simp only [ev0,evA,evB,evP,fl,gp,tab,simprocAttr]
  refine fin_run trivial (hK _ ?_)<;>clear hK<;>clear K
  refine qa (qm ?_)
  refine hk_region fun K hK=>runs_eval tab_ok ?_
  simp only [ev0,evA,evB,evP,fl,gp,tab,simprocAttr,il_length]
  refine fin_run trivial (hK _ ?_)<;>clear hK<;>clear K
  refine qa (ql ?_)
  have hwl:Lt26 w:=hw ▸ short_lt hw2
  have htk:S.take (i + 1)=S.take i++[w]:=by rw [take_snoc (d:=[]) (by omega),hSi]
  have hmem:w∈S:=by rw [← hSi,List.getD_eq_getElem?_getD,List.getElem?_eq_getElem (by omega)]; exact List.getElem_mem _
  have htt:tot (S.take i) + w.length≤10000000:=by
   have:=tot_tk S (i + 1)
   rw [htk,tot_sn] at this
   omega
  refine hk_loop (ι:=Nat × Nat × List Mp × List Int) (fun q=>⟨45,[(3,.ptr 0 0),(5,.p (.list (il w))),(6,.p (.int .i64 (q.2.1:Nat))),(14,.p (.list (ll L))),(15,.p (.int .i64 L.length)),(16,.p (.int .i64 (i:Nat))),(22,.p (.list (il w))),(23,.p (.int .i64 w.length)),(24,.p (.int .i64 (q.1:Nat)))],GB q.2.2.1 q.2.2.2⟩)
   (fun q=>q.1≤w.length∧q.2.2.1.length≤1 + tot (S.take i) + q.1∧(q.1 < w.length→FI S q.2.2.1 q.2.2.2 (S.take i) q.2.1 (w.take q.1))∧(q.1=w.length→FI S q.2.2.1 q.2.2.2 (S.take (i + 1)) 0 [])) (fun q=>w.length - q.1) (0,0,G,U) ⟨Nat.zero_le _,q3,fun _=>q2,fun e=>?_⟩ (List.range (GB G U).length) (le_same rfl rfl (fun b hb=>(List.all_eq_true.1 GB_all) b hb) ?_) fun q hq=>?_
  ·have:w=[]:=List.eq_nil_of_length_eq_zero e.symm
   rw [htk,this]
   exact q2.nil
  ·simp [St.get,lk,scA,sc1,GB_len]
  obtain ⟨j,v,G1,U1⟩:=q
  obtain ⟨j1,j2,j3,j4⟩:=hq
  simp only at j1 j2 j3 j4 ⊢
  refine qm ?_
  refine hk_region fun K hK=>runs_eval tab_ok ?_
  simp only [ev0,evA,evB,evP,fl,gp,tab,simprocAttr]
  refine fin_run trivial (hK _ ?_)<;>clear hK<;>clear K
  refine qa (qm ?_)
  refine hk_cond rfl (fun hC2=>?_) (fun hC2=>?_)
  ·(try simp only [nhs] at hC2)
   have hj:j < w.length:=by omega
   have f1:=j3 hj
   obtain ⟨x,hx⟩:∃ x,w.getD j 0=x:=⟨_,rfl⟩
   have hx3:x ≠ 0∧-26≤x∧x≤26:=hwl x (by rw [← hx,List.getD_eq_getElem?_getD,List.getElem?_eq_getElem hj]; exact List.getElem_mem hj)
   have hws:w.take (j + 1)=w.take j++[x]:=by rw [take_snoc (d:=0) hj,hx]
   refine qh (qa (qm (ql (qm ?_))))
   refine hk_region fun K hK=>runs_eval tab_ok ?_
   simp only [ev0,evA,evB,evP,fl,gp,tab,simprocAttr,il_length,il_get hj,hx]
   refine fin_run ?_ (hK _ ?_)<;>clear hK<;>clear K
   ·omega
   refine qa (qm ?_)
   refine hk_region fun K hK=>runs_eval tab_ok ?_
   simp only [ev0,evA,evB,evP,fl,gp,tab,simprocAttr]
   refine fin_run trivial (hK _ ?_)<;>clear hK<;>clear K
   refine qa (qm (qm ?_))
   refine hk_region fun K hK=>runs_eval tab_ok ?_
   simp only [ev0,evA,evB,evP,fl,gp,tab,simprocAttr,il_length]
   refine fin_run ?_ (hK _ ?_)<;>clear hK<;>clear K
   ·(first|exact trivial|omega|(simp only [In64] at *; omega)|(simp [In64] at *; omega)|(simp_all; done)|skip)
   refine qa ?_
   refine hk_cond rfl (fun hC3=>?_) (fun hC3=>?_)
   ·(try simp only [nhs] at hC3)
    refine hk_region fun K hK=>runs_eval tab_ok ?_
    simp only [ev0,evA,evB,evP,fl,gp,tab,simprocAttr]
    refine fin_stop ?_ (runs_place (G:=G1) (U:=U1) f1.wg.len (by omega) rfl rfl rfl rfl (by simp only [dstOk,Nat.reduceLT]) (runs_eval tab_ok ?_))
    ·exact trivial
    simp only [ev0,evA,evB,evP,fl,gp,tab,simprocAttr]
    refine fin_run trivial (hK _ ?_)<;>clear hK<;>clear K
    refine qa (qm ?_)
    refine hk_le (s1:=⟨45,[(3,.ptr 0 0),(5,.p (.list (il w))),(6,.p (.int .i64 (v:Nat))),(8,.p (.int .i64 x)),(9,.p (.int .i64 (G1.length:Nat))),(14,.p (.list (ll L))),(15,.p (.int .i64 L.length)),(16,.p (.int .i64 (i:Nat))),(22,.p (.list (il w))),(23,.p (.int .i64 w.length)),(24,.p (.int .i64 (j:Nat)))],GB (G1++[nul]) (U1++[(U1.length:Int)])⟩) _ (le_PB f1.wg.len rfl rfl rfl ?_) ?_
    ·refine ⟨rfl,rfl,rfl,rfl,rfl,rfl,rfl,rfl,?_,rfl,rfl,rfl,rfl,rfl,rfl,rfl,rfl,rfl,rfl,rfl,rfl,rfl,trivial⟩
     show AV.p (.int .i64 (U1.length:Nat))=_
     rw [f1.wg.len]; rfl
    refine hk_regE 4 (runs_cut fun K hK=>?_)
    simp only [List.take_succ_cons,List.take_zero]
    refine runs_eval tab_ok ?_
    simp only [ev0,evA,evB,evP,fl,gp,tab,simprocAttr]
    refine fin_run trivial (hK _ ?_)<;>clear hK<;>clear K
    have hgl:(G1++[nul]).length=G1.length + 1:=by simp
    have hvl:=f1.lt
    refine ⟨_,_,rfl,rfl,by simp only [dstOk,Nat.reduceLT],edge_E rfl rfl f1.wg.place (by omega) (a:=v) (b:=G1.length) (x:=x) (by omega) (by omega) hx3 (sym_add (sym_place f1.wg f1.sym) _ _ _) rfl rfl,fun av H' hO=>?_⟩
    obtain ⟨rfl,G2,U2,rfl,w2,nx⟩:=hO
    refine runs_cut fun K hK=>?_
    simp only [List.drop_succ_cons,List.drop_zero]
    refine runs_eval tab_ok ?_
    simp only [ev0,evA,evB,evP,fl,gp,tab,simprocAttr]
    refine fin_run trivial (hK _ ?_)<;>clear hK<;>clear K
    refine qa ?_
    refine hk_region fun K hK=>runs_eval tab_ok ?_
    simp only [ev0,evA,evB,evP,fl,gp,tab,simprocAttr]
    refine fin_run trivial (hK _ ?_)<;>clear hK<;>clear K
    refine qd (qa ?_)
    refine hk_region fun K hK=>runs_eval tab_ok ?_
    simp only [ev0,evA,evB,evP,fl,gp,tab,simprocAttr]
    refine fin_run ?_ (hK _ ?_)<;>clear hK<;>clear K
    ·(first|exact trivial|omega|(simp only [In64] at *; omega)|(simp [In64] at *; omega)|(simp_all; done)|skip)
    refine qa ?_
    have hl2:=nx.len
    rw [hgl] at hl2
    refine ⟨(j + 1,G1.length,G2,U2),List.range (GB G2 U2).length,⟨by simp only; omega,by simp only; omega,fun _=>?_,fun h=>?_⟩,by simp only; omega,le_same rfl rfl (fun b hb=>(List.all_eq_true.1 GB_all) b hb) ?_⟩
    ·simp only
     rw [hws]; exact f1.put hx3.1 (r:=w.drop (j + 1)) (by rw [← hws,List.take_append_drop]; exact hmem) w2 nx
    ·simp only at h; omega
    ·simp [St.get,lk,scA,sc1,GB_len]
   ·(try simp only [nhs] at hC3)
    refine qh (qa (qm ?_))
    refine hk_regE 4 (runs_cut fun K hK=>?_)
    simp only [List.take_succ_cons,List.take_zero]
    refine runs_eval tab_ok ?_
    simp only [ev0,evA,evB,evP,fl,gp,tab,simprocAttr]
    refine fin_run trivial (hK _ ?_)<;>clear hK<;>clear K
    have hvl:=f1.lt
    refine ⟨_,_,rfl,rfl,by simp only [dstOk,Nat.reduceLT],edge_E rfl rfl f1.wg (by omega) (a:=v) (b:=0) (x:=x) (by omega) (by omega) hx3 (sym_add f1.sym _ _ _) rfl rfl,fun av H' hO=>?_⟩
    obtain ⟨rfl,G2,U2,rfl,w2,nx⟩:=hO
    refine runs_cut fun K hK=>?_
    simp only [List.drop_succ_cons,List.drop_zero]
    refine runs_eval tab_ok ?_
    simp only [ev0,evA,evB,evP,fl,gp,tab,simprocAttr]
    refine fin_run trivial (hK _ ?_)<;>clear hK<;>clear K
    refine qa ?_
    refine hk_region fun K hK=>runs_eval tab_ok ?_
    simp only [ev0,evA,evB,evP,fl,gp,tab,simprocAttr]
    refine fin_run trivial (hK _ ?_)<;>clear hK<;>clear K
    refine qd (qa ?_)
    refine hk_region fun K hK=>runs_eval tab_ok ?_
    simp only [ev0,evA,evB,evP,fl,gp,tab,simprocAttr]
    refine fin_run ?_ (hK _ ?_)<;>clear hK<;>clear K
    ·(first|exact trivial|omega|(simp only [In64] at *; omega)|(simp [In64] at *; omega)|(simp_all; done)|skip)
    refine qa ?_
    have hl2:=nx.len
    have hje:j + 1=w.length:=by omega
    have hwt:w.take j++[x]=w:=by rw [← hws,hje,List.take_length]
    refine ⟨(j + 1,0,G2,U2),List.range (GB G2 U2).length,⟨by simp only; omega,by simp only; omega,fun h=>?_,fun _=>?_⟩,by simp only; omega,le_same rfl rfl (fun b hb=>(List.all_eq_true.1 GB_all) b hb) ?_⟩
    ·simp only at h; omega
    ·have:=f1.back hx3.1 (by rw [hwt]; exact hmem) w2 nx
     rw [hwt] at this
     rw [htk]; exact this
    ·simp [St.get,lk,scA,sc1,GB_len]
  ·(try simp only [nhs] at hC2)
   refine qj (qc (qc (qf (qd (qa ?_)))))
   refine hk_region fun K hK=>runs_eval tab_ok ?_
   simp only [ev0,evA,evB,evP,fl,gp,tab,simprocAttr]
   refine fin_run ?_ (hK _ ?_)<;>clear hK<;>clear K
   ·(first|exact trivial|omega|(simp only [In64] at *; omega)|(simp [In64] at *; omega)|(simp_all; done)|skip)
   refine qa ?_
   have hje:j=w.length:=by omega
   refine ⟨(i + 1,G1,U1),List.range (GB G1 U1).length,⟨by simp only; omega,j4 hje,?_⟩,by simp only; omega,le_same rfl rfl (fun b hb=>(List.all_eq_true.1 GB_all) b hb) ?_⟩
   ·simp only
    rw [htk,tot_sn]; omega
   ·simp [St.get,lk,scA,sc1,GB_len]
 ·(try simp only [nhs] at hC1)
  refine qj (qc (qc (qf (qa (qm ?_)))))
  refine hk_region fun K hK=>runs_eval tab_ok ?_
  simp only [ev0,evA,evB,evP,fl,gp,tab,simprocAttr]
  refine fin_run trivial (hK _ ?_)<;>clear hK<;>clear K
  refine qa (qk ?_)
  simp only [Try.results48,PostG,endG,rvsA,rvA,mkTup,ev0,evA,evB,evP,fl,gp,tab,simprocAttr]
  have hie:i=L.length:=by omega
  have hSt:S.take i=S:=List.take_of_length_le (by omega)
  rw [hSt] at q2 q3
  refine ⟨.ptr 0 0,GB G U,by rw [hP]; exact ⟨rfl,G,U,rfl,by omega,q2⟩,List.range (GB G U).length,?_,?_,le_same rfl rfl (fun b hb=>(List.all_eq_true.1 GB_all) b hb) ?_⟩
  ·exact (ren_id (by simp [scA,sc1,GB_len])).symm
  ·simp [scA,sc1,GB_len]
  ·intro p hp; cases hp
end Go.Proofs.Ytneglephfhiamaa

set_option linter.all false
namespace Go.Proofs.Ytneglephfhiamaa
open Go.Pv
def stp (G:List Mp) (U:List Int) (u:Nat) (x:Int):Option Nat:=(gm G u x).map fun d=>rV U d.toNat
section
variable {G:List Mp} {U:List Int}
end
end Go.Proofs.Ytneglephfhiamaa

set_option linter.all false
namespace Go.Proofs.Ytneglephfhiamaa
open Go.Pv
def stR (G:List Mp) (U:List Int) (u:Nat) (x:Int):Option Nat:=if u < G.length∧rV U u=u then stp G U u x else none
def InvS {X:Type} (step:X→Int→Option X):Prop:=∀ c d x,x ≠ 0→step c x=some d→step d (-x)=some c
def Mem (S:List (List Int)) (w:List Int):Prop:=∀ (X:Type) (step:X→Int→Option X) (x0:X),InvS step→(∀ u∈S,runW step x0 u=some x0)→runW step x0 w=some x0
section
variable {G:List Mp} {U:List Int}
theorem stp_root (w:WG G U) {u d:Nat} {x:Int} (hu:u < G.length) (h:stp G U u x=some d):d < G.length∧rV U d=d:=by
 unfold stp at h
 cases e:gm G u x with
 | none=>rw [e] at h; cases h
 | some c =>
  rw [e] at h
  obtain rfl:=Option.some.inj h
  have hc:=(w.ent u x c hu e).2.1
  exact ⟨w.rlt hc,w.idem hc⟩
theorem stR_of {u:Nat} (h:u < G.length∧rV U u=u) (x:Int):stR G U u x=stp G U u x:=if_pos h
theorem stp_ed (w:WG G U) {u d:Nat} {x:Int} (h:u < G.length∧rV U u=u) (hd:rV U d=d):stp G U u x=some d↔Ed G U u x d:=by
 unfold stp Ed
 rw [h.2,hd]
 constructor
 ·intro e
  cases e2:gm G u x with
  | none=>rw [e2] at e; cases e
  | some c=>rw [e2] at e; exact ⟨c,rfl,Option.some.inj e⟩
 ·rintro ⟨c,a,b⟩
  rw [a]; exact congrArg some b
theorem stR_inv (w:WG G U) (hs:SymW G U []):InvS (stR G U):=fun c d x hx h=>by
 unfold stR at h
 split at h
 ·rename_i hc
  have hd:=stp_root w hc.1 h
  have he:=(stp_ed w hc hd.2).1 h
  rw [stR_of hd]
  exact (stp_ed w hd hc.2).2 (pe_nil.1 (hs _ _ _ hc.1 hd.1 (pe_nil.2 he)))
 ·cases h
theorem pth_run (w:WG G U):∀ (l:List Int) (u v:Nat),u < G.length→v < G.length→Pth G U u l v→runW (stR G U) (rV U u) l=some (rV U v)
 | [],u,v,hu,hv,h=>congrArg some h
 | x :: l,u,v,hu,hv,⟨m,hm,he,hp⟩=>by
  unfold runW
  have hr:rV U u < G.length∧rV U (rV U u)=rV U u:=⟨w.rlt hu,w.idem hu⟩
  have h1:stR G U (rV U u) x=some (rV U m):=by
   rw [stR_of hr]
   exact (stp_ed w hr (w.idem hm)).2 (he.mv hr.2.symm (w.idem hm).symm)
  rw [h1]
  exact pth_run w l m v hm hv hp
end
end Go.Proofs.Ytneglephfhiamaa

set_option linter.all false
namespace Go.Proofs.Ytneglephfhiamaa
open Go.Pv
def Re (e:List E3) (u:Nat) (x:Int) (v:Nat):Prop:=(0 < x∧(u,x,v)∈e)∨(x < 0∧(v,-x,u)∈e)
theorem Re.rev {e:List E3} {u v:Nat} {x:Int} (h:Re e u x v):Re e v (-x) u:=by
 rcases h with ⟨h1,h2⟩ | ⟨h1,h2⟩
 ·exact .inr ⟨by omega,by rw [Int.neg_neg]; exact h2⟩
 ·exact .inl ⟨by omega,h2⟩
def PthE (e:List E3):Nat→List Int→Nat→Prop
 | u,[],v=>u=v
 | u,x :: w,v=>∃ m,Re e u x m∧PthE e m w v
def rho (a b:Nat) (u:Nat):Nat:=if u=b then a else u
def rhoE (a b:Nat) (t:E3):E3:=(rho a b t.1,t.2.1,rho a b t.2.2)
theorem Re.map {e f:List E3} {a b:Nat} (h:∀ t∈e,rhoE a b t∈f) {u v:Nat} {x:Int} (hr:Re e u x v):Re f (rho a b u) x (rho a b v):=by
 rcases hr with ⟨h1,h2⟩ | ⟨h1,h2⟩
 ·exact .inl ⟨h1,h _ h2⟩
 ·exact .inr ⟨h1,h _ h2⟩
theorem PthE.map {e f:List E3} {a b:Nat} (h:∀ t∈e,rhoE a b t∈f):∀ {w:List Int} {u v:Nat},PthE e u w v→PthE f (rho a b u) w (rho a b v)
 | [],_,_,hp=>congrArg _ hp
 | x :: w,_,_,⟨m,h1,h2⟩=>⟨rho a b m,h1.map h,PthE.map h h2⟩
theorem PthE.mono {e f:List E3} (h:∀ t∈e,t∈f):∀ {w:List Int} {u v:Nat},PthE e u w v→PthE f u w v
 | [],_,_,hp=>hp
 | x :: w,_,_,⟨m,h1,h2⟩=>⟨m,h1.imp (fun ⟨p,q⟩=>⟨p,h _ q⟩) (fun ⟨p,q⟩=>⟨p,h _ q⟩),PthE.mono h h2⟩
def CmpE {X:Type} (step:X→Int→Option X) (κ:Nat→X) (e:List E3):Prop:=∀ t∈e,step (κ t.1) t.2.1=some (κ t.2.2)
def UniE (S:List (List Int)) (e:List E3):Prop:=∀ (X:Type) (step:X→Int→Option X) (x0:X),InvS step→(∀ w∈S,runW step x0 w=some x0)→∃ κ:Nat→X,κ 0=x0∧CmpE step κ e
def Clash (e:List E3) (a b:Nat):Prop:=∃ s∈e,∃ t∈e,s.2.1=t.2.1∧((s.1=t.1∧s.2.2=a∧t.2.2=b)∨(s.2.2=t.2.2∧s.1=a∧t.1=b))
theorem cmpE_clash {X:Type} {step:X→Int→Option X} {κ:Nat→X} {e:List E3} {a b:Nat} (hi:InvS step) (hp:∀ t∈e,0 < t.2.1) (h:CmpE step κ e) (hc:Clash e a b):κ a=κ b:=by
 obtain ⟨s,hs,t,ht,hx,⟨h1,rfl,rfl⟩ | ⟨h1,rfl,rfl⟩⟩:=hc
 ·have e1:=h s hs
  have e2:=h t ht
  rw [h1,hx,e2] at e1
  exact (Option.some.inj e1).symm
 ·have hxs:=hp s hs
  have hxt:=hp t ht
  have e1:=hi _ _ _ (by omega) (h s hs)
  have e2:=hi _ _ _ (by omega) (h t ht)
  rw [h1,hx,e2] at e1
  exact (Option.some.inj e1).symm
theorem UniE.join {S:List (List Int)} {e f:List E3} {a b:Nat} (h:UniE S e) (hp:∀ t∈e,0 < t.2.1) (hc:Clash e a b∨Clash e b a) (hb:b ≠ 0) (hf:∀ t∈f,∃ s∈e,rhoE a b s=t):UniE S f:=fun X step x0 hi hcl=>by
 obtain ⟨κ,k1,k2⟩:=h X step x0 hi hcl
 have hk:κ a=κ b:=by
  rcases hc with hc | hc
  ·exact cmpE_clash hi hp k2 hc
  ·exact (cmpE_clash hi hp k2 hc).symm
 have hr:∀ u,κ (rho a b u)=κ u:=fun u=>by
  unfold rho
  split
  ·rename_i e; rw [e,hk]
  ·rfl
 refine ⟨κ,k1,fun t ht=>?_⟩
 obtain ⟨s,hs,rfl⟩:=hf t ht
 show step (κ (rho a b s.1)) s.2.1=some (κ (rho a b s.2.2))
 rw [hr,hr]
 exact k2 s hs
structure FE (S:List (List Int)) (e:List E3):Prop where
 pos:∀ t∈e,0 < t.2.1
 cl:∀ w∈S,PthE e 0 w 0
 uni:UniE S e
theorem FE.join {S:List (List Int)} {e f:List E3} {a b:Nat} (h:FE S e) (hc:Clash e a b∨Clash e b a) (hb:b ≠ 0) (hf:∀ t∈f,∃ s∈e,rhoE a b s=t) (hf2:∀ t∈e,rhoE a b t∈f):FE S f:=by
 refine ⟨fun t ht=>?_,fun w hw=>?_,h.uni.join h.pos hc hb hf⟩
 ·obtain ⟨s,hs,rfl⟩:=hf t ht
  exact h.pos s hs
 ·have:=(h.cl w hw).map hf2
  have h0:rho a b 0=0:=if_neg (fun e=>hb e.symm)
  rwa [h0] at this
def Det (e:List E3):Prop:=∀ u x v v',Re e u x v→Re e u x v'→v=v'
theorem det_of {e:List E3} (h:∀ a b,Clash e a b→a=b):Det e:=fun u x v v' h1 h2=>by
 rcases h1 with ⟨p1,q1⟩ | ⟨p1,q1⟩<;>rcases h2 with ⟨p2,q2⟩ | ⟨p2,q2⟩
 ·exact h v v' ⟨_,q1,_,q2,rfl,.inl ⟨rfl,rfl,rfl⟩⟩
 ·omega
 ·omega
 ·exact h v v' ⟨_,q1,_,q2,rfl,.inr ⟨rfl,rfl,rfl⟩⟩
open Classical in
noncomputable def stE (e:List E3) (u:Nat) (x:Int):Option Nat:=if h:∃ v,Re e u x v then some h.choose else none
theorem stE_iff {e:List E3} (hd:Det e) {u v:Nat} {x:Int} : stE e u x=some v↔Re e u x v:=by
 unfold stE
 constructor
 ·intro h
  split at h
  ·rename_i hx
   obtain rfl:=Option.some.inj h
   exact hx.choose_spec
  ·cases h
 ·intro h
  have hx:∃ v,Re e u x v:=⟨v,h⟩
  rw [dif_pos hx]
  exact congrArg some (hd _ _ _ _ hx.choose_spec h)
theorem stE_inv {e:List E3} (hd:Det e):InvS (stE e):=fun c d x _ h=>(stE_iff hd).2 ((stE_iff hd).1 h).rev
theorem runE {e:List E3} (hd:Det e):∀ (w:List Int) (u v:Nat),runW (stE e) u w=some v↔PthE e u w v
 | [],u,v=>⟨fun h=>Option.some.inj h,fun h=>congrArg some h⟩
 | x :: w,u,v=>by
  unfold runW PthE
  constructor
  ·intro h
   cases e1:stE e u x with
   | none=>rw [e1] at h; cases h
   | some m=>rw [e1] at h; exact ⟨m,(stE_iff hd).1 e1,(runE hd w m v).1 h⟩
  ·rintro ⟨m,h1,h2⟩
   rw [(stE_iff hd).2 h1]
   exact (runE hd w m v).2 h2
end Go.Proofs.Ytneglephfhiamaa

set_option linter.all false
namespace Go.Proofs.Ytneglephfhiamaa
open Go.Pv
section
variable {G:List Mp} {U:List Int}
theorem stR_root (w:WG G U) {u d:Nat} {x:Int} (h:stR G U u x=some d):(u < G.length∧rV U u=u)∧d < G.length∧rV U d=d:=by
 unfold stR at h
 split at h
 ·rename_i hu
  exact ⟨hu,stp_root w hu.1 h⟩
 ·cases h
end
end Go.Proofs.Ytneglephfhiamaa

set_option linter.all false
namespace Go.Proofs.Ytneglephfhiamaa
open Go.Pv
abbrev Wy:=Int→Option (List Int)
def updW (f:Wy) (z:Int) (l:List Int):Wy:=fun u=>if u=z then some l else f u
structure BI (G:List Mp) (U:List Int) (lst:List Nat) (f:Wy):Prop where
 nd:lst.Nodup
 rt:∀ u∈lst,u < G.length∧rV U u=u
 hd:lst.head? = some 0
 dom:∀ z:Int,(f z).isSome=true↔∃ u∈lst,(u:Int)=z
 zero:f 0=some []
 tree:∀ j,j < lst.length→0 < j→∃ i x l,i < j∧f (lst.getD i 0:Nat)=some l∧f (lst.getD j 0:Nat)=some (l++[x])∧Ed G U (lst.getD i 0) x (lst.getD j 0)
 len:∀ z l,f z=some l→l.length < lst.length
section
variable {G:List Mp} {U:List Int}
theorem bi_zero (hz:rV U 0=0) (hp:0 < G.length):BI G U [0] (updW (fun _=>none) 0 []):=by
 refine ⟨by simp,fun u hu=>?_,rfl,fun z=>?_,rfl,fun j h1 h2=>?_,fun z l h=>?_⟩
 ·rw [List.mem_singleton] at hu; subst hu; exact ⟨hp,hz⟩
 ·unfold updW
  by_cases e:z=0
  ·subst e; simp
  ·rw [if_neg e]
   simp only [Option.isSome_none,Bool.false_eq_true,List.mem_singleton,exists_eq_left,false_iff]
   intro h; exact e (by rw [← h]; rfl)
 ·simp only [List.length_singleton] at h1; omega
 ·unfold updW at h
  split at h
  ·obtain rfl:=Option.some.inj h; simp
  ·cases h
theorem BI.snoc {lst : List Nat} {f : Wy} (h : BI G U lst f) {i u : Nat} {x : Int} {l : List Int} (hi : i < lst.length) (hl : f (lst.getD i 0 : Nat) = some l) (hu : u < G.length) (hr : rV U u = u) (he : Ed G U (lst.getD i 0) x u) (hn : f (u : Int) = none) :
    BI G U (lst ++ [u]) (updW f u (l ++ [x])) := by
  have hnm : u ∉ lst := fun hm => by
    have := (h.dom u).2 ⟨u, hm, rfl⟩
    rw [hn] at this; cases this
  have old : ∀ v ∈ lst, updW f u (l ++ [x]) (v : Nat) = f v := fun v hv => by
    unfold updW
    rw [if_neg fun e => hnm (by have : v = u := by omega
                                rw [← this]; exact hv)]
  have gl : ∀ j, j < lst.length → (lst ++ [u]).getD j 0 = lst.getD j 0 ∧ lst.getD j 0 ∈ lst := fun j hj => by
    rw [List.getD_eq_getElem?_getD, List.getElem?_append_left hj, ← List.getD_eq_getElem?_getD]
    refine ⟨rfl, ?_⟩
    rw [List.getD_eq_getElem?_getD, List.getElem?_eq_getElem hj]; exact List.getElem_mem hj
  refine ⟨?_, fun v hv => ?_, ?_, fun z => ?_, ?_, fun j h1 h2 => ?_, fun z l' hz => ?_⟩
  · rw [List.nodup_append]
    exact ⟨h.nd, by simp, fun a ha b hb => by rw [List.mem_singleton] at hb; subst hb; exact fun e => hnm (e ▸ ha)⟩
  · rcases List.mem_append.1 hv with hv | hv
    · exact h.rt v hv
    · rw [List.mem_singleton] at hv; subst hv; exact ⟨hu, hr⟩
  · have := h.hd
    cases lst with
    | nil => cases this
    | cons a r => exact this
  · unfold updW
    by_cases e : z = (u : Int)
    · rw [if_pos e]
      simp only [Option.isSome_some, List.mem_append, List.mem_singleton, true_iff]
      exact ⟨u, .inr rfl, e.symm⟩
    · rw [if_neg e, h.dom z]
      constructor
      · rintro ⟨v, hv, hz⟩; exact ⟨v, List.mem_append_left _ hv, hz⟩
      · rintro ⟨v, hv, hz⟩
        rcases List.mem_append.1 hv with hv | hv
        · exact ⟨v, hv, hz⟩
        · rw [List.mem_singleton] at hv; subst hv; exact absurd hz.symm e
  · have h0 : (0 : Nat) ∈ lst := by
      have := h.hd
      cases lst with
      | nil => cases this
      | cons a r => obtain rfl := Option.some.inj this; simp
    have := old 0 h0
    rw [show ((0 : Nat) : Int) = 0 from rfl] at this
    rw [this]; exact h.zero
  · rw [List.length_append, List.length_singleton] at h1
    by_cases hj : j < lst.length
    · obtain ⟨i', x', l', a1, a2, a3, a4⟩ := h.tree j hj h2
      obtain ⟨b1, b2⟩ := gl j hj
      obtain ⟨c1, c2⟩ := gl i' (by omega)
      refine ⟨i', x', l', a1, ?_, ?_, ?_⟩
      · rw [c1, old _ c2]; exact a2
      · rw [b1, old _ b2]; exact a3
      · rw [b1, c1]; exact a4
    · obtain rfl : j = lst.length := by omega
      obtain ⟨c1, c2⟩ := gl i hi
      have e : (lst ++ [u]).getD lst.length 0 = u := by simp
      refine ⟨i, x, l, hi, ?_, ?_, ?_⟩
      · rw [c1, old _ c2]; exact hl
      · rw [e]; unfold updW; rw [if_pos rfl]
      · rw [e, c1]; exact he
  · rw [List.length_append, List.length_singleton]
    unfold updW at hz
    split at hz
    · obtain rfl := Option.some.inj hz
      have := h.len _ _ hl
      rw [List.length_append, List.length_singleton]; omega
    · have := h.len _ _ hz; omega
theorem BI.up {U' : List Int} {lst:List Nat} {f:Wy} (h:BI G U lst f) (w:WG G U) (hr:∀ u,u < G.length→rV U' u=rV U u):BI G U' lst f:=by
 refine ⟨h.nd,fun u hu=>⟨(h.rt u hu).1,by rw [hr u (h.rt u hu).1]; exact (h.rt u hu).2⟩,h.hd,h.dom,h.zero,fun j h1 h2=>?_,h.len⟩
 obtain ⟨i,x,l,a1,a2,a3,a4⟩:=h.tree j h1 h2
 have m1:lst.getD i 0∈lst:=by rw [List.getD_eq_getElem?_getD,List.getElem?_eq_getElem (by omega)]; exact List.getElem_mem _
 have m2:lst.getD j 0∈lst:=by rw [List.getD_eq_getElem?_getD,List.getElem?_eq_getElem h1]; exact List.getElem_mem _
 exact ⟨i,x,l,a1,a2,a3,(Ed.rv w hr (h.rt _ m1).1 (h.rt _ m2).1).2 a4⟩
theorem BI.full {lst:List Nat} {f:Wy} (h:BI G U lst f) (w:WG G U) (hcl:∀ u∈lst,∀ x v,v < G.length→rV U v=v→Ed G U u x v→v∈lst) (hcon:∀ u,u < G.length→∃ l,Pth G U 0 l u):∀ u,u < G.length→rV U u=u→u∈lst:=by
 have h0:(0:Nat)∈lst:=by
  have:=h.hd
  cases lst with
  | nil=>cases this
  | cons a r=>obtain rfl:=Option.some.inj this; simp
 have go:∀ (l:List Int) (v u:Nat),v∈lst→u < G.length→rV U u=u→Pth G U v l u→u∈lst:=by
  intro l
  induction l with
  | nil =>
   intro v u hv hu hr hp
   have e:v=u:=by
    have h1:rV U v=rV U u:=hp
    rw [(h.rt v hv).2,hr] at h1; exact h1
   exact e ▸ hv
  | cons x l ih =>
   rintro v u hv hu hr ⟨m,hm,he,hp⟩
   have hm2:=w.rlt hm
   have hmr:=w.idem hm
   refine ih (rV U m) u (hcl v hv x (rV U m) hm2 hmr (he.mv rfl hmr.symm)) hu hr (hp.mv hmr.symm rfl)
 intro u hu hr
 obtain ⟨l,hl⟩:=hcon u hu
 exact go l 0 u h0 hu hr hl
end
end Go.Proofs.Ytneglephfhiamaa

set_option linter.all false
namespace Go.Proofs.Ytneglephfhiamaa
open Go.Pv
theorem nd_le {α:Type} [DecidableEq α]:∀ {a b:List α},a.Nodup→(∀ x∈a,x∈b)→a.length≤b.length
 | [],b,_,_=>Nat.zero_le _
 | x :: a,b,hn,h=>by
  have hx:=h x List.mem_cons_self
  have hn2:=List.nodup_cons.1 hn
  have:=nd_le (a:=a) (b:=b.erase x) hn2.2 fun y hy=>(List.mem_erase_of_ne (fun e:y=x=>hn2.1 (by rw [← e]; exact hy))).2 (h y (List.mem_cons_of_mem _ hy))
  rw [List.length_erase_of_mem hx] at this
  have h2:=List.length_pos_of_mem hx
  simp only [List.length_cons]; omega
theorem nd_eq {α:Type} [DecidableEq α] {a b:List α} (ha:a.Nodup) (hb:b.Nodup) (h:∀ x,x∈a↔x∈b):a.length=b.length:=
 Nat.le_antisymm (nd_le ha fun x=>(h x).1) (nd_le hb fun x=>(h x).2)
theorem nodup_mapF {α β:Type} {f:α→β} : ∀ {l:List α},l.Nodup→(∀ x∈l,∀ y∈l,f x=f y→x=y)→(l.map f).Nodup
 | [],_,_=>List.nodup_nil
 | x :: l,hn,h=>by
  have hn2:=List.nodup_cons.1 hn
  rw [List.map_cons,List.nodup_cons]
  refine ⟨fun hm=>?_,nodup_mapF hn2.2 fun a ha b hb=>h a (by simp [ha]) b (by simp [hb])⟩
  obtain ⟨y,hy,e⟩:=List.mem_map.1 hm
  have:=h y (by simp [hy]) x (by simp) e
  exact hn2.1 (this ▸ hy)
theorem nodup_flat {α β:Type} {g:α→List β} : ∀ {l:List α},l.Nodup→(∀ x∈l,(g x).Nodup)→(∀ x∈l,∀ y∈l,∀ z,z∈g x→z∈g y→x=y)→(l.flatMap g).Nodup
 | [],_,_,_=>List.nodup_nil
 | x :: l,hn,h,hd=>by
  have hn2:=List.nodup_cons.1 hn
  rw [List.flatMap_cons,List.nodup_append]
  refine ⟨h x (by simp),nodup_flat hn2.2 (fun y hy=>h y (by simp [hy])) fun a ha b hb=>hd a (by simp [ha]) b (by simp [hb]),fun a ha b hb e=>?_⟩
  subst e
  obtain ⟨y,hy,hb⟩:=List.mem_flatMap.1 hb
  have:=hd x (by simp) y (by simp [hy]) a ha hb
  exact hn2.1 (this ▸ hy)
section
variable {X:Type} {step:X→Int→Option X}
def Nz (w:List Int):Prop:=∀ x∈w,x ≠ 0
theorem Nz.app {v w:List Int} (hv:Nz v) (hw:Nz w):Nz (v++w):=fun x hx=>(List.mem_append.1 hx).elim (hv x) (hw x)
theorem Nz.back {w:List Int} (h:Nz w):Nz (back w):=fun x hx=>by
 unfold Go.Proofs.Ytneglephfhiamaa.back at hx
 obtain ⟨y,hy,rfl⟩:=List.mem_map.1 hx
 have:=h y (by simpa using hy)
 omega
theorem Nz.short {w:List Int} (h:Nz w):Nz (short w):=fun x hx=>h x (short_sub w x hx)
theorem Ok.nz {w:List Int} (h:Ok w):Nz w:=fun x hx=>(h x hx).1
theorem run_back (hi:InvS step):∀ {w:List Int} {c d:X},Nz w→runW step c w=some d→runW step d (back w)=some c
 | [],c,d,_,h=>by obtain rfl:=Option.some.inj h; rfl
 | x :: w,c,d,hz,h=>by
  unfold runW at h
  cases e:step c x with
  | none=>rw [e] at h; cases h
  | some m =>
   rw [e] at h
   have:=run_back hi (w:=w) (fun y hy=>hz y (by simp [hy])) h
   rw [back_cons,runW_app,this]
   show runW step m [-x]=some c
   unfold runW
   rw [hi c m x (hz x (by simp)) e]; rfl
theorem run_push (hi:InvS step) {o:List Int} {x:Int} {c d:X} (hz:Nz o) (h:runW step c (o++[x])=some d):runW step c (push o x)=some d:=by
 unfold push
 split
 ·rename_i hc
  obtain ⟨h1,h2⟩:=hc
  have e:=take_last h1
  rw [h2] at e
  rw [← e,List.append_assoc,runW_app] at h
  cases e1:runW step c (o.take (o.length - 1)) with
  | none=>rw [e1] at h; cases h
  | some m =>
   rw [e1] at h
   have h:runW step m [-x,x]=some d:=h
   unfold runW at h
   have hx : -x ≠ 0:=by
    rw [← h2,List.getD_eq_getElem?_getD,List.getElem?_eq_getElem (by omega)]; exact hz _ (List.getElem_mem _)
   cases e2:step m (-x) with
   | none=>rw [e2] at h; cases h
   | some k =>
    rw [e2] at h
    have h3:=hi m k (-x) hx e2
    rw [Int.neg_neg] at h3
    simp only [runW,h3] at h
    exact h
 ·exact h
theorem run_short (hi:InvS step) {w:List Int} {c d:X} (hz:Nz w) (h:runW step c w=some d):runW step c (short w)=some d:=by
 have go:∀ (w o:List Int),Nz o→Nz w→runW step c (o++w)=some d→runW step c (w.foldl push o)=some d:=by
  intro w
  induction w with
  | nil=>intro o _ _ h; rw [List.append_nil] at h; exact h
  | cons x r ih =>
   intro o ho hw h
   have hp:Nz (push o x):=fun y hy=>by
    unfold push at hy
    split at hy
    ·exact ho y (List.mem_of_mem_take hy)
    ·rcases List.mem_append.1 hy with hy | hy
     ·exact ho y hy
     ·rw [List.mem_singleton] at hy; subst hy; exact hw _ (by simp)
   refine ih _ hp (fun y hy=>hw y (by simp [hy])) ?_
   have e:o++x :: r=o++[x]++r:=by simp
   rw [e,runW_app] at h
   cases e1:runW step c (o++[x]) with
   | none=>rw [e1] at h; cases h
   | some m =>
    rw [e1] at h
    rw [runW_app,run_push hi ho e1]; exact h
 exact go w [] (fun x hx=>by simp at hx) hz (by simpa using h)
end
theorem short_undo {a b:List Int} (h:short (a++back b)=[]):short a=short b:=by
 have h1:short (short (a++back b)++b)=short (a++(back b++b)):=by rw [short_left,List.append_assoc]
 rw [h,List.nil_append,← short_right a,short_inv',List.append_nil] at h1
 exact h1.symm
theorem short_same {a b:List Int} (h:short a=short b):short (a++back b)=[]:=by
 rw [← short_left,h,short_left,short_inv]
end Go.Proofs.Ytneglephfhiamaa

set_option linter.all false
namespace Go.Proofs.Ytneglephfhiamaa
open Go.Pv
structure GT (step:Nat→Int→Option Nat) (lst:List Nat) (f:Wy):Prop where
 inv:InvS step
 nd:lst.Nodup
 hd:lst.head? = some 0
 dom:∀ z:Int,(f z).isSome=true↔∃ u∈lst,(u:Int)=z
 zero:f 0=some []
 tree:∀ j,j < lst.length→0 < j→∃ i x l,i < j∧f (lst.getD i 0:Nat)=some l∧f (lst.getD j 0:Nat)=some (l++[x])∧step (lst.getD i 0) x=some (lst.getD j 0)
 cl:∀ u∈lst,∀ x v,step u x=some v→v∈lst
 lt:∀ u∈lst,∀ x v,step u x=some v→x ≠ 0∧-26≤x∧x≤26
def wy (f:Wy) (u:Nat):List Int:=(f u).getD []
theorem nd_ix {l:List Nat} (h:l.Nodup) {i j:Nat} (hi:i < l.length) (hj:j < l.length) (e:l.getD i 0=l.getD j 0):i=j:=by
 rw [List.getD_eq_getElem?_getD,List.getD_eq_getElem?_getD,List.getElem?_eq_getElem hi,List.getElem?_eq_getElem hj] at e
 exact (List.getElem_inj h).1 e
theorem ix_of {l:List Nat} {u:Nat} (h:u∈l):∃ i,i < l.length∧l.getD i 0=u:=by
 obtain ⟨i,hi,e⟩:=List.getElem_of_mem h
 exact ⟨i,hi,by rw [List.getD_eq_getElem?_getD,List.getElem?_eq_getElem hi]; exact e⟩
theorem mem_ix {l:List Nat} {i:Nat} (h:i < l.length):l.getD i 0∈l:=by
 rw [List.getD_eq_getElem?_getD,List.getElem?_eq_getElem h]; exact List.getElem_mem h
section
variable {step:Nat→Int→Option Nat} {lst:List Nat} {f:Wy}
theorem GT.mem0 (g:GT step lst f):0∈lst:=List.mem_of_mem_head? (by rw [g.hd]; rfl)
theorem GT.ix0 (g:GT step lst f):0 < lst.length∧lst.getD 0 0=0:=by
 have:=g.hd
 cases hl:lst with
 | nil=>rw [hl] at this; cases this
 | cons a r=>rw [hl] at this; obtain rfl:=Option.some.inj this; exact ⟨by simp,rfl⟩
theorem GT.nz {u v:Nat} {x:Int} (g:GT step lst f) (hu:u∈lst) (h:step u x=some v):x ≠ 0:=(g.lt u hu x v h).1
theorem GT.ind (g:GT step lst f) {P:Nat→List Int→Prop} (h0:P 0 []) (hs:∀ u v x,u∈lst→v∈lst→step u x=some v→wy f v=wy f u++[x]→P u (wy f u)→P v (wy f u++[x])):∀ u∈lst,P u (wy f u):=by
 have go:∀ n j,j≤n→j < lst.length→P (lst.getD j 0) (wy f (lst.getD j 0)):=by
  intro n
  induction n with
  | zero =>
   intro j hj hl
   obtain rfl:j=0:=by omega
   rw [g.ix0.2]
   have:wy f 0=[]:=by unfold wy; rw [show ((0:Nat):Int)=0 from rfl,g.zero]; rfl
   rw [this]; exact h0
  | succ n ih =>
   intro j hj hl
   by_cases h:j=0
   ·exact ih j (by omega) hl
   obtain ⟨i,x,l,a1,a2,a3,a4⟩:=g.tree j hl (by omega)
   have e1:wy f (lst.getD i 0)=l:=by unfold wy; rw [a2]; rfl
   have e2:wy f (lst.getD j 0)=l++[x]:=by unfold wy; rw [a3]; rfl
   rw [e2,← e1]
   exact hs _ _ x (mem_ix (by omega)) (mem_ix hl) a4 (by rw [e1,e2]) (ih i (by omega) (by omega))
 intro u hu
 obtain ⟨i,hi,rfl⟩:=ix_of hu
 exact go i i (Nat.le_refl _) hi
theorem GT.wy0 (g:GT step lst f):wy f 0=[]:=by unfold wy; rw [show ((0:Nat):Int)=0 from rfl,g.zero]; rfl
theorem GT.run (g:GT step lst f):∀ u∈lst,runW step 0 (wy f u)=some u:=
 g.ind (P:=fun u l=>runW step 0 l=some u) rfl fun u v x hu hv hs _ ih=>by
  rw [runW_app,ih]
  show runW step u [x]=some v
  unfold runW; rw [hs]; rfl
theorem GT.ok (g:GT step lst f):∀ u∈lst,Ok (wy f u):=
 g.ind (P:=fun _ l=>Ok l) (fun x hx=>by simp at hx) fun u v x hu hv hs _ ih=>ih.app fun y hy=>by
  rw [List.mem_singleton] at hy; subst hy; exact g.lt u hu _ _ hs
theorem GT.inj (g:GT step lst f) {u v:Nat} (hu:u∈lst) (hv:v∈lst) (h:wy f u=wy f v):u=v:=by
 have h1:=g.run u hu
 rw [h,g.run v hv] at h1
 exact (Option.some.inj h1).symm
theorem red_snoc2 {l:List Int} {y x:Int} (h:Red (l++[y])) (hn:y ≠ -x):Red (l++[y]++[x]):=fun i hi=>by
 simp only [List.length_append,List.length_singleton] at hi
 by_cases e:i + 1 < (l++[y]).length
 ·rw [getD_app1 (by omega),getD_app1 e]; exact h i e
 ·simp only [List.length_append,List.length_singleton] at e
  obtain rfl:i=l.length:=by omega
  rw [getD_app1 (by simp),getD_app2 (by simp),getD_app2 (by simp)]
  simpa using hn
theorem red_one (x:Int):Red [x]:=fun i hi=>by simp at hi
theorem GT.par (g:GT step lst f) {j:Nat} (hj:j < lst.length) (h0:0 < j):∃ i x,i < j∧wy f (lst.getD j 0)=wy f (lst.getD i 0)++[x]∧step (lst.getD i 0) x=some (lst.getD j 0):=by
 obtain ⟨i,x,l,a1,a2,a3,a4⟩:=g.tree j hj h0
 refine ⟨i,x,a1,?_,a4⟩
 unfold wy; rw [a2,a3]; rfl
theorem GT.red (g:GT step lst f):∀ u∈lst,Red (wy f u):=by
 have go:∀ n j,j≤n→j < lst.length→Red (wy f (lst.getD j 0)):=by
  intro n
  induction n with
  | zero =>
   intro j hj hl
   obtain rfl:j=0:=by omega
   rw [g.ix0.2,g.wy0]
   exact fun i hi=>by simp at hi
  | succ n ih =>
   intro j hj hl
   by_cases h:j=0
   ·exact ih j (by omega) hl
   obtain ⟨i,x,a1,a2,a3⟩:=g.par hl (by omega)
   by_cases h2:i=0
   ·rw [a2,h2,g.ix0.2,g.wy0]; exact red_one x
   ·obtain ⟨k,y,b1,b2,b3⟩:=g.par (j:=i) (by omega) (by omega)
    have hr:=ih i (by omega) (by omega)
    rw [a2]
    rw [b2] at hr ⊢
    refine red_snoc2 hr fun e=>?_
    have hy:=g.nz (mem_ix (by omega)) b3
    have:=g.inv _ _ _ hy b3
    rw [show -y=x by omega,a3] at this
    have:=nd_ix g.nd hl (by omega) (Option.some.inj this)
    omega
 intro u hu
 obtain ⟨i,hi,rfl⟩:=ix_of hu
 exact go i i (Nat.le_refl _) hi
def ltS (step:Nat→Int→Option Nat) (u:Nat):List Int:=((List.range 53).map fun i:Nat=>(i:Int) - 26).filter fun x=>(step u x).isSome
theorem mem_ltS {u:Nat} {x:Int} : x∈ltS step u↔(-26≤x∧x≤26)∧(step u x).isSome=true:=by
 unfold ltS
 rw [List.mem_filter]
 refine and_congr ?_ Iff.rfl
 rw [List.mem_map]
 constructor
 ·rintro ⟨i,hi,rfl⟩
  have:=List.mem_range.1 hi
  omega
 ·intro h
  exact ⟨(x + 26).toNat,List.mem_range.2 (by omega),by omega⟩
theorem ltS_nd (u:Nat):(ltS step u).Nodup:=
 List.Nodup.sublist List.filter_sublist (nodup_mapF List.nodup_range fun a _ b _ e=>by omega)
def PE (step:Nat→Int→Option Nat) (lst:List Nat):List (Nat × Int):=lst.flatMap fun u=>((ltS step u).filter fun x=>decide (0 < x)).map fun x=>(u,x)
theorem mem_PE (g:GT step lst f) {u:Nat} {x:Int} : (u,x)∈PE step lst↔u∈lst∧0 < x∧(step u x).isSome=true:=by
 unfold PE
 rw [List.mem_flatMap]
 constructor
 ·rintro ⟨v,hv,h⟩
  obtain ⟨y,hy,e⟩:=List.mem_map.1 h
  injection e with e1 e2
  subst e1; subst e2
  have:=List.mem_filter.1 hy
  exact ⟨hv,by simpa using this.2,(mem_ltS.1 this.1).2⟩
 ·rintro ⟨hu,hx,hs⟩
  refine ⟨u,hu,List.mem_map.2 ⟨x,List.mem_filter.2 ⟨mem_ltS.2 ⟨?_,hs⟩,by simpa using hx⟩,rfl⟩⟩
  obtain ⟨v,hv⟩:=Option.isSome_iff_exists.1 hs
  exact (g.lt u hu x v hv).2
theorem PE_nd (h:lst.Nodup):(PE step lst).Nodup:=
 nodup_flat h (fun u _=>nodup_mapF (List.Nodup.sublist List.filter_sublist (ltS_nd u)) fun a _ b _ e=>by injection e) fun u _ v _ z hz1 hz2=>by
  obtain ⟨a,_,rfl⟩:=List.mem_map.1 hz1
  obtain ⟨b,_,e⟩:=List.mem_map.1 hz2
  injection e with e _
  exact e.symm
def tgt (step:Nat→Int→Option Nat) (e:Nat × Int):Nat:=(step e.1 e.2).getD 0
def bw (step:Nat→Int→Option Nat) (f:Wy) (e:Nat × Int):List Int:=short (wy f e.1++[e.2]++back (wy f (tgt step e)))
def basS (step:Nat→Int→Option Nat) (lst:List Nat) (f:Wy):List (List Int):=((PE step lst).map (bw step f)).filter fun w=>decide (0 < w.length)
def NT (step:Nat→Int→Option Nat) (lst:List Nat) (f:Wy):List (Nat × Int):=(PE step lst).filter fun e=>decide (0 < (bw step f e).length)
theorem basS_eq:basS step lst f=(NT step lst f).map (bw step f):=by
 unfold basS NT
 rw [List.filter_map]; rfl
theorem NT_nd (h:lst.Nodup):(NT step lst f).Nodup:=List.Nodup.sublist List.filter_sublist (PE_nd h)
theorem tgt_of {u v:Nat} {x:Int} (h:step u x=some v):tgt step (u,x)=v:=by unfold tgt; rw [h]; rfl
theorem PE_st (g:GT step lst f) {e:Nat × Int} (h:e∈PE step lst):e.1∈lst∧0 < e.2∧step e.1 e.2=some (tgt step e)∧tgt step e∈lst:=by
 obtain ⟨u,x⟩:=e
 obtain ⟨h1,h2,h3⟩:=(mem_PE g).1 h
 obtain ⟨v,hv⟩:=Option.isSome_iff_exists.1 h3
 rw [tgt_of hv]
 exact ⟨h1,h2,hv,g.cl u h1 x v hv⟩
theorem bw_nil (g:GT step lst f) {e:Nat × Int} (h:e∈PE step lst):(bw step f e=[]↔wy f (tgt step e)=wy f e.1++[e.2]∨wy f e.1=wy f (tgt step e)++[-e.2]):=by
 obtain ⟨h1,h2,h3,h4⟩:=PE_st g h
 have r1:=g.red _ h1
 have r2:=g.red _ h4
 have hs:short (wy f e.1++[e.2])=push (wy f e.1) e.2:=by
  rw [short_app,short_red r1]; rfl
 constructor
 ·intro hb
  have:=short_undo hb
  rw [hs,short_red r2] at this
  unfold push at this
  split at this
  ·rename_i hc
   right
   have:=take_last hc.1
   rw [hc.2] at this
   rename_i t
   rw [← t,this]
  ·exact .inl this.symm
 ·intro hb
  refine short_same ?_
  rw [hs,short_red r2]
  rcases hb with hb | hb
  ·rw [hb]
   unfold push
   rw [if_neg]
   rintro ⟨c1,c2⟩
   rw [hb] at r2
   have:=r2 ((wy f e.1).length - 1) (by simp; omega)
   rw [getD_app1 (by omega),getD_app2 (by omega),c2] at this
   rw [show (wy f e.1).length - 1 + 1 - (wy f e.1).length=0 by omega] at this
   exact this rfl
  ·unfold push
   rw [if_pos]
   ·rw [hb]; simp
   ·rw [hb]; simp
def teS (step:Nat→Int→Option Nat) (f:Wy) (c:Nat):Nat × Int:=
 let y:=(wy f c).getD ((wy f c).length - 1) 0
 if 0 < y then ((step c (-y)).getD 0,y) else (c,-y)
theorem teS_spec (g:GT step lst f) {j:Nat} (hj:j < lst.length) (h0:0 < j):∃ i x,i < j∧wy f (lst.getD j 0)=wy f (lst.getD i 0)++[x]∧step (lst.getD i 0) x=some (lst.getD j 0)∧teS step f (lst.getD j 0)=if 0 < x then (lst.getD i 0,x) else (lst.getD j 0,-x):=by
 obtain ⟨i,x,a1,a2,a3⟩:=g.par hj h0
 refine ⟨i,x,a1,a2,a3,?_⟩
 have hx:=g.nz (mem_ix (by omega)) a3
 have e:(wy f (lst.getD j 0)).getD ((wy f (lst.getD j 0)).length - 1) 0=x:=by rw [a2]; simp
 unfold teS
 simp only [e]
 split
 ·rw [g.inv _ _ _ hx a3]; rfl
 ·rfl
theorem tail_ix {l:List Nat} {c:Nat} : c∈l.tail↔∃ j,0 < j∧j < l.length∧l.getD j 0=c:=by
 cases l with
 | nil=>simp
 | cons a r =>
  simp only [List.tail_cons,List.length_cons]
  constructor
  ·intro h
   obtain ⟨i,hi,e⟩:=ix_of h
   exact ⟨i + 1,by omega,by omega,by simpa using e⟩
  ·rintro ⟨j,h1,h2,e⟩
   obtain ⟨k,rfl⟩:∃ k,j=k + 1:=⟨j - 1,by omega⟩
   rw [← e]
   have:(a :: r).getD (k + 1) 0=r.getD k 0:=by simp
   rw [this]; exact mem_ix (by omega)
theorem basS_len (g:GT step lst f):(basS step lst f).length + lst.length=(PE step lst).length + 1:=by
 rw [basS_eq,List.length_map]
 have hT:((PE step lst).filter fun e=>!decide (0 < (bw step f e).length)).length=lst.length - 1:=by
  have e1:(lst.tail.map (teS step f)).length=lst.length - 1:=by simp
  rw [← e1]
  have hspec:∀ c∈lst.tail,∃ p x,p∈lst∧c∈lst∧wy f c=wy f p++[x]∧step p x=some c∧teS step f c=if 0 < x then (p,x) else (c,-x):=fun c hc=>by
   obtain ⟨j,j1,j2,rfl⟩:=tail_ix.1 hc
   obtain ⟨i,x,a1,a2,a3,a4⟩:=teS_spec g j2 j1
   exact ⟨_,x,mem_ix (by omega),mem_ix j2,a2,a3,a4⟩
  refine nd_eq (List.Nodup.sublist List.filter_sublist (PE_nd g.nd)) (nodup_mapF (List.Nodup.sublist (List.tail_sublist _) g.nd) ?_) fun e=>?_
  ·intro c hc d hd e
   obtain ⟨p,x,p1,p2,p3,p4,p5⟩:=hspec c hc
   obtain ⟨q,y,q1,q2,q3,q4,q5⟩:=hspec d hd
   rw [p5,q5] at e
   have hx:=g.nz p1 p4
   have hy:=g.nz q1 q4
   split at e<;>split at e
   ·injection e with e1 e2
    subst e1; subst e2
    rw [p4] at q4; exact Option.some.inj q4
   ·injection e with e1 e2
    subst e1
    have h1:=p3
    have h2:=q3
    have h3:=g.inv _ _ _ hy q4
    rw [← e2,p4] at h3
    obtain rfl:=Option.some.inj h3
    rw [h1] at h2
    have:=congrArg List.length h2
    simp at this
   ·injection e with e1 e2
    subst e1
    have h3:=g.inv _ _ _ hx p4
    rw [e2,q4] at h3
    obtain rfl:=Option.some.inj h3
    rw [p3] at q3
    have:=congrArg List.length q3
    simp at this
   ·injection e with e1 _
  ·rw [List.mem_filter,List.mem_map]
   constructor
   ·rintro ⟨h1,h2⟩
    have h2:bw step f e=[]:=by simpa using h2
    obtain ⟨s1,s2,s3,s4⟩:=PE_st g h1
    rcases (bw_nil g h1).1 h2 with h | h
    ·have hc:tgt step e∈lst.tail:=by
      obtain ⟨j,j1,j2⟩:=ix_of s4
      refine tail_ix.2 ⟨j,?_,j1,j2⟩
      rcases Nat.eq_zero_or_pos j with rfl | hj
      ·rw [g.ix0.2] at j2
       rw [← j2,g.wy0] at h
       have:=congrArg List.length h; simp at this
      ·exact hj
     refine ⟨_,hc,?_⟩
     obtain ⟨p,x,p1,p2,p3,p4,p5⟩:=hspec _ hc
     rw [h] at p3
     obtain ⟨t1,t2⟩:=List.append_inj' p3 rfl
     have t2:e.2=x:=by simpa using t2
     have t1:=g.inj s1 p1 t1
     rw [p5,← t1,← t2,if_pos s2]
    ·have hc:e.1∈lst.tail:=by
      obtain ⟨j,j1,j2⟩:=ix_of s1
      refine tail_ix.2 ⟨j,?_,j1,j2⟩
      rcases Nat.eq_zero_or_pos j with rfl | hj
      ·rw [g.ix0.2] at j2
       rw [← j2,g.wy0] at h
       have:=congrArg List.length h; simp at this
      ·exact hj
     refine ⟨_,hc,?_⟩
     obtain ⟨p,x,p1,p2,p3,p4,p5⟩:=hspec _ hc
     rw [h] at p3
     obtain ⟨t1,t2⟩:=List.append_inj' p3 rfl
     have t2 : -e.2=x:=by simpa using t2
     rw [p5,if_neg (by omega),show -x=e.2 by omega]
   ·rintro ⟨c,hc,rfl⟩
    obtain ⟨p,x,p1,p2,p3,p4,p5⟩:=hspec c hc
    have hx:=g.nz p1 p4
    rw [p5]
    split
    ·rename_i h
     have hm:(p,x)∈PE step lst:=(mem_PE g).2 ⟨p1,h,by rw [p4]; rfl⟩
     refine ⟨hm,?_⟩
     have:=(bw_nil g hm).2 (.inl (by rw [tgt_of p4]; exact p3))
     simp [this]
    ·rename_i h
     have hi:=g.inv _ _ _ hx p4
     have hm:(c,-x)∈PE step lst:=(mem_PE g).2 ⟨p2,by omega,by rw [hi]; rfl⟩
     refine ⟨hm,?_⟩
     have:=(bw_nil g hm).2 (.inr (by rw [tgt_of hi]; simp only [Int.neg_neg]; exact p3))
     simp [this]
 have hp:∀ l:List (Nat × Int),(l.filter fun e=>decide (0 < (bw step f e).length)).length + (l.filter fun e=>!decide (0 < (bw step f e).length)).length=l.length:=by
  intro l
  induction l with
  | nil=>rfl
  | cons a r ih =>
   simp only [List.filter_cons,List.length_cons]
   by_cases h:0 < (bw step f a).length
   ·simp only [h,decide_true,Bool.not_true,if_true]; simp only [List.length_cons]; simp; omega
   ·simp only [h,decide_false,Bool.not_false,if_true]; simp only [List.length_cons]; simp; omega
 have:=hp (PE step lst)
 rw [hT] at this
 have h0:=g.ix0.1
 unfold NT
 omega
end
end Go.Proofs.Ytneglephfhiamaa

set_option linter.all false
namespace Go.Proofs.Ytneglephfhiamaa
open Go.Pv
def edg (u:Nat) (x:Int) (v:Nat):Nat × Int:=if 0 < x then (u,x) else (v,-x)
theorem edg_rev {u v:Nat} {x:Int} (h:x ≠ 0):edg v (-x) u=edg u x v:=by
 unfold edg
 by_cases h2:0 < x
 ·rw [if_neg (by omega),if_pos h2,Int.neg_neg]
 ·rw [if_pos (by omega),if_neg h2]
def cov (step:Nat→Int→Option Nat) (D:Nat × Int→Bool):Nat × Bool→Int→Option (Nat × Bool):=fun c x=>(step c.1 x).map fun v=>(v,xor c.2 (D (edg c.1 x v)))
def par (step:Nat→Int→Option Nat) (D:Nat × Int→Bool):Nat→List Int→Bool
 | _,[]=>false
 | u,x :: w=>match step u x with | some v=>xor (D (edg u x v)) (par step D v w) | none=>false
section
variable {step:Nat→Int→Option Nat} {lst:List Nat} {f:Wy}
theorem cov_inv {D:Nat × Int→Bool} (hi:InvS step):InvS (cov step D):=fun c d x hx h=>by
 unfold cov at h ⊢
 obtain ⟨v,hv,e⟩:=Option.map_eq_some_iff.1 h
 subst e
 rw [hi _ _ _ hx hv]
 simp only [Option.map_some,edg_rev hx]
 obtain ⟨u,s⟩:=c
 simp
theorem run_cov {D:Nat × Int→Bool} : ∀ (w:List Int) (u:Nat) (s:Bool),runW (cov step D) (u,s) w=(runW step u w).map fun v=>(v,xor s (par step D u w))
 | [],u,s=>by simp [runW,par]
 | x :: w,u,s=>by
  have hc:cov step D (u,s) x=(step u x).map fun v=>(v,xor s (D (edg u x v))):=rfl
  unfold runW par
  rw [hc]
  cases e:step u x with
  | none=>rfl
  | some v =>
   simp only [Option.map_some]
   rw [run_cov w v]
   simp only [Bool.xor_assoc]
theorem GT.edg_mem (g:GT step lst f) {u v:Nat} {x:Int} (hu:u∈lst) (h:step u x=some v):edg u x v∈PE step lst∧((0 < x∧edg u x v=(u,x))∨(x < 0∧edg u x v=(v,-x))):=by
 have hx:=g.nz hu h
 unfold edg
 split
 ·rename_i hp
  exact ⟨(mem_PE g).2 ⟨hu,hp,by rw [h]; rfl⟩,.inl ⟨hp,rfl⟩⟩
 ·refine ⟨(mem_PE g).2 ⟨g.cl u hu x v h,by omega,by rw [g.inv _ _ _ hx h]; rfl⟩,.inr ⟨by omega,rfl⟩⟩
theorem GT.tree_nil (g:GT step lst f) {u v:Nat} {x:Int} (hu:u∈lst) (h:step u x=some v) (hw:wy f v=wy f u++[x]):bw step f (edg u x v)=[]:=by
 have hx:=g.nz hu h
 obtain ⟨h1,⟨h2,e⟩ | ⟨h2,e⟩⟩:=g.edg_mem hu h
 ·refine (bw_nil g h1).2 (.inl ?_)
  rw [e,tgt_of h]; exact hw
 ·refine (bw_nil g h1).2 (.inr ?_)
  rw [e,tgt_of (g.inv _ _ _ hx h),hw,Int.neg_neg]
theorem GT.cov_way (g:GT step lst f) {D:Nat × Int→Bool} (hD:∀ e∈PE step lst,bw step f e=[]→D e=false) (s:Bool):∀ u∈lst,runW (cov step D) (0,s) (wy f u)=some (u,s):=
 g.ind (P:=fun u l=>runW (cov step D) (0,s) l=some (u,s)) rfl fun u v x hu hv hs hw ih=>by
  rw [runW_app,ih]
  show runW (cov step D) (u,s) [x]=some (v,s)
  unfold runW cov
  simp only [hs,Option.map_some]
  rw [hD _ (g.edg_mem hu hs).1 (g.tree_nil hu hs hw)]
  simp [runW]
theorem GT.cov_bw (g:GT step lst f) {D:Nat × Int→Bool} (hD:∀ e∈PE step lst,bw step f e=[]→D e=false) {e:Nat × Int} (he:e∈PE step lst):runW (cov step D) (0,false) (bw step f e)=some (0,D e):=by
 obtain ⟨h1,h2,h3,h4⟩:=PE_st g he
 have hz1:=(g.ok _ h1).nz
 have hz2:=(g.ok _ h4).nz
 unfold bw
 refine run_short (cov_inv g.inv) ((hz1.app (fun y hy=>by rw [List.mem_singleton] at hy; omega)).app hz2.back) ?_
 have hb:=run_back (cov_inv (D:=D) g.inv) hz2 (g.cov_way hD (D e) _ h4)
 rw [runW_app,runW_app,g.cov_way hD false _ h1]
 show (runW (cov step D) (e.1,false) [e.2]).bind _=_
 have:runW (cov step D) (e.1,false) [e.2]=some (tgt step e,D e):=by
  unfold runW cov
  simp only [h3,Option.map_some]
  unfold edg
  rw [if_pos h2]
  simp [runW]
 rw [this]
 exact hb
theorem GT.run_bw (g:GT step lst f) {e:Nat × Int} (he:e∈PE step lst):runW step 0 (bw step f e)=some 0:=by
 have:=g.cov_bw (D:=fun _=>false) (fun _ _ _=>rfl) he
 rw [run_cov] at this
 obtain ⟨v,hv,e⟩:=Option.map_eq_some_iff.1 this
 injection e with e _
 rw [hv,e]
theorem idx_nd {α:Type} [BEq α] [LawfulBEq α]:∀ {l:List α},l.Nodup→∀ i (h:i < l.length),l.idxOf l[i]=i
 | [],_,i,h=>absurd h (Nat.not_lt_zero _)
 | a :: l,hn,0,_=>by simp [List.idxOf_cons]
 | a :: l,hn,i + 1,h=>by
  have hn2:=List.nodup_cons.1 hn
  have h' : i < l.length:=by simpa using h
  have hne:a ≠ l[i]:=fun e=>hn2.1 (e ▸ List.getElem_mem h')
  rw [List.getElem_cons_succ,List.idxOf_cons,idx_nd hn2.2 i h',beq_false_of_ne hne]; rfl
def cst (step:Nat→Int→Option Nat) (f:Wy) (e:Nat × Int):Nat:=(wy f e.1).length + 1 + (wy f (tgt step e)).length
theorem bw_cst (e:Nat × Int):(bw step f e).length≤cst step f e:=by
 unfold bw cst
 refine Nat.le_trans (short_len _) ?_
 simp only [List.length_append,List.length_singleton,back_len]; omega
end
end Go.Proofs.Ytneglephfhiamaa

set_option linter.all false
namespace Go.Proofs.Ytneglephfhiamaa
open Go.Pv
def InvT {X:Type} (T:X→Int→X):Prop:=∀ c x,x ≠ 0→T (T c x) (-x)=c
def MemT (S:List (List Int)) (w:List Int):Prop:=∀ (X:Type) (T:X→Int→X) (x0:X),InvT T→(∀ s∈S,s.foldl T x0=x0)→w.foldl T x0=x0
section
variable {X:Type} {T:X→Int→X}
theorem InvT.part (h:InvT T):InvS fun c x=>some (T c x):=fun c d x hx e=>by
 obtain rfl:=Option.some.inj e
 exact congrArg some (h c x hx)
theorem runT_eq:∀ (w:List Int) (c:X),runW (fun c x=>some (T c x)) c w=some (w.foldl T c)
 | [],_=>rfl
 | x :: w,c=>by unfold runW; exact runT_eq w _
theorem runT_short (h:InvT T) {w:List Int} (hz:Nz w) (c:X):(short w).foldl T c=w.foldl T c:=by
 have:=run_short h.part hz (runT_eq (T:=T) w c)
 rw [runT_eq] at this
 exact Option.some.inj this
theorem runT_back (h:InvT T) {w:List Int} (hz:Nz w) (c:X):(back w).foldl T (w.foldl T c)=c:=by
 have:=run_back h.part hz (runT_eq (T:=T) w c)
 rw [runT_eq] at this
 exact Option.some.inj this
theorem runT_back2 (h:InvT T) {w:List Int} (hz:Nz w) (c:X):w.foldl T ((back w).foldl T c)=c:=by
 have:=runT_back h hz.back c
 rwa [back_back] at this
end
theorem MemT.app {S:List (List Int)} {v w:List Int} (h:MemT S v) (h2:MemT S w):MemT S (v++w):=fun X T x0 hi hc=>by
 rw [List.foldl_append,h X T x0 hi hc,h2 X T x0 hi hc]
theorem MemT.back {S:List (List Int)} {v:List Int} (hz:Nz v) (h:MemT S v):MemT S (back v):=fun X T x0 hi hc=>by
 have:=runT_back hi hz x0
 rwa [h X T x0 hi hc] at this
theorem MemT.short {S:List (List Int)} {v:List Int} (hz:Nz v) (h:MemT S v):MemT S (short v):=fun X T x0 hi hc=>by
 rw [runT_short hi hz,h X T x0 hi hc]
theorem MemT.of {S:List (List Int)} {v:List Int} (h:v∈S):MemT S v:=fun X T x0 hi hc=>hc v h
theorem MemT.trans {S S' : List (List Int)} {v:List Int} (h:MemT S' v) (h2:∀ s∈S',MemT S s):MemT S v:=fun X T x0 hi hc=>h X T x0 hi fun s hs=>h2 s hs X T x0 hi hc
section
variable {X:Type} {step:X→Int→Option X}
theorem red_tail {x:Int} {w:List Int} (h:Red (x :: w)):Red w:=fun i hi=>by
 have:=h (i + 1) (by simp only [List.length_cons]; omega)
 simpa using this
end
section
variable {step:Nat→Int→Option Nat} {lst:List Nat} {f:Wy}
theorem basS_mem {w:List Int} : w∈basS step lst f↔∃ e∈PE step lst,bw step f e=w∧w ≠ []:=by
 unfold basS
 rw [List.mem_filter,List.mem_map]
 constructor
 ·rintro ⟨⟨e,he,h⟩,h2⟩
  exact ⟨e,he,h,fun h3=>by rw [h3] at h2; simp at h2⟩
 ·rintro ⟨e,he,h,h2⟩
  refine ⟨⟨e,he,h⟩,?_⟩
  cases w with
  | nil=>exact absurd rfl h2
  | cons=>simp
theorem GT.bas_run (g:GT step lst f) {w:List Int} (h:w∈basS step lst f):runW step 0 w=some 0:=by
 obtain ⟨e,he,rfl,_⟩:=basS_mem.1 h
 exact g.run_bw he
theorem GT.bas_red {w:List Int} (h:w∈basS step lst f):Red w:=by
 obtain ⟨e,he,rfl,_⟩:=basS_mem.1 h
 exact red_short _
theorem GT.bw_ok (g:GT step lst f) {e:Nat × Int} (he:e∈PE step lst):Ok (wy f e.1++[e.2]++back (wy f (tgt step e))):=by
 obtain ⟨h1,h2,h3,h4⟩:=PE_st g he
 exact ((g.ok _ h1).app (fun y hy=>by rw [List.mem_singleton] at hy; subst hy; exact g.lt _ h1 _ _ h3)).app (g.ok _ h4).back
theorem GT.bas_ok (g:GT step lst f) {w:List Int} (h:w∈basS step lst f):Ok w:=by
 obtain ⟨e,he,rfl,_⟩:=basS_mem.1 h
 exact (g.bw_ok he).short
theorem GT.act (g:GT step lst f) {X:Type} {T:X→Int→X} {x0:X} (hi:InvT T) (hc:∀ s∈basS step lst f,s.foldl T x0=x0) {u v:Nat} {x:Int} (hu:u∈lst) (h:step u x=some v):T ((wy f u).foldl T x0) x=(wy f v).foldl T x0:=by
 have pos:∀ e∈PE step lst,T ((wy f e.1).foldl T x0) e.2=(wy f (tgt step e)).foldl T x0:=fun e he=>by
  have hb:(bw step f e).foldl T x0=x0:=by
   by_cases h0:bw step f e=[]
   ·rw [h0]; rfl
   ·exact hc _ (basS_mem.2 ⟨e,he,rfl,h0⟩)
  obtain ⟨h1,h2,h3,h4⟩:=PE_st g he
  have hz:=(g.ok _ h4).nz
  unfold bw at hb
  rw [runT_short hi (g.bw_ok he).nz,List.foldl_append,List.foldl_append] at hb
  have:=runT_back2 hi hz (List.foldl T (List.foldl T x0 (wy f e.1)) [e.2])
  rw [hb] at this
  exact this.symm
 have hx:=g.nz hu h
 obtain ⟨h1,⟨h2,e⟩ | ⟨h2,e⟩⟩:=g.edg_mem hu h
 ·have:=pos _ h1
  rw [e,tgt_of h] at this
  exact this
 ·have:=pos _ h1
  rw [e,tgt_of (g.inv _ _ _ hx h)] at this
  simp only at this
  rw [← this]
  have h3:=hi ((wy f v).foldl T x0) (-x) (by omega)
  rwa [Int.neg_neg] at h3
theorem GT.inL (g:GT step lst f):∀ {w:List Int} {u v:Nat},u∈lst→runW step u w=some v→v∈lst
 | [],u,v,hu,h=>by obtain rfl:=Option.some.inj h; exact hu
 | x :: w,u,v,hu,h=>by
  unfold runW at h
  cases e:step u x with
  | none=>rw [e] at h; cases h
  | some m=>rw [e] at h; exact g.inL (g.cl u hu x m e) h
theorem GT.actW (g:GT step lst f) {X:Type} {T:X→Int→X} {x0:X} (hi:InvT T) (hc:∀ s∈basS step lst f,s.foldl T x0=x0):∀ {w:List Int} {u v:Nat},u∈lst→runW step u w=some v→w.foldl T ((wy f u).foldl T x0)=(wy f v).foldl T x0
 | [],u,v,hu,h=>by obtain rfl:=Option.some.inj h; rfl
 | x :: w,u,v,hu,h=>by
  unfold runW at h
  cases e:step u x with
  | none=>rw [e] at h; cases h
  | some m=>rw [e] at h; rw [List.foldl_cons,g.act hi hc hu e]; exact g.actW hi hc (g.cl u hu x m e) h
theorem GT.gen (g:GT step lst f) {w:List Int} (h:runW step 0 w=some 0):MemT (basS step lst f) w:=fun X T x0 hi hc=>by
 have:=g.actW hi hc g.mem0 h
 rwa [g.wy0] at this
def frS (step:Nat→Int→Option Nat) (B:List (Nat × Int)):Nat × { l:List Int // Red l }→Int→Option (Nat × { l:List Int // Red l }):=fun c x=>(step c.1 x).map fun v =>
 (v,if edg c.1 x v∈B then ⟨push c.2.1 (if 0 < x then (B.idxOf (edg c.1 x v):Int) + 1 else -((B.idxOf (edg c.1 x v):Int) + 1)),red_push c.2.2⟩ else c.2)
theorem frS_inv {B:List (Nat × Int)} (hi:InvS step):InvS (frS step B):=fun c d x hx h=>by
 unfold frS at h ⊢
 obtain ⟨v,hv,e⟩:=Option.map_eq_some_iff.1 h
 subst e
 rw [hi _ _ _ hx hv]
 simp only [Option.map_some,edg_rev hx]
 obtain ⟨u,l,hl⟩:=c
 by_cases hB:edg u x v∈B
 ·simp only [if_pos hB]
  refine congrArg some (Prod.ext rfl (Subtype.ext ?_))
  show push (push l _) _=l
  by_cases h2:0 < x
  ·rw [if_pos h2,if_neg (by omega)]; exact push_cancel _ hl
  ·rw [if_neg h2,if_pos (by omega)]
   have:=push_cancel (-((B.idxOf (edg u x v):Int) + 1)) hl
   rwa [Int.neg_neg] at this
 ·simp only [if_neg hB]
theorem GT.fr_way (g:GT step lst f) (c : { l:List Int // Red l }):∀ u∈lst,runW (frS step (NT step lst f)) (0,c) (wy f u)=some (u,c):=
 g.ind (P:=fun u l=>runW (frS step (NT step lst f)) (0,c) l=some (u,c)) rfl fun u v x hu hv hs hw ih=>by
  rw [runW_app,ih]
  show runW (frS step (NT step lst f)) (u,c) [x]=some (v,c)
  have hn:edg u x v ∉ NT step lst f:=fun hm=>by
   have:=(List.mem_filter.1 hm).2
   rw [g.tree_nil hu hs hw] at this; simp at this
  unfold runW frS
  simp only [hs,Option.map_some,if_neg hn]
  rfl
theorem GT.fr_bw (g:GT step lst f) (c : { l:List Int // Red l }) {e:Nat × Int} (he:e∈NT step lst f):runW (frS step (NT step lst f)) (0,c) (bw step f e)=some (0,⟨push c.1 ((NT step lst f).idxOf e + 1),red_push c.2⟩):=by
 have hp:=(List.mem_filter.1 he).1
 obtain ⟨h1,h2,h3,h4⟩:=PE_st g hp
 have hz1:=(g.ok _ h1).nz
 have hz2:=(g.ok _ h4).nz
 unfold bw
 refine run_short (frS_inv g.inv) (g.bw_ok hp).nz ?_
 have hb:=run_back (frS_inv (B:=NT step lst f) g.inv) hz2 (g.fr_way ⟨push c.1 ((NT step lst f).idxOf e + 1),red_push c.2⟩ _ h4)
 rw [runW_app,runW_app,g.fr_way c _ h1]
 show (runW (frS step (NT step lst f)) (e.1,c) [e.2]).bind _=_
 have hed:edg e.1 e.2 (tgt step e)=e:=by unfold edg; rw [if_pos h2]
 have:runW (frS step (NT step lst f)) (e.1,c) [e.2]=some (tgt step e,⟨push c.1 ((NT step lst f).idxOf e + 1),red_push c.2⟩):=by
  unfold runW frS
  simp only [h3,Option.map_some,hed,if_pos he,if_pos h2]
  rfl
 rw [this]
 exact hb
def basW (b:List (List Int)) (w:List Int):List Int:=w.flatMap fun k=>if 0 < k then b.getD (k.toNat - 1) [] else back (b.getD ((-k).toNat - 1) [])
theorem GT.free (g:GT step lst f) {w:List Int} (hr:Red w) (hk:∀ k∈w,k ≠ 0∧k≤(basS step lst f).length∧-k≤(basS step lst f).length) (hw:w ≠ []):short (basW (basS step lst f) w) ≠ []:=by
 have hlen:(basS step lst f).length=(NT step lst f).length:=by rw [basS_eq,List.length_map]
 have hb:∀ j,j < (NT step lst f).length→∀ c,runW (frS step (NT step lst f)) (0,c) ((basS step lst f).getD j [])=some (0,⟨push c.1 (j + 1),red_push c.2⟩):=fun j hj c=>by
  have e:(basS step lst f).getD j []=bw step f (NT step lst f)[j]:=by
   rw [basS_eq,List.getD_eq_getElem?_getD,List.getElem?_map,List.getElem?_eq_getElem hj]; rfl
  rw [e,g.fr_bw c (List.getElem_mem hj)]
  have:=idx_nd (NT_nd (step:=step) (f:=f) g.nd) j hj
  simp only [this]
 have hbz:∀ j,j < (NT step lst f).length→Nz ((basS step lst f).getD j []):=fun j hj=>by
  have:(basS step lst f).getD j []∈basS step lst f:=by
   rw [List.getD_eq_getElem?_getD,List.getElem?_eq_getElem (by omega)]; exact List.getElem_mem _
  exact (g.bas_ok this).nz
 have go:∀ (w:List Int) (o:List Int) (ho:Red o),(∀ k∈w,k ≠ 0∧k≤(basS step lst f).length∧-k≤(basS step lst f).length)→∃ h,runW (frS step (NT step lst f)) (0,⟨o,ho⟩) (basW (basS step lst f) w)=some (0,⟨w.foldl push o,h⟩):=by
  intro w
  induction w with
  | nil=>intro o ho _; exact ⟨ho,rfl⟩
  | cons k w ih =>
   intro o ho hk
   obtain ⟨k1,k2,k3⟩:=hk k (by simp)
   obtain ⟨h,hh⟩:=ih (push o k) (red_push ho) fun y hy=>hk y (by simp [hy])
   refine ⟨h,?_⟩
   have e:basW (basS step lst f) (k :: w)=(if 0 < k then (basS step lst f).getD (k.toNat - 1) [] else back ((basS step lst f).getD ((-k).toNat - 1) []))++basW (basS step lst f) w:=by
    unfold basW; rw [List.flatMap_cons]
   have h1:runW (frS step (NT step lst f)) (0,⟨o,ho⟩) (if 0 < k then (basS step lst f).getD (k.toNat - 1) [] else back ((basS step lst f).getD ((-k).toNat - 1) []))=some (0,⟨push o k,red_push ho⟩):=by
    split
    ·rename_i hp
     rw [hb _ (by omega)]
     simp only [show ((k.toNat - 1:Nat):Int) + 1=k by omega]
    ·rename_i hp
     have h2:=hb ((-k).toNat - 1) (by omega) ⟨push o k,red_push ho⟩
     simp only [show (((-k).toNat - 1:Nat):Int) + 1 = -k by omega,push_cancel k ho] at h2
     exact run_back (frS_inv g.inv) (hbz _ (by omega)) h2
   rw [e,runW_app,h1]
   exact hh
 intro h0
 obtain ⟨h,hh⟩:=go w [] (fun i hi=>by simp at hi) hk
 have hz:Nz (basW (basS step lst f) w):=fun y hy=>by
  unfold basW at hy
  obtain ⟨k,hkm,hy⟩:=List.mem_flatMap.1 hy
  obtain ⟨k1,k2,k3⟩:=hk k hkm
  split at hy
  ·exact hbz _ (by omega) y hy
  ·exact (hbz _ (by omega)).back y hy
 have h1:=run_short (frS_inv g.inv) hz hh
 rw [h0] at h1
 have h2:[]=w.foldl push []:=congrArg (fun p=>p.2.1) (Option.some.inj h1)
 have h3:w.foldl push []=w:=short_red hr
 exact hw (h3.symm.trans h2.symm)
end
end Go.Proofs.Ytneglephfhiamaa

set_option linter.all false
namespace Go.Proofs.Ytneglephfhiamaa
open Go.Pv
section
variable {step:Nat→Int→Option Nat} {lst:List Nat} {f:Wy}
theorem flat_len {α β:Type} (g:α→List β):∀ l:List α,(l.flatMap g).length=(l.map fun a=>(g a).length).sum
 | []=>rfl
 | a :: l=>by rw [List.flatMap_cons,List.length_append,flat_len g l,List.map_cons,List.sum_cons]
theorem split_len {α:Type} (p:α→Bool):∀ l:List α,(l.filter p).length + (l.filter fun x=>!p x).length=l.length
 | []=>rfl
 | a :: l=>by
  have:=split_len p l
  simp only [List.filter_cons,List.length_cons]
  cases h:p a
  ·simp only [Bool.not_false,if_true,List.length_cons]; simp; omega
  ·simp only [Bool.not_true,if_true,List.length_cons]; simp; omega
theorem GT.deg (g:GT step lst f):(lst.map fun u=>(ltS step u).length).sum=2 * (PE step lst).length:=by
 obtain ⟨NE,hNE⟩:∃ NE,lst.flatMap (fun u=>((ltS step u).filter fun x=>!decide (0 < x)).map fun x=>(u,x))=NE:=⟨_,rfl⟩
 have h1:NE.length=(PE step lst).length:=by
  have hst:∀ u x,(u,x)∈NE↔u∈lst∧¬ 0 < x∧(step u x).isSome=true:=fun u x=>by
   rw [← hNE,List.mem_flatMap]
   constructor
   ·rintro ⟨v,hv,h⟩
    obtain ⟨y,hy,e⟩:=List.mem_map.1 h
    injection e with e1 e2
    subst e1; subst e2
    have:=List.mem_filter.1 hy
    exact ⟨hv,by simpa using this.2,(mem_ltS.1 this.1).2⟩
   ·rintro ⟨hu,hx,hs⟩
    refine ⟨u,hu,List.mem_map.2 ⟨x,List.mem_filter.2 ⟨mem_ltS.2 ⟨?_,hs⟩,by simpa using hx⟩,rfl⟩⟩
    obtain ⟨v,hv⟩:=Option.isSome_iff_exists.1 hs
    exact (g.lt u hu x v hv).2
  have hn:NE.Nodup:=by
   rw [← hNE]
   exact nodup_flat g.nd (fun u _=>nodup_mapF (List.Nodup.sublist List.filter_sublist (ltS_nd u)) fun a _ b _ e=>by injection e) fun u _ v _ z hz1 hz2=>by
    obtain ⟨a,_,rfl⟩:=List.mem_map.1 hz1
    obtain ⟨b,_,e⟩:=List.mem_map.1 hz2
    injection e with e _
    exact e.symm
  have hmap:∀ e∈NE,e.1∈lst∧e.2 < 0∧step e.1 e.2=some (tgt step e)∧tgt step e∈lst∧step (tgt step e) (-e.2)=some e.1:=fun ⟨u,x⟩ he=>by
   obtain ⟨h1,h2,h3⟩:=(hst u x).1 he
   obtain ⟨v,hv⟩:=Option.isSome_iff_exists.1 h3
   rw [tgt_of hv]
   have:=g.nz h1 hv
   exact ⟨h1,by simp only; omega,hv,g.cl u h1 x v hv,g.inv _ _ _ this hv⟩
  have e1:(NE.map fun e=>(tgt step e,-e.2)).length=NE.length:=List.length_map ..
  rw [← e1]
  refine nd_eq (nodup_mapF hn fun a ha b hb e=>?_) (PE_nd g.nd) fun e=>?_
  ·injection e with e1 e2
   obtain ⟨a1,a2,a3,a4,a5⟩:=hmap a ha
   obtain ⟨b1,b2,b3,b4,b5⟩:=hmap b hb
   rw [e1,e2,b5] at a5
   exact Prod.ext (Option.some.inj a5).symm (by omega)
  ·constructor
   ·intro h
    obtain ⟨a,ha,rfl⟩:=List.mem_map.1 h
    obtain ⟨a1,a2,a3,a4,a5⟩:=hmap a ha
    exact (mem_PE g).2 ⟨a4,by omega,by rw [a5]; rfl⟩
   ·intro h
    obtain ⟨h1,h2,h3,h4⟩:=PE_st g h
    have h5:=g.inv _ _ _ (by omega) h3
    refine List.mem_map.2 ⟨(tgt step e,-e.2),(hst _ _).2 ⟨h4,by omega,by rw [h5]; rfl⟩,?_⟩
    rw [tgt_of h5,Int.neg_neg]
 have h2:(lst.map fun u=>(ltS step u).length).sum=(PE step lst).length + NE.length:=by
  unfold PE
  rw [← hNE,flat_len,flat_len]
  simp only [List.length_map]
  generalize lst=l
  induction l with
  | nil=>rfl
  | cons a r ih =>
   simp only [List.map_cons,List.sum_cons,ih]
   have:=split_len (fun x:Int=>decide (0 < x)) (ltS step a)
   omega
 omega
theorem sum_bd {α:Type} (h:α→Nat) (m:Nat):∀ l:List α,(∀ a∈l,h a≤m)→(l.map h).sum≤m * l.length∧((l.map h).sum=m * l.length→∀ a∈l,h a=m)
 | [],_=>⟨by simp,fun _ a ha=>by cases ha⟩
 | a :: l,hb=>by
  obtain ⟨h1,h2⟩:=sum_bd h m l fun x hx=>hb x (by simp [hx])
  have:=hb a (by simp)
  simp only [List.map_cons,List.sum_cons,List.length_cons,Nat.mul_succ]
  refine ⟨by omega,fun e x hx=>?_⟩
  rcases List.mem_cons.1 hx with rfl | hx
  ·omega
  ·exact h2 (by omega) x hx
theorem sum_all {α:Type} (h:α→Nat) (m:Nat):∀ l:List α,(∀ a∈l,h a=m)→(l.map h).sum=m * l.length
 | [],_=>by simp
 | a :: l,hb=>by
  have:=sum_all h m l fun x hx=>hb x (by simp [hx])
  have:=hb a (by simp)
  simp only [List.map_cons,List.sum_cons,List.length_cons,Nat.mul_succ]; omega
def Ltn (step:Nat→Int→Option Nat) (lst:List Nat) (n:Int):Prop:=∀ u∈lst,∀ x v,step u x=some v→-n≤x∧x≤n
def lets (n:Nat):List Int:=(List.range n).flatMap fun i:Nat=>[(i:Int) + 1,-((i:Int) + 1)]
theorem lets_len (n:Nat):(lets n).length=2 * n:=by
 unfold lets
 rw [flat_len,sum_all (fun i:Nat=>[(i:Int) + 1,-((i:Int) + 1)].length) 2 _ fun a _=>rfl,List.length_range]
theorem mem_lets {n:Nat} {x:Int} : x∈lets n↔x ≠ 0∧-(n:Int)≤x∧x≤n:=by
 unfold lets
 rw [List.mem_flatMap]
 constructor
 ·rintro ⟨i,hi,h⟩
  have:=List.mem_range.1 hi
  simp only [List.mem_cons,List.not_mem_nil,or_false] at h
  omega
 ·rintro ⟨h1,h2,h3⟩
  refine ⟨(x.natAbs - 1),List.mem_range.2 (by omega),?_⟩
  simp only [List.mem_cons,List.not_mem_nil,or_false]; omega
theorem GT.deg_le (g:GT step lst f) {n:Nat} (h:Ltn step lst n) {u:Nat} (hu:u∈lst):(ltS step u).length≤2 * n:=by
 rw [← lets_len n]
 refine nd_le (ltS_nd u) fun x hx=>?_
 obtain ⟨v,hv⟩:=Option.isSome_iff_exists.1 (mem_ltS.1 hx).2
 exact mem_lets.2 ⟨g.nz hu hv,h u hu x v hv⟩
def Full (step:Nat→Int→Option Nat) (lst:List Nat) (n:Nat):Prop:=∀ u∈lst,2 * n≤(ltS step u).length
theorem GT.full_iff (g:GT step lst f) {n:Nat} (h:Ltn step lst n):Full step lst n↔(PE step lst).length=n * lst.length:=by
 have h1:=g.deg
 have h2:=sum_bd (fun u=>(ltS step u).length) (2 * n) lst fun u hu=>g.deg_le h hu
 constructor
 ·intro hf
  have:=sum_all (fun u=>(ltS step u).length) (2 * n) lst fun u hu=>Nat.le_antisymm (g.deg_le h hu) (hf u hu)
  rw [this,Nat.mul_assoc] at h1
  omega
 ·intro e u hu
  exact Nat.le_of_eq (h2.2 (by rw [h1,e,Nat.mul_assoc]) u hu).symm
end
section
variable {step:Nat→Int→Option Nat} {lst:List Nat} {f:Wy}
variable {step' : Nat→Int→Option Nat} {lst' : List Nat} {f' : Wy}
end
end Go.Proofs.Ytneglephfhiamaa

set_option linter.all false
namespace Go.Pv
open Go.RowKit
section
variable {P:Program} {ρ:Go.Shelf.Ren}
end
end Go.Pv

set_option linter.all false
namespace Go.Pv
open Go.RowKit
section
variable {P:Program} {ρ:Go.Shelf.Ren}
def srt (l:List Int):List Int:=l.mergeSort fun x y=>decide (x≤y)
theorem sortI_m (L:Go.Proofs.Lays.n189 P ρ) (zs:List Int) (hlen:zs.length < 4611686018427387904) :
  FnM P (ρ.f 189) [.sl 0 0 zs.length] [.own (opl (il zs))] (.p (.tup [])) [.own (opl (il (srt zs)))]:=by
 refine ⟨⟨_,L.f189,by kernel_rfl,rfl⟩,fun C m w vals R=>?_⟩
 have hsz:vals.size=1:=R.size
 have s0:=R.slot 0
 simp only [St.get,entA,lk,BEq.rfl,cond_true] at s0
 generalize hv0:vals.getD 0 undef=v0 at s0
 have hvals:vals = #[v0]:=by
  apply Array.ext
  ·simpa using hsz
  ·intro i h1 h2
   simp only [Array.getD_eq_getD_getElem?] at hv0
   match i,h2 with
   | 0,_=>rw [Array.getElem?_eq_getElem h1] at hv0; simpa using hv0
 subst hvals
 cases s0 with
 | sl _ _ _ _ hk0 h0 =>
 by_cases hne:zs=[]
 ·subst hne
  have hcall:∃ p cp,v0 = .slice p 0 cp:=by
   rcases h0 with ⟨_,a,h0⟩ | ⟨l,cp,hm,rfl,hle,hlo⟩
   ·exact ⟨a,_,h0⟩
   ·exact ⟨_,_,rfl⟩
  obtain ⟨p,cp,rfl⟩:=hcall
  refine (Go.Proofs.Any.slices_Sort_int_none L p cp w).mono fun e2 w2 ⟨he,hw⟩=>?_
  subst he hw
  rw [show srt ([]:List Int)=[] from by simp [srt]]
  exact ⟨.tuple #[],m,rfl,R.laid,R.below,R.base,rfl,R.inj,R.blk,R.fro,fun t=>by
   cases t with
   | zero=>exact .p _ _ (.tup [] #[] rfl fun c h=>absurd h (by simp))
   | succ t=>exact .dead _,R.mp⟩
 have hpos:0 < zs.length:=List.length_pos_iff.2 hne
 rcases h0 with ⟨h0,_⟩ | ⟨l,cp,hm,rfl,hle,hlo⟩
 ·omega
 rcases R.blk 0 (opl (il zs)) rfl with ⟨hx,_⟩ | ⟨l',cur,e,hm',hB,hg,hcs,hmx,hol,hcell⟩
 ·exact absurd (show zs=[] by simpa [opl,il] using hx) hne
 rw [hm] at hm'; cases hm'
 rw [opl_length,il_length] at hol
 have hblk:l.g < w.heap.size:=(Array.getElem?_eq_some_iff.1 hg).1
 have hrd:∀ j (h:j < zs.length),cur.getD (l.o + j) undef = .int .i64 zs[j]:=fun j h=>by
  have:=hcell j (by rw [opl_length,il_length]; exact h)
  simp only [opl,il,List.getElem_map] at this
  have h2:=this.p_inv
  generalize cur.getD (l.o + j) undef=v at h2 ⊢
  cases h2
  rfl
 have hH:Go.Sort.Holds (Value.int .i64) w l.g (l.o + 0) zs.toArray:=fun j hj=>by
  have hj' : j < zs.length:=by simpa using hj
  have hjc:l.o + j < cur.size:=by omega
  refine ⟨?_,?_⟩
  ·rw [getElem!_pos zs.toArray j hj]
   have:=hrd j hj'
   simp only [World.cell?,hg,Nat.add_zero]
   simpa [Array.getD_eq_getD_getElem?,Array.getElem?_eq_getElem hjc] using this
  ·simp [World.frozen?,hg]
 have hcall:=Go.Proofs.Any.slices_Sort_int L l.g (l.o + 0) cp zs w hH hblk hlen
 refine hcall.mono fun e2 w2 ⟨he,n,os,hw⟩=>?_
 subst he
 refine ⟨.tuple #[],m,rfl,?_⟩
 have hyl:(srt zs).length=zs.length:=(List.mergeSort_perm zs _).length_eq
 have hd' : (zs.mergeSort fun x y=>decide (x≤y)).toArray.size=zs.length:=by simpa using hyl
 have R1:Rel C m ⟨1,entA 0 [.sl 0 0 zs.length],hset ([.own (opl (il zs))]++ancs 0 [Blk.own (opl (il zs))].length) 0 (.own (opl (il (srt zs))))⟩ #[.slice (some ⟨l.g,l.o + 0,none⟩) zs.length cp] (Go.Sort.putRow (Value.int .i64) (Go.Sort.ahead w n) l.g (l.o + 0) (zs.mergeSort fun x y=>decide (x≤y)).toArray):=by
  refine R.setBlk (a:={ tmps:=#[.slice (some ⟨l.g,l.o + 0,none⟩) zs.length cp],defers:=[] }) (c:=opl (il zs)) rfl hm ⟨rfl,rfl,rfl,by simp,fun k hk=>?_,by simp⟩ (fun b hb=>?_) (cur:=Go.Sort.putCells (Value.int .i64) (l.o + 0) (zs.mergeSort fun x y=>decide (x≤y)).toArray cur) (e:=e) ?_ (by simp [Go.Sort.putCells,hcs]) (by rw [opl_length,il_length]; omega) fun j hj=>?_
  ·simp only [Go.Sort.putRow,Go.Sort.mapBlock,Array.getElem?_modify]
   rw [if_neg (fun e=>hk (by rw [← e]; exact hB))]; rfl
  ·simp only [Go.Sort.putRow,Go.Sort.mapBlock,Array.getElem?_modify]
   rw [if_neg (Ne.symm hb)]; rfl
  ·simp only [Go.Sort.putRow,Go.Sort.mapBlock,Array.getElem?_modify]
   rw [if_pos trivial]
   show Option.map _ (w.heap[l.g]?)=_
   rw [hg]; rfl
  ·rw [opl_length,il_length] at hj
   have hjc:l.o + j < cur.size:=by omega
   have hjd:j < (zs.mergeSort fun x y=>decide (x≤y)).toArray.size:=by omega
   have e3:(Go.Sort.putCells (Value.int .i64) (l.o + 0) (zs.mergeSort fun x y=>decide (x≤y)).toArray cur).getD (l.o + j) undef = .int .i64 ((srt zs)[j]'hj):=by
    simp only [Go.Sort.putCells,Array.getD_eq_getD_getElem?,Array.getElem?_mapIdx,Array.getElem?_eq_getElem hjc,Option.map_some,Option.getD_some]
    rw [if_pos ⟨by omega,by omega⟩,show l.o + j - (l.o + 0)=j by omega,getElem!_pos _ j hjd]
    rfl
   rw [e3]
   have e5:(opl (il (srt zs)))[j]'(by rw [opl_length,il_length]; exact hj) = .p (.int .i64 ((srt zs)[j]'hj)):=by simp [opl,il]
   rw [e5]
   exact .p _ _ (.int _ _)
 have R2:=R1.later (w':=w2) (by
  rw [hw]
  refine ⟨rfl,rfl,rfl,by simp,fun k hk=>?_,Nat.le_refl _⟩
  exact Go.Sort.heap_grow_old _ _ hk)
 exact ⟨R2.laid,R2.below,R2.base,rfl,R2.inj,R2.blk,R2.fro,fun t=>by
  cases t with
  | zero=>exact .p _ _ (.tup [] #[] rfl fun c h=>absurd h (by simp))
  | succ t=>exact .dead _,R2.mp⟩
end
end Go.Pv

set_option linter.all false
namespace Go.Proofs.Ytneglephfhiamaa
open Go.Pv
theorem pw_ext:∀ {l m:List Int},l.Pairwise (· < ·)→m.Pairwise (· < ·)→(∀ x,x∈l↔x∈m)→l=m
 | [],[],_,_,_=>rfl
 | [],y :: m,_,_,h=>absurd ((h y).2 (by simp)) (by simp)
 | x :: l,[],_,_,h=>absurd ((h x).1 (by simp)) (by simp)
 | x :: l,y :: m,h1,h2,h=>by
  rw [List.pairwise_cons] at h1 h2
  have hxy:x=y:=by
   rcases List.mem_cons.1 ((h x).1 (by simp)) with e | e
   ·exact e
   ·rcases List.mem_cons.1 ((h y).2 (by simp)) with e2 | e2
    ·exact e2.symm
    ·have:=h2.1 x e
     have:=h1.1 y e2
     omega
  subst hxy
  congr 1
  refine pw_ext h1.2 h2.2 fun z=>?_
  constructor
  ·intro hz
   rcases List.mem_cons.1 ((h z).1 (by simp [hz])) with e | e
   ·have:=h1.1 z hz; omega
   ·exact e
  ·intro hz
   rcases List.mem_cons.1 ((h z).2 (by simp [hz])) with e | e
   ·have:=h2.1 z hz; omega
   ·exact e
def lts (f:Mp):List Int:=((List.range 53).map fun i:Nat=>(i:Int) - 26).filter fun x=>(f x).isSome
theorem mem_lts {f:Mp} {x:Int} : x∈lts f↔(-26≤x∧x≤26)∧(f x).isSome=true:=by
 unfold lts
 rw [List.mem_filter,List.mem_map]
 constructor
 ·rintro ⟨⟨i,hi,rfl⟩,h⟩
  have:=List.mem_range.1 hi
  exact ⟨by omega,h⟩
 ·rintro ⟨h1,h2⟩
  exact ⟨⟨(x + 26).toNat,List.mem_range.2 (by omega),by omega⟩,h2⟩
theorem lts_pw (f:Mp):(lts f).Pairwise (· < ·):=by
 unfold lts
 refine List.Pairwise.filter _ ?_
 rw [List.pairwise_map]
 exact List.pairwise_lt_range.imp fun h=>by omega
theorem srt_pw {l:List Int} (h:l.Nodup):(srt l).Pairwise (· < ·):=by
 have h1:(srt l).Pairwise fun x y=>decide (x≤y)=true:=List.pairwise_mergeSort (fun a b c h1 h2=>by simp at *; omega) (fun a b=>by simp; omega) l
 have h2:(srt l).Nodup:=(List.mergeSort_perm l _).nodup_iff.2 h
 rw [List.nodup_iff_pairwise_ne] at h2
 exact (h1.and h2).imp fun ⟨a,b⟩=>by simp at a; omega
theorem srt_mem {l:List Int} {x:Int} : x∈srt l↔x∈l:=(List.mergeSort_perm l _).mem_iff
theorem srt_lts {f:Mp} {l:List Int} (h:l.Nodup) (hm:∀ z,(f z).isSome=true↔z∈l) (hb:∀ z∈l,-26≤z∧z≤26):srt l=lts f:=by
 refine pw_ext (srt_pw h) (lts_pw f) fun x=>?_
 rw [srt_mem,mem_lts,hm]
 exact ⟨fun hx=>⟨hb x hx,hx⟩,fun hx=>hx.2⟩
theorem lts_len (f:Mp):(lts f).length≤53:=by
 unfold lts
 refine Nat.le_trans (List.length_filter_le _ _) ?_
 simp
end Go.Proofs.Ytneglephfhiamaa

set_option linter.all false
namespace Go.Proofs.Ytneglephfhiamaa
open Go.Pv
structure BQ (G:List Mp) (U:List Int) (lst:List Nat) (f:Wy) (i:Nat):Prop where
 srt:∀ j k,j≤k→k < lst.length→(wy f (lst.getD j 0)).length≤(wy f (lst.getD k 0)).length
 cap:i < lst.length→∀ j,j < lst.length→(wy f (lst.getD j 0)).length≤(wy f (lst.getD i 0)).length + 1
 dn:∀ j,j < i→∀ x v,v < G.length→rV U v=v→Ed G U (lst.getD j 0) x v→v∈lst∧(wy f v).length≤(wy f (lst.getD j 0)).length + 1
def BL (G:List Mp) (U:List Int) (lst:List Nat) (f:Wy) (i:Nat) (xs:List Int):Prop:=
 ∀ x∈xs,∀ v,v < G.length→rV U v=v→Ed G U (lst.getD i 0) x v→v∈lst∧(wy f v).length≤(wy f (lst.getD i 0)).length + 1
section
variable {G:List Mp} {U:List Int} {lst:List Nat} {f:Wy} {i:Nat}
theorem bq_zero:BQ G U [0] (updW (fun _=>none) 0 []) 0:=by
 refine ⟨fun j k h1 h2=>?_,fun _ j hj=>?_,fun j h=>absurd h (Nat.not_lt_zero _)⟩
 ·simp only [List.length_singleton] at h2
  obtain rfl:k=0:=by omega
  obtain rfl:j=0:=by omega
  exact Nat.le_refl _
 ·simp only [List.length_singleton] at hj
  obtain rfl:j=0:=by omega
  omega
theorem updW_other {z:Int} {l:List Int} {v:Nat} (h:(v:Int) ≠ z):wy (updW f z l) v=wy f v:=by
 unfold wy updW; rw [if_neg h]
theorem updW_self {u:Nat} {l:List Int} : wy (updW f (u:Int) l) u=l:=by
 unfold wy updW; rw [if_pos rfl]; rfl
theorem snoc_getD {u j:Nat} (h:j < lst.length):(lst++[u]).getD j 0=lst.getD j 0:=by
 rw [List.getD_eq_getElem?_getD,List.getElem?_append_left h,← List.getD_eq_getElem?_getD]
theorem BI.notin (h:BI G U lst f) {u:Nat} (hn:f (u:Int)=none):u ∉ lst:=fun hm=>by
 have:=(h.dom u).2 ⟨u,hm,rfl⟩
 rw [hn] at this; cases this
theorem BI.other (h:BI G U lst f) {u v:Nat} {l:List Int} (hn:f (u:Int)=none) (hv:v∈lst):wy (updW f (u:Int) l) v=wy f v:=
 updW_other fun e=>h.notin hn (by
  have:v=u:=by omega
  exact this ▸ hv)
theorem BQ.snoc (h:BI G U lst f) (q:BQ G U lst f i) (hi:i < lst.length) {u:Nat} {x:Int} (hn:f (u:Int)=none):BQ G U (lst++[u]) (updW f u (wy f (lst.getD i 0)++[x])) i:=by
 have old:∀ j,j < lst.length→wy (updW f u (wy f (lst.getD i 0)++[x])) ((lst++[u]).getD j 0)=wy f (lst.getD j 0):=fun j hj=>by
  rw [snoc_getD hj]; exact h.other hn (mem_ix hj)
 have new:wy (updW f u (wy f (lst.getD i 0)++[x])) ((lst++[u]).getD lst.length 0)=wy f (lst.getD i 0)++[x]:=by
  have:(lst++[u]).getD lst.length 0=u:=by simp
  rw [this]; exact updW_self
 have hl:(lst++[u]).length=lst.length + 1:=by simp
 refine ⟨fun j k h1 h2=>?_,fun _ j hj=>?_,fun j hj y v hv hr he=>?_⟩
 ·rw [hl] at h2
  by_cases e:k < lst.length
  ·rw [old j (by omega),old k e]; exact q.srt j k h1 e
  ·obtain rfl:k=lst.length:=by omega
   rw [new,List.length_append,List.length_singleton]
   by_cases e2:j < lst.length
   ·rw [old j e2]; exact q.cap hi j e2
   ·obtain rfl:j=lst.length:=by omega
    rw [new]; simp
 ·rw [hl] at hj
  rw [old i hi]
  by_cases e:j < lst.length
  ·rw [old j e]; exact q.cap hi j e
  ·obtain rfl:j=lst.length:=by omega
   rw [new]; simp
 ·rw [snoc_getD (by omega)] at he
  obtain ⟨h1,h2⟩:=q.dn j hj y v hv hr he
  rw [old j (by omega),h.other hn h1]
  exact ⟨List.mem_append_left _ h1,h2⟩
theorem BL.snoc {xs:List Int} (h:BI G U lst f) (b:BL G U lst f i xs) (hi:i < lst.length) {u:Nat} {x:Int} (hn:f (u:Int)=none):BL G U (lst++[u]) (updW f u (wy f (lst.getD i 0)++[x])) i xs:=fun y hy v hv hr he=>by
 rw [snoc_getD hi] at he ⊢
 obtain ⟨h1,h2⟩:=b y hy v hv hr he
 rw [h.other hn (mem_ix hi),h.other hn h1]
 exact ⟨List.mem_append_left _ h1,h2⟩
theorem BL.more {xs:List Int} (b:BL G U lst f i xs) {x:Int} {u:Nat} (hu:u∈lst) (hl:(wy f u).length≤(wy f (lst.getD i 0)).length + 1) (hx:∀ v,v < G.length→rV U v=v→Ed G U (lst.getD i 0) x v→v=u):BL G U lst f i (xs++[x]):=fun y hy v hv hr he=>by
 rcases List.mem_append.1 hy with hy | hy
 ·exact b y hy v hv hr he
 ·rw [List.mem_singleton] at hy
  subst hy
  rw [hx v hv hr he]
  exact ⟨hu,hl⟩
theorem BQ.next (q:BQ G U lst f i) {xs:List Int} (b:BL G U lst f i xs) (hx:∀ x v,v < G.length→rV U v=v→Ed G U (lst.getD i 0) x v→x∈xs):BQ G U lst f (i + 1):=by
 refine ⟨q.srt,fun h j hj=>?_,fun j hj x v hv hr he=>?_⟩
 ·have h1:=q.cap (by omega) j hj
  have h2:=q.srt i (i + 1) (by omega) h
  omega
 ·by_cases e:j < i
  ·exact q.dn j e x v hv hr he
  ·obtain rfl:j=i:=by omega
   exact b x (hx x v hv hr he) v hv hr he
theorem BQ.up {U' : List Int} (q:BQ G U lst f i) (h:BI G U lst f) (w:WG G U) (hr:∀ u,u < G.length→rV U' u=rV U u) (hi:i≤lst.length):BQ G U' lst f i:=
 ⟨q.srt,q.cap,fun j hj x v hv hrv he=>q.dn j hj x v hv (by rw [← hr v hv]; exact hrv) ((Ed.rv w hr (h.rt _ (mem_ix (by omega))).1 hv).1 he)⟩
theorem BL.up {U' : List Int} {xs:List Int} (b:BL G U lst f i xs) (h:BI G U lst f) (w:WG G U) (hr:∀ u,u < G.length→rV U' u=rV U u) (hi:i < lst.length):BL G U' lst f i xs:=fun x hx v hv hrv he =>
 b x hx v hv (by rw [← hr v hv]; exact hrv) ((Ed.rv w hr (h.rt _ (mem_ix hi)).1 hv).1 he)
theorem bq_gt (w0:WG G U) (hp:0 < G.length) (hs:SymW G U []) (h:BI G U lst f) (q:BQ G U lst f lst.length):GT (stR G U) lst f∧∀ u∈lst,∀ w,runW (stR G U) 0 w=some u→(wy f u).length≤w.length:=by
 have hst:∀ {u v:Nat} {x:Int},stR G U u x=some v→u < G.length∧rV U u=u∧v < G.length∧rV U v=v∧Ed G U u x v:=fun {u v x} hsx=>by
  obtain ⟨h1,h2⟩:=stR_root w0 hsx
  rw [stR_of h1] at hsx
  exact ⟨h1.1,h1.2,h2.1,h2.2,(stp_ed w0 h1 h2.2).1 hsx⟩
 have dn:∀ u∈lst,∀ x v,stR G U u x=some v→v∈lst∧(wy f v).length≤(wy f u).length + 1:=fun u hu x v hsx=>by
  obtain ⟨_,_,a3,a4,a5⟩:=hst hsx
  obtain ⟨j,hj,rfl⟩:=ix_of hu
  exact q.dn j hj x v a3 a4 a5
 refine ⟨⟨stR_inv w0 hs,h.nd,h.hd,h.dom,h.zero,fun j hj h0=>?_,fun u hu x v hsx=>(dn u hu x v hsx).1,fun u hu x v hsx=>?_⟩,?_⟩
 ·obtain ⟨i,x,l,a1,a2,a3,a4⟩:=h.tree j hj h0
  have m1:=h.rt _ (mem_ix (l:=lst) (i:=i) (by omega))
  have m2:=h.rt _ (mem_ix (l:=lst) hj)
  exact ⟨i,x,l,a1,a2,a3,by rw [stR_of m1]; exact (stp_ed w0 m1 m2.2).2 a4⟩
 ·obtain ⟨a1,a2,a3,a4,d,a5,a6⟩:=hst hsx
  rw [a2] at a5
  exact (w0.ent u x d a1 a5).2.2
 ·have go:∀ (w:List Int) (u v:Nat),u∈lst→runW (stR G U) u w=some v→v∈lst∧(wy f v).length≤(wy f u).length + w.length:=by
   intro w
   induction w with
   | nil=>intro u v hu h; obtain rfl:=Option.some.inj h; exact ⟨hu,by simp⟩
   | cons x w ih =>
    intro u v hu h
    unfold runW at h
    cases e:stR G U u x with
    | none=>rw [e] at h; cases h
    | some m =>
     rw [e] at h
     obtain ⟨h1,h2⟩:=dn u hu x m e
     obtain ⟨h3,h4⟩:=ih m v h1 h
     refine ⟨h3,?_⟩
     simp only [List.length_cons]; omega
  intro u hu w hw
  have h0:(0:Nat)∈lst:=List.mem_of_mem_head? (by rw [h.hd]; rfl)
  have:=(go w 0 u h0 hw).2
  have hw0:wy f 0=[]:=by unfold wy; rw [show ((0:Nat):Int)=0 from rfl,h.zero]; rfl
  rw [hw0] at this
  simpa using this
theorem stR_eq {U' : List Int} (w:WG G U) (hr:∀ u,u < G.length→rV U' u=rV U u):stR G U' = stR G U:=by
 funext u x
 unfold stR
 by_cases hu:u < G.length
 ·rw [hr u hu]
  by_cases h:rV U u=u
  ·rw [if_pos ⟨hu,h⟩,if_pos ⟨hu,h⟩]
   unfold stp
   cases e:gm G u x with
   | none=>rfl
   | some d =>
    have:=(w.ent u x d hu e).2.1
    simp only [Option.map_some,hr _ this]
  ·rw [if_neg fun e=>h e.2,if_neg fun e=>h e.2]
 ·rw [if_neg fun e=>hu e.1,if_neg fun e=>hu e.1]
theorem lts_ltS {u:Nat} (h:u < G.length∧rV U u=u):lts (gm G u)=ltS (stR G U) u:=by
 unfold lts ltS
 refine List.filter_congr fun x _=>?_
 rw [stR_of h]
 unfold stp
 cases gm G u x<;>rfl
end
end Go.Proofs.Ytneglephfhiamaa

set_option linter.all false
namespace Go.Proofs.Ytneglephfhiamaa
open Go.Pv
structure CG (step:Nat→Int→Option Nat) (lst:List Nat):Prop where
 inv:InvS step
 nd:lst.Nodup
 m0:0∈lst
 cl:∀ u∈lst,∀ x v,step u x=some v→v∈lst
 lt:∀ u∈lst,∀ x v,step u x=some v→x ≠ 0∧-26≤x∧x≤26
 con:∀ u∈lst,∃ w,runW step 0 w=some u
def UniG (step:Nat→Int→Option Nat) (lst:List Nat) (S:List (List Int)):Prop:=
 ∀ (X:Type) (st:X→Int→Option X) (x0:X),InvS st→(∀ w∈S,runW st x0 w=some x0)→∃ κ:Nat→X,κ 0=x0∧∀ u∈lst,∀ x v,step u x=some v→st (κ u) x=some (κ v)
section
variable {step step' : Nat→Int→Option Nat} {lst lst' : List Nat} {f f' : Wy} {S:List (List Int)}
theorem GT.cg (g:GT step lst f):CG step lst:=⟨g.inv,g.nd,g.mem0,g.cl,g.lt,fun u hu=>⟨_,g.run u hu⟩⟩
theorem mem_PE0 (hlt:∀ u∈lst,∀ x v,step u x=some v→x ≠ 0∧-26≤x∧x≤26) {u:Nat} {x:Int} : (u,x)∈PE step lst↔u∈lst∧0 < x∧(step u x).isSome=true:=by
 unfold PE
 rw [List.mem_flatMap]
 constructor
 ·rintro ⟨v,hv,h⟩
  obtain ⟨y,hy,e⟩:=List.mem_map.1 h
  injection e with e1 e2
  subst e1; subst e2
  have:=List.mem_filter.1 hy
  exact ⟨hv,by simpa using this.2,(mem_ltS.1 this.1).2⟩
 ·rintro ⟨hu,hx,hs⟩
  refine ⟨u,hu,List.mem_map.2 ⟨x,List.mem_filter.2 ⟨mem_ltS.2 ⟨?_,hs⟩,by simpa using hx⟩,rfl⟩⟩
  obtain ⟨v,hv⟩:=Option.isSome_iff_exists.1 hs
  exact (hlt u hu x v hv).2
theorem CG.inL (c:CG step lst):∀ {w:List Int} {u v:Nat},u∈lst→runW step u w=some v→v∈lst
 | [],u,v,hu,h=>by obtain rfl:=Option.some.inj h; exact hu
 | x :: w,u,v,hu,h=>by
  unfold runW at h
  cases e:step u x with
  | none=>rw [e] at h; cases h
  | some m=>rw [e] at h; exact c.inL (c.cl u hu x m e) h
theorem run_hom {X:Type} {st:X→Int→Option X} {κ:Nat→X} (c:CG step lst) (h:∀ u∈lst,∀ x v,step u x=some v→st (κ u) x=some (κ v)):∀ {w:List Int} {u v:Nat},u∈lst→runW step u w=some v→runW st (κ u) w=some (κ v)
 | [],u,v,hu,e=>by obtain rfl:=Option.some.inj e; rfl
 | x :: w,u,v,hu,e=>by
  unfold runW at e ⊢
  cases e1:step u x with
  | none=>rw [e1] at e; cases e
  | some m =>
   rw [e1] at e
   rw [h u hu x m e1]
   exact run_hom c h (c.cl u hu x m e1) e
theorem cg_half (c:CG step lst) (c' : CG step' lst') (u:UniG step lst S) (u' : UniG step' lst' S) (h:∀ s∈S,runW step 0 s=some 0) (h' : ∀ s∈S,runW step' 0 s=some 0) :
  lst.length≤lst'.length∧(PE step lst).length≤(PE step' lst').length:=by
 obtain ⟨κ,k1,k2⟩:=u Nat step' 0 c'.inv h'
 obtain ⟨μ,m1,m2⟩:=u' Nat step 0 c.inv h
 have hκ:∀ a∈lst,κ a∈lst'∧μ (κ a)=a:=fun a ha=>by
  obtain ⟨w,hw⟩:=c.con a ha
  have h1:=run_hom c k2 c.m0 hw
  rw [k1] at h1
  have h2:=run_hom c' m2 c'.m0 h1
  rw [m1,hw] at h2
  exact ⟨c'.inL c'.m0 h1,(Option.some.inj h2).symm⟩
 have inj:∀ a∈lst,∀ b∈lst,κ a=κ b→a=b:=fun a ha b hb e=>by rw [← (hκ a ha).2,e,(hκ b hb).2]
 constructor
 ·have e:(lst.map κ).length=lst.length:=List.length_map ..
  rw [← e]
  exact nd_le (nodup_mapF c.nd inj) fun x hx=>by
   obtain ⟨a,ha,rfl⟩:=List.mem_map.1 hx
   exact (hκ a ha).1
 ·have e:((PE step lst).map fun p=>(κ p.1,p.2)).length=(PE step lst).length:=List.length_map ..
  rw [← e]
  refine nd_le (nodup_mapF (PE_nd c.nd) fun a ha b hb e=>?_) fun x hx=>?_
  ·injection e with e1 e2
   exact Prod.ext (inj _ ((mem_PE0 c.lt).1 ha).1 _ ((mem_PE0 c.lt).1 hb).1 e1) e2
  ·obtain ⟨⟨a,y⟩,ha,rfl⟩:=List.mem_map.1 hx
   obtain ⟨h1,h2,h3⟩:=(mem_PE0 c.lt).1 ha
   obtain ⟨v,hv⟩:=Option.isSome_iff_exists.1 h3
   exact (mem_PE0 c'.lt).2 ⟨(hκ a h1).1,h2,by rw [k2 a h1 y v hv]; rfl⟩
theorem cg_iso (c:CG step lst) (c' : CG step' lst') (u:UniG step lst S) (u' : UniG step' lst' S) (h:∀ s∈S,runW step 0 s=some 0) (h' : ∀ s∈S,runW step' 0 s=some 0) :
  lst.length=lst'.length∧(PE step lst).length=(PE step' lst').length:=
 ⟨Nat.le_antisymm (cg_half c c' u u' h h').1 (cg_half c' c u' u h' h).1,Nat.le_antisymm (cg_half c c' u u' h h').2 (cg_half c' c u' u h' h).2⟩
structure IsG (S:List (List Int)) (step:Nat→Int→Option Nat) (lst:List Nat) (f:Wy):Prop where
 gt:GT step lst f
 uni:UniG step lst S
 cl:∀ s∈S,runW step 0 s=some 0
 far:∀ u∈lst,∀ w,runW step 0 w=some u→(wy f u).length≤w.length
structure IsC (S:List (List Int)) (step:Nat→Int→Option Nat) (lst:List Nat):Prop where
 cg:CG step lst
 uni:UniG step lst S
 cl:∀ s∈S,runW step 0 s=some 0
theorem IsG.isC (h:IsG S step lst f):IsC S step lst:=⟨h.gt.cg,h.uni,h.cl⟩
open Classical in
noncomputable def vS (S:List (List Int)):Nat:=if h:∃ p:(Nat→Int→Option Nat) × List Nat,IsC S p.1 p.2 then h.choose.2.length else 0
open Classical in
noncomputable def eS (S:List (List Int)):Nat:=if h:∃ p:(Nat→Int→Option Nat) × List Nat,IsC S p.1 p.2 then (PE h.choose.1 h.choose.2).length else 0
theorem IsC.cnt (h:IsC S step lst):lst.length=vS S∧(PE step lst).length=eS S:=by
 have hx:∃ p:(Nat→Int→Option Nat) × List Nat,IsC S p.1 p.2:=⟨(step,lst),h⟩
 have h2:=hx.choose_spec
 have:=cg_iso h.cg h2.cg h.uni h2.uni h.cl h2.cl
 unfold vS eS
 rw [dif_pos hx,dif_pos hx]
 exact this
theorem IsG.cnt (h:IsG S step lst f):lst.length=vS S∧(PE step lst).length=eS S:=h.isC.cnt
theorem IsG.rank (h:IsG S step lst f):(basS step lst f).length + vS S=eS S + 1:=by
 have:=basS_len h.gt
 rw [← h.cnt.1,← h.cnt.2]; exact this
theorem uni_ltn (c:CG step lst) (u:UniG step lst S) {n:Int} (hS:∀ s∈S,∀ x∈s,-n≤x∧x≤n):Ltn step lst n:=by
 obtain ⟨κ,_,k2⟩:=u Unit (fun _ x=>if -n≤x∧x≤n then some () else none) () (fun c d x _ h=>by
  cases c; cases d
  dsimp only at h ⊢
  by_cases h2 : -n≤x∧x≤n
  ·rw [if_pos (by omega)]
  ·rw [if_neg h2] at h; cases h) fun s hs=>by
  have:∀ w:List Int,(∀ x∈w,-n≤x∧x≤n)→runW (fun (_:Unit) x=>if -n≤x∧x≤n then some () else none) () w=some ():=by
   intro w
   induction w with
   | nil=>intro _; rfl
   | cons x w ih =>
    intro h
    unfold runW
    rw [if_pos (h x (by simp))]
    exact ih fun y hy=>h y (by simp [hy])
  exact this s (hS s hs)
 intro a ha x v h
 have:=k2 a ha x v h
 by_cases h2 : -n≤x∧x≤n
 ·exact h2
 ·rw [if_neg h2] at this; cases this
theorem IsG.full (h:IsG S step lst f) {n:Nat} (hS:∀ s∈S,∀ x∈s,-(n:Int)≤x∧x≤n):Full step lst n↔eS S=n * vS S:=by
 rw [h.gt.full_iff (uni_ltn h.gt.cg h.uni hS),h.cnt.1,h.cnt.2]
end
theorem fi_isG {G:List Mp} {U:List Int} {S:List (List Int)} {lst:List Nat} {f:Wy} (fi:FI S G U S 0 []) (g:GT (stR G U) lst f) (hrt:∀ u∈lst,u < G.length∧rV U u=u) (hf:∀ u∈lst,∀ w,runW (stR G U) 0 w=some u→(wy f u).length≤w.length):IsG S (stR G U) lst f:=by
 have hz:rV U 0=0:=rV_zero fi.wg.fo (by rw [fi.wg.len]; exact fi.pos)
 refine ⟨g,fun X st x0 hi hc=>?_,fun s hs=>?_,hf⟩
 ·obtain ⟨κ,k1,k2,_⟩:=fi.uni X st x0 hi hc
  refine ⟨κ,k1,fun u hu x v hs=>?_⟩
  obtain ⟨h1,h2⟩:=stR_root fi.wg hs
  rw [stR_of h1] at hs
  exact k2.2 u x v h1.1 h2.1 (pe_nil.2 ((stp_ed fi.wg h1 h2.2).1 hs))
 ·have:=pth_run fi.wg s 0 0 fi.pos fi.pos (fi.cl s hs)
  rwa [hz] at this
end Go.Proofs.Ytneglephfhiamaa

set_option linter.all false
namespace Go.Proofs.Ytneglephfhiamaa
open Go.Pv
def e3d:E3:=(0,0,0)
def cl2 (s t:E3):Option (Nat × Nat):=if s.2.1 ≠ t.2.1 then none else if s.1=t.1∧s.2.2 ≠ t.2.2 then some (s.2.2,t.2.2) else if s.2.2=t.2.2∧s.1 ≠ t.1 then some (s.1,t.1) else none
def clashS (e:List E3):Option (Nat × Nat):=(List.range e.length).findSome? fun i=>(List.range i).findSome? fun k=>cl2 (e.getD i e3d) (e.getD k e3d)
def dd:List E3→List E3→List E3
 | f,[]=>f
 | f,x :: r=>if x∈f then dd f r else dd (f++[x]) r
def onceS (e:List E3) (a b:Nat):List E3:=dd [] (e.map (rhoE a b))
def foldF:Nat→List E3→List E3
 | 0,e=>e
 | n + 1,e=>match clashS e with
  | none=>e
  | some (a,b)=>foldF n (onceS e (min a b) (max a b))
def edE (at_:Nat) (x:Int) (to:Nat):E3:=if 0 < x then (at_,x,to) else (to,-x,at_)
def bqW:List Int→Nat→Nat→List E3→Nat × List E3
 | [],_,n,e=>(n,e)
 | x :: r,at_,n,e=>match r with
  | []=>(n,e++[edE at_ x 0])
  | _ :: _=>bqW r n (n + 1) (e++[edE at_ x n])
def bqL:List (List Int)→Nat→List E3→Nat × List E3
 | [],n,e=>(n,e)
 | w :: r,n,e=>bqL r (bqW w 0 n e).1 (bqW w 0 n e).2
theorem mem_dd:∀ (r f:List E3) (t:E3),t∈dd f r↔t∈f∨t∈r
 | [],f,t=>by simp [dd]
 | x :: r,f,t=>by
  unfold dd
  split
  ·rename_i h
   rw [mem_dd r f t]
   constructor
   ·rintro (h1 | h1)
    ·exact .inl h1
    ·exact .inr (List.mem_cons_of_mem _ h1)
   ·rintro (h1 | h1)
    ·exact .inl h1
    ·rcases List.mem_cons.1 h1 with rfl | h1
     ·exact .inl h
     ·exact .inr h1
  ·rw [mem_dd r _ t]
   simp only [List.mem_append,List.mem_cons,List.not_mem_nil,or_false]
   constructor
   ·rintro ((h1 | h1) | h1)
    ·exact .inl h1
    ·exact .inr (.inl h1)
    ·exact .inr (.inr h1)
   ·rintro (h1 | h1 | h1)
    ·exact .inl (.inl h1)
    ·exact .inl (.inr h1)
    ·exact .inr h1
theorem dd_nd:∀ (r f:List E3),f.Nodup→(dd f r).Nodup
 | [],f,h=>h
 | x :: r,f,h=>by
  unfold dd
  split
  ·exact dd_nd r f h
  ·rename_i hx
   refine dd_nd r _ ?_
   rw [List.nodup_append]
   exact ⟨h,by simp,fun a ha b hb=>by rw [List.mem_singleton] at hb; subst hb; exact fun e=>hx (e ▸ ha)⟩
theorem dd_len:∀ (r f:List E3),(dd f r).length≤f.length + r.length
 | [],f=>Nat.le_refl _
 | x :: r,f=>by
  unfold dd
  split
  ·have:=dd_len r f; simp only [List.length_cons]; omega
  ·have:=dd_len r (f++[x]); simp only [List.length_append,List.length_cons,List.length_nil] at this ⊢; omega
theorem mem_once {e:List E3} {a b:Nat} {t:E3} : t∈onceS e a b↔∃ s∈e,rhoE a b s=t:=by
 unfold onceS
 rw [mem_dd,List.mem_map]
 simp
theorem once_nd (e:List E3) (a b:Nat):(onceS e a b).Nodup:=dd_nd _ _ List.nodup_nil
theorem once_len (e:List E3) (a b:Nat):(onceS e a b).length≤e.length:=by
 have:=dd_len (e.map (rhoE a b)) []
 simpa [onceS] using this
theorem rho_id (u:Nat):rho 0 0 u=u:=by
 unfold rho; split
 ·rename_i h; exact h.symm
 ·rfl
theorem once_zero {e:List E3} {t:E3} : t∈onceS e 0 0↔t∈e:=by
 rw [mem_once]
 have hr:∀ s:E3,rhoE 0 0 s=s:=fun s=>by unfold rhoE; rw [rho_id,rho_id]
 constructor
 ·rintro ⟨s,hs,rfl⟩; rw [hr]; exact hs
 ·intro h; exact ⟨t,h,hr t⟩
theorem find_some {α:Type} {f:Nat→Option α} {n:Nat} {p:α} (h:(List.range n).findSome? f=some p):∃ i,i < n∧f i=some p:=by
 obtain ⟨i,hi,hf⟩:=List.exists_of_findSome?_eq_some h
 exact ⟨i,List.mem_range.1 hi,hf⟩
theorem mem_e3 {e:List E3} {i:Nat} (h:i < e.length):e.getD i e3d∈e:=by
 rw [List.getD_eq_getElem?_getD,List.getElem?_eq_getElem h]; exact List.getElem_mem h
theorem cl2_some {s t:E3} {a b:Nat} (h:cl2 s t=some (a,b)):s.2.1=t.2.1∧a ≠ b∧((s.1=t.1∧s.2.2=a∧t.2.2=b)∨(s.2.2=t.2.2∧s.1=a∧t.1=b)):=by
 unfold cl2 at h
 split at h
 ·cases h
 ·rename_i h1
  split at h
  ·rename_i h2
   have:=Option.some.inj h
   injection this with e1 e2
   exact ⟨by simpa using h1,by rw [← e1,← e2]; exact h2.2,.inl ⟨h2.1,e1,e2⟩⟩
  ·split at h
   ·rename_i h2
    have:=Option.some.inj h
    injection this with e1 e2
    exact ⟨by simpa using h1,by rw [← e1,← e2]; exact h2.2,.inr ⟨h2.1,e1,e2⟩⟩
   ·cases h
theorem clash_some {e:List E3} {a b:Nat} (h:clashS e=some (a,b)):Clash e a b∧a ≠ b:=by
 obtain ⟨i,hi,h1⟩:=find_some h
 obtain ⟨k,hk,h2⟩:=find_some h1
 obtain ⟨c1,c2,c3⟩:=cl2_some h2
 exact ⟨⟨_,mem_e3 hi,_,mem_e3 (by omega),c1,c3⟩,c2⟩
theorem clash_none {e:List E3} (h:clashS e=none):Det e:=by
 have hn:∀ i k,i < e.length→k < i→cl2 (e.getD i e3d) (e.getD k e3d)=none:=fun i k hi hk=>by
  have h1:=(List.findSome?_eq_none_iff.1 h) i (List.mem_range.2 hi)
  exact (List.findSome?_eq_none_iff.1 h1) k (List.mem_range.2 hk)
 have key:∀ i k,i < e.length→k < i→(e.getD i e3d).2.1=(e.getD k e3d).2.1→((e.getD i e3d).1=(e.getD k e3d).1↔(e.getD i e3d).2.2=(e.getD k e3d).2.2):=fun i k hi hk hx=>by
  have h1:=hn i k hi hk
  unfold cl2 at h1
  rw [if_neg (by simpa using hx)] at h1
  split at h1
  ·cases h1
  ·rename_i h2
   split at h1
   ·cases h1
   ·rename_i h3
    constructor
    ·intro h4; exact Classical.byContradiction fun h5=>h2 ⟨h4,h5⟩
    ·intro h4; exact Classical.byContradiction fun h5=>h3 ⟨h4,h5⟩
 have key2:∀ s∈e,∀ t∈e,s.2.1=t.2.1→(s.1=t.1↔s.2.2=t.2.2):=fun s hs t ht hx=>by
  obtain ⟨i,hi,rfl⟩:=List.getElem_of_mem hs
  obtain ⟨k,hk,rfl⟩:=List.getElem_of_mem ht
  have ei:e[i]=e.getD i e3d:=by rw [List.getD_eq_getElem?_getD,List.getElem?_eq_getElem hi]; rfl
  have ek:e[k]=e.getD k e3d:=by rw [List.getD_eq_getElem?_getD,List.getElem?_eq_getElem hk]; rfl
  rw [ei,ek] at hx ⊢
  rcases Nat.lt_trichotomy i k with h | h | h
  ·have:=key k i hk h hx.symm
   exact ⟨fun h=>(this.1 h.symm).symm,fun h=>(this.2 h.symm).symm⟩
  ·subst h; exact ⟨fun _=>rfl,fun _=>rfl⟩
  ·exact key i k hi h hx
 refine det_of fun a b ⟨s,hs,t,ht,hx,hc⟩=>?_
 rcases hc with ⟨h1,rfl,rfl⟩ | ⟨h1,rfl,rfl⟩
 ·exact (key2 s hs t ht hx).1 h1
 ·exact (key2 s hs t ht hx).2 h1
structure FC (S:List (List Int)) (e:List E3):Prop where
 fe:FE S e
 let26:∀ t∈e,t.2.1≤26
 con:∀ t∈e,∃ w,PthE e 0 w t.1
theorem PthE.app {e:List E3} : ∀ {w v:List Int} {a b c:Nat},PthE e a w b→PthE e b v c→PthE e a (w++v) c
 | [],v,a,b,c,h,h2=>by rw [PthE] at h; subst h; exact h2
 | x :: w,v,a,b,c,⟨m,h1,h3⟩,h2=>⟨m,h1,PthE.app h3 h2⟩
theorem FE.congr {S:List (List Int)} {e f:List E3} (h:FE S e) (hm:∀ t,t∈f↔t∈e):FE S f:=by
 refine ⟨fun t ht=>h.pos t ((hm t).1 ht),fun w hw=>(h.cl w hw).mono fun t ht=>(hm t).2 ht,fun X step x0 hi hc=>?_⟩
 obtain ⟨κ,k1,k2⟩:=h.uni X step x0 hi hc
 exact ⟨κ,k1,fun t ht=>k2 t ((hm t).1 ht)⟩
theorem FC.congr {S:List (List Int)} {e f:List E3} (h:FC S e) (hm:∀ t,t∈f↔t∈e):FC S f:=
 ⟨h.fe.congr hm,fun t ht=>h.let26 t ((hm t).1 ht),fun t ht=>(h.con t ((hm t).1 ht)).imp fun w hw=>hw.mono fun t ht=>(hm t).2 ht⟩
theorem FC.join {S:List (List Int)} {e:List E3} {a b:Nat} (h:FC S e) (hc:Clash e a b∨Clash e b a) (hb:b ≠ 0):FC S (onceS e a b):=by
 refine ⟨h.fe.join hc hb (fun t ht=>mem_once.1 ht) fun t ht=>mem_once.2 ⟨t,ht,rfl⟩,fun t ht=>?_,fun t ht=>?_⟩
 ·obtain ⟨s,hs,rfl⟩:=mem_once.1 ht
  exact h.let26 s hs
 ·obtain ⟨s,hs,rfl⟩:=mem_once.1 ht
  obtain ⟨w,hw⟩:=h.con s hs
  have:=hw.map (a:=a) (b:=b) (f:=onceS e a b) fun t ht=>mem_once.2 ⟨t,ht,rfl⟩
  have h0:rho a b 0=0:=if_neg (fun e=>hb e.symm)
  rw [h0] at this
  exact ⟨w,this⟩
def occ (N:Nat) (e:List E3):Nat:=(List.range N).countP fun v=>decide (∃ t∈e,t.1=v∨t.2.2=v)
theorem occ_le (N:Nat) (e:List E3):occ N e≤N:=by
 have:=List.countP_le_length (p:=fun v=>decide (∃ t∈e,t.1=v∨t.2.2=v)) (l:=List.range N)
 simpa [occ] using this
theorem clash_mem {e:List E3} {a b:Nat} (h:Clash e a b):(∃ t∈e,t.1=a∨t.2.2=a)∧∃ t∈e,t.1=b∨t.2.2=b:=by
 obtain ⟨s,hs,t,ht,_,⟨_,h1,h2⟩ | ⟨_,h1,h2⟩⟩:=h
 ·exact ⟨⟨s,hs,.inr h1⟩,t,ht,.inr h2⟩
 ·exact ⟨⟨s,hs,.inl h1⟩,t,ht,.inl h2⟩
def Lt (N:Nat) (e:List E3):Prop:=∀ t∈e,t.1 < N∧t.2.2 < N
theorem lt_clash {N:Nat} {e:List E3} {a b:Nat} (hl:Lt N e) (h:Clash e a b):a < N∧b < N:=by
 obtain ⟨⟨s,hs,h1⟩,t,ht,h2⟩:=clash_mem h
 have:=hl s hs
 have:=hl t ht
 omega
theorem lt_once {N:Nat} {e:List E3} {a b:Nat} (hl:Lt N e) (ha:a < N):Lt N (onceS e a b):=fun t ht=>by
 obtain ⟨s,hs,rfl⟩:=mem_once.1 ht
 have:=hl s hs
 unfold rhoE rho
 simp only
 constructor<;>split<;>omega
theorem occ_once {N:Nat} {e:List E3} {a b:Nat} (hl:Lt N e) (h:Clash e a b∨Clash e b a) (hne:a ≠ b):occ N (onceS e a b) < occ N e:=by
 have hab:(∃ t∈e,t.1=a∨t.2.2=a)∧(∃ t∈e,t.1=b∨t.2.2=b)∧b < N:=by
  rcases h with h | h
  ·exact ⟨(clash_mem h).1,(clash_mem h).2,(lt_clash hl h).2⟩
  ·exact ⟨(clash_mem h).2,(clash_mem h).1,(lt_clash hl h).1⟩
 obtain ⟨h1,h2,h3⟩:=hab
 unfold occ
 refine countP_lt _ b (List.mem_range.2 h3) (by simpa using h2) ?_ fun x hx hx2=>?_
 ·simp only [decide_eq_false_iff_not,not_exists,not_and]
  intro t ht
  obtain ⟨s,hs,rfl⟩:=mem_once.1 ht
  unfold rhoE rho
  simp only
  intro hh
  rcases hh with hh | hh<;>split at hh<;>omega
 ·simp only [decide_eq_true_eq] at hx2 ⊢
  obtain ⟨t,ht,hh⟩:=hx2
  obtain ⟨s,hs,rfl⟩:=mem_once.1 ht
  unfold rhoE rho at hh
  simp only at hh
  rcases hh with hh | hh
  ·split at hh
   ·rw [← hh]; exact h1
   ·exact ⟨s,hs,.inl hh⟩
  ·split at hh
   ·rw [← hh]; exact h1
   ·exact ⟨s,hs,.inr hh⟩
theorem foldF_spec {S:List (List Int)} {N:Nat} : ∀ (n:Nat) (e:List E3),FC S e→Lt N e→occ N e≤n→FC S (foldF n e)∧Det (foldF n e)∧(e.Nodup→(foldF n e).Nodup)∧(foldF n e).length≤e.length
 | 0,e,h,hl,hn=>by
  refine ⟨h,?_,id,Nat.le_refl _⟩
  cases hc:clashS e with
  | none=>exact clash_none hc
  | some p =>
   obtain ⟨a,b⟩:=p
   obtain ⟨h1,h2⟩:=clash_some hc
   have:=occ_once hl (.inl h1) h2
   omega
 | n + 1,e,h,hl,hn=>by
  unfold foldF
  cases hc:clashS e with
  | none=>exact ⟨h,clash_none hc,id,Nat.le_refl _⟩
  | some p =>
   obtain ⟨a,b⟩:=p
   obtain ⟨h1,h2⟩:=clash_some hc
   have hcl:Clash e (min a b) (max a b)∨Clash e (max a b) (min a b):=by
    rcases Nat.le_total a b with h3 | h3
    ·rw [Nat.min_eq_left h3,Nat.max_eq_right h3]; exact .inl h1
    ·rw [Nat.min_eq_right h3,Nat.max_eq_left h3]; exact .inr h1
   have hab:=lt_clash hl h1
   have hlt:=occ_once hl hcl (by omega)
   have:=foldF_spec n (onceS e (min a b) (max a b)) (h.join hcl (by omega)) (lt_once hl (by omega)) (by omega)
   exact ⟨this.1,this.2.1,fun _=>this.2.2.1 (once_nd _ _ _),Nat.le_trans this.2.2.2 (once_len _ _ _)⟩
structure BqI (S done:List (List Int)) (e:List E3) (n at_:Nat) (p:List Int):Prop where
 pos:0 < n
 al:at_ < n
 lt:∀ t∈e,t.1 < n∧t.2.2 < n∧0 < t.2.1∧t.2.1≤26
 cl:∀ w∈done,PthE e 0 w 0
 con:∀ u,u < n→∃ w,PthE e 0 w u
 pth:PthE e 0 p at_
 uni:∀ (X:Type) (step:X→Int→Option X) (x0:X),InvS step→(∀ w∈S,runW step x0 w=some x0)→∃ κ:Nat→X,κ 0=x0∧CmpE step κ e∧runW step x0 p=some (κ at_)
theorem bqI_zero (S:List (List Int)):BqI S [] [] 1 0 []:=by
 refine ⟨Nat.one_pos,Nat.one_pos,fun t ht=>?_,fun w hw=>?_,fun u hu=>⟨[],?_⟩,rfl,fun X step x0 _ _=>⟨fun _=>x0,rfl,fun t ht=>?_,rfl⟩⟩
 ·cases ht
 ·cases hw
 ·show 0=u; omega
 ·cases ht
theorem re_edE {e:List E3} {a b:Nat} {x:Int} (hx:x ≠ 0):Re (e++[edE a x b]) a x b:=by
 unfold edE
 by_cases h:0 < x
 ·rw [if_pos h]; exact .inl ⟨h,by simp⟩
 ·rw [if_neg h]; exact .inr ⟨by omega,by simp⟩
theorem PthE.snoc {e:List E3} {a b c:Nat} {w:List Int} {x:Int} (h:PthE e a w b) (h2:Re e b x c):PthE e a (w++[x]) c:=h.app ⟨c,h2,rfl⟩
theorem cmp_edE {X:Type} {step:X→Int→Option X} {κ:Nat→X} {e:List E3} {a b:Nat} {x:Int} (hi:InvS step) (hx:x ≠ 0) (h:CmpE step κ e) (hs:step (κ a) x=some (κ b)):CmpE step κ (e++[edE a x b]):=fun t ht=>by
 rcases List.mem_append.1 ht with ht | ht
 ·exact h t ht
 ·rw [List.mem_singleton] at ht
  subst ht
  unfold edE
  split
  ·exact hs
  ·exact hi _ _ _ hx hs
theorem runW_pre {X:Type} {step:X→Int→Option X} {c:X} {p r:List Int} {x:Int} {d z:X} (h:runW step c p=some d) (h2:runW step c (p++x :: r)=some z):∃ y,step d x=some y∧runW step y r=some z:=by
 rw [runW_app,h] at h2
 have h2:runW step d (x :: r)=some z:=h2
 unfold runW at h2
 cases e:step d x with
 | none=>rw [e] at h2; cases h2
 | some y=>rw [e] at h2; exact ⟨y,rfl,h2⟩
theorem BqI.put {S done:List (List Int)} {e:List E3} {n at_:Nat} {p:List Int} (h:BqI S done e n at_ p) {x:Int} (hx:x ≠ 0∧-26≤x∧x≤26) {r:List Int} (hm:p++x :: r∈S):BqI S done (e++[edE at_ x n]) (n + 1) n (p++[x]):=by
 have hmono:∀ t∈e,t∈e++[edE at_ x n]:=fun t ht=>List.mem_append_left _ ht
 have hp:PthE (e++[edE at_ x n]) 0 (p++[x]) n:=(h.pth.mono hmono).snoc (re_edE hx.1)
 refine ⟨by omega,by omega,fun t ht=>?_,fun w hw=>(h.cl w hw).mono hmono,fun u hu=>?_,hp,fun X step x0 hi hc=>?_⟩
 ·rcases List.mem_append.1 ht with ht | ht
  ·obtain ⟨a1,a2,a3⟩:=h.lt t ht; exact ⟨by omega,by omega,a3⟩
  ·rw [List.mem_singleton] at ht
   subst ht
   have:=h.al
   unfold edE
   split
   ·exact ⟨by simp only; omega,by simp only; omega,by simp only; omega,by simp only; omega⟩
   ·exact ⟨by simp only; omega,by simp only; omega,by simp only; omega,by simp only; omega⟩
 ·by_cases hu2:u < n
  ·exact (h.con u hu2).imp fun w hw=>hw.mono hmono
  ·obtain rfl:u=n:=by omega
   exact ⟨_,hp⟩
 ·obtain ⟨κ,k1,k2,k3⟩:=h.uni X step x0 hi hc
  obtain ⟨y,y1,y2⟩:=runW_pre k3 (hc _ hm)
  have old:∀ u,u < n→(if u=n then y else κ u)=κ u:=fun u hu=>if_neg (by omega)
  refine ⟨fun u=>if u=n then y else κ u,?_,cmp_edE hi hx.1 (fun t ht=>?_) ?_,?_⟩
  ·show (if 0=n then y else κ 0)=x0
   rw [old 0 h.pos,k1]
  ·show step (if t.1=n then y else κ t.1) t.2.1=some (if t.2.2=n then y else κ t.2.2)
   rw [old _ (h.lt t ht).1,old _ (h.lt t ht).2.1]
   exact k2 t ht
  ·show step (if at_=n then y else κ at_) x=some (if n=n then y else κ n)
   rw [old _ h.al,if_pos rfl]; exact y1
  ·show runW step x0 (p++[x])=some (if n=n then y else κ n)
   rw [if_pos rfl,runW_app,k3]
   show runW step (κ at_) [x]=some y
   unfold runW; rw [y1]; rfl
theorem BqI.back {S done:List (List Int)} {e:List E3} {n at_:Nat} {p:List Int} (h:BqI S done e n at_ p) {x:Int} (hx:x ≠ 0∧-26≤x∧x≤26) (hm:p++[x]∈S):BqI S (done++[p++[x]]) (e++[edE at_ x 0]) n 0 []:=by
 have hmono:∀ t∈e,t∈e++[edE at_ x 0]:=fun t ht=>List.mem_append_left _ ht
 have hp:PthE (e++[edE at_ x 0]) 0 (p++[x]) 0:=(h.pth.mono hmono).snoc (re_edE hx.1)
 refine ⟨h.pos,h.pos,fun t ht=>?_,fun w hw=>?_,fun u hu=>(h.con u hu).imp fun w hw=>hw.mono hmono,rfl,fun X step x0 hi hc=>?_⟩
 ·rcases List.mem_append.1 ht with ht | ht
  ·exact h.lt t ht
  ·rw [List.mem_singleton] at ht
   subst ht
   have:=h.al
   have:=h.pos
   unfold edE
   split
   ·exact ⟨by simp only; omega,by simp only; omega,by simp only; omega,by simp only; omega⟩
   ·exact ⟨by simp only; omega,by simp only; omega,by simp only; omega,by simp only; omega⟩
 ·rcases List.mem_append.1 hw with hw | hw
  ·exact (h.cl w hw).mono hmono
  ·rw [List.mem_singleton] at hw; subst hw; exact hp
 ·obtain ⟨κ,k1,k2,k3⟩:=h.uni X step x0 hi hc
  obtain ⟨y,y1,y2⟩:=runW_pre k3 (hc _ hm)
  have y2:some y=some x0:=y2
  refine ⟨κ,k1,cmp_edE hi hx.1 k2 ?_,by rw [k1]; rfl⟩
  rw [k1,y1,y2]
theorem bqW_spec {S done:List (List Int)} : ∀ (r:List Int) (p:List Int) (e:List E3) (n at_:Nat),BqI S done e n at_ p→(∀ x∈r,x ≠ 0∧-26≤x∧x≤26)→p++r∈S→r ≠ []→BqI S (done++[p++r]) (bqW r at_ n e).2 (bqW r at_ n e).1 0 []
 | [],p,e,n,at_,h,hx,hm,hr=>absurd rfl hr
 | [x],p,e,n,at_,h,hx,hm,_=>h.back (hx x (by simp)) hm
 | x :: y :: r,p,e,n,at_,h,hx,hm,_=>by
  have h1:=h.put (hx x (by simp)) hm
  have:=bqW_spec (y :: r) (p++[x]) (e++[edE at_ x n]) (n + 1) n h1 (fun z hz=>hx z (by simp only [List.mem_cons] at hz ⊢; exact .inr hz)) (by rw [List.append_assoc]; exact hm) (by simp)
  rw [List.append_assoc] at this
  unfold bqW
  exact this
theorem bqL_spec {S:List (List Int)} : ∀ (r done:List (List Int)) (e:List E3) (n:Nat),BqI S done e n 0 []→(∀ w∈r,w∈S∧∀ x∈w,x ≠ 0∧-26≤x∧x≤26)→BqI S (done++r) (bqL r n e).2 (bqL r n e).1 0 []
 | [],done,e,n,h,_=>by rw [List.append_nil]; exact h
 | w :: r,done,e,n,h,hr=>by
  have hw:=hr w (by simp)
  have h1:BqI S (done++[w]) (bqW w 0 n e).2 (bqW w 0 n e).1 0 []:=by
   cases w with
   | nil =>
    refine ⟨h.pos,h.al,h.lt,fun v hv=>?_,h.con,h.pth,h.uni⟩
    rcases List.mem_append.1 hv with hv | hv
    ·exact h.cl v hv
    ·rw [List.mem_singleton] at hv; subst hv; rfl
   | cons x t=>exact bqW_spec (x :: t) [] e n 0 h hw.2 hw.1 (by simp)
  have:=bqL_spec r (done++[w]) _ _ h1 fun v hv=>hr v (by simp [hv])
  rw [List.append_assoc] at this
  exact this
theorem bqW_len:∀ (r:List Int) (at_ n:Nat) (e:List E3),(bqW r at_ n e).2.length=e.length + r.length∧(bqW r at_ n e).1≤n + r.length
 | [],_,n,e=>⟨rfl,Nat.le_refl _⟩
 | [x],at_,n,e=>⟨by simp [bqW],by simp [bqW]⟩
 | x :: y :: r,at_,n,e=>by
  have:=bqW_len (y :: r) n (n + 1) (e++[edE at_ x n])
  unfold bqW
  simp only [List.length_append,List.length_cons,List.length_nil] at this ⊢
  omega
theorem bqL_len:∀ (L:List (List Int)) (n:Nat) (e:List E3),(bqL L n e).2.length=e.length + tot L∧(bqL L n e).1≤n + tot L
 | [],n,e=>⟨by simp [bqL,tot],by simp [bqL]⟩
 | w :: r,n,e=>by
  have h1:=bqW_len w 0 n e
  have h2:=bqL_len r (bqW w 0 n e).1 (bqW w 0 n e).2
  have h3:tot (w :: r)=w.length + tot r:=by simp [tot]
  unfold bqL
  omega
def folded (L:List (List Int)):List E3:=foldF (bqL (L.map short) 1 []).1 (onceS (bqL (L.map short) 1 []).2 0 0)
theorem folded_spec {L:List (List Int)} (hL:∀ w∈L,Ok w):FC (L.map short) (folded L)∧Det (folded L)∧(folded L).Nodup:=by
 have h:=bqL_spec (S:=L.map short) (L.map short) [] [] 1 (bqI_zero _) fun w hw=>⟨hw,by
  obtain ⟨v,hv,rfl⟩:=List.mem_map.1 hw
  exact (hL v hv).short⟩
 rw [List.nil_append] at h
 have hfc:FC (L.map short) (bqL (L.map short) 1 []).2:=by
  refine ⟨⟨fun t ht=>(h.lt t ht).2.2.1,h.cl,fun X step x0 hi hc=>?_⟩,fun t ht=>(h.lt t ht).2.2.2,fun t ht=>h.con _ (h.lt t ht).1⟩
  obtain ⟨κ,k1,k2,_⟩:=h.uni X step x0 hi hc
  exact ⟨κ,k1,k2⟩
 have:=foldF_spec (N:=(bqL (L.map short) 1 []).1) (bqL (L.map short) 1 []).1 (onceS (bqL (L.map short) 1 []).2 0 0) (hfc.congr fun t=>once_zero) (fun t ht=>by
  have:=h.lt t (once_zero.1 ht)
  exact ⟨this.1,this.2.1⟩) (occ_le _ _)
 exact ⟨this.1,this.2.1,this.2.2.1 (once_nd _ _ _)⟩
theorem folded_len (L:List (List Int)) (hL:∀ w∈L,Ok w):(folded L).length≤tot (L.map short):=by
 have h:=bqL_spec (S:=L.map short) (L.map short) [] [] 1 (bqI_zero _) fun w hw=>⟨hw,by
  obtain ⟨v,hv,rfl⟩:=List.mem_map.1 hw
  exact (hL v hv).short⟩
 rw [List.nil_append] at h
 have hfc:FC (L.map short) (bqL (L.map short) 1 []).2:=by
  refine ⟨⟨fun t ht=>(h.lt t ht).2.2.1,h.cl,fun X step x0 hi hc=>?_⟩,fun t ht=>(h.lt t ht).2.2.2,fun t ht=>h.con _ (h.lt t ht).1⟩
  obtain ⟨κ,k1,k2,_⟩:=h.uni X step x0 hi hc
  exact ⟨κ,k1,k2⟩
 have:=foldF_spec (N:=(bqL (L.map short) 1 []).1) (bqL (L.map short) 1 []).1 (onceS (bqL (L.map short) 1 []).2 0 0) (hfc.congr fun t=>once_zero) (fun t ht=>by
  have:=h.lt t (once_zero.1 ht)
  exact ⟨this.1,this.2.1⟩) (occ_le _ _)
 have h2:=once_len (bqL (L.map short) 1 []).2 0 0
 have h3:=(bqL_len (L.map short) 1 []).1
 have h4:=this.2.2.2
 simp only [List.length_nil,Nat.zero_add] at h3
 unfold folded
 omega
end Go.Proofs.Ytneglephfhiamaa

set_option linter.all false
namespace Go.Pv
open Go.RowKit
section
variable {P:Program} {T:TypeId→Option TI} {s:St}
end
end Go.Pv

set_option linter.all false
namespace Go.Pv
open Go.RowKit
section
variable {P:Program} {C:Ctx} {m:Map} {s:St} {tmps:Array Value} {w:World}
end
end Go.Pv

set_option linter.all false
namespace Go.Proofs.Ytneglephfhiamaa
open Go.Pv
end Go.Proofs.Ytneglephfhiamaa

set_option linter.all false
namespace Go.Proofs.Ytneglephfhiamaa
open Go.Pv
end Go.Proofs.Ytneglephfhiamaa

set_option linter.all false
namespace Go.Proofs.Ytneglephfhiamaa
open Go.Pv
end Go.Proofs.Ytneglephfhiamaa

set_option linter.all false
namespace Go.Proofs.Ytneglephfhiamaa
open Go.Pv
theorem tot_cons (w:List Int) (L:List (List Int)):tot (w :: L)=w.length + tot L:=by simp [tot]
end Go.Proofs.Ytneglephfhiamaa

set_option linter.all false
namespace Go.Proofs.Ytneglephfhiamaa
open Go.Pv
def ckG:List (List Int)→Nat→Nat→Int × Int
 | [],_,_=>(0,0)
 | w :: r,i,n=>if (check w).1 ≠ 0 then ((check w).1,(i:Int)) else if 2000 < n + w.length then (2,(i:Int)) else ckG r (i + 1) (n + w.length)
def ckL (L:List (List Int)):Int × Int:=if 20 < L.length then (2,0) else ckG L 0 0
theorem ffault_c (c at_:Int):FnC Try.prog 53 [.int .i64 c,.int .i64 at_] (fl (c,at_)):=by
 refine fnc_of tab_ok Try.func53 rfl (by kernel_rfl) (by rw [Try.ntmps53]; exact Nat.le_add_left 2 _) ?_; rw [Try.ntmps53]
 refine qm ?_
 refine hk_region fun K hK=>runs_eval tab_ok ?_
 simp only [ev0,evA,evB,evP,fl,gp,tab,simprocAttr]
 refine fin_run ?_ (hK _ ?_)<;>clear hK<;>clear K
 ·(first|exact trivial|omega|(simp only [In64] at *; omega)|(simp [In64] at *; omega)|(simp_all; done)|skip)
 refine qa (qm ?_)
 refine hk_region fun K hK=>runs_eval tab_ok ?_
 simp only [ev0,evA,evB,evP,fl,gp,tab,simprocAttr]
 refine fin_run ?_ (hK _ ?_)<;>clear hK<;>clear K
 ·(first|exact trivial|omega|(simp only [In64] at *; omega)|(simp [In64] at *; omega)|(simp_all; done)|skip)
 refine qa (qk ?_)
 simp only [Try.results53,enA,ev0,evA,evB,evP,fl,gp,tab,simprocAttr]
 all_goals ((first|exact rfl|exact ⟨rfl,rfl⟩|exact ⟨rfl,rfl,rfl⟩|exact ⟨trivial,rfl⟩|exact ⟨Nat.le_refl _,rfl⟩|trivial|(simp; done)))
set_option maxHeartbeats 4000000 in
theorem checkL_c (L:List (List Int)) (hl:L.length≤1000000000) (hw:∀ w∈L,w.length≤1000000000):FnC Try.prog 34 [.list (ll L)] (fl (ckL L)):=by
 refine fnc_of tab_ok Try.func34 rfl (by kernel_rfl) (by rw [Try.ntmps34]; exact Nat.le_add_left 1 _) ?_; rw [Try.ntmps34]
 refine qm ?_
 refine hk_region fun K hK=>runs_eval tab_ok ?_
 simp only [ev0,evA,evB,evP,fl,gp,tab,simprocAttr]
 refine fin_run ?_ (hK _ ?_)<;>clear hK<;>clear K
 ·(first|exact trivial|omega|(simp only [In64] at *; omega)|(simp [In64] at *; omega)|(simp_all; done)|skip)
 refine qa (qm (qm ?_))
 refine hk_region fun K hK=>runs_eval tab_ok ?_
 simp only [ev0,evA,evB,evP,fl,gp,tab,simprocAttr,ll_length]
 refine fin_run trivial (hK _ ?_)<;>clear hK<;>clear K
 refine qa ?_
 refine hk_cond rfl (fun hC1=>?_) (fun hC1=>?_)
 ·(try simp only [nhs] at hC1)
  have h20:20 < L.length:=by omega
  refine qm ?_
  refine hk_region fun K hK=>runs_eval tab_ok ?_
  simp only [ev0,evA,evB,evP,fl,gp,tab,simprocAttr]
  refine fin_stop trivial (runs_call (ffault_c 2 0) rfl rfl rfl (by simp only [dstOk,Nat.reduceLT]) (by repeat (first|exact trivial|constructor)) (runs_eval tab_ok ?_))
  simp only [ev0,evA,evB,evP,fl,gp,tab,simprocAttr]
  refine fin_run ?_ (hK _ ?_)<;>clear hK<;>clear K
  ·(first|exact trivial|omega|(simp only [In64] at *; omega)|(simp [In64] at *; omega)|(simp_all; done)|skip)
  refine qa (qk (qb ?_))
  simp only [Try.results34,enA,ev0,evA,evB,evP,fl,gp,tab,simprocAttr]
  have e:ckL L=(2,0):=by unfold ckL; rw [if_pos (by omega)]
  rw [e]
  exact ⟨rfl,rfl⟩
 ·(try simp only [nhs] at hC1)
  have h20:¬ 20 < L.length:=by omega
  refine qh (qa (qm ?_))
  refine hk_region fun K hK=>runs_eval tab_ok ?_
  simp only [ev0,evA,evB,evP,fl,gp,tab,simprocAttr]
  refine fin_run trivial (hK _ ?_)<;>clear hK<;>clear K
  refine qa (qm (qm ?_))
  refine hk_region fun K hK=>runs_eval tab_ok ?_
  simp only [ev0,evA,evB,evP,fl,gp,tab,simprocAttr,ll_length]
  refine fin_run trivial (hK _ ?_)<;>clear hK<;>clear K
  refine qa (ql ?_)
  refine hk_loop (ι:=Nat × Nat) (fun q=>⟨37,[(2,.ptr 0 0),(3,.p (.int .i64 (q.2:Nat))),(11,.p (.list (ll L))),(12,.p (.int .i64 L.length)),(13,.p (.int .i64 (q.1:Nat)))],[.own [.p (.int .i64 0),.p (.int .i64 0)]]⟩) (fun q=>q.1≤L.length∧q.2≤2000∧ckL L=ckG (L.drop q.1) q.1 q.2) (fun q=>L.length - q.1) (0,0) ⟨Nat.zero_le _,Nat.zero_le _,by unfold ckL; rw [if_neg h20]; rfl⟩ [0] (by simp only [leq,leA,ev0,evA,evB,evP,fl,gp,tab,simprocAttr]<;>trivial) fun q hq=>?_
  obtain ⟨i,n⟩:=q
  obtain ⟨q1,q2,q3⟩:=hq
  simp only at q1 q2 q3 ⊢
  refine qm ?_
  refine hk_region fun K hK=>runs_eval tab_ok ?_
  simp only [ev0,evA,evB,evP,fl,gp,tab,simprocAttr]
  refine fin_run trivial (hK _ ?_)<;>clear hK<;>clear K
  refine qa (qm ?_)
  refine hk_cond rfl (fun hC2=>?_) (fun hC2=>?_)
  ·(try simp only [nhs] at hC2)
   have hi:i < L.length:=by omega
   have hdr:L.drop i=L.getD i [] :: L.drop (i + 1):=by
    rw [List.drop_eq_getElem_cons hi,List.getD_eq_getElem?_getD,List.getElem?_eq_getElem hi]; rfl
   obtain ⟨w,hwd⟩:∃ w,L.getD i []=w:=⟨_,rfl⟩
   have hwl:w.length≤1000000000:=hw w (by rw [← hwd,List.getD_eq_getElem?_getD,List.getElem?_eq_getElem hi]; exact List.getElem_mem hi)
   rw [hdr,hwd,ckG] at q3
   refine qh (qa (qm (ql (qm ?_))))
   refine hk_region fun K hK=>runs_eval tab_ok ?_
   simp only [ev0,evA,evB,evP,fl,gp,tab,simprocAttr,ll_length,ll_get hi,hwd]
   refine fin_run ?_ (hK _ ?_)<;>clear hK<;>clear K
   ·omega
   refine qa (qm (qm ?_))
   refine hk_region fun K hK=>runs_eval tab_ok ?_
   simp only [ev0,evA,evB,evP,fl,gp,tab,simprocAttr]
   refine fin_stop trivial (runs_call (check_c w) rfl rfl rfl (by simp only [dstOk,Nat.reduceLT]) (by repeat (first|exact trivial|constructor)) (runs_eval tab_ok ?_))
   simp only [ev0,evA,evB,evP,fl,gp,tab,simprocAttr]
   refine fin_run ?_ (hK _ ?_)<;>clear hK<;>clear K
   ·(first|exact trivial|omega|(simp only [In64] at *; omega)|(simp [In64] at *; omega)|(simp_all; done)|skip)
   refine qa (qm ?_)
   refine hk_region fun K hK=>runs_eval tab_ok ?_
   simp only [ev0,evA,evB,evP,fl,gp,tab,simprocAttr]
   refine fin_run ?_ (hK _ ?_)<;>clear hK<;>clear K
   ·(first|exact trivial|omega|(simp only [In64] at *; omega)|(simp [In64] at *; omega)|(simp_all; done)|skip)
   refine qa ?_
   refine hk_cond rfl (fun hC3=>?_) (fun hC3=>?_)
   ·(try simp only [nhs] at hC3)
    have h0:(check w).1 ≠ 0:=hC3
    rw [if_pos h0] at q3
    refine qm ?_
    refine hk_region fun K hK=>runs_eval tab_ok ?_
    simp only [ev0,evA,evB,evP,fl,gp,tab,simprocAttr]
    refine fin_stop trivial (runs_call (ffault_c (check w).1 i) rfl rfl rfl (by simp only [dstOk,Nat.reduceLT]) (by repeat (first|exact trivial|constructor)) (runs_eval tab_ok ?_))
    simp only [ev0,evA,evB,evP,fl,gp,tab,simprocAttr]
    refine fin_run ?_ (hK _ ?_)<;>clear hK<;>clear K
    ·(first|exact trivial|omega|(simp only [In64] at *; omega)|(simp [In64] at *; omega)|(simp_all; done)|skip)
    refine qa (qk (qb (qe (qb (qb (qe (qb ?_)))))))
    simp only [Try.results34,enA,ev0,evA,evB,evP,fl,gp,tab,simprocAttr]
    all_goals (rw [q3]; exact ⟨rfl,rfl⟩)
   ·(try simp only [nhs] at hC3)
    have h0:¬ (check w).1 ≠ 0:=fun h=>h hC3
    rw [if_neg h0] at q3
    refine qh (qa (qm ?_))
    refine hk_region fun K hK=>runs_eval tab_ok ?_
    simp only [ev0,evA,evB,evP,fl,gp,tab,simprocAttr,il_length]
    refine fin_run ?_ (hK _ ?_)<;>clear hK<;>clear K
    ·(first|exact trivial|omega|(simp only [In64] at *; omega)|(simp [In64] at *; omega)|(simp_all; done)|skip)
    refine qa (qm ?_)
    refine hk_region fun K hK=>runs_eval tab_ok ?_
    simp only [ev0,evA,evB,evP,fl,gp,tab,simprocAttr]
    refine fin_run trivial (hK _ ?_)<;>clear hK<;>clear K
    refine qa ?_
    refine hk_cond rfl (fun hC4=>?_) (fun hC4=>?_)
    ·(try simp only [nhs] at hC4)
     have h1:2000 < n + w.length:=by omega
     rw [if_pos h1] at q3
     refine qm ?_
     refine hk_region fun K hK=>runs_eval tab_ok ?_
     simp only [ev0,evA,evB,evP,fl,gp,tab,simprocAttr]
     refine fin_stop trivial (runs_call (ffault_c 2 i) rfl rfl rfl (by simp only [dstOk,Nat.reduceLT]) (by repeat (first|exact trivial|constructor)) (runs_eval tab_ok ?_))
     simp only [ev0,evA,evB,evP,fl,gp,tab,simprocAttr]
     refine fin_run ?_ (hK _ ?_)<;>clear hK<;>clear K
     ·(first|exact trivial|omega|(simp only [In64] at *; omega)|(simp [In64] at *; omega)|(simp_all; done)|skip)
     refine qa (qk (qe (qb (qb (qe (qb ?_))))))
     simp only [Try.results34,enA,ev0,evA,evB,evP,fl,gp,tab,simprocAttr]
     all_goals (rw [q3]; exact ⟨rfl,rfl⟩)
    ·(try simp only [nhs] at hC4)
     have h1:¬ 2000 < n + w.length:=by omega
     rw [if_neg h1] at q3
     refine qh (qd (qa ?_))
     refine hk_region fun K hK=>runs_eval tab_ok ?_
     simp only [ev0,evA,evB,evP,fl,gp,tab,simprocAttr]
     refine fin_run ?_ (hK _ ?_)<;>clear hK<;>clear K
     ·(first|exact trivial|omega|(simp only [In64] at *; omega)|(simp [In64] at *; omega)|(simp_all; done)|skip)
     refine qa ?_
     refine ⟨(i + 1,n + w.length),[0],⟨by simp only; omega,by simp only; omega,q3⟩,by simp only; omega,?_⟩
     simp only [leq,leA,ev0,evA,evB,evP,fl,gp,tab,simprocAttr]<;>first|trivial|trace_state
  ·(try simp only [nhs] at hC2)
   refine qj (qc (qc (qf (qa (qm ?_)))))
   refine hk_region fun K hK=>runs_eval tab_ok ?_
   simp only [ev0,evA,evB,evP,fl,gp,tab,simprocAttr]
   refine fin_run ?_ (hK _ ?_)<;>clear hK<;>clear K
   ·(first|exact trivial|omega|(simp only [In64] at *; omega)|(simp [In64] at *; omega)|(simp_all; done)|skip)
   refine qa (qk ?_)
   simp only [Try.results34,enA,ev0,evA,evB,evP,fl,gp,tab,simprocAttr]
   have hie:i=L.length:=by omega
   rw [hie,List.drop_length,ckG] at q3
   rw [q3]
   exact ⟨rfl,rfl⟩
end Go.Proofs.Ytneglephfhiamaa

set_option linter.all false
namespace Go.Pv
open Go.RowKit Go.Proofs.Ytneglephfhiamaa
theorem ren1_agree {π σ:List Nat} {L:Nat} (h:∀ i,i < L→π.getD i 0=σ.getD i 0) {x:AV} (hx:sc1 L x=true):ren1 π x=ren1 σ x:=by
 cases x<;>simp only [ren1,sc1,decide_eq_true_eq] at hx ⊢
 all_goals rw [h _ hx]
theorem ren_agree {π σ:List Nat} {L:Nat} (h:∀ i,i < L→π.getD i 0=σ.getD i 0) {x:AV} (hx:scA L x=true):Go.Pv.ren π x=Go.Pv.ren σ x:=by
 have hm:∀ l:List AV,l.all (sc1 L)=true→l.map (ren1 π)=l.map (ren1 σ):=fun l hl=>List.map_congr_left fun x hx=>ren1_agree h ((List.all_eq_true.1 hl) x hx)
 cases x with
 | agg l=>simp only [Go.Pv.ren]; rw [hm l hx]
 | tup l=>simp only [Go.Pv.ren]; rw [hm l hx]
 | cl f l=>simp only [Go.Pv.ren]; rw [hm l hx]
 | yv k l vs =>
  simp only [scA,Bool.and_eq_true,decide_eq_true_eq] at hx
  simp only [Go.Pv.ren]; rw [hm l hx.2,h _ hx.1]
 | _=>simp only [Go.Pv.ren]; exact ren1_agree h (by simpa only [scA] using hx)
theorem le_swap1 {S s:St} {P H1:Heap} {c:List PV} (hn:S.n=s.n) (hs:s.H=P++H1.map (Blk.ren (List.range' P.length H1.length))) (h1:∀ b∈H1,hsc H1.length b=true) (h2:H1.all notAnc=true) (h0:hget P 0 = .own (opl c)) (hS:S.H=H1++[.own (opl c)])
  (hsl:LeS (List.range' P.length H1.length++[0]) S.sl s):Le (List.range' P.length H1.length++[0]) S s:=by
 obtain ⟨π,hπ⟩:∃ π,List.range' P.length H1.length++[0]=π:=⟨_,rfl⟩
 have hpl:π.length=H1.length + 1:=by rw [← hπ]; simp
 have hag:∀ i,i < H1.length→π.getD i 0=(List.range' P.length H1.length).getD i 0:=fun i hi=>by
  rw [← hπ,List.getD_eq_getElem?_getD,List.getElem?_append_left (by simpa using hi),← List.getD_eq_getElem?_getD]
 have hp0:0 < P.length:=by
  cases P with
  | nil=>cases h0
  | cons _ _=>exact Nat.succ_pos _
 rw [hπ] at hsl ⊢
 refine ⟨hn,?_,?_,hsl⟩
 ·rw [← hπ,List.nodup_append]
  refine ⟨List.nodup_range' ..,by simp,fun x hx y hy=>?_⟩
  rw [List.mem_range'_1] at hx
  rw [List.mem_singleton] at hy
  omega
 ·rw [hS]
  conv=>arg 3; rw [← hπ]
  refine leH_app ?_ ⟨?_,trivial⟩
  ·refine leH_at (by simp) fun i hi=>?_
   have e:(List.range' P.length H1.length).getD i 0=P.length + i:=by simp [List.getD,List.getElem?_range' hi]
   have eb:hget s.H (P.length + i)=Blk.ren (List.range' P.length H1.length) (hget H1 i):=by
    rw [hs,hget_app2 (by omega),Nat.add_sub_cancel_left,hget_eq,List.getD_eq_getElem?_getD,List.getElem?_map,hget_eq,List.getD_eq_getElem?_getD,List.getElem?_eq_getElem hi]; rfl
   have hm:hget H1 i∈H1:=by rw [hget_eq,List.getD_eq_getElem?_getD,List.getElem?_eq_getElem hi]; exact List.getElem_mem hi
   have hb:=h1 _ hm
   have hna:=(List.all_eq_true.1 h2) _ hm
   rw [e]
   revert eb hb hna
   generalize hget H1 i=b
   intro eb hb hna
   cases b with
   | own d =>
    simp only [Blk.ren] at eb
    simp only [LeB,eb]
    refine ⟨?_,List.all_eq_true.2 fun x hx=>scA_mn (by omega) ((List.all_eq_true.1 hb) x hx)⟩
    rw [List.take_of_length_le (by simp)]
    exact List.map_congr_left fun x hx=>ren_agree hag ((List.all_eq_true.1 hb) x hx)
   | anc i j=>cases hna
   | dead=>trivial
   | _=>simp only [Blk.ren] at eb; simp only [LeB,eb]
  ·have e:hget s.H 0 = .own (opl c):=by rw [hs,hget_app1 hp0]; exact h0
   simp only [LeB,e]
   exact ⟨by rw [opl_ren,List.take_of_length_le (Nat.le_refl _)],opl_sc _ _⟩
end Go.Pv
namespace Go.Proofs.Ytneglephfhiamaa
open Go.Pv
section
variable {G:List Mp} {U:List Int}
theorem fold_E {s:St} {o:Oper} {fo:Operand} {args:Array Operand} {ts:Array TypeId} (ho:o.op = .call { callee:=.value fo,args:=args,argTypes:=ts }) (hfo:s.ev fo = .p (.fn 48 []))
  (L:List (List Int)) (hL:∀ w∈L,w.length≤1000000000∧Lt26 w) (hn:L.length≤1000000) (hb:tot (L.map short)≤10000000) (hargs:args.toList.map s.ev++([]:List PV).map .p=[.p (.list (ll L))]) :
  DoesE Try.prog o s (fun av H'=>∃ G U,av = .ptr s.H.length 0∧H' = s.H++(GB G U).map (Blk.ren (List.range' s.H.length (GB G U).length))∧G.length≤10000001∧FI (L.map short) G U (L.map short) 0 []):=by
 have:=call_doesE (ks:=[]) ho hfo (fold_c L hL hn hb) (by rw [hargs]; exact ⟨⟨trivial,rfl⟩,trivial⟩) trivial List.nodup_nil (fun k hk=>by cases hk) rfl (by
  rintro r H1 ⟨rfl,G,U,rfl,h2,h3⟩
  unfold scM
  simp only [Bool.and_eq_true,decide_eq_true_eq]
  refine ⟨⟨⟨⟨?_,?_⟩,Nat.zero_le _⟩,rfl⟩,rfl⟩
  ·rw [GB_len]; simp [scA,sc1]
  ·rw [List.all_eq_true]
   intro b hb
   have h1:=(List.all_eq_true.1 GB_all) b hb
   have h2:=(List.all_eq_true.1 GB_na) b hb
   cases b with
   | own c=>exact h1
   | anc i j=>cases h2
   | _=>rfl)
 intro C m a w K Q R hK
 refine this C m a w K Q R fun v m' w' av H' ⟨r,H1,⟨e0,G,U,e1,e2,e3⟩,e4,e5⟩ R2 hv=>hK v m' w' av H' ⟨G,U,?_,?_,e2,e3⟩ R2 hv
 ·rw [e4,e0,e1]
  simp only [Go.Pv.ren,ren1,List.nil_append,List.length_nil,Nat.sub_zero]
  rw [List.getD_eq_getElem?_getD,List.getElem?_range' (by rw [GB_len]; omega)]; simp
 ·rw [e5,e1]
  simp only [putM,List.nil_append,List.length_nil,Nat.sub_zero]
end
end Go.Proofs.Ytneglephfhiamaa

set_option linter.all false
namespace Go.Proofs.Ytneglephfhiamaa
open Go.Pv
open Classical in
noncomputable def memB (L:List (List Int)) (w:List Int):Bool:=decide (Mem (L.map short) (short w))
end Go.Proofs.Ytneglephfhiamaa

set_option linter.all false
namespace Go.Proofs.Ytneglephfhiamaa
open Go.Pv
theorem Re.cons {e:List E3} {t:E3} {u v:Nat} {x:Int} : Re (t :: e) u x v↔Re [t] u x v∨Re e u x v:=by
 unfold Re
 simp only [List.mem_cons,List.not_mem_nil,or_false]
 constructor
 ·rintro (⟨h,h1 | h1⟩ | ⟨h,h1 | h1⟩)
  ·exact .inl (.inl ⟨h,h1⟩)
  ·exact .inr (.inl ⟨h,h1⟩)
  ·exact .inl (.inr ⟨h,h1⟩)
  ·exact .inr (.inr ⟨h,h1⟩)
 ·rintro ((⟨h,h1⟩ | ⟨h,h1⟩) | (⟨h,h1⟩ | ⟨h,h1⟩))
  ·exact .inl ⟨h,.inl h1⟩
  ·exact .inr ⟨h,.inl h1⟩
  ·exact .inl ⟨h,.inr h1⟩
  ·exact .inr ⟨h,.inr h1⟩
def plA (out:List Nat) (v:Nat):List Nat:=if v∈out then out else out++[v]
def plS (e:List E3):List Nat:=e.foldl (fun out t=>plA (plA out t.1) t.2.2) [0]
theorem mem_plA {out:List Nat} {u v:Nat} : u∈plA out v↔u∈out∨u=v:=by
 unfold plA
 split
 ·rename_i h
  exact ⟨.inl,fun h2=>h2.elim id fun h3=>h3 ▸ h⟩
 ·simp
theorem plA_nd {out:List Nat} {v:Nat} (h:out.Nodup):(plA out v).Nodup:=by
 unfold plA
 split
 ·exact h
 ·rename_i hv
  rw [List.nodup_append]
  exact ⟨h,by simp,fun a ha b hb=>by rw [List.mem_singleton] at hb; subst hb; exact fun e=>hv (e ▸ ha)⟩
theorem plA_len (out:List Nat) (v:Nat):(plA out v).length≤out.length + 1:=by
 unfold plA
 split
 ·omega
 ·simp
theorem plF_spec:∀ (e:List E3) (out:List Nat),out.Nodup→(e.foldl (fun out t=>plA (plA out t.1) t.2.2) out).Nodup∧(∀ u,u∈e.foldl (fun out t=>plA (plA out t.1) t.2.2) out↔u∈out∨∃ t∈e,t.1=u∨t.2.2=u)
 | [],out,h=>⟨h,fun u=>by simp⟩
 | t :: e,out,h=>by
  obtain ⟨h1,h2⟩:=plF_spec e _ (plA_nd (plA_nd h):(plA (plA out t.1) t.2.2).Nodup)
  refine ⟨h1,fun u=>?_⟩
  rw [List.foldl_cons,h2 u,mem_plA,mem_plA]
  constructor
  ·rintro (((h3 | h3) | h3) | ⟨s,hs,h3⟩)
   ·exact .inl h3
   ·exact .inr ⟨t,by simp,.inl h3.symm⟩
   ·exact .inr ⟨t,by simp,.inr h3.symm⟩
   ·exact .inr ⟨s,by simp [hs],h3⟩
  ·rintro (h3 | ⟨s,hs,h3⟩)
   ·exact .inl (.inl (.inl h3))
   ·rcases List.mem_cons.1 hs with rfl | hs
    ·rcases h3 with h3 | h3
     ·exact .inl (.inl (.inr h3.symm))
     ·exact .inl (.inr h3.symm)
    ·exact .inr ⟨s,hs,h3⟩
theorem plS_nd (e:List E3):(plS e).Nodup:=(plF_spec e [0] (by simp)).1
theorem mem_plS {e:List E3} {u:Nat} : u∈plS e↔u=0∨∃ t∈e,t.1=u∨t.2.2=u:=by
 have:=(plF_spec e [0] (by simp)).2 u
 simpa [plS] using this
theorem fc_cg {S:List (List Int)} {e:List E3} (h:FC S e) (hd:Det e) (hn:e.Nodup):CG (stE e) (plS e)∧UniG (stE e) (plS e) S∧(∀ s∈S,runW (stE e) 0 s=some 0)∧(PE (stE e) (plS e)).length=e.length:=by
 have hre:∀ {u v:Nat} {x:Int},Re e u x v→u∈plS e∧v∈plS e∧x ≠ 0∧-26≤x∧x≤26:=fun {u v x} hr=>by
  rcases hr with ⟨p,q⟩ | ⟨p,q⟩
  ·have:=h.let26 _ q
   simp only at this
   exact ⟨mem_plS.2 (.inr ⟨_,q,.inl rfl⟩),mem_plS.2 (.inr ⟨_,q,.inr rfl⟩),by omega,by omega,this⟩
  ·have:=h.let26 _ q
   simp only at this
   exact ⟨mem_plS.2 (.inr ⟨_,q,.inr rfl⟩),mem_plS.2 (.inr ⟨_,q,.inl rfl⟩),by omega,by omega,by omega⟩
 have c:CG (stE e) (plS e):=by
  refine ⟨stE_inv hd,plS_nd e,mem_plS.2 (.inl rfl),fun u hu x v hs=>(hre ((stE_iff hd).1 hs)).2.1,fun u hu x v hs=>(hre ((stE_iff hd).1 hs)).2.2,fun u hu=>?_⟩
  rcases mem_plS.1 hu with rfl | ⟨t,ht,rfl | rfl⟩
  ·exact ⟨[],rfl⟩
  ·obtain ⟨w,hw⟩:=h.con t ht
   exact ⟨w,(runE hd w 0 _).2 hw⟩
  ·obtain ⟨w,hw⟩:=h.con t ht
   exact ⟨w++[t.2.1],(runE hd _ 0 _).2 (hw.app ⟨t.2.2,.inl ⟨h.fe.pos t ht,ht⟩,rfl⟩)⟩
 refine ⟨c,fun X st x0 hi hc=>?_,fun s hs=>(runE hd s 0 0).2 (h.fe.cl s hs),?_⟩
 ·obtain ⟨κ,k1,k2⟩:=h.fe.uni X st x0 hi hc
  refine ⟨κ,k1,fun u hu x v hs=>?_⟩
  rcases (stE_iff hd).1 hs with ⟨p,q⟩ | ⟨p,q⟩
  ·exact k2 _ q
  ·have:=hi _ _ _ (by simp only; omega) (k2 _ q)
   simpa using this
 ·have e1:(e.map fun t=>(t.1,t.2.1)).length=e.length:=List.length_map ..
  rw [← e1]
  refine nd_eq (PE_nd c.nd) (nodup_mapF hn fun a ha b hb e0=>?_) fun p=>?_
  ·injection e0 with e2 e3
   obtain ⟨a1,a2,a3⟩:=a
   obtain ⟨b1,b2,b3⟩:=b
   simp only at e2 e3
   subst e2; subst e3
   have:=hd a1 a2 a3 b3 (.inl ⟨h.fe.pos _ ha,ha⟩) (.inl ⟨h.fe.pos _ ha,hb⟩)
   rw [this]
  ·obtain ⟨u,x⟩:=p
   rw [mem_PE0 c.lt,List.mem_map]
   constructor
   ·rintro ⟨h1,h2,h3⟩
    obtain ⟨v,hv⟩:=Option.isSome_iff_exists.1 h3
    rcases (stE_iff hd).1 hv with ⟨p,q⟩ | ⟨p,q⟩
    ·exact ⟨_,q,rfl⟩
    ·omega
   ·rintro ⟨t,ht,e0⟩
    injection e0 with e2 e3
    subst e2; subst e3
    have hr:Re e t.1 t.2.1 t.2.2:=.inl ⟨h.fe.pos t ht,ht⟩
    exact ⟨(hre hr).1,h.fe.pos t ht,by rw [(stE_iff hd).2 hr]; rfl⟩
theorem fc_cnt {S:List (List Int)} {e:List E3} (h:FC S e) (hd:Det e) (hn:e.Nodup):(plS e).length=vS S∧e.length=eS S:=by
 obtain ⟨c,u,cl,hl⟩:=fc_cg h hd hn
 have:=(IsC.mk c u cl).cnt
 exact ⟨this.1,hl ▸ this.2⟩
theorem plF_len:∀ (e:List E3) (out:List Nat),(e.foldl (fun out t=>plA (plA out t.1) t.2.2) out).length≤out.length + 2 * e.length
 | [],out=>Nat.le_refl _
 | t :: e,out=>by
  rw [List.foldl_cons]
  have h1:=plF_len e (plA (plA out t.1) t.2.2)
  have h2:=plA_len (plA out t.1) t.2.2
  have h3:=plA_len out t.1
  simp only [List.length_cons]; omega
theorem plS_len (e:List E3):(plS e).length≤1 + 2 * e.length:=plF_len e [0]
end Go.Proofs.Ytneglephfhiamaa

set_option linter.all false
namespace Go.Pv
open Go.RowKit
def isF:Cls→Bool
 | .f=>true
 | _=>false
def isLd:Cls→Bool
 | .ld _=>true
 | _=>false
theorem confl_f1 {c d:Cls} (h:isF c=true):confl c d=false:=by cases c<;>simp_all [isF,confl]
theorem confl_f2 {c d:Cls} (h:isF d=true):confl c d=false:=by
 cases d<;>simp [isF] at h
 cases c<;>simp [confl,Cls.tch]
theorem confl_ld {c d:Cls} (h:isLd c=true) (h2:isLd d=true):confl c d=false:=by
 cases c<;>simp [isLd] at h
 cases d<;>simp [isLd] at h2
 rfl
end Go.Pv
namespace Go.Proofs.Ytneglephfhiamaa
open Go.Pv
section
variable {G:List Mp} {U U' : List Int}
theorem Pth.rv (w:WG G U) (hr:∀ u,u < G.length→rV U' u=rV U u):∀ {l:List Int} {u v:Nat},u < G.length→v < G.length→Pth G U u l v→Pth G U' u l v
 | [],u,v,hu,hv,h=>by rw [Pth] at h ⊢; rw [hr u hu,hr v hv]; exact h
 | x :: l,u,v,hu,hv,⟨m,a,b,c⟩=>⟨m,a,(Ed.rv w hr hu a).2 b,Pth.rv w hr a hv c⟩
theorem FI.up {L done:List (List Int)} {v:Nat} {p:List Int} (h:FI L G U done v p) (w' : WG G U') (hr:∀ u,u < G.length→rV U' u=rV U u):FI L G U' done v p:=by
 have hw:=h.wg
 refine ⟨w',h.pos,h.lt,fun u x v hu hv e=>?_,fun w hw'=>Pth.rv hw hr h.pos h.pos (h.cl w hw'),Pth.rv hw hr h.pos h.lt h.pth,fun u hu=>(h.con u hu).imp fun q hq=>Pth.rv hw hr h.pos hu hq,fun X step x0 hi hc=>?_⟩
 ·rw [pe_nil,Ed.rv hw hr hu hv] at e
  rw [pe_nil,Ed.rv hw hr hv hu]
  exact pe_nil.1 (h.sym u x v hu hv (pe_nil.2 e))
 ·obtain ⟨κ,k1,k2,k3⟩:=h.uni X step x0 hi hc
  refine ⟨κ,k1,⟨fun u hu=>by rw [hr u hu]; exact k2.1 u hu,fun u x v hu hv e=>?_⟩,k3⟩
  rw [pe_nil,Ed.rv hw hr hu hv] at e
  exact k2.2 u x v hu hv (pe_nil.2 e)
end
section
variable {G:List Mp} {U:List Int}
end
end Go.Proofs.Ytneglephfhiamaa

set_option linter.all false
namespace Go.Proofs.Ytneglephfhiamaa
open Go.Pv
section
variable {G:List Mp} {U:List Int}
end
end Go.Proofs.Ytneglephfhiamaa

set_option linter.all false
namespace Go.Pv
open Go.RowKit
end Go.Pv
namespace Go.Proofs.Ytneglephfhiamaa
open Go.Pv
section
variable {G:List Mp} {U:List Int}
end
end Go.Proofs.Ytneglephfhiamaa

set_option linter.all false
namespace Go.Pv
open Go.RowKit
end Go.Pv
namespace Go.Proofs.Ytneglephfhiamaa
open Go.Pv
section
variable {G:List Mp} {U:List Int}
end
end Go.Proofs.Ytneglephfhiamaa

set_option linter.all false
namespace Go.Proofs.Ytneglephfhiamaa
open Go.Pv
def Good (L:List (List Int)):Prop:=(∀ w∈L,w.length≤1000000000∧Lt26 w)∧L.length≤1000000∧tot (L.map short)≤10000000
end Go.Proofs.Ytneglephfhiamaa

set_option linter.all false
namespace Go.Proofs.Ytneglephfhiamaa
open Go.Pv
end Go.Proofs.Ytneglephfhiamaa

set_option linter.all false
namespace Go.Pv
open Go.RowKit
section
variable {P:Program} {T:TypeId→Option TI} {s:St}
end
end Go.Pv

set_option linter.all false
namespace Go.Proofs.Ytneglephfhiamaa
open Go.Pv
end Go.Proofs.Ytneglephfhiamaa

set_option linter.all false
namespace Go.Pv
open Go.RowKit
def nl:List Int→PV
 | []=>.nn []
 | x :: r=>.list (il (x :: r))
theorem nl_cons (l:List Int) (x:Int):nl (l++[x]) = .list (il (l++[x])):=by
 cases l<;>rfl
theorem nl_list {ok:Nat→Prop} {w:World} {l:List Int} {x:Value} (h:Reads ok w (nl l) x):Reads ok w (.list (il l)) x:=by
 cases l with
 | nil=>exact Reads.nn_list h
 | cons=>exact h
section
variable {P:Program} {T:TypeId→Option TI} {s:St}
theorem clipN_does (hT:∀ t ti,T t=some ti→tiOf P t=some ti) {o:Oper} {t:TypeId} {x y z:Operand} (ho:o.op = .slice t x none (some y) (some z)) {ti te:TI} (ht:T t=some ti) {e:TypeId} (hk:ti.kind = .slice e) (hte:T e=some te)
  {l:List Int} (hx:s.ev x = .p (nl l)) {k1 k2:IntKind} (hy:s.ev y = .p (.int k1 l.length)) (hz:s.ev z = .p (.int k2 l.length)):DoesW P o s (.p (.nn (il l))) s.H:=by
 intro C m a w K Q R hK
 have hu:=ti_slice (hT _ _ ht) hk
 have hss:=ti_size (hT _ _ hte) w
 have ey:a.eval y = .int k1 l.length:=eval_int R hy
 have ez:a.eval z = .int k2 l.length:=eval_int R hz
 have hv:=R.ev x
 rw [hx] at hv
 have hv:=hv.p_inv
 obtain ⟨ad,cap,hev,hcap⟩:∃ ad cap,a.eval x = .slice ad l.length cap∧l.length≤cap:=by
  generalize a.eval x=v at hv
  cases l with
  | nil =>
   rcases hv.nn_inv with ⟨_,ad,rfl⟩ | ⟨b,off,sz,vs,rfl,_⟩
   ·exact ⟨_,_,rfl,Nat.le_refl _⟩
   ·exact ⟨_,_,rfl,Nat.le_refl _⟩
  | cons c r =>
   have hil:(il (c :: r)).length=(c :: r).length:=il_length _
   have hv:Reads _ w (.list (il (c :: r))) v:=hv
   generalize hL:il (c :: r)=L at hv hil
   cases hv with
   | list0 a cap h=>cases hil
   | list l b off cap sz vs hb hsz hcap hc hr=>rw [hil] at hcap ⊢; exact ⟨_,_,rfl,hcap⟩
 have hbd:(Instr.sliceBounds true l.length cap none (some (a.eval y)) (some (a.eval z))).run P w = .ok (0,l.length,l.length) w:=by
  simp [Instr.sliceBounds,ey,ez,run_sliceBound _ k2 (l.length:Int) cap _ (Int.natCast_nonneg _) (by omega),run_sliceBound _ k1 (l.length:Int) l.length _ (Int.natCast_nonneg _) (Int.le_refl _)]
 have hrun:(execOp a.eval o).run P w = .ok (.value (.slice (if l.length=0 then ad else ad.map (·.add (0 * te.size))) (l.length - 0) (l.length - 0))) w:=by
  simp [execOp,ho,hev,Instr.sliceAt,Instr.slice,run_underlying hu,hbd,hss]
 refine opR_of_wp (by first|rfl|(rw [ho]; rfl)) ?_
 unfold Oper.wp
 rw [hrun]
 refine hK _ _ _ R (.p _ _ ?_)
 rw [hev] at hv
 cases l with
 | nil =>
  rcases hv.nn_inv with ⟨_,ad2,h⟩ | ⟨b,off,sz,vs,h,_⟩
  ·injection h with h
   subst h
   exact .nn0 _
  ·injection h with h
   subst h
   exact .nn0 _
 | cons c r =>
  have hil:(il (c :: r)).length=(c :: r).length:=il_length _
  have hv:Reads _ w (.list (il (c :: r))) (.slice ad (c :: r).length cap):=hv
  rw [← hil] at hv ⊢
  generalize hL:il (c :: r)=L at hv hil
  have hne:¬ L.length=0:=by rw [hil]; simp
  cases hv with
  | list0 _ _ h=>exact absurd rfl hne
  | list _ b off _ sz vs hb hsz hcap hc hr =>
   rw [if_neg hne,Nat.sub_zero]
   have e:(some (⟨b,off,none⟩:Addr)).map (·.add (0 * te.size))=some ⟨b,off,none⟩:=by simp [Addr.add]
   rw [e]
   exact .nn L b off sz vs hb hsz hc hr
theorem appendNn00_does (hT:∀ t ti,T t=some ti→tiOf P t=some ti) {o:Oper} {t:TypeId} {x y:Operand} (ho:o.op = .call { callee:=.builtin .append,args:=#[x,y],argTypes:=#[t,t] }) {ti te:TI} (ht:T t=some ti) {e:TypeId} (hk:ti.kind = .slice e) (hte:T e=some te) (hsz:te.size=1)
  {l:List PV} (hx:s.ev x = .p (.nn l)) (hy:s.ev y = .p (.nn [])):DoesW P o s (.p (.nn l)) s.H:=by
 intro C m a w K Q R hK
 obtain ⟨dst,op,type,pos,after,guard⟩:=o
 simp only at ho
 subst ho
 have hu:=ti_slice (hT _ _ ht) hk
 obtain ⟨i,d,z,h1,h2,h3,h4,h5,h6,h7,h8⟩:=tiOf_parts (hT _ _ hte)
 have h:=R.ev x
 rw [hx] at h
 have hl:=h.p_inv
 obtain ⟨ad,hv⟩:∃ ad,a.eval x = .slice (some ad) l.length l.length:=by
  generalize a.eval x=v at hl
  rcases hl.nn_inv with ⟨rfl,ad,rfl⟩ | ⟨b,off,sz,vs,rfl,_⟩
  ·exact ⟨ad,rfl⟩
  ·exact ⟨_,rfl⟩
 have hy':=R.ev y
 rw [hy] at hy'
 have hy':=hy'.p_inv
 obtain ⟨ad2,cap2,hv2⟩:∃ ad2 cap2,a.eval y = .slice ad2 0 cap2:=by
  generalize a.eval y=v at hy'
  rcases hy'.nn_inv with ⟨_,ad,rfl⟩ | ⟨b,off,sz,vs,rfl,_⟩
  ·exact ⟨_,_,rfl⟩
  ·exact ⟨_,_,rfl⟩
 have hr:=append_nothing (P:=P) (w:=w) type hu h1 (by rw [h4,hsz]) (ad:=some ad) (n:=l.length) (cap:=l.length) (x:=.slice ad2 0 cap2) src_nil (Nat.le_refl _)
 have hrun:(execOp a.eval { dst:=dst,op:=.call { callee:=.builtin .append,args:=#[x,y],argTypes:=#[t,t] },type:=type,pos:=pos,after:=after,guard:=guard }).run P w = .ok (.value (.slice (some ad) l.length l.length)) w:=by
  simp only [BigFrame.execOp_builtin,BigFrame.builtin_append,List.map_toArray,List.map_cons,List.map_nil,hv,hv2,Sem.run_bind,hr,Result.andThen_ok,Sem.run_pure]
 refine opR_of_wp (by first|rfl|(rw [ho]; rfl)) ?_
 unfold Oper.wp
 rw [hrun]
 rw [hv] at hl
 exact hK _ m w R (.p _ _ hl)
end
end Go.Pv

set_option linter.all false
namespace Go.Proofs.Ytneglephfhiamaa
open Go.Pv
theorem FnG_pure {P:Program} {f:FuncId} {args:List PV} {r:PV} (h:FnG P f args (.p r) []):FnC P f args r:=
 ⟨h.1,fun okA w vals h1 h2 h3=>(h.2 okA w vals h1 h2 h3).mono fun e w' ⟨v,m',he,hbl,ho⟩=>⟨v,he,hbl,ho.val.p_inv.mono fun b hb=>⟨hb.1,hb.2.1⟩⟩⟩
theorem clip_nil:FnG Try.prog 80 [.nn []] (.p (.nn [])) []:=by
 refine fng_of tab_ok Try.func80 rfl (by kernel_rfl) (by rw [Try.ntmps80]; exact Nat.le_add_left 1 _) ?_; rw [Try.ntmps80]
 refine qm ?_
 refine hk_region fun K hK=>runs_eval tab_ok ?_
 simp only [ev0,evA,evB,evP,fl,gp,tab,simprocAttr]
 refine fin_run trivial (hK _ ?_)<;>clear hK<;>clear K
 refine qa (qm ?_)
 refine hk_region fun K hK=>runs_eval tab_ok ?_
 simp only [ev0,evA,evB,evP,fl,gp,tab,simprocAttr]
 refine fin_stop ?_ (runs_op (clipN_does (l:=[]) (k1:=.i64) (k2:=.i64) tab_ok rfl rfl rfl rfl rfl rfl rfl) rfl (by simp only [dstOk,Nat.reduceLT]) (runs_eval tab_ok ?_))
 ·(first|exact trivial|omega|(simp only [In64] at *; omega)|(simp [In64] at *; omega)|(simp_all; done)|skip)
 simp only [ev0,evA,evB,evP,fl,gp,tab,simprocAttr]
 refine fin_run ?_ (hK _ ?_)<;>clear hK<;>clear K
 ·(first|exact trivial|omega|(simp only [In64] at *; omega)|(simp [In64] at *; omega)|(simp_all; done)|skip)
 refine qa (qk ?_)
 simp only [Try.results80,PostG,endG,rvsA,rvA,mkTup,ev0,evA,evB,evP,fl,gp,tab,simprocAttr]
 all_goals (exact ⟨[],rfl,rfl,by simp only [leq,leA,ev0,evA,evB,evP,fl,gp,tab,simprocAttr]<;>trivial⟩)
theorem clip_cons (w:List Int) (hw:nl w = .list (il w)):FnG Try.prog 80 [.list (il w)] (.p (.nn (il w))) []:=by
 refine fng_of tab_ok Try.func80 rfl (by kernel_rfl) (by rw [Try.ntmps80]; exact Nat.le_add_left 1 _) ?_; rw [Try.ntmps80]
 refine qm ?_
 refine hk_region fun K hK=>runs_eval tab_ok ?_
 simp only [ev0,evA,evB,evP,fl,gp,tab,simprocAttr]
 refine fin_run trivial (hK _ ?_)<;>clear hK<;>clear K
 refine qa (qm ?_)
 refine hk_region fun K hK=>runs_eval tab_ok ?_
 simp only [ev0,evA,evB,evP,fl,gp,tab,simprocAttr]
 refine fin_stop ?_ (runs_op (clipN_does (l:=w) (k1:=.i64) (k2:=.i64) tab_ok rfl rfl rfl rfl (by rw [hw]; rfl) rfl rfl) rfl (by simp only [dstOk,Nat.reduceLT]) (runs_eval tab_ok ?_))
 ·(first|exact trivial|omega|(simp only [In64] at *; omega)|(simp [In64] at *; omega)|(simp_all; done)|skip)
 simp only [ev0,evA,evB,evP,fl,gp,tab,simprocAttr]
 refine fin_run ?_ (hK _ ?_)<;>clear hK<;>clear K
 ·(first|exact trivial|omega|(simp only [In64] at *; omega)|(simp [In64] at *; omega)|(simp_all; done)|skip)
 refine qa (qk ?_)
 simp only [Try.results80,PostG,endG,rvsA,rvA,mkTup,ev0,evA,evB,evP,fl,gp,tab,simprocAttr]
 all_goals (exact ⟨[],rfl,rfl,by simp only [leq,leA,ev0,evA,evB,evP,fl,gp,tab,simprocAttr]<;>trivial⟩)
theorem clip_n (w:List Int):FnC Try.prog 80 [nl w] (.nn (il w)):=by
 cases w with
 | nil=>exact FnG_pure clip_nil
 | cons c r=>exact FnG_pure (clip_cons (c :: r) rfl)
theorem clone_nil:FnG Try.prog 77 [.nn []] (.p (.nn [])) []:=by
 refine fng_of tab_ok Try.func77 rfl (by kernel_rfl) (by rw [Try.ntmps77]; exact Nat.le_add_left 1 _) ?_; rw [Try.ntmps77]
 refine qm ?_
 refine hk_region fun K hK=>runs_eval tab_ok ?_
 simp only [ev0,evA,evB,evP,fl,gp,tab,simprocAttr]
 refine fin_run trivial (hK _ ?_)<;>clear hK<;>clear K
 refine qa (qm (qm ?_))
 refine hk_region fun K hK=>runs_eval tab_ok ?_
 simp only [ev0,evA,evB,evP,fl,gp,tab,simprocAttr]
 refine fin_run trivial (hK _ ?_)<;>clear hK<;>clear K
 refine qa ?_
 refine hk_cond rfl (fun hC1=>?_) (fun hC1=>?_)
 ·(try simp only [nhs] at hC1)
  cases hC1
 ·(try simp only [nhs] at hC1)
  refine qh (qa (qm ?_))
  refine hk_region fun K hK=>runs_at 2 (runs_eval tab_ok ?_)
  simp only [List.take_succ_cons,List.take_zero]
  simp only [ev0,evA,evB,evP,fl,gp,tab,simprocAttr]
  refine fin_run trivial ?_
  refine runs_op (appendNn00_does tab_ok rfl rfl rfl rfl rfl rfl rfl) rfl (by simp only [dstOk]; decide) (runs_eval tab_ok ?_)
  simp only [ev0,evA,evB,evP,fl,gp,tab,simprocAttr]
  refine fin_run trivial (hK _ ?_)<;>clear hK<;>clear K
  refine qa (qk ?_)
  simp only [Try.results77,PostG,endG,rvsA,rvA,mkTup,ev0,evA,evB,evP,fl,gp,tab,simprocAttr]
  all_goals (exact ⟨[],rfl,rfl,by simp only [leq,leA,ev0,evA,evB,evP,fl,gp,tab,simprocAttr]<;>trivial⟩)
theorem clone_n (w:List Int) (hl:w.length≤1000000000):FnC Try.prog 77 [nl w] (nl w):=by
 cases w with
 | nil=>exact FnG_pure clone_nil
 | cons c r=>exact clone_c (c :: r) hl
end Go.Proofs.Ytneglephfhiamaa

set_option linter.all false
namespace Go.Proofs
open Go.Shelf
def Try.sortI_ren:Go.Shelf.Ren:=⟨fun | 189=>81 | 125=>90 | 257=>89 | 128=>100 | 129=>101 | 294=>91 | 295=>92 | 296=>93 | 297=>94 | 298=>95 | 299=>96 | 216=>97 | 300=>98 | 301=>99 | 328=>102 | 329=>103 | 330=>104 | 331=>105 | 332=>106 | 215=>107 | 343=>108 | n=>n,fun | 28=>35 | 3=>3 | 46=>117 | 0=>0 | 51=>127 | 53=>129 | 4=>4 | 183=>120 | 182=>119 | 131=>91 | 5=>5 | 9=>9 | 218=>130 | 222=>134 | 228=>137 | 229=>75 | n=>n,fun | n=>n⟩
theorem Try.sortI : Go.Proofs.Lays.n189 Try.prog Try.sortI_ren := {
  mixed := by kernel_rfl
  f125 := Try.func90.trans (congrArg some (by kernel_rfl))
  f128 := Try.func100.trans (congrArg some (by kernel_rfl))
  f129 := Try.func101.trans (congrArg some (by kernel_rfl))
  f189 := Try.func81.trans (congrArg some (by kernel_rfl))
  f215 := Try.func107.trans (congrArg some (by kernel_rfl))
  f216 := Try.func97.trans (congrArg some (by kernel_rfl))
  f257 := Try.func89.trans (congrArg some (by kernel_rfl))
  f294 := Try.func91.trans (congrArg some (by kernel_rfl))
  f295 := Try.func92.trans (congrArg some (by kernel_rfl))
  f296 := Try.func93.trans (congrArg some (by kernel_rfl))
  f297 := Try.func94.trans (congrArg some (by kernel_rfl))
  f298 := Try.func95.trans (congrArg some (by kernel_rfl))
  f299 := Try.func96.trans (congrArg some (by kernel_rfl))
  f300 := Try.func98.trans (congrArg some (by kernel_rfl))
  f301 := Try.func99.trans (congrArg some (by kernel_rfl))
  f328 := Try.func102.trans (congrArg some (by kernel_rfl))
  f329 := Try.func103.trans (congrArg some (by kernel_rfl))
  f330 := Try.func104.trans (congrArg some (by kernel_rfl))
  f331 := Try.func105.trans (congrArg some (by kernel_rfl))
  f332 := Try.func106.trans (congrArg some (by kernel_rfl))
  f343 := Try.func108.trans (congrArg some (by kernel_rfl))
  t0 := Try.underlying0
  a0 := Try.isAgg0
  z0 := Try.sizeOf0
  v0 := Try.zeroValue0
  t3 := Try.underlying3
  a3 := Try.isAgg3
  z3 := Try.sizeOf3
  v3 := Try.zeroValue3
  t4 := Try.underlying4
  a4 := Try.isAgg4
  z4 := Try.sizeOf4
  v4 := Try.zeroValue4
  t5 := Try.underlying5
  a5 := Try.isAgg5
  z5 := Try.sizeOf5
  v5 := Try.zeroValue5
  t9 := Try.underlying9
  a9 := Try.isAgg9
  z9 := Try.sizeOf9
  v9 := Try.zeroValue9
  t28 := Try.underlying35
  a28 := Try.isAgg35
  z28 := Try.sizeOf35
  v28 := Try.zeroValue35
  t46 := Try.underlying117
  a46 := Try.isAgg117
  z46 := Try.sizeOf117
  v46 := Try.zeroValue117
  t51 := Try.underlying127
  a51 := Try.isAgg127
  z51 := Try.sizeOf127
  v51 := Try.zeroValue127
  t53 := Try.underlying129
  a53 := Try.isAgg129
  z53 := Try.sizeOf129
  v53 := Try.zeroValue129
  t131 := Try.underlying91
  a131 := Try.isAgg91
  z131 := Try.sizeOf91
  v131 := Try.zeroValue91
  t182 := Try.underlying119
  a182 := Try.isAgg119
  z182 := Try.sizeOf119
  v182 := Try.zeroValue119
  t183 := Try.underlying120
  a183 := Try.isAgg120
  z183 := Try.sizeOf120
  v183 := Try.zeroValue120
  t218 := Try.underlying130
  a218 := Try.isAgg130
  z218 := Try.sizeOf130
  v218 := Try.zeroValue130
  t222 := Try.underlying134
  a222 := Try.isAgg134
  z222 := Try.sizeOf134
  v222 := Try.zeroValue134
  t228 := Try.underlying137
  a228 := Try.isAgg137
  z228 := Try.sizeOf137
  v228 := Try.zeroValue137
  t229 := Try.underlying75
  a229 := Try.isAgg75
  z229 := Try.sizeOf75
  v229 := Try.zeroValue75 }
end Go.Proofs

set_option linter.all false
namespace Go.Proofs.Ytneglephfhiamaa
open Go.Pv
def Sl (N A κ:Nat) (Bd:Heap) (r:Nat) (L:List Int):St:=
 ⟨26,[(5,.sl N 0 L.length),(14,.itv r)],Bd++[.own (ol L),.anc A κ]⟩
theorem le_Sl {N A κ r q q2:Nat} {Bd:Heap} {L:List Int} {s:St} {d:List AV} (hN:Bd.length=N) (hκ:κ < N) (hBs:∀ b∈Bd,hsc N b=true) (hn:s.n=26) (hq:N≤q) (hq2:N≤q2) (hne:q ≠ q2)
  (h0:∀ i,i < N→hget s.H i=hget Bd i) (hd:hget s.H q = .own d) (hd2:hget s.H q2 = .anc A κ) (hW:ol L=d.take L.length) (g5:s.get 5 = .sl q 0 L.length) (g14:s.get 14 = .itv r):Le (List.range N++[q,q2]) (Sl N A κ Bd r L) s:=by
 have hπq:(List.range N++[q,q2]).getD N 0=q:=by
  rw [List.getD_eq_getElem?_getD,List.getElem?_append_right (by simp)]
  simp
 have hol:(ol L).length=L.length:=by simp [ol,il_length]
 refine le_behind2 (B:=Bd) (c:=ol L) (by rw [hn]; rfl) hN rfl hq hq2 hne hκ hBs h0 hd hd2 ?_ (ol_sc _ _) ?_
 ·rw [hol,← hW]; simp [ol,Go.Pv.ren,ren1]
 ·unfold Sl
  refine ⟨?_,?_,?_,?_,trivial⟩
  ·rw [g5]; simp only [Go.Pv.ren,ren1,hπq]
  ·simp [scA,sc1]
  ·rw [g14]; rfl
  ·rfl
section
variable {G:List Mp} {U:List Int}
set_option maxHeartbeats 4000000 in
set_option maxRecDepth 20000 in
theorem letters_e (w:WG G U) (hk:G.length≤100000000) {v:Nat} (hv:v < G.length):FnE Try.prog 58 [.ptr 0 0,.p (.int .i64 v)] (GB G U) (fun r H'=>r = .p (.list (il (lts (gm G v))))∧H' = GB G U):=by
 obtain ⟨Post,hP⟩:∃ Post:AV→Heap→Prop,Post=(fun r H'=>r = .p (.list (il (lts (gm G v))))∧H' = GB G U):=⟨_,rfl⟩
 rw [← hP]
 unfold GB
 refine fne_of tab_ok Try.func58 rfl (by kernel_rfl) (by rw [Try.ntmps58]; exact Nat.le_add_left 2 _) ?_; rw [Try.ntmps58]; simp only [ancs,entA,List.length_cons,List.length_nil,List.cons_append,List.nil_append,Nat.reduceAdd,Nat.zero_add]
 have hXl:(.anc 0 0 :: .anc 1 1 :: .anc 2 2 :: ancs 3 (G.map mpB).length:Heap).length=G.length + 3:=by simp [ancs_length]
 have hXs:∀ L,G.length + 3≤L→∀ b∈(.anc 0 0 :: .anc 1 1 :: .anc 2 2 :: ancs 3 (G.map mpB).length:Heap),hsc L b=true:=fun L hL b hb=>by
  have:(.anc 0 0 :: .anc 1 1 :: .anc 2 2 :: ancs 3 (G.map mpB).length:Heap)=ancs 0 (G.length + 3):=by rw [G_len]; rfl
  rw [this] at hb
  exact ancs_hsc (by omega) b hb
 have hXa:∀ j i:Nat,(.anc 0 0 :: .anc 1 1 :: .anc 2 2 :: ancs 3 (G.map mpB).length:Heap)[j]? ≠ some (.anc (G.length + 3) i):=fun j i hj=>by
  have:(.anc 0 0 :: .anc 1 1 :: .anc 2 2 :: ancs 3 (G.map mpB).length:Heap)=ancs 0 (G.length + 3):=by rw [G_len]; rfl
  rw [this] at hj
  have hjl:=(List.getElem?_eq_some_iff.1 hj).1
  rw [ancs_length] at hjl
  rw [ancs_at _ _ _ hjl] at hj
  simp at hj
  omega
 generalize (.anc 0 0 :: .anc 1 1 :: .anc 2 2 :: ancs 3 (G.map mpB).length:Heap)=X at hXl hXs hXa ⊢
 obtain ⟨n0,hn0⟩:∃ n0,G.length + (G.length + 3)=n0:=⟨_,rfl⟩
 have hXs3:=hXs (n0 + 3) (by omega)
 obtain ⟨B,hB⟩:∃ B,GB G U++X=B:=⟨_,rfl⟩
 have hBl:B.length=n0 + 3:=by rw [← hB,List.length_append,GB_len,hXl]; omega
 have hBs:∀ b∈B,hsc (n0 + 3) b=true:=hB ▸ GB_hscX (by omega) hXs3
 have hBa:∀ b∈B,∀ j,b ≠ .anc (G.length + 3) j:=fun b hb j e=>by
  rw [← hB] at hb
  subst e
  rcases List.mem_append.1 hb with hb | hb
  ·have:=(List.all_eq_true.1 (GB_na (G:=G) (U:=U))) _ hb
   cases this
  ·obtain ⟨i,hi⟩:=List.getElem?_of_mem hb
   exact hXa i j hi
 have hBg:hget B (v + 3)=mpB (gm G v):=by
  rw [← hB]
  show hget (G.map mpB++X) v=_
  exact hget_G hv
 obtain ⟨Bd,hBd⟩:∃ Bd,hset B (v + 3) .dead=Bd:=⟨_,rfl⟩
 have hDl:Bd.length=n0 + 3:=by rw [← hBd,hset_length]; exact hBl
 have hDm:∀ b∈Bd,b = .dead∨b∈B:=fun b hb=>by
  rw [← hBd,hset_eq] at hb
  rcases List.mem_or_eq_of_mem_set hb with h | h
  ·exact .inr h
  ·exact .inl h
 have hDs:∀ b∈Bd,hsc (n0 + 3) b=true:=fun b hb=>by
  rcases hDm b hb with rfl | h
  ·rfl
  ·exact hBs b h
 have hDg:∀ i,hget Bd i=if i=v + 3∧v + 3 < B.length then .dead else hget B i:=fun i=>by rw [← hBd,hset_hget]
 have hH:∀ R:Heap,Blk.own [.sl 1 0 G.length,.sl 2 0 U.length] :: .own (mps G.length) :: .own (ol U) :: (G.map mpB++X++R)=B++R:=fun R=>by
  rw [← hB]; unfold GB; simp
 have happ1:∀ (R:Heap) (i:Nat),i < n0 + 3→hget (B++R) i=hget B i:=fun R i hi=>hget_app1 (by rw [hBl]; exact hi)
 have happ2:∀ (R:Heap) (j:Nat),hget (B++R) (n0 + 3 + j)=hget R j:=fun R j=>by
  rw [hget_app2 (by rw [hBl]; omega),hBl,Nat.add_sub_cancel_left]
 have hdp1:∀ (R:Heap) (i:Nat),i < n0 + 3→hget (Bd++R) i=hget Bd i:=fun R i hi=>hget_app1 (by rw [hDl]; exact hi)
 have hdp2:∀ (R:Heap) (j:Nat),hget (Bd++R) (n0 + 3 + j)=hget R j:=fun R j=>by
  rw [hget_app2 (by rw [hDl]; omega),hDl,Nat.add_sub_cancel_left]
 have hGX:(G.map mpB++X).length=n0:=by rw [List.length_append,G_len,hXl]; exact hn0
 refine qm ?_
 refine hk_region fun K hK=>runs_eval tab_ok ?_
 simp only [ev0,evA,evB,evP,fl,gp,tab,simprocAttr]
 refine fin_run trivial (hK _ ?_)<;>clear hK<;>clear K
 refine qa (qm ?_)
 refine hk_region fun K hK=>runs_eval tab_ok ?_
 simp only [ev0,evA,evB,evP,fl,gp,tab,simprocAttr]
 refine fin_run trivial (hK _ ?_)<;>clear hK<;>clear K
 refine qa (qm ?_)
 refine hk_own0 5 rfl ?_
 refine hk_rangeF tab_ok 7 rfl rfl rfl rfl (G.length + 3) ?_
 simp only [List.length_cons,hGX,List.cons_append]
 refine runs_cut fun K hK=>?_
 simp only [List.take_succ_cons,List.take_zero]
 refine runs_eval tab_ok ?_
 simp only [ev0,evA,evB,evP,fl,gp,tab,simprocAttr,mps_get hv,Int.toNat_natCast,Int.ofNat_eq_natCast,mps_len]
 refine fin_run ?_ (hK _ ?_)<;>clear hK<;>clear K
 ·exact ⟨⟨by omega,by omega⟩,hv⟩
 refine ⟨v + 3,.i64,fun z=>(gm G v z).isSome,fun z=>.int .i64 ((gm G v z).getD 0),rfl,by
  simp only [hH]
  exact (happ1 _ _ (by omega)).trans hBg,fun _ _=>rfl,?_,rfl,
  fun r' L=>Sl (n0 + 3) (G.length + 3) (v + 3) Bd r' L,List.range (n0 + 3)++[n0 + 3,n0 + 3 + 1],v + 3,n0 + 3 + 1,?_,?_,?_,?_⟩
 ·intro k' j hj
  simp only [hH] at hj
  rcases List.mem_append.1 (List.mem_of_getElem? hj) with h | h
  ·exact hBa _ h j rfl
  ·simp at h
 ·intro r' L
  refine ⟨rfl,rfl,?_,?_,fun k' j hj=>?_⟩
  ·show (Bd++_)[v + 3]? = _
   rw [List.getElem?_append_left (by omega),← hBd,hset_get,if_pos ⟨rfl,by omega⟩]
  ·show (Bd++[_,_])[n0 + 3 + 1]? = _
   rw [List.getElem?_append_right (by omega),hDl,Nat.add_sub_cancel_left]; rfl
  ·have hj:(Bd++[Blk.own (ol L),Blk.anc (G.length + 3) (v + 3)])[k']? = some (.anc (G.length + 3) j):=hj
   by_cases h:k' < n0 + 3
   ·rw [List.getElem?_append_left (by omega)] at hj
    rcases hDm _ (List.mem_of_getElem? hj) with h2 | h2
    ·cases h2
    ·exact absurd rfl (hBa _ h2 j)
   ·rw [List.getElem?_append_right (by omega),hDl] at hj
    have h3:=(List.getElem?_eq_some_iff.1 hj).1
    simp only [List.length_cons,List.length_nil] at h3
    by_cases h4:k' = n0 + 3
    ·rw [h4,Nat.sub_self] at hj; simp at hj
    ·omega
 ·intro r'
  simp only [hH]
  have hs1:∀ (R:Heap) (x:Blk) (i:Nat),i < n0 + 3→hget (hset (B++R) (v + 3) .dead++[x]) i=hget Bd i:=fun R x i hi=>by
   rw [hget_app1 (by rw [hset_length,List.length_append]; omega),hset_hget,happ1 R i hi,hDg]
   simp only [List.length_append]
   by_cases h:i=v + 3
   ·rw [if_pos ⟨h,by omega⟩,if_pos ⟨h,by omega⟩]
   ·rw [if_neg (fun e=>h e.1),if_neg (fun e=>h e.1)]
  refine le_Sl (d:=[]) hDl (by omega) hDs rfl (Nat.le_refl _) (by omega) (by omega) (hs1 _ _) ?_ ?_ rfl rfl rfl
  ·show hget (hset (B++[_]) (v + 3) .dead++[_]) (n0 + 3)=_
   rw [hget_app1 (by rw [hset_length,List.length_append]; simp; omega),hset_hget,if_neg (by omega)]
   exact happ2 _ 0
  ·show hget (hset (B++[_]) (v + 3) .dead++[_]) (n0 + 3 + 1)=_
   rw [hget_app2 (by rw [hset_length,List.length_append]; simp; omega),hset_length,List.length_append]
   simp [hBl,hget]
 ·intro r' L z hLn hLd hz hzn
  have hLl:L.length≤53:=keys_len hLn fun y hy=>by
   obtain ⟨u,hu⟩:=Option.isSome_iff_exists.1 (show (gm G v y).isSome=true from hLd y hy)
   exact (w.ent v y u (by omega) hu).2.2.2
  refine runs_cut fun K hK=>?_
  simp only [List.drop_succ_cons,List.drop_zero]
  refine runs_eval tab_ok ?_
  simp only [ev0,evA,evB,evP,fl,gp,tab,simprocAttr,Sl]
  refine fin_run trivial (hK _ ?_)<;>clear hK<;>clear K
  refine hk_region fun K hK=>runs_eval tab_ok ?_
  simp only [ev0,evA,evB,evP,fl,gp,tab,simprocAttr,hdp2 [_,_] 0]
  refine fin_run ?_ (hK _ ?_)<;>clear hK<;>clear K
  ·exact ⟨Nat.le_refl _,by omega,by omega⟩
  refine qd (qa ?_)
  refine ⟨List.range (n0 + 3)++[n0 + 3 + 2,n0 + 3 + 1],le_Sl (d:=ol (L++[z])) hDl (by omega) hDs rfl (by omega) (by omega) (by omega) (fun i hi=>?_) ?_ ?_ ?_ ?_ rfl⟩
  ·show hget (hset (Bd++[_,_]) (n0 + 3) .dead++[_]) i=_
   rw [hget_app1 (by rw [hset_length,List.length_append]; omega),hset_hget,if_neg (by omega),hdp1 _ _ hi]
  ·show hget (hset (Bd++[_,_]) (n0 + 3) .dead++[_]) (n0 + 3 + 2)=_
   rw [hget_app2 (by rw [hset_length,List.length_append]; simp; omega),hset_length,List.length_append]
   simp [hDl,hget]
  ·show hget (hset (Bd++[_,_]) (n0 + 3) .dead++[_]) (n0 + 3 + 1)=_
   rw [hget_app1 (by rw [hset_length,List.length_append]; simp; omega),hset_hget,if_neg (by omega)]
   exact hdp2 _ 1
  ·exact (List.take_of_length_le (by simp [ol,il_length])).symm
  ·show AV.sl (Bd++[_,_]).length 0 (L.length + 1)=_
   simp [hDl]
 ·intro r' L hLn hLd
  have hLb:∀ z∈L,-26≤z∧z≤26:=fun y hy=>by
   obtain ⟨u,hu⟩:=Option.isSome_iff_exists.1 ((hLd y).2 hy)
   exact (w.ent v y u (by omega) hu).2.2.2
  have hsl:srt L=lts (gm G v):=srt_lts hLn hLd hLb
  have hLl:L.length≤53:=keys_len hLn hLb
  have hll:(lts (gm G v)).length=L.length:=by rw [← hsl]; exact (List.mergeSort_perm L _).length_eq
  have hmn:∀ b∈B,hsc (n0 + 3 + 1) b=true:=fun b hb=>by
   have h:=hBs b hb
   cases b with
   | own c=>exact List.all_eq_true.2 fun x hx=>scA_mn (Nat.le_succ _) ((List.all_eq_true.1 h) x hx)
   | anc i j=>simp only [hsc,decide_eq_true_eq] at h ⊢; omega
   | _=>rfl
  refine qa (qm ?_)
  refine hk_le (s1:=⟨26,[(5,.sl (n0 + 3) 0 L.length)],B++[.own (ol L)]⟩) (List.range (n0 + 3)++[n0 + 3]) (le_behind (B:=B) (c:=ol L) (d:=ol L) rfl hBl rfl hmn (Nat.le_refl _) hBs (fun i hi=>?_) ?_ ?_ (ol_sc _ _) ?_) ?_
  ·show hget (hset (hset (Bd++[_,_]) (v + 3) _) (n0 + 3 + 1) .dead) i=_
   rw [hset_hget,if_neg (by omega),hset_hget,List.length_append,hdp1 _ _ hi,hDg]
   by_cases h:i=v + 3
   ·rw [if_pos ⟨h,by simp; omega⟩,h,hBg]; rfl
   ·rw [if_neg (fun e=>h e.1),if_neg (fun e=>h e.1)]
  ·show hget (hset (hset (Bd++[_,_]) (v + 3) _) (n0 + 3 + 1) .dead) (n0 + 3)=_
   rw [hset_hget,if_neg (by omega),hset_hget,if_neg (by omega)]
   exact hdp2 _ 0
  ·rw [List.take_of_length_le (Nat.le_refl _)]; simp [ol,Go.Pv.ren,ren1]
  ·refine ⟨?_,?_,trivial⟩
   ·show AV.sl (n0 + 3) 0 L.length=_
    have:(List.range (n0 + 3)++[n0 + 3]).getD (n0 + 3) 0=n0 + 3:=by
     rw [List.getD_eq_getElem?_getD,List.getElem?_append_right (by simp)]
     simp
    simp only [Go.Pv.ren,ren1,this]
   ·simp [scA,sc1]
  have hput:∀ σ,putM (B++[.own (ol L)]) [n0 + 3] [Blk.ren σ (.own (opl (il (lts (gm G v)))))]=B++[.own (ol (lts (gm G v)))]:=fun σ=>by
   simp only [Blk.ren,opl_ren,putM,List.append_nil]
   rw [hset_eq,List.set_append_right _ _ (by omega),hBl,Nat.sub_self]; rfl
  refine hk_region fun K hK=>runs_eval tab_ok ?_
  simp only [ev0,evA,evB,evP,fl,gp,tab,simprocAttr]
  refine fin_stop ?_ (runs_callM [n0 + 3] (sortI_m Go.Proofs.Try.sortI L (by omega)) rfl rfl ⟨⟨rfl,rfl⟩,trivial⟩ ⟨show LeB [n0 + 3] (B++[.own (ol L)]) (n0 + 3) (.own (ol L)) from leB_ol (happ2 _ 0),trivial⟩ (by simp) (by simp [hBl]) (by simp [scM,scA,sc1,opl_sc,mpKeep,notAnc]) (by simp only [dstOk,Nat.reduceLT]) (runs_eval tab_ok ?_))
  ·exact trivial
  simp only [hsl,List.map_cons,List.map_nil,hput]
  simp only [ev0,evA,evB,evP,fl,gp,tab,simprocAttr,ren,ren1]
  refine fin_run trivial (hK _ ?_)<;>clear hK<;>clear K
  refine qa (qm ?_)
  refine hk_seal 5 (n0 + 3) (w:=lts (gm G v)) ?_ ?_ ?_
  ·show AV.sl (n0 + 3) 0 L.length=_
   rw [hll]
  ·exact happ2 _ 0
  refine hk_region fun K hK=>runs_eval tab_ok ?_
  simp only [ev0,evA,evB,evP,fl,gp,tab,simprocAttr]
  refine fin_run trivial (hK _ ?_)<;>clear hK<;>clear K
  refine qa (qk ?_)
  simp only [Try.results58,PostG,endG,rvsA,rvA,mkTup,ev0,evA,evB,evP,fl,gp,tab,simprocAttr]
  refine ⟨.p (.list (il (lts (gm G v)))),GB G U,by rw [hP]; exact ⟨rfl,rfl⟩,List.range (n0 + 3),rfl,rfl,?_⟩
  refine le_stay (B:=GB G U++X) rfl (by rw [hB]; exact hBl) rfl (by rw [hB]; exact hBs) (fun i hi=>?_) trivial
  show hget (hset (B++[_]) (n0 + 3) _) i=_
  rw [hset_hget,if_neg (by omega),happ1 _ _ hi,hB]
theorem letters_c (w:WG G U) (hk:G.length≤100000000) {v:Nat} (hv:v < G.length):FnM Try.prog 58 [.ptr 0 0,.p (.int .i64 v)] (GB G U) (.p (.list (il (lts (gm G v))))) (GB G U):=
 (letters_e w hk hv).one fun _ _ h=>h
end
end Go.Proofs.Ytneglephfhiamaa

set_option linter.all false
namespace Go.Pv
open Go.RowKit
section
variable {P:Program} {T:TypeId→Option TI}
def RunsE (P:Program) (all:Array Oper):Nat→List Oper→(St→Prop)→St→Prop
 | 0,l,K,s=>Runs P false all l K s
 | j + 1,l,K,s=>∃ n,Runs P false all (l.take n) (fun s1=>∃ o O,l[n]? = some o∧guardA all s1 o=some true∧dstOk s1 o.dst∧DoesE P o s1 O∧∀ av H',O av H'→RunsE P all j (l.drop (n + 1)) K (({ s1 with H:=H' } : St).put o.dst av)) s
theorem runsE_sound {all:Array Oper} {Q:Exit→Act→World→Prop} {C:Ctx} {ds:List Deferred} {K:St→Prop} : ∀ (j:Nat) (l:List Oper) (s:St),RunsE P all j l K s→∀ {m:Map} {a:Act} {w:World},Rel C m s a.tmps w→a.defers=ds →
  (∀ s' m' (a' : Act) w',K s'→Rel C m' s' a'.tmps w'→a'.defers=ds→Q .normal a' w')→lstR P all Q l a w
 | 0,l,s,⟨s',hr,hK⟩,m,a,w,R,hd,hQ=>hr.sound R hd fun m' a' w' R' hd'=>hQ s' m' a' w' hK R' hd'
 | j + 1,l,s,⟨n,s1,hr,o,O,ho,hg,hdst,hdo,hrest⟩,m,a,w,R,hd,hQ=>by
  have hL:l=l.take n++(o :: l.drop (n + 1)):=by
   have hn:=(List.getElem?_eq_some_iff.1 ho).1
   have h1:=List.drop_eq_getElem_cons (l:=l) (i:=n) hn
   rw [List.getElem?_eq_getElem hn,Option.some.injEq] at ho
   rw [ho] at h1
   rw [← h1,List.take_append_drop]
  rw [hL]
  refine hr.soundK R hd fun m' a' w' R' hd'=>?_
  have hw:=guardA_wanted (P:=P) R' hg
  refine lstR_step fun K2 hK2=>?_
  rw [if_pos hw]
  refine hdo C m' a' w' K2 _ R' fun v m2 w2 av H' hO R2 hv=>hK2 _ _ ?_
  exact runsE_sound j _ _ (hrest av H' hO) (R2.put (dstOk_spec hdst) hv) (by rw [put_defers]; exact hd') hQ
theorem hk_regEn {s:St} {id:Nat} {L:List Oper} {Q:Exit→St→Prop} (j:Nat) (h:RunsE P L.toArray j L (Q .normal) s):Holds P (.region id L.toArray false) Q s:=by
 intro r ds C m a w R hd
 refine wpR_region_lit ?_
 exact runsE_sound j L s h R hd fun s' m' a' w' hK R' hd'=>⟨s',m',hK,R',hd'⟩
end
end Go.Pv

set_option linter.all false
namespace Go.Pv
open Go.RowKit
section
variable {P:Program}
theorem runsMid_sound {all:Array Oper} {Q:Exit→Act→World→Prop} {C:Ctx} {ds:List Deferred} {K:St→Prop} {l:List Oper} {s:St} (n:Nat)
  (h:Runs P false all (l.take n) (fun s1=>∃ s2,(∀ (C:Ctx) (m:Map) (tmps:Array Value) (w:World),Rel C m s1 tmps w→Rel C m s2 tmps w)∧Runs P false all (l.drop n) K s2) s) {m:Map} {a:Act} {w:World} (R:Rel C m s a.tmps w) (hd:a.defers=ds)
  (hQ:∀ s' m' (a' : Act) w',K s'→Rel C m' s' a'.tmps w'→a'.defers=ds→Q .normal a' w'):lstR P all Q l a w:=by
 obtain ⟨s1,hr,s2,hm,s',hr2,hK⟩:=h
 rw [show l=l.take n++l.drop n from (List.take_append_drop n l).symm]
 refine hr.soundK R hd fun m' a' w' R' hd'=>?_
 exact hr2.sound (hm C m' a'.tmps w' R') hd' fun m2 a2 w2 R2 hd2=>hQ s' m2 a2 w2 hK R2 hd2
theorem hk_regMid {s:St} {id:Nat} {L:List Oper} {Q:Exit→St→Prop} (n:Nat)
  (h:Runs P false L.toArray (L.take n) (fun s1=>∃ s2,(∀ (C:Ctx) (m:Map) (tmps:Array Value) (w:World),Rel C m s1 tmps w→Rel C m s2 tmps w)∧Runs P false L.toArray (L.drop n) (Q .normal) s2) s):Holds P (.region id L.toArray false) Q s:=by
 intro r ds C m a w R hd
 refine wpR_region_lit ?_
 exact runsMid_sound n h R hd fun s' m' a' w' hK R' hd'=>⟨s',m',hK,R',hd'⟩
theorem Rel.sealI {C:Ctx} {m:Map} {s:St} {tmps:Array Value} {w:World} (R:Rel C m s tmps w) (t k:Nat) {l:List Int} (h1:s.get t = .sl k 0 l.length) (h2:hget s.H k = .own (ol l)):Rel C m { s with sl:=(t,.p (.list (il l))) :: s.sl,H:=hset s.H k (.fro (il l)) } tmps w:=by
 have hkl:k < s.H.length:=(List.getElem?_eq_some_iff.1 (hget_mut h2)).1
 have e2:hget (hset s.H k (.fro (il l))) k = .fro (il l):=by rw [hset_hget,if_pos ⟨rfl,hkl⟩]
 have R2:=R.freeze h2 (ol_allP l)
 have h3:peekG (hset s.H k (.fro (il l))) (({ s with H:=hset s.H k (.fro (il l)) } : St).get t)=some (0 + l.length≤(il l).length∧(((il l).drop 0).take l.length).all PV.one=true,.list (((il l).drop 0).take l.length),true):=by
  have e:({ s with H:=hset s.H k (.fro (il l)) } : St).get t = .sl k 0 l.length:=h1
  rw [e]
  simp only [peekG,peekS,e2]
 have R3:=R2.pure h3 (by
  simp only [il_length,List.drop_zero,il_take,take_len,il_all]
  exact ⟨by omega,trivial⟩)
 simp only [List.drop_zero,il_take,take_len] at R3
 exact R3
end
end Go.Pv

set_option linter.all false
namespace Go.Pv
open Go.RowKit
section
variable {P:Program} {C:Ctx} {m:Map} {s:St} {tmps:Array Value} {w:World}
theorem Rel.mpw (R:Rel C m s tmps w) {k:Nat} {kk:IntKind} {d:Int→Bool} {v v' : Int→PV} (hk:hget s.H k = .mp kk d v) (hv:∀ z,d z=true→∀ ok w x,Reads ok w (v z) x→Reads ok w (v' z) x):Rel C m { s with H:=hset s.H k (.mp kk d v') } tmps w:=by
 have hk2:=hget_some hk (by simp)
 have hkl:k < s.H.length:=(List.getElem?_eq_some_iff.1 hk2).1
 have hget:∀ (j:Nat) (b:Blk),(hset s.H k (.mp kk d v'))[j]? = some b→(j=k∧b = .mp kk d v')∨(j ≠ k∧s.H[j]? = some b):=by
  intro j b h
  rw [hset_get] at h
  by_cases e:j=k
  ·rw [if_pos ⟨e,hkl⟩] at h; exact .inl ⟨e,(Option.some.inj h).symm⟩
  ·rw [if_neg (by simp [e])] at h; exact .inr ⟨e,h⟩
 have hown:∀ (j:Nat) (c:List AV),(hset s.H k (.mp kk d v'))[j]? = some (.own c)→s.H[j]? = some (.own c):=fun j c h=>by
  rcases hget j _ h with ⟨_,e⟩ | ⟨_,h⟩
  ·cases e
  ·exact h
 have hok:∀ b,OK C m s.H w b→OK C m (hset s.H k (.mp kk d v')) w b:=fun b h=>⟨h.1,h.2.1,fun j c l hj hl=>h.2.2 j c l (hown j c hj) hl⟩
 have rdx:∀ p x,Reads (OK C m s.H w) w p x→Reads (OK C m (hset s.H k (.mp kk d v')) w) w p x:=fun p x h=>h.mono hok
 have hlen:s.H.length≤(hset s.H k (.mp kk d v')).length:=by rw [hset_length]; exact Nat.le_refl _
 refine ⟨R.laid.ext rdx,R.below,R.base,R.size,fun j j' c c' l l' h1 h2=>R.inj j j' c c' l l' (hown j c h1) (hown j' c' h2),fun j c h=>?_,fun j c h=>?_,fun t=>(R.slot t).ext rdx hlen fun _ _=>rfl,fun j kk2 d2 v2 h=>?_,fun j j' kk2 d2 v2 kk3 d3 v3 l l' h1 h2 h3 h4 h5=>?_,fun j i i' h=>?_,?_⟩
 ·exact (R.blk j c (hown j c h)).ext rdx hlen (fun _ _=>rfl) rfl fun _ _=>rfl
 ·rcases hget j _ h with ⟨_,e⟩ | ⟨_,h⟩
  ·cases e
  ·rcases R.fro j c h with h' | ⟨l2,vs2,b1,b2,b3,b4⟩
   ·exact .inl h'
   ·exact .inr ⟨l2,vs2,b1,hok _ b2,b3,fun i hi=>⟨(b4 i hi).1,rdx _ _ (b4 i hi).2⟩⟩
 ·rcases hget j _ h with ⟨rfl,e⟩ | ⟨_,h⟩
  ·simp only [Blk.mp.injEq] at e
   obtain ⟨rfl,rfl,rfl⟩:=e
   obtain ⟨l,ar,clk,vs,a1,a2,a3,a4,a5,a6,a7⟩:=R.mp.1 j _ _ v hk2
   exact ⟨l,ar,clk,vs,a1,a2,a3,a4,a5,a6,fun z hz=>hv z hz _ _ _ (rdx _ _ (a7 z hz))⟩
  ·obtain ⟨l,ar,clk,vs,a1,a2,a3,a4,a5,a6,a7⟩:=R.mp.1 j _ _ _ h
   exact ⟨l,ar,clk,vs,a1,a2,a3,a4,a5,a6,fun z hz=>rdx _ _ (a7 z hz)⟩
 ·have old:∀ (j:Nat) (kk2:IntKind) (d2:Int→Bool) (v2:Int→PV),(hset s.H k (.mp kk d v'))[j]? = some (.mp kk2 d2 v2)→∃ v4,s.H[j]? = some (.mp kk2 d2 v4):=fun j kk2 d2 v2 h=>by
   rcases hget j _ h with ⟨rfl,e⟩ | ⟨_,h⟩
   ·simp only [Blk.mp.injEq] at e
    obtain ⟨rfl,rfl,rfl⟩:=e
    exact ⟨v,hk2⟩
   ·exact ⟨v2,h⟩
  obtain ⟨v4,h1'⟩:=old j _ _ _ h1
  obtain ⟨v5,h2'⟩:=old j' _ _ _ h2
  exact R.mp.2.1 j j' kk2 d2 v4 kk3 d3 v5 l l' h1' h2' h3 h4 h5
 ·rcases hget j _ h with ⟨_,e⟩ | ⟨_,h⟩
  ·cases e
  ·obtain ⟨a1,a2⟩:=R.mp.2.2.1 j i i' h
   exact ⟨by simp only [hset_length]; exact a1,a2⟩
 ·refine R.mp.2.2.2.ext id (fun j r h=>?_) (fun _ _ _ _ _ _ h=>h) (fun _ _ _ _ _ h=>rfl) fun _ _ _ _ _ h=>h
  rcases hget j _ h with ⟨_,e⟩ | ⟨_,h⟩
  ·cases e
  ·exact ⟨h,rfl⟩
theorem hk_mpw {c:Code} {Q:Exit→St→Prop} (k:Nat) {kk:IntKind} {d:Int→Bool} {v v' : Int→PV} (hk:hget s.H k = .mp kk d v) (hv:∀ z,d z=true→∀ ok w x,Reads ok w (v z) x→Reads ok w (v' z) x) (h:Holds P c Q { s with H:=hset s.H k (.mp kk d v') }):Holds P c Q s:=
 fun r ds C m a w R hd=>h r ds C m a w (R.mpw hk hv) hd
end
end Go.Pv

set_option linter.all false
namespace Go.Proofs.Ytneglephfhiamaa
open Go.Pv
def wayB (f:Wy):Blk:=.mp .i64 (fun z=>(f z).isSome) (fun z=>.list (il ((f z).getD [])))
def wayN (f:Wy):Blk:=.mp .i64 (fun z=>(f z).isSome) (fun z=>nl ((f z).getD []))
theorem wayN_zero:Blk.mp .i64 (fun u=>decide (u=0) || false) (fun z=>nl ((updW (fun _=>none) 0 [] z).getD []))=wayN (updW (fun _=>none) 0 []):=by
 unfold wayN
 congr 1
 funext z
 unfold updW
 by_cases h:z=0<;>simp [h]
theorem wayN_upd (f:Wy) (u:Int) (l:List Int) (x:Int):Blk.mp .i64 (fun z=>decide (z=u) || (f z).isSome) (fun z=>bif decide (z=u) then .list (il (l++[x])) else nl ((f z).getD []))=wayN (updW f u (l++[x])):=by
 unfold wayN updW
 congr 1
 ·funext z
  by_cases h:z=u<;>simp [h]
 ·funext z
  by_cases h:z=u
  ·simp only [h,decide_true,cond_true,if_true,Option.getD_some]; exact (nl_cons l x).symm
  ·simp only [h,decide_false,cond_false,if_false]
section
variable {G:List Mp} {U:List Int}
theorem runs_letters {s:St} {all:Array Oper} {rest:List Oper} {K:St→Prop} {dst:Option Tmp} {ty:TypeId} {pos:String} {aft:Array Edge} {gd:Option (Nat × Bool)} {fo:Operand} {args:Array Operand} {ts:Array TypeId} {X:Heap}
  (w:WG G U) (hk:G.length≤100000000) {v:Nat} (hv:v < G.length) (hfo:s.ev fo = .p (.fn 58 [])) (hg:guardA all s { dst:=dst,op:=.call { callee:=.value fo,args:=args,argTypes:=ts },type:=ty,pos:=pos,after:=aft,guard:=gd } = some true)
  (hH:s.H=GB G U++X) (hargs:args.toList.map s.ev++([]:List PV).map .p=[.ptr 0 0,.p (.int .i64 v)]) (hd:dstOk s dst)
  (h:Runs Try.prog false all rest K (({ s with H:=GB G U++X } : St).put dst (.p (.list (il (lts (gm G v))))))) :
  Runs Try.prog false all ({ dst:=dst,op:=.call { callee:=.value fo,args:=args,argTypes:=ts },type:=ty,pos:=pos,after:=aft,guard:=gd } :: rest) K s:=
 runs_callP (letters_c w hk hv) hfo hg hH hargs (by rw [GB_len]; simp [scA,sc1]) GB_all GB_na (GB_scP rfl) hd h
theorem le_mid {S s:St} {B X:Heap} {N n0:Nat} {kk:IntKind} {d:Int→Bool} {v:Int→PV} (hn:S.n=s.n) (hN:B.length=N) (hn0:N + X.length=n0) (hSH:S.H=B++[.mp kk d v]++X) (hB:∀ b∈B,hsc N b=true) (hX:∀ b∈X,hsc N b=true)
  (h0:∀ i,i < N→hget s.H i=hget B i) (h1:∀ i,i < X.length→hget s.H (N + i)=hget X i) (h2:hget s.H n0 = .mp kk d v) (hsl:LeS (List.range N++[n0]++List.range' N X.length) S.sl s):Le (List.range N++[n0]++List.range' N X.length) S s:=by
 have hπ:∀ i,i < N→(List.range N++[n0]++List.range' N X.length).getD i 0=i:=fun i hi=>by
  rw [List.append_assoc,List.getD_eq_getElem?_getD,List.getElem?_append_left (by simpa using hi)]
  simp [List.getElem?_range hi]
 refine ⟨hn,?_,?_,hsl⟩
 ·rw [List.nodup_append,List.nodup_append]
  refine ⟨⟨List.nodup_range,by simp,fun x hx y hy=>?_⟩,List.nodup_range',fun x hx y hy=>?_⟩
  ·have:=List.mem_range.1 hx
   rw [List.mem_singleton] at hy
   omega
  ·have hy:=List.mem_range'_1.1 hy
   rcases List.mem_append.1 hx with hx | hx
   ·have:=List.mem_range.1 hx; omega
   ·rw [List.mem_singleton] at hx; omega
 ·rw [hSH]
  refine leH_app (leH_app ?_ ⟨h2,trivial⟩) ?_
  ·have:=leH_stay (π:=List.range N++[n0]++List.range' N X.length) (H:=s.H) (B:=B) (a:=0) (L:=N) hπ (by simp) hB (fun i hi=>by rw [Nat.zero_add]; exact h0 i (by omega))
   rwa [hN,← List.range_eq_range'] at this
  ·exact leH_stay (π:=List.range N++[n0]++List.range' N X.length) (H:=s.H) (B:=X) (a:=N) (L:=N) hπ (by simp) hX h1
set_option maxHeartbeats 4000000 in
set_option maxRecDepth 20000 in
theorem reach_e (w0:WG G U) (hp:0 < G.length) (hk:G.length≤100000000) :
  FnE Try.prog 55 [.ptr 0 0] (GB G U) (fun r H'=>∃ (lst:List Nat) (f:Wy) (U' : List Int),r = .tup [.p (.list (il (lst.map Int.ofNat))),.mptr (G.length + 3)]∧H' = GB G U'++[wayB f]∧(WG G U'∧∀ u,u < G.length→rV U' u=rV U u)∧BI G U' lst f∧BQ G U' lst f lst.length):=by
 obtain ⟨Post,hP⟩:∃ Post:AV→Heap→Prop,Post=(fun r H'=>∃ (lst:List Nat) (f:Wy) (U' : List Int),r = .tup [.p (.list (il (lst.map Int.ofNat))),.mptr (G.length + 3)]∧H' = GB G U'++[wayB f]∧(WG G U'∧∀ u,u < G.length→rV U' u=rV U u)∧BI G U' lst f∧BQ G U' lst f lst.length):=⟨_,rfl⟩
 rw [← hP]
 refine fne_of tab_ok Try.func55 rfl (by kernel_rfl) (by rw [Try.ntmps55]; exact Nat.le_add_left 1 _) ?_; rw [Try.ntmps55]; simp only [ancs,entA,List.length_cons,List.length_nil,List.cons_append,List.nil_append,Nat.reduceAdd,Nat.zero_add]
 have hYl:(ancs 0 (GB G U).length).length=G.length + 3:=by rw [ancs_length,GB_len]
 have hXs0:∀ L,G.length + 3≤L→∀ b∈ancs 0 (GB G U).length,hsc L b=true:=fun L hL b hb=>ancs_hsc (by rw [GB_len]; omega) b hb
 generalize ancs 0 (GB G U).length=X at hYl hXs0 ⊢
 obtain ⟨n0,hn0⟩:∃ n0,G.length + 3 + (G.length + 3)=n0:=⟨_,rfl⟩
 have hBl:∀ U1,(GB G U1++X).length=n0:=fun U1=>by rw [List.length_append,GB_len,hYl]; exact hn0
 obtain ⟨U1,hU1⟩:∃ U1,ofU U 0=U1:=⟨_,rfl⟩
 have w1:WG G U1:=hU1 ▸ w0.of hp
 have r1:∀ u,u < G.length→rV U1 u=rV U u:=hU1 ▸ w0.ofr hp
 have hz:rV U 0=0:=rV_zero w0.fo (by rw [w0.len]; exact hp)
 have hz1:rV U1 0=0:=by rw [r1 0 hp]; exact hz
 obtain ⟨U2,hU2⟩:∃ U2,ofU U1 0=U2:=⟨_,rfl⟩
 have w2:WG G U2:=hU2 ▸ w1.of hp
 have r2:∀ u,u < G.length→rV U2 u=rV U u:=fun u hu=>by rw [← hU2,w1.ofr hp u hu]; exact r1 u hu
 have fi2:WG G U2∧∀ u,u < G.length→rV U2 u=rV U u:=⟨w2,r2⟩
 have hz2:rV U2 0=0:=by rw [r2 0 hp]; exact hz
 have hg0:∀ (V:List Int) (a:Blk) (R:Heap),hget (GB G V++(X++a :: R)) n0=a:=fun V a R=>by
  rw [← List.append_assoc,hget_app2 (by rw [hBl]; exact Nat.le_refl _),hBl,Nat.sub_self]; rfl
 have hg1:∀ (V:List Int) (a b:Blk) (R:Heap),hget (GB G V++(X++a :: b :: R)) (n0 + 1)=b:=fun V a b R=>by
  rw [← List.append_assoc,hget_app2 (by rw [hBl]; omega),hBl,Nat.add_sub_cancel_left]; rfl
 have hs0:∀ (V:List Int) (a c:Blk) (R:Heap),hset (GB G V++(X++a :: R)) n0 c=GB G V++(X++c :: R):=fun V a c R=>by
  rw [← List.append_assoc,hset_eq,List.set_append_right _ _ (by rw [hBl]; exact Nat.le_refl _),hBl,Nat.sub_self,List.append_assoc]; rfl
 have hs1:∀ (V:List Int) (a b c:Blk) (R:Heap),hset (GB G V++(X++a :: b :: R)) (n0 + 1) c=GB G V++(X++a :: c :: R):=fun V a b c R=>by
  rw [← List.append_assoc,hset_eq,List.set_append_right _ _ (by rw [hBl]; omega),hBl,Nat.add_sub_cancel_left,List.append_assoc]; rfl
 have hL:∀ (V:List Int) (R:Heap),(GB G V++(X++R)).length=n0 + R.length:=fun V R=>by
  rw [← List.append_assoc,List.length_append,hBl]
 have hBs:∀ (V:List Int) (f:Wy) (c:List Int),∀ b∈(GB G V++(X++[wayN f,.own (ol c)])),hsc (n0 + 2) b=true:=fun V f c b hb=>by
  rw [← List.append_assoc] at hb
  rcases List.mem_append.1 hb with hb | hb
  ·exact GB_hscX (by omega) (hXs0 _ (by omega)) b hb
  ·simp only [List.mem_cons,List.not_mem_nil,or_false] at hb
   rcases hb with rfl | rfl
   ·rfl
   ·exact List.all_eq_true.2 fun x hx=>(List.all_eq_true.1 (ol_sc _ _)) x hx
 have hle:∀ {S1 s1:St} (V:List Int) (f:Wy) (c:List Int),S1.n=s1.n→s1.H=GB G V++(X++[wayN f,.own (ol c)])→S1.H=s1.H→(∀ p∈S1.sl,s1.get p.1=p.2∧scA (n0 + 2) p.2=true)→Le (List.range (n0 + 2)) S1 s1:=fun {S1 s1} V f c h1 h2 h3 h4=>by
  have hlen:s1.H.length=n0 + 2:=by rw [h2,hL]; rfl
  rw [← hlen] at h4 ⊢
  exact le_same h1 h3 (fun b hb=>by rw [hlen]; rw [h2] at hb; exact hBs V f c b hb) h4
 have hgw:∀ (V:List Int) (f:Wy) (R:Heap),hget (GB G V++(X++wayN f :: R)) n0 = .mp .i64 (fun z=>(f z).isSome) (fun z=>nl ((f z).getD [])):=fun V f R=>hg0 V _ R
 have hgA:∀ (V:List Int) (a b c:Blk),hget (GB G V++(X++[a,b])++[c]) (n0 + 2)=c:=fun V a b c=>by
  rw [hget_app2 (by rw [hL]; exact Nat.le_refl _),hL]; simp [hget]
 have hsA:∀ (V:List Int) (a b c d:Blk),hset (GB G V++(X++[a,b])++[c]) (n0 + 2) d=GB G V++(X++[a,b,d]):=fun V a b c d=>by
  rw [hset_eq,List.set_append_right _ _ (by rw [hL]; exact Nat.le_refl _),hL]; simp
 have hgB:∀ (V:List Int) (a b c d:Blk),hget (GB G V++(X++[a,b,c])++[d]) (n0 + 3)=d:=fun V a b c d=>by
  rw [hget_app2 (by rw [hL]; exact Nat.le_refl _),hL]; simp [hget]
 have hBs1:∀ (V:List Int) (f:Wy) (M:Nat),n0≤M→∀ b∈(GB G V++(X++[wayN f])),hsc M b=true:=fun V f M hM b hb=>by
  rw [← List.append_assoc] at hb
  rcases List.mem_append.1 hb with hb | hb
  ·exact GB_hscX (by omega) (hXs0 _ (by omega)) b hb
  ·rw [List.mem_singleton] at hb; subst hb; rfl
 refine qm ?_
 refine hk_region fun K hK=>runs_eval tab_ok ?_
 simp only [ev0,evA,evB,evP,fl,gp,tab,simprocAttr]
 refine fin_run trivial (hK _ ?_)<;>clear hK<;>clear K
 refine qa (qm ?_)
 refine hk_region fun K hK=>runs_eval tab_ok ?_
 simp only [ev0,evA,evB,evP,fl,gp,tab,simprocAttr,hBl]
 refine fin_stop ?_ (runs_of (U:=U) (X:=X++[.mp .i64 (fun _=>false) (fun _=>default)]) w0 (by omega) (v:=0) hp rfl rfl (by rw [List.append_assoc]) rfl (by simp only [dstOk,Nat.reduceLT]) (runs_eval tab_ok ?_))
 ·exact trivial
 simp only [hU1,hz]
 simp only [ev0,evA,evB,evP,fl,gp,tab,simprocAttr]
 refine fin_stop ?_ (runs_op (insert_does tab_ok rfl rfl (by
  simp only [mapUpdateA,hg0,ev0,evA,evB,evP,fl,gp,tab,simprocAttr]
  rfl) ?_) rfl (by simp only [dstOk,Nat.reduceLT]) (runs_eval tab_ok ?_))
 ·exact trivial
 ·exact trivial
 simp only [hs0]
 simp only [ev0,evA,evB,evP,fl,gp,tab,simprocAttr]
 refine fin_run trivial (hK _ ?_)<;>clear hK<;>clear K
 refine qa (qm ?_)
 refine hk_mpw n0 (v':=fun z=>nl ((updW (fun _=>none) 0 [] z).getD [])) (hg0 _ _ _) (fun z hz ok w x hx=>?_) ?_
 ·have e:z=0:=by simpa using hz
  subst e
  exact hx
 simp only [hs0,wayN_zero]
 refine hk_region fun K hK=>runs_eval tab_ok ?_
 simp only [ev0,evA,evB,evP,fl,gp,tab,simprocAttr]
 refine fin_stop ?_ (runs_of (U:=U1) (X:=X++[wayN (updW (fun _=>none) 0 [])]) w1 (by omega) (v:=0) hp rfl rfl rfl rfl (by simp only [dstOk,Nat.reduceLT]) (runs_op (buildOwn_does (n:=1) (l:=[.int .i64 (rV U1 0:Nat)]) tab_ok rfl rfl rfl rfl rfl rfl rfl ⟨⟨rfl,rfl,rfl⟩,trivial⟩ rfl (by decide) rfl) rfl (show (20:Nat) < 75 by decide) (runs_eval tab_ok ?_)))
 ·exact trivial
 simp only [hU2,hz1]
 simp only [ev0,evA,evB,evP,fl,gp,tab,simprocAttr,hL,List.append_assoc,List.cons_append,List.nil_append]
 refine fin_run trivial (hK _ ?_)<;>clear hK<;>clear K
 refine qa (qm (qm ?_))
 refine hk_region fun K hK=>runs_eval tab_ok ?_
 simp only [ev0,evA,evB,evP,fl,gp,tab,simprocAttr,List.append_assoc,List.cons_append,List.nil_append]
 refine fin_run trivial (hK _ ?_)<;>clear hK<;>clear K
 refine qa (ql ?_)
 refine hk_loop (ι:=Nat × List Nat × Wy × List Int) (fun q=>⟨75,[(0,.ptr 0 0),(4,.mptr n0),(5,.sl (n0 + 1) 0 q.2.1.length),(6,.p (.int .i64 (q.1:Nat)))],GB G q.2.2.2++(X++[wayN q.2.2.1,.own (ol (q.2.1.map Int.ofNat))])⟩)
  (fun q=>q.1≤q.2.1.length∧(WG G q.2.2.2∧∀ u,u < G.length→rV q.2.2.2 u=rV U u)∧BI G q.2.2.2 q.2.1 q.2.2.1∧BQ G q.2.2.2 q.2.1 q.2.2.1 q.1) (fun q=>G.length - q.1) (0,[0],updW (fun _=>none) 0 [],U2) ⟨Nat.zero_le _,fi2,bi_zero hz2 hp,bq_zero⟩ (List.range (n0 + 2)) (hle U2 (updW (fun _=>none) 0 []) [0] rfl rfl rfl (by simp [St.get,lk,scA,sc1])) fun q hq=>?_
 obtain ⟨i,lst,f,V⟩:=q
 obtain ⟨q1,fi1,bi1,bq1⟩:=hq
 simp only at q1 fi1 bi1 bq1 ⊢
 have hll:lst.length≤G.length:=nodup_len _ _ bi1.nd fun x hx=>(bi1.rt x hx).1
 refine qm (qm ?_)
 refine hk_region fun K hK=>runs_eval tab_ok ?_
 simp only [ev0,evA,evB,evP,fl,gp,tab,simprocAttr]
 refine fin_run trivial (hK _ ?_)<;>clear hK<;>clear K
 refine qa ?_
 refine hk_cond rfl (fun hC1=>?_) (fun hC1=>?_)
 ·(try simp only [nhs] at hC1)
  have hi:i < lst.length:=by omega
  obtain ⟨v,hv⟩:∃ v,lst.getD i 0=v:=⟨_,rfl⟩
  have hvm:v∈lst:=hv ▸ mem_ix hi
  obtain ⟨hvl,hvr⟩:=bi1.rt v hvm
  have hgl:∀ d:AV,(ol (lst.map Int.ofNat)).getD i d = .p (.int .i64 (v:Nat)):=fun d=>by
   rw [ol_get (by simpa using hi)]
   have:(lst.map Int.ofNat).getD i 0=(v:Int):=by
    rw [← hv,List.getD_eq_getElem?_getD,List.getD_eq_getElem?_getD,List.getElem?_map,List.getElem?_eq_getElem hi]; rfl
   rw [this]
  refine qh (qa (qm (ql (qm ?_))))
  refine hk_region fun K hK=>runs_eval tab_ok ?_
  simp only [ev0,evA,evB,evP,fl,gp,tab,simprocAttr,hg1,hgl]
  refine fin_run ?_ (hK _ ?_)<;>clear hK<;>clear K
  ·exact ⟨by omega,by simpa using hi⟩
  refine qa (qm ?_)
  refine hk_region fun K hK=>runs_eval tab_ok ?_
  simp only [ev0,evA,evB,evP,fl,gp,tab,simprocAttr]
  refine fin_stop ?_ (runs_letters (U:=V) (X:=X++[wayN f,.own (ol (lst.map Int.ofNat))]) fi1.1 (by omega) (v:=v) hvl rfl rfl rfl rfl (by simp only [dstOk,Nat.reduceLT]) (runs_eval tab_ok ?_))
  ·exact trivial
  simp only [ev0,evA,evB,evP,fl,gp,tab,simprocAttr,il_length]
  refine fin_run trivial (hK _ ?_)<;>clear hK<;>clear K
  refine qa (ql ?_)
  obtain ⟨L,hLd⟩:∃ L,lts (gm G v)=L:=⟨_,rfl⟩
  have hLl:L.length≤53:=hLd ▸ lts_len _
  rw [hLd]
  refine hk_loop (ι:=Nat × List Nat × Wy × List Int) (fun q=>⟨75,[(0,.ptr 0 0),(4,.mptr n0),(5,.sl (n0 + 1) 0 q.2.1.length),(6,.p (.int .i64 (i:Nat))),(7,.p (.int .i64 (v:Nat))),(33,.p (.list (il L))),(34,.p (.int .i64 L.length)),(35,.p (.int .i64 (q.1:Nat)))],GB G q.2.2.2++(X++[wayN q.2.2.1,.own (ol (q.2.1.map Int.ofNat))])⟩)
   (fun q=>q.1≤L.length∧i < q.2.1.length∧q.2.1.getD i 0=v∧(WG G q.2.2.2∧∀ u,u < G.length→rV q.2.2.2 u=rV U u)∧BI G q.2.2.2 q.2.1 q.2.2.1∧BQ G q.2.2.2 q.2.1 q.2.2.1 i∧BL G q.2.2.2 q.2.1 q.2.2.1 i (L.take q.1)) (fun q=>L.length - q.1) (0,lst,f,V) ⟨Nat.zero_le _,hi,hv,fi1,bi1,bq1,fun x hx=>by simp at hx⟩ (List.range (n0 + 2)) (hle V f (lst.map Int.ofNat) rfl rfl rfl (by simp [St.get,lk,scA,sc1])) fun q hq=>?_
  obtain ⟨j,lst2,f2,V2⟩:=q
  obtain ⟨j1,j2,j3,fi3,bi3,bq3,bl3⟩:=hq
  simp only at j1 j2 j3 fi3 bi3 bq3 bl3 ⊢
  have hll2:lst2.length≤G.length:=nodup_len _ _ bi3.nd fun x hx=>(bi3.rt x hx).1
  have hvm2:v∈lst2:=j3 ▸ mem_ix j2
  have hvr2:rV V2 v=v:=(bi3.rt v hvm2).2
  refine qm ?_
  refine hk_region fun K hK=>runs_eval tab_ok ?_
  simp only [ev0,evA,evB,evP,fl,gp,tab,simprocAttr]
  refine fin_run trivial (hK _ ?_)<;>clear hK<;>clear K
  refine qa (qm ?_)
  refine hk_cond rfl (fun hC2=>?_) (fun hC2=>?_)
  ·(try simp only [nhs] at hC2)
   have hj:j < L.length:=by omega
   obtain ⟨x,hx⟩:∃ x,L.getD j 0=x:=⟨_,rfl⟩
   have hxm:x∈L:=by rw [← hx,List.getD_eq_getElem?_getD,List.getElem?_eq_getElem hj]; exact List.getElem_mem hj
   have hxs:(gm G v x).isSome=true:=(mem_lts.1 (hLd ▸ hxm)).2
   obtain ⟨c,hc⟩:=Option.isSome_iff_exists.1 hxs
   obtain ⟨e0,e1,e2⟩:=fi3.1.ent v x c hvl hc
   obtain ⟨d,rfl⟩:=Int.eq_ofNat_of_zero_le e0
   rw [Int.toNat_natCast] at e1
   obtain ⟨V3,hV3⟩:∃ V3,ofU V2 d=V3:=⟨_,rfl⟩
   have w3:WG G V3:=hV3 ▸ fi3.1.of e1
   have r3:∀ u,u < G.length→rV V3 u=rV V2 u:=hV3 ▸ fi3.1.ofr e1
   have fi4:WG G V3∧∀ u,u < G.length→rV V3 u=rV U u:=⟨w3,fun u hu=>(r3 u hu).trans (fi3.2 u hu)⟩
   have bi4:BI G V3 lst2 f2:=bi3.up fi3.1 r3
   have bq4:BQ G V3 lst2 f2 i:=bq3.up bi3 fi3.1 r3 (by omega)
   have bl4:BL G V3 lst2 f2 i (L.take j):=bl3.up bi3 fi3.1 r3 j2
   obtain ⟨u,hu⟩:∃ u,rV V2 d=u:=⟨_,rfl⟩
   have hul:u < G.length:=hu ▸ fi3.1.rlt e1
   have hur:rV V3 u=u:=by rw [r3 u hul,← hu]; exact fi3.1.idem e1
   have hed:Ed G V3 v x u:=⟨d,by rw [r3 v hvl,hvr2]; exact hc,by rw [Int.toNat_natCast,r3 d e1,hu,hur]⟩
   have huq:∀ y,y < G.length→rV V3 y=y→Ed G V3 (lst2.getD i 0) x y→y=u:=fun y hy hyr ⟨d',hd',hd2⟩=>by
    rw [j3,r3 v hvl,hvr2,hc] at hd'
    obtain rfl:=Option.some.inj hd'
    rw [Int.toNat_natCast,r3 d e1,hu,hyr] at hd2
    exact hd2.symm
   have hLt:L.take (j + 1)=L.take j++[x]:=by rw [take_snoc (d:=0) hj,hx]
   have gM:∀ Y:Heap,hget (G.map mpB++Y) v=mpB (gm G v):=fun Y=>hget_G hvl
   have hGBk:∀ (Y:Heap),GB G V2++Y = .own [.sl 1 0 G.length,.sl 2 0 V2.length] :: .own (mps G.length) :: .own (ol V2) :: (G.map mpB++Y):=fun Y=>rfl
   refine qh (qa (qm (ql (qm ?_))))
   refine hk_region fun K hK=>runs_eval tab_ok ?_
   simp only [ev0,evA,evB,evP,fl,gp,tab,simprocAttr,il_length,il_get hj,hx]
   refine fin_run ?_ (hK _ ?_)<;>clear hK<;>clear K
   ·omega
   refine qa (qm ?_)
   rw [hGBk]
   refine hk_region fun K hK=>runs_eval tab_ok ?_
   simp only [ev0,evA,evB,evP,fl,gp,tab,simprocAttr,mps_get hvl,gM,mpB,hc,Option.isSome_some,cond_true,Option.getD_some,Int.ofNat_eq_natCast,mps_len,Int.toNat_natCast]
   refine fin_stop ?_ (runs_of (U:=V2) (X:=X++[wayN f2,.own (ol (lst2.map Int.ofNat))]) fi3.1 (by omega) (v:=d) e1 rfl rfl (hGBk _).symm rfl (by simp only [dstOk,Nat.reduceLT]) (runs_eval tab_ok ?_))
   ·exact ⟨⟨by omega,by omega⟩,hvl⟩
   simp only [hV3,hu]
   simp only [ev0,evA,evB,evP,fl,gp,tab,simprocAttr]
   refine fin_run trivial (hK _ ?_)<;>clear hK<;>clear K
   refine qa (qm ?_)
   refine hk_region fun K hK=>runs_eval tab_ok ?_
   simp only [ev0,evA,evB,evP,fl,gp,tab,simprocAttr,hgw]
   refine fin_run ?_ (hK _ ?_)<;>clear hK<;>clear K
   ·(first|exact trivial|omega|(simp only [In64] at *; omega)|(simp [In64] at *; omega)|(simp_all; done)|skip)
   refine qa (qm ?_)
   refine hk_region fun K hK=>runs_eval tab_ok ?_
   simp only [ev0,evA,evB,evP,fl,gp,tab,simprocAttr]
   refine fin_run trivial (hK _ ?_)<;>clear hK<;>clear K
   refine qa ?_
   refine hk_cond rfl (fun hC3=>?_) (fun hC3=>?_)
   ·(try simp only [nhs] at hC3)
    have hfu:f2 (u:Int)=none:=by simpa using hC3
    obtain ⟨l,hl⟩:∃ l,f2 (v:Int)=some l:=Option.isSome_iff_exists.1 ((bi4.dom v).2 ⟨v,hvm2,rfl⟩)
    have hlw:wy f2 v=l:=by unfold wy; rw [hl]; rfl
    have hlen:l.length < lst2.length:=bi4.len _ _ hl
    refine qm ?_
    refine hk_regMid 10 (runs_cut fun K hK=>?_)
    simp only [List.take_succ_cons,List.take_zero]
    refine runs_eval tab_ok ?_
    simp only [ev0,evA,evB,evP,fl,gp,tab,simprocAttr,hgw,hl,Option.isSome_some,cond_true,Option.getD_some]
    refine fin_stop trivial (runs_call (clone_n l (by omega)) rfl rfl rfl (by simp only [dstOk,Nat.reduceLT]) (by repeat (first|exact trivial|constructor)) (runs_eval tab_ok ?_))
    simp only [ev0,evA,evB,evP,fl,gp,tab,simprocAttr]
    refine fin_stop trivial (runs_call (clip_n l) rfl rfl rfl (by simp only [dstOk,Nat.reduceLT]) (by repeat (first|exact trivial|constructor)) (runs_eval tab_ok ?_))
    simp only [ev0,evA,evB,evP,fl,gp,tab,simprocAttr,hL]
    refine fin_run ?_ (hK _ ?_)<;>clear hK<;>clear K
    ·exact ⟨by omega,by omega⟩
    refine ⟨_,fun C m tmps w R=>R.sealI 67 (n0 + 2) (l:=l++[x]) ?_ ?_,?_⟩
    ·show AV.sl (n0 + 2) 0 (l.length + 1)=AV.sl (n0 + 2) 0 (l++[x]).length
     rw [List.length_append]; rfl
    ·refine (hgA _ _ _ _).trans ?_
     simp [ol,il]
    refine runs_cut fun K hK=>?_
    simp only [List.drop_succ_cons,List.drop_zero,hsA]
    refine runs_eval tab_ok ?_
    simp only [ev0,evA,evB,evP,fl,gp,tab,simprocAttr,hgw,hs0,wayN_upd]
    refine fin_run trivial (hK _ ?_)<;>clear hK<;>clear K
    refine qa ?_
    refine hk_region fun K hK=>runs_eval tab_ok ?_
    simp only [ev0,evA,evB,evP,fl,gp,tab,simprocAttr,hg1,hs1,hL]
    refine fin_run ?_ (hK _ ?_)<;>clear hK<;>clear K
    ·exact ⟨by simp,by omega,by omega⟩
    refine qd (qa ?_)
    refine hk_region fun K hK=>runs_eval tab_ok ?_
    simp only [ev0,evA,evB,evP,fl,gp,tab,simprocAttr]
    refine fin_run ?_ (hK _ ?_)<;>clear hK<;>clear K
    ·(first|exact trivial|omega|(simp only [In64] at *; omega)|(simp [In64] at *; omega)|(simp_all; done)|skip)
    refine qa ?_
    have e1:wy f2 (lst2.getD i 0)=l:=by rw [j3]; exact hlw
    have bi5:BI G V3 (lst2++[u]) (updW f2 u (l++[x])):=bi4.snoc (i:=i) j2 (by rw [j3]; exact hl) hul hur (by rw [j3]; exact hed) hfu
    have bq5:=BQ.snoc bi4 bq4 j2 (x:=x) hfu
    have bl5:=BL.snoc bi4 bl4 j2 (x:=x) hfu
    rw [e1] at bq5 bl5
    have bl6:=bl5.more (x:=x) (u:=u) (by simp) (by rw [updW_self,snoc_getD j2,bi4.other hfu (mem_ix j2),e1]; simp) (by rw [snoc_getD j2]; exact huq)
    rw [← hLt] at bl6
    obtain ⟨f3,hf3⟩:∃ f3,updW f2 u (l++[x])=f3:=⟨_,rfl⟩
    rw [hf3] at bi5 bq5 bl6 ⊢
    have hml:(lst2++[u]).map Int.ofNat=List.take lst2.length (lst2.map Int.ofNat)++[(u:Int)]:=by
     rw [List.take_of_length_le (by simp)]; simp
    refine ⟨(j + 1,lst2++[u],f3,V3),List.range (n0 + 1)++[n0 + 3],⟨by simp only; omega,by simp only [List.length_append]; omega,by simp only; rw [snoc_getD j2]; exact j3,fi4,bi5,bq5,bl6⟩,by simp only; omega,le_behind (B:=GB G V3++(X++[wayN f3])) (c:=ol ((lst2++[u]).map Int.ofNat)) (d:=ol ((lst2++[u]).map Int.ofNat)) rfl (by rw [hL]; rfl) (by simp) (fun b hb=>hBs1 V3 f3 _ (by omega) b hb) (by omega) (fun b hb=>hBs1 V3 f3 _ (by omega) b hb) (fun k hk=>?_) ?_ ?_ (ol_sc _ _) ?_⟩
    ·show hget (GB G V3++(X++[wayN f3,_,_])++[_]) k=_
     rw [show ∀ b c d:Blk,GB G V3++(X++[wayN f3,b,c])++[d]=(GB G V3++(X++[wayN f3]))++[b,c,d] from fun b c d=>by simp]
     exact hget_app1 (by rw [hL]; simpa using hk)
    ·rw [hml]
     exact hgB _ _ _ _ _
    ·rw [ol_ren,List.take_of_length_le (Nat.le_refl _)]
    ·have hq3:(List.range (n0 + 1)++[n0 + 3]).getD (n0 + 1) 0=n0 + 3:=by
      rw [List.getD_eq_getElem?_getD,List.getElem?_append_right (by simp)]; simp
     have hq0:(List.range (n0 + 1)++[n0 + 3]).getD 0 0=0:=by
      rw [List.getD_eq_getElem?_getD,List.getElem?_append_left (by simp)]; simp
     have hqn:(List.range (n0 + 1)++[n0 + 3]).getD n0 0=n0:=by
      rw [List.getD_eq_getElem?_getD,List.getElem?_append_left (by simp)]; simp
     refine ⟨?_,?_,?_,?_,?_,?_,rfl,rfl,rfl,rfl,rfl,rfl,rfl,rfl,?_,rfl,trivial⟩
     ·show AV.ptr 0 0=Go.Pv.ren _ _
      simp only [Go.Pv.ren,ren1,hq0]
     ·simp [scA,sc1]
     ·show AV.mptr n0=Go.Pv.ren _ _
      simp only [Go.Pv.ren,ren1,hqn]
     ·simp [scA,sc1]; omega
     ·show AV.sl (n0 + 3) 0 (lst2.length + 1)=Go.Pv.ren _ _
      simp only [Go.Pv.ren,ren1,hq3,List.length_append,List.length_singleton]
     ·simp [scA,sc1]
     ·rfl
   ·(try simp only [nhs] at hC3)
    refine qh (qd (qa ?_))
    refine hk_region fun K hK=>runs_eval tab_ok ?_
    simp only [ev0,evA,evB,evP,fl,gp,tab,simprocAttr]
    refine fin_run ?_ (hK _ ?_)<;>clear hK<;>clear K
    ·(first|exact trivial|omega|(simp only [In64] at *; omega)|(simp [In64] at *; omega)|(simp_all; done)|skip)
    refine qa ?_
    obtain ⟨l,hl⟩:∃ l,f2 (u:Int)=some l:=Option.isSome_iff_exists.1 (by simpa using hC3)
    have hum:u∈lst2:=by
     obtain ⟨u',hu',e⟩:=(bi4.dom (u:Int)).1 (by rw [hl]; rfl)
     have:u' = u:=by omega
     exact this ▸ hu'
    have bl6:=bl4.more (x:=x) hum (by
     obtain ⟨k,hk,e⟩:=ix_of hum
     rw [← e]; exact bq4.cap j2 k hk) huq
    rw [← hLt] at bl6
    exact ⟨(j + 1,lst2,f2,V3),List.range (n0 + 2),⟨by simp only; omega,j2,j3,fi4,bi4,bq4,bl6⟩,by simp only; omega,hle V3 f2 (lst2.map Int.ofNat) rfl rfl rfl (by simp [St.get,lk,scA,sc1])⟩
  ·(try simp only [nhs] at hC2)
   refine qj (qc (qc (qf (qd (qa ?_)))))
   refine hk_region fun K hK=>runs_eval tab_ok ?_
   simp only [ev0,evA,evB,evP,fl,gp,tab,simprocAttr]
   refine fin_run ?_ (hK _ ?_)<;>clear hK<;>clear K
   ·(first|exact trivial|omega|(simp only [In64] at *; omega)|(simp [In64] at *; omega)|(simp_all; done)|skip)
   refine qa ?_
   have hjl:j=L.length:=by omega
   have bq':=bq3.next bl3 fun x y hy hyr ⟨d,hd,_⟩=>by
    rw [j3,hvr2] at hd
    rw [hjl,List.take_length,← hLd]
    obtain ⟨_,_,e2⟩:=fi3.1.ent v x d hvl hd
    exact mem_lts.2 ⟨e2.2,by rw [hd]; rfl⟩
   exact ⟨(i + 1,lst2,f2,V2),List.range (n0 + 2),⟨by simp only; omega,fi3,bi3,bq'⟩,by simp only; omega,hle V2 f2 (lst2.map Int.ofNat) rfl rfl rfl (by simp [St.get,lk,scA,sc1])⟩
 ·(try simp only [nhs] at hC1)
  refine qj (qc (qc (qf (qa (qm ?_)))))
  refine hk_seal 5 (n0 + 1) (w:=lst.map Int.ofNat) (by show AV.sl (n0 + 1) 0 lst.length=_; rw [List.length_map]) (hg1 _ _ _ _) ?_
  simp only [hs1]
  refine hk_mpw n0 (v':=fun z=>.list (il ((f z).getD []))) (hgw _ _ _) (fun z hz ok w x hx=>nl_list hx) ?_
  simp only [hs0]
  refine hk_region fun K hK=>runs_eval tab_ok ?_
  simp only [ev0,evA,evB,evP,fl,gp,tab,simprocAttr]
  refine fin_run trivial (hK _ ?_)<;>clear hK<;>clear K
  refine qa (qk ?_)
  simp only [Try.results55,PostG,endG,rvsA,rvA,mkTup,ev0,evA,evB,evP,fl,gp,tab,simprocAttr]
  have hie:i=lst.length:=by omega
  have hπn:(List.range (G.length + 3)++[n0]++List.range' (G.length + 3) X.length).getD (G.length + 3) 0=n0:=by
   rw [List.append_assoc,List.getD_eq_getElem?_getD,List.getElem?_append_right (by simp)]; simp
  refine ⟨.tup [.p (.list (il (lst.map Int.ofNat))),.mptr (G.length + 3)],GB G V++[wayB f],by rw [hP]; exact ⟨lst,f,V,rfl,rfl,fi1,bi1,hie ▸ bq1⟩,List.range (G.length + 3)++[n0]++List.range' (G.length + 3) X.length,?_,?_,?_⟩
  ·simp only [Go.Pv.ren,ren1,List.map_cons,List.map_nil,hπn]
  ·simp [scA,sc1]
  ·refine le_mid (B:=GB G V) (X:=X) (N:=G.length + 3) (n0:=n0) rfl (GB_len _ _) (by rw [hYl]; exact hn0) rfl (GB_hsc (Nat.le_refl _)) (hXs0 _ (Nat.le_refl _)) (fun k hk=>?_) (fun k hk=>?_) (hg0 _ _ _) trivial
   ·exact hget_app1 (by rw [GB_len]; exact hk)
   ·rw [hget_app2 (by rw [GB_len]; omega),GB_len,Nat.add_sub_cancel_left]
    exact hget_app1 hk
end
end Go.Proofs.Ytneglephfhiamaa

set_option linter.all false
namespace Go.Proofs.Ytneglephfhiamaa
open Go.Pv
theorem putM_pre0:∀ (H0 A P X E:Heap),A.length=H0.length→putM (P++H0++X) (List.range' P.length H0.length) (A++E)=P++A++X++E
 | [],[],P,X,E,_=>by simp [putM]
 | [],_ :: _,_,_,_,h=>by simp at h
 | _ :: _,[],_,_,_,h=>by simp at h
 | b :: H0,a :: A,P,X,E,h=>by
  rw [List.length_cons,List.range'_succ,List.cons_append,putM]
  have e:hset (P++b :: H0++X) P.length a=(P++[a])++H0++X:=by
   rw [hset_eq,List.append_assoc,List.set_append_right _ _ (Nat.le_refl _),Nat.sub_self]; simp
  rw [e]
  have:=putM_pre0 H0 A (P++[a]) X E (by simpa using h)
  rw [List.length_append,List.length_singleton] at this
  rw [this]; simp
theorem putM_pre {H0 A X E:Heap} (h:A.length=H0.length):putM (H0++X) (List.range H0.length) (A++E)=A++X++E:=by
 have:=putM_pre0 H0 A [] X E h
 rwa [List.nil_append,List.length_nil,← List.range_eq_range'] at this
section
variable {G:List Mp} {U:List Int}
theorem GBw_scM {f:Wy} {U' : List Int} {l:List PV} : scM (.tup [.p (.list l),.mptr (G.length + 3)]) (GB G U) (GB G U'++[wayB f])=true:=by
 unfold scM
 have hl:(GB G U'++[wayB f]).length=G.length + 4:=by rw [List.length_append,GB_len]; rfl
 have h1:(GB G U'++[wayB f]).all (fun | .own c=>c.all (scA (GB G U'++[wayB f]).length) | .anc _ _=>false | _=>true)=true:=by
  rw [List.all_eq_true]
  intro b hb
  rw [hl]
  rcases List.mem_append.1 hb with hb | hb
  ·have h:=GB_hsc (L:=G.length + 4) (by omega) b hb
   have h2:=(List.all_eq_true.1 (GB_na (G:=G) (U:=U'))) b hb
   cases b with
   | own c=>exact h
   | anc i j=>cases h2
   | _=>rfl
  ·rw [List.mem_singleton] at hb; subst hb; rfl
 have h2:mpKeep (GB G U) (GB G U'++[wayB f])=true:=mpKeep_app (mpKeep_GB rfl) (by rw [GB_len,GB_len]; exact Nat.le_refl _)
 simp only [Bool.and_eq_true,decide_eq_true_eq]
 refine ⟨⟨⟨⟨?_,h1⟩,?_⟩,h2⟩,GB_na⟩
 ·rw [hl]; simp [scA,sc1]
 ·rw [hl,GB_len]; omega
theorem reach_E {s:St} {o:Oper} {fo:Operand} {args:Array Operand} {ts:Array TypeId} {X:Heap} (ho:o.op = .call { callee:=.value fo,args:=args,argTypes:=ts }) (hfo:s.ev fo = .p (.fn 55 []))
  (w0:WG G U) (hp:0 < G.length) (hs:SymW G U []) (hk:G.length≤100000000) (hH:s.H=GB G U++X) (hargs:args.toList.map s.ev++([]:List PV).map .p=[.ptr 0 0]) :
  DoesE Try.prog o s (fun av H'=>∃ (lst:List Nat) (f:Wy) (U' : List Int),av = .tup [.p (.list (il (lst.map Int.ofNat))),.mptr (G.length + 3 + X.length)]∧H' = GB G U'++(X++[wayB f])∧WG G U'∧(∀ u,u < G.length→rV U' u=rV U u) ∧
   GT (stR G U) lst f∧(∀ u∈lst,u < G.length∧rV U u=u)∧∀ u∈lst,∀ w,runW (stR G U) 0 w=some u→(wy f u).length≤w.length):=by
 have hsl:s.H.length=G.length + 3 + X.length:=by rw [hH,List.length_append,GB_len]
 have hA:argsM s.H (List.range (GB G U).length) (args.toList.map s.ev++([]:List PV).map .p) [.ptr 0 0]:=by
  rw [hargs]
  refine ⟨?_,trivial⟩
  rw [GB_len]
  exact ⟨(ren_id (by simp [scA,sc1])).symm,by simp [scA,sc1]⟩
 have hL:LeH (List.range (GB G U).length) s.H (List.range (GB G U).length) (GB G U):=by
  have:=leH_stay (π:=List.range (GB G U).length) (H:=s.H) (B:=GB G U) (a:=0) (L:=(GB G U).length) (fun i hi=>by simp [List.getElem?_range hi]) (by simp) (by rw [GB_len]; exact GB_hsc (Nat.le_refl _)) (fun i hi=>by rw [Nat.zero_add,hH]; exact hget_app1 hi)
  rwa [← List.range_eq_range'] at this
 have:=call_doesE ho hfo (reach_e w0 hp hk) hA hL List.nodup_range (fun k hk=>by rw [hH,List.length_append]; have:=List.mem_range.1 hk; omega) GB_na (by
  rintro r H1 ⟨lst,f,U',rfl,rfl,_⟩
  exact GBw_scM)
 intro C m a w K Q R hK
 refine this C m a w K Q R fun v m' w' av H' ⟨r,H1,⟨lst,f,U',e1,e2,⟨w1,r1⟩,bi,bq⟩,e3,e4⟩ R2 hv=>hK v m' w' av H' ⟨lst,f,U',?_,?_,w1,r1,?_⟩ R2 hv
 ·subst e1; subst e2
  have hl:(GB G U'++[wayB f]).length - (List.range (GB G U).length).length=1:=by simp [GB_len]
  have hq:(List.range (GB G U).length++List.range' s.H.length 1).getD (G.length + 3) 0=G.length + 3 + X.length:=by
   rw [List.getD_eq_getElem?_getD,List.getElem?_append_right (by simp [GB_len]),hsl]; simp [GB_len]
  rw [e3,hl]
  simp only [Go.Pv.ren,ren1,List.map_cons,List.map_nil,hq]
 ·subst e1; subst e2
  have hπ:∀ i,i < (GB G U).length→(List.range (GB G U).length++List.range' s.H.length ((GB G U'++[wayB f]).length - (List.range (GB G U).length).length)).getD i 0=i:=fun i hi=>by
   rw [List.getD_eq_getElem?_getD,List.getElem?_append_left (by simpa using hi)]
   simp [List.getElem?_range hi]
  have e5:(GB G U'++[wayB f]).map (Blk.ren (List.range (GB G U).length++List.range' s.H.length ((GB G U'++[wayB f]).length - (List.range (GB G U).length).length)))=GB G U'++[wayB f]:=by
   have:∀ b∈(GB G U'++[wayB f]),Blk.ren (List.range (GB G U).length++List.range' s.H.length ((GB G U'++[wayB f]).length - (List.range (GB G U).length).length)) b=id b:=fun b hb=>by
    rcases List.mem_append.1 hb with hb | hb
    ·have h:=GB_hsc (L:=(GB G U).length) (by rw [GB_len]; exact Nat.le_refl _) b hb
     have h2:=(List.all_eq_true.1 (GB_na (G:=G) (U:=U'))) b hb
     cases b with
     | own c =>
      have:=List.map_congr_left (f:=Go.Pv.ren (List.range (GB G U).length++List.range' s.H.length ((GB G U'++[wayB f]).length - (List.range (GB G U).length).length))) (g:=id) fun x hx=>ren_pre hπ ((List.all_eq_true.1 h) x hx)
      show Blk.own _=Blk.own c
      rw [this,List.map_id]
     | anc i j=>cases h2
     | _=>rfl
    ·rw [List.mem_singleton] at hb; subst hb; rfl
   rw [List.map_congr_left this,List.map_id]
  rw [e4,e5,hH,putM_pre (by rw [GB_len,GB_len]),List.append_assoc]
 ·have hs1:SymW G U' []:=fun u x v hu hv e=>by
   rw [pe_nil,Ed.rv w0 r1 hu hv] at e
   rw [pe_nil,Ed.rv w0 r1 hv hu]
   exact pe_nil.1 (hs u x v hu hv (pe_nil.2 e))
  obtain ⟨g,hf⟩:=bq_gt w1 hp hs1 bi bq
  rw [stR_eq w0 r1] at g hf
  exact ⟨g,fun u hu=>⟨(bi.rt u hu).1,by rw [← r1 u (bi.rt u hu).1]; exact (bi.rt u hu).2⟩,hf⟩
end
end Go.Proofs.Ytneglephfhiamaa

set_option linter.all false
namespace Go.Proofs.Ytneglephfhiamaa
open Go.Pv
structure Grp (n:Nat) (f:Nat→Nat→Nat) (e:Nat):Prop where
 pos:0 < n
 cl:∀ a b,a < n→b < n→f a b < n
 el:e < n
 one_l:∀ a,a < n→f e a=a
 one_r:∀ a,a < n→f a e=a
 assoc:∀ a b c,a < n→b < n→c < n→f (f a b) c=f a (f b c)
 inv:∀ a,a < n→∃ b,b < n∧f a b=e∧f b a=e
section
variable {n:Nat} {f:Nat→Nat→Nat} {e:Nat}
theorem Grp.cancel_l (G:Grp n f e) {a b c:Nat} (ha:a < n) (hb:b < n) (hc:c < n) (h:f a b=f a c):b=c:=by
 obtain ⟨i,hi,_,h2⟩:=G.inv a ha
 have h1:f i (f a b)=f i (f a c):=by rw [h]
 rwa [← G.assoc i a b hi ha hb,← G.assoc i a c hi ha hc,h2,G.one_l b hb,G.one_l c hc] at h1
theorem Grp.idem (G:Grp n f e) {a:Nat} (ha:a < n):f a a=a↔a=e:=
 ⟨fun h=>G.cancel_l ha ha G.el (by rw [h,G.one_r a ha]),fun h=>by subst h; exact G.one_l _ ha⟩
end
end Go.Proofs.Ytneglephfhiamaa

set_option linter.all false
namespace Go.Proofs.Ytneglephfhiamaa
open Go.Pv
def Rle (a b:PV):Prop:=∀ (ok:Nat→Prop) (w:World) (v:Value),Reads ok w a v→Reads ok w b v
theorem Rle.rfl {a:PV} : Rle a a:=fun _ _ _ h=>h
theorem Rle.nn {l:List PV} : Rle (.nn l) (.list l):=fun _ _ _ h=>h.nn_list
def Rles:List PV→List PV→Prop
 | [],[]=>True
 | a :: r,b :: s=>Rle a b∧Rles r s
 | _,_=>False
theorem Rles.len:∀ {l r:List PV},Rles l r→l.length=r.length
 | [],[],_=>by rfl
 | a :: l,b :: r,h=>by simp [Rles.len h.2]
 | [],_ :: _,h=>h.elim
 | _ :: _,[],h=>h.elim
theorem Rles.get:∀ {l r:List PV},Rles l r→∀ (i:Nat) (h:i < l.length) (h' : i < r.length),Rle l[i] r[i]
 | a :: l,b :: r,h,0,_,_=>h.1
 | a :: l,b :: r,h,i + 1,h1,h2=>by simpa using Rles.get h.2 i (by simpa using h1) (by simpa using h2)
 | [],[],_,i,h,_=>by simp at h
 | [],_ :: _,h,_,_,_=>h.elim
 | _ :: _,[],h,_,_,_=>h.elim
theorem FnC.weak {P:Program} {f:FuncId} {args args' : List PV} {r:PV} (h:FnC P f args r) (hs:Rles args' args):FnC P f args' r:=by
 refine ⟨h.1,fun okA w vals h1 h2 h3=>h.2 okA w vals h1 (h2.trans hs.len) fun i hi=>?_⟩
 have:=hs.len
 exact hs.get i (by omega) hi _ _ _ (h3 i (by omega))
end Go.Proofs.Ytneglephfhiamaa

set_option linter.all false
namespace Go.Proofs.Ytneglephfhiamaa
open Go.Pv
theorem Rle.nn_mid {a b c:List PV} : Rle (.nn [.list a,.nn b,.list c]) (.nn [.list a,.list b,.list c]):=fun ok w v h=>by
 cases h with
 | nn _ k off sz vs hb hsz hc hr =>
  refine .nn [.list a,.list b,.list c] k off 1 vs hb (by simp [PV.cells]) (fun i hc'=>hc i (by simpa [flat,PV.cells] using hc')) fun i hcl=>?_
  have h0:=hr 0 (by simp [flat,PV.cells])
  have h1:=hr 1 (by simp [flat,PV.cells])
  have h2:=hr 2 (by simp [flat,PV.cells])
  match i,hcl with
  | 0,_=>exact h0
  | 1,_=>exact Reads.nn_list h1
  | 2,_=>exact h2
theorem concat3_c (a:List Int) (x:Int) (c:List Int) (h:a.length + 1 + c.length≤1000000000):FnC Try.prog 67 [.nn [.list (il a),.nn [.int .i64 x],.list (il c)]] (.list (il (a++[x]++c))):=by
 have:=concat_c [a,[x],c] (by simp; omega) (by simp)
 have e:[a,[x],c].flatten=a++[x]++c:=by simp
 rw [e] at this
 exact FnC.weak this ⟨Rle.nn_mid,trivial⟩
section
variable {step:Nat→Int→Option Nat} {lst:List Nat} {f:Wy}
def bL (step:Nat→Int→Option Nat) (f:Wy) (v:Nat) (xs:List Int):List (List Int):=(((xs.filter fun x=>decide (0 < x)).map fun x=>(v,x)).map (bw step f)).filter fun w=>decide (0 < w.length)
theorem basS_take {i:Nat} (h:i < lst.length):basS step (lst.take (i + 1)) f=basS step (lst.take i) f++bL step f (lst.getD i 0) (ltS step (lst.getD i 0)):=by
 unfold basS bL PE
 have:lst.take (i + 1)=lst.take i++[lst.getD i 0]:=take_snoc h
 rw [this,List.flatMap_append,List.map_append,List.filter_append]
 simp
theorem bL_snoc (v:Nat) (xs:List Int) (x:Int):bL step f v (xs++[x])=bL step f v xs++(if 0 < x then (if 0 < (bw step f (v,x)).length then [bw step f (v,x)] else []) else []):=by
 unfold bL
 rw [List.filter_append,List.map_append,List.map_append,List.filter_append]
 congr 1
 by_cases h:0 < x
 ·by_cases h2:0 < (bw step f (v,x)).length
  ·simp [h,h2]
  ·simp [h,h2]
 ·simp [h]
end
section
variable {step:Nat→Int→Option Nat} {lst:List Nat} {f:Wy}
theorem way_len (g:GT step lst f) {u:Nat} (hu:u∈lst):(wy f u).length < lst.length:=by
 have go:∀ n j,j≤n→j < lst.length→(wy f (lst.getD j 0)).length≤j:=by
  intro n
  induction n with
  | zero =>
   intro j hj hl
   obtain rfl:j=0:=by omega
   rw [g.ix0.2,g.wy0]; exact Nat.le_refl _
  | succ n ih =>
   intro j hj hl
   by_cases h:j=0
   ·exact ih j (by omega) hl
   obtain ⟨i,x,a1,a2,a3⟩:=g.par hl (by omega)
   have:=ih i (by omega) (by omega)
   rw [a2,List.length_append,List.length_singleton]; omega
 obtain ⟨j,hj,rfl⟩:=ix_of hu
 have:=go j j (Nat.le_refl _) hj
 omega
end
section
variable {G:List Mp} {U:List Int}
set_option maxHeartbeats 4000000 in
set_option maxRecDepth 20000 in
theorem basis_e (w0:WG G U) (hp:0 < G.length) (hs:SymW G U []) (hk:G.length≤10000001) :
  FnE Try.prog 49 [.ptr 0 0] (GB G U) (fun r H'=>∃ (lst:List Nat) (f:Wy) (U' : List Int),r = .p (.list (ll (basS (stR G U) lst f)))∧H' = GB G U'∧GT (stR G U) lst f∧(∀ u∈lst,u < G.length∧rV U u=u)∧∀ u∈lst,∀ w,runW (stR G U) 0 w=some u→(wy f u).length≤w.length):=by
 obtain ⟨Post,hP⟩:∃ Post:AV→Heap→Prop,Post=(fun r H'=>∃ (lst:List Nat) (f:Wy) (U' : List Int),r = .p (.list (ll (basS (stR G U) lst f)))∧H' = GB G U'∧GT (stR G U) lst f∧(∀ u∈lst,u < G.length∧rV U u=u)∧∀ u∈lst,∀ w,runW (stR G U) 0 w=some u→(wy f u).length≤w.length):=⟨_,rfl⟩
 rw [← hP]
 obtain ⟨st,hst⟩:∃ st,stR G U=st:=⟨_,rfl⟩
 rw [hst] at hP
 refine fne_of tab_ok Try.func49 rfl (by kernel_rfl) (by rw [Try.ntmps49]; exact Nat.le_add_left 1 _) ?_; rw [Try.ntmps49]; simp only [ancs,entA,List.length_cons,List.length_nil,List.cons_append,List.nil_append,Nat.reduceAdd,Nat.zero_add]
 have hYl:(ancs 0 (GB G U).length).length=G.length + 3:=by rw [ancs_length,GB_len]
 have hXs0:∀ L,G.length + 3≤L→∀ b∈ancs 0 (GB G U).length,hsc L b=true:=fun L hL b hb=>ancs_hsc (by rw [GB_len]; omega) b hb
 generalize ancs 0 (GB G U).length=X at hYl hXs0 ⊢
 obtain ⟨n0,hn0⟩:∃ n0,G.length + 3 + (G.length + 3)=n0:=⟨_,rfl⟩
 have hBl:∀ U1,(GB G U1++X).length=n0:=fun U1=>by rw [List.length_append,GB_len,hYl]; exact hn0
 have hg0:∀ (V:List Int) (a:Blk) (R:Heap),hget (GB G V++(X++a :: R)) n0=a:=fun V a R=>by
  rw [← List.append_assoc,hget_app2 (by rw [hBl]; exact Nat.le_refl _),hBl,Nat.sub_self]; rfl
 have hg1:∀ (V:List Int) (a b:Blk) (R:Heap),hget (GB G V++(X++a :: b :: R)) (n0 + 1)=b:=fun V a b R=>by
  rw [← List.append_assoc,hget_app2 (by rw [hBl]; omega),hBl,Nat.add_sub_cancel_left]; rfl
 have hs1:∀ (V:List Int) (a b c:Blk) (R:Heap),hset (GB G V++(X++a :: b :: R)) (n0 + 1) c=GB G V++(X++a :: c :: R):=fun V a b c R=>by
  rw [← List.append_assoc,hset_eq,List.set_append_right _ _ (by rw [hBl]; omega),hBl,Nat.add_sub_cancel_left,List.append_assoc]; rfl
 have hL:∀ (V:List Int) (R:Heap),(GB G V++(X++R)).length=n0 + R.length:=fun V R=>by
  rw [← List.append_assoc,List.length_append,hBl]
 have hgw:∀ (V:List Int) (f:Wy) (R:Heap),hget (GB G V++(X++wayB f :: R)) n0 = .mp .i64 (fun z=>(f z).isSome) (fun z=>.list (il ((f z).getD []))):=fun V f R=>hg0 V _ R
 have hBs1:∀ (V:List Int) (f:Wy) (M:Nat),n0≤M→∀ b∈(GB G V++(X++[wayB f])),hsc M b=true:=fun V f M hM b hb=>by
  rw [← List.append_assoc] at hb
  rcases List.mem_append.1 hb with hb | hb
  ·exact GB_hscX (by omega) (hXs0 _ (by omega)) b hb
  ·rw [List.mem_singleton] at hb; subst hb; rfl
 have hBs:∀ (V:List Int) (f:Wy) (c:List PV),∀ b∈(GB G V++(X++[wayB f,.own (opl c)])),hsc (n0 + 2) b=true:=fun V f c b hb=>by
  rw [show GB G V++(X++[wayB f,Blk.own (opl c)])=(GB G V++(X++[wayB f]))++[Blk.own (opl c)] by simp] at hb
  rcases List.mem_append.1 hb with hb | hb
  ·exact hBs1 V f _ (by omega) b hb
  ·rw [List.mem_singleton] at hb; subst hb
   exact List.all_eq_true.2 fun x hx=>(List.all_eq_true.1 (opl_sc _ _)) x hx
 have hle:∀ {S1 s1:St} (V:List Int) (f:Wy) (c:List PV),S1.n=s1.n→s1.H=GB G V++(X++[wayB f,.own (opl c)])→S1.H=s1.H→(∀ p∈S1.sl,s1.get p.1=p.2∧scA (n0 + 2) p.2=true)→Le (List.range (n0 + 2)) S1 s1:=fun {S1 s1} V f c h1 h2 h3 h4=>by
  have hlen:s1.H.length=n0 + 2:=by rw [h2,hL]; rfl
  rw [← hlen] at h4 ⊢
  exact le_same h1 h3 (fun b hb=>by rw [hlen]; rw [h2] at hb; exact hBs V f c b hb) h4
 refine qm ?_
 refine hk_region fun K hK=>runs_eval tab_ok ?_
 simp only [ev0,evA,evB,evP,fl,gp,tab,simprocAttr]
 refine fin_run trivial (hK _ ?_)<;>clear hK<;>clear K
 refine qa (qm ?_)
 refine hk_regE 1 (runs_cut fun K hK=>?_)
 simp only [List.take_succ_cons,List.take_zero]
 refine runs_eval tab_ok ?_
 simp only [ev0,evA,evB,evP,fl,gp,tab,simprocAttr]
 refine fin_run trivial (hK _ ?_)<;>clear hK<;>clear K
 refine ⟨_,_,rfl,rfl,by simp only [dstOk,Nat.reduceLT],reach_E (X:=X) rfl rfl w0 hp hs (by omega) rfl rfl,fun av H' hO=>?_⟩
 obtain ⟨lst,f,U1,rfl,rfl,w1,r1,g,hrt,hf⟩:=hO
 rw [hst] at g hf
 refine runs_cut fun K hK=>?_
 simp only [List.drop_succ_cons,List.drop_zero,hYl,hn0]
 refine runs_eval tab_ok ?_
 simp only [ev0,evA,evB,evP,fl,gp,tab,simprocAttr]
 refine fin_run trivial (hK _ ?_)<;>clear hK<;>clear K
 refine qa (qm ?_)
 refine hk_region fun K hK=>runs_eval tab_ok ?_
 simp only [ev0,evA,evB,evP,fl,gp,tab,simprocAttr]
 refine fin_run trivial (hK _ ?_)<;>clear hK<;>clear K
 refine qa (qm (qm ?_))
 refine hk_own0 5 rfl ?_
 simp only [hL,List.append_assoc,List.cons_append,List.nil_append,List.length_cons,List.length_nil,Nat.zero_add]
 refine hk_region fun K hK=>runs_eval tab_ok ?_
 simp only [ev0,evA,evB,evP,fl,gp,tab,simprocAttr,il_length,List.length_map]
 refine fin_run trivial (hK _ ?_)<;>clear hK<;>clear K
 refine qa (ql ?_)
 refine hk_loop (ι:=Nat × List (List Int) × List Int) (fun q=>⟨66,[(0,.ptr 0 0),(4,.mptr n0),(5,.sl (n0 + 1) 0 q.2.1.length),(17,.p (.list (il (lst.map Int.ofNat)))),(18,.p (.int .i64 lst.length)),(19,.p (.int .i64 (q.1:Nat)))],GB G q.2.2++(X++[wayB f,.own (opl (ll q.2.1))])⟩)
  (fun q=>q.1≤lst.length∧q.2.1=basS st (lst.take q.1) f∧q.2.1.length≤53 * q.1∧WG G q.2.2∧∀ u,u < G.length→rV q.2.2 u=rV U u) (fun q=>lst.length - q.1) (0,[],U1) ⟨Nat.zero_le _,rfl,Nat.le_refl _,w1,r1⟩ (List.range (n0 + 2)) (hle U1 f [] rfl rfl rfl (by simp [St.get,lk,scA,sc1,ll])) fun q hq=>?_
 obtain ⟨i,b,V⟩:=q
 obtain ⟨q1,q2,q3,w2,r2⟩:=hq
 simp only at q1 q2 q3 w2 r2 ⊢
 have hll:lst.length≤G.length:=nodup_len _ _ g.nd fun x hx=>(hrt x hx).1
 refine qm ?_
 refine hk_region fun K hK=>runs_eval tab_ok ?_
 simp only [ev0,evA,evB,evP,fl,gp,tab,simprocAttr]
 refine fin_run trivial (hK _ ?_)<;>clear hK<;>clear K
 refine qa (qm ?_)
 refine hk_cond rfl (fun hC1=>?_) (fun hC1=>?_)
 ·(try simp only [nhs] at hC1)
  have hi:i < lst.length:=by omega
  obtain ⟨v,hv⟩:∃ v,lst.getD i 0=v:=⟨_,rfl⟩
  have hvm:v∈lst:=hv ▸ mem_ix hi
  obtain ⟨hvl,hvr⟩:=hrt v hvm
  have hgl:(lst.map Int.ofNat).getD i 0=(v:Int):=by
   rw [← hv,List.getD_eq_getElem?_getD,List.getD_eq_getElem?_getD,List.getElem?_map,List.getElem?_eq_getElem hi]; rfl
  have hil:i < (lst.map Int.ofNat).length:=by simpa using hi
  refine qh (qa (qm (ql (qm ?_))))
  refine hk_region fun K hK=>runs_eval tab_ok ?_
  simp only [ev0,evA,evB,evP,fl,gp,tab,simprocAttr,il_length,List.length_map,il_get hil,hgl]
  refine fin_run ?_ (hK _ ?_)<;>clear hK<;>clear K
  ·omega
  refine qa (qm ?_)
  refine hk_region fun K hK=>runs_eval tab_ok ?_
  simp only [ev0,evA,evB,evP,fl,gp,tab,simprocAttr]
  refine fin_stop ?_ (runs_letters (U:=V) (X:=X++[wayB f,.own (opl (ll b))]) w2 (by omega) (v:=v) hvl rfl rfl rfl rfl (by simp only [dstOk,Nat.reduceLT]) (runs_eval tab_ok ?_))
  ·exact trivial
  simp only [ev0,evA,evB,evP,fl,gp,tab,simprocAttr,il_length]
  refine fin_run trivial (hK _ ?_)<;>clear hK<;>clear K
  refine qa (ql ?_)
  obtain ⟨L,hLd⟩:∃ L,lts (gm G v)=L:=⟨_,rfl⟩
  have hLl:L.length≤53:=hLd ▸ lts_len _
  have hLs:ltS st v=L:=by rw [← hst,← lts_ltS ⟨hvl,hvr⟩]; exact hLd
  rw [hLd]
  refine hk_loop (ι:=Nat × List (List Int) × List Int) (fun q=>⟨66,[(0,.ptr 0 0),(4,.mptr n0),(5,.sl (n0 + 1) 0 q.2.1.length),(7,.p (.int .i64 (v:Nat))),(17,.p (.list (il (lst.map Int.ofNat)))),(18,.p (.int .i64 lst.length)),(19,.p (.int .i64 (i:Nat))),(25,.p (.list (il L))),(26,.p (.int .i64 L.length)),(27,.p (.int .i64 (q.1:Nat)))],GB G q.2.2++(X++[wayB f,.own (opl (ll q.2.1))])⟩)
   (fun q=>q.1≤L.length∧q.2.1=b++bL st f v (L.take q.1)∧q.2.1.length≤53 * i + q.1∧WG G q.2.2∧∀ u,u < G.length→rV q.2.2 u=rV U u) (fun q=>L.length - q.1) (0,b,V) ⟨Nat.zero_le _,by simp [bL],q3,w2,r2⟩ (List.range (n0 + 2)) (hle V f (ll b) rfl rfl rfl (by simp [St.get,lk,scA,sc1])) fun q hq=>?_
  obtain ⟨j,c,V2⟩:=q
  obtain ⟨j1,j2,j3,w3,r3⟩:=hq
  simp only at j1 j2 j3 w3 r3 ⊢
  refine qm ?_
  refine hk_region fun K hK=>runs_eval tab_ok ?_
  simp only [ev0,evA,evB,evP,fl,gp,tab,simprocAttr]
  refine fin_run trivial (hK _ ?_)<;>clear hK<;>clear K
  refine qa (qm ?_)
  refine hk_cond rfl (fun hC2=>?_) (fun hC2=>?_)
  ·(try simp only [nhs] at hC2)
   have hj:j < L.length:=by omega
   obtain ⟨x,hx⟩:∃ x,L.getD j 0=x:=⟨_,rfl⟩
   have hxm:x∈L:=by rw [← hx,List.getD_eq_getElem?_getD,List.getElem?_eq_getElem hj]; exact List.getElem_mem hj
   have hLt:L.take (j + 1)=L.take j++[x]:=by rw [take_snoc (d:=0) hj,hx]
   have hsn:=bL_snoc (step:=st) (f:=f) v (L.take j) x
   rw [← hLt] at hsn
   refine qh (qa (qm (ql (qm ?_))))
   refine hk_region fun K hK=>runs_eval tab_ok ?_
   simp only [ev0,evA,evB,evP,fl,gp,tab,simprocAttr,il_length,il_get hj,hx]
   refine fin_run ?_ (hK _ ?_)<;>clear hK<;>clear K
   ·omega
   refine qa (qm (qm ?_))
   refine hk_region fun K hK=>runs_eval tab_ok ?_
   simp only [ev0,evA,evB,evP,fl,gp,tab,simprocAttr]
   refine fin_run trivial (hK _ ?_)<;>clear hK<;>clear K
   refine qa ?_
   refine hk_cond rfl (fun hC3=>?_) (fun hC3=>?_)
   ·(try simp only [nhs] at hC3)
    have hx0:x < 0:=by simpa using hC3
    refine qj (qc (qf (qa ?_)))
    refine hk_region fun K hK=>runs_eval tab_ok ?_
    simp only [ev0,evA,evB,evP,fl,gp,tab,simprocAttr]
    refine fin_run ?_ (hK _ ?_)<;>clear hK<;>clear K
    ·(first|exact trivial|omega|(simp only [In64] at *; omega)|(simp [In64] at *; omega)|(simp_all; done)|skip)
    refine qa ?_
    rw [if_neg (by omega),List.append_nil] at hsn
    exact ⟨(j + 1,c,V2),List.range (n0 + 2),⟨by simp only; omega,by simp only; rw [hsn]; exact j2,by simp only; omega,w3,r3⟩,by simp only; omega,hle V2 f (ll c) rfl rfl rfl (by simp [St.get,lk,scA,sc1])⟩
   ·(try simp only [nhs] at hC3)
    have hx1:0 < x:=by
     have h1:¬ x < 0:=by simpa using hC3
     obtain ⟨d,hd⟩:=Option.isSome_iff_exists.1 (mem_ltS.1 (hLs ▸ hxm)).2
     have:=g.nz hvm hd
     omega
    rw [if_pos hx1] at hsn
    have hxs:(gm G v x).isSome=true:=(mem_lts.1 (hLd ▸ hxm)).2
    obtain ⟨cc,hc⟩:=Option.isSome_iff_exists.1 hxs
    obtain ⟨e0,e1,e2⟩:=w3.ent v x cc hvl hc
    obtain ⟨d,rfl⟩:=Int.eq_ofNat_of_zero_le e0
    rw [Int.toNat_natCast] at e1
    obtain ⟨V3,hV3⟩:∃ V3,ofU V2 d=V3:=⟨_,rfl⟩
    have w4:WG G V3:=hV3 ▸ w3.of e1
    have r4:∀ u,u < G.length→rV V3 u=rV U u:=fun u hu=>by rw [← hV3,w3.ofr e1 u hu]; exact r3 u hu
    obtain ⟨u,hu⟩:∃ u,rV V2 d=u:=⟨_,rfl⟩
    have hsu:st v x=some u:=by
     rw [← hst,stR_of ⟨hvl,hvr⟩]
     unfold stp
     rw [hc,← hu,r3 d e1]; rfl
    have hum:u∈lst:=g.cl v hvm x u hsu
    have fv:f (v:Int)=some (wy f v):=by
     obtain ⟨l,hl⟩:=Option.isSome_iff_exists.1 ((g.dom v).2 ⟨v,hvm,rfl⟩)
     unfold wy; rw [hl]; rfl
    have fu:f (u:Int)=some (wy f u):=by
     obtain ⟨l,hl⟩:=Option.isSome_iff_exists.1 ((g.dom u).2 ⟨u,hum,rfl⟩)
     unfold wy; rw [hl]; rfl
    have lv:(wy f v).length≤10000001:=by
     have:=way_len g hum
     have:=way_len g hvm
     omega
    have lu:(wy f u).length≤10000001:=by
     have:=way_len g hum
     omega
    have gM:∀ Y:Heap,hget (G.map mpB++Y) v=mpB (gm G v):=fun Y=>hget_G hvl
    have hGBk:∀ (Y:Heap),GB G V2++Y = .own [.sl 1 0 G.length,.sl 2 0 V2.length] :: .own (mps G.length) :: .own (ol V2) :: (G.map mpB++Y):=fun Y=>rfl
    refine qh (qa (qm ?_))
    rw [hGBk]
    refine hk_region fun K hK=>runs_eval tab_ok ?_
    simp only [ev0,evA,evB,evP,fl,gp,tab,simprocAttr,mps_get hvl,gM,mpB,hc,Option.isSome_some,cond_true,Option.getD_some,Int.ofNat_eq_natCast,mps_len,Int.toNat_natCast]
    refine fin_stop ?_ (runs_of (U:=V2) (X:=X++[wayB f,.own (opl (ll c))]) w3 (by omega) (v:=d) e1 rfl rfl (hGBk _).symm rfl (by simp only [dstOk,Nat.reduceLT]) (runs_eval tab_ok ?_))
    ·exact ⟨⟨by omega,by omega⟩,hvl⟩
    simp only [hV3,hu]
    simp only [ev0,evA,evB,evP,fl,gp,tab,simprocAttr]
    refine fin_run trivial (hK _ ?_)<;>clear hK<;>clear K
    refine qa (qm ?_)
    obtain ⟨bw0,hbw0⟩:∃ b,wy f v++[x]++back (wy f u)=b:=⟨_,rfl⟩
    have hb1:bw st f (v,x)=short bw0:=by unfold bw; rw [tgt_of hsu]; simp only [hbw0]
    have hokb:Ok bw0:=by
     rw [← hbw0]
     exact ((g.ok v hvm).app fun y hy=>by rw [List.mem_singleton] at hy; subst hy; exact g.lt v hvm _ _ hsu).app (g.ok u hum).back
    have hbl:bw0.length≤30000000:=by rw [← hbw0]; simp [back_len]; omega
    have hbc:=concat3_c (wy f v) x (back (wy f u)) (by rw [back_len]; omega)
    rw [hbw0] at hbc
    have hsb:(short bw0).length≤30000000:=Nat.le_trans (short_len _) hbl
    refine hk_draw2 mixed fun K hK=>runs2_eval tab_ok ?_
    simp only [evD,ev0,evA,evB,evP,fl,gp,tab,simprocAttr,hgw,fv,fu,Option.isSome_some,cond_true,Option.getD_some]
    refine fin2_stop trivial (runs2_call (back_c (wy f u) (by omega) (g.ok u hum).sm) rfl rfl rfl rfl (by simp only [dstOk,Nat.reduceLT]) (by repeat (first|exact trivial|constructor)) (runs2_eval tab_ok ?_))
    simp only [evD,ev0,evA,evB,evP,fl,gp,tab,simprocAttr,hgw,fv,fu,Option.isSome_some,cond_true,Option.getD_some]
    refine fin2_stop trivial (runs2_call (hbc) rfl rfl rfl rfl (by simp only [dstOk,Nat.reduceLT]) (by repeat (first|exact trivial|constructor)) (runs2_eval tab_ok ?_))
    simp only [evD,ev0,evA,evB,evP,fl,gp,tab,simprocAttr,hgw,fv,fu,Option.isSome_some,cond_true,Option.getD_some]
    refine fin2_stop trivial (runs2_call (short_c bw0 (by omega) hokb.sm) rfl rfl rfl rfl (by simp only [dstOk,Nat.reduceLT]) (by repeat (first|exact trivial|constructor)) (runs2_eval tab_ok ?_))
    simp only [evD,ev0,evA,evB,evP,fl,gp,tab,simprocAttr,hgw,fv,fu,Option.isSome_some,cond_true,Option.getD_some]
    refine fin2_run ?_ (hK _ _ (by first|kernel_rfl|rfl) ?_)<;>clear hK<;>clear K
    ·(first|exact trivial|omega|(simp only [In64] at *; omega)|(simp [In64] at *; omega)|(simp_all; done)|skip)
    refine qa (qm ?_)
    refine hk_region fun K hK=>runs_eval tab_ok ?_
    simp only [ev0,evA,evB,evP,fl,gp,tab,simprocAttr,il_length]
    refine fin_run trivial (hK _ ?_)<;>clear hK<;>clear K
    refine qa ?_
    refine hk_cond rfl (fun hC4=>?_) (fun hC4=>?_)
    ·(try simp only [nhs] at hC4)
     have h4:0 < (short bw0).length:=by simpa using hC4
     refine hk_region fun K hK=>runs_eval tab_ok ?_
     simp only [ev0,evA,evB,evP,fl,gp,tab,simprocAttr,hg1,hs1,hL]
     refine fin_run ?_ (hK _ ?_)<;>clear hK<;>clear K
     ·exact ⟨List.all_eq_true.2 fun x hx=>(List.all_eq_true.1 (opl_ok (ll_all c))) x (by
       unfold opl at hx ⊢
       obtain ⟨y,hy,rfl⟩:=List.mem_map.1 hx
       exact List.mem_map.2 ⟨y,List.mem_of_mem_take hy,rfl⟩),Nat.le_refl _,by omega,by omega⟩
     refine qd (qa ?_)
     refine hk_region fun K hK=>runs_eval tab_ok ?_
     simp only [ev0,evA,evB,evP,fl,gp,tab,simprocAttr]
     refine fin_run ?_ (hK _ ?_)<;>clear hK<;>clear K
     ·(first|exact trivial|omega|(simp only [In64] at *; omega)|(simp [In64] at *; omega)|(simp_all; done)|skip)
     refine qa ?_
     rw [hb1,if_pos h4] at hsn
     have e2:List.take c.length (ll c)++[PV.list (il (short bw0))]=ll (c++[short bw0]):=by
      rw [List.take_of_length_le (by rw [ll_length]; exact Nat.le_refl _),ll_snoc]
     refine ⟨(j + 1,c++[short bw0],V3),List.range (n0 + 1)++[n0 + 2],⟨by simp only; omega,by simp only; rw [hsn,j2,List.append_assoc],by simp only [List.length_append,List.length_singleton]; omega,w4,r4⟩,by simp only; omega,le_behind (B:=GB G V3++(X++[wayB f])) (c:=opl (ll (c++[short bw0]))) (d:=opl (ll (c++[short bw0]))) rfl (by rw [hL]; rfl) (by simp) (fun b hb=>hBs1 V3 f _ (by omega) b hb) (by omega) (fun b hb=>hBs1 V3 f _ (by omega) b hb) (fun k hk=>?_) ?_ ?_ (opl_sc _ _) ?_⟩
     ·show hget (GB G V3++(X++[wayB f,_])++[_]) k=_
      rw [show ∀ b d:Blk,GB G V3++(X++[wayB f,b])++[d]=(GB G V3++(X++[wayB f]))++[b,d] from fun b d=>by simp]
      exact hget_app1 (by rw [hL]; simpa using hk)
     ·rw [← e2]
      show hget (GB G V3++(X++[wayB f,_])++[_]) (n0 + 2)=_
      rw [hget_app2 (by rw [hL]; exact Nat.le_refl _),hL]; simp [hget]
     ·rw [opl_ren,List.take_of_length_le (Nat.le_refl _)]
     ·have hq3:(List.range (n0 + 1)++[n0 + 2]).getD (n0 + 1) 0=n0 + 2:=by
       rw [List.getD_eq_getElem?_getD,List.getElem?_append_right (by simp)]; simp
      have hq0:(List.range (n0 + 1)++[n0 + 2]).getD 0 0=0:=by
       rw [List.getD_eq_getElem?_getD,List.getElem?_append_left (by simp)]; simp
      have hqn:(List.range (n0 + 1)++[n0 + 2]).getD n0 0=n0:=by
       rw [List.getD_eq_getElem?_getD,List.getElem?_append_left (by simp)]; simp
      refine ⟨?_,?_,?_,?_,?_,?_,rfl,rfl,rfl,rfl,rfl,rfl,rfl,rfl,rfl,rfl,rfl,rfl,?_,rfl,trivial⟩
      ·show AV.ptr 0 0=Go.Pv.ren _ _
       simp only [Go.Pv.ren,ren1,hq0]
      ·simp [scA,sc1]
      ·show AV.mptr n0=Go.Pv.ren _ _
       simp only [Go.Pv.ren,ren1,hqn]
      ·simp [scA,sc1]; omega
      ·show AV.sl (n0 + 2) 0 (c.length + 1)=Go.Pv.ren _ _
       simp only [Go.Pv.ren,ren1,hq3,List.length_append,List.length_singleton]
      ·simp [scA,sc1]
      ·rfl
    ·(try simp only [nhs] at hC4)
     refine qh (qd (qa ?_))
     refine hk_region fun K hK=>runs_eval tab_ok ?_
     simp only [ev0,evA,evB,evP,fl,gp,tab,simprocAttr]
     refine fin_run ?_ (hK _ ?_)<;>clear hK<;>clear K
     ·(first|exact trivial|omega|(simp only [In64] at *; omega)|(simp [In64] at *; omega)|(simp_all; done)|skip)
     refine qa ?_
     have h4:¬ 0 < (short bw0).length:=by simpa using hC4
     rw [hb1,if_neg h4,List.append_nil] at hsn
     exact ⟨(j + 1,c,V3),List.range (n0 + 2),⟨by simp only; omega,by simp only; rw [hsn]; exact j2,by simp only; omega,w4,r4⟩,by simp only; omega,hle V3 f (ll c) rfl rfl rfl (by simp [St.get,lk,scA,sc1])⟩
  ·(try simp only [nhs] at hC2)
   refine qj (qc (qc (qf (qd (qa ?_)))))
   refine hk_region fun K hK=>runs_eval tab_ok ?_
   simp only [ev0,evA,evB,evP,fl,gp,tab,simprocAttr]
   refine fin_run ?_ (hK _ ?_)<;>clear hK<;>clear K
   ·(first|exact trivial|omega|(simp only [In64] at *; omega)|(simp [In64] at *; omega)|(simp_all; done)|skip)
   refine qa ?_
   have hjl:j=L.length:=by omega
   have hbt:=basS_take (step:=st) (f:=f) hi
   rw [hv,hLs,← q2] at hbt
   exact ⟨(i + 1,c,V2),List.range (n0 + 2),⟨by simp only; omega,by simp only; rw [hbt,j2,hjl,List.take_length],by simp only; omega,w3,r3⟩,by simp only; omega,hle V2 f (ll c) rfl rfl rfl (by simp [St.get,lk,scA,sc1])⟩
 ·(try simp only [nhs] at hC1)
  refine qj (qc (qc (qf (qa (qm ?_)))))
  refine hk_sealp 5 (n0 + 1) (l:=ll b) (ll_all b) (by show AV.sl (n0 + 1) 0 b.length=_; rw [ll_length]) (hg1 _ _ _ _) ?_
  refine hk_region fun K hK=>runs_eval tab_ok ?_
  simp only [ev0,evA,evB,evP,fl,gp,tab,simprocAttr]
  refine fin_run trivial (hK _ ?_)<;>clear hK<;>clear K
  refine qa (qk ?_)
  simp only [Try.results49,PostG,endG,rvsA,rvA,mkTup,ev0,evA,evB,evP,fl,gp,tab,simprocAttr]
  have hie:i=lst.length:=by omega
  rw [hie,List.take_length] at q2
  refine ⟨.p (.list (ll b)),GB G V,by rw [hP]; exact ⟨lst,f,V,by rw [q2],rfl,g,hrt,hf⟩,List.range n0,rfl,rfl,?_⟩
  refine le_stay (B:=GB G V++X) rfl (hBl V) rfl (fun b hb=>GB_hscX (by omega) (hXs0 _ (by omega)) b hb) (fun k hk=>?_) trivial
  show hget (hset (GB G V++(X++[wayB f,_])) (n0 + 1) _) k=_
  rw [hs1,← List.append_assoc]
  exact hget_app1 (by rw [hBl]; exact hk)
end
end Go.Proofs.Ytneglephfhiamaa

set_option linter.all false
namespace Go.Proofs.Ytneglephfhiamaa
open Go.Pv
open Go.RowKit
theorem call_doesES {P:Program} {s:St} {o:Oper} {fo:Operand} {args:Array Operand} {ts:Array TypeId} (ho:o.op = .call { callee:=.value fo,args:=args,argTypes:=ts }) {g:FuncId} {cap:List PV} (hfo:s.ev fo = .p (.fn g cap)) {avs:List AV} {H0 Q:Heap} {Post:AV→Heap→Prop}
  (hc:FnE P g avs H0 Post) (hH:s.H=Q++H0.map (Blk.ren (List.range' Q.length H0.length))) (hargs:argsM s.H (List.range' Q.length H0.length) (args.toList.map s.ev++cap.map .p) avs) (h1:∀ b∈H0,hsc H0.length b=true) (h2:H0.all notAnc=true) (hsc:∀ r H1,Post r H1→scM r H0 H1=true) :
  DoesE P o s (fun av H'=>∃ r H1,Post r H1∧av=Go.Pv.ren (List.range' Q.length H1.length) r∧H' = Q++H1.map (Blk.ren (List.range' Q.length H1.length))):=by
 have hsl:s.H.length=Q.length + H0.length:=by rw [hH]; simp
 have hle:LeH (List.range' Q.length H0.length) s.H (List.range' Q.length H0.length) H0:=by
  refine leH_at (by simp) fun i hi=>?_
  have e:(List.range' Q.length H0.length).getD i 0=Q.length + i:=by simp [List.getD,List.getElem?_range' hi]
  have eb:hget s.H (Q.length + i)=Blk.ren (List.range' Q.length H0.length) (hget H0 i):=by
   rw [hH,hget_app2 (by omega),Nat.add_sub_cancel_left,hget_eq,List.getD_eq_getElem?_getD,List.getElem?_map,hget_eq,List.getD_eq_getElem?_getD,List.getElem?_eq_getElem hi]; rfl
  have hm:hget H0 i∈H0:=by rw [hget_eq,List.getD_eq_getElem?_getD,List.getElem?_eq_getElem hi]; exact List.getElem_mem hi
  have hb:=h1 _ hm
  have hna:=(List.all_eq_true.1 h2) _ hm
  rw [e]
  revert eb hb hna
  generalize hget H0 i=b
  intro eb hb hna
  cases b with
  | own d =>
   simp only [Blk.ren] at eb
   simp only [LeB,eb]
   refine ⟨?_,List.all_eq_true.2 fun x hx=>scA_mn (by simp) ((List.all_eq_true.1 hb) x hx)⟩
   rw [List.take_of_length_le (by simp)]
  | anc i j=>cases hna
  | dead=>trivial
  | _=>simp only [Blk.ren] at eb; simp only [LeB,eb]
 have:=call_doesE ho hfo hc hargs hle (List.nodup_range' ..) (fun k hk=>by rw [hsl]; have:=List.mem_range'_1.1 hk; omega) h2 hsc
 intro C m a w K R0 R hK
 refine this C m a w K R0 R fun v m' w' av H' ⟨r,H1,e0,e1,e2⟩ R2 hv=>hK v m' w' av H' ⟨r,H1,e0,?_,?_⟩ R2 hv
 ·have hl:H0.length≤H1.length:=by
   have:=hsc r H1 e0
   unfold scM at this
   simp only [Bool.and_eq_true,decide_eq_true_eq] at this
   exact this.1.1.2
  have er:List.range' Q.length H0.length++List.range' s.H.length (H1.length - (List.range' Q.length H0.length).length)=List.range' Q.length H1.length:=by
   rw [List.length_range',hsl,List.range'_append_1]; congr 1; omega
  rw [e1,er]
 ·have hl:H0.length≤H1.length:=by
   have:=hsc r H1 e0
   unfold scM at this
   simp only [Bool.and_eq_true,decide_eq_true_eq] at this
   exact this.1.1.2
  have er:List.range' Q.length H0.length++List.range' s.H.length (H1.length - (List.range' Q.length H0.length).length)=List.range' Q.length H1.length:=by
   rw [List.length_range',hsl,List.range'_append_1]; congr 1; omega
  rw [e2,er,hH]
  obtain ⟨M,hM⟩:∃ M,H1.map (Blk.ren (List.range' Q.length H1.length))=M:=⟨_,rfl⟩
  have hMl:M.length=H1.length:=by rw [← hM]; simp
  rw [hM]
  have:=putM_pre0 (H0.map (Blk.ren (List.range' Q.length H0.length))) (M.take H0.length) Q [] (M.drop H0.length) (by simp; omega)
  rw [List.append_nil,List.take_append_drop,List.append_nil,List.length_map,List.append_assoc,List.take_append_drop] at this
  exact this
section
variable {G:List Mp} {U:List Int}
theorem GB_scM {v:PV} {U' : List Int} : scM (.p v) (GB G U) (GB G U')=true:=(scP_M (n:=(GB G U).length) GB_na rfl (GB_scP (v:=v) rfl)).1
theorem basis_E {s:St} {o:Oper} {fo:Operand} {args:Array Operand} {ts:Array TypeId} {Q:Heap} (ho:o.op = .call { callee:=.value fo,args:=args,argTypes:=ts }) (hfo:s.ev fo = .p (.fn 49 []))
  (w0:WG G U) (hp:0 < G.length) (hs:SymW G U []) (hk:G.length≤10000001) (hH:s.H=Q++(GB G U).map (Blk.ren (List.range' Q.length (GB G U).length))) (hargs:args.toList.map s.ev++([]:List PV).map .p=[.ptr Q.length 0]) :
  DoesE Try.prog o s (fun av H'=>∃ (lst:List Nat) (f:Wy) (R:Heap),av = .p (.list (ll (basS (stR G U) lst f)))∧H' = Q++R∧GT (stR G U) lst f∧(∀ u∈lst,u < G.length∧rV U u=u)∧∀ u∈lst,∀ w,runW (stR G U) 0 w=some u→(wy f u).length≤w.length):=by
 have h0:(List.range' Q.length (GB G U).length).getD 0 0=Q.length:=by
  rw [List.getD_eq_getElem?_getD,List.getElem?_range' (by rw [GB_len]; omega)]; simp
 have:=call_doesES ho hfo (basis_e w0 hp hs hk) hH (by
  rw [hargs]
  refine ⟨⟨?_,?_⟩,trivial⟩
  ·simp only [Go.Pv.ren,ren1,h0]
  ·rw [List.length_range',GB_len]; simp [scA,sc1]) (by rw [GB_len]; exact GB_hsc (Nat.le_refl _)) GB_na (by
  rintro r H1 ⟨lst,f,U',rfl,rfl,_⟩
  exact GB_scM)
 intro C m a w K R0 R hK
 refine this C m a w K R0 R fun v m' w' av H' ⟨r,H1,⟨lst,f,U',e0,e1,e2⟩,e3,e4⟩ R2 hv=>hK v m' w' av H' ⟨lst,f,_,?_,e4,e2⟩ R2 hv
 rw [e3,e0]; rfl
end
def BasO (L:List (List Int)) (r:AV):Prop:=
 ((ckL L).1 ≠ 0∧r = .p (.tup [.nil,fl (ckL L)]))∨((ckL L).1=0∧∃ st lst f,IsG (L.map short) st lst f∧lst.length≤10000001∧r = .p (.tup [.list (ll (basS st lst f)),fl (0,0)]))
set_option maxHeartbeats 4000000 in
set_option maxRecDepth 20000 in
theorem Basis_e (L:List (List Int)) (hl:L.length≤1000000000) (hw:∀ w∈L,w.length≤1000000000) (hgood:(ckL L).1=0→Good L) :
  FnE Try.prog 15 [.p (.list (ll L))] [] (fun r H'=>BasO L r∧H' = []):=by
 obtain ⟨Post,hP⟩:∃ Post:AV→Heap→Prop,Post=(fun r H'=>BasO L r∧H' = []):=⟨_,rfl⟩
 rw [← hP]
 refine fne_of tab_ok Try.func15 rfl (by kernel_rfl) (by rw [Try.ntmps15]; exact Nat.le_add_left 1 _) ?_; rw [Try.ntmps15]; simp only [ancs,entA,List.length_cons,List.length_nil,List.cons_append,List.nil_append,Nat.reduceAdd,Nat.zero_add]
 refine qm ?_
 refine hk_region fun K hK=>runs_eval tab_ok ?_
 simp only [ev0,evA,evB,evP,fl,gp,tab,simprocAttr]
 refine fin_run ?_ (hK _ ?_)<;>clear hK<;>clear K
 ·(first|exact trivial|omega|(simp only [In64] at *; omega)|(simp [In64] at *; omega)|(simp_all; done)|skip)
 refine qa (qm (qm ?_))
 refine hk_region fun K hK=>runs_eval tab_ok ?_
 simp only [ev0,evA,evB,evP,fl,gp,tab,simprocAttr]
 refine fin_stop trivial (runs_call (checkL_c L hl hw) rfl rfl rfl (by simp only [dstOk,Nat.reduceLT]) (by repeat (first|exact trivial|constructor)) (runs_eval tab_ok ?_))
 simp only [ev0,evA,evB,evP,fl,gp,tab,simprocAttr]
 refine fin_run ?_ (hK _ ?_)<;>clear hK<;>clear K
 ·(first|exact trivial|omega|(simp only [In64] at *; omega)|(simp [In64] at *; omega)|(simp_all; done)|skip)
 refine qa (qm ?_)
 refine hk_region fun K hK=>runs_eval tab_ok ?_
 simp only [ev0,evA,evB,evP,fl,gp,tab,simprocAttr]
 refine fin_run ?_ (hK _ ?_)<;>clear hK<;>clear K
 ·(first|exact trivial|omega|(simp only [In64] at *; omega)|(simp [In64] at *; omega)|(simp_all; done)|skip)
 refine qa ?_
 refine hk_cond rfl (fun hC1=>?_) (fun hC1=>?_)
 ·(try simp only [nhs] at hC1)
  have h1:(ckL L).1 ≠ 0:=hC1
  refine qm ?_
  refine hk_draw mixed (by kernel_rfl) fun K hK=>runs_eval tab_ok ?_
  simp only [ev0,evA,evB,evP,fl,gp,tab,simprocAttr]
  refine fin_run ?_ (hK _ ?_)<;>clear hK<;>clear K
  ·(first|exact trivial|omega|(simp only [In64] at *; omega)|(simp [In64] at *; omega)|(simp_all; done)|skip)
  refine qa (qk (qb ?_))
  simp only [Try.results15,PostG,endG,rvsA,rvA,mkTup,ev0,evA,evB,evP,fl,gp,tab,simprocAttr]
  all_goals (exact ⟨.p (.tup [.nil,fl (ckL L)]),[],by rw [hP]; exact ⟨.inl ⟨h1,rfl⟩,rfl⟩,[],rfl,rfl,⟨rfl,List.nodup_nil,trivial,trivial⟩⟩)
 ·(try simp only [nhs] at hC1)
  have h1:(ckL L).1=0:=by simpa using hC1
  obtain ⟨g1,g2,g3⟩:=hgood h1
  refine qh (qa (qm ?_))
  refine hk_regEn 2 ⟨1,runs_cut fun K hK=>?_⟩
  simp only [List.take_succ_cons,List.take_zero]
  refine runs_eval tab_ok ?_
  simp only [ev0,evA,evB,evP,fl,gp,tab,simprocAttr]
  refine fin_run trivial (hK _ ?_)<;>clear hK<;>clear K
  refine ⟨_,_,rfl,rfl,by simp only [dstOk,Nat.reduceLT],fold_E rfl rfl L g1 g2 g3 rfl,fun av H' hO=>?_⟩
  obtain ⟨G,U,rfl,rfl,hGl,fi⟩:=hO
  refine ⟨0,runs_cut fun K hK=>?_⟩
  simp only [List.drop_succ_cons,List.drop_zero,List.take_zero]
  refine runs_eval tab_ok ?_
  simp only [ev0,evA,evB,evP,fl,gp,tab,simprocAttr]
  refine fin_run trivial (hK _ ?_)<;>clear hK<;>clear K
  refine ⟨_,_,rfl,rfl,by simp only [dstOk,Nat.reduceLT],basis_E (Q:=[_,_]) rfl rfl fi.wg fi.pos fi.sym hGl rfl rfl,fun av H' hO=>?_⟩
  obtain ⟨lst,f,R,rfl,rfl,g,hrt,hf⟩:=hO
  have hG:=fi_isG fi g hrt hf
  refine runs_cut fun K hK=>?_
  simp only [List.drop_succ_cons,List.drop_zero]
  refine runs_eval tab_ok ?_
  simp only [ev0,evA,evB,evP,fl,gp,tab,simprocAttr]
  refine fin_run trivial (hK _ ?_)<;>clear hK<;>clear K
  refine qa (qk ?_)
  simp only [Try.results15,PostG,endG,rvsA,rvA,mkTup,ev0,evA,evB,evP,fl,gp,tab,simprocAttr]
  have hll:lst.length≤10000001:=Nat.le_trans (nodup_len _ _ g.nd fun x hx=>(hrt x hx).1) hGl
  exact ⟨.p (.tup [.list (ll (basS (stR G U) lst f)),fl (0,0)]),[],by rw [hP]; exact ⟨.inr ⟨h1,_,_,_,hG,hll,rfl⟩,rfl⟩,[],rfl,rfl,⟨rfl,List.nodup_nil,trivial,trivial⟩⟩
theorem BasO.pure {L:List (List Int)} {r:AV} (h:BasO L r):∃ v,r = .p v:=by
 rcases h with ⟨_,rfl⟩ | ⟨_,_,_,_,_,_,rfl⟩
 ·exact ⟨_,rfl⟩
 ·exact ⟨_,rfl⟩
theorem Basis_E {s:St} {o:Oper} {fo:Operand} {args:Array Operand} {ts:Array TypeId} (ho:o.op = .call { callee:=.value fo,args:=args,argTypes:=ts }) (hfo:s.ev fo = .p (.fn 15 []))
  (L:List (List Int)) (hl:L.length≤1000000000) (hw:∀ w∈L,w.length≤1000000000) (hgood:(ckL L).1=0→Good L) (hargs:args.toList.map s.ev++([]:List PV).map .p=[.p (.list (ll L))]) :
  DoesE Try.prog o s (fun av H'=>BasO L av∧H' = s.H):=by
 have:=call_doesE (ks:=[]) ho hfo (Basis_e L hl hw hgood) (by rw [hargs]; exact ⟨⟨trivial,rfl⟩,trivial⟩) trivial List.nodup_nil (fun k hk=>by cases hk) rfl (by
  rintro r H1 ⟨hb,rfl⟩
  obtain ⟨v,rfl⟩:=hb.pure
  rfl)
 intro C m a w K Q R hK
 refine this C m a w K Q R fun v m' w' av H' ⟨r,H1,⟨e0,e1⟩,e4,e5⟩ R2 hv=>hK v m' w' av H' ⟨?_,?_⟩ R2 hv
 ·obtain ⟨x,rfl⟩:=e0.pure
  rw [e4]; exact e0
 ·rw [e5,e1]
  simp only [List.map_nil,putM,List.append_nil]
noncomputable def rankS (L:List (List Int)):Int × (Int × Int):=if (ckL L).1 ≠ 0 then (0,ckL L) else ((eS (L.map short):Int) + 1 - vS (L.map short),(0,0))
set_option maxHeartbeats 4000000 in
set_option maxRecDepth 20000 in
theorem rank_c (L:List (List Int)) (hl:L.length≤1000000000) (hw:∀ w∈L,w.length≤1000000000) (hgood:(ckL L).1=0→Good L):FnC Try.prog 17 [.list (ll L)] (.tup [.int .i64 (rankS L).1,fl (rankS L).2]):=by
 refine fnc_of tab_ok Try.func17 rfl (by kernel_rfl) (by rw [Try.ntmps17]; exact Nat.le_add_left 1 _) ?_; rw [Try.ntmps17]
 refine qm ?_
 refine hk_region fun K hK=>runs_eval tab_ok ?_
 simp only [ev0,evA,evB,evP,fl,gp,tab,simprocAttr]
 refine fin_run ?_ (hK _ ?_)<;>clear hK<;>clear K
 ·(first|exact trivial|omega|(simp only [In64] at *; omega)|(simp [In64] at *; omega)|(simp_all; done)|skip)
 refine qa (qm ?_)
 refine hk_regE 1 (runs_cut fun K hK=>?_)
 simp only [List.take_succ_cons,List.take_zero]
 refine runs_eval tab_ok ?_
 simp only [ev0,evA,evB,evP,fl,gp,tab,simprocAttr]
 refine fin_run trivial (hK _ ?_)<;>clear hK<;>clear K
 refine ⟨_,_,rfl,rfl,by simp only [dstOk,Nat.reduceLT],Basis_E rfl rfl L hl hw hgood rfl,fun av H' hO=>?_⟩
 obtain ⟨hO,rfl⟩:=hO
 obtain ⟨n,c,b,hav,hn,hc,hb⟩:∃ (n:Nat) (c:Int × Int) (b:PV),av = .p (.tup [b,fl c])∧n=(rankS L).1∧c=(rankS L).2∧((b = .nil∧n=0)∨∃ l,b = .list (ll l)∧l.length=n):=by
  rcases hO with ⟨h1,rfl⟩ | ⟨h1,st,lst,f,hG,_,rfl⟩
  ·exact ⟨0,ckL L,.nil,rfl,by unfold rankS; rw [if_pos h1]; rfl,by unfold rankS; rw [if_pos h1],.inl ⟨rfl,rfl⟩⟩
  ·refine ⟨(basS st lst f).length,(0,0),_,rfl,?_,by unfold rankS; rw [if_neg (fun h=>h h1)],.inr ⟨_,rfl,rfl⟩⟩
   have:=hG.rank
   unfold rankS
   rw [if_neg (fun h=>h h1)]
   simp only; omega
 subst hav
 rw [← hn,← hc]
 refine runs_cut fun K hK=>?_
 simp only [List.drop_succ_cons,List.drop_zero]
 refine runs_eval tab_ok ?_
 simp only [ev0,evA,evB,evP,fl,gp,tab,simprocAttr]
 refine fin_run trivial (hK _ ?_)<;>clear hK<;>clear K
 refine qa (qm ?_)
 rcases hb with ⟨rfl,rfl⟩ | ⟨l,rfl,rfl⟩
 ·refine hk_draw mixed (by kernel_rfl) fun K hK=>runs_eval tab_ok ?_
  simp only [ev0,evA,evB,evP,fl,gp,tab,simprocAttr]
  refine fin_run ?_ (hK _ ?_)<;>clear hK<;>clear K
  ·(first|exact trivial|omega|(simp only [In64] at *; omega)|(simp [In64] at *; omega)|(simp_all; done)|skip)
  refine qa (qk ?_)
  simp only [Try.results17,enA,ev0,evA,evB,evP,fl,gp,tab,simprocAttr]
  all_goals ((first|exact rfl|exact ⟨rfl,rfl⟩|exact ⟨rfl,rfl,rfl⟩|exact ⟨trivial,rfl⟩|exact ⟨Nat.le_refl _,rfl⟩|trivial|(simp; done)))
 ·refine hk_draw mixed (by kernel_rfl) fun K hK=>runs_eval tab_ok ?_
  simp only [ev0,evA,evB,evP,fl,gp,tab,simprocAttr]
  refine fin_run ?_ (hK _ ?_)<;>clear hK<;>clear K
  ·(first|exact trivial|omega|(simp only [In64] at *; omega)|(simp [In64] at *; omega)|(simp_all; done)|skip)
  refine qa (qk ?_)
  simp only [Try.results17,enA,ev0,evA,evB,evP,fl,gp,tab,simprocAttr]
  all_goals ((first|exact rfl|exact ⟨rfl,rfl⟩|exact ⟨rfl,rfl,rfl⟩|exact ⟨trivial,rfl⟩|exact ⟨Nat.le_refl _,rfl⟩|trivial|(simp; done)))
end Go.Proofs.Ytneglephfhiamaa
