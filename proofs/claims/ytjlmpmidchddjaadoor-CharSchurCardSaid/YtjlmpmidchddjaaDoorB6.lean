/-
  Texts of this proof, one behind the other: what each says stands at its head. Conditions: none.
-/
import Derived.Test.YtjlmpmidchddjaaDoorB5
import Derived.Test.YtjlmpmidchddjaaDoorB3
import Derived.Test.YtjlmpmidchddjaaDoorB4
import Derived.Test.YtjlmpmidchddjaaDoorRows
import Derived.Test.YtjlmpmidchddjaaDoorB2
import Derived.ProofKit
import Derived.LaidMore
import Derived.OpenShut
import Derived.Stop.Joined

set_option linter.all false
namespace Go.Proofs.YtjlmpmidchddjaaDoor
open Go.Pv
def clSp (m:List Int) (n e:Nat):List (List (List Int)):=spsR (clP m n e) (clTT m n e) [startR (clN m n e) (clN m n e)] (clN m n e)
def clO (m:List Int) (n e:Nat):Nat:=clI m n e e
def clRw (m:List Int) (n e:Nat) (s:List (List Int)):List Int:=rwI (clP m n e) (chW (clP m n e) (clO m n e) s) (chD (clP m n e) n (clO m n e) (clN m n e) (clJ m n e) (clS m n e) s) (clS m n e) (clN m n e) (clN m n e)
def chT (m:List Int) (n e:Nat):List (List Int):=tabR (clP m n e) n (clO m n e) (clN m n e) (clJ m n e) (clS m n e) (clSp m n e)
theorem chT_perm (m:List Int) (n e:Nat):(chT m n e).Perm ((clSp m n e).map (clRw m n e)):=by
 unfold chT tabR
 refine ((srtL_perm _).symm.map _).trans ?_
 rw [List.map_map]
 exact List.Perm.of_eq (List.map_congr_left fun s _=>rfl)
theorem clRw_len (m:List Int) (n e:Nat) (s:List (List Int)):(clRw m n e s).length=clN m n e:=by simp [clRw,rwI,updR_len]
theorem clRw_rg {n e:Nat} {m:List Int} (h:GT n m n e) (s:List (List Int)):rgp (clP m n e) (clRw m n e s):=by
 obtain ⟨P,p1,p2⟩:=cl_P h
 refine updR_rg (fun t=>emod_rng (by omega) _) fun j=>?_
 rw [List.getD_eq_getElem?_getD,List.getElem?_replicate]
 split
 ·simp only [Option.getD_some]; omega
 simp only [Option.getD_none]; omega
theorem clN_le {n e:Nat} {m:List Int} (h:GT n m n e):0 < clN m n e∧clN m n e≤n:=⟨by have:=(clI_lt h h.2.2.el).1; omega,cstp_len _ _ _⟩
theorem table_c {n e:Nat} {m:List Int} (h:GT n m n e) (hc24:clN m n e≤24):FnC Tryd.prog 11 [gp n m] (.tup [.int .i64 (clP m n e),.list (ll (chT m n e)),fl (0,0)]):=by
 obtain ⟨P,p1,p2⟩:=cl_P h
 have hp3:=P.three
 haveI:NeZero (clP m n e):=⟨by omega⟩
 have G:=h.2.2
 have E:=G.cjb_eqv
 have hb:=h.2.1.big
 obtain ⟨lam,Fm⟩:=(gt2_of h).fam
 obtain ⟨hc0,hcn⟩:=clN_le h
 have hwl:∀ a,a < n→(whl n (cjb n (op m n) e)).getD a 0=(clI m n e a:Int):=fun a ha=>by
  rw [whl,rgz_get ha]; exact (clI_lt h ha).2
 have hTl:(clTT m n e).length=clN m n e:=by simp [clTT]
 have hTg:∀ i,i < clN m n e→(clTT m n e).getD i []=mat (clN m n e) (ct n (op m n) e i):=fun i hi=>by simp [clTT,List.getD,List.getElem?_map,List.getElem?_range hi]
 have hSl:(clSp m n e).length=clN m n e:=Fm.len
 refine table_g h (p:=clP m n e) (c:=clN m n e) (o:=clO m n e) (J:=clJ m n e) (S:=clS m n e) (L:=clL m n e) (TT:=clTT m n e) (WL:=whl n (cjb n (op m n) e)) (by omega) (by omega) hc0 hc24 (classOf_s h) ?_ (where_s m hb E) (modulus_c h) rfl hTl (fun i hi=>?_) (rgz_len _ _) (hwl e G.el) (clI_lt h G.el).1 (fun i hi=>?_) (fun i hi=>?_) ?_ fun s hs=>?_
 ·have:=consts_c h
  have e1:(List.range (cst n (cjb n (op m n) e)).length).map (cto n (op m n) e)=lll (clTT m n e):=by
   unfold lll clTT cto clN clL
   rw [List.map_map]
   rfl
  rw [e1] at this
  exact this
 ·rw [hTg i hi]
  refine ⟨mat_len _ _,mat_row,fun v hv j=>?_⟩
  obtain ⟨a,ha,rfl⟩:=List.mem_map.1 hv
  by_cases hj:j < clN m n e
  ·have:=rgz_get (n:=clN m n e) (g:=ct n (op m n) e i a) hj
   rw [this]
   have hr:=tcp_rng ((cst n (cjb n (op m n) e)).getD i []) (cw n (op m n) e j) ((cst n (cjb n (op m n) e)).getD i []).length a
   have h2:=(clS_pos h hi).2.1
   unfold clS clL at h2
   unfold ct
   omega
  rw [List.getD_eq_getElem?_getD,List.getElem?_eq_none (by rw [rgz_len]; omega)]
  simp
 ·obtain ⟨s1,s2,s3⟩:=clS_pos h hi
  have hx:=(clG h hi).1
  refine ⟨clX m n e i,hx,s3,hwl _ (G.iv_lt hx),(clI_lt h (G.iv_lt hx)).1,rfl,s1,by omega⟩
 ·have:=Fm.few i hi
  omega
 ·intro h0
  have:=Fm.len
  rw [h0] at this
  simp at this; omega
 obtain ⟨q,hq,e1⟩:=List.getElem_of_mem hs
 have hq2:q < clN m n e:=by have:=Fm.len; omega
 have hr:=row_of h Fm hq2
 have e2:(spsR (clP m n e) (clTT m n e) [startR (clN m n e) (clN m n e)] (clN m n e)).getD q []=s:=by rw [← e1]; simp [List.getD,List.getElem?_eq_getElem hq]
 rw [e2] at hr
 exact hr.sq
open Lean.Grind
attribute [local instance] Lean.Grind.Semiring.natCast Lean.Grind.Ring.intCast
section
variable {K:Type} [CommRing K]
def sumL (l:List (List Int)) (F:List Int→K):K:=l.foldr (fun r a=>F r + a) 0
theorem sumL_perm {l l' : List (List Int)} (h:l.Perm l') (F:List Int→K):sumL l F=sumL l' F:=by
 induction h with
 | nil=>rfl
 | cons x _ ih=>show F x + sumL _ F=F x + sumL _ F; rw [ih]
 | swap x y l=>show F y + (F x + sumL l F)=F x + (F y + sumL l F); grind
 | trans _ _ h1 h2=>rw [h1,h2]
theorem sumL_app (l l' : List (List Int)) (F:List Int→K):sumL (l++l') F=sumL l F + sumL l' F:=by
 induction l with
 | nil=>show sumL l' F=0 + sumL l' F; grind
 | cons x l ih=>show F x + sumL (l++l') F=F x + sumL l F + sumL l' F; rw [ih]; grind
theorem sumL_sm (F:List Int→K):∀ (l:List (List Int)),sumL l F=sm (fun i=>F (l.getD i [])) l.length:=by
 intro l
 have key:∀ k,k≤l.length→sumL (l.take k) F=sm (fun i=>F (l.getD i [])) k:=fun k=>by
  induction k with
  | zero=>intro _; rfl
  | succ k ih =>
   intro hk
   rw [List.take_succ_eq_append_getElem (by omega),sumL_app,ih (by omega),sm]
   have:l[k]'(by omega)=l.getD k []:=by simp [List.getD,List.getElem?_eq_getElem (show k < l.length by omega)]
   rw [this]
   show _ + (F _ + 0)=_
   grind
 have:=key l.length (Nat.le_refl _)
 rwa [List.take_length] at this
end
section
variable {n e:Nat} {m:List Int} [NeZero (clP m n e)]
def prR (m:List Int) (n e:Nat) [NeZero (clP m n e)] (r r' : List Int):Fin (clP m n e):=sm (fun k=>((clS m n e k:Nat):Fin (clP m n e)) * vc r k * vc r' (clJ m n e k)) (clN m n e)
theorem chT_ort (h:GT n m n e):(∀ r∈chT m n e,prR m n e r r=(n:Nat))∧(chT m n e).Pairwise (fun r r'=>prR m n e r r' = 0∧prR m n e r' r=0)∧(chT m n e).length=clN m n e∧(∀ r∈chT m n e,r.length=clN m n e∧rgp (clP m n e) r) ∧
  ∀ i j,i < clN m n e→j < clN m n e→sumL (chT m n e) (fun r=>(vc r j:Fin (clP m n e)) * vc r (clJ m n e i)) * ((clS m n e j:Nat):Fin (clP m n e))=if i=j then ((n:Nat):Fin (clP m n e)) else 0:=by
 obtain ⟨lam,Fm⟩:=(gt2_of h).fam
 have H:=gt2_of h
 have hSl:(clSp m n e).length=clN m n e:=Fm.len
 have hJl:∀ i,i < clN m n e→clJ m n e i < clN m n e:=fun i hi=>(clI_lt h (h.2.2.iv_lt (clG h hi).1)).1
 have hrow:∀ q,q < clN m n e→∃ d:Fin (clP m n e),d * d * prT n (op m n) e (clT (clI m n e) (fun i=>((ivR (clP m n e) (clS m n e i:Nat):Int):Fin (clP m n e))) (lam q)) (clT (clI m n e) (fun i=>((ivR (clP m n e) (clS m n e i:Nat):Int):Fin (clP m n e))) (lam q)) e=(n:Nat)∧∀ i,i < clN m n e→(vc (clRw m n e ((clSp m n e).getD q [])) i:Fin (clP m n e))=d * lam q i * ((ivR (clP m n e) (clS m n e i:Nat):Int):Fin (clP m n e)):=fun q hq=>by
  have hr:=row_of h Fm hq
  refine ⟨_,hr.dd,fun i hi=>?_⟩
  unfold clRw
  rw [rwI_K H.R hi]
  have hw:(vc (chW (clP m n e) (clO m n e) ((clSp m n e).getD q [])):Nat→Fin (clP m n e))=lam q:=hr.w
  rw [hw]
  show lam q i * ((chD (clP m n e) n (clO m n e) (clN m n e) (clJ m n e) (clS m n e) ((clSp m n e).getD q []):Nat):Fin (clP m n e)) * _=((chD (clP m n e) n (clO m n e) (clN m n e) (clJ m n e) (clS m n e) ((clSp m n e).getD q []):Nat):Fin (clP m n e)) * lam q i * _
  grind
 have hrow' : ∀ q,∃ d:Fin (clP m n e),q < clN m n e→d * d * prT n (op m n) e (clT (clI m n e) (fun i=>((ivR (clP m n e) (clS m n e i:Nat):Int):Fin (clP m n e))) (lam q)) (clT (clI m n e) (fun i=>((ivR (clP m n e) (clS m n e i:Nat):Int):Fin (clP m n e))) (lam q)) e=(n:Nat)∧∀ i,i < clN m n e→(vc (clRw m n e ((clSp m n e).getD q [])) i:Fin (clP m n e))=d * lam q i * ((ivR (clP m n e) (clS m n e i:Nat):Int):Fin (clP m n e)):=fun q=>by
  by_cases hq:q < clN m n e
  ·obtain ⟨d,hd⟩:=hrow q hq; exact ⟨d,fun _=>hd⟩
  exact ⟨0,fun hh=>absurd hh hq⟩
 obtain ⟨d,hd⟩:=Classical.axiomOfChoice hrow'
 have hpr:∀ q q',q < clN m n e→q' < clN m n e→prR m n e (clRw m n e ((clSp m n e).getD q [])) (clRw m n e ((clSp m n e).getD q' []))=d q * d q' * prT n (op m n) e (clT (clI m n e) (fun i=>((ivR (clP m n e) (clS m n e i:Nat):Int):Fin (clP m n e))) (lam q)) (clT (clI m n e) (fun i=>((ivR (clP m n e) (clS m n e i:Nat):Int):Fin (clP m n e))) (lam q')) e:=fun q q' hq hq'=>by
  unfold prR
  rw [Fam.sum H,← sm_mul]
  refine sm_congr fun i hi=>?_
  rw [(hd q hq).2 i hi,(hd q' hq').2 _ (hJl i hi)]
  have e1:=H.io i hi
  rw [cl_kap h hi] at e1
  have e2:((ivR (clP m n e) (clS m n e (clJ m n e i):Nat):Int):Fin (clP m n e))=((ivR (clP m n e) (clS m n e i:Nat):Int):Fin (clP m n e)):=H.ioJ hi
  rw [e2]
  show _=d q * d q' * (lam q i * lam q' (clJ m n e i) * _)
  grind
 have hP:=chT_perm m n e
 have hg:∀ q,q < clN m n e→((clSp m n e).map (clRw m n e)).getD q []=clRw m n e ((clSp m n e).getD q []):=fun q hq=>by
  simp [List.getD,List.getElem?_map,List.getElem?_eq_getElem (show q < (clSp m n e).length by omega)]
 refine ⟨fun r hr=>?_,?_,?_,fun r hr=>?_,fun i j hi hj=>?_⟩
 ·obtain ⟨s,hs,rfl⟩:=List.mem_map.1 (hP.mem_iff.1 hr)
  obtain ⟨q,hq,e1⟩:=List.getElem_of_mem hs
  have e2:(clSp m n e).getD q []=s:=by rw [← e1]; simp [List.getD,List.getElem?_eq_getElem hq]
  rw [← e2,hpr q q (by omega) (by omega)]
  exact (hd q (by omega)).1
 ·refine (hP.pairwise_iff fun hab=>⟨hab.2,hab.1⟩).2 ?_
  rw [List.pairwise_iff_getElem]
  intro q q' hq hq' hlt
  rw [List.length_map] at hq hq'
  simp only [List.getElem_map]
  have e1:(clSp m n e)[q]=(clSp m n e).getD q []:=by simp [List.getD,List.getElem?_eq_getElem hq]
  have e2:(clSp m n e)[q']=(clSp m n e).getD q' []:=by simp [List.getD,List.getElem?_eq_getElem hq']
  rw [e1,e2,hpr q q' (by omega) (by omega),hpr q' q (by omega) (by omega),Fm.ort q q' (by omega) (by omega) (by omega),Fm.ort q' q (by omega) (by omega) (by omega)]
  exact ⟨by grind,by grind⟩
 ·rw [hP.length_eq,List.length_map,hSl]
 ·obtain ⟨s,hs,rfl⟩:=List.mem_map.1 (hP.mem_iff.1 hr)
  exact ⟨clRw_len m n e s,clRw_rg h s⟩
 rw [sumL_perm hP,sumL_sm,List.length_map,hSl]
 have hcol:=Fam.col H Fm (d:=d) (fun q hq=>(hd q hq).1) hi hj
 have e1:sm (fun q=>(vc (((clSp m n e).map (clRw m n e)).getD q []) j:Fin (clP m n e)) * vc (((clSp m n e).map (clRw m n e)).getD q []) (clJ m n e i)) (clN m n e)=if i=j then ((n:Nat):Fin (clP m n e)) * ((ivR (clP m n e) (clS m n e j:Nat):Int):Fin (clP m n e)) else 0:=by
  rw [← hcol]
  refine sm_congr fun q hq=>?_
  rw [hg q hq,(hd q hq).2 j hj,(hd q hq).2 _ (hJl i hi)]
  have e2:((ivR (clP m n e) (clS m n e (clJ m n e i):Nat):Int):Fin (clP m n e))=((ivR (clP m n e) (clS m n e i:Nat):Int):Fin (clP m n e)):=H.ioJ hi
  rw [e2]; rfl
 rw [e1]
 have e3:=H.io j hj
 rw [cl_kap h hj] at e3
 by_cases hij:i=j
 ·rw [if_pos hij,if_pos hij]; grind
 rw [if_neg hij,if_neg hij]; grind
end
end Go.Proofs.YtjlmpmidchddjaaDoor

namespace Go.Proofs.YtjlmpmidchddjaaDoor
open Go.Pv
def dgL (m:List Int) (n e:Nat):List Int:=(chT m n e).map fun r=>r.getD (clO m n e) 0
theorem degrees_c {n e:Nat} {m:List Int} (h:GT n m n e) (hc24:clN m n e≤24):FnC Tryd.prog 13 [gp n m] (.tup [.list (il (dgL m n e)),fl (0,0)]):=by
 have E:=h.2.2.cjb_eqv
 have hb:=h.2.1.big
 obtain ⟨P,p1,p2⟩:=cl_P h
 haveI:NeZero (clP m n e):=⟨by have:=P.three; omega⟩
 obtain ⟨_,_,t3,t4,_⟩:=chT_ort h
 have hwl:(whl n (cjb n (op m n) e)).getD e 0=(clO m n e:Int):=by rw [whl,rgz_get h.2.2.el]; exact (clI_lt h h.2.2.el).2
 have hol:=(clI_lt h h.2.2.el).1
 have hwll:(whl n (cjb n (op m n) e)).length=n:=rgz_len _ _
 refine fnc_of tab_ok Tryd.func13 rfl (by kernel_rfl) (by rw [Tryd.ntmps13]; exact Nat.le_add_left 1 _) ?_; rw [Tryd.ntmps13]
 refine qm ?_
 refine hk_region fun K hK=>runs_eval tab_ok ?_
 simp only [evz,fl,gp,tab,simprocAttr]
 refine fin_run ?_ (hK _ ?_)<;>clear hK K
 ·(first|exact trivial|omega|(simp only [In64] at *; omega)|(simp [In64] at *; omega)|(simp_all; done)|skip)
 refine qa (qm ?_)
 refine hk_region fun K hK=>runs_eval tab_ok ?_
 simp only [evz,fl,gp,tab,simprocAttr]
 refine fin_stop trivial (runs_call (table_c h hc24) rfl rfl rfl (by simp only [dstOk,Nat.reduceLT]) (by repeat (first|exact trivial|constructor)) (runs_eval tab_ok ?_))
 simp only [evz,fl,gp,tab,simprocAttr]
 refine fin_run ?_ (hK _ ?_)<;>clear hK K
 ·(first|exact trivial|omega|(simp only [In64] at *; omega)|(simp [In64] at *; omega)|(simp_all; done)|skip)
 refine qa (qm (qm ?_))
 refine hk_region fun K hK=>runs_eval tab_ok ?_
 simp only [evz,fl,gp,tab,simprocAttr]
 refine fin_run ?_ (hK _ ?_)<;>clear hK K
 ·(first|exact trivial|omega|(simp only [In64] at *; omega)|(simp [In64] at *; omega)|(simp_all; done)|skip)
 refine qa ?_
 refine hk_cond rfl (fun hC1=>?_) (fun hC1=>?_)
 ·cases hC1
 (try simp only [nhs] at hC1)
 refine qh (qa (qm ?_))
 refine hk_draw mixed (by kernel_rfl) fun K hK=>runs_eval tab_ok ?_
 simp only [evz,fl,gp,tab,simprocAttr]
 refine fin_stop trivial (runs_call (classOf_s h) rfl rfl rfl (by simp only [dstOk,Nat.reduceLT]) (by repeat (first|exact trivial|constructor)) (runs_eval tab_ok ?_))
 simp only [evz,fl,gp,tab,simprocAttr]
 refine fin_stop trivial (runs_call (where_s m hb E) rfl rfl rfl (by simp only [dstOk,Nat.reduceLT]) (by repeat (first|exact trivial|constructor)) (runs_eval tab_ok ?_))
 simp only [evz,fl,gp,tab,simprocAttr]
 refine fin_run ?_ (hK _ ?_)<;>clear hK K
 ·(first|exact trivial|omega|(simp only [In64] at *; omega)|(simp [In64] at *; omega)|(simp_all; done)|skip)
 refine qa (qm ?_)
 refine hk_region fun K hK=>runs_eval tab_ok ?_
 simp only [evz,fl,gp,tab,simprocAttr]
 refine fin_run trivial (hK _ ?_)<;>clear hK K
 refine qa (qm (qm ?_))
 refine hk_own0 8 rfl ?_
 refine hk_region fun K hK=>runs_eval tab_ok ?_
 simp only [evz,fl,gp,tab,simprocAttr,ll_length,t3]
 refine fin_run trivial (hK _ ?_)<;>clear hK K
 refine qa (ql ?_)
 refine hk_loop (ι:=Nat) (fun i=>⟨45,[(1,.ptr 0 0),(3,.ptr 1 0),(6,.ptr 2 0),(7,.p (.list (il (whl n (cjb n (op m n) e))))),(8,.sl 3 0 i),(25,.p (.list (ll (chT m n e)))),(26,.p (.int .i64 (clN m n e))),(27,.p (.int .i64 i))],[.own [.p (.int .i64 n),.p (.list (il m))],.own [.p (.int .i64 0),.p (.int .i64 0)],.own [.p (.int .i64 0),.p (.int .i64 0)],.own (ol ((dgL m n e).take i))]⟩) (fun i=>i≤clN m n e) (fun i=>clN m n e - i) 0 (Nat.zero_le _) [0,1,2,3] (by simp only [leq,leA,evz,fl,gp,tab,simprocAttr]<;>first|trivial|(simp [LeH,ol_nil]; done)|skip) fun i hi=>?_
 refine qm ?_
 refine hk_region fun K hK=>runs_eval tab_ok ?_
 simp only [evz,fl,gp,tab,simprocAttr]
 refine fin_run trivial (hK _ ?_)<;>clear hK K
 refine qa (qm ?_)
 refine hk_cond rfl (fun hC2=>?_) (fun hC2=>?_)
 ·(try simp only [nhs] at hC2)
  have hil:i < (chT m n e).length:=by omega
  obtain ⟨r,hr⟩:∃ r,(chT m n e).getD i []=r:=⟨_,rfl⟩
  have hrl:r.length=clN m n e:=by rw [← hr]; exact (t4 _ (mem_getD hil)).1
  have hdk:(dgL m n e).take (i + 1)=(dgL m n e).take i++[r.getD (clO m n e) 0]:=by
   rw [List.take_succ_eq_append_getElem (by simp [dgL]; omega)]
   congr 2
   simp only [dgL,List.getElem_map]
   rw [← hr]; simp [List.getD,List.getElem?_eq_getElem hil]
  have hdl:((dgL m n e).take i).length=i:=by rw [List.length_take]; simp [dgL]; omega
  have hdt:List.take i ((dgL m n e).take i)=(dgL m n e).take i:=List.take_of_length_le (by omega)
  refine qh (qa (qm (ql (qm ?_))))
  refine hk_region fun K hK=>runs_eval tab_ok ?_
  simp only [evz,fl,gp,tab,simprocAttr,ll_length,ll_get hil,hr]
  refine fin_run ?_ (hK _ ?_)<;>clear hK K
  ·omega
  refine qa ?_
  refine hk_region fun K hK=>runs_eval tab_ok ?_
  simp only [evz,fl,gp,tab,simprocAttr,hdt,hdl,il_get (show e < (whl n (cjb n (op m n) e)).length by rw [hwll]; exact h.2.2.el),hwl,il_get (show clO m n e < r.length by rw [hrl]; exact hol)]
  refine fin_stop ?_ (runs_call (oneOf_c h) rfl rfl rfl (by simp only [dstOk,Nat.reduceLT]) (by repeat (first|exact trivial|constructor)) (runs_eval tab_ok ?_))
  ·(first|exact trivial|omega|(simp only [In64] at *; omega)|(simp [In64] at *; omega)|(simp_all; done)|skip)
  simp only [evz,fl,gp,tab,simprocAttr,hdt,hdl,il_get (show e < (whl n (cjb n (op m n) e)).length by rw [hwll]; exact h.2.2.el),hwl,il_get (show clO m n e < r.length by rw [hrl]; exact hol)]
  refine fin_run ?_ (hK _ ?_)<;>clear hK K
  ·have:=h.2.2.el
   have hol2:clO m n e < clN m n e:=hol
   omega
  refine qd (qa ?_)
  refine hk_region fun K hK=>runs_eval tab_ok ?_
  simp only [evz,fl,gp,tab,simprocAttr]
  refine fin_run ?_ (hK _ ?_)<;>clear hK K
  ·(first|exact trivial|omega|(simp only [In64] at *; omega)|(simp [In64] at *; omega)|(simp_all; done)|skip)
  refine qa ?_
  refine ⟨i + 1,[0,1,2,4],by omega,by omega,?_⟩
  rw [hdk]
  simp only [leq,leA,evz,fl,gp,tab,simprocAttr]<;>first|trivial|omega|(rw [List.take_of_length_le (by rw [List.length_append]; exact Nat.le_refl _)]; done)|(rw [hdl,List.take_of_length_le (by rw [List.length_append,hdl]; exact Nat.le_refl _)]; done)|skip
 (try simp only [nhs] at hC2)
 have hil:i=clN m n e:=by omega
 have hdl:(dgL m n e).length=clN m n e:=by simp [dgL,t3]
 have hdt:(dgL m n e).take i=dgL m n e:=List.take_of_length_le (by omega)
 refine qj (qc (qc (qf (qa (qm ?_)))))
 refine hk_draw mixed (by kernel_rfl) fun K hK=>runs_eval tab_ok ?_
 simp only [evz,fl,gp,tab,simprocAttr]
 refine fin_run ?_ (hK _ ?_)<;>clear hK K
 ·(first|exact trivial|omega|(simp only [In64] at *; omega)|(simp [In64] at *; omega)|(simp_all; done)|skip)
 refine qa (qk ?_)
 simp only [Tryd.results13,enA,evz,fl,gp,tab,simprocAttr]
 rw [hdt,List.take_of_length_le (show (dgL m n e).length≤i by omega)]
 exact ⟨by omega,rfl⟩
theorem cf_no (N:Int) (m:List Int) (hm:m.length≤1000000000000000) (hf:¬ (gf N m).1=0):FnC Tryd.prog 14 [gp N m] (fl (gf N m)):=by
 refine fnc_of tab_ok Tryd.func14 rfl (by kernel_rfl) (by rw [Tryd.ntmps14]; exact Nat.le_add_left 1 _) ?_; rw [Tryd.ntmps14]
 refine qm ?_
 refine hk_region fun K hK=>runs_eval tab_ok ?_
 simp only [evz,fl,gp,tab,simprocAttr]
 refine fin_run ?_ (hK _ ?_)<;>clear hK K
 ·(first|exact trivial|omega|(simp only [In64] at *; omega)|(simp [In64] at *; omega)|(simp_all; done)|skip)
 refine qa (qm ?_)
 refine hk_region fun K hK=>runs_eval tab_ok ?_
 simp only [evz,fl,gp,tab,simprocAttr]
 refine fin_stop trivial (runs_call (gf_c N m hm) rfl rfl rfl (by simp only [dstOk,Nat.reduceLT]) (by repeat (first|exact trivial|constructor)) (runs_eval tab_ok ?_))
 simp only [evz,fl,gp,tab,simprocAttr]
 refine fin_run ?_ (hK _ ?_)<;>clear hK K
 ·(first|exact trivial|omega|(simp only [In64] at *; omega)|(simp [In64] at *; omega)|(simp_all; done)|skip)
 refine qa (qm (qm ?_))
 refine hk_region fun K hK=>runs_eval tab_ok ?_
 simp only [evz,fl,gp,tab,simprocAttr,decide_eq_false hf]
 refine fin_run ?_ (hK _ ?_)<;>clear hK K
 ·(first|exact trivial|omega|(simp only [In64] at *; omega)|(simp [In64] at *; omega)|(simp_all; done)|skip)
 refine qa ?_
 refine hk_cond rfl (fun hC1=>?_) (fun hC1=>?_)
 ·cases hC1
 refine qh (qa (qm ?_))
 refine hk_region fun K hK=>runs_eval tab_ok ?_
 simp only [evz,fl,gp,tab,simprocAttr]
 refine fin_run ?_ (hK _ ?_)<;>clear hK K
 ·(first|exact trivial|omega|(simp only [In64] at *; omega)|(simp [In64] at *; omega)|(simp_all; done)|skip)
 refine qa (qk ?_)
 simp only [Tryd.results14,enA,evz,fl,gp,tab,simprocAttr]
 all_goals ((first|exact rfl|exact ⟨rfl,rfl⟩|exact ⟨rfl,rfl,rfl⟩|exact ⟨trivial,rfl⟩|exact ⟨Nat.le_refl _,rfl⟩|trivial|(simp; done)))
theorem gf_c0 {n e:Nat} {m:List Int} (h:GT n m n e):FnC Tryd.prog 52 [gp n m] (fl (0,0)):=by
 have hb:=h.2.1.big
 have:=gf_c n m (by rw [h.2.1.len]; have:=Nat.mul_le_mul hb hb; omega)
 rwa [gf_of h] at this
theorem cf_many {n e:Nat} {m:List Int} (h:GT n m n e) (hc:24 < clN m n e):FnC Tryd.prog 14 [gp n m] (fl (2,0)):=by
 have hcl:(cst n (cjb n (op m n) e)).length=clN m n e:=rfl
 refine fnc_of tab_ok Tryd.func14 rfl (by kernel_rfl) (by rw [Tryd.ntmps14]; exact Nat.le_add_left 1 _) ?_; rw [Tryd.ntmps14]
 refine qm ?_
 refine hk_region fun K hK=>runs_eval tab_ok ?_
 simp only [evz,fl,gp,tab,simprocAttr]
 refine fin_run ?_ (hK _ ?_)<;>clear hK K
 ·(first|exact trivial|omega|(simp only [In64] at *; omega)|(simp [In64] at *; omega)|(simp_all; done)|skip)
 refine qa (qm ?_)
 refine hk_region fun K hK=>runs_eval tab_ok ?_
 simp only [evz,fl,gp,tab,simprocAttr]
 refine fin_stop trivial (runs_call (gf_c0 h) rfl rfl rfl (by simp only [dstOk,Nat.reduceLT]) (by repeat (first|exact trivial|constructor)) (runs_eval tab_ok ?_))
 simp only [evz,fl,gp,tab,simprocAttr]
 refine fin_run ?_ (hK _ ?_)<;>clear hK K
 ·(first|exact trivial|omega|(simp only [In64] at *; omega)|(simp [In64] at *; omega)|(simp_all; done)|skip)
 refine qa (qm (qm ?_))
 refine hk_region fun K hK=>runs_eval tab_ok ?_
 simp only [evz,fl,gp,tab,simprocAttr,ll_length,hcl]
 refine fin_stop trivial (runs_call (classesOf_c h) rfl rfl rfl (by simp only [dstOk,Nat.reduceLT]) (by repeat (first|exact trivial|constructor)) (runs_eval tab_ok ?_))
 simp only [evz,fl,gp,tab,simprocAttr,ll_length,hcl]
 refine fin_run ?_ (hK _ ?_)<;>clear hK K
 ·(first|exact trivial|omega|(simp only [In64] at *; omega)|(simp [In64] at *; omega)|(simp_all; done)|skip)
 refine qa ?_
 refine hk_cond rfl (fun hC1=>?_) (fun hC1=>?_)
 ·(try simp only [nhs] at hC1)
  refine hk_region fun K hK=>runs_eval tab_ok ?_
  simp only [evz,fl,gp,tab,simprocAttr]
  refine fin_stop trivial (runs_call (f_c 2 0) rfl rfl rfl (by simp only [dstOk,Nat.reduceLT]) (by repeat (first|exact trivial|constructor)) (runs_eval tab_ok ?_))
  simp only [evz,fl,gp,tab,simprocAttr]
  refine fin_run ?_ (hK _ ?_)<;>clear hK K
  ·(first|exact trivial|omega|(simp only [In64] at *; omega)|(simp [In64] at *; omega)|(simp_all; done)|skip)
  refine qa (qm ?_)
  refine hk_region fun K hK=>runs_eval tab_ok ?_
  simp only [evz,fl,gp,tab,simprocAttr]
  refine fin_run ?_ (hK _ ?_)<;>clear hK K
  ·(first|exact trivial|omega|(simp only [In64] at *; omega)|(simp [In64] at *; omega)|(simp_all; done)|skip)
  refine qa (qk ?_)
  simp only [Tryd.results14,enA,evz,fl,gp,tab,simprocAttr]
  all_goals ((first|exact rfl|exact ⟨rfl,rfl⟩|exact ⟨rfl,rfl,rfl⟩|exact ⟨trivial,rfl⟩|exact ⟨Nat.le_refl _,rfl⟩|trivial|(simp; done)))
 (try simp only [nhs] at hC1)
 omega
theorem cf_ok {n e:Nat} {m:List Int} (h:GT n m n e) (hc:clN m n e≤24):FnC Tryd.prog 14 [gp n m] (fl (0,0)):=by
 have hcl:(cst n (cjb n (op m n) e)).length=clN m n e:=rfl
 refine fnc_of tab_ok Tryd.func14 rfl (by kernel_rfl) (by rw [Tryd.ntmps14]; exact Nat.le_add_left 1 _) ?_; rw [Tryd.ntmps14]
 refine qm ?_
 refine hk_region fun K hK=>runs_eval tab_ok ?_
 simp only [evz,fl,gp,tab,simprocAttr]
 refine fin_run ?_ (hK _ ?_)<;>clear hK K
 ·(first|exact trivial|omega|(simp only [In64] at *; omega)|(simp [In64] at *; omega)|(simp_all; done)|skip)
 refine qa (qm ?_)
 refine hk_region fun K hK=>runs_eval tab_ok ?_
 simp only [evz,fl,gp,tab,simprocAttr]
 refine fin_stop trivial (runs_call (gf_c0 h) rfl rfl rfl (by simp only [dstOk,Nat.reduceLT]) (by repeat (first|exact trivial|constructor)) (runs_eval tab_ok ?_))
 simp only [evz,fl,gp,tab,simprocAttr]
 refine fin_run ?_ (hK _ ?_)<;>clear hK K
 ·(first|exact trivial|omega|(simp only [In64] at *; omega)|(simp [In64] at *; omega)|(simp_all; done)|skip)
 refine qa (qm (qm ?_))
 refine hk_region fun K hK=>runs_eval tab_ok ?_
 simp only [evz,fl,gp,tab,simprocAttr,ll_length,hcl]
 refine fin_stop trivial (runs_call (classesOf_c h) rfl rfl rfl (by simp only [dstOk,Nat.reduceLT]) (by repeat (first|exact trivial|constructor)) (runs_eval tab_ok ?_))
 simp only [evz,fl,gp,tab,simprocAttr,ll_length,hcl]
 refine fin_run ?_ (hK _ ?_)<;>clear hK K
 ·(first|exact trivial|omega|(simp only [In64] at *; omega)|(simp [In64] at *; omega)|(simp_all; done)|skip)
 refine qa ?_
 refine hk_cond rfl (fun hC1=>?_) (fun hC1=>?_)
 ·(try simp only [nhs] at hC1)
  omega
 (try simp only [nhs] at hC1)
 refine qh (qa (qm ?_))
 refine hk_region fun K hK=>runs_eval tab_ok ?_
 simp only [evz,fl,gp,tab,simprocAttr]
 refine fin_run ?_ (hK _ ?_)<;>clear hK K
 ·(first|exact trivial|omega|(simp only [In64] at *; omega)|(simp [In64] at *; omega)|(simp_all; done)|skip)
 refine qa (qk ?_)
 simp only [Tryd.results14,enA,evz,fl,gp,tab,simprocAttr]
 all_goals ((first|exact rfl|exact ⟨rfl,rfl⟩|exact ⟨rfl,rfl,rfl⟩|exact ⟨trivial,rfl⟩|exact ⟨Nat.le_refl _,rfl⟩|trivial|(simp; done)))
theorem prmB_iff {p:Nat} : prmB p=true↔1 < p∧∀ d,d < p→2≤d→¬ p % d=0:=by
 unfold prmB
 rw [Bool.and_eq_true,decide_eq_true_iff,List.all_eq_true]
 refine ⟨fun ⟨a,b⟩=>⟨a,fun d hd h2=>?_⟩,fun ⟨a,b⟩=>⟨a,fun d hd=>?_⟩⟩
 ·have:=b d (List.mem_range.2 hd)
  simp only [Bool.or_eq_true,decide_eq_true_eq] at this
  rcases this with h | h
  ·omega
  exact h
 simp only [Bool.or_eq_true,decide_eq_true_eq]
 by_cases h2:d < 2
 ·exact .inl h2
 exact .inr (b d (List.mem_range.1 hd) (by omega))
theorem md_good {n e:Nat} {m:List Int} (h:GT n m n e) {q:Nat} (hq:2 * n + 1≤q) (h1:q % expo m n e n=1 % expo m n e n) (h2:prmB q=true):clP m n e≤q:=by
 have hd:=expo_dvd h n (Nat.le_refl _)
 have hp:=h.2.1.pos
 obtain ⟨k1,k2,k3⟩:=mdK_spec hp h.2.1.big hd
 unfold clP mdR
 have hE0:0 < expo m n e n:=(expo_pos h (Nat.le_refl n)).1
 have hE:=Nat.le_of_dvd (by omega) hd
 generalize expo m n e n=E at *
 have h3:(q - 1) % E=0:=Nat.sub_mod_eq_zero_of_mod_eq h1
 obtain ⟨k,hk⟩:=Nat.dvd_of_mod_eq_zero h3
 have hk0:0 < k:=by
  refine Nat.pos_of_ne_zero fun h0=>?_
  rw [h0,Nat.mul_zero] at hk; omega
 obtain ⟨j,rfl⟩:∃ j,k=j + 1:=⟨k - 1,by omega⟩
 have hqj:q=E * (j + 1) + 1:=by omega
 have hc:mdC E n j=true:=by unfold mdC; rw [← hqj,h2,decide_eq_true (by omega)]; rfl
 have hjk:mdK E n≤j:=Nat.le_of_not_lt fun hl=>by rw [k3 j hl] at hc; cases hc
 have:=Nat.mul_le_mul_left E (show mdK E n + 1≤j + 1 by omega)
 omega
theorem refMod_c {n e:Nat} {m:List Int} (h:GT n m n e):FnC Tryd.prog 56 [gp n m] (.int .i64 (clP m n e:Nat)):=by
 have hb:=h.2.1.big
 obtain ⟨P,p1,p2⟩:=cl_P h
 have hd:=expo_dvd h n (Nat.le_refl _)
 have hp:=h.2.1.pos
 have hgood:=fun q=>md_good h (q:=q)
 have hPm:clP m n e % expo m n e n=1 % expo m n e n:=by
  unfold clP mdR
  rw [Nat.mul_add_mod]
 have hPp:prmB (clP m n e)=true:=(mdR_le hp hb hd).2.2
 have hE0:=(expo_pos h (Nat.le_refl n))
 refine fnc_of tab_ok Tryd.func56 rfl (by kernel_rfl) (by rw [Tryd.ntmps56]; exact Nat.le_add_left 1 _) ?_; rw [Tryd.ntmps56]
 refine qm ?_
 refine hk_region fun K hK=>runs_eval tab_ok ?_
 simp only [evz,fl,gp,tab,simprocAttr]
 refine fin_run ?_ (hK _ ?_)<;>clear hK K
 ·(first|exact trivial|omega|(simp only [In64] at *; omega)|(simp [In64] at *; omega)|(simp_all; done)|skip)
 refine qa (qm ?_)
 refine hk_region fun K hK=>runs_eval tab_ok ?_
 simp only [evz,fl,gp,tab,simprocAttr]
 refine fin_run trivial (hK _ ?_)<;>clear hK K
 refine qa (qm (qm ?_))
 refine hk_region fun K hK=>runs_eval tab_ok ?_
 simp only [evz,fl,gp,tab,simprocAttr]
 refine fin_run trivial (hK _ ?_)<;>clear hK K
 refine qa (ql ?_)
 refine hk_loop (ι:=Nat) (fun i=>⟨51,[(1,.ptr 0 0),(3,.p (.int .i64 (expo m n e i:Nat))),(4,.p (.int .i64 i))],[.own [.p (.int .i64 n),.p (.list (il m))]]⟩) (fun i=>i≤n) (fun i=>n - i) 0 (Nat.zero_le _) [0] (by simp only [leq,leA,evz,fl,gp,tab,simprocAttr]<;>first|rfl|trivial|skip) fun i hi=>?_
 refine qm (qm ?_)
 refine hk_region fun K hK=>runs_eval tab_ok ?_
 simp only [evz,fl,gp,tab,simprocAttr]
 refine fin_run ?_ (hK _ ?_)<;>clear hK K
 ·(first|exact trivial|omega|(simp only [In64] at *; omega)|(simp [In64] at *; omega)|(simp_all; done)|skip)
 refine qa ?_
 refine hk_cond rfl (fun hC1=>?_) (fun hC1=>?_)
 ·(try simp only [nhs] at hC1)
  have hil:i < n:=by omega
  have e1:=expo_pos h hi
  have e2:=expo_pos h (show i + 1≤n from hil)
  have o1:=Nat.le_of_dvd (by omega) (h.2.2.ord_dvd hil)
  have o2:=h.2.2.ord_pos hil
  have hL:expo m n e (i + 1)=expo m n e i / Nat.gcd (expo m n e i) (ord n (op m n) e i) * ord n (op m n) e i:=(lcm_alt _ _).symm
  have hgp:0 < Nat.gcd (expo m n e i) (ord n (op m n) e i):=Nat.gcd_pos_of_pos_left _ (by omega)
  have tdd:Int.tdiv ((expo m n e i:Nat):Int) ((Nat.gcd (expo m n e i) (ord n (op m n) e i):Nat):Int)=((expo m n e i / Nat.gcd (expo m n e i) (ord n (op m n) e i):Nat):Int):=rfl
  have hmul:((expo m n e i / Nat.gcd (expo m n e i) (ord n (op m n) e i):Nat):Int) * ((ord n (op m n) e i:Nat):Int)=((expo m n e (i + 1):Nat):Int):=by rw [hL,Int.natCast_mul]
  refine qh (qa (qm (ql ?_)))
  refine hk_draw2 mixed fun K hK=>runs2_eval tab_ok ?_
  simp only [evD,evz,fl,gp,tab,simprocAttr,tdd,hmul]
  refine fin2_stop ?_ (runs2_call (o_c h hil) rfl rfl rfl rfl (by simp only [dstOk,Nat.reduceLT]) (by repeat (first|exact trivial|constructor)) (runs2_eval tab_ok ?_))
  ·(first|exact trivial|omega|(simp only [In64] at *; omega)|(simp [In64] at *; omega)|(simp_all; done)|skip)
  simp only [evD,evz,fl,gp,tab,simprocAttr,tdd,hmul]
  refine fin2_stop ?_ (runs2_call (gcd_c (expo m n e i) (ord n (op m n) e i)) rfl rfl rfl rfl (by simp only [dstOk,Nat.reduceLT]) (by repeat (first|exact trivial|constructor)) (runs2_eval tab_ok ?_))
  ·(first|exact trivial|omega|(simp only [In64] at *; omega)|(simp [In64] at *; omega)|(simp_all; done)|skip)
  simp only [evD,evz,fl,gp,tab,simprocAttr,tdd,hmul]
  refine fin2_stop ?_ (runs2_call (o_c h hil) rfl rfl rfl rfl (by simp only [dstOk,Nat.reduceLT]) (by repeat (first|exact trivial|constructor)) (runs2_eval tab_ok ?_))
  ·have:=Nat.div_le_self (expo m n e i) (Nat.gcd (expo m n e i) (ord n (op m n) e i))
   obtain ⟨z,hz⟩:∃ z,expo m n e i / Nat.gcd (expo m n e i) (ord n (op m n) e i)=z:=⟨_,rfl⟩
   rw [hz] at this ⊢
   exact ⟨by omega,by simp only [In64]; omega⟩
  simp only [evD,evz,fl,gp,tab,simprocAttr,tdd,hmul]
  refine fin2_run ?_ (hK _ _ (by first|kernel_rfl|rfl) ?_)<;>clear hK K
  ·simp only [In64]; omega
  refine qd (qa ?_)
  refine hk_region fun K hK=>runs_eval tab_ok ?_
  simp only [evz,fl,gp,tab,simprocAttr]
  refine fin_run ?_ (hK _ ?_)<;>clear hK K
  ·(first|exact trivial|omega|(simp only [In64] at *; omega)|(simp [In64] at *; omega)|(simp_all; done)|skip)
  refine qa ?_
  refine ⟨i + 1,[0],by omega,by omega,?_⟩
  simp only [leq,leA,evz,fl,gp,tab,simprocAttr]<;>first|trivial|omega|skip
 (try simp only [nhs] at hC1)
 have hil:i=n:=by omega
 rw [hil]
 obtain ⟨E,hE⟩:∃ E,expo m n e n=E:=⟨_,rfl⟩
 rw [hE] at hPm hE0 hgood ⊢
 obtain ⟨p,hpp⟩:∃ p,clP m n e=p:=⟨_,rfl⟩
 rw [hpp] at hPm hPp hgood p1 p2 ⊢
 refine qj (qc (qc (qf (qa (qm ?_)))))
 refine hk_region fun K hK=>runs_eval tab_ok ?_
 simp only [evz,fl,gp,tab,simprocAttr]
 refine fin_run ?_ (hK _ ?_)<;>clear hK K
 ·simp only [In64]; omega
 refine qa (ql ?_)
 refine hk_loop (ι:=Nat) (fun q=>⟨51,[(3,.p (.int .i64 E)),(5,.p (.int .i64 q))],[]⟩) (fun q=>2 * n + 1≤q∧q≤p) (fun q=>p - q) (2 * n + 1) ⟨Nat.le_refl _,by omega⟩ [] (by simp only [leq,leA,evz,fl,gp,tab,simprocAttr]<;>omega) fun q hq=>?_
 obtain ⟨q1,q2⟩:=hq
 have t1:Int.tmod (q:Int) (E:Int)=((q % E:Nat):Int):=rfl
 have t2:Int.tmod 1 (E:Int)=((1 % E:Nat):Int):=rfl
 refine qm (ql (qm ?_))
 refine hk_draw mixed (by kernel_rfl) fun K hK=>runs_eval tab_ok ?_
 simp only [evz,fl,gp,tab,simprocAttr,t1,t2]
 refine fin_run ?_ (hK _ ?_)<;>clear hK K
 ·omega
 refine qa (qm (qm ?_))
 refine hk_region fun K hK=>runs_eval tab_ok ?_
 simp only [evz,fl,gp,tab,simprocAttr]
 refine fin_run trivial (hK _ ?_)<;>clear hK K
 refine qa (ql ?_)
 refine hk_loop (ι:=Nat × Bool) (fun x=>⟨51,[(3,.p (.int .i64 E)),(5,.p (.int .i64 q)),(6,.p (.bool x.2)),(7,.p (.int .i64 x.1))],[]⟩) (fun x=>2≤x.1∧x.1≤q + 2∧(x.2=true→q % E=1 % E∧∀ t,t < x.1→2≤t→¬ q % t=0)∧(x.2=false→¬ (q % E=1 % E∧prmB q=true))) (fun x=>q + 2 - x.1) (2,decide (q % E=1 % E)) ⟨Nat.le_refl _,by simp only; omega,fun hh=>⟨by simpa using hh,fun t h1 h2=>by simp only at h1; omega⟩,fun hh hh2=>by
   rw [decide_eq_true hh2.1] at hh; cases hh⟩ [] (by simp only [leq,leA,evz,fl,gp,tab,simprocAttr]<;>first|trivial|exact decide_eq_decide.2 (by omega)|skip) fun x hx=>?_
 obtain ⟨d,is⟩:=x
 obtain ⟨d1,d2,d3,d4⟩:=hx
 simp only at d1 d2 d3 d4
 have t3:Int.tmod (q:Int) (d:Int)=((q % d:Nat):Int):=rfl
 refine qm (qm ?_)
 rcases Nat.lt_or_ge d q with hdq | hdq
 ·refine hk_region fun K hK=>runs_eval tab_ok ?_
  simp only [evz,fl,gp,tab,simprocAttr,decide_eq_true (show (d:Int) < (q:Int) by omega)]
  refine fin_run trivial (hK _ ?_)<;>clear hK K
  refine qa ?_
  refine hk_cond rfl (fun hC2=>?_) (fun hC2=>?_)
  ·(try simp only [nhs] at hC2)
   have his:is=true:=by simpa using hC2
   obtain ⟨a1,a2⟩:=d3 his
   refine qh (qa (qm (ql ?_)))
   refine hk_region fun K hK=>runs_eval tab_ok ?_
   simp only [evz,fl,gp,tab,simprocAttr,t3]
   refine fin_run ?_ (hK _ ?_)<;>clear hK K
   ·omega
   refine qd (qa ?_)
   refine hk_region fun K hK=>runs_eval tab_ok ?_
   simp only [evz,fl,gp,tab,simprocAttr]
   refine fin_run ?_ (hK _ ?_)<;>clear hK K
   ·(first|exact trivial|omega|(simp only [In64] at *; omega)|(simp [In64] at *; omega)|(simp_all; done)|skip)
   refine qa ?_
   refine ⟨(d + 1,decide (¬ q % d=0)),[],⟨by simp only; omega,by simp only; omega,fun hh=>⟨a1,fun t h1 h2=>?_⟩,fun hh hh2=>?_⟩,by simp only; omega,?_⟩
   ·by_cases e1:t=d
    ·rw [e1]; simpa using hh
    exact a2 t (by simp only at h1; omega) h2
   ·have hz:q % d=0:=by simpa using hh
    exact (prmB_iff.1 hh2.2).2 d hdq d1 hz
   simp only [leq,leA,evz,fl,gp,tab,simprocAttr]<;>first|trivial|omega|(rw [← decide_not]; exact decide_eq_decide.2 (by omega))|skip
  (try simp only [nhs] at hC2)
  have his:is=false:=by simpa using hC2
  have hno:=d4 his
  refine qj (qc (qc (qf (qa (qm ?_)))))
  refine hk_region fun K hK=>runs_eval tab_ok ?_
  simp only [evz,fl,gp,tab,simprocAttr]
  refine fin_run trivial (hK _ ?_)<;>clear hK K
  refine qa ?_
  refine hk_cond rfl (fun hC3=>?_) (fun hC3=>?_)
  ·(try simp only [nhs] at hC3)
   rw [his] at hC3; cases hC3
  (try simp only [nhs] at hC3)
  refine qh (qd (qa ?_))
  refine hk_region fun K hK=>runs_eval tab_ok ?_
  simp only [evz,fl,gp,tab,simprocAttr]
  refine fin_run ?_ (hK _ ?_)<;>clear hK K
  ·(first|exact trivial|omega|(simp only [In64] at *; omega)|(simp [In64] at *; omega)|(simp_all; done)|skip)
  refine qa ?_
  have hqp:q ≠ p:=fun hh=>hno (by rw [hh]; exact ⟨hPm,hPp⟩)
  refine ⟨q + 1,[],⟨by omega,by omega⟩,by omega,by simp only [leq,leA,evz,fl,gp,tab,simprocAttr]<;>omega⟩
 refine hk_region fun K hK=>runs_eval tab_ok ?_
 simp only [evz,fl,gp,tab,simprocAttr,decide_eq_false (show ¬ (d:Int) < (q:Int) by omega)]
 refine fin_run trivial (hK _ ?_)<;>clear hK K
 refine qa ?_
 refine hk_cond rfl (fun hC2=>?_) (fun hC2=>?_)
 ·cases hC2
 refine qj (qc (qc (qf (qa (qm ?_)))))
 refine hk_region fun K hK=>runs_eval tab_ok ?_
 simp only [evz,fl,gp,tab,simprocAttr]
 refine fin_run trivial (hK _ ?_)<;>clear hK K
 refine qa ?_
 refine hk_cond rfl (fun hC3=>?_) (fun hC3=>?_)
 ·(try simp only [nhs] at hC3)
  have his:is=true:=by simpa using hC3
  obtain ⟨a1,a2⟩:=d3 his
  have hpr:prmB q=true:=prmB_iff.2 ⟨by omega,fun t h1 h2=>a2 t (by omega) h2⟩
  have:=hgood q q1 a1 hpr
  have hqp:q=p:=by omega
  refine qm ?_
  refine hk_region fun K hK=>runs_eval tab_ok ?_
  simp only [evz,fl,gp,tab,simprocAttr]
  refine fin_run trivial (hK _ ?_)<;>clear hK K
  refine qa (qk (qe (qb (qb (qe ?_)))))
  simp only [Tryd.results56,enA,evz,fl,gp,tab,simprocAttr]
  all_goals (rw [hqp])
 (try simp only [nhs] at hC3)
 have his:is=false:=by simpa using hC3
 have hno:=d4 his
 refine qh (qd (qa ?_))
 refine hk_region fun K hK=>runs_eval tab_ok ?_
 simp only [evz,fl,gp,tab,simprocAttr]
 refine fin_run ?_ (hK _ ?_)<;>clear hK K
 ·(first|exact trivial|omega|(simp only [In64] at *; omega)|(simp [In64] at *; omega)|(simp_all; done)|skip)
 refine qa ?_
 have hqp:q ≠ p:=fun hh=>hno (by rw [hh]; exact ⟨hPm,hPp⟩)
 refine ⟨q + 1,[],⟨by omega,by omega⟩,by omega,by simp only [leq,leA,evz,fl,gp,tab,simprocAttr]<;>omega⟩
end Go.Proofs.YtjlmpmidchddjaaDoor

namespace Go.Proofs.YtjlmpmidchddjaaDoor
open Go.Pv
theorem pw_uniq {α:Type} {R:α→α→Prop} (anti:∀ a b,R a b→R b a→a=b):∀ (xs ys:List α),xs.Perm ys→xs.Pairwise R→ys.Pairwise R→xs=ys
 | [],ys,h,_,_=>h.symm.eq_nil.symm
 | x :: r,[],h,_,_=>h.eq_nil
 | x :: r,y :: s,h,h1,h2=>by
  have hxy:x=y:=by
   have m1:x∈y :: s:=h.mem_iff.1 (by simp)
   have m2:y∈x :: r:=h.mem_iff.2 (by simp)
   rcases List.mem_cons.1 m1 with h3 | h3
   ·exact h3
   rcases List.mem_cons.1 m2 with h4 | h4
   ·exact h4.symm
   exact anti _ _ ((List.pairwise_cons.1 h1).1 y h4) ((List.pairwise_cons.1 h2).1 x h3)
  subst hxy
  rw [pw_uniq anti r s (List.Perm.cons_inv h) (List.pairwise_cons.1 h1).2 (List.pairwise_cons.1 h2).2]
theorem srtL_uniq {xs ys:List (List Int)} (h:xs.Perm ys) (hs:ys.Pairwise fun v w=>¬ cmpL w v < 0):ys=srtL xs:=
 pw_uniq (fun a b h1 h2=>cmpL_tot _ _ h2 h1) _ _ (h.symm.trans (srtL_perm xs)) hs (srtL_sorted xs)
theorem sq8_one:∀ e,e < 8→op sq8 8 e 0=0→e=0:=by decide +kernel
theorem sq8_rows:(clSp sq8 8 0).map (rowT (clP sq8 8 0) 8 (clO sq8 8 0) (clN sq8 8 0) (clJ sq8 8 0) (clS sq8 8 0))=[[2,2,0,15,0,0],[1,1,1,1,1,1],[1,1,1,1,16,16],[1,1,16,1,1,16],[1,1,16,1,16,1]]:=by decide +kernel
theorem sq8_N:clN sq8 8 0=5:=by decide +kernel
theorem sq8_O:clO sq8 8 0=0:=by decide +kernel
theorem sq8_dg:dgL sq8 8 0=[1,1,1,1,2]:=by
 have h:=srtL_uniq (xs:=[[2,2,0,15,0,0],[1,1,1,1,1,1],[1,1,1,1,16,16],[1,1,16,1,1,16],[1,1,16,1,16,1]]) (ys:=[[1,1,1,1,1,1],[1,1,1,1,16,16],[1,1,16,1,1,16],[1,1,16,1,16,1],[2,2,0,15,0,0]]) (by decide +kernel) (by decide +kernel)
 unfold dgL chT tabR
 rw [sq8_rows,← h,sq8_O]
 rfl
theorem charBegun_c:FnC Tryd.prog 15 [] (.bool true):=by
 obtain ⟨e,h⟩:=sq8_gt
 have he:e=0:=sq8_one e h.2.2.el (h.2.2.one_l 0 (by omega))
 subst he
 have hd:=degrees_c h (by rw [sq8_N]; omega)
 rw [sq8_dg] at hd
 refine fnc_of tab_ok Tryd.func15 rfl (by kernel_rfl) (by rw [Tryd.ntmps15]; exact Nat.le_add_left 0 _) ?_; rw [Tryd.ntmps15]
 refine qm ?_
 refine hk_region fun K hK=>runs_eval tab_ok ?_
 simp only [evz,fl,gp,tab,simprocAttr]
 refine fin_run trivial (hK _ ?_)<;>clear hK K
 refine qa (qm ?_)
 refine hk_region fun K hK=>runs_eval tab_ok ?_
 simp only [evz,fl,gp,tab,simprocAttr]
 refine fin_stop trivial (runs_call (square_c) rfl rfl rfl (by simp only [dstOk,Nat.reduceLT]) (by repeat (first|exact trivial|constructor)) (runs_eval tab_ok ?_))
 simp only [evz,fl,gp,tab,simprocAttr]
 refine fin_stop trivial (runs_call (hd) rfl rfl rfl (by simp only [dstOk,Nat.reduceLT]) (by repeat (first|exact trivial|constructor)) (runs_eval tab_ok ?_))
 simp only [evz,fl,gp,tab,simprocAttr]
 refine fin_run ?_ (hK _ ?_)<;>clear hK K
 ·(first|exact trivial|omega|(simp only [In64] at *; omega)|(simp [In64] at *; omega)|(simp_all; done)|skip)
 refine qa (qm ?_)
 refine hk_region fun K hK=>runs_eval tab_ok ?_
 simp only [evz,fl,gp,tab,simprocAttr]
 refine fin_stop trivial (runs_call (FnC.sub (args':=[.list (il [1,1,1,1,2]),.nn (il [1,1,1,1,2])]) (ints_c [1,1,1,1,2] [1,1,1,1,2] (by decide)) (And.intro (.same _) (And.intro (.nn _) trivial))) rfl rfl rfl (by simp only [dstOk,Nat.reduceLT]) (by repeat (first|exact trivial|constructor)) (runs_eval tab_ok ?_))
 simp only [evz,fl,gp,tab,simprocAttr]
 refine fin_run ?_ (hK _ ?_)<;>clear hK K
 ·(first|exact trivial|omega|(simp only [In64] at *; omega)|(simp [In64] at *; omega)|(simp_all; done)|skip)
 refine qa (qk ?_)
 simp only [Tryd.results15,enA,evz,fl,gp,tab,simprocAttr]
 all_goals ((first|exact rfl|exact ⟨rfl,rfl⟩|exact ⟨rfl,rfl,rfl⟩|exact ⟨trivial,rfl⟩|exact ⟨Nat.le_refl _,rfl⟩|trivial|(simp; done)))
theorem tableOf_no (N:Int) (m:List Int) (f:PV) (c a:Int) (hc:¬ c=0) (hf:FnC Tryd.prog 14 [gp N m] (fl (c,a))):FnC Tryd.prog 16 [gp N m] (.tup [.int .i64 0,.list [],.list [],.bool false]):=by
 refine fnc_of tab_ok Tryd.func16 rfl (by kernel_rfl) (by rw [Tryd.ntmps16]; exact Nat.le_add_left 1 _) ?_; rw [Tryd.ntmps16]
 refine qm ?_
 refine hk_region fun K hK=>runs_eval tab_ok ?_
 simp only [evz,fl,gp,tab,simprocAttr]
 refine fin_run ?_ (hK _ ?_)<;>clear hK K
 ·(first|exact trivial|omega|(simp only [In64] at *; omega)|(simp [In64] at *; omega)|(simp_all; done)|skip)
 refine qa (qm (qm ?_))
 refine hk_region fun K hK=>runs_eval tab_ok ?_
 simp only [evz,fl,gp,tab,simprocAttr]
 refine fin_stop trivial (runs_call (hf) rfl rfl rfl (by simp only [dstOk,Nat.reduceLT]) (by repeat (first|exact trivial|constructor)) (runs_eval tab_ok ?_))
 simp only [evz,fl,gp,tab,simprocAttr]
 refine fin_run ?_ (hK _ ?_)<;>clear hK K
 ·(first|exact trivial|omega|(simp only [In64] at *; omega)|(simp [In64] at *; omega)|(simp_all; done)|skip)
 refine qa ?_
 refine hk_cond rfl (fun hC1=>?_) (fun hC1=>?_)
 ·(try simp only [nhs] at hC1)
  refine qm ?_
  refine hk_region fun K hK=>runs_eval tab_ok ?_
  simp only [evz,fl,gp,tab,simprocAttr]
  refine fin_run trivial (hK _ ?_)<;>clear hK K
  refine qa (qk (qb ?_))
  simp only [Tryd.results16,enA,evz,fl,gp,tab,simprocAttr]
  all_goals ((first|exact rfl|exact ⟨rfl,rfl⟩|exact ⟨rfl,rfl,rfl⟩|exact ⟨trivial,rfl⟩|exact ⟨Nat.le_refl _,rfl⟩|trivial|(simp; done)))
 (try simp only [nhs] at hC1)
 exact absurd hC1 hc
theorem tableOf_c {n e:Nat} {m:List Int} (h:GT n m n e) (hc24:clN m n e≤24):FnC Tryd.prog 16 [gp n m] (.tup [.int .i64 (clP m n e:Nat),.list (ll (chT m n e)),.list (ll (clL m n e)),.bool true]):=by
 obtain ⟨P,p1,p2⟩:=cl_P h
 haveI:NeZero (clP m n e):=⟨by have:=P.three; omega⟩
 obtain ⟨_,_,t3,t4,_⟩:=chT_ort h
 have hll:(clL m n e).length=clN m n e:=rfl
 refine fnc_of tab_ok Tryd.func16 rfl (by kernel_rfl) (by rw [Tryd.ntmps16]; exact Nat.le_add_left 1 _) ?_; rw [Tryd.ntmps16]
 refine qm ?_
 refine hk_region fun K hK=>runs_eval tab_ok ?_
 simp only [evz,fl,gp,tab,simprocAttr]
 refine fin_run ?_ (hK _ ?_)<;>clear hK K
 ·(first|exact trivial|omega|(simp only [In64] at *; omega)|(simp [In64] at *; omega)|(simp_all; done)|skip)
 refine qa (qm (qm ?_))
 refine hk_region fun K hK=>runs_eval tab_ok ?_
 simp only [evz,fl,gp,tab,simprocAttr]
 refine fin_stop trivial (runs_call (cf_ok h hc24) rfl rfl rfl (by simp only [dstOk,Nat.reduceLT]) (by repeat (first|exact trivial|constructor)) (runs_eval tab_ok ?_))
 simp only [evz,fl,gp,tab,simprocAttr]
 refine fin_run ?_ (hK _ ?_)<;>clear hK K
 ·(first|exact trivial|omega|(simp only [In64] at *; omega)|(simp [In64] at *; omega)|(simp_all; done)|skip)
 refine qa ?_
 refine hk_cond rfl (fun hC1=>?_) (fun hC1=>?_)
 ·(try simp only [nhs] at hC1)
  first|exact absurd rfl hC1|exact hC1.elim|cases hC1|(simp at hC1; done)
 (try simp only [nhs] at hC1)
 refine qh (qa (qm ?_))
 refine hk_region fun K hK=>runs_eval tab_ok ?_
 simp only [evz,fl,gp,tab,simprocAttr]
 refine fin_stop trivial (runs_call (table_c h hc24) rfl rfl rfl (by simp only [dstOk,Nat.reduceLT]) (by repeat (first|exact trivial|constructor)) (runs_eval tab_ok ?_))
 simp only [evz,fl,gp,tab,simprocAttr]
 refine fin_run ?_ (hK _ ?_)<;>clear hK K
 ·(first|exact trivial|omega|(simp only [In64] at *; omega)|(simp [In64] at *; omega)|(simp_all; done)|skip)
 refine qa (qm ?_)
 refine hk_region fun K hK=>runs_eval tab_ok ?_
 simp only [evz,fl,gp,tab,simprocAttr]
 refine fin_stop trivial (runs_call (classesOf_c h) rfl rfl rfl (by simp only [dstOk,Nat.reduceLT]) (by repeat (first|exact trivial|constructor)) (runs_eval tab_ok ?_))
 simp only [evz,fl,gp,tab,simprocAttr]
 refine fin_run ?_ (hK _ ?_)<;>clear hK K
 ·(first|exact trivial|omega|(simp only [In64] at *; omega)|(simp [In64] at *; omega)|(simp_all; done)|skip)
 refine qa (qm (qm ?_))
 refine hk_region fun K hK=>runs_eval tab_ok ?_
 simp only [evz,fl,gp,tab,simprocAttr,ll_length,hll,t3]
 refine fin_stop trivial (runs_call (refMod_c h) rfl rfl rfl (by simp only [dstOk,Nat.reduceLT]) (by repeat (first|exact trivial|constructor)) (runs_eval tab_ok ?_))
 simp only [evz,fl,gp,tab,simprocAttr,ll_length,hll,t3]
 refine fin_run ?_ (hK _ ?_)<;>clear hK K
 ·(first|exact trivial|omega|(simp only [In64] at *; omega)|(simp [In64] at *; omega)|(simp_all; done)|skip)
 refine qa ?_
 refine hk_cond rfl (fun hC2=>?_) (fun hC2=>?_)
 ·(try simp only [nhs] at hC2)
  first|exact absurd rfl hC2|omega|cases hC2
 (try simp only [nhs] at hC2)
 refine qh (qa (qm (qm ?_)))
 refine hk_region fun K hK=>runs_eval tab_ok ?_
 simp only [evz,fl,gp,tab,simprocAttr]
 refine fin_run trivial (hK _ ?_)<;>clear hK K
 refine qa (ql ?_)
 refine hk_loop (ι:=Nat) (fun i=>⟨82,[(6,.p (.int .i64 (clP m n e:Nat))),(7,.p (.list (ll (chT m n e)))),(9,.p (.list (ll (clL m n e)))),(10,.p (.int .i64 i))],[]⟩) (fun i=>i≤clN m n e) (fun i=>clN m n e - i) 0 (Nat.zero_le _) [] (by simp only [leq,leA,evz,fl,gp,tab,simprocAttr]<;>first|trivial|skip) fun i hi=>?_
 refine qm (qm ?_)
 refine hk_region fun K hK=>runs_eval tab_ok ?_
 simp only [evz,fl,gp,tab,simprocAttr,ll_length,t3]
 refine fin_run trivial (hK _ ?_)<;>clear hK K
 refine qa ?_
 refine hk_cond rfl (fun hC3=>?_) (fun hC3=>?_)
 ·(try simp only [nhs] at hC3)
  have hil:i < (chT m n e).length:=by omega
  obtain ⟨r,hr⟩:∃ r,(chT m n e).getD i []=r:=⟨_,rfl⟩
  have hrl:r.length=clN m n e:=by rw [← hr]; exact (t4 _ (mem_getD hil)).1
  have hrg:rgp (clP m n e) r:=by rw [← hr]; exact (t4 _ (mem_getD hil)).2
  refine qh (qa (qm (ql (qm (qm ?_)))))
  refine hk_region fun K hK=>runs_eval tab_ok ?_
  simp only [evz,fl,gp,tab,simprocAttr,ll_length,ll_get hil,hr,il_length,hrl,hll]
  refine fin_run ?_ (hK _ ?_)<;>clear hK K
  ·(first|exact trivial|omega|(simp only [In64] at *; omega)|(simp [In64] at *; omega)|(simp_all; done)|skip)
  refine qa ?_
  refine hk_cond rfl (fun hC4=>?_) (fun hC4=>?_)
  ·(try simp only [nhs] at hC4)
   cases hC4
  (try simp only [nhs] at hC4)
  refine qh (qa (qm ?_))
  refine hk_region fun K hK=>runs_eval tab_ok ?_
  simp only [evz,fl,gp,tab,simprocAttr]
  refine fin_run trivial (hK _ ?_)<;>clear hK K
  refine qa (ql ?_)
  refine hk_loop (ι:=Nat) (fun k=>⟨82,[(6,.p (.int .i64 (clP m n e:Nat))),(7,.p (.list (ll (chT m n e)))),(9,.p (.list (ll (clL m n e)))),(10,.p (.int .i64 i)),(11,.p (.int .i64 k))],[]⟩) (fun k=>k≤clN m n e) (fun k=>clN m n e - k) 0 (Nat.zero_le _) [] (by simp only [leq,leA,evz,fl,gp,tab,simprocAttr]<;>first|trivial|skip) fun k hk=>?_
  refine qm (qm ?_)
  refine hk_region fun K hK=>runs_eval tab_ok ?_
  simp only [evz,fl,gp,tab,simprocAttr,ll_length,hll]
  refine fin_run trivial (hK _ ?_)<;>clear hK K
  refine qa ?_
  refine hk_cond rfl (fun hC5=>?_) (fun hC5=>?_)
  ·(try simp only [nhs] at hC5)
   have hkl:k < r.length:=by omega
   have hrk:=hrg k
   refine qh (qa (qm (ql (qm ?_))))
   refine hk_region fun K hK=>runs_eval tab_ok ?_
   simp only [evz,fl,gp,tab,simprocAttr,ll_length,ll_get hil,hr,il_get hkl,decide_eq_false (show ¬ r.getD k 0 < 0 by omega)]
   refine fin_run ?_ (hK _ ?_)<;>clear hK K
   ·omega
   refine qa ?_
   refine hk_cond rfl (fun hC6=>?_) (fun hC6=>?_)
   ·(try simp only [nhs] at hC6)
    omega
   (try simp only [nhs] at hC6)
   refine qh (qd (qa ?_))
   refine hk_region fun K hK=>runs_eval tab_ok ?_
   simp only [evz,fl,gp,tab,simprocAttr]
   refine fin_run ?_ (hK _ ?_)<;>clear hK K
   ·(first|exact trivial|omega|(simp only [In64] at *; omega)|(simp [In64] at *; omega)|(simp_all; done)|skip)
   refine qa ?_
   refine ⟨k + 1,[],by omega,by omega,by simp only [leq,leA,evz,fl,gp,tab,simprocAttr]<;>first|trivial|omega|skip⟩
  (try simp only [nhs] at hC5)
  refine qj (qc (qc (qf (qd (qa ?_)))))
  refine hk_region fun K hK=>runs_eval tab_ok ?_
  simp only [evz,fl,gp,tab,simprocAttr]
  refine fin_run ?_ (hK _ ?_)<;>clear hK K
  ·(first|exact trivial|omega|(simp only [In64] at *; omega)|(simp [In64] at *; omega)|(simp_all; done)|skip)
  refine qa ?_
  refine ⟨i + 1,[],by omega,by omega,by simp only [leq,leA,evz,fl,gp,tab,simprocAttr]<;>first|trivial|omega|skip⟩
 (try simp only [nhs] at hC3)
 refine qj (qc (qc (qf (qa (qm ?_)))))
 refine hk_region fun K hK=>runs_eval tab_ok ?_
 simp only [evz,fl,gp,tab,simprocAttr]
 refine fin_run trivial (hK _ ?_)<;>clear hK K
 refine qa (qk ?_)
 simp only [Tryd.results16,enA,evz,fl,gp,tab,simprocAttr]
 all_goals ((first|exact rfl|exact ⟨rfl,rfl⟩|exact ⟨rfl,rfl,rfl⟩|exact ⟨trivial,rfl⟩|exact ⟨Nat.le_refl _,rfl⟩|trivial|(simp; done)))
end Go.Proofs.YtjlmpmidchddjaaDoor

namespace Go.Proofs.YtjlmpmidchddjaaDoor
open Go.Pv
open Lean.Grind
attribute [local instance] Lean.Grind.Semiring.natCast Lean.Grind.Ring.intCast
section
variable {K:Type} [CommRing K] {p:Nat}
theorem eqK (R:Rp K p) {x y:Int} (hx:0≤x∧x < p) (hy:0≤y∧y < p) (h:(x:K)=(y:K)):x=y:=by
 have h1:(((x - y):Int):K)=0:=by rw [Ring.intCast_sub,h]; grind
 rw [R.ker] at h1
 obtain ⟨k,hk⟩:=Int.dvd_of_emod_eq_zero h1
 have:k=0:=by
  refine Int.le_antisymm (Int.le_of_not_gt fun h=>?_) (Int.le_of_not_gt fun h=>?_)
  ·have:(p:Int) * 1≤(p:Int) * k:=Int.mul_le_mul_of_nonneg_left (by omega) (by omega)
   omega
  have:(p:Int) * k≤(p:Int) * (-1):=Int.mul_le_mul_of_nonneg_left (by omega) (by omega)
  omega
 subst this
 omega
end
end Go.Proofs.YtjlmpmidchddjaaDoor

namespace Go.Proofs.YtjlmpmidchddjaaDoor
open Lean.Grind
attribute [local instance] Lean.Grind.Semiring.natCast Lean.Grind.Ring.intCast
section
variable {n e c:Nat} {f:Nat→Nat→Nat} {cI xx:Nat→Nat} {K:Type} [CommRing K]
theorem GC.bar (h:GC n f e c cI xx) {t:Nat→K} (ht:Chr n f e cI t):Chr n f e cI (fun a=>t (iv n f e a)):=by
 have G:=h.G
 refine ⟨fun a b ha hb hab=>ht.cl _ _ (G.iv_lt ha) (G.iv_lt hb) ((h.ivc ha hb).1 hab),by show t (iv n f e e)=1; rw [G.iv_one]; exact ht.one,fun a b ha hb=>?_⟩
 rw [← ht.mul _ _ (G.iv_lt ha) (G.iv_lt hb)]
 refine sm_congr fun y hy=>?_
 have hj:=G.iv_lt hy
 have e1:iv n f e (f (cjg n f e y a) b)=f (iv n f e b) (cjg n f e y (iv n f e a)):=by
  rw [G.iv_prod (h.cjl hy ha) hb]
  congr 1
  unfold cjg
  rw [G.iv_prod (G.cl _ _ hj ha) hy,G.iv_prod hj ha,G.iv_iv hy,G.assoc _ _ _ hj (G.iv_lt ha) hy]
 show t (iv n f e (f (cjg n f e y a) b))=t (f (cjg n f e y (iv n f e a)) (iv n f e b))
 rw [e1,h.cjT ht.cl (G.iv_lt hb) (h.cjl hy (G.iv_lt ha))]
theorem GC.real (h:GC n f e c cI xx) (F:Fld K) (hn:(n:K) ≠ 0) {t:Nat→K} (ht:Chr n f e cI t):(∀ a,a < n→t a=t (iv n f e a))∨prT n f e t (fun a=>t (iv n f e a)) e=0:=by
 by_cases hr:∀ a,a < n→t a=t (iv n f e a)
 ·exact .inl hr
 refine .inr ?_
 have:∃ a,a < n∧t a ≠ t (iv n f e a):=Classical.byContradiction fun hc=>hr fun a ha=>Classical.byContradiction fun hc2=>hc ⟨a,ha,hc2⟩
 obtain ⟨a,ha,hne⟩:=this
 exact h.orth F hn ht (h.bar ht) ha hne h.G.el
end
section
variable {n e:Nat} {m:List Int}
variable [NeZero (clP m n e)]
end
end Go.Proofs.YtjlmpmidchddjaaDoor

namespace Go.Proofs.YtjlmpmidchddjaaDoor
open Go.Pv
open Lean.Grind
attribute [local instance] Lean.Grind.Semiring.natCast Lean.Grind.Ring.intCast
section
variable {K:Type} [CommRing K]
end
end Go.Proofs.YtjlmpmidchddjaaDoor

namespace Go.Proofs.YtjlmpmidchddjaaDoor
open Lean.Grind
attribute [local instance] Lean.Grind.Semiring.natCast Lean.Grind.Ring.intCast
section
variable {n e c:Nat} {f:Nat→Nat→Nat} {cI xx:Nat→Nat} {K:Type} [CommRing K] {p:Nat}
def Sup (n:Nat) (a:Nat→K):Prop:=∀ x,n≤x→a x=0
def dl (K:Type) [CommRing K] (g x:Nat):K:=if x=g then 1 else 0
def cv (n:Nat) (f:Nat→Nat→Nat) (e:Nat) (a b:Nat→K) (x:Nat):K:=if x < n then sm (fun y=>a y * b (f (iv n f e y) x)) n else 0
theorem Sup.ext {a b:Nat→K} (ha:Sup n a) (hb:Sup n b) (h:∀ x,x < n→a x=b x):a=b:=by
 funext x
 by_cases hx:x < n
 ·exact h x hx
 rw [ha x (by omega),hb x (by omega)]
theorem Sup.zero:Sup n (fun _=>(0:K)):=fun _ _=>rfl
theorem Sup.add {a b:Nat→K} (ha:Sup n a) (hb:Sup n b):Sup n fun x=>a x + b x:=fun x hx=>by simp only [ha x hx,hb x hx]; grind
theorem Sup.smul {a:Nat→K} (k:K) (ha:Sup n a):Sup n fun x=>k * a x:=fun x hx=>by simp only [ha x hx]; grind
theorem dl_sup {g:Nat} (hg:g < n):Sup n (dl K g):=fun x hx=>if_neg (by omega)
theorem cv_sup (a b:Nat→K):Sup n (cv n f e a b):=fun x hx=>if_neg (by omega)
theorem cv_at (a b:Nat→K) {x:Nat} (hx:x < n):cv n f e a b x=sm (fun y=>a y * b (f (iv n f e y) x)) n:=if_pos hx
theorem cv_congr (h:GC n f e c cI xx) {a a' b b' : Nat→K} (ha:∀ x,x < n→a x=a' x) (hb:∀ x,x < n→b x=b' x):cv n f e a b=cv n f e a' b':=
 (cv_sup a b).ext (cv_sup a' b') fun x hx=>by
  rw [cv_at _ _ hx,cv_at _ _ hx]
  exact sm_congr fun y hy=>by rw [ha y hy,hb _ (h.G.cl _ _ (h.G.iv_lt hy) hx)]
theorem cv_addl (a a' b:Nat→K):cv n f e (fun x=>a x + a' x) b=fun x=>cv n f e a b x + cv n f e a' b x:=by
 funext x
 unfold cv
 by_cases hx:x < n
 ·simp only [if_pos hx]
  rw [← sm_add]; exact sm_congr fun y _=>by grind
 simp only [if_neg hx]; grind
theorem cv_addr (a b b' : Nat→K):cv n f e a (fun x=>b x + b' x)=fun x=>cv n f e a b x + cv n f e a b' x:=by
 funext x
 unfold cv
 by_cases hx:x < n
 ·simp only [if_pos hx]
  rw [← sm_add]; exact sm_congr fun y _=>by grind
 simp only [if_neg hx]; grind
theorem cv_smull (k:K) (a b:Nat→K):cv n f e (fun x=>k * a x) b=fun x=>k * cv n f e a b x:=by
 funext x
 unfold cv
 by_cases hx:x < n
 ·simp only [if_pos hx]
  rw [← sm_mul]; exact sm_congr fun y _=>by grind
 simp only [if_neg hx]; grind
theorem cv_smulr (k:K) (a b:Nat→K):cv n f e a (fun x=>k * b x)=fun x=>k * cv n f e a b x:=by
 funext x
 unfold cv
 by_cases hx:x < n
 ·simp only [if_pos hx]
  rw [← sm_mul]; exact sm_congr fun y _=>by grind
 simp only [if_neg hx]; grind
theorem cv_0l (b:Nat→K):cv n f e (fun _=>0) b=fun _=>0:=by
 have:=cv_smull (n:=n) (f:=f) (e:=e) (0:K) (fun _=>0) b
 have e1:(fun _:Nat=>(0:K) * 0)=fun _=>0:=by funext x; grind
 rw [e1] at this
 rw [this]; funext x; grind
theorem cv_0r (b:Nat→K):cv n f e b (fun _=>0)=fun _=>0:=by
 have:=cv_smulr (n:=n) (f:=f) (e:=e) (0:K) b (fun _=>0)
 have e1:(fun _:Nat=>(0:K) * 0)=fun _=>0:=by funext x; grind
 rw [e1] at this
 rw [this]; funext x; grind
theorem cv_sml (F:Nat→Nat→K) (b:Nat→K) (m:Nat):cv n f e (fun x=>sm (fun g=>F g x) m) b=fun x=>sm (fun g=>cv n f e (F g) b x) m:=by
 induction m with
 | zero=>exact cv_0l b
 | succ m ih =>
  show cv n f e (fun x=>(fun x=>sm (fun g=>F g x) m) x + F m x) b=_
  rw [cv_addl,ih]; rfl
theorem cv_smr (F:Nat→Nat→K) (b:Nat→K) (m:Nat):cv n f e b (fun x=>sm (fun g=>F g x) m)=fun x=>sm (fun g=>cv n f e b (F g) x) m:=by
 induction m with
 | zero=>exact cv_0r b
 | succ m ih =>
  show cv n f e b (fun x=>(fun x=>sm (fun g=>F g x) m) x + F m x)=_
  rw [cv_addr,ih]; rfl
theorem GC.cva (h:GC n f e c cI xx) (a b d:Nat→K):cv n f e (cv n f e a b) d=cv n f e a (cv n f e b d):=by
 have G:=h.G
 refine (cv_sup _ _).ext (cv_sup _ _) fun x hx=>?_
 rw [cv_at _ _ hx,cv_at _ _ hx]
 have e1:∀ y,y < n→cv n f e a b y * d (f (iv n f e y) x)=sm (fun z=>a z * b (f (iv n f e z) y) * d (f (iv n f e y) x)) n:=fun y hy=>by
  rw [cv_at _ _ hy,← sm_mulr]
 rw [sm_congr e1,sm_comm]
 refine sm_congr fun z hz=>?_
 have hzx:=G.cl _ _ (G.iv_lt hz) hx
 rw [cv_at _ _ hzx,← sm_mul,← h.sumL hz fun y=>a z * b (f (iv n f e z) y) * d (f (iv n f e y) x)]
 refine sm_congr fun w hw=>?_
 rw [h.can1 hz hw,G.iv_prod hz hw,G.assoc _ _ _ (G.iv_lt hw) (G.iv_lt hz) hx]
 grind
theorem GC.cvdl (h:GC n f e c cI xx) (a:Nat→K) {g x:Nat} (hg:g < n) (hx:x < n):cv n f e (dl K g) a x=a (f (iv n f e g) x):=by
 rw [cv_at _ _ hx,sm_one hg fun y _ hne=>by unfold dl; rw [if_neg hne]; grind]
 unfold dl; rw [if_pos rfl]; grind
theorem GC.cvdr (h:GC n f e c cI xx) (a:Nat→K) {g x:Nat} (hg:g < n) (hx:x < n):cv n f e a (dl K g) x=a (f x (iv n f e g)):=by
 have G:=h.G
 have hm:=G.cl _ _ hx (G.iv_lt hg)
 rw [cv_at _ _ hx,sm_one hm fun y hy hne=>?_]
 ·have:f (iv n f e (f x (iv n f e g))) x=g:=by
   rw [G.iv_prod hx (G.iv_lt hg),G.iv_iv hg,G.assoc _ _ _ hg (G.iv_lt hx) hx,G.iv_mul hx,G.one_r _ hg]
  unfold dl; rw [this,if_pos rfl]; grind
 unfold dl
 rw [if_neg fun he=>hne ?_]
 ·grind
 have h1:=h.can2 hy hx
 rw [he] at h1
 rw [← h1,h.can3 hg hy]
theorem GC.cv1l (h:GC n f e c cI xx) {a:Nat→K} (ha:Sup n a):cv n f e (dl K e) a=a:=
 (cv_sup _ _).ext ha fun x hx=>by rw [h.cvdl a h.G.el hx,h.G.iv_one,h.G.one_l x hx]
theorem GC.cv1r (h:GC n f e c cI xx) {a:Nat→K} (ha:Sup n a):cv n f e a (dl K e)=a:=
 (cv_sup _ _).ext ha fun x hx=>by rw [h.cvdr a h.G.el hx,h.G.iv_one,h.G.one_r x hx]
theorem GC.cve (h:GC n f e c cI xx) (a b:Nat→K):cv n f e a b e=cv n f e b a e:=by
 have G:=h.G
 rw [cv_at _ _ G.el,cv_at _ _ G.el,← h.sumI fun y=>a y * b (f (iv n f e y) e)]
 exact sm_congr fun y hy=>by rw [G.iv_iv hy,G.one_r y hy,G.one_r _ (G.iv_lt hy)]; grind
theorem GC.cvT (h:GC n f e c cI xx) {T:Nat→K} (hT:ClF n cI T) (a:Nat→K):cv n f e T a=cv n f e a T:=by
 have G:=h.G
 refine (cv_sup _ _).ext (cv_sup _ _) fun x hx=>?_
 rw [cv_at _ _ hx,cv_at _ _ hx,← h.sumL hx fun y=>T y * a (f (iv n f e y) x),← h.sumI fun y=>T (f x y) * a (f (iv n f e (f x y)) x)]
 refine sm_congr fun w hw=>?_
 have hi:=G.iv_lt hw
 have e1:f (iv n f e (f x (iv n f e w))) x=w:=by
  rw [G.iv_prod hx hi,G.iv_iv hw,G.assoc _ _ _ hw (G.iv_lt hx) hx,G.iv_mul hx,G.one_r _ hw]
 rw [e1,h.cjT hT hx hi]; grind
def pc (n:Nat) (f:Nat→Nat→Nat) (e:Nat) (u:Nat→K):Nat→Nat→K
 | 0=>dl K e
 | k + 1=>cv n f e u (pc n f e u k)
theorem GC.pc_sup (h:GC n f e c cI xx) (u:Nat→K):∀ k,Sup n (pc n f e u k)
 | 0=>dl_sup h.G.el
 | k + 1=>cv_sup _ _
theorem GC.pc_add (h:GC n f e c cI xx) (u:Nat→K) (j:Nat):∀ i,pc n f e u (i + j)=cv n f e (pc n f e u i) (pc n f e u j)
 | 0=>by rw [Nat.zero_add]; exact (h.cv1l (h.pc_sup u j)).symm
 | i + 1=>by
  rw [show i + 1 + j=(i + j) + 1 by omega]
  show cv n f e u (pc n f e u (i + j))=cv n f e (cv n f e u (pc n f e u i)) _
  rw [h.pc_add u j i,h.cva]
def prU (u:Nat→K):List Nat→K
 | []=>1
 | y :: w=>u y * prU u w
theorem prU_app (u:Nat→K) (w w' : List Nat):prU u (w++w')=prU u w * prU u w':=by
 induction w with
 | nil=>show _=1 * _; rw [List.nil_append]; grind
 | cons y w ih=>show u y * prU u (w++w')=u y * prU u w * _; rw [ih]; grind
theorem prU_rep (u:Nat→K) (x:Nat):∀ k,prU u (List.replicate k x)=u x ^ k
 | 0=>by rw [Semiring.pow_zero]; rfl
 | k + 1=>by
  rw [List.replicate_succ,Semiring.pow_succ]
  show u x * prU u (List.replicate k x)=_
  rw [prU_rep u x k]; grind
theorem GC.pc_words (h:GC n f e c cI xx) (u:Nat→K):∀ k x,x < n→pc n f e u k x=sW (List.range n) k fun w=>prU u w * if prW f w e=x then 1 else 0
 | 0,x,hx=>by
  show dl K e x=prU u [] * if e=x then 1 else 0
  unfold dl prU
  by_cases hxe:x=e
  ·rw [if_pos hxe,if_pos hxe.symm]; grind
  rw [if_neg hxe,if_neg (fun h=>hxe h.symm)]; grind
 | k + 1,x,hx=>by
  have G:=h.G
  show cv n f e u (pc n f e u k) x=sl (List.range n) _
  rw [cv_at _ _ hx,sl_range]
  refine sm_congr fun y hy=>?_
  rw [h.pc_words u k _ (G.cl _ _ (G.iv_lt hy) hx),← sW_mul]
  refine sW_congr fun w _ hw=>?_
  have hwn:=h.prl (fun z hz=>List.mem_range.1 (hw z hz)) G.el
  show _=u y * prU u w * if f y (prW f w e)=x then 1 else 0
  by_cases hq:prW f w e=f (iv n f e y) x
  ·rw [if_pos hq,if_pos (by rw [hq,h.can2 hy hx])]; grind
  rw [if_neg hq,if_neg fun hh=>hq (by rw [← hh,h.can1 hy hwn])]; grind
theorem GC.pc_p (h:GC n f e c cI xx) (R:Rp K p) (hcz:∀ a:Nat,0 < a→a < p→(a:K) ≠ 0) (hpw:∀ a,a < n→pw f e a p=a) (hfr:∀ a:K,a ^ p=a) (u:Nat→K):pc n f e u p e=u e:=by
 have G:=h.G
 let F:List Nat→K:=fun w=>if ∀ y∈w,y < n then prU u w * (if prW f w e=e then 1 else 0) else 0
 have hF:∀ w,F (rot1 w)=F w:=fun w=>by
  cases w with
  | nil=>rfl
  | cons y w =>
   simp only [F,rot1]
   by_cases hw:∀ z∈y :: w,z < n
   ·have hw2:∀ z∈w++[y],z < n:=fun z hz=>hw z (by
     rcases List.mem_append.1 hz with hz | hz
     ·simp [hz]
     simp [List.mem_singleton.1 hz])
    rw [if_pos hw,if_pos hw2,prW_app,prU_app]
    have hy:=hw y (by simp)
    have hw3:∀ z∈w,z < n:=fun z hz=>hw z (by simp [hz])
    have e1:prW f [y] e=y:=G.one_r y hy
    have e2:prU u [y]=u y:=by show u y * 1=_; grind
    have e3:prU u (y :: w)=u y * prU u w:=rfl
    have e4:prW f (y :: w) e=f y (prW f w e):=rfl
    rw [e1,e2,e3,e4,h.prm hw3 hy]
    have hl:=h.prl hw3 G.el
    by_cases hq:f (prW f w e) y=e
    ·have:f y (prW f w e)=e:=by
      have h1:=G.iv_unique hy hl (.inr hq)
      rw [h1,G.mul_iv hy]
     rw [if_pos hq,if_pos this]; grind
    have:¬ f y (prW f w e)=e:=fun hh=>hq (by
     have h1:=G.iv_unique hy hl (.inl hh)
     rw [h1,G.iv_mul hy])
    rw [if_neg hq,if_neg this]; grind
   have hw2:¬ ∀ z∈w++[y],z < n:=fun hh=>hw fun z hz=>hh z (by
    rcases List.mem_cons.1 hz with hz | hz
    ·simp [hz]
    simp [hz])
   rw [if_neg hw,if_neg hw2]
 have e1:pc n f e u p e=sW (List.range n) p F:=by
  rw [h.pc_words u p e G.el]
  refine sW_congr fun w _ hw=>?_
  simp only [F]
  rw [if_pos fun y hy=>List.mem_range.1 (hw y hy)]
 rw [e1,sW_turn R.fld (by have:=R.two; omega) R.ch hcz (List.nodup_range) hF,sl_range,sm_one (i:=e) G.el fun g hg hne=>?_]
 ·simp only [F]
  rw [if_pos fun y hy=>by rw [List.eq_of_mem_replicate hy]; exact G.el,h.prr G.el,hpw e G.el,if_pos rfl,prU_rep,hfr]; grind
 simp only [F]
 rw [if_pos fun y hy=>by rw [List.eq_of_mem_replicate hy]; exact hg,h.prr hg,hpw g hg,if_neg hne]; grind
end
end Go.Proofs.YtjlmpmidchddjaaDoor

namespace Go.Proofs.YtjlmpmidchddjaaDoor
open Lean.Grind
attribute [local instance] Lean.Grind.Semiring.natCast Lean.Grind.Ring.intCast
section
variable {n:Nat} {K:Type} [CommRing K] {p:Nat}
theorem sup_pts {w:Nat→K} (hs:Sup n w) (k:Nat):w k=sm (fun i=>w i * if k=i then 1 else 0) n:=by
 by_cases hk:k < n
 ·rw [sm_one hk fun i _ hne=>by rw [if_neg (fun e=>hne e.symm)]; grind,if_pos rfl]; grind
 rw [hs k (by omega)]
 exact (sm_zero fun i hi=>by rw [if_neg (by omega)]; grind).symm
theorem bas_step (F:Fld K) {P:(Nat→K)→Prop} (hP:LSub P) (hn:∀ v,P v→Sup n v):∀ d q (y:Nat→Nat→K),IndV y q→(∀ j,j < q→P (y j))→n - q=d→q≤n →
  ∃ q y,q≤n∧IndV y q∧(∀ j,j < q→P (y j))∧∀ v,P v→∃ C:Nat→K,∀ k,v k=sm (fun i=>C i * y i k) q:=by
 intro d
 induction d with
 | zero =>
  intro q y hy hp hd hqn
  refine Classical.byContradiction fun hno=>?_
  have h1:¬ ∀ v,P v→∃ C:Nat→K,∀ k,v k=sm (fun i=>C i * y i k) q:=fun hh=>hno ⟨q,y,hqn,hy,hp,hh⟩
  obtain ⟨v,hv⟩:=Classical.not_forall.1 h1
  obtain ⟨hv1,hv2⟩:=Classical.not_imp.1 hv
  have hy2:IndV (fun j=>if j=q then v else y j) (q + 1):=fun x hx=>by
   have e0:∀ k,sm (fun j=>x j * y j k) q + x q * v k=0:=fun k=>by
    have:=hx k
    rw [sm] at this
    simp only [if_pos] at this
    rw [← this]
    congr 1
    exact sm_congr fun j hj=>by rw [if_neg (by omega)]
   have h0:x q=0:=Classical.byContradiction fun hc=>by
    obtain ⟨b,hb⟩:=F.1 _ hc
    refine hv2 ⟨fun j=>-b * x j,fun k=>?_⟩
    have e1:sm (fun i=>-b * x i * y i k) q = -b * sm (fun j=>x j * y j k) q:=by rw [← sm_mul]; exact sm_congr fun i _=>by grind
    rw [e1]
    have:=e0 k
    grind
   intro j hj
   by_cases hjq:j=q
   ·rw [hjq]; exact h0
   exact hy x (fun k=>by have:=e0 k; rw [h0] at this; grind) j (by omega)
  have:=ind_le F hy2 (z:=fun i j=>if j=i then 1 else 0) (r:=n) fun j hj=>⟨(fun j=>if j=q then v else y j) j,sup_pts (by
    by_cases hjq:j=q
    ·simp only [if_pos hjq]; exact hn _ hv1
    simp only [if_neg hjq]; exact hn _ (hp j (by omega)))⟩
  omega
 | succ d ih =>
  intro q y hy hp hd hqn
  refine Classical.byContradiction fun hno=>?_
  have h1:¬ ∀ v,P v→∃ C:Nat→K,∀ k,v k=sm (fun i=>C i * y i k) q:=fun hh=>hno ⟨q,y,hqn,hy,hp,hh⟩
  obtain ⟨v,hv⟩:=Classical.not_forall.1 h1
  obtain ⟨hv1,hv2⟩:=Classical.not_imp.1 hv
  have hy2:IndV (fun j=>if j=q then v else y j) (q + 1):=fun x hx=>by
   have e0:∀ k,sm (fun j=>x j * y j k) q + x q * v k=0:=fun k=>by
    have:=hx k
    rw [sm] at this
    simp only [if_pos] at this
    rw [← this]
    congr 1
    exact sm_congr fun j hj=>by rw [if_neg (by omega)]
   have h0:x q=0:=Classical.byContradiction fun hc=>by
    obtain ⟨b,hb⟩:=F.1 _ hc
    refine hv2 ⟨fun j=>-b * x j,fun k=>?_⟩
    have e1:sm (fun i=>-b * x i * y i k) q = -b * sm (fun j=>x j * y j k) q:=by rw [← sm_mul]; exact sm_congr fun i _=>by grind
    rw [e1]
    have:=e0 k
    grind
   intro j hj
   by_cases hjq:j=q
   ·rw [hjq]; exact h0
   exact hy x (fun k=>by have:=e0 k; rw [h0] at this; grind) j (by omega)
  exact hno (ih (q + 1) _ hy2 (fun j hj=>by
   by_cases hjq:j=q
   ·simp only [if_pos hjq]; exact hv1
   simp only [if_neg hjq]; exact hp j (by omega)) (by omega) (by omega))
theorem bas (F:Fld K) {P:(Nat→K)→Prop} (hP:LSub P) (hn:∀ v,P v→Sup n v) :
  ∃ q y,q≤n∧IndV y q∧(∀ j,j < q→P (y j))∧∀ v,P v→∃ C:Nat→K,∀ k,v k=sm (fun i=>C i * y i k) q:=
 bas_step F hP hn n 0 (fun _ _=>0) (fun x hx j hj=>absurd hj (Nat.not_lt_zero _)) (fun j hj=>absurd hj (Nat.not_lt_zero _)) (by omega) (Nat.zero_le _)
theorem IndV.uni {y:Nat→Nat→K} {q:Nat} (h:IndV y q) {C C' : Nat→K} (he:∀ k,sm (fun i=>C i * y i k) q=sm (fun i=>C' i * y i k) q):∀ i,i < q→C i=C' i:=fun i hi=>by
 have:=h (fun i=>C i - C' i) (fun k=>by
  have e1:sm (fun j=>(C j - C' j) * y j k) q=sm (fun i=>C i * y i k) q - sm (fun i=>C' i * y i k) q:=by rw [← sm_sub]; exact sm_congr fun j _=>by grind
  rw [e1,he]; grind) i hi
 grind
theorem LSub.smm {P:(Nat→K)→Prop} (hP:LSub P) (C:Nat→K) (y:Nat→Nat→K):∀ q,(∀ j,j < q→P (y j))→P fun k=>sm (fun i=>C i * y i k) q
 | 0,_=>hP.zero
 | q + 1,h=>by
  show P fun k=>(fun k=>sm (fun i=>C i * y i k) q) k + (fun k=>C q * y q k) k
  exact hP.add _ _ (hP.smm C y q fun j hj=>h j (by omega)) (hP.smul _ _ (h q (by omega)))
def dgt (p m i:Nat):Nat:=m / p ^ i % p
theorem dgt_lt (hp:0 < p) (m i:Nat):dgt p m i < p:=Nat.mod_lt _ hp
theorem dgt_succ (m i:Nat):dgt p m (i + 1)=dgt p (m / p) i:=by
 unfold dgt
 rw [Nat.div_div_eq_div_mul,Nat.pow_succ,Nat.mul_comm]
theorem dgt_inj (hp:0 < p):∀ q m m',m < p ^ q→m' < p ^ q→(∀ i,i < q→dgt p m i=dgt p m' i)→m=m'
 | 0,m,m',h1,h2,_=>by rw [Nat.pow_zero] at h1 h2; omega
 | q + 1,m,m',h1,h2,h=>by
  have h3:=h 0 (by omega)
  unfold dgt at h3
  rw [Nat.pow_zero,Nat.div_one,Nat.div_one] at h3
  have h4:=dgt_inj hp q (m / p) (m' / p) (by rw [Nat.pow_succ] at h1; exact (Nat.div_lt_iff_lt_mul hp).2 h1) (by rw [Nat.pow_succ] at h2; exact (Nat.div_lt_iff_lt_mul hp).2 h2) fun i hi=>by
   rw [← dgt_succ,← dgt_succ]; exact h (i + 1) (by omega)
  rw [← Nat.div_add_mod m p,← Nat.div_add_mod m' p,h3,h4]
theorem dgt_sur (hp:0 < p):∀ q (C:Nat→Nat),(∀ i,C i < p)→∃ m,m < p ^ q∧∀ i,i < q→dgt p m i=C i
 | 0,C,_=>⟨0,by rw [Nat.pow_zero]; omega,fun i hi=>absurd hi (Nat.not_lt_zero _)⟩
 | q + 1,C,h=>by
  obtain ⟨m,h1,h2⟩:=dgt_sur hp q (fun i=>C (i + 1)) fun i=>h _
  refine ⟨C 0 + p * m,?_,fun i hi=>?_⟩
  ·have h3:p * (m + 1)≤p * p ^ q:=Nat.mul_le_mul_left p h1
   have h4:=h 0
   rw [Nat.mul_add] at h3
   rw [Nat.pow_succ,Nat.mul_comm (p ^ q)]
   omega
  cases i with
  | zero =>
   unfold dgt
   rw [Nat.pow_zero,Nat.div_one,Nat.add_mul_mod_self_left,Nat.mod_eq_of_lt (h 0)]
  | succ i =>
   rw [dgt_succ,Nat.add_mul_div_left _ _ hp,Nat.div_eq_of_lt (h 0),Nat.zero_add]
   exact h2 i (by omega)
theorem enum (R:Rp K p) (hsur:∀ a:K,∃ x:Nat,x < p∧(x:K)=a) {P:(Nat→K)→Prop} (hP:LSub P) (hn:∀ v,P v→Sup n v) :
  ∃ (q:Nat) (E:Nat→Nat→K),q≤n∧(∀ m,P (E m))∧(∀ m m',m < p ^ q→m' < p ^ q→E m=E m'→m=m')∧(∀ v,P v→∃ m,m < p ^ q∧E m=v)∧E 0=fun _=>0:=by
 have hp:0 < p:=by have:=R.two; omega
 obtain ⟨q,y,h1,h2,h3,h4⟩:=bas R.fld hP hn
 refine ⟨q,fun m k=>sm (fun i=>((dgt p m i:Nat):K) * y i k) q,h1,fun m=>hP.smm _ y q h3,fun m m' hm hm' he=>?_,fun v hv=>?_,?_⟩
 ·refine dgt_inj hp q m m' hm hm' fun i hi=>?_
  have h5:=h2.uni (fun k=>congrFun he k) i hi
  refine Classical.byContradiction fun hne=>R.ne (dgt_lt hp m i) (dgt_lt hp m' i) hne ?_
  rw [h5]; grind
 ·obtain ⟨C,hC⟩:=h4 v hv
  obtain ⟨c,hc⟩:=Classical.axiomOfChoice fun i=>hsur (C i)
  obtain ⟨m,m1,m2⟩:=dgt_sur hp q c fun i=>(hc i).1
  refine ⟨m,m1,funext fun k=>?_⟩
  rw [hC k]
  exact sm_congr fun i hi=>by rw [m2 i hi,(hc i).2]
 funext k
 refine sm_zero fun i _=>?_
 have:dgt p 0 i=0:=by unfold dgt; rw [Nat.zero_div,Nat.zero_mod]
 rw [this]; grind
theorem trc (F:Fld K) {A:(Nat→K)→Nat→K} (hA:Lin A) (hid:∀ u,Sup n u→A (A u)=A u) (hs:∀ u,Sup n (A u)) :
  ∃ v,v≤n∧sm (fun x=>A (dl K x) x) n=(v:K)∧(v=0→∀ u,Sup n u→A u=fun _=>0):=by
 have hP:LSub fun u=>Sup n u∧A u=u:=⟨⟨Sup.zero,hA.zero⟩,fun a b ha hb=>⟨ha.1.add hb.1,by rw [hA.1,ha.2,hb.2]⟩,fun k a ha=>⟨ha.1.smul k,by rw [hA.2,ha.2]⟩⟩
 obtain ⟨q,y,h1,h2,h3,h4⟩:=bas F hP fun v hv=>hv.1
 have h5:∀ u,∃ C:Nat→K,Sup n u→∀ k,A u k=sm (fun i=>C i * y i k) q:=fun u=>by
  by_cases hu:Sup n u
  ·obtain ⟨C,hC⟩:=h4 (A u) ⟨hs u,hid u hu⟩
   exact ⟨C,fun _=>hC⟩
  exact ⟨fun _=>0,fun h=>absurd h hu⟩
 obtain ⟨φ,hφ⟩:=Classical.axiomOfChoice h5
 refine ⟨q,h1,?_,fun h0 u hu=>?_⟩
 ·have e1:sm (fun x=>A (dl K x) x) n=sm (fun i=>sm (fun x=>φ (dl K x) i * y i x) n) q:=by
   rw [← sm_comm]
   exact sm_congr fun x hx=>hφ _ (dl_sup hx) x
  rw [e1]
  have e2:∀ i,i < q→sm (fun x=>φ (dl K x) i * y i x) n=1:=fun i hi=>by
   have e3:y i=fun k=>sm (fun x=>y i x * dl K x k) n:=by
    funext k
    by_cases hk:k < n
    ·rw [sm_one hk fun x _ hne=>by unfold dl; rw [if_neg (fun e=>hne e.symm)]; grind]
     unfold dl; rw [if_pos rfl]; grind
    rw [(h3 i hi).1 k (by omega)]
    exact (sm_zero fun x hx=>by unfold dl; rw [if_neg (by omega)]; grind).symm
   have e4:∀ k,sm (fun j=>(if j=i then (1:K) else 0) * y j k) q=sm (fun j=>sm (fun x=>φ (dl K x) j * y i x) n * y j k) q:=fun k=>by
    rw [sm_one hi fun j _ hne=>by rw [if_neg hne]; grind,if_pos rfl]
    have e5:y i k=A (y i) k:=by rw [(h3 i hi).2]
    have e6:A (y i)=fun k=>sm (fun x=>y i x * A (dl K x) k) n:=by
     rw [← hA.sm,← e3]
    have e7:sm (fun x=>y i x * A (dl K x) k) n=sm (fun x=>sm (fun j=>φ (dl K x) j * y i x * y j k) q) n:=sm_congr fun x hx=>by
     rw [hφ _ (dl_sup hx) k,← sm_mul]; exact sm_congr fun j _=>by grind
    have e8:sm (fun j=>sm (fun x=>φ (dl K x) j * y i x) n * y j k) q=sm (fun j=>sm (fun x=>φ (dl K x) j * y i x * y j k) n) q:=sm_congr fun j _=>by rw [← sm_mulr]
    rw [e5,e6,e8,← sm_comm,← e7]; grind
   have e9:=h2.uni e4 i hi
   rw [if_pos rfl] at e9
   exact e9.symm
  rw [sm_congr e2,sm_const]; grind
 funext k
 rw [hφ u hu k,h0]; rfl
end
end Go.Proofs.YtjlmpmidchddjaaDoor

namespace Go.Proofs.YtjlmpmidchddjaaDoor
def wedG (p d:Nat):Nat→Nat
 | 0=>p ^ d - 1
 | a + 1=>if 1≤a∧(p ^ d - 1) % (p ^ a - 1)=0 then Nat.gcd (wedG p d a) ((p ^ d - 1) / (p ^ a - 1)) else wedG p d a
def wedB:Bool:=prL.all fun p=>(List.range 61).all fun d=>decide (d < 2) || !decide ((p - 1) % wedG p d d=0)
theorem wedB_t:wedB=true:=by decide +kernel
def Wed (p d:Nat):Prop:=∃ ψ,ψ ∣ p ^ d - 1∧(∀ a,1≤a→a < d→(p ^ a - 1) ∣ (p ^ d - 1)→ψ ∣ (p ^ d - 1) / (p ^ a - 1))∧¬ ψ ∣ p - 1
theorem wedG_d (p d:Nat):∀ m,wedG p d m ∣ p ^ d - 1∧∀ a,1≤a→a < m→(p ^ a - 1) ∣ (p ^ d - 1)→wedG p d m ∣ (p ^ d - 1) / (p ^ a - 1)
 | 0=>⟨Nat.dvd_refl _,fun a _ h=>absurd h (Nat.not_lt_zero _)⟩
 | m + 1=>by
  obtain ⟨h1,h2⟩:=wedG_d p d m
  unfold wedG
  by_cases hc:1≤m∧(p ^ d - 1) % (p ^ m - 1)=0
  ·rw [if_pos hc]
   refine ⟨Nat.dvd_trans (Nat.gcd_dvd_left _ _) h1,fun a ha hm hd=>?_⟩
   by_cases e:a=m
   ·subst e; exact Nat.gcd_dvd_right _ _
   exact Nat.dvd_trans (Nat.gcd_dvd_left _ _) (h2 a ha (by omega) hd)
  rw [if_neg hc]
  refine ⟨h1,fun a ha hm hd=>?_⟩
  by_cases e:a=m
  ·subst e; exact absurd ⟨ha,Nat.mod_eq_zero_of_dvd hd⟩ hc
  exact h2 a ha (by omega) hd
theorem wed_of {p d:Nat} (hp:p∈prL) (h2:2≤d) (h3:d≤60):Wed p d:=by
 have h1:=wedB_t
 unfold wedB at h1
 rw [List.all_eq_true] at h1
 have h4:=List.all_eq_true.1 (h1 p hp) d (List.mem_range.2 (by omega))
 rw [Bool.or_eq_true] at h4
 have h5:=(h4.resolve_left fun h=>by have:=of_decide_eq_true h; omega)
 have h6:¬ (p - 1) % wedG p d d=0:=by simpa using h5
 obtain ⟨h7,h8⟩:=wedG_d p d d
 exact ⟨_,h7,h8,fun h=>h6 (Nat.mod_eq_zero_of_dvd h)⟩
end Go.Proofs.YtjlmpmidchddjaaDoor

namespace Go.Proofs.YtjlmpmidchddjaaDoor
open Lean.Grind
attribute [local instance] Lean.Grind.Semiring.natCast Lean.Grind.Ring.intCast
theorem mem_bij3 {n k:Nat} {P Q:Nat→Bool} (g:Nat→Nat) (h1:∀ x,x < n→P x=true→g x < k∧Q (g x)=true) (hi:∀ x y,x < n→y < n→P x=true→P y=true→g x=g y→x=y) (h2:∀ y,y < k→Q y=true→∃ x,x < n∧P x=true∧g x=y):(mem n P).length=(mem k Q).length:=by
 rw [← List.length_map (f:=g) («as»:=mem n P)]
 refine same_len (nodup_map (List.nodup_range.filter _) fun x hx y hy h=>?_) (List.nodup_range.filter _) fun y=>?_
 ·obtain ⟨a1,a2⟩:=mem_mem.1 hx
  obtain ⟨b1,b2⟩:=mem_mem.1 hy
  exact hi x y a1 b1 a2 b2 h
 rw [List.mem_map,mem_mem]
 constructor
 ·rintro ⟨x,hx,rfl⟩
  obtain ⟨a1,a2⟩:=mem_mem.1 hx
  exact h1 x a1 a2
 rintro ⟨a1,a2⟩
 obtain ⟨x,b1,b2,b3⟩:=h2 y a1 a2
 exact ⟨x,mem_mem.2 ⟨b1,b2⟩,b3⟩
theorem mem_tr (n:Nat):(mem n fun _=>true).length=n:=by unfold mem; rw [List.filter_eq_self.2 fun _ _=>rfl,List.length_range]
theorem sum_div {ψ:Nat} (g:Nat→Nat):∀ l:List Nat,(∀ x∈l,g x=1∨ψ ∣ g x)→ψ ∣ (l.map g).sum→ψ ∣ (l.filter fun x=>decide (g x=1)).length:=fun l h hs=>by
 have:∀ l:List Nat,(∀ x∈l,g x=1∨ψ ∣ g x)→∃ t,(l.map g).sum=(l.filter fun x=>decide (g x=1)).length + ψ * t:=by
  intro l
  induction l with
  | nil=>intro _; exact ⟨0,by simp⟩
  | cons x l ih =>
   intro h
   obtain ⟨t,ht⟩:=ih fun y hy=>h y (by simp [hy])
   by_cases h1:g x=1
   ·exact ⟨t,by rw [List.map_cons,List.sum_cons,ht,List.filter_cons,if_pos (by simp [h1]),List.length_cons,h1]; omega⟩
   obtain ⟨u,hu⟩:=(h x (by simp)).resolve_left h1
   exact ⟨t + u,by rw [List.map_cons,List.sum_cons,ht,List.filter_cons,if_neg (by simp [h1]),Nat.mul_add,← hu]; omega⟩
 obtain ⟨t,ht⟩:=this l h
 rw [ht] at hs
 exact (Nat.dvd_add_iff_left (Nat.dvd_mul_right ψ t)).2 hs
section
variable {n e c:Nat} {f:Nat→Nat→Nat} {cI xx:Nat→Nat} {K:Type} [CommRing K] {p:Nat}
theorem GC.wedd (h : GC n f e c cI xx) (R : Rp K p) (hsur : ∀ a : K, ∃ x : Nat, x < p ∧ (x : K) = a) (hw : ∀ d, 2 ≤ d → d ≤ n → Wed p d)
    {D : (Nat → K) → Prop} (hD : LSub D) (hn : ∀ v, D v → Sup n v) (cl : ∀ a b, D a → D b → D (cv n f e a b)) {k : Nat → K} (hk : D k) (k0 : k ≠ fun _ => 0) (k1 : ∀ a, D a → cv n f e k a = a) (k2 : ∀ a, D a → cv n f e a k = a)
    (inv : ∀ x, D x → x ≠ (fun _ => 0) → ∃ y, D y ∧ cv n f e x y = k) (cen0 : ∀ z, D z → (∀ w, D w → cv n f e z w = cv n f e w z) → ∃ a : K, z = fun x => a * k x) :
    ∀ x, D x → ∃ a : K, x = fun i => a * k i := by
  have hp : 2 ≤ p := R.two
  obtain ⟨δ, E, d1, d2, d3, d4, d5⟩ := enum R hsur hD hn
  have d4' : ∀ v, ∃ m, D v → m < p ^ δ ∧ E m = v := fun v => by
    by_cases hv : D v
    · obtain ⟨m, hm⟩ := d4 v hv; exact ⟨m, fun _ => hm⟩
    · exact ⟨0, fun h => absurd h hv⟩
  obtain ⟨cd, hcd⟩ := Classical.axiomOfChoice d4'
  have linv : ∀ x, D x → x ≠ (fun _ => 0) → ∃ y, D y ∧ y ≠ (fun _ => 0) ∧ cv n f e x y = k ∧ cv n f e y x = k := fun x hx hx0 => by
    obtain ⟨y, hy, h1⟩ := inv x hx hx0
    have hy0 : y ≠ fun _ => 0 := fun h0 => k0 (by rw [← h1, h0, cv_0r])
    obtain ⟨z, hz, h2⟩ := inv y hy hy0
    have h3 : z = x := by
      have := h.cva x y z
      rw [h1, h2, k1 z hz, k2 x hx] at this
      exact this
    exact ⟨y, hy, hy0, h1, h3 ▸ h2⟩
  have nz : ∀ a b, D a → D b → a ≠ (fun _ => 0) → b ≠ (fun _ => 0) → cv n f e a b ≠ fun _ => 0 := fun a b ha hb ha0 hb0 h0 => by
    obtain ⟨y, hy, _, _, h2⟩ := linv a ha ha0
    have := h.cva y a b
    rw [h0, h2, k1 b hb, cv_0r] at this
    exact hb0 this
  obtain ⟨M, hM⟩ : ∃ M, M = p ^ δ - 1 := ⟨_, rfl⟩
  have hpd : 0 < p ^ δ := Nat.pow_pos (by omega)
  have code : ∀ v, D v → v ≠ (fun _ => 0) → cd v - 1 < M ∧ E (cd v - 1 + 1) = v := fun v hv hv0 => by
    obtain ⟨h1, h2⟩ := hcd v hv
    have h3 : cd v ≠ 0 := fun h0 => hv0 (by rw [← h2, h0, d5])
    rw [show cd v - 1 + 1 = cd v by omega]
    exact ⟨by omega, h2⟩
  have elt : ∀ i, i < M → D (E (i + 1)) ∧ E (i + 1) ≠ fun _ => 0 := fun i hi => ⟨d2 _, fun h0 => by
    have := d3 (i + 1) 0 (by omega) hpd (by rw [h0, d5])
    omega⟩
  have ext : ∀ i j, i < M → j < M → E (i + 1) = E (j + 1) → i = j := fun i j hi hj he => by
    have := d3 _ _ (by omega) (by omega) he
    omega
  have cinj : ∀ i, i < M → cd (E (i + 1)) - 1 = i := fun i hi => by
    obtain ⟨h1, h2⟩ := elt i hi
    obtain ⟨h3, h4⟩ := code _ h1 h2
    exact ext _ _ h3 hi h4
  let fm : Nat → Nat → Nat := fun i j => cd (cv n f e (E (i + 1)) (E (j + 1))) - 1
  have fE : ∀ i j, i < M → j < M → fm i j < M ∧ E (fm i j + 1) = cv n f e (E (i + 1)) (E (j + 1)) := fun i j hi hj => by
    obtain ⟨a1, a2⟩ := elt i hi
    obtain ⟨b1, b2⟩ := elt j hj
    exact code _ (cl _ _ a1 b1) (nz _ _ a1 b1 a2 b2)
  obtain ⟨ck1, ck2⟩ := code k hk k0
  have G : Grp M fm (cd k - 1) := {
    pos := by omega
    cl := fun a b ha hb => (fE a b ha hb).1
    el := ck1
    one_l := fun a ha => ext _ _ (fE _ _ ck1 ha).1 ha (by rw [(fE _ _ ck1 ha).2, ck2, k1 _ (elt a ha).1])
    one_r := fun a ha => ext _ _ (fE _ _ ha ck1).1 ha (by rw [(fE _ _ ha ck1).2, ck2, k2 _ (elt a ha).1])
    assoc := fun a b d ha hb hd => by
      have h1 := fE a b ha hb
      have h2 := fE b d hb hd
      have h3 := fE _ d h1.1 hd
      have h4 := fE a _ ha h2.1
      exact ext _ _ h3.1 h4.1 (by rw [h3.2, h4.2, h1.2, h2.2, h.cva])
    inv := fun a ha => by
      obtain ⟨a1, a2⟩ := elt a ha
      obtain ⟨y, y1, y2, y3, y4⟩ := linv _ a1 a2
      obtain ⟨y5, y6⟩ := code y y1 y2
      have h1 := fE a _ ha y5
      have h2 := fE _ a y5 ha
      exact ⟨_, y5, ext _ _ h1.1 ck1 (by rw [h1.2, y6, y3, ck2]), ext _ _ h2.1 ck1 (by rw [h2.2, y6, y4, ck2])⟩ }
  have comE : ∀ x y, x < M → y < M → (fm y x = fm x y ↔ cv n f e (E (y + 1)) (E (x + 1)) = cv n f e (E (x + 1)) (E (y + 1))) := fun x y hx hy => by
    have h1 := fE y x hy hx
    have h2 := fE x y hx hy
    constructor
    · intro he; rw [← h1.2, ← h2.2, he]
    · intro he; exact ext _ _ h1.1 h2.1 (by rw [h1.2, h2.2, he])
  have cc : ∀ x, x < M → ∃ a, (mem M (cen fm x)).length = p ^ a - 1 := fun x hx => by
    obtain ⟨X, hX⟩ : ∃ X, E (x + 1) = X := ⟨_, rfl⟩
    have hL : LSub fun v => D v ∧ cv n f e v X = cv n f e X v := ⟨⟨hD.zero, by rw [cv_0l, cv_0r]⟩, fun a b ha hb => ⟨hD.add _ _ ha.1 hb.1, by rw [cv_addl, cv_addr, ha.2, hb.2]⟩, fun k a ha => ⟨hD.smul _ _ ha.1, by rw [cv_smull, cv_smulr, ha.2]⟩⟩
    obtain ⟨a, Ex, a1, a2, a3, a4, a5⟩ := enum R hsur hL fun v hv => hn v hv.1
    refine ⟨a, ?_⟩
    have hpa : 0 < p ^ a := Nat.pow_pos (by omega)
    have hz : ∀ i, i < p ^ a - 1 → Ex (i + 1) ≠ fun _ => 0 := fun i hi h0 => by
      have := a3 (i + 1) 0 (by omega) hpa (by rw [h0, a5])
      omega
    have := mem_bij3 (n := p ^ a - 1) (k := M) (P := fun _ => true) (Q := cen fm x) (fun i => cd (Ex (i + 1)) - 1) (fun i hi _ => ?_) (fun i j hi hj _ _ he => ?_) fun y hy hq => ?_
    · rw [← this, mem_tr]
    · obtain ⟨b1, b2⟩ := a2 (i + 1)
      obtain ⟨c1, c2⟩ := code _ b1 (hz i hi)
      refine ⟨c1, cen_iff.2 ((comE x _ hx c1).2 ?_)⟩
      rw [c2, hX]; exact b2
    · obtain ⟨c1, c2⟩ := code _ (a2 (i + 1)).1 (hz i hi)
      obtain ⟨c3, c4⟩ := code _ (a2 (j + 1)).1 (hz j hj)
      have he : cd (Ex (i + 1)) - 1 = cd (Ex (j + 1)) - 1 := he
      have := a3 (i + 1) (j + 1) (by omega) (by omega) (by rw [← c2, ← c4, he])
      omega
    · have h1 := (comE x y hx hy).1 (cen_iff.1 hq)
      rw [hX] at h1
      obtain ⟨m, m1, m2⟩ := a4 (E (y + 1)) ⟨(elt y hy).1, h1⟩
      have m3 : m ≠ 0 := fun h0 => (elt y hy).2 (by rw [← m2, h0, a5])
      refine ⟨m - 1, by omega, rfl, ?_⟩
      show cd (Ex (m - 1 + 1)) - 1 = y
      rw [show m - 1 + 1 = m by omega, m2, cinj y hy]
  have hδ : δ = 1 := by
    refine Classical.byContradiction fun hne => ?_
    have hδ0 : δ ≠ 0 := fun h0 => by rw [h0, Nat.pow_zero] at hM; omega
    obtain ⟨ψ, w1, w2, w3⟩ := hw δ (by omega) d1
    refine w3 ?_
    have hs := G.cjb_eqv.sum
    have hdiv := sum_div (ψ := ψ) (fun x => (mem M (cjb M fm (cd k - 1) x)).length) (mem M (lead (cjb M fm (cd k - 1)))) (fun x hx => ?_) (by rw [hs, hM]; exact w1)
    · 
      have hcount : ((mem M (lead (cjb M fm (cd k - 1)))).filter fun x => decide ((mem M (cjb M fm (cd k - 1) x)).length = 1)).length = p - 1 := by
        have e0 : ((mem M (lead (cjb M fm (cd k - 1)))).filter fun x => decide ((mem M (cjb M fm (cd k - 1) x)).length = 1)) = mem M fun x => lead (cjb M fm (cd k - 1)) x && decide ((mem M (cjb M fm (cd k - 1) x)).length = 1) := by
          unfold mem
          rw [List.filter_filter]
          exact List.filter_congr fun x _ => Bool.and_comm _ _
        rw [e0]
        have hjk : ∀ j, j < p - 1 → D (fun x => (((j + 1 : Nat)) : K) * k x) ∧ (fun x => (((j + 1 : Nat)) : K) * k x) ≠ fun _ => 0 := fun j hj => ⟨hD.smul _ _ hk, fun h0 => by
          have hj1 : ((j + 1 : Nat) : K) ≠ 0 := fun h1 => R.ne (a := j + 1) (b := 0) (by omega) (by omega) (by omega) (by rw [h1]; grind)
          obtain ⟨b, hb⟩ := R.fld.1 _ hj1
          refine k0 (funext fun x => ?_)
          have := congrFun h0 x
          grind⟩
        have := mem_bij3 (n := p - 1) (k := M) (P := fun _ => true) (Q := fun x => lead (cjb M fm (cd k - 1)) x && decide ((mem M (cjb M fm (cd k - 1) x)).length = 1)) (fun j => cd (fun x => ((j + 1 : Nat) : K) * k x) - 1) (fun j hj _ => ?_) (fun i j hi hj _ _ he => ?_) fun y hy hq => ?_
        · rw [← this, mem_tr]
        · obtain ⟨j1, j2⟩ := hjk j hj
          obtain ⟨c1, c2⟩ := code _ j1 j2
          refine ⟨c1, ?_⟩
          have hsame : ∀ y, y < M → (cjb M fm (cd k - 1) (cd (fun x => ((j + 1 : Nat) : K) * k x) - 1) y = true ↔ y = cd (fun x => ((j + 1 : Nat) : K) * k x) - 1) := fun y hy => by
            rw [cjb_iff]
            have key : ∀ a, a < M → fm (fm (iv M fm (cd k - 1) a) (cd (fun x => ((j + 1 : Nat) : K) * k x) - 1)) a = cd (fun x => ((j + 1 : Nat) : K) * k x) - 1 := fun a ha => by
              have hc : fm a (cd (fun x => ((j + 1 : Nat) : K) * k x) - 1) = fm (cd (fun x => ((j + 1 : Nat) : K) * k x) - 1) a := (comE _ _ c1 ha).2 (by rw [c2, cv_smull, cv_smulr, k1 _ (elt a ha).1, k2 _ (elt a ha).1])
              rw [G.assoc _ _ _ (G.iv_lt ha) c1 ha, ← hc, ← G.assoc _ _ _ (G.iv_lt ha) ha c1, G.iv_mul ha, G.one_l _ c1]
            constructor
            · rintro ⟨a, ha, h1⟩
              rw [← h1, key a ha]
            · intro h1
              exact ⟨cd k - 1, ck1, by rw [key _ ck1, h1]⟩
          rw [Bool.and_eq_true, decide_eq_true_eq]
          refine ⟨lead_iff.2 ⟨(hsame _ c1).2 rfl, fun b hb => ?_⟩, ?_⟩
          · cases hcb : cjb M fm (cd k - 1) (cd (fun x => ((j + 1 : Nat) : K) * k x) - 1) b with
            | false => rfl
            | true => have := (hsame b (by omega)).1 hcb; omega
          · exact mem_one c1 hsame
        · obtain ⟨i1, i2⟩ := hjk i hi
          obtain ⟨j1, j2⟩ := hjk j hj
          obtain ⟨c1, c2⟩ := code _ i1 i2
          obtain ⟨c3, c4⟩ := code _ j1 j2
          have he : cd (fun x => ((i + 1 : Nat) : K) * k x) - 1 = cd (fun x => ((j + 1 : Nat) : K) * k x) - 1 := he
          rw [he, c4] at c2
          refine Classical.byContradiction fun hij => ?_
          have h1 := R.ne (a := j + 1) (b := i + 1) (by omega) (by omega) (by omega)
          obtain ⟨b, hb⟩ := R.fld.1 _ h1
          refine k0 (funext fun x => ?_)
          have := congrFun c2 x
          grind
        · rw [Bool.and_eq_true, decide_eq_true_eq] at hq
          have h1 := G.cls_count hy
          rw [hq.2, Nat.mul_one] at h1
          have h2 := mem_all.1 h1
          have h3 : ∀ w, D w → cv n f e (E (y + 1)) w = cv n f e w (E (y + 1)) := fun w hw => by
            by_cases hw0 : w = fun _ => 0
            · rw [hw0, cv_0l, cv_0r]
            · obtain ⟨c1, c2⟩ := code w hw hw0
              have := (comE y _ hy c1).1 (cen_iff.1 (h2 _ c1))
              rw [c2] at this
              exact this.symm
          obtain ⟨a, ha⟩ := cen0 _ (elt y hy).1 h3
          obtain ⟨x, hx, hxa⟩ := hsur a
          have hx0 : x ≠ 0 := fun h0 => (elt y hy).2 (by rw [ha, ← hxa, h0]; funext z; grind)
          refine ⟨x - 1, by omega, rfl, ?_⟩
          show cd (fun z => ((x - 1 + 1 : Nat) : K) * k z) - 1 = y
          rw [show x - 1 + 1 = x by omega, hxa, ← ha, cinj y hy]
      rw [hcount] at hdiv
      exact hdiv
    · 
      have hxM := (mem_mem.1 hx).1
      obtain ⟨a, ha⟩ := cc x hxM
      have h1 := G.cls_count hxM
      by_cases h2 : (mem M (cjb M fm (cd k - 1) x)).length = 1
      · exact .inl h2
      · refine .inr ?_
        rw [ha] at h1
        have hMp := G.pos
        have hle : (mem M (cen fm x)).length ≤ M := by
          unfold mem
          exact Nat.le_trans (List.length_filter_le _ _) (by simp)
        have ha1 : p ^ a - 1 ≠ 0 := fun h0 => by rw [h0, Nat.zero_mul] at h1; omega
        have ha2 : a < δ := by
          refine Nat.lt_of_le_of_ne (Nat.le_of_not_lt fun hlt => ?_) fun he => ?_
          · have := Nat.pow_lt_pow_right (a := p) (by omega) hlt
            omega
          · rw [he, ← hM] at h1
            have := Nat.eq_of_mul_eq_mul_left hMp (h1.trans (Nat.mul_one M).symm)
            exact h2 this
        have ha3 : 1 ≤ a := by
          rcases Nat.eq_zero_or_pos a with h0 | h0
          · rw [h0, Nat.pow_zero] at ha1; omega
          · exact h0
        have h3 := w2 a ha3 ha2 (by rw [← hM, ← h1]; exact Nat.dvd_mul_right _ _)
        rw [← hM, ← h1, Nat.mul_div_cancel_left _ (by omega)] at h3
        exact h3
  intro x hx
  rw [hδ, Nat.pow_one] at d3
  have hcd' : ∀ v, D v → cd v < p ∧ E (cd v) = v := fun v hv => by
    have := hcd v hv
    rw [hδ, Nat.pow_one] at this
    exact this
  obtain ⟨j, hj, hje⟩ := inj_onto (n := p) (f := fun j => cd fun x => ((j : Nat) : K) * k x) (fun j _ => (hcd' _ (hD.smul _ _ hk)).1) (fun i j hi hj he => by
    have h1 := (hcd' _ (hD.smul ((i : Nat) : K) _ hk)).2
    have h2 := (hcd' _ (hD.smul ((j : Nat) : K) _ hk)).2
    have he : cd (fun x => ((i : Nat) : K) * k x) = cd fun x => ((j : Nat) : K) * k x := he
    rw [he, h2] at h1
    refine Classical.byContradiction fun hij => ?_
    obtain ⟨b, hb⟩ := R.fld.1 _ (R.ne hj hi (fun h => hij h.symm))
    refine k0 (funext fun x => ?_)
    have := congrFun h1 x
    grind) (hcd' x hx).1
  have h1 := (hcd' _ (hD.smul ((j : Nat) : K) _ hk)).2
  have hje : cd (fun x => ((j : Nat) : K) * k x) = cd x := hje
  rw [hje, (hcd' x hx).2] at h1
  exact ⟨_, h1⟩
end
end Go.Proofs.YtjlmpmidchddjaaDoor

namespace Go.Proofs.YtjlmpmidchddjaaDoor
open Lean.Grind
attribute [local instance] Lean.Grind.Semiring.natCast Lean.Grind.Ring.intCast
theorem least {P:Nat→Prop} (h:∃ r,P r):∃ r,P r∧∀ r',P r'→r≤r':=by
 refine Classical.byContradiction fun hno=>?_
 have:∀ m r,r≤m→¬ P r:=by
  intro m
  induction m with
  | zero=>intro r hr hp; exact hno ⟨r,hp,fun r' _=>by omega⟩
  | succ m ih =>
   intro r hr hp
   exact hno ⟨r,hp,fun r' hp'=>Nat.le_of_not_lt fun hlt=>ih r' (by omega) hp'⟩
 obtain ⟨r,hr⟩:=h
 exact this r r (Nat.le_refl _) hr
section
variable {n e c:Nat} {f:Nat→Nat→Nat} {cI xx:Nat→Nat} {K:Type} [CommRing K] {p:Nat}
theorem Rp.cinj (R:Rp K p) {a b:Nat} (ha:a < p) (hb:b < p) (h:(a:K)=b):a=b:=Classical.byContradiction fun hne=>R.ne ha hb hne (by rw [h]; grind)
theorem GC.pc_mul (h:GC n f e c cI xx) (u:Nat→K) (a:Nat):∀ b,pc n f e (pc n f e u a) b=pc n f e u (a * b)
 | 0=>rfl
 | b + 1=>by
  show cv n f e (pc n f e u a) (pc n f e (pc n f e u a) b)=_
  rw [h.pc_mul u a b,← h.pc_add,Nat.mul_add,Nat.mul_one,Nat.add_comm]
theorem GC.rank (h:GC n f e c cI xx) (F:Fld K) {u:Nat→K} (hu:cv n f e u u=u):∃ r,r≤n∧(n:K) * u e=(r:K)∧(r=0→u=fun _=>0):=by
 have G:=h.G
 obtain ⟨v,v1,v2,v3⟩:=trc (n:=n) F (A:=fun v=>cv n f e v u) ⟨fun a b=>cv_addl a b u,fun k a=>cv_smull k a u⟩ (fun v _=>by show cv n f e (cv n f e v u) u=_; rw [h.cva,hu]) fun v=>cv_sup _ _
 refine ⟨v,v1,?_,fun h0=>?_⟩
 ·rw [← v2,← sm_const]
  refine sm_congr fun x hx=>?_
  show u e=cv n f e (dl K x) u x
  rw [h.cvdl u hx hx,G.iv_mul hx]
 rw [← hu]
 exact v3 h0 u (by rw [← hu]; exact cv_sup _ _)
def WT (n:Nat) (f:Nat→Nat→Nat) (e:Nat) (t:Nat→K) (a:Nat→K):Prop:=Sup n a∧cv n f e a t=fun x=>prT n f e t t e * a x
theorem GC.wt_cj (h:GC n f e c cI xx) (F:Fld K) {t:Nat→K} (ht:Chr n f e cI t) (hs:prT n f e t t e ≠ 0) {a:Nat→K} (ha:WT n f e t a) {x:Nat} (hx:x < n):sm (fun g=>a (cjg n f e g x)) n=(n:K) * a e * t x:=by
 have G:=h.G
 have h1:prT n f e t t e * sm (fun g=>a (cjg n f e g x)) n=prT n f e t t e * ((n:K) * a e * t x):=by
  have e1:∀ g,g < n→prT n f e t t e * a (cjg n f e g x)=sm (fun y=>a y * t (f (iv n f e y) (cjg n f e g x))) n:=fun g hg=>by
   have:=congrFun ha.2 (cjg n f e g x)
   rw [← this,cv_at _ _ (h.cjl hg hx)]
  rw [← sm_mul,sm_congr e1,sm_comm]
  have e2:∀ y,y < n→sm (fun g=>a y * t (f (iv n f e y) (cjg n f e g x))) n=(n:K) * t x * (a y * t (f (iv n f e y) e)):=fun y hy=>by
   have hi:=G.iv_lt hy
   rw [sm_mul,sm_congr (g:=fun g=>t (f (cjg n f e g x) (iv n f e y))) fun g hg=>h.cjT ht.cl hi (h.cjl hg hx),ht.mul x _ hx hi,G.one_r _ hi]
   grind
  rw [sm_congr e2,sm_mul,← cv_at a t G.el,ha.2]
  grind
 obtain ⟨b,hb⟩:=F.1 _ hs
 grind
structure Prm (n:Nat) (f:Nat→Nat→Nat) (e:Nat) (t k:Nat→K) (v:Nat):Prop where
 W:WT n f e t k
 id:cv n f e k k=k
 rk:(n:K) * k e=(v:K)
 ge:1≤v
 le:v≤n
 sq:prT n f e t t e * ((v:K) * v)=(n:K)
 one:∀ w:Nat→K,∃ a:K,cv n f e k (cv n f e w k)=fun x=>a * k x
theorem GC.prim (h:GC n f e c cI xx) (R:Rp K p) (hsur:∀ a:K,∃ x:Nat,x < p∧(x:K)=a) (hw:∀ d,2≤d→d≤n→Wed p d) (h2n:2 * n < p) (hn0:(n:K) ≠ 0)
  (hcz:∀ a:Nat,0 < a→a < p→(a:K) ≠ 0) (hpw:∀ a,a < n→pw f e a p=a) {t:Nat→K} (ht:Chr n f e cI t) (hs:prT n f e t t e ≠ 0) :
  ∃ (v:Nat) (k:Nat→K),Prm n f e t k v:=by
 have G:=h.G
 have F:=R.fld
 have hfr:∀ a:K,a ^ p=a:=fun a=>by
  obtain ⟨x,_,rfl⟩:=hsur a
  exact R.pow x
 obtain ⟨s,hsd⟩:∃ s,s=prT n f e t t e:=⟨_,rfl⟩
 rw [← hsd] at hs
 obtain ⟨si,hsi⟩:=F.1 _ hs
 have hW:∀ {a:Nat→K},WT n f e t a↔Sup n a∧cv n f e a t=fun x=>s * a x:=by intro a; unfold WT; rw [hsd]
 have htt:∀ x,x < n→cv n f e t t x=s * t x:=fun x hx=>by
  rw [cv_at _ _ hx,← h.prT2 t t hx,h.self F hn0 ht hx,hsd]
 have wmul:∀ {a:Nat→K} (b:Nat→K),WT n f e t a→WT n f e t (cv n f e b a):=fun {a} b ha=>hW.2 ⟨cv_sup _ _,by
  rw [h.cva,(hW.1 ha).2,cv_smulr]⟩
 let ε:Nat→K:=fun x=>if x < n then si * t x else 0
 have hε:∀ x,x < n→ε x=(fun x=>si * t x) x:=fun x hx=>if_pos hx
 have hεs:Sup n ε:=fun x hx=>if_neg (by omega)
 have hεW:WT n f e t ε:=hW.2 ⟨hεs,by
  rw [cv_congr h hε (b':=t) fun _ _=>rfl,cv_smull]
  funext x
  by_cases hx:x < n
  ·rw [htt x hx]
   show _=s * (if x < n then si * t x else 0)
   rw [if_pos hx]; grind
  rw [cv_sup t t x (by omega),hεs x (by omega)]; grind⟩
 have hεi:cv n f e ε ε=ε:=by
  rw [cv_congr h (a:=ε) (fun _ _=>rfl) hε,cv_smulr,(hW.1 hεW).2]
  funext x; grind
 have hε0:ε ≠ fun _=>0:=fun h0=>by
  have:=congrFun h0 e
  rw [hε e G.el] at this
  have h1:si * t e=0:=this
  rw [ht.one] at h1
  have:s * si=0:=by grind
  rw [hsi] at this
  exact F.2 this
 let Q:Nat→Prop:=fun r=>∃ k,WT n f e t k∧cv n f e k k=k∧(k ≠ fun _=>0)∧r≤n∧(n:K) * k e=(r:K)
 obtain ⟨r,⟨k,kW,kk,k0,rn,kr⟩,hmin⟩:=least (P:=Q) (by
  obtain ⟨r,r1,r2,_⟩:=h.rank F hεi
  exact ⟨r,ε,hεW,hεi,hε0,r1,r2⟩)
 have hr0:r ≠ 0:=fun h0=>by
  obtain ⟨r',a1,a2,a3⟩:=h.rank F kk
  have:=R.cinj (by omega) (by omega) (a2.symm.trans kr)
  exact k0 (a3 (by omega))
 have hke:k e ≠ 0:=fun h0=>hr0 (R.cinj (p:=p) (by omega) (by omega) (by rw [← kr,h0]; grind))
 let D:(Nat→K)→Prop:=fun x=>cv n f e k x=x∧cv n f e x k=x
 have hDl:LSub D:=⟨⟨cv_0r k,cv_0l k⟩,fun a b ha hb=>⟨by rw [cv_addr,ha.1,hb.1],by rw [cv_addl,ha.2,hb.2]⟩,fun l a ha=>⟨by rw [cv_smulr,ha.1],by rw [cv_smull,ha.2]⟩⟩
 have hDs:∀ x,D x→Sup n x:=fun x hx=>by rw [← hx.1]; exact cv_sup _ _
 have hDk:D k:=⟨kk,kk⟩
 have hDc:∀ a b,D a→D b→D (cv n f e a b):=fun a b ha hb=>⟨by rw [← h.cva,ha.1],by rw [h.cva,hb.2]⟩
 have hDw:∀ w,D (cv n f e k (cv n f e w k)):=fun w=>⟨by rw [← h.cva k k,kk],by rw [h.cva,h.cva,kk]⟩
 have hDW:∀ x,D x→WT n f e t x:=fun x hx=>by rw [← hx.2]; exact wmul x kW
 obtain ⟨qa,Ea,qa1,qa2,qa3,qa4,qa5⟩:=enum (n:=n) R hsur (P:=Sup n) ⟨Sup.zero,fun a b ha hb=>ha.add hb,fun k a ha=>ha.smul k⟩ fun v hv=>hv
 have hinv:∀ x,D x→(x ≠ fun _=>0)→∃ y,D y∧cv n f e x y=k:=fun x hx hx0=>by
  obtain ⟨g,hg,hxg⟩:∃ g,g < n∧x g ≠ 0:=Classical.byContradiction fun hno=>hx0 ((hDs x hx).ext Sup.zero fun g hg=>Classical.byContradiction fun hc=>hno ⟨g,hg,hc⟩)
  obtain ⟨w,hwd⟩:∃ w,w=dl K (iv n f e g):=⟨_,rfl⟩
  obtain ⟨z,hz⟩:∃ z,z=cv n f e k (cv n f e w k):=⟨_,rfl⟩
  have hzD:D z:=by rw [hz]; exact hDw w
  obtain ⟨u,hu⟩:∃ u,u=cv n f e x z:=⟨_,rfl⟩
  have huD:D u:=by rw [hu]; exact hDc x z hx hzD
  have hue:u e=x g:=by
   rw [hu,hz,← h.cva,hx.2,← h.cva,h.cve,← h.cva,hx.1,hwd,h.cvdr x (G.iv_lt hg) G.el,G.iv_iv hg,G.one_l g hg]
  have hue0:u e ≠ 0:=by rw [hue]; exact hxg
  have hpp:∀ i,pc n f e u (p ^ i) e=u e:=fun i=>by
   induction i with
   | zero =>
    rw [Nat.pow_zero]
    show cv n f e u (dl K e) e=_
    rw [h.cv1r (hDs u huD)]
   | succ i ih=>rw [Nat.pow_succ,← h.pc_mul,h.pc_p R hcz hpw hfr,ih]
  have hnn:∀ m,pc n f e u m ≠ fun _=>0:=fun m h0=>by
   have h1:m≤p ^ m:=Nat.le_of_lt (Nat.lt_pow_self (by have:=R.two; omega))
   have h2:=hpp m
   rw [show p ^ m=(p ^ m - m) + m by omega,h.pc_add,h0,cv_0r] at h2
   exact hue0 h2.symm
  obtain ⟨cd,hcd⟩:=Classical.axiomOfChoice fun i=>qa4 _ (h.pc_sup u i)
  have hpos:0 < p ^ qa:=Nat.pow_pos (by have:=R.two; omega)
  obtain ⟨i,j,hij,hjn,hcij⟩:=pigeon (n:=p ^ qa) (f:=cd) fun i _=>(hcd i).1
  have hpij:pc n f e u i=pc n f e u j:=by rw [← (hcd i).2,← (hcd j).2,hcij]
  obtain ⟨d,rfl⟩:∃ d,j=i + d:=⟨j - i,by omega⟩
  have hper:∀ l i',i≤i'→pc n f e u (i' + l * d)=pc n f e u i':=fun l=>by
   induction l with
   | zero=>intro i' _; rw [Nat.zero_mul]; rfl
   | succ l ih =>
    intro i' hi'
    have e1:i' + (l + 1) * d=(i' - i + l * d) + (i + d):=by rw [Nat.add_mul]; omega
    rw [e1,h.pc_add,← hpij,← h.pc_add,show i' - i + l * d + i=i' + l * d by omega,ih i' hi']
  obtain ⟨m,hm⟩:∃ m,m=(i + 1) * d:=⟨_,rfl⟩
  have hmi:i + 1≤m:=by rw [hm]; exact Nat.le_mul_of_pos_right _ (by omega)
  have hid:cv n f e (pc n f e u m) (pc n f e u m)=pc n f e u m:=by
   rw [← h.pc_add]
   have:=hper (i + 1) m (by omega)
   rwa [← hm] at this
  obtain ⟨q,hq⟩:∃ q,m=q + 1:=⟨m - 1,by omega⟩
  have hbl:cv n f e k (pc n f e u m)=pc n f e u m:=by
   rw [hq]
   show cv n f e k (cv n f e u (pc n f e u q))=cv n f e u (pc n f e u q)
   rw [← h.cva,huD.1]
  have hbr:cv n f e (pc n f e u m) k=pc n f e u m:=by
   have h1:pc n f e u 1=u:=h.cv1r (hDs u huD)
   rw [hq,h.pc_add,h1,h.cva,huD.2]
  obtain ⟨r1,r11,r12,r13⟩:=h.rank F hid
  have hk' : cv n f e (fun x=>k x + (-1) * pc n f e u m x) (fun x=>k x + (-1) * pc n f e u m x)=fun x=>k x + (-1) * pc n f e u m x:=by
   rw [cv_addl k (fun x=>(-1) * pc n f e u m x),cv_smull,cv_addr k k,cv_addr _ k,cv_smulr,cv_smulr,kk,hbl,hbr,hid]
   funext x; grind
  obtain ⟨r2,r21,r22,r23⟩:=h.rank F hk'
  have hle:=hmin r1 ⟨_,hDW _ ⟨hbl,hbr⟩,hid,hnn m,r11,r12⟩
  have hsum:r1 + r2=r:=R.cinj (p:=p) (by omega) (by omega) (by
   rw [← kr,Semiring.natCast_add,← r12,← r22]; grind)
  have hz0:=r23 (by omega)
  have hku:pc n f e u m=k:=by
   funext x
   have:=congrFun hz0 x
   grind
  refine ⟨cv n f e z (cv n f e (pc n f e u q) k),⟨by rw [← h.cva,hzD.1],by rw [h.cva,h.cva,kk]⟩,?_⟩
  rw [← h.cva,← hu,← h.cva]
  have:cv n f e u (pc n f e u q)=k:=by rw [← hku,hq]; rfl
  rw [this,kk]
 have hC:∀ (a:Nat→K) {g x:Nat},g < n→x < n→cv n f e (dl K g) (cv n f e a (dl K (iv n f e g))) x=a (cjg n f e g x):=fun a g x hg hx=>by
  rw [h.cvdl _ hg hx,h.cvdr a (G.iv_lt hg) (G.cl _ _ (G.iv_lt hg) hx),G.iv_iv hg]; rfl
 have hS:∀ a,WT n f e t a→∀ x,sm (fun g=>cv n f e k (cv n f e (cv n f e (dl K g) (cv n f e a (dl K (iv n f e g)))) k) x) n=(n:K) * a e * s * k x:=fun a ha x=>by
  have e1:(fun x=>sm (fun g=>cv n f e k (cv n f e (cv n f e (dl K g) (cv n f e a (dl K (iv n f e g)))) k) x) n)=cv n f e k (cv n f e (fun x=>sm (fun g=>cv n f e (dl K g) (cv n f e a (dl K (iv n f e g))) x) n) k):=by
   rw [cv_sml,cv_smr]
  have e2:cv n f e (fun x=>sm (fun g=>cv n f e (dl K g) (cv n f e a (dl K (iv n f e g))) x) n) k=cv n f e (fun x=>(n:K) * a e * t x) k:=cv_congr h (fun x hx=>by
   rw [sm_congr fun g hg=>hC a hg hx,h.wt_cj F ht (by rw [← hsd]; exact hs) ha hx]) fun _ _=>rfl
  have e3:=congrFun e1 x
  rw [e2,cv_smull,h.cvT ht.cl,(hW.1 kW).2,cv_smulr,cv_smulr,kk] at e3
  have e4:sm (fun g=>cv n f e k (cv n f e (cv n f e (dl K g) (cv n f e a (dl K (iv n f e g)))) k) x) n=(n:K) * a e * (s * k x):=e3
  rw [e4]; grind
 have hcen:∀ z,D z→(∀ w,D w→cv n f e z w=cv n f e w z)→∃ a:K,z=fun x=>a * k x:=fun z hz hcz=>by
  have e1:∀ g,g < n→cv n f e k (cv n f e (cv n f e (dl K g) (cv n f e z (dl K (iv n f e g)))) k)=cv n f e z (cv n f e k (cv n f e (cv n f e (dl K g) (cv n f e k (dl K (iv n f e g)))) k)):=fun g hg=>by
   have hA:=hDw (dl K g)
   have h1:=hcz _ hA
   have e2:cv n f e k (cv n f e (cv n f e (dl K g) (cv n f e z (dl K (iv n f e g)))) k)=cv n f e (cv n f e (cv n f e k (cv n f e (dl K g) k)) z) (cv n f e (dl K (iv n f e g)) k):=by
    simp only [h.cva]
    rw [← h.cva k z,hz.1]
   have e3:cv n f e z (cv n f e k (cv n f e (cv n f e (dl K g) (cv n f e k (dl K (iv n f e g)))) k))=cv n f e (cv n f e z (cv n f e k (cv n f e (dl K g) k))) (cv n f e (dl K (iv n f e g)) k):=by
    simp only [h.cva]
   rw [e2,e3,h1]
  obtain ⟨ki,hki⟩:=F.1 _ hke
  refine ⟨z e * ki,funext fun x=>?_⟩
  have h1:=hS z (hDW z hz) x
  rw [sm_congr fun g hg=>congrFun (e1 g hg) x] at h1
  have e4:(fun x=>sm (fun g=>cv n f e z (cv n f e k (cv n f e (cv n f e (dl K g) (cv n f e k (dl K (iv n f e g)))) k)) x) n)=cv n f e z (fun x=>(n:K) * k e * s * k x):=by
   rw [← cv_smr]
   congr 1
   funext y
   exact hS k kW y
  have e5:=congrFun e4 x
  rw [cv_smulr,hz.2] at e5
  have e6:sm (fun g=>cv n f e z (cv n f e k (cv n f e (cv n f e (dl K g) (cv n f e k (dl K (iv n f e g)))) k)) x) n=(n:K) * k e * s * z x:=e5
  rw [e6] at h1
  obtain ⟨ni,hni⟩:=F.1 _ hn0
  grind
 have hall:=h.wedd R hsur hw hDl hDs hDc hDk k0 (fun a ha=>ha.1) (fun a ha=>ha.2) hinv hcen
 have t1:sm (fun x=>cv n f e k (cv n f e (dl K x) k) x) n=1:=by
  have e1:∀ x,x < n→k e * cv n f e k (cv n f e (dl K x) k) x=k (iv n f e x) * k x:=fun x hx=>by
   obtain ⟨a,ha⟩:=hall _ (hDw (dl K x))
   have h1:=congrFun ha e
   rw [h.cve,h.cva,kk,h.cvdl k hx G.el,G.one_r _ (G.iv_lt hx)] at h1
   rw [ha]
   show k e * (a * k x)=_
   rw [h1]; grind
  have e2:k e * sm (fun x=>cv n f e k (cv n f e (dl K x) k) x) n=k e:=by
   rw [← sm_mul,sm_congr e1]
   have e3:=congrFun kk e
   rw [cv_at _ _ G.el] at e3
   rw [← e3]
   exact sm_congr fun x hx=>by rw [G.one_r _ (G.iv_lt hx)]; grind
  obtain ⟨ki,hki⟩:=F.1 _ hke
  grind
 have t2:sm (fun x=>cv n f e k (cv n f e (dl K x) k) x) n=(n:K) * k e * (s * k e):=by
  have e1:∀ x,x < n→cv n f e k (cv n f e (dl K x) k) x=sm (fun y=>k y * k (cjg n f e x (iv n f e y))) n:=fun x hx=>by
   rw [cv_at _ _ hx]
   refine sm_congr fun y hy=>?_
   rw [h.cvdl k hx (G.cl _ _ (G.iv_lt hy) hx)]
   unfold cjg
   rw [G.assoc _ _ _ (G.iv_lt hx) (G.iv_lt hy) hx]
  rw [sm_congr e1,sm_comm]
  have e2:∀ y,y < n→sm (fun x=>k y * k (cjg n f e x (iv n f e y))) n=(n:K) * k e * (k y * t (f (iv n f e y) e)):=fun y hy=>by
   rw [sm_mul,h.wt_cj F ht (by rw [← hsd]; exact hs) kW (G.iv_lt hy),G.one_r _ (G.iv_lt hy)]
   grind
  rw [sm_congr e2,sm_mul,← cv_at k t G.el,(hW.1 kW).2]
 refine ⟨r,k,kW,kk,kr,by omega,rn,?_,fun w=>hall _ (hDw w)⟩
 rw [t1] at t2
 rw [← hsd,← kr]
 grind
end
end Go.Proofs.YtjlmpmidchddjaaDoor

namespace Go.Proofs.YtjlmpmidchddjaaDoor
open Lean.Grind
attribute [local instance] Lean.Grind.Semiring.natCast Lean.Grind.Ring.intCast
section
variable {n e c:Nat} {f:Nat→Nat→Nat} {cI xx:Nat→Nat} {K:Type} [CommRing K] {p:Nat}
theorem WT.mul (h:GC n f e c cI xx) {t a:Nat→K} (b:Nat→K) (ha:WT n f e t a):WT n f e t (cv n f e b a):=
 ⟨cv_sup _ _,by rw [h.cva,ha.2,cv_smulr]⟩
theorem WT.add {t a b:Nat→K} (ha:WT n f e t a) (hb:WT n f e t b):WT n f e t fun x=>a x + b x:=
 ⟨ha.1.add hb.1,by rw [cv_addl,ha.2,hb.2]; funext x; grind⟩
theorem WT.smul {t a:Nat→K} (k:K) (ha:WT n f e t a):WT n f e t fun x=>k * a x:=
 ⟨ha.1.smul k,by rw [cv_smull,ha.2]; funext x; grind⟩
def eps (n:Nat) (si:K) (t:Nat→K) (x:Nat):K:=if x < n then si * t x else 0
theorem eps_sup (si:K) (t:Nat→K):Sup n (eps n si t):=fun x hx=>if_neg (by omega)
theorem eps_at (si:K) (t:Nat→K) {x:Nat} (hx:x < n):eps n si t x=si * t x:=if_pos hx
theorem GC.cvt (h:GC n f e c cI xx) (F:Fld K) (hn0:(n:K) ≠ 0) {t:Nat→K} (ht:Chr n f e cI t) {x:Nat} (hx:x < n):cv n f e t t x=prT n f e t t e * t x:=by
 rw [cv_at _ _ hx,← h.prT2 t t hx,h.self F hn0 ht hx]
theorem GC.epsW (h:GC n f e c cI xx) (F:Fld K) (hn0:(n:K) ≠ 0) {t:Nat→K} (ht:Chr n f e cI t) {si:K} (hsi:prT n f e t t e * si=1) :
  WT n f e t (eps n si t)∧cv n f e (eps n si t) (eps n si t)=eps n si t∧eps n si t e=si∧∀ a,Sup n a→(WT n f e t a↔cv n f e a (eps n si t)=a):=by
 have G:=h.G
 have hW:WT n f e t (eps n si t):=⟨eps_sup _ _,by
  rw [cv_congr h (a':=fun x=>si * t x) (fun x hx=>eps_at si t hx) (b':=t) fun _ _=>rfl,cv_smull]
  funext x
  by_cases hx:x < n
  ·rw [h.cvt F hn0 ht hx,eps_at _ _ hx]; grind
  rw [cv_sup t t x (by omega),eps_sup _ _ x (by omega)]; grind⟩
 have hr:∀ a,cv n f e a (eps n si t)=fun x=>si * cv n f e a t x:=fun a=>by
  rw [cv_congr h (a:=a) (a':=a) (fun _ _=>rfl) (b':=fun x=>si * t x) fun x hx=>eps_at si t hx,cv_smulr]
 refine ⟨hW,?_,by rw [eps_at _ _ G.el,ht.one]; grind,fun a ha=>⟨fun hw=>?_,fun hw=>⟨ha,?_⟩⟩⟩
 ·rw [hr,hW.2]; funext x; grind
 ·rw [hr,hw.2]; funext x; grind
 have h1:=hr a
 rw [hw] at h1
 funext x
 rw [congrFun h1 x]; grind
theorem GC.split1 (h:GC n f e c cI xx) (F:Fld K) (hn0:(n:K) ≠ 0) {t k:Nat→K} {v:Nat} (ht:Chr n f e cI t) (hs:prT n f e t t e ≠ 0) (hk:Prm n f e t k v) (hke:k e ≠ 0) {u:Nat→K} (hu:WT n f e t u) (huu:cv n f e u u=u) (hu0:u ≠ fun _=>0) :
  ∃ j,WT n f e t j∧cv n f e j j=j∧cv n f e u j=j∧cv n f e j u=j∧j e=k e:=by
 have G:=h.G
 have h1:∃ g,g < n∧cv n f e u (cv n f e (dl K g) k) ≠ fun _=>0:=Classical.byContradiction fun hno=>by
  have hz:∀ g,g < n→cv n f e u (cv n f e (dl K g) k)=fun _=>0:=fun g hg=>Classical.byContradiction fun hc=>hno ⟨g,hg,hc⟩
  have e2:cv n f e u (fun x=>sm (fun g=>cv n f e (dl K g) (cv n f e k (dl K (iv n f e g))) x) n)=fun x=>0:=by
   rw [cv_smr]
   funext x
   refine sm_zero fun g hg=>?_
   rw [← h.cva (dl K g) k,← h.cva u,hz g hg,cv_0l]
  have e3:cv n f e u (fun x=>sm (fun g=>cv n f e (dl K g) (cv n f e k (dl K (iv n f e g))) x) n)=cv n f e u (fun x=>(n:K) * k e * t x):=cv_congr h (fun _ _=>rfl) fun x hx=>by
   rw [← h.wt_cj F ht hs hk.W hx]
   refine sm_congr fun g hg=>?_
   rw [h.cvdl _ hg hx,h.cvdr k (G.iv_lt hg) (G.cl _ _ (G.iv_lt hg) hx),G.iv_iv hg]; rfl
  rw [e3,cv_smulr,hu.2] at e2
  refine hu0 (funext fun x=>?_)
  have h2:=congrFun e2 x
  obtain ⟨ni,hni⟩:=F.1 _ hn0
  obtain ⟨ki,hki⟩:=F.1 _ hke
  obtain ⟨si,hsi⟩:=F.1 _ hs
  have h3:(n:K) * k e * (prT n f e t t e * u x)=0:=h2
  grind
 obtain ⟨g,hg,hz0⟩:=h1
 obtain ⟨z,hz⟩:∃ z,z=cv n f e u (cv n f e (dl K g) k):=⟨_,rfl⟩
 rw [← hz] at hz0
 have zk:cv n f e z k=z:=by rw [hz,h.cva,h.cva,hk.id]
 have uz:cv n f e u z=z:=by rw [hz,← h.cva,huu]
 have zs:Sup n z:=by rw [hz]; exact cv_sup _ _
 obtain ⟨g0,hg0,hzg⟩:∃ g0,g0 < n∧z g0 ≠ 0:=Classical.byContradiction fun hno=>hz0 (zs.ext Sup.zero fun g hg=>Classical.byContradiction fun hc=>hno ⟨g,hg,hc⟩)
 obtain ⟨y,hy⟩:∃ y,y=dl K (iv n f e g0):=⟨_,rfl⟩
 have yz:cv n f e y z e=z g0:=by rw [hy,h.cvdl z (G.iv_lt hg0) G.el,G.iv_iv hg0,G.one_r _ hg0]
 obtain ⟨a,ha⟩:=hk.one (cv n f e y z)
 have ha' : cv n f e k (cv n f e y z)=fun x=>a * k x:=by rw [← ha,h.cva y,zk]
 have hae:a * k e=z g0:=by
  have:=congrFun ha' e
  rw [h.cve,h.cva,zk,yz] at this
  exact this.symm
 have ha0:a ≠ 0:=fun h0=>hzg (by rw [← hae,h0]; grind)
 obtain ⟨b,hb⟩:=F.1 _ ha0
 refine ⟨fun x=>b * cv n f e z (cv n f e y u) x,(hu.mul h y |>.mul h z).smul b,?_,?_,?_,?_⟩
 ·rw [cv_smull,cv_smulr]
  have e1:cv n f e (cv n f e z (cv n f e y u)) (cv n f e z (cv n f e y u))=fun x=>a * cv n f e z (cv n f e y u) x:=by
   have e2:cv n f e (cv n f e z (cv n f e y u)) (cv n f e z (cv n f e y u))=cv n f e (cv n f e z (cv n f e k (cv n f e y z))) (cv n f e y u):=by
    rw [← h.cva z k,zk]
    simp only [h.cva]
    rw [← h.cva u z,uz]
   rw [e2,ha',cv_smulr,cv_smull,zk]
  rw [e1]
  funext x; grind
 ·rw [cv_smulr,← h.cva,uz]
 ·rw [cv_smull,h.cva,h.cva,huu]
 show b * cv n f e z (cv n f e y u) e=k e
 rw [h.cve,h.cva,uz,yz,← hae]
 grind
theorem Prm.ne (R:Rp K p) {t k:Nat→K} {v:Nat} (h2n:2 * n < p) (hk:Prm n f e t k v):k e ≠ 0∧(v:K) ≠ 0:=by
 have hv:(v:K) ≠ 0:=fun h0=>by
  have:=R.cinj (p:=p) (a:=v) (b:=0) (by have:=hk.le; omega) (by have:=R.two; omega) (by rw [h0]; grind)
  have:=hk.ge; omega
 exact ⟨fun h0=>hv (by rw [← hk.rk,h0]; grind),hv⟩
theorem GC.mult (h:GC n f e c cI xx) (R:Rp K p) (h2n:2 * n < p) (hn0:(n:K) ≠ 0) {t k:Nat→K} {v:Nat} (ht:Chr n f e cI t) (hs:prT n f e t t e ≠ 0) (hk:Prm n f e t k v) :
  ∀ r,r≤n→∀ u,WT n f e t u→cv n f e u u=u→(n:K) * u e=(r:K)→v ∣ r:=by
 intro r
 induction r using Nat.strongRecOn with
 | ind r ih =>
  intro hr u hu huu hur
  obtain ⟨hke,hv0⟩:=hk.ne R h2n
  by_cases hu0:u=fun _=>0
  ·have:r=0:=R.cinj (p:=p) (by omega) (by have:=R.two; omega) (by rw [← hur,hu0]; grind)
   rw [this]; exact Nat.dvd_zero v
  obtain ⟨j,j1,j2,j3,j4,j5⟩:=h.split1 R.fld hn0 ht hs hk hke hu huu hu0
  have hd:WT n f e t fun x=>u x + (-1) * j x:=hu.add (j1.smul _)
  have hdd:cv n f e (fun x=>u x + (-1) * j x) (fun x=>u x + (-1) * j x)=fun x=>u x + (-1) * j x:=by
   rw [cv_addl u (fun x=>(-1) * j x),cv_smull,cv_addr u u,cv_addr j u,cv_smulr,cv_smulr,huu,j2,j3,j4]
   funext x; grind
  obtain ⟨r2,a1,a2,_⟩:=h.rank R.fld hdd
  have hv:=hk.le
  have e1:r2 + v=r:=R.cinj (p:=p) (by omega) (by omega) (by
   rw [Semiring.natCast_add,← a2,← hk.rk,← hur,← j5]; grind)
  have:=ih r2 (by have:=hk.ge; omega) (by omega) _ hd hdd a2
  rw [← e1]
  exact Nat.dvd_add this (Nat.dvd_refl v)
theorem GC.sqv (h:GC n f e c cI xx) (R:Rp K p) (h2n:2 * n < p) (hn0:(n:K) ≠ 0) {t k:Nat→K} {v:Nat} (ht:Chr n f e cI t) (hs:prT n f e t t e ≠ 0) (hk:Prm n f e t k v):v * v≤n:=by
 have F:=R.fld
 obtain ⟨si,hsi⟩:=F.1 _ hs
 obtain ⟨w1,w2,w3,_⟩:=h.epsW F hn0 ht hsi
 obtain ⟨r,r1,r2,_⟩:=h.rank F w2
 obtain ⟨q,hq⟩:=h.mult R h2n hn0 ht hs hk r r1 _ w1 w2 r2
 obtain ⟨_,hv0⟩:=hk.ne R h2n
 have hv:=hk.le
 have hqn:q≤n:=Nat.le_trans (by rw [hq]; exact Nat.le_mul_of_pos_left q hk.ge) r1
 have:q=v:=R.cinj (p:=p) (by omega) (by omega) (by
  have e1:(r:K)=(v:K) * (q:K):=by rw [hq,Semiring.natCast_mul]
  rw [w3] at r2
  have e2:=hk.sq
  obtain ⟨vi,hvi⟩:=F.1 _ hv0
  have e3:(n:K) * si=(v:K) * v:=by rw [← e2]; grind
  have e4:(v:K) * (q:K)=(v:K) * (v:K):=by rw [← e1,← r2,e3]
  grind)
 rw [hq,this] at r1
 exact r1
def sn (g:Nat→Nat):Nat→Nat
 | 0=>0
 | i + 1=>sn g i + g i
theorem sn_K (g:Nat→Nat):∀ i,((sn g i:Nat):K)=sm (fun q=>((g q:Nat):K)) i
 | 0=>Semiring.natCast_zero
 | i + 1=>by show ((sn g i + g i:Nat):K)=_; rw [Semiring.natCast_add,sn_K g i]; rfl
theorem GC.eps_ort (h:GC n f e c cI xx) (F:Fld K) (hn0:(n:K) ≠ 0) {t t' : Nat→K} (ht:Chr n f e cI t) (ht' : Chr n f e cI t') (hs:prT n f e t t e ≠ 0) (hz:prT n f e t t' e=0) (si si' : K):cv n f e (eps n si t) (eps n si' t')=fun _=>0:=by
 have:∃ a,a < n∧t a ≠ t' a:=Classical.byContradiction fun hno=>by
  have he:∀ a,a < n→t a=t' a:=fun a ha=>Classical.byContradiction fun hc=>hno ⟨a,ha,hc⟩
  refine hs ?_
  rw [← hz]
  exact sm_congr fun z hz=>by rw [he _ (h.G.iv_lt hz)]
 obtain ⟨a,ha,hne⟩:=this
 rw [cv_congr h (a':=fun x=>si * t x) (fun x hx=>eps_at si t hx) (b':=fun x=>si' * t' x) fun x hx=>eps_at si' t' hx,cv_smull,cv_smulr]
 funext x
 show si * (si' * cv n f e t t' x)=0
 by_cases hx:x < n
 ·rw [cv_at _ _ hx,← h.prT2 t t' hx,h.orth F hn0 ht ht' ha hne hx]; grind
 rw [cv_sup t t' x (by omega)]; grind
theorem GC.sumsq (h:GC n f e c cI xx) (R:Rp K p) (h2n:2 * n < p) (hn0:(n:K) ≠ 0) {m:Nat} {tt:Nat→Nat→K} {vv:Nat→Nat} (ht:∀ q,q < m→Chr n f e cI (tt q)) (hs:∀ q,q < m→prT n f e (tt q) (tt q) e ≠ 0) (hv:∀ q,q < m→vv q * vv q≤n∧prT n f e (tt q) (tt q) e * ((vv q:K) * vv q)=(n:K))
  (ho:∀ q q',q < m→q' < m→q ≠ q'→prT n f e (tt q) (tt q') e=0):sn (fun q=>vv q * vv q) m≤n:=by
 have F:=R.fld
 have:∀ q,∃ si:K,q < m→prT n f e (tt q) (tt q) e * si=1:=fun q=>by
  by_cases hq:q < m
  ·obtain ⟨si,h1⟩:=F.1 _ (hs q hq); exact ⟨si,fun _=>h1⟩
  exact ⟨0,fun h0=>absurd h0 hq⟩
 obtain ⟨si,hsi⟩:=Classical.axiomOfChoice this
 have key:∀ j,j≤m→cv n f e (fun x=>sm (fun q=>eps n (si q) (tt q) x) j) (fun x=>sm (fun q=>eps n (si q) (tt q) x) j)=(fun x=>sm (fun q=>eps n (si q) (tt q) x) j)∧sn (fun q=>vv q * vv q) j≤n∧(n:K) * sm (fun q=>eps n (si q) (tt q) e) j=(sn (fun q=>vv q * vv q) j:Nat):=by
  intro j
  induction j with
  | zero =>
   intro _
   refine ⟨?_,Nat.zero_le _,?_⟩
   ·show cv n f e (fun _=>0) (fun _=>0)=fun _=>0
    exact cv_0l _
   show (n:K) * 0=((0:Nat):K)
   rw [Semiring.natCast_zero]; grind
  | succ j ih =>
   intro hj
   obtain ⟨i1,i2,i3⟩:=ih (by omega)
   obtain ⟨w1,w2,w3,_⟩:=h.epsW F hn0 (ht j hj) (hsi j hj)
   have z1:cv n f e (fun x=>sm (fun q=>eps n (si q) (tt q) x) j) (eps n (si j) (tt j))=fun _=>0:=by
    rw [cv_sml]; funext x
    exact sm_zero fun q hq=>by rw [h.eps_ort F hn0 (ht q (by omega)) (ht j hj) (hs q (by omega)) (ho q j (by omega) hj (by omega))]
   have z2:cv n f e (eps n (si j) (tt j)) (fun x=>sm (fun q=>eps n (si q) (tt q) x) j)=fun _=>0:=by
    rw [cv_smr]; funext x
    exact sm_zero fun q hq=>by rw [h.eps_ort F hn0 (ht j hj) (ht q (by omega)) (hs j hj) (ho j q hj (by omega) (by omega))]
   have hid:cv n f e (fun x=>sm (fun q=>eps n (si q) (tt q) x) (j + 1)) (fun x=>sm (fun q=>eps n (si q) (tt q) x) (j + 1))=(fun x=>sm (fun q=>eps n (si q) (tt q) x) (j + 1)):=by
    show cv n f e (fun x=>sm (fun q=>eps n (si q) (tt q) x) j + eps n (si j) (tt j) x) (fun x=>sm (fun q=>eps n (si q) (tt q) x) j + eps n (si j) (tt j) x)=fun x=>sm (fun q=>eps n (si q) (tt q) x) j + eps n (si j) (tt j) x
    rw [cv_addl (fun x=>sm (fun q=>eps n (si q) (tt q) x) j),cv_addr (fun x=>sm (fun q=>eps n (si q) (tt q) x) j) (fun x=>sm (fun q=>eps n (si q) (tt q) x) j),cv_addr (eps n (si j) (tt j)) (fun x=>sm (fun q=>eps n (si q) (tt q) x) j),i1,z1,z2,w2]
    funext x; grind
   obtain ⟨r,r1,r2,_⟩:=h.rank F hid
   obtain ⟨v1,v2⟩:=hv j hj
   have e1:(n:K) * si j=((vv j * vv j:Nat):K):=by
    rw [Semiring.natCast_mul,← v2]
    have:=hsi j hj
    grind
   have e2:(n:K) * sm (fun q=>eps n (si q) (tt q) e) (j + 1)=((sn (fun q=>vv q * vv q) (j + 1):Nat):K):=by
    show (n:K) * (sm (fun q=>eps n (si q) (tt q) e) j + eps n (si j) (tt j) e)=((sn (fun q=>vv q * vv q) j + vv j * vv j:Nat):K)
    rw [Semiring.natCast_add,← i3,w3,← e1]; grind
   have e3:sn (fun q=>vv q * vv q) (j + 1)=r:=R.cinj (p:=p) (by show sn _ j + vv j * vv j < p; omega) (by omega) (by rw [← e2,← r2])
   exact ⟨hid,by omega,e2⟩
 exact (key m (Nat.le_refl _)).2.1
end
end Go.Proofs.YtjlmpmidchddjaaDoor

namespace Go.Proofs.YtjlmpmidchddjaaDoor
open Lean.Grind
attribute [local instance] Lean.Grind.Semiring.natCast Lean.Grind.Ring.intCast
theorem perm_map_ex {α β:Type} (g:α→β) {l1 l2:List β} (h:l1.Perm l2):∀ l' : List α,l2=l'.map g→∃ l'' : List α,l''.Perm l'∧l1=l''.map g:=by
 induction h with
 | nil=>intro l' h; exact ⟨l',List.Perm.refl _,h⟩
 | cons x h ih =>
  intro l' h2
  cases l' with
  | nil=>cases h2
  | cons y l' =>
   rw [List.map_cons] at h2
   injection h2 with h3 h4
   obtain ⟨l'',a,b⟩:=ih l' h4
   exact ⟨y :: l'',a.cons y,by rw [List.map_cons,h3,b]⟩
 | swap x y l =>
  intro l' h2
  match l',h2 with
  | [],h2=>cases h2
  | [z],h2=>cases h2
  | z :: w :: l',h2 =>
   simp only [List.map_cons] at h2
   injection h2 with h3 h4
   injection h4 with h4 h5
   exact ⟨w :: z :: l',List.Perm.swap z w l',by simp only [List.map_cons]; rw [h3,h4,h5]⟩
 | trans h1 h2 ih1 ih2 =>
  intro l' h
  obtain ⟨m,a,b⟩:=ih2 l' h
  obtain ⟨m',a',b'⟩:=ih1 m b
  exact ⟨m',a'.trans a,b'⟩
section
variable {n e c:Nat} {f:Nat→Nat→Nat} {cI xx:Nat→Nat} {K:Type} [CommRing K] {p:Nat}
structure AllC (K:Type) [CommRing K] (n:Nat) (f:Nat→Nat→Nat) (e c:Nat) (cI:Nat→Nat) (tt:Nat→Nat→K) (vv:Nat→Nat):Prop where
 chr:∀ i,i < c→Chr n f e cI (tt i)
 nz:∀ i,i < c→prT n f e (tt i) (tt i) e ≠ 0
 prm:∀ i,i < c→∃ k,Prm n f e (tt i) k (vv i)
 ge:∀ i,i < c→1≤vv i
 sq:∀ i,i < c→vv i * vv i≤n∧prT n f e (tt i) (tt i) e * ((vv i:K) * vv i)=(n:K)
 ort:∀ i j,i < c→j < c→i ≠ j→prT n f e (tt i) (tt j) e=0
 col:∀ a,a < n→sm (fun i=>(vv i:K) * vv i * tt i a) c=if a=e then (n:K) else 0
 sum:sn (fun i=>vv i * vv i) c=n
 all:∀ t,Chr n f e cI t→∃ i,i < c∧∀ a,a < n→t a=tt i a
theorem sn_le {g g' : Nat→Nat} : ∀ {m:Nat},(∀ i,i < m→g i≤g' i)→sn g m≤sn g' m
 | 0,_=>Nat.le_refl _
 | m + 1,h=>Nat.add_le_add (sn_le fun i hi=>h i (by omega)) (h m (by omega))
end
variable {n e:Nat} {m:List Int}
theorem cl_prL (h:GT n m n e):clP m n e∈prL:=by
 have hd:=expo_dvd h n (Nat.le_refl _)
 have h1:=h.2.1.pos
 have h2:=h.2.1.big
 have a:=List.all_eq_true.1 mdIn_t n (List.mem_range.2 (by omega))
 have hE:=Nat.le_of_dvd (by omega) hd
 have b:=List.all_eq_true.1 a (expo m n e n) (List.mem_range.2 (by omega))
 simp only [Bool.or_eq_true,decide_eq_true_eq] at b
 rcases b with (b | b) | b
 ·omega
 ·exact absurd (Nat.mod_eq_zero_of_dvd hd) b
 exact List.contains_iff_mem.1 b
theorem chT_all (h:GT n m n e) [NeZero (clP m n e)]:∃ (tt:Nat→Nat→Fin (clP m n e)) (vv:Nat→Nat),AllC (Fin (clP m n e)) n (op m n) e (clN m n e) (clI m n e) tt vv ∧
  ∀ i,i < clN m n e→(∀ a,a < n→(vc ((chT m n e).getD i []) (clI m n e a):Fin (clP m n e))=(vv i:Nat) * tt i a)∧((chT m n e).getD i []).getD (clO m n e) 0=(vv i:Nat):=by
 obtain ⟨P,p1,p2⟩:=cl_P h
 have hp3:=P.three
 have H:=gt2_of h
 have C:=gc_of h
 have G:=h.2.2
 have R:=H.R
 have F:=R.fld
 obtain ⟨lam,Fm⟩:=H.fam
 have hSl:(clSp m n e).length=clN m n e:=Fm.len
 have hrng:(clSp m n e).map (clRw m n e)=(List.range (clN m n e)).map fun q=>clRw m n e ((clSp m n e).getD q []):=by
  refine List.ext_getElem (by simp [hSl]) fun q hq _=>?_
  simp only [List.length_map] at hq
  simp [List.getD,List.getElem?_eq_getElem hq]
 obtain ⟨L,hL,hT⟩:=perm_map_ex (fun q=>clRw m n e ((clSp m n e).getD q [])) (chT_perm m n e) _ hrng
 have hLl:L.length=clN m n e:=by rw [hL.length_eq,List.length_range]
 have hLn:L.Nodup:=hL.nodup_iff.2 List.nodup_range
 have hLm:∀ i,i < clN m n e→L.getD i 0 < clN m n e:=fun i hi=>List.mem_range.1 (hL.mem_iff.1 (mem_getD (by omega)))
 have hLi:∀ i j,i < clN m n e→j < clN m n e→L.getD i 0=L.getD j 0→i=j:=fun i j hi hj hij=>by
  refine (List.getElem_inj hLn (h₀:=by omega) (h₁:=by omega)).1 ?_
  simpa [List.getD,List.getElem?_eq_getElem (show i < L.length by omega),List.getElem?_eq_getElem (show j < L.length by omega)] using hij
 have hTg:∀ i,i < clN m n e→(chT m n e).getD i []=clRw m n e ((clSp m n e).getD (L.getD i 0) []):=fun i hi=>by
  rw [hT]; simp [List.getD,List.getElem?_map,List.getElem?_eq_getElem (show i < L.length by omega)]
 have hpr:∀ i,∃ v:Nat,i < clN m n e→∃ k,Prm n (op m n) e (clT (clI m n e) (fun i=>((ivR (clP m n e) (clS m n e i:Nat):Int):Fin (clP m n e))) (lam (L.getD i 0))) k v:=fun i=>by
  by_cases hi:i < clN m n e
  ·obtain ⟨v,hv⟩:=C.prim R (fun a=>f_sur a) (fun d d1 d2=>wed_of (cl_prL h) d1 (by have:=h.2.1.big; omega)) p1 H.nz H.cz (fun a ha=>cl_pw h ha) (Fm.chr _ (hLm i hi)) (Fm.nz _ (hLm i hi))
   exact ⟨v,fun _=>hv⟩
  exact ⟨0,fun h0=>absurd h0 hi⟩
 obtain ⟨vv,hvv⟩:=Classical.axiomOfChoice hpr
 have hsq:∀ i,i < clN m n e→vv i * vv i≤n:=fun i hi=>by
  obtain ⟨k,hk⟩:=hvv i hi
  exact C.sqv R p1 H.nz (Fm.chr _ (hLm i hi)) (Fm.nz _ (hLm i hi)) hk
 have hle:∀ i,i < clN m n e→1≤vv i∧vv i≤n:=fun i hi=>by
  obtain ⟨k,hk⟩:=hvv i hi
  exact ⟨hk.ge,hk.le⟩
 have hss:∀ i,i < clN m n e→prT n (op m n) e (clT (clI m n e) (fun i=>((ivR (clP m n e) (clS m n e i:Nat):Int):Fin (clP m n e))) (lam (L.getD i 0))) (clT (clI m n e) (fun i=>((ivR (clP m n e) (clS m n e i:Nat):Int):Fin (clP m n e))) (lam (L.getD i 0))) e * (((vv i:Nat):Fin (clP m n e)) * ((vv i:Nat):Fin (clP m n e)))=(n:Nat):=fun i hi=>by
  obtain ⟨k,hk⟩:=hvv i hi
  exact hk.sq
 have hdv:∀ i,i < clN m n e→chD (clP m n e) n (clI m n e e) (clN m n e) (clJ m n e) (clS m n e) ((clSp m n e).getD (L.getD i 0) [])=vv i:=fun i hi=>by
  have hr:=row_of h Fm (hLm i hi)
  obtain ⟨v1,v2⟩:=hle i hi
  have h1:=hr.mn (vv i) v1 (by omega) (hss i hi)
  have h2:=hr.dd
  have h3:=hss i hi
  have hz:=Fm.nz _ (hLm i hi)
  have hd1:1≤chD (clP m n e) n (clI m n e e) (clN m n e) (clJ m n e) (clS m n e) ((clSp m n e).getD (L.getD i 0) []):=by unfold chD dgR; omega
  have h0:chD (clP m n e) n (clI m n e e) (clN m n e) (clJ m n e) (clS m n e) ((spsR (clP m n e) (clTT m n e) [startR (clN m n e) (clN m n e)] (clN m n e)).getD (L.getD i 0) [])=chD (clP m n e) n (clI m n e e) (clN m n e) (clJ m n e) (clS m n e) ((clSp m n e).getD (L.getD i 0) []):=rfl
  rw [h0] at h1 h2
  generalize chD (clP m n e) n (clI m n e e) (clN m n e) (clJ m n e) (clS m n e) ((clSp m n e).getD (L.getD i 0) [])=d at *
  generalize prT n (op m n) e (clT (clI m n e) (fun i=>((ivR (clP m n e) (clS m n e i:Nat):Int):Fin (clP m n e))) (lam (L.getD i 0))) (clT (clI m n e) (fun i=>((ivR (clP m n e) (clS m n e i:Nat):Int):Fin (clP m n e))) (lam (L.getD i 0))) e=s at *
  obtain ⟨si,hsi⟩:=F.1 _ hz
  have h4:(((d:Nat):Fin (clP m n e)) - ((vv i:Nat):Fin (clP m n e))) * (((d:Nat):Fin (clP m n e)) + ((vv i:Nat):Fin (clP m n e)))=0:=by grind
  rcases F.mul h4 with h5 | h5
  ·exact R.cinj (p:=clP m n e) (by omega) (by omega) (by grind)
  exfalso
  exact f_cz (p:=clP m n e) (d + vv i) (by omega) (by omega) (by rw [Semiring.natCast_add]; exact h5)
 have hort:∀ i j,i < clN m n e→j < clN m n e→i ≠ j→prT n (op m n) e (clT (clI m n e) (fun i=>((ivR (clP m n e) (clS m n e i:Nat):Int):Fin (clP m n e))) (lam (L.getD i 0))) (clT (clI m n e) (fun i=>((ivR (clP m n e) (clS m n e i:Nat):Int):Fin (clP m n e))) (lam (L.getD j 0))) e=0:=fun i j hi hj hij=>Fm.ort _ _ (hLm i hi) (hLm j hj) fun hh=>hij (hLi i j hi hj hh)
 have hent:∀ i,i < clN m n e→∀ a,a < n→(vc ((chT m n e).getD i []) (clI m n e a):Fin (clP m n e))=(vv i:Nat) * clT (clI m n e) (fun i=>((ivR (clP m n e) (clS m n e i:Nat):Int):Fin (clP m n e))) (lam (L.getD i 0)) a:=fun i hi a ha=>by
  have hr:=row_of h Fm (hLm i hi)
  have hw:(vc (chW (clP m n e) (clO m n e) ((clSp m n e).getD (L.getD i 0) [])):Nat→Fin (clP m n e))=lam (L.getD i 0):=hr.w
  rw [hTg i hi]
  unfold clRw
  rw [rwI_K R (clI_lt h ha).1,hw]
  have hd:chD (clP m n e) n (clO m n e) (clN m n e) (clJ m n e) (clS m n e) ((clSp m n e).getD (L.getD i 0) [])=vv i:=hdv i hi
  rw [hd]
  unfold clT
  grind
 have hch:∀ i,i < clN m n e→Chr n (op m n) e (clI m n e) (clT (clI m n e) (fun i=>((ivR (clP m n e) (clS m n e i:Nat):Int):Fin (clP m n e))) (lam (L.getD i 0))):=fun i hi=>Fm.chr _ (hLm i hi)
 have hnz:∀ i,i < clN m n e→prT n (op m n) e (clT (clI m n e) (fun i=>((ivR (clP m n e) (clS m n e i:Nat):Int):Fin (clP m n e))) (lam (L.getD i 0))) (clT (clI m n e) (fun i=>((ivR (clP m n e) (clS m n e i:Nat):Int):Fin (clP m n e))) (lam (L.getD i 0))) e ≠ 0:=fun i hi=>Fm.nz _ (hLm i hi)
 have hcol:∀ a,a < n→sm (fun i=>((vv i:Nat):Fin (clP m n e)) * ((vv i:Nat):Fin (clP m n e)) * clT (clI m n e) (fun i=>((ivR (clP m n e) (clS m n e i:Nat):Int):Fin (clP m n e))) (lam (L.getD i 0)) a) (clN m n e)=if a=e then ((n:Nat):Fin (clP m n e)) else 0:=fun a ha=>by
  obtain ⟨t1,t2,t3,t4,t5⟩:=chT_ort h
  have hal:=(clI_lt h ha).1
  have hol:=(clI_lt h G.el).1
  have h5:=t5 (clI m n e e) (clI m n e a) hol hal
  rw [sumL_sm,t3] at h5
  have hOx:clX m n e (clI m n e e)=e:=by
   have hx:=C.xl _ hol
   exact C.cIe hx (C.cx _ hol)
  have hJO:clJ m n e (clI m n e e)=clI m n e e:=by
   unfold clJ
   rw [hOx,G.iv_one]
  rw [hJO] at h5
  have e1:sm (fun i=>(vc ((chT m n e).getD i []) (clI m n e a):Fin (clP m n e)) * vc ((chT m n e).getD i []) (clI m n e e)) (clN m n e)=sm (fun i=>((vv i:Nat):Fin (clP m n e)) * ((vv i:Nat):Fin (clP m n e)) * clT (clI m n e) (fun i=>((ivR (clP m n e) (clS m n e i:Nat):Int):Fin (clP m n e))) (lam (L.getD i 0)) a) (clN m n e):=sm_congr fun i hi=>by
   rw [hent i hi a ha,hent i hi e G.el,(hch i hi).one]; grind
  rw [e1] at h5
  by_cases hae:a=e
  ·rw [if_pos hae]
   rw [if_pos (by rw [hae])] at h5
   have hS1:clS m n e (clI m n e a)=1:=by
    have hk:=cl_kap (K:=Fin (clP m n e)) h hol
    have hk1:kap (Fin (clP m n e)) n (clI m n e) (clI m n e e)=1:=C.sC_one G.el _ (fun g hg hge hne=>absurd (C.cIe hg hge) hne) rfl
    rw [hk1] at hk
    have:=clS_pos h hol
    rw [hae]
    refine (R.cinj (p:=clP m n e) (by omega) (by omega) ?_)
    rw [← hk,Semiring.natCast_one]
   rw [hS1] at h5
   rw [← h5]
   have:((1:Nat):Fin (clP m n e))=1:=Semiring.natCast_one
   rw [this]; grind
  rw [if_neg hae]
  rw [if_neg (fun hh=>hae (C.cIe ha hh.symm))] at h5
  have hS:=clS_pos h hal
  rcases F.mul h5 with h6 | h6
  ·exact h6
  exact absurd h6 (f_cz _ hS.1 (by omega))
 have hsum0:=C.sumsq R p1 H.nz (m:=clN m n e) (vv:=vv) hch hnz (fun i hi=>⟨hsq i hi,hss i hi⟩) hort
 refine ⟨_,vv,⟨hch,hnz,hvv,fun i hi=>(hle i hi).1,fun i hi=>⟨hsq i hi,hss i hi⟩,hort,hcol,?_,fun t ht=>?_⟩,fun i hi=>⟨hent i hi,?_⟩⟩
 ·have h1:=hcol e G.el
  rw [if_pos rfl] at h1
  refine R.cinj (p:=clP m n e) (by omega) (by omega) ?_
  rw [sn_K,← h1]
  exact sm_congr fun i hi=>by rw [(hch i hi).one,Semiring.natCast_mul]; grind
 ·refine Classical.byContradiction fun hno=>?_
  have hne:∀ i,i < clN m n e→∃ a,a < n∧t a ≠ clT (clI m n e) (fun i=>((ivR (clP m n e) (clS m n e i:Nat):Int):Fin (clP m n e))) (lam (L.getD i 0)) a:=fun i hi=>Classical.byContradiction fun hc=>hno ⟨i,hi,fun a ha=>Classical.byContradiction fun hc2=>hc ⟨a,ha,hc2⟩⟩
  have ho:∀ i,i < clN m n e→∀ b,b < n→prT n (op m n) e t (clT (clI m n e) (fun i=>((ivR (clP m n e) (clS m n e i:Nat):Int):Fin (clP m n e))) (lam (L.getD i 0))) b=0:=fun i hi b hb=>by
   obtain ⟨a,ha,h1⟩:=hne i hi
   exact C.orth F H.nz ht (hch i hi) ha h1 hb
  have h1:sm (fun w=>t w * sm (fun i=>((vv i:Nat):Fin (clP m n e)) * ((vv i:Nat):Fin (clP m n e)) * clT (clI m n e) (fun i=>((ivR (clP m n e) (clS m n e i:Nat):Int):Fin (clP m n e))) (lam (L.getD i 0)) (op m n (iv n (op m n) e w) e)) (clN m n e)) n=0:=by
   have e1:∀ w,w < n→t w * sm (fun i=>((vv i:Nat):Fin (clP m n e)) * ((vv i:Nat):Fin (clP m n e)) * clT (clI m n e) (fun i=>((ivR (clP m n e) (clS m n e i:Nat):Int):Fin (clP m n e))) (lam (L.getD i 0)) (op m n (iv n (op m n) e w) e)) (clN m n e)=sm (fun i=>((vv i:Nat):Fin (clP m n e)) * ((vv i:Nat):Fin (clP m n e)) * (t w * clT (clI m n e) (fun i=>((ivR (clP m n e) (clS m n e i:Nat):Int):Fin (clP m n e))) (lam (L.getD i 0)) (op m n (iv n (op m n) e w) e))) (clN m n e):=fun w hw=>by
    rw [← sm_mul]; exact sm_congr fun i hi=>by grind
   rw [sm_congr e1,sm_comm]
   refine sm_zero fun i hi=>?_
   rw [sm_mul,← C.prT2 _ _ G.el,ho i hi e G.el]; grind
  rw [sm_one (i:=e) G.el fun w hw hwe=>by
   rw [hcol _ (G.cl _ _ (G.iv_lt hw) G.el),if_neg fun hh=>hwe (by rw [G.one_r _ (G.iv_lt hw)] at hh; rw [← G.iv_iv hw,hh,G.iv_one])]; grind] at h1
  rw [G.iv_one,G.one_l e G.el,hcol e G.el,if_pos rfl,ht.one] at h1
  exact H.nz (by grind)
 have hr:(chT m n e).getD i []∈chT m n e:=mem_getD (by rw [(chT_ort h).2.2.1]; exact hi)
 have hrg:=((chT_ort h).2.2.2.1 _ hr).2
 have h1:=hent i hi e G.el
 rw [(hch i hi).one] at h1
 have:=hle i hi
 refine eqK R (hrg _) ⟨by omega,by omega⟩ ?_
 rw [R.cst]
 show (vc ((chT m n e).getD i []) (clI m n e e):Fin (clP m n e))=_
 rw [h1]; grind
end Go.Proofs.YtjlmpmidchddjaaDoor

namespace Go.Proofs.YtjlmpmidchddjaaDoor
open Lean.Grind
attribute [local instance] Lean.Grind.Semiring.natCast Lean.Grind.Ring.intCast
section
variable {n e c:Nat} {f:Nat→Nat→Nat} {cI xx:Nat→Nat} {K:Type} [CommRing K] {p:Nat}
theorem GC.cjg_mul (h:GC n f e c cI xx) {y a b:Nat} (hy:y < n) (ha:a < n) (hb:b < n):f (cjg n f e y a) (cjg n f e y b)=cjg n f e y (f a b):=by
 have G:=h.G
 have hi:=G.iv_lt hy
 unfold cjg
 rw [G.assoc _ _ _ (G.cl _ _ hi ha) hy (G.cl _ _ (G.cl _ _ hi hb) hy),← G.assoc y _ y hy (G.cl _ _ hi hb) hy,h.can2 hy hb,← G.assoc _ _ _ (G.cl _ _ hi ha) hb hy,G.assoc _ _ _ hi ha hb]
def sqS (n:Nat) (f:Nat→Nat→Nat) (t:Nat→K):K:=sm (fun g=>t (f g g)) n
theorem GC.sqs (h:GC n f e c cI xx) (F:Fld K) (hn:(n:K) ≠ 0) {t:Nat→K} (ht:Chr n f e cI t) {x:Nat} (hx:x < n):sm (fun g=>t (f (f g g) x)) n=sqS n f t * t x:=by
 have G:=h.G
 have e1:(n:K) * sm (fun g=>t (f (f g g) x)) n=(n:K) * (sqS n f t * t x):=by
  have e2:∀ y,y < n→sm (fun g=>t (f (f g g) x)) n=sm (fun g=>t (f (cjg n f e y (f g g)) x)) n:=fun y hy=>by
   rw [← h.sumC hy fun g=>t (f (f g g) x)]
   exact sm_congr fun g hg=>by rw [h.cjg_mul hy hg hg]
  rw [← sm_const,sm_congr e2,sm_comm]
  rw [sm_congr (g:=fun g=>(n:K) * (t (f g g) * t x)) fun g hg=>ht.mul _ _ (G.cl _ _ hg hg) hx,sm_mul,sm_mulr]
  rfl
 obtain ⟨ni,hni⟩:=F.1 _ hn
 grind
theorem GC.schur (h:GC n f e c cI xx) (F:Fld K) (hn:(n:K) ≠ 0) {t:Nat→K} (ht:Chr n f e cI t):sqS n f t * sqS n f t=(n:K) * prT n f e t t e∨sqS n f t=0:=by
 have G:=h.G
 have e1:sqS n f t * sqS n f t=(n:K) * sm (fun a=>t a * t a) n:=by
  have e2:∀ k,k < n→sqS n f t * t (f k k)=sm (fun g=>t (f (f g g) (f k k))) n:=fun k hk=>(h.sqs F hn ht (G.cl _ _ hk hk)).symm
  have e3:sqS n f t * sqS n f t=sm (fun k=>sm (fun g=>t (f (f g g) (f k k))) n) n:=by
   rw [← sm_congr e2,sm_mul]; rfl
  rw [e3,sm_comm]
  have e4:∀ g,g < n→sm (fun k=>t (f (f g g) (f k k))) n=sm (fun a=>t (f (cjg n f e (iv n f e g) a) a)) n:=fun g hg=>by
   have hi:=G.iv_lt hg
   rw [← h.sumL hi fun k=>t (f (f g g) (f k k))]
   refine sm_congr fun a ha=>?_
   have:f (f g g) (f (f (iv n f e g) a) (f (iv n f e g) a))=f (cjg n f e (iv n f e g) a) a:=by
    unfold cjg
    rw [G.iv_iv hg,G.assoc g g _ hg hg (G.cl _ _ (G.cl _ _ hi ha) (G.cl _ _ hi ha)),← G.assoc g (f (iv n f e g) a) _ hg (G.cl _ _ hi ha) (G.cl _ _ hi ha),h.can2 hg ha,← G.assoc a (iv n f e g) a ha hi ha,← G.assoc g (f a (iv n f e g)) a hg (G.cl _ _ ha hi) ha,← G.assoc g a _ hg ha hi]
   rw [this]
  rw [sm_congr e4,sm_comm]
  have e5:∀ a,a < n→sm (fun g=>t (f (cjg n f e (iv n f e g) a) a)) n=(n:K) * (t a * t a):=fun a ha=>by
   rw [h.sumI fun g=>t (f (cjg n f e g a) a)]
   exact ht.mul a a ha ha
  rw [sm_congr e5,sm_mul]
 rcases h.real F hn ht with hr | hr
 ·left
  rw [e1]
  congr 1
  show _=sm (fun z=>t (f e z) * t (iv n f e z)) n
  exact sm_congr fun z hz=>by rw [G.one_l z hz,← hr z hz]
 right
 have e2:sm (fun a=>t a * t a) n=0:=by
  rw [← hr]
  exact sm_congr fun z hz=>by
   show _=t (f e z) * t (iv n f e (iv n f e z))
   rw [G.one_l z hz,G.iv_iv hz]
 rw [e2] at e1
 have e3:sqS n f t * sqS n f t=0:=by rw [e1]; grind
 rcases F.mul e3 with h1 | h1<;>exact h1
theorem AllC.ind (h:GC n f e c cI xx) (F:Fld K) (hn:(n:K) ≠ 0) {tt:Nat→Nat→K} {vv:Nat→Nat} (A:AllC K n f e c cI tt vv) {ni:K} (hni:(n:K) * ni=1) {i:Nat} (hi:i < c) :
  (vv i:K) * sqS n f (tt i) * ni=0∨(vv i:K) * sqS n f (tt i) * ni=1∨(vv i:K) * sqS n f (tt i) * ni = -1:=by
 rcases h.schur F hn (A.chr i hi) with h1 | h1
 ·right
  obtain ⟨_,h2⟩:=A.sq i hi
  have e1:((vv i:K) * sqS n f (tt i) * ni - 1) * ((vv i:K) * sqS n f (tt i) * ni + 1)=0:=by
   have e2:((vv i:K) * sqS n f (tt i) * ni) * ((vv i:K) * sqS n f (tt i) * ni)=1:=by
    have e3:(vv i:K) * vv i * (sqS n f (tt i) * sqS n f (tt i))=(n:K) * n:=by rw [h1]; grind
    grind
   grind
  rcases F.mul e1 with h3 | h3
  ·left; grind
  right; grind
 left; rw [h1]; grind
theorem AllC.invs (h:GC n f e c cI xx) {tt:Nat→Nat→K} {vv:Nat→Nat} (A:AllC K n f e c cI tt vv) {ni:K} (hni:(n:K) * ni=1) :
  sm (fun i=>(vv i:K) * ((vv i:K) * sqS n f (tt i) * ni)) c=sm (fun g=>if f g g=e then 1 else 0) n:=by
 have G:=h.G
 have e1:∀ i,i < c→(vv i:K) * ((vv i:K) * sqS n f (tt i) * ni)=sm (fun g=>(vv i:K) * vv i * tt i (f g g) * ni) n:=fun i hi=>by
  rw [sm_mulr,sm_mul]; unfold sqS; grind
 rw [sm_congr e1,sm_comm]
 refine sm_congr fun g hg=>?_
 rw [sm_mulr,A.col _ (G.cl _ _ hg hg)]
 split<;>grind
theorem GC.omg (h:GC n f e c cI xx) (F:Fld K) (hn:(n:K) ≠ 0) {t:Nat→K} (ht:Chr n f e cI t) {i j:Nat} (hi:i < c) (hj:j < c) :
  sm (fun k=>gM K n f e cI xx i j k * (kap K n cI k * t (xx k))) c=kap K n cI i * t (xx i) * (kap K n cI j * t (xx j)):=by
 have e0:sm (fun k=>gM K n f e cI xx i j k * (kap K n cI k * t (xx k))) c=sm (fun k=>gM K n f e cI xx i j k * vT n c cI t k) c:=sm_congr fun k hk=>by
  rw [vT,if_pos hk,h.sCcl ht.cl hk]
 rw [e0,h.mat ht.cl hj]
 have e1:∀ x,x < n→opA n f cI i t x=kap K n cI i * t (xx i) * t x:=fun x hx=>by
  have hxi:=h.xl i hi
  have h1:=h.orb hxi fun g=>t (f g x)
  rw [ht.mul _ _ hxi hx,h.cx i hi] at h1
  obtain ⟨ni,hni⟩:=F.1 _ hn
  unfold opA
  grind
 have e2:sC n cI j (opA n f cI i t)=sC n cI j fun x=>kap K n cI i * t (xx i) * t x:=sC_congr fun g hg _=>e1 g hg
 rw [e2,sC_mul,h.sCcl ht.cl hj]
end
end Go.Proofs.YtjlmpmidchddjaaDoor

namespace Go.Proofs.YtjlmpmidchddjaaDoor
open Go.Pv
def poC (c a:Nat):Nat:=3 + a * (c + 1)
theorem poC_succ (c a:Nat):poC c (a + 1)=poC c a + 1 + c:=by unfold poC; rw [Nat.add_mul]; omega
theorem poC_mono (c:Nat) {a b:Nat} (h:a≤b):poC c a≤poC c b:=by unfold poC; have:=Nat.mul_le_mul_right (c + 1) h; omega
theorem poC_lt (c:Nat) {a b:Nat} (h:a < b):poC c a + 1 + c≤poC c b:=by rw [← poC_succ]; exact poC_mono c h
theorem poC_3 (c a:Nat):3≤poC c a:=by unfold poC; omega
def oC (c i k:Nat):List AV:=(List.range i).map (fun a=>.sl (poC c a) 0 c)++List.replicate k (.p .nil)
theorem oC_zero (c k:Nat):oC c 0 k=List.replicate k (.p .nil):=by simp [oC]
structure HP (g cls:List AV) (c:Nat) (o:List AV) (F:Nat→Nat→Nat→Int) (H:Heap) (i:Nat):Prop where
 wf:wfH H
 len:H.length=poC c i
 b0:hget H 0 = .own g
 b1:hget H 1 = .own cls
 b2:hget H 2 = .own o
 ro:∀ a,a < i→hget H (poC c a) = .own (rwo (poC c a + 1) c c)
 en:∀ a b,a < i→b < c→hget H (poC c a + 1 + b) = .own (ol (rgz c (F a b)))
structure HQ (g cls:List AV) (c:Nat) (o:List AV) (F:Nat→Nat→Nat→Int) (H:Heap) (i j:Nat):Prop where
 wf:wfH H
 len:H.length=poC c i + 1 + j
 b0:hget H 0 = .own g
 b1:hget H 1 = .own cls
 b2:hget H 2 = .own o
 ro:∀ a,a < i→hget H (poC c a) = .own (rwo (poC c a + 1) c c)
 en:∀ a b,a < i→b < c→hget H (poC c a + 1 + b) = .own (ol (rgz c (F a b)))
 rr:hget H (poC c i) = .own (hdN (poC c i + 1) c j (c - j))
 ee:∀ b,b < j→hget H (poC c i + 1 + b) = .own (ol (rgz c (F i b)))
variable {g cls o:List AV} {c:Nat} {F:Nat→Nat→Nat→Int} {H:Heap} {i j:Nat}
theorem nilR_sc (k L:Nat):(List.replicate k (AV.p .nil)).all (scA L)=true:=List.all_eq_true.2 fun y hy=>by rw [List.eq_of_mem_replicate hy]; rfl
theorem HP.start (h:HP g cls c o F H i) {o' : List AV} (ho:o'.all (scA (poC c i + 1))=true):HQ g cls c o' F (hset (H++[.own (List.replicate c (.p .nil))]) 2 (.own o')) i 0:=by
 have h3:=poC_3 c i
 have hl:=h.len
 have hL:(H++[Blk.own (List.replicate c (.p .nil))]).length=poC c i + 1:=by simp [hl]
 have hg:∀ k,k < poC c i→k ≠ 2→hget (hset (H++[.own (List.replicate c (.p .nil))]) 2 (.own o')) k=hget H k:=fun k hk h2=>by
  rw [hset_hget,if_neg (fun e=>h2 e.1),hget_app1 (by omega)]
 refine ⟨wfH_set (wfH_app h.wf fun b hb=>?_) 2 (by rw [hL]; exact ho),by rw [hset_len,hL],by rw [hg 0 (by omega) (by omega)]; exact h.b0,by rw [hg 1 (by omega) (by omega)]; exact h.b1,?_,fun a ha=>?_,fun a b ha hb=>?_,?_,fun b hb=>by omega⟩
 ·rw [List.mem_singleton.1 hb]; exact nilR_sc _ _
 ·rw [hset_hget,if_pos ⟨rfl,by omega⟩]
 ·have:=poC_lt c ha
  have:=poC_3 c a
  rw [hg _ (by omega) (by omega)]; exact h.ro a ha
 ·have:=poC_lt c ha
  have:=poC_3 c a
  rw [hg _ (by omega) (by omega)]; exact h.en a b ha hb
 rw [hset_hget,if_neg (fun e=>by have:=e.1; omega),hget_app2 (by omega),hl,Nat.sub_self,hdN_zero]; rfl
theorem HQ.step (h:HQ g cls c o F H i j) (hj:j < c) (hF:∀ k,k < c→F i j k=0):HQ g cls c o F (hset (H++[.own (ol (List.replicate c 0))]) (poC c i) (.own (hdN (poC c i + 1) c (j + 1) (c - (j + 1))))) i (j + 1):=by
 have h3:=poC_3 c i
 have hl:=h.len
 have hL:(H++[Blk.own (ol (List.replicate c 0))]).length=poC c i + 1 + (j + 1):=by simp [hl]; omega
 have hg:∀ k,k < H.length→k ≠ poC c i→hget (hset (H++[.own (ol (List.replicate c 0))]) (poC c i) (.own (hdN (poC c i + 1) c (j + 1) (c - (j + 1))))) k=hget H k:=fun k hk h2=>by
  rw [hset_hget,if_neg (fun e=>h2 e.1),hget_app1 (by omega)]
 refine ⟨wfH_set (wfH_app h.wf fun b hb=>?_) _ (by rw [hL]; exact hdN_sc (by omega)),by rw [hset_len,hL],by rw [hg 0 (by omega) (by omega)]; exact h.b0,by rw [hg 1 (by omega) (by omega)]; exact h.b1,by rw [hg 2 (by omega) (by omega)]; exact h.b2,fun a ha=>?_,fun a b ha hb=>?_,?_,fun b hb=>?_⟩
 ·rw [List.mem_singleton.1 hb]; exact ol_sc _ _
 ·have:=poC_lt c ha
  rw [hg _ (by omega) (by omega)]; exact h.ro a ha
 ·have:=poC_lt c ha
  rw [hg _ (by omega) (by omega)]; exact h.en a b ha hb
 ·rw [hset_hget,if_pos ⟨rfl,by omega⟩]
 by_cases e:b=j
 ·rw [e,hset_hget,if_neg (fun e=>by have:=e.1; omega),hget_app2 (by omega),hl,Nat.sub_self]
  show Blk.own (ol (List.replicate c 0))=_
  congr 2
  refine List.ext_getElem (by simp [rgz]) fun k h1 h2=>?_
  have hk:k < c:=by simpa using h1
  simp [rgz,hF k hk]
 rw [hg _ (by omega) (by omega)]; exact h.ee b (by omega)
theorem HQ.end (h:HQ g cls c o F H i c):HP g cls c o F H (i + 1):=by
 refine ⟨h.wf,by rw [h.len,poC_succ],h.b0,h.b1,h.b2,fun a ha=>?_,fun a b ha hb=>?_⟩
 ·by_cases e:a=i
  ·subst e
   have:=h.rr
   rwa [Nat.sub_self,hdN_full] at this
  exact h.ro a (by omega)
 by_cases e:a=i
 ·subst e; exact h.ee b hb
 exact h.en a b (by omega) hb
theorem HP.upd (h:HP g cls c o F H i) {a b:Nat} (ha:a < i) (hb:b < c) {F' : Nat→Nat→Nat→Int} (hF:∀ x y,(x=a∧y=b)∨∀ k,k < c→F' x y k=F x y k):HP g cls c o F' (hset H (poC c a + 1 + b) (.own (ol (rgz c (F' a b))))) i:=by
 have hl:=h.len
 have ha2:=poC_lt c ha
 have ha3:=poC_3 c a
 have hg:∀ k,k ≠ poC c a + 1 + b→hget (hset H (poC c a + 1 + b) (.own (ol (rgz c (F' a b))))) k=hget H k:=fun k hk=>by
  rw [hset_hget,if_neg fun e=>hk e.1]
 refine ⟨wfH_set h.wf _ (ol_sc _ _),by rw [hset_len,hl],by rw [hg 0 (by omega)]; exact h.b0,by rw [hg 1 (by omega)]; exact h.b1,by rw [hg 2 (by omega)]; exact h.b2,fun x hx=>?_,fun x y hx hy=>?_⟩
 ·rw [hg _ fun e=>?_]
  ·exact h.ro x hx
  rcases Nat.lt_trichotomy x a with h1 | h1 | h1
  ·have:=poC_lt c h1; omega
  ·subst h1; omega
  have:=poC_lt c h1; omega
 by_cases e:x=a∧y=b
 ·rw [e.1,e.2,hset_hget,if_pos ⟨rfl,by omega⟩]
 rw [hg _ fun e2=>?_,h.en x y hx hy]
 ·rcases hF x y with h1 | h1
  ·exact absurd h1 e
  congr 2
  exact rgz_congr fun k hk=>(h1 k hk).symm
 rcases Nat.lt_trichotomy x a with h1 | h1 | h1
 ·have:=poC_lt c h1; omega
 ·subst h1; exact e ⟨rfl,by omega⟩
 have:=poC_lt c h1; omega
section
variable {P:Program} {cd:Code} {Q:Exit→St→Prop}
end
end Go.Proofs.YtjlmpmidchddjaaDoor

namespace Go.Pv
open Go.RowKit
section
variable {P:Program}
end
end Go.Pv

namespace Go.Pv
open Go.RowKit
end Go.Pv

namespace Go.Pv
open Go.RowKit
end Go.Pv

namespace Go.Proofs.YtjlmpmidchddjaaDoor
open Go.Pv
def pcn (m:List Int) (n e a b i j k:Nat):Nat:=if clI m n e a=i∧clI m n e b=j∧op m n a b=clX m n e k then 1 else 0
def pin (m:List Int) (n e a i j k:Nat):Nat→Nat
 | 0=>0
 | b + 1=>pin m n e a i j k b + pcn m n e a b i j k
def pou (m:List Int) (n e i j k:Nat):Nat→Nat
 | 0=>0
 | a + 1=>pou m n e i j k a + pin m n e a i j k n
def prF (m:List Int) (n e a b i j k:Nat):Int:=((pou m n e i j k a + pin m n e a i j k b:Nat):Int)
theorem HP.zero (g cls:List AV) (c:Nat) (hg:∀ L,g.all (scA L)=true) (hc:∀ L,cls.all (scA L)=true) (F:Nat→Nat→Nat→Int):HP g cls c (oC c 0 c) F [.own g,.own cls,.own (List.replicate c (.p .nil))] 0:=
 ⟨fun b hb=>by
  simp only [List.mem_cons,List.not_mem_nil,or_false] at hb
  rcases hb with rfl | rfl | rfl
  ·exact hg _
  ·exact hc _
  exact nilR_sc _ _,by simp [poC],rfl,rfl,by rw [oC_zero]; rfl,fun a ha=>by omega,fun a b ha=>by omega⟩
end Go.Proofs.YtjlmpmidchddjaaDoor

namespace Go.Proofs.YtjlmpmidchddjaaDoor
open Go.Pv
def unB (a:Int) (p x:Nat):Bool:=decide (a * ((x:Int) + 1) % (p:Int)=1 % (p:Int))
def unR (a:Int) (p:Nat):Nat:=match fst' (unB a p) (p - 1) with
 | some x=>x + 1
 | none=>0
theorem under_c {p:Nat} {a:Int} (hp:2≤p) (hp2:p≤1000000) (ha:0≤a) (ha2:a≤1000000):FnC Tryd.prog 22 [.int .i64 a,.int .i64 p] (.int .i64 (unR a p:Nat)):=by
 refine fnc_of tab_ok Tryd.func22 rfl (by kernel_rfl) (by rw [Tryd.ntmps22]; exact Nat.le_add_left 2 _) ?_; rw [Tryd.ntmps22]
 refine qm ?_
 refine hk_region fun K hK=>runs_eval tab_ok ?_
 simp only [evz,fl,gp,tab,simprocAttr]
 refine fin_run trivial (hK _ ?_)<;>clear hK K
 refine qa (qm (qm ?_))
 refine hk_region fun K hK=>runs_eval tab_ok ?_
 simp only [evz,fl,gp,tab,simprocAttr]
 refine fin_run trivial (hK _ ?_)<;>clear hK K
 refine qa (ql ?_)
 refine hk_loop (ι:=Nat) (fun x=>⟨20,[(0,.p (.int .i64 a)),(1,.p (.int .i64 p)),(5,.p (.int .i64 ((x:Int) + 1)))],[]⟩) (fun x=>x≤p - 1∧∀ t,t < x→unB a p t=false) (fun x=>p - 1 - x) 0 ⟨Nat.zero_le _,fun t ht=>by omega⟩ [] (by simp only [leq,leA,evz,fl,gp,tab,simprocAttr]<;>first|trivial|skip) fun x hx=>?_
 obtain ⟨hx1,hx2⟩:=hx
 refine qm (qm ?_)
 refine hk_region fun K hK=>runs_eval tab_ok ?_
 simp only [evz,fl,gp,tab,simprocAttr]
 refine fin_run trivial (hK _ ?_)<;>clear hK K
 refine qa ?_
 refine hk_cond rfl (fun hC1=>?_) (fun hC1=>?_)
 ·(try simp only [nhs] at hC1)
  have hxp:x < p - 1:=by omega
  have hm:0≤a * ((x:Int) + 1)∧a * ((x:Int) + 1)≤1000000 * 1000000:=⟨Int.mul_nonneg ha (by omega),Int.mul_le_mul ha2 (by omega) (by omega) (by omega)⟩
  have t1:Int.tmod (a * ((x:Int) + 1)) p=a * ((x:Int) + 1) % p:=Int.tmod_eq_emod_of_nonneg hm.1
  have t2:Int.tmod 1 (p:Int)=1 % (p:Int):=Int.tmod_eq_emod_of_nonneg (by omega)
  refine qh (qa (qm (ql (qm ?_))))
  refine hk_draw mixed (by kernel_rfl) fun K hK=>runs_eval tab_ok ?_
  simp only [evz,fl,gp,tab,simprocAttr,t1,t2]
  refine fin_run ?_ (hK _ ?_)<;>clear hK K
  ·simp only [In64]; omega
  refine qa ?_
  refine hk_cond rfl (fun hC2=>?_) (fun hC2=>?_)
  ·(try simp only [nhs] at hC2)
   have hu:fst' (unB a p) (p - 1)=some x:=fst_some hxp (decide_eq_true hC2) hx2
   have hu2:((unR a p:Nat):Int)=(x:Int) + 1:=by simp only [unR,hu]; omega
   rw [hu2]
   refine qm ?_
   refine hk_region fun K hK=>runs_eval tab_ok ?_
   simp only [evz,fl,gp,tab,simprocAttr]
   refine fin_run trivial (hK _ ?_)<;>clear hK K
   refine qa (qk (qe (qb (qb (qe (qb ?_))))))
   simp only [Tryd.results22,enA,evz,fl,gp,tab,simprocAttr]
   all_goals ((first|exact rfl|exact ⟨rfl,rfl⟩|exact ⟨rfl,rfl,rfl⟩|exact ⟨trivial,rfl⟩|exact ⟨Nat.le_refl _,rfl⟩|trivial|(simp; done)))
  (try simp only [nhs] at hC2)
  refine qh (qd (qa ?_))
  refine hk_region fun K hK=>runs_eval tab_ok ?_
  simp only [evz,fl,gp,tab,simprocAttr]
  refine fin_run ?_ (hK _ ?_)<;>clear hK K
  ·(first|exact trivial|omega|(simp only [In64] at *; omega)|(simp [In64] at *; omega)|(simp_all; done)|skip)
  refine qa ?_
  refine ⟨x + 1,[],⟨by omega,fun t ht=>?_⟩,by omega,by simp only [leq,leA,evz,fl,gp,tab,simprocAttr]<;>first|trivial|omega|skip⟩
  by_cases e:t=x
  ·rw [e]; exact decide_eq_false hC2
  exact hx2 t (by omega)
 (try simp only [nhs] at hC1)
 have hxp:x=p - 1:=by omega
 have hu:fst' (unB a p) (p - 1)=none:=fst_none fun t ht=>hx2 t (by omega)
 have hu2:unR a p=0:=by simp only [unR,hu]
 rw [hu2]
 refine qj (qc (qc (qf (qa (qm ?_)))))
 refine hk_region fun K hK=>runs_eval tab_ok ?_
 simp only [evz,fl,gp,tab,simprocAttr]
 refine fin_run trivial (hK _ ?_)<;>clear hK K
 refine qa (qk ?_)
 simp only [Tryd.results22,enA,evz,fl,gp,tab,simprocAttr]
 all_goals ((first|exact rfl|exact ⟨rfl,rfl⟩|exact ⟨rfl,rfl,rfl⟩|exact ⟨trivial,rfl⟩|exact ⟨Nat.le_refl _,rfl⟩|trivial|(simp; done)))
end Go.Proofs.YtjlmpmidchddjaaDoor

namespace Go.Proofs.YtjlmpmidchddjaaDoor
open Lean.Grind
attribute [local instance] Lean.Grind.Semiring.natCast Lean.Grind.Ring.intCast
def omF (p:Nat) (r:List Int) (S:Nat→Nat) (u:Nat) (c:Nat):Int:=r.getD c 0 * (S c:Nat) % (p:Int) * (u:Nat) % (p:Int)
def smW (p:Nat) (W:List Int) (J U:Nat→Nat):Nat→Int
 | 0=>0
 | a + 1=>(smW p W J U a + W.getD a 0 * W.getD (J a) 0 % (p:Int) * (U a:Nat)) % (p:Int)
def trW (p:Nat) (T:Nat→Int) (W:List Int):Nat→Int
 | 0=>0
 | c + 1=>(trW p T W c + T c * W.getD c 0) % (p:Int)
theorem trW_rg {p:Nat} (hp:0 < p) (T:Nat→Int) (W:List Int):∀ k,0≤trW p T W k∧trW p T W k < p
 | 0=>⟨by show (0:Int)≤0; omega,by show (0:Int) < p; omega⟩
 | k + 1=>emod_rng hp _
section
variable {K:Type} [CommRing K] {p:Nat}
theorem smW_K (R:Rp K p) (W:List Int) (J U:Nat→Nat):∀ k,((smW p W J U k:Int):K)=sm (fun a=>vc W a * vc W (J a) * ((U a:Nat):K)) k
 | 0=>Ring.intCast_zero
 | k + 1=>by
  rw [smW,R.toRd.mod,Ring.intCast_add,Ring.intCast_mul,R.toRd.mod,Ring.intCast_mul,smW_K R W J U k,R.cst]; rfl
theorem trW_K (R:Rp K p) (T:Nat→Int) (W:List Int):∀ k,((trW p T W k:Int):K)=sm (fun c=>((T c:Int):K) * vc W c) k
 | 0=>Ring.intCast_zero
 | k + 1=>by
  rw [trW,R.toRd.mod,Ring.intCast_add,Ring.intCast_mul,trW_K R T W k]; rfl
theorem omF_K (R:Rp K p) (r:List Int) (S:Nat→Nat) (u c:Nat):((omF p r S u c:Int):K)=vc r c * ((S c:Nat):K) * ((u:Nat):K):=by
 rw [omF,R.toRd.mod,Ring.intCast_mul,R.toRd.mod,Ring.intCast_mul,R.cst,R.cst]; rfl
theorem unR_K (R:Rp K p) {a:Nat} (h1:0 < a) (h2:a < p):(a:K) * ((unR (a:Nat) p:Nat):K)=1∧unR (a:Nat) p < p:=by
 have h3:=R.toRd.inv (x:=(a:Nat)) (by omega) (by omega)
 rw [R.cst] at h3
 obtain ⟨y,hy⟩:∃ y,y=(ivR p (a:Nat) % (p:Int)).toNat:=⟨_,rfl⟩
 have hp2:=R.two
 have hy0:=emod_rng (p:=p) (by omega) (ivR p (a:Nat))
 have hyK:((y:Nat):K)=((ivR p (a:Nat):Int):K):=by
  rw [← R.cst,hy,Int.toNat_of_nonneg hy0.1,R.toRd.mod]
 have hy1:y ≠ 0:=fun h0=>by
  rw [← hyK,h0] at h3
  have:((0:Nat):K)=0:=Semiring.natCast_zero
  rw [this] at h3
  exact R.fld.2 (by rw [← h3]; grind)
 have key:∀ x:Nat,unB (a:Nat) p x=true↔(a:K) * ((x + 1:Nat):K)=1:=fun x=>by
  unfold unB
  rw [decide_eq_true_iff]
  have e1:(((a:Nat):Int) * ((x:Int) + 1))=((a * (x + 1):Nat):Int):=by simp
  rw [e1]
  constructor
  ·intro h
   have e2:=congrArg (fun z:Int=>(z:K)) h
   simp only [R.toRd.mod] at e2
   rw [R.cst,Semiring.natCast_mul,Ring.intCast_one] at e2
   exact e2
  intro h
  have e2:((((a * (x + 1):Nat):Int) % (p:Int):Int):K)=((1 % (p:Int):Int):K):=by
   rw [R.toRd.mod,R.toRd.mod,R.cst,Semiring.natCast_mul,Ring.intCast_one]; exact h
  exact eqK R (emod_rng (by omega) _) (emod_rng (by omega) _) e2
 unfold unR
 cases hf:fst' (unB (a:Nat) p) (p - 1) with
 | some x =>
  have:=fst_spec hf
  exact ⟨(key x).1 this.2.1,by show x + 1 < p; omega⟩
 | none =>
  exfalso
  have h4:=fst_spec0 hf (y - 1) (by omega)
  rw [(key (y - 1)).2 (by rw [show y - 1 + 1=y by omega,hyK]; exact h3)] at h4
  cases h4
end
variable {n e:Nat} {m:List Int}
theorem pin_K {K:Type} [CommRing K] (a i j k:Nat):∀ b,((pin m n e a i j k b:Nat):K)=sm (fun b=>if clI m n e a=i∧clI m n e b=j∧op m n a b=clX m n e k then (1:K) else 0) b
 | 0=>Semiring.natCast_zero
 | b + 1=>by
  rw [pin,Semiring.natCast_add,pin_K a i j k b,sm,pcn]
  split
  ·rw [Semiring.natCast_one]
  rw [Semiring.natCast_zero]
theorem pou_K {K:Type} [CommRing K] (i j k:Nat):∀ a,((pou m n e i j k a:Nat):K)=sm (fun a=>((pin m n e a i j k n:Nat):K)) a
 | 0=>Semiring.natCast_zero
 | a + 1=>by rw [pou,Semiring.natCast_add,pou_K i j k a]; rfl
theorem pou_gM {K:Type} [CommRing K] (h:GT n m n e) {i j k:Nat} (hk:k < clN m n e):((pou m n e i j k n:Nat):K)=gM K n (op m n) e (clI m n e) (clX m n e) i j k:=by
 have G:=h.2.2
 have C:=gc_of h
 have hx:=C.xl k hk
 rw [pou_K]
 unfold gM sC
 refine sm_congr fun g hg=>?_
 rw [pin_K]
 have hb:=G.cl _ _ (G.iv_lt hg) hx
 rw [sm_one (i:=op m n (iv n (op m n) e g) (clX m n e k)) hb fun b hbn hne=>if_neg fun ⟨_,_,hh⟩=>hne (by rw [← hh,C.can1 hg hbn])]
 rw [C.can2 hg hx]
 by_cases h1:clI m n e g=i
 ·by_cases h2:clI m n e (op m n (iv n (op m n) e g) (clX m n e k))=j
  ·simp only [h1,h2,and_self,if_true]
  simp only [h1,h2,false_and,and_false,if_false,if_true]
 rw [if_neg h1,if_neg fun hh=>h1 hh.1]
theorem tabRow_ok (h:GT n m n e) {i:Nat} (hi:i < clN m n e):∃ d:Nat,1≤d∧d≤n∧((chT m n e).getD i []).getD (clO m n e) 0=(d:Nat)∧unR (d:Nat) (clP m n e) < clP m n e ∧
  ∀ W:List Int,(∀ c,c < clN m n e→W.getD c 0=omF (clP m n e) ((chT m n e).getD i []) (clS m n e) (unR (d:Nat) (clP m n e)) c) →
   (∀ a b,a < clN m n e→b < clN m n e→trW (clP m n e) (fun c=>prF m n e n 0 a b c) W (clN m n e)=W.getD a 0 * W.getD b 0 % (clP m n e:Nat)) ∧
   (d:Int) * d % (clP m n e:Nat) * smW (clP m n e) W (clJ m n e) (fun a=>unR (clS m n e a:Nat) (clP m n e)) (clN m n e) % (clP m n e:Nat)=(n:Int) % (clP m n e:Nat):=by
 obtain ⟨P,p1,p2⟩:=cl_P h
 have hp3:=P.three
 haveI:NeZero (clP m n e):=⟨by omega⟩
 have H:=gt2_of h
 have C:=gc_of h
 have R:=H.R
 have F:=R.fld
 obtain ⟨tt,vv,A,hrow⟩:=chT_all h
 obtain ⟨r1,r2⟩:=hrow i hi
 have hv1:=A.ge i hi
 obtain ⟨hv2,hv3⟩:=A.sq i hi
 have hv4:vv i≤n:=Nat.le_trans (Nat.le_mul_of_pos_left _ hv1) hv2
 obtain ⟨u1,u2⟩:=unR_K R (a:=vv i) (by omega) (by omega)
 refine ⟨vv i,hv1,hv4,r2,u2,fun W hW=>?_⟩
 have hWK:∀ c,c < clN m n e→(vc W c:Fin (clP m n e))=kap (Fin (clP m n e)) n (clI m n e) c * tt i (clX m n e c):=fun c hc=>by
  have e1:(vc W c:Fin (clP m n e))=((W.getD c 0:Int):Fin (clP m n e)):=rfl
  have e2:=r1 _ (C.xl c hc)
  rw [C.cx c hc] at e2
  rw [e1,hW c hc,omF_K R,e2,cl_kap h hc]
  grind
 have hJl:∀ a,a < clN m n e→clJ m n e a < clN m n e:=fun a ha=>(clI_lt h (h.2.2.iv_lt (clG h ha).1)).1
 constructor
 ·intro a b ha hb
  refine eqK R (trW_rg (by omega) _ _ _) (emod_rng (by omega) _) ?_
  rw [trW_K R,R.toRd.mod,Ring.intCast_mul]
  have e1:sm (fun c=>((prF m n e n 0 a b c:Int):Fin (clP m n e)) * vc W c) (clN m n e)=sm (fun k=>gM (Fin (clP m n e)) n (op m n) e (clI m n e) (clX m n e) a b k * (kap (Fin (clP m n e)) n (clI m n e) k * tt i (clX m n e k))) (clN m n e):=sm_congr fun c hc=>by
   rw [hWK c hc]
   have:prF m n e n 0 a b c=((pou m n e a b c n:Nat):Int):=rfl
   rw [this,R.cst,pou_gM h hc]
  rw [e1,C.omg F H.nz (A.chr i hi) ha hb,← hWK a ha,← hWK b hb]
  rfl
 refine eqK R (emod_rng (by omega) _) (emod_rng (by omega) _) ?_
 rw [R.toRd.mod,Ring.intCast_mul,R.toRd.mod,Ring.intCast_mul,R.toRd.mod,R.cst,R.cst,smW_K R]
 have e1:sm (fun a=>vc W a * vc W (clJ m n e a) * ((unR (clS m n e a:Nat) (clP m n e):Nat):Fin (clP m n e))) (clN m n e)=prT n (op m n) e (tt i) (tt i) e:=by
  rw [H.pairC (A.chr i hi).cl (A.chr i hi).cl]
  refine sm_congr fun a ha=>?_
  have hs:=clS_pos h ha
  obtain ⟨w1,_⟩:=unR_K R (a:=clS m n e a) hs.1 (by omega)
  have hj:kap (Fin (clP m n e)) n (clI m n e) (clJ m n e a)=kap (Fin (clP m n e)) n (clI m n e) a:=C.kapJ ha
  have ht:tt i (clX m n e (clJ m n e a))=tt i (iv n (op m n) e (clX m n e a)):=(A.chr i hi).cl _ _ (C.xl _ (hJl a ha)) (h.2.2.iv_lt (C.xl a ha)) (C.cx _ (hJl a ha))
  rw [hWK a ha,hWK _ (hJl a ha),hj,ht,cl_kap h ha]
  grind
 rw [e1,← hv3]
 grind
end Go.Proofs.YtjlmpmidchddjaaDoor

namespace Go.Proofs.YtjlmpmidchddjaaDoor
open Go.Pv
def pwl (n:Nat) (f:Nat→Nat→Nat) (e:Nat) (k:Int) (i:Nat):List Int:=((mem n (lead (cjb n f e))).take i).map fun x=>wch (cst n (cjb n f e)) ((pw f e x (k % (n:Int)).toNat:Nat):Int)
theorem pwl_succ {n:Nat} {f:Nat→Nat→Nat} {e:Nat} {k:Int} {i:Nat} (hi:i < (mem n (lead (cjb n f e))).length):pwl n f e k (i + 1)=pwl n f e k i++[wch (cst n (cjb n f e)) ((pw f e ((mem n (lead (cjb n f e))).getD i 0) (k % (n:Int)).toNat:Nat):Int)]:=by
 unfold pwl
 have e1:(mem n (lead (cjb n f e)))[i]=(mem n (lead (cjb n f e))).getD i 0:=by simp [List.getD,List.getElem?_eq_getElem hi]
 rw [List.take_succ_eq_append_getElem hi,List.map_append,e1]
 rfl
theorem pwl_len (n:Nat) (f:Nat→Nat→Nat) (e:Nat) (k:Int) (i:Nat):(pwl n f e k i).length≤i:=by
 unfold pwl
 rw [List.length_map,List.length_take]; omega
theorem powers_ok {n e:Nat} {m:List Int} (h:GT n m n e) (k:Int):FnC Tryd.prog 23 [gp n m,.int .i64 k] (.tup [.list (il (pwl n (op m n) e k (mem n (lead (cjb n (op m n) e))).length)),fl (0,0)]):=by
 have G:=h.2.2
 have hb:=h.2.1.big
 have hml:=h.2.1.len
 have hsq:=sq_le hb
 have hpos:=G.pos
 have E:=G.cjb_eqv
 have hcl:(cst n (cjb n (op m n) e)).length≤n:=cstp_len _ _ _
 have hcm:=cst_len n (cjb n (op m n) e)
 have hadj:=emod_adj (n:=k) (o:=(n:Nat)) (by omega)
 have hem1:=Int.emod_nonneg k (show ((n:Nat):Int) ≠ 0 by omega)
 have hem2:=Int.emod_lt_of_pos k (show (0:Int) < (n:Nat) by omega)
 obtain ⟨q,hq⟩:=Int.eq_ofNat_of_zero_le hem1
 have hqn:q≤1000000:=by omega
 refine fnc_of tab_ok Tryd.func23 rfl (by kernel_rfl) (by rw [Tryd.ntmps23]; exact Nat.le_add_left 2 _) ?_; rw [Tryd.ntmps23]
 refine qm ?_
 refine hk_region fun K hK=>runs_eval tab_ok ?_
 simp only [evz,fl,gp,tab,simprocAttr]
 refine fin_run ?_ (hK _ ?_)<;>clear hK K
 ·(first|exact trivial|omega|(simp only [In64] at *; omega)|(simp [In64] at *; omega)|(simp_all; done)|skip)
 refine qa (qm (qm ?_))
 refine hk_region fun K hK=>runs_eval tab_ok ?_
 simp only [evz,fl,gp,tab,simprocAttr]
 refine fin_stop trivial (runs_call (check_c n m (by omega)) rfl rfl rfl (by simp only [dstOk,Nat.reduceLT]) (by repeat (first|exact trivial|constructor)) (runs_eval tab_ok ?_))
 simp only [evz,fl,gp,tab,simprocAttr,gf_of h]
 refine fin_run ?_ (hK _ ?_)<;>clear hK K
 ·(first|exact trivial|omega|(simp only [In64] at *; omega)|(simp [In64] at *; omega)|(simp_all; done)|skip)
 refine qa (qm ?_)
 refine hk_region fun K hK=>runs_eval tab_ok ?_
 simp only [evz,fl,gp,tab,simprocAttr]
 refine fin_run ?_ (hK _ ?_)<;>clear hK K
 ·(first|exact trivial|omega|(simp only [In64] at *; omega)|(simp [In64] at *; omega)|(simp_all; done)|skip)
 refine qa ?_
 refine hk_cond rfl (fun hC1=>?_) (fun hC1=>?_)
 ·cases hC1
 (try simp only [nhs] at hC1)
 refine qh (qa (qm ?_))
 refine hk_region fun K hK=>runs_eval tab_ok ?_
 simp only [evz,fl,gp,tab,simprocAttr]
 refine fin_stop trivial (runs_call (classOf_s h) rfl rfl rfl (by simp only [dstOk,Nat.reduceLT]) (by repeat (first|exact trivial|constructor)) (runs_eval tab_ok ?_))
 simp only [evz,fl,gp,tab,simprocAttr]
 refine fin_run ?_ (hK _ ?_)<;>clear hK K
 ·(first|exact trivial|omega|(simp only [In64] at *; omega)|(simp [In64] at *; omega)|(simp_all; done)|skip)
 refine qa (qm ?_)
 refine hk_region fun K hK=>runs_eval tab_ok ?_
 simp only [evz,fl,gp,tab,simprocAttr]
 refine fin_stop trivial (runs_call (where_s m hb E) rfl rfl rfl (by simp only [dstOk,Nat.reduceLT]) (by repeat (first|exact trivial|constructor)) (runs_eval tab_ok ?_))
 simp only [evz,fl,gp,tab,simprocAttr]
 refine fin_run ?_ (hK _ ?_)<;>clear hK K
 ·(first|exact trivial|omega|(simp only [In64] at *; omega)|(simp [In64] at *; omega)|(simp_all; done)|skip)
 refine qa (qm (qm ?_))
 refine hk_region fun K hK=>runs_eval tab_ok ?_
 simp only [evz,fl,gp,tab,simprocAttr]
 refine fin_run ?_ (hK _ ?_)<;>clear hK K
 ·omega
 refine qa (qm ?_)
 refine hk_region fun K hK=>runs_eval tab_ok ?_
 simp only [evz,fl,gp,tab,simprocAttr]
 refine fin_run trivial (hK _ ?_)<;>clear hK K
 refine qa ?_
 refine hk_cond rfl (fun hC2=>?_) (fun hC2=>?_)
 ·(try simp only [nhs] at hC2)
  refine hk_region fun K hK=>runs_eval tab_ok ?_
  simp only [evz,fl,gp,tab,simprocAttr]
  refine fin_run ?_ (hK _ ?_)<;>clear hK K
  ·rw [if_pos hC2] at hadj; simp only [In64]; omega
  refine qa (qm ?_)
  rw [if_pos hC2] at hadj
  rw [hadj,hq]
  refine hk_region fun K hK=>runs_eval tab_ok ?_
  simp only [evz,fl,gp,tab,simprocAttr]
  refine fin_run trivial (hK _ ?_)<;>clear hK K
  refine qa (qm (qm ?_))
  refine hk_own0 9 rfl ?_
  refine hk_region fun K hK=>runs_eval tab_ok ?_
  simp only [evz,fl,gp,tab,simprocAttr,ll_length]
  refine fin_run trivial (hK _ ?_)<;>clear hK K
  refine qa (ql ?_)
  refine hk_loop (ι:=Nat) (fun i=>⟨54,[(1,.p (.int .i64 q)),(2,.ptr 0 0),(5,.ptr 1 0),(8,.p (.list (il (whl n (cjb n (op m n) e))))),(9,.sl 2 0 (pwl n (op m n) e k i).length),(33,.p (.list (ll (cst n (cjb n (op m n) e))))),(34,.p (.int .i64 (cst n (cjb n (op m n) e)).length)),(35,.p (.int .i64 i))],[.own [.p (.int .i64 n),.p (.list (il m))],.own [.p (.int .i64 0),.p (.int .i64 0)],.own (ol (pwl n (op m n) e k i))]⟩) (fun i=>i≤(cst n (cjb n (op m n) e)).length) (fun i=>(cst n (cjb n (op m n) e)).length - i) 0 (Nat.zero_le _) [0,1,3] (by simp only [leq,leA,evz,fl,gp,tab,simprocAttr]<;>first|trivial|(simp [pwl,ol_nil]; done)) fun i hi=>?_
  have hpl:=pwl_len n (op m n) e k i
  refine qm ?_
  refine hk_region fun K hK=>runs_eval tab_ok ?_
  simp only [evz,fl,gp,tab,simprocAttr]
  refine fin_run trivial (hK _ ?_)<;>clear hK K
  refine qa (qm ?_)
  refine hk_cond rfl (fun hC3=>?_) (fun hC3=>?_)
  ·(try simp only [nhs] at hC3)
   have hlt:i < (cst n (cjb n (op m n) e)).length:=by omega
   obtain ⟨x,x1,x2,x3,x4⟩:=cst_get hlt
   obtain ⟨hd1,hd2⟩:=(lead_head x1).1 x2
   have hpx:=G.pw_lt x1 q
   have hps:=pwl_succ (n:=n) (f:=op m n) (e:=e) (k:=k) (i:=i) (by omega)
   rw [x4,hq,Int.toNat_natCast] at hps
   have hwl:(whl n (cjb n (op m n) e)).length=n:=rgz_len _ _
   have hwg:(whl n (cjb n (op m n) e)).getD (pw (op m n) e x q) 0=wch (cst n (cjb n (op m n) e)) ((pw (op m n) e x q:Nat):Int):=rgz_get hpx
   refine qh (qa (qm (ql (qm ?_))))
   refine hk_region fun K hK=>runs_eval tab_ok ?_
   simp only [evz,fl,gp,tab,simprocAttr,ll_length,ll_get hlt,x3]
   refine fin_run ?_ (hK _ ?_)<;>clear hK K
   ·(first|exact trivial|omega|(simp only [In64] at *; omega)|(simp [In64] at *; omega)|(simp_all; done)|skip)
   refine qa ?_
   refine hk_draw2 mixed fun K hK=>runs2_eval tab_ok ?_
   simp only [evD,evz,fl,gp,tab,simprocAttr,il_get hd1,hd2,il_get (show pw (op m n) e x q < (whl n (cjb n (op m n) e)).length by omega),hwg]
   refine fin2_stop ?_ (runs2_call (powOf_c h x1 q hqn) rfl rfl rfl rfl (by simp only [dstOk,Nat.reduceLT]) (by repeat (first|exact trivial|constructor)) (runs2_eval tab_ok ?_))
   ·(first|exact trivial|omega|(simp only [In64] at *; omega)|(simp [In64] at *; omega)|(simp_all; done)|skip)
   simp only [evD,evz,fl,gp,tab,simprocAttr,il_get hd1,hd2,il_get (show pw (op m n) e x q < (whl n (cjb n (op m n) e)).length by omega),hwg]
   refine fin2_run ?_ (hK _ _ (by first|kernel_rfl|rfl) ?_)<;>clear hK K
   ·(first|exact trivial|omega|(simp only [In64] at *; omega)|(simp [In64] at *; omega)|(simp_all; done)|skip)
   refine qd (qa ?_)
   refine hk_region fun K hK=>runs_eval tab_ok ?_
   simp only [evz,fl,gp,tab,simprocAttr]
   refine fin_run ?_ (hK _ ?_)<;>clear hK K
   ·(first|exact trivial|omega|(simp only [In64] at *; omega)|(simp [In64] at *; omega)|(simp_all; done)|skip)
   refine qa ?_
   refine ⟨i + 1,[0,1,3],by omega,by omega,?_⟩
   rw [hps]
   simp only [leq,leA,evz,fl,gp,tab,simprocAttr]<;>first|trivial|omega
  (try simp only [nhs] at hC3)
  have hin:i=(cst n (cjb n (op m n) e)).length:=by omega
  rw [hin,hcm]
  rw [hin,hcm] at hpl
  refine hk_seal 9 2 rfl rfl ?_
  refine qj (qc (qc (qf (qa (qm ?_)))))
  refine hk_region fun K hK=>runs_eval tab_ok ?_
  simp only [evz,fl,gp,tab,simprocAttr]
  refine fin_run ?_ (hK _ ?_)<;>clear hK K
  ·(first|exact trivial|omega|(simp only [In64] at *; omega)|(simp [In64] at *; omega)|(simp_all; done)|skip)
  refine qa (qk ?_)
  simp only [Tryd.results23,enA,evz,fl,gp,tab,simprocAttr]
  all_goals (first|rfl|exact ⟨rfl,rfl⟩|(simp; done)|trace_state)
 (try simp only [nhs] at hC2)
 rw [if_neg hC2] at hadj
 rw [hadj,hq]
 refine qh (qa (qm ?_))
 refine hk_region fun K hK=>runs_eval tab_ok ?_
 simp only [evz,fl,gp,tab,simprocAttr]
 refine fin_run trivial (hK _ ?_)<;>clear hK K
 refine qa (qm (qm ?_))
 refine hk_own0 9 rfl ?_
 refine hk_region fun K hK=>runs_eval tab_ok ?_
 simp only [evz,fl,gp,tab,simprocAttr,ll_length]
 refine fin_run trivial (hK _ ?_)<;>clear hK K
 refine qa (ql ?_)
 refine hk_loop (ι:=Nat) (fun i=>⟨54,[(1,.p (.int .i64 q)),(2,.ptr 0 0),(5,.ptr 1 0),(8,.p (.list (il (whl n (cjb n (op m n) e))))),(9,.sl 2 0 (pwl n (op m n) e k i).length),(33,.p (.list (ll (cst n (cjb n (op m n) e))))),(34,.p (.int .i64 (cst n (cjb n (op m n) e)).length)),(35,.p (.int .i64 i))],[.own [.p (.int .i64 n),.p (.list (il m))],.own [.p (.int .i64 0),.p (.int .i64 0)],.own (ol (pwl n (op m n) e k i))]⟩) (fun i=>i≤(cst n (cjb n (op m n) e)).length) (fun i=>(cst n (cjb n (op m n) e)).length - i) 0 (Nat.zero_le _) [0,1,3] (by simp only [leq,leA,evz,fl,gp,tab,simprocAttr]<;>first|trivial|(simp [pwl,ol_nil]; done)) fun i hi=>?_
 have hpl:=pwl_len n (op m n) e k i
 refine qm ?_
 refine hk_region fun K hK=>runs_eval tab_ok ?_
 simp only [evz,fl,gp,tab,simprocAttr]
 refine fin_run trivial (hK _ ?_)<;>clear hK K
 refine qa (qm ?_)
 refine hk_cond rfl (fun hC3=>?_) (fun hC3=>?_)
 ·(try simp only [nhs] at hC3)
  have hlt:i < (cst n (cjb n (op m n) e)).length:=by omega
  obtain ⟨x,x1,x2,x3,x4⟩:=cst_get hlt
  obtain ⟨hd1,hd2⟩:=(lead_head x1).1 x2
  have hpx:=G.pw_lt x1 q
  have hps:=pwl_succ (n:=n) (f:=op m n) (e:=e) (k:=k) (i:=i) (by omega)
  rw [x4,hq,Int.toNat_natCast] at hps
  have hwl:(whl n (cjb n (op m n) e)).length=n:=rgz_len _ _
  have hwg:(whl n (cjb n (op m n) e)).getD (pw (op m n) e x q) 0=wch (cst n (cjb n (op m n) e)) ((pw (op m n) e x q:Nat):Int):=rgz_get hpx
  refine qh (qa (qm (ql (qm ?_))))
  refine hk_region fun K hK=>runs_eval tab_ok ?_
  simp only [evz,fl,gp,tab,simprocAttr,ll_length,ll_get hlt,x3]
  refine fin_run ?_ (hK _ ?_)<;>clear hK K
  ·(first|exact trivial|omega|(simp only [In64] at *; omega)|(simp [In64] at *; omega)|(simp_all; done)|skip)
  refine qa ?_
  refine hk_draw2 mixed fun K hK=>runs2_eval tab_ok ?_
  simp only [evD,evz,fl,gp,tab,simprocAttr,il_get hd1,hd2,il_get (show pw (op m n) e x q < (whl n (cjb n (op m n) e)).length by omega),hwg]
  refine fin2_stop ?_ (runs2_call (powOf_c h x1 q hqn) rfl rfl rfl rfl (by simp only [dstOk,Nat.reduceLT]) (by repeat (first|exact trivial|constructor)) (runs2_eval tab_ok ?_))
  ·(first|exact trivial|omega|(simp only [In64] at *; omega)|(simp [In64] at *; omega)|(simp_all; done)|skip)
  simp only [evD,evz,fl,gp,tab,simprocAttr,il_get hd1,hd2,il_get (show pw (op m n) e x q < (whl n (cjb n (op m n) e)).length by omega),hwg]
  refine fin2_run ?_ (hK _ _ (by first|kernel_rfl|rfl) ?_)<;>clear hK K
  ·(first|exact trivial|omega|(simp only [In64] at *; omega)|(simp [In64] at *; omega)|(simp_all; done)|skip)
  refine qd (qa ?_)
  refine hk_region fun K hK=>runs_eval tab_ok ?_
  simp only [evz,fl,gp,tab,simprocAttr]
  refine fin_run ?_ (hK _ ?_)<;>clear hK K
  ·(first|exact trivial|omega|(simp only [In64] at *; omega)|(simp [In64] at *; omega)|(simp_all; done)|skip)
  refine qa ?_
  refine ⟨i + 1,[0,1,3],by omega,by omega,?_⟩
  rw [hps]
  simp only [leq,leA,evz,fl,gp,tab,simprocAttr]<;>first|trivial|omega
 (try simp only [nhs] at hC3)
 have hin:i=(cst n (cjb n (op m n) e)).length:=by omega
 rw [hin,hcm]
 rw [hin,hcm] at hpl
 refine hk_seal 9 2 rfl rfl ?_
 refine qj (qc (qc (qf (qa (qm ?_)))))
 refine hk_region fun K hK=>runs_eval tab_ok ?_
 simp only [evz,fl,gp,tab,simprocAttr]
 refine fin_run ?_ (hK _ ?_)<;>clear hK K
 ·(first|exact trivial|omega|(simp only [In64] at *; omega)|(simp [In64] at *; omega)|(simp_all; done)|skip)
 refine qa (qk ?_)
 simp only [Tryd.results23,enA,evz,fl,gp,tab,simprocAttr]
 all_goals (first|rfl|exact ⟨rfl,rfl⟩|(simp; done)|trace_state)
end Go.Proofs.YtjlmpmidchddjaaDoor

namespace Go.Proofs.YtjlmpmidchddjaaDoor
open Lean.Grind
attribute [local instance] Lean.Grind.Semiring.natCast Lean.Grind.Ring.intCast
def scW (p:Nat) (S Q:Nat→Nat) (r:List Int):Nat→Int
 | 0=>0
 | c + 1=>(scW p S Q r c + (S c:Nat) * r.getD (Q c) 0) % (p:Int)
def inD (p n:Nat) (S Q:Nat→Nat) (r:List Int) (k:Nat):Int:=scW p S Q r k * (unR ((n:Int) % (p:Int)) p:Nat) % (p:Int)
def sgN (x d:Int):Int:=if x=0 then 0 else if x=1 then d else - d
def sgS (x d:Nat→Int):Nat→Int
 | 0=>0
 | i + 1=>sgS x d i + sgN (x i) (d i)
theorem scW_rg {p:Nat} (hp:0 < p) (S Q:Nat→Nat) (r:List Int):∀ k,0≤scW p S Q r k∧scW p S Q r k < p
 | 0=>⟨by show (0:Int)≤0; omega,by show (0:Int) < p; omega⟩
 | k + 1=>emod_rng hp _
theorem sgS_rg {x:Nat→Int} {d:Nat→Nat} : ∀ k,-((sn d k:Nat):Int)≤sgS x (fun i=>(d i:Int)) k∧sgS x (fun i=>(d i:Int)) k≤((sn d k:Nat):Int)
 | 0=>⟨by show -((0:Nat):Int)≤0; omega,by show (0:Int)≤((0:Nat):Int); omega⟩
 | k + 1=>by
  have:=sgS_rg (x:=x) (d:=d) k
  have e1:sgS x (fun i=>(d i:Int)) (k + 1)=sgS x (fun i=>(d i:Int)) k + sgN (x k) (d k):=rfl
  have e2:sn d (k + 1)=sn d k + d k:=rfl
  rw [e1,e2]
  unfold sgN
  split
  ·omega
  split<;>omega
section
variable {K:Type} [CommRing K] {p:Nat}
theorem scW_K (R:Rp K p) (S Q:Nat→Nat) (r:List Int):∀ k,((scW p S Q r k:Int):K)=sm (fun c=>((S c:Nat):K) * vc r (Q c)) k
 | 0=>Ring.intCast_zero
 | k + 1=>by
  rw [scW,R.toRd.mod,Ring.intCast_add,Ring.intCast_mul,R.cst,scW_K R S Q r k]; rfl
theorem sgS_K (R:Rp K p) (x d:Nat→Int):∀ k,(∀ i,i < k→((sgN (x i) (d i):Int):K)=(d i:K) * (x i:K))→((sgS x d k:Int):K)=sm (fun i=>(d i:K) * (x i:K)) k
 | 0,_=>Ring.intCast_zero
 | k + 1,h=>by
  rw [sgS,Ring.intCast_add,sgS_K R x d k fun i hi=>h i (by omega),h k (by omega)]; rfl
end
section
variable {n e c:Nat} {f:Nat→Nat→Nat} {cI xx:Nat→Nat} {K:Type} [CommRing K]
theorem GC.clsum (h:GC n f e c cI xx) {T:Nat→K} (hT:ClF n cI T):sm (fun i=>kap K n cI i * T (xx i)) c=sm T n:=by
 rw [← h.byC]
 exact sm_congr fun i hi=>(h.sCcl hT hi).symm
theorem GC.sqcl (h:GC n f e c cI xx) {t:Nat→K} (ht:ClF n cI t):ClF n cI fun g=>t (f g g):=fun a b ha hb hab=>by
 obtain ⟨y,hy,rfl⟩:=(h.cj a b ha hb).1 hab
 have e1:f (cjg n f e y a) (cjg n f e y a)=cjg n f e y (f a a):=h.cjg_mul hy ha ha
 have e2:f (f (f (iv n f e y) a) y) (f (f (iv n f e y) a) y)=cjg n f e y (f a a):=e1
 show t (f a a)=t (f (f (f (iv n f e y) a) y) (f (f (iv n f e y) a) y))
 rw [e2]
 exact ht _ _ (h.G.cl _ _ ha ha) (h.cjl hy (h.G.cl _ _ ha ha)) (h.cjc hy (h.G.cl _ _ ha ha)).symm
end
variable {n e:Nat} {m:List Int}
def clQ (m:List Int) (n e c:Nat):Nat:=clI m n e (op m n (clX m n e c) (clX m n e c))
theorem clQ_lt (h:GT n m n e) {c:Nat} (hc:c < clN m n e):clQ m n e c < clN m n e:=(clI_lt h (h.2.2.cl _ _ (clG h hc).1 (clG h hc).1)).1
theorem pw_sq (G:Grp n (op m n) e) {a:Nat} (ha:a < n):pw (op m n) e a ((2:Int) % (n:Int)).toNat=op m n a a:=by
 have h2:pw (op m n) e a 2=op m n a a:=by
  show op m n (op m n e a) a=_
  rw [G.one_l a ha]
 rw [← h2]
 by_cases h3:2 < n
 ·have:((2:Int) % (n:Int)).toNat=2:=by rw [Int.emod_eq_of_lt (by omega) (by omega)]; rfl
  rw [this]
 by_cases h4:n=2
 ·subst h4
  have e1:=G.pw_n ha
  have:((2:Int) % ((2:Nat):Int)).toNat=0:=by decide
  rw [this,e1]; rfl
 have h5:n=1:=by omega
 subst h5
 have e1:=G.pw_n ha
 have:((2:Int) % ((1:Nat):Int)).toNat=0:=by decide
 rw [this]
 have x1:pw (op m 1) e a 0 < 1:=G.el
 have x2:pw (op m 1) e a 2 < 1:=by rw [h2]; exact G.cl _ _ ha ha
 omega
theorem pwl_sq (h:GT n m n e):(pwl n (op m n) e 2 (mem n (lead (cjb n (op m n) e))).length).length=clN m n e∧∀ c,c < clN m n e→(pwl n (op m n) e 2 (mem n (lead (cjb n (op m n) e))).length).getD c 0=(clQ m n e c:Nat):=by
 have hl:(mem n (lead (cjb n (op m n) e))).length=clN m n e:=by
  have:(clL m n e).length=clN m n e:=rfl
  rw [← this]; unfold clL cst cstp mem
  simp
 constructor
 ·unfold pwl; rw [List.length_map,List.length_take]; omega
 intro c hc
 unfold pwl
 have hc2:c < (mem n (lead (cjb n (op m n) e))).length:=by omega
 have e1:((mem n (lead (cjb n (op m n) e))).take (mem n (lead (cjb n (op m n) e))).length)=mem n (lead (cjb n (op m n) e)):=List.take_of_length_le (Nat.le_refl _)
 rw [e1]
 have e2:(mem n (lead (cjb n (op m n) e)))[c]=clX m n e c:=by unfold clX; simp [List.getD,List.getElem?_eq_getElem hc2]
 simp only [List.getD,List.getElem?_map,List.getElem?_eq_getElem hc2,Option.map_some,Option.getD_some,e2]
 have hx:=(clG h hc).1
 rw [pw_sq h.2.2 hx]
 exact (clI_lt h (h.2.2.cl _ _ hx hx)).2
theorem schur_ok (h:GT n m n e) :
  (∀ i,i < clN m n e→inD (clP m n e) n (clS m n e) (clQ m n e) ((chT m n e).getD i []) (clN m n e)=0∨inD (clP m n e) n (clS m n e) (clQ m n e) ((chT m n e).getD i []) (clN m n e)=1∨inD (clP m n e) n (clS m n e) (clQ m n e) ((chT m n e).getD i []) (clN m n e)=(clP m n e:Int) - 1) ∧
  sgS (fun i=>inD (clP m n e) n (clS m n e) (clQ m n e) ((chT m n e).getD i []) (clN m n e)) (fun i=>((chT m n e).getD i []).getD (clO m n e) 0) (clN m n e)=((thl n fun a=>decide (op m n a a=e)).length:Nat) ∧
  (∀ i,i≤clN m n e→-(n:Int)≤sgS (fun i=>inD (clP m n e) n (clS m n e) (clQ m n e) ((chT m n e).getD i []) (clN m n e)) (fun i=>((chT m n e).getD i []).getD (clO m n e) 0) i∧sgS (fun i=>inD (clP m n e) n (clS m n e) (clQ m n e) ((chT m n e).getD i []) (clN m n e)) (fun i=>((chT m n e).getD i []).getD (clO m n e) 0) i≤n):=by
 obtain ⟨P,p1,p2⟩:=cl_P h
 have hp3:=P.three
 haveI:NeZero (clP m n e):=⟨by omega⟩
 have H:=gt2_of h
 have C:=gc_of h
 have R:=H.R
 have F:=R.fld
 have hn1:=h.2.1.pos
 obtain ⟨tt,vv,A,hrow⟩:=chT_all h
 obtain ⟨u1,u2⟩:=unR_K R (a:=n) hn1 (by omega)
 have hnp:(n:Int) % (clP m n e:Int)=(n:Nat):=Int.emod_eq_of_lt (by omega) (by omega)
 have hiK:∀ i,i < clN m n e→((inD (clP m n e) n (clS m n e) (clQ m n e) ((chT m n e).getD i []) (clN m n e):Int):Fin (clP m n e))=(vv i:Nat) * sqS n (op m n) (tt i) * ((unR (n:Nat) (clP m n e):Nat):Fin (clP m n e)):=fun i hi=>by
  obtain ⟨r1,r2⟩:=hrow i hi
  unfold inD
  rw [R.toRd.mod,Ring.intCast_mul,hnp,R.cst,scW_K R]
  have e1:sm (fun c=>((clS m n e c:Nat):Fin (clP m n e)) * vc ((chT m n e).getD i []) (clQ m n e c)) (clN m n e)=sm (fun c=>((vv i:Nat):Fin (clP m n e)) * (kap (Fin (clP m n e)) n (clI m n e) c * tt i (op m n (clX m n e c) (clX m n e c)))) (clN m n e):=sm_congr fun c hc=>by
   have hx:=C.xl c hc
   have e2:=r1 _ (h.2.2.cl _ _ hx hx)
   have e3:(vc ((chT m n e).getD i []) (clQ m n e c):Fin (clP m n e))=_:=e2
   rw [e3,cl_kap h hc]; grind
  rw [e1,sm_mul,C.clsum (T:=fun g=>tt i (op m n g g)) (C.sqcl (A.chr i hi).cl)]
  rfl
 have hirg:∀ i,0≤inD (clP m n e) n (clS m n e) (clQ m n e) ((chT m n e).getD i []) (clN m n e)∧inD (clP m n e) n (clS m n e) (clQ m n e) ((chT m n e).getD i []) (clN m n e) < clP m n e:=fun i=>emod_rng (by omega) _
 have hthree:∀ i,i < clN m n e→inD (clP m n e) n (clS m n e) (clQ m n e) ((chT m n e).getD i []) (clN m n e)=0∨inD (clP m n e) n (clS m n e) (clQ m n e) ((chT m n e).getD i []) (clN m n e)=1∨inD (clP m n e) n (clS m n e) (clQ m n e) ((chT m n e).getD i []) (clN m n e)=(clP m n e:Int) - 1:=fun i hi=>by
  have h1:=A.ind C F H.nz u1 hi
  rw [← hiK i hi] at h1
  rcases h1 with h1 | h1 | h1
  ·left; exact eqK R (hirg i) ⟨by omega,by omega⟩ (h1.trans Ring.intCast_zero.symm)
  ·right; left; exact eqK R (hirg i) ⟨by omega,by omega⟩ (h1.trans Ring.intCast_one.symm)
  right; right
  refine eqK R (hirg i) ⟨by omega,by omega⟩ (h1.trans ?_)
  have e1:(((clP m n e:Int):Int):Fin (clP m n e))=0:=(R.ker _).2 (Int.emod_self)
  rw [Ring.intCast_sub,e1,Ring.intCast_one]; grind
 have hd:∀ i,i < clN m n e→((chT m n e).getD i []).getD (clO m n e) 0=((vv i:Nat):Int):=fun i hi=>(hrow i hi).2
 have hcg:∀ (x:Nat→Int) (d d' : Nat→Int) k,(∀ i,i < k→d i=d' i)→sgS x d k=sgS x d' k:=fun x d d' k=>by
  induction k with
  | zero=>intro _; rfl
  | succ k ih =>
   intro hh
   show sgS x d k + sgN (x k) (d k)=sgS x d' k + sgN (x k) (d' k)
   rw [ih fun i hi=>hh i (by omega),hh k (by omega)]
 have hsn:∀ i,i≤clN m n e→sn vv i≤n:=fun i hi=>by
  have e1:sn vv i≤sn vv (clN m n e):=by
   have key:∀ d,sn vv i≤sn vv (i + d):=fun d=>by
    induction d with
    | zero=>exact Nat.le_refl _
    | succ d ih=>exact Nat.le_trans ih (Nat.le_add_right _ _)
   have:=key (clN m n e - i)
   rwa [show i + (clN m n e - i)=clN m n e by omega] at this
  have e2:sn vv (clN m n e)≤sn (fun i=>vv i * vv i) (clN m n e):=sn_le fun i hi=>Nat.le_mul_of_pos_left _ (A.ge i hi)
  rw [A.sum] at e2
  omega
 have hbd:∀ i,i≤clN m n e→-(n:Int)≤sgS (fun i=>inD (clP m n e) n (clS m n e) (clQ m n e) ((chT m n e).getD i []) (clN m n e)) (fun i=>((chT m n e).getD i []).getD (clO m n e) 0) i∧sgS (fun i=>inD (clP m n e) n (clS m n e) (clQ m n e) ((chT m n e).getD i []) (clN m n e)) (fun i=>((chT m n e).getD i []).getD (clO m n e) 0) i≤n:=fun i hi=>by
  rw [hcg _ _ (fun i=>((vv i:Nat):Int)) i fun j hj=>hd j (by omega)]
  have h1:=sgS_rg (x:=fun i=>inD (clP m n e) n (clS m n e) (clQ m n e) ((chT m n e).getD i []) (clN m n e)) (d:=vv) i
  have h2:=hsn i hi
  omega
 refine ⟨hthree,?_,hbd⟩
 have hb:=hbd _ (Nat.le_refl _)
 rw [hcg _ _ (fun i=>((vv i:Nat):Int)) _ fun j hj=>hd j hj] at hb ⊢
 have hK:((sgS (fun i=>inD (clP m n e) n (clS m n e) (clQ m n e) ((chT m n e).getD i []) (clN m n e)) (fun i=>((vv i:Nat):Int)) (clN m n e):Int):Fin (clP m n e))=(((thl n fun a=>decide (op m n a a=e)).length:Nat):Fin (clP m n e)):=by
  rw [sgS_K R]
  ·rw [thl_K]
   have e1:=A.invs C u1
   have e2:sm (fun i=>((((vv i:Nat):Int)):Fin (clP m n e)) * ((inD (clP m n e) n (clS m n e) (clQ m n e) ((chT m n e).getD i []) (clN m n e):Int):Fin (clP m n e))) (clN m n e)=sm (fun i=>((vv i:Nat):Fin (clP m n e)) * (((vv i:Nat):Fin (clP m n e)) * sqS n (op m n) (tt i) * ((unR (n:Nat) (clP m n e):Nat):Fin (clP m n e)))) (clN m n e):=sm_congr fun i hi=>by
    rw [hiK i hi,R.cst]
   rw [e2,e1]
   refine sm_congr fun g hg=>?_
   by_cases hh:op m n g g=e
   ·rw [if_pos hh,if_pos (by simp [hh])]
   rw [if_neg hh,if_neg (by simp [hh])]
  intro i hi
  rw [R.cst]
  have hv:=A.ge i hi
  rcases hthree i hi with h1 | h1 | h1
  ·rw [h1]
   have e0:((0:Int):Fin (clP m n e))=0:=Ring.intCast_zero
   have:sgN 0 ((vv i:Nat):Int)=0:=rfl
   rw [this,e0]; grind
  ·rw [h1]
   have e0:((1:Int):Fin (clP m n e))=1:=Ring.intCast_one
   have:sgN 1 ((vv i:Nat):Int)=((vv i:Nat):Int):=rfl
   rw [this,e0,R.cst]; grind
  rw [h1]
  have e0:(((clP m n e:Int) - 1:Int):Fin (clP m n e)) = -1:=by
   have e1:(((clP m n e:Int):Int):Fin (clP m n e))=0:=(R.ker _).2 (Int.emod_self)
   rw [Ring.intCast_sub,e1,Ring.intCast_one]; grind
  have:sgN ((clP m n e:Int) - 1) ((vv i:Nat):Int) = -((vv i:Nat):Int):=by
   unfold sgN; rw [if_neg (by omega),if_neg (by omega)]
  rw [this,e0,Ring.intCast_neg,R.cst]; grind
 have hl:=thl_le n fun a=>decide (op m n a a=e)
 have h0:((sgS (fun i=>inD (clP m n e) n (clS m n e) (clQ m n e) ((chT m n e).getD i []) (clN m n e)) (fun i=>((vv i:Nat):Int)) (clN m n e) - ((thl n fun a=>decide (op m n a a=e)).length:Nat):Int):Fin (clP m n e))=0:=by
  rw [Ring.intCast_sub,hK,R.cst]; grind
 have h1:=(R.ker _).1 h0
 obtain ⟨k,hk⟩:=Int.dvd_of_emod_eq_zero h1
 have:k=0:=by
  refine Int.le_antisymm (Int.le_of_not_gt fun h=>?_) (Int.le_of_not_gt fun h=>?_)
  ·have:(clP m n e:Int) * 1≤(clP m n e:Int) * k:=Int.mul_le_mul_of_nonneg_left (by omega) (by omega)
   omega
  have:(clP m n e:Int) * k≤(clP m n e:Int) * (-1):=Int.mul_le_mul_of_nonneg_left (by omega) (by omega)
  omega
 subst this
 omega
end Go.Proofs.YtjlmpmidchddjaaDoor

namespace Go.Proofs.YtjlmpmidchddjaaDoor
open Go.Pv
theorem charSchur_f (N:Int) (m:List Int) (c a:Int) (hc:¬ c=0) (hf:FnC Tryd.prog 14 [gp N m] (fl (c,a))):FnC Tryd.prog 6 [gp N m] (.bool true):=by
 refine fnc_of tab_ok Tryd.func6 rfl (by kernel_rfl) (by rw [Tryd.ntmps6]; exact Nat.le_add_left 1 _) ?_; rw [Tryd.ntmps6]
 refine qm ?_
 refine hk_region fun K hK=>runs_eval tab_ok ?_
 simp only [evz,fl,gp,tab,simprocAttr]
 refine fin_run ?_ (hK _ ?_)<;>clear hK K
 ·(first|exact trivial|omega|(simp only [In64] at *; omega)|(simp [In64] at *; omega)|(simp_all; done)|skip)
 refine qa (qm (qm ?_))
 refine hk_region fun K hK=>runs_eval tab_ok ?_
 simp only [evz,fl,gp,tab,simprocAttr]
 refine fin_stop trivial (runs_call (charBegun_c) rfl rfl rfl (by simp only [dstOk,Nat.reduceLT]) (by repeat (first|exact trivial|constructor)) (runs_eval tab_ok ?_))
 simp only [evz,fl,gp,tab,simprocAttr]
 refine fin_run trivial (hK _ ?_)<;>clear hK K
 refine qa ?_
 refine hk_cond rfl (fun hC1=>?_) (fun hC1=>?_)
 ·(try simp only [nhs] at hC1)
  first|exact absurd rfl hC1|exact hC1.elim|cases hC1|(simp at hC1; done)
 (try simp only [nhs] at hC1)
 refine qh (qa (qm ?_))
 refine hk_region fun K hK=>runs_eval tab_ok ?_
 simp only [evz,fl,gp,tab,simprocAttr]
 refine fin_stop trivial (runs_call (tableOf_no N m .nil c a hc hf) rfl rfl rfl (by simp only [dstOk,Nat.reduceLT]) (by repeat (first|exact trivial|constructor)) (runs_eval tab_ok ?_))
 simp only [evz,fl,gp,tab,simprocAttr]
 refine fin_run ?_ (hK _ ?_)<;>clear hK K
 ·(first|exact trivial|omega|(simp only [In64] at *; omega)|(simp [In64] at *; omega)|(simp_all; done)|skip)
 refine qa (qm (qm ?_))
 refine hk_region fun K hK=>runs_eval tab_ok ?_
 simp only [evz,fl,gp,tab,simprocAttr]
 refine fin_run trivial (hK _ ?_)<;>clear hK K
 refine qa ?_
 refine hk_cond rfl (fun hC2=>?_) (fun hC2=>?_)
 ·(try simp only [nhs] at hC2)
  refine qm ?_
  refine hk_region fun K hK=>runs_eval tab_ok ?_
  simp only [evz,fl,gp,tab,simprocAttr]
  refine fin_stop trivial (runs_call (hf) rfl rfl rfl (by simp only [dstOk,Nat.reduceLT]) (by repeat (first|exact trivial|constructor)) (runs_eval tab_ok ?_))
  simp only [evz,fl,gp,tab,simprocAttr]
  refine fin_run ?_ (hK _ ?_)<;>clear hK K
  ·(first|exact trivial|omega|(simp only [In64] at *; omega)|(simp [In64] at *; omega)|(simp_all; done)|skip)
  refine qa (qk (qb ?_))
  simp only [Tryd.results6,enA,evz,fl,gp,tab,simprocAttr]
  all_goals (simp [hc])
 (try simp only [nhs] at hC2)
 first|exact absurd rfl hC2|exact hC2.elim|cases hC2|(simp at hC2; done)
theorem schur1_c {n e:Nat} {m:List Int} (h:GT n m n e) {a:Nat} (ha:a < n):FnC Tryd.prog 25 [.int .i64 a,.ptr [.int .i64 n,.list (il m)]] (.bool (decide (op m n a a=e))):=by
 have he:=e_c h.2.1
 rw [h.eI] at he
 refine fnc_of tab_ok Tryd.func25 rfl (by kernel_rfl) (by rw [Tryd.ntmps25]; exact Nat.le_add_left 2 _) ?_; rw [Tryd.ntmps25]
 refine qm ?_
 refine hk_region fun K hK=>runs_eval tab_ok ?_
 simp only [evz,fl,gp,tab,simprocAttr]
 refine fin_run trivial (hK _ ?_)<;>clear hK K
 refine qa (qm ?_)
 refine hk_draw2 mixed fun K hK=>runs2_eval tab_ok ?_
 simp only [evD,evz,fl,gp,tab,simprocAttr]
 refine fin2_stop trivial (runs2_call (m_c h.2.1 ha ha) rfl rfl rfl rfl (by simp only [dstOk,Nat.reduceLT]) (by repeat (first|exact trivial|constructor)) (runs2_eval tab_ok ?_))
 simp only [evD,evz,fl,gp,tab,simprocAttr]
 refine fin2_stop trivial (runs2_call (he) rfl rfl rfl rfl (by simp only [dstOk,Nat.reduceLT]) (by repeat (first|exact trivial|constructor)) (runs2_eval tab_ok ?_))
 simp only [evD,evz,fl,gp,tab,simprocAttr]
 refine fin2_run ?_ (hK _ _ (by first|kernel_rfl|rfl) ?_)<;>clear hK K
 ·(first|exact trivial|omega|(simp only [In64] at *; omega)|(simp [In64] at *; omega)|(simp_all; done)|skip)
 refine qa (qk ?_)
 simp only [Tryd.results25,enA,evz,fl,gp,tab,simprocAttr]
 all_goals (simp; omega)
set_option maxHeartbeats 4000000 in
set_option maxRecDepth 20000 in
theorem charSchur_ok {n e:Nat} {m:List Int} (h:GT n m n e) (hc24:clN m n e≤24):FnC Tryd.prog 6 [gp n m] (.bool true):=by
 obtain ⟨P,p1,p2⟩:=cl_P h
 have hp3:=P.three
 have hb:=h.2.1.big
 have hrow:(chT m n e).length=clN m n e∧∀ r∈chT m n e,r.length=clN m n e∧rgp (clP m n e) r:=by
  haveI:NeZero (clP m n e):=⟨by omega⟩
  exact ⟨(chT_ort h).2.2.1,(chT_ort h).2.2.2.1⟩
 have hS:∀ i,i < clN m n e→0 < clS m n e i∧clS m n e i≤n∧((clL m n e).getD i []).length=clS m n e i:=fun i hi=>⟨(clS_pos h hi).1,(clS_pos h hi).2.1,rfl⟩
 have hll:(clL m n e).length=clN m n e:=rfl
 have htab:=tableOf_c h hc24
 have hdgc:=degrees_c h hc24
 have hpw:=powers_ok h 2
 have hdl:(dgL m n e).length=clN m n e:=by unfold dgL; rw [List.length_map]; exact hrow.1
 have hdg:∀ i,i < clN m n e→(dgL m n e).getD i 0=((chT m n e).getD i []).getD (clO m n e) 0:=fun i hi=>by
  unfold dgL
  have hi2:i < (chT m n e).length:=by rw [hrow.1]; exact hi
  simp [List.getD,List.getElem?_map,List.getElem?_eq_getElem hi2]
 have hdr:∀ i,i < clN m n e→0≤(dgL m n e).getD i 0∧(dgL m n e).getD i 0≤n:=fun i hi=>by
  obtain ⟨d,d1,d2,d3,_⟩:=tabRow_ok h hi
  rw [hdg i hi,d3]; omega
 obtain ⟨hIl,hIg⟩:=pwl_sq h
 have hQ:=fun c (hc:c < clN m n e)=>clQ_lt h hc
 have hund:=under_c (p:=clP m n e) (a:=(n:Int) % (clP m n e:Int)) (by omega) (by omega) (emod_rng (by omega) _).1 (by have:=(emod_rng (p:=clP m n e) (by omega) (n:Int)).2; omega)
 have hunl:unR ((n:Int) % (clP m n e:Int)) (clP m n e) < clP m n e:=by
  haveI:NeZero (clP m n e):=⟨by omega⟩
  have hn1:=h.2.1.pos
  have h1:=(unR_K (gt2_of h).R (a:=n) hn1 (by omega)).2
  have hnp:(n:Int) % (clP m n e:Int)=(n:Nat):=Int.emod_eq_of_lt (by omega) (by omega)
  rw [hnp]; exact h1
 obtain ⟨s1,s2,s3⟩:=schur_ok h
 have hthl:=thl_le n fun a=>decide (op m n a a=e)
 have hcl:∀ a,a < n→FnC Tryd.prog 25 (.int .i64 a :: [.ptr [.int .i64 n,.list (il m)]]) (.bool ((fun a=>decide (op m n a a=e)) a)):=fun a ha=>schur1_c h ha
 have hths:=those_c n m _ _ _ (by omega) hcl
 have hsg:∀ i,i < clN m n e→sgS (fun i=>inD (clP m n e) n (clS m n e) (clQ m n e) ((chT m n e).getD i []) (clN m n e)) (fun i=>((chT m n e).getD i []).getD (clO m n e) 0) (i + 1)=sgS (fun i=>inD (clP m n e) n (clS m n e) (clQ m n e) ((chT m n e).getD i []) (clN m n e)) (fun i=>((chT m n e).getD i []).getD (clO m n e) 0) i + sgN (inD (clP m n e) n (clS m n e) (clQ m n e) ((chT m n e).getD i []) (clN m n e)) ((dgL m n e).getD i 0):=fun i hi=>by rw [hdg i hi]; rfl
 obtain ⟨t3,t4⟩:=hrow
 generalize thl n (fun a=>decide (op m n a a=e))=TH at *
 generalize pwl n (op m n) e 2 (mem n (lead (cjb n (op m n) e))).length=I at *
 generalize dgL m n e=D at *
 generalize clP m n e=p at *
 generalize clO m n e=o at *
 generalize clN m n e=k at *
 generalize chT m n e=R at *
 generalize clL m n e=L at *
 generalize clS m n e=S at *
 generalize clQ m n e=Q at *
 generalize hSG:sgS (fun i=>inD p n S Q (R.getD i []) k) (fun i=>(R.getD i []).getD o 0)=SG at *
 have hSG0:SG 0=0:=by rw [← hSG]; rfl
 refine fnc_of tab_ok Tryd.func6 rfl (by kernel_rfl) (by rw [Tryd.ntmps6]; exact Nat.le_add_left 1 _) ?_; rw [Tryd.ntmps6]
 refine qm ?_
 refine hk_region fun K hK=>runs_eval tab_ok ?_
 simp only [evz,fl,gp,tab,simprocAttr]
 refine fin_run ?_ (hK _ ?_)<;>clear hK K
 ·(first|exact trivial|omega|(simp only [In64] at *; omega)|(simp [In64] at *; omega)|(simp_all; done)|skip)
 refine qa (qm (qm ?_))
 refine hk_region fun K hK=>runs_eval tab_ok ?_
 simp only [evz,fl,gp,tab,simprocAttr]
 refine fin_stop trivial (runs_call (charBegun_c) rfl rfl rfl (by simp only [dstOk,Nat.reduceLT]) (by repeat (first|exact trivial|constructor)) (runs_eval tab_ok ?_))
 simp only [evz,fl,gp,tab,simprocAttr]
 refine fin_run trivial (hK _ ?_)<;>clear hK K
 refine qa ?_
 refine hk_cond rfl (fun hC1=>?_) (fun hC1=>?_)
 ·(try simp only [nhs] at hC1)
  first|exact absurd rfl hC1|exact hC1.elim|cases hC1|(simp at hC1; done)
 (try simp only [nhs] at hC1)
 refine qh (qa (qm ?_))
 refine hk_region fun K hK=>runs_eval tab_ok ?_
 simp only [evz,fl,gp,tab,simprocAttr]
 refine fin_stop trivial (runs_call (htab) rfl rfl rfl (by simp only [dstOk,Nat.reduceLT]) (by repeat (first|exact trivial|constructor)) (runs_eval tab_ok ?_))
 simp only [evz,fl,gp,tab,simprocAttr]
 refine fin_run ?_ (hK _ ?_)<;>clear hK K
 ·(first|exact trivial|omega|(simp only [In64] at *; omega)|(simp [In64] at *; omega)|(simp_all; done)|skip)
 refine qa (qm (qm ?_))
 refine hk_region fun K hK=>runs_eval tab_ok ?_
 simp only [evz,fl,gp,tab,simprocAttr]
 refine fin_run trivial (hK _ ?_)<;>clear hK K
 refine qa ?_
 refine hk_cond rfl (fun hC2=>?_) (fun hC2=>?_)
 ·(try simp only [nhs] at hC2)
  first|exact absurd rfl hC2|exact hC2.elim|cases hC2|(simp at hC2; done)
 (try simp only [nhs] at hC2)
 refine qh (qa (qm ?_))
 refine hk_region fun K hK=>runs_eval tab_ok ?_
 simp only [evz,fl,gp,tab,simprocAttr]
 refine fin_stop trivial (runs_call (hpw) rfl rfl rfl (by simp only [dstOk,Nat.reduceLT]) (by repeat (first|exact trivial|constructor)) (runs_eval tab_ok ?_))
 simp only [evz,fl,gp,tab,simprocAttr]
 refine fin_run ?_ (hK _ ?_)<;>clear hK K
 ·(first|exact trivial|omega|(simp only [In64] at *; omega)|(simp [In64] at *; omega)|(simp_all; done)|skip)
 refine qa (qm ?_)
 refine hk_region fun K hK=>runs_eval tab_ok ?_
 simp only [evz,fl,gp,tab,simprocAttr]
 refine fin_stop trivial (runs_call (hdgc) rfl rfl rfl (by simp only [dstOk,Nat.reduceLT]) (by repeat (first|exact trivial|constructor)) (runs_eval tab_ok ?_))
 simp only [evz,fl,gp,tab,simprocAttr]
 refine fin_run ?_ (hK _ ?_)<;>clear hK K
 ·(first|exact trivial|omega|(simp only [In64] at *; omega)|(simp [In64] at *; omega)|(simp_all; done)|skip)
 refine qa (qm (qm ?_))
 refine hk_region fun K hK=>runs_eval tab_ok ?_
 simp only [evz,fl,gp,tab,simprocAttr,il_length,ll_length,hIl,hll,hdl]
 refine fin_run ?_ (hK _ ?_)<;>clear hK K
 ·(first|exact trivial|omega|(simp only [In64] at *; omega)|(simp [In64] at *; omega)|(simp_all; done)|skip)
 refine qa ?_
 refine hk_cond rfl (fun hC3=>?_) (fun hC3=>?_)
 ·(try simp only [nhs] at hC3)
  first|exact absurd rfl hC3|exact hC3.elim|cases hC3|(simp at hC3; done)
 (try simp only [nhs] at hC3)
 refine qh (qa (qm ?_))
 refine hk_region fun K hK=>runs_eval tab_ok ?_
 simp only [evz,fl,gp,tab,simprocAttr]
 refine fin_run trivial (hK _ ?_)<;>clear hK K
 refine qa (qm (qm ?_))
 refine hk_region fun K hK=>runs_eval tab_ok ?_
 simp only [evz,fl,gp,tab,simprocAttr]
 refine fin_run trivial (hK _ ?_)<;>clear hK K
 refine qa (ql ?_)
 refine hk_loop (ι:=Nat) (fun i=>⟨145,[(1,.ptr 0 0),(3,.p (.int .i64 p)),(4,.p (.list (ll R))),(5,.p (.list (ll L))),(7,.p (.list (il I))),(9,.p (.list (il D))),(11,.p (.int .i64 (SG i))),(12,.p (.int .i64 i))],[.own [.p (.int .i64 n),.p (.list (il m))]]⟩) (fun i=>i≤k) (fun i=>k - i) 0 (Nat.zero_le _) [0] (by rw [hSG0]; simp only [leq,leA,evz,fl,gp,tab,simprocAttr]<;>first|trivial|rfl|skip) fun i hi=>?_
 refine qm (qm ?_)
 refine hk_region fun K hK=>runs_eval tab_ok ?_
 simp only [evz,fl,gp,tab,simprocAttr,ll_length,t3]
 refine fin_run trivial (hK _ ?_)<;>clear hK K
 refine qa ?_
 refine hk_cond rfl (fun hC4=>?_) (fun hC4=>?_)
 ·(try simp only [nhs] at hC4)
  have hik:i < k:=by omega
  obtain ⟨r,hr⟩:∃ r,R.getD i []=r:=⟨_,rfl⟩
  have hrl:r.length=k:=by rw [← hr]; exact (t4 _ (mem_getD (by omega))).1
  have hrg:rgp p r:=by rw [← hr]; exact (t4 _ (mem_getD (by omega))).2
  have hi3:=s1 i hik
  have hsgi:=hsg i hik
  have hdi:=hdr i hik
  have hb3:=s3 i hi
  rw [hr] at hi3 hsgi
  refine qh (qa (qm (ql (qm ?_))))
  refine hk_region fun K hK=>runs_eval tab_ok ?_
  simp only [evz,fl,gp,tab,simprocAttr]
  refine fin_run trivial (hK _ ?_)<;>clear hK K
  refine qa (qm (qm ?_))
  refine hk_region fun K hK=>runs_eval tab_ok ?_
  simp only [evz,fl,gp,tab,simprocAttr]
  refine fin_run trivial (hK _ ?_)<;>clear hK K
  refine qa (ql ?_)
  refine hk_loop (ι:=Nat) (fun c=>⟨145,[(1,.ptr 0 0),(3,.p (.int .i64 p)),(4,.p (.list (ll R))),(5,.p (.list (ll L))),(7,.p (.list (il I))),(9,.p (.list (il D))),(11,.p (.int .i64 (SG i))),(12,.p (.int .i64 i)),(13,.p (.int .i64 (scW p S Q r c))),(14,.p (.int .i64 c))],[.own [.p (.int .i64 n),.p (.list (il m))]]⟩) (fun c=>c≤k) (fun c=>k - c) 0 (Nat.zero_le _) [0] (by simp only [leq,leA,evz,fl,gp,tab,simprocAttr]<;>first|trivial|rfl|skip) fun c hck=>?_
  refine qm (qm ?_)
  refine hk_region fun K hK=>runs_eval tab_ok ?_
  simp only [evz,fl,gp,tab,simprocAttr,ll_length,hll]
  refine fin_run trivial (hK _ ?_)<;>clear hK K
  refine qa ?_
  refine hk_cond rfl (fun hC5=>?_) (fun hC5=>?_)
  ·(try simp only [nhs] at hC5)
   have hckl:c < k:=by omega
   obtain ⟨w1,w2,w3⟩:=hS c hckl
   have hQc:=hQ c hckl
   have hIc:=hIg c hckl
   have s0:=scW_rg (p:=p) (by omega) S Q r c
   have m1:=mulLt (p:=p) (by omega) (a:=(S c:Nat)) (b:=r.getD (Q c) 0) (by omega) (by omega) (hrg (Q c)).1 (hrg (Q c)).2
   have e2:Int.tmod (scW p S Q r c + (S c:Nat) * r.getD (Q c) 0) p=scW p S Q r (c + 1):=by
    rw [scW]; exact Int.tmod_eq_emod_of_nonneg (by omega)
   refine qh (qa (qm (ql (qm (qm ?_)))))
   refine hk_region fun K hK=>runs_eval tab_ok ?_
   simp only [evz,fl,gp,tab,simprocAttr,il_length,il_get (show c < I.length by omega),hIc,ll_length,hll,decide_eq_false (show ¬ ((Q c:Nat):Int) < 0 by omega)]
   refine fin_run ?_ (hK _ ?_)<;>clear hK K
   ·omega
   refine qa ?_
   refine hk_cond rfl (fun hC6=>?_) (fun hC6=>?_)
   ·(try simp only [nhs] at hC6)
    exfalso; first|omega|(simp at hC6; omega)
   (try simp only [nhs] at hC6)
   refine qh (qa ?_)
   refine hk_draw mixed (by kernel_rfl) fun K hK=>runs_eval tab_ok ?_
   simp only [evz,fl,gp,tab,simprocAttr,ll_length,hll,il_length,ll_get (show c < L.length by omega),w3,ll_get (show i < R.length by omega),hr,il_get (show c < I.length by omega),hIc,il_get (show Q c < r.length by omega),e2]
   refine fin_run ?_ (hK _ ?_)<;>clear hK K
   ·simp only [In64]; omega
   refine qd (qa ?_)
   refine hk_region fun K hK=>runs_eval tab_ok ?_
   simp only [evz,fl,gp,tab,simprocAttr]
   refine fin_run ?_ (hK _ ?_)<;>clear hK K
   ·(first|exact trivial|omega|(simp only [In64] at *; omega)|(simp [In64] at *; omega)|(simp_all; done)|skip)
   refine qa ?_
   refine ⟨c + 1,[0],by omega,by omega,by simp only [leq,leA,evz,fl,gp,tab,simprocAttr]<;>first|trivial|omega|skip⟩
  (try simp only [nhs] at hC5)
  have hckl:c=k:=by omega
  rw [hckl]
  have s0:=scW_rg (p:=p) (by omega) S Q r k
  have m1:=mulLt (p:=p) (by omega) s0.1 s0.2 (b:=(unR ((n:Int) % (p:Int)) p:Nat)) (by omega) (by omega)
  have e1:Int.tmod (n:Int) p=(n:Int) % p:=Int.tmod_eq_emod_of_nonneg (by omega)
  have e2:Int.tmod (scW p S Q r k * (unR ((n:Int) % (p:Int)) p:Nat)) p=inD p n S Q r k:=by
   rw [inD]; exact Int.tmod_eq_emod_of_nonneg m1.1
  refine qj (qc (qc (qf (qa (qm ?_)))))
  refine hk_region fun K hK=>runs_eval tab_ok ?_
  simp only [evz,fl,gp,tab,simprocAttr,e1,e2]
  refine fin_stop ?_ (runs_call (hund) rfl rfl rfl (by simp only [dstOk,Nat.reduceLT]) (by repeat (first|exact trivial|constructor)) (runs_eval tab_ok ?_))
  ·omega
  simp only [evz,fl,gp,tab,simprocAttr,e1,e2]
  refine fin_run ?_ (hK _ ?_)<;>clear hK K
  ·simp only [In64]; omega
  refine qa (qm ?_)
  refine hk_region fun K hK=>runs_eval tab_ok ?_
  simp only [evz,fl,gp,tab,simprocAttr]
  refine fin_run trivial (hK _ ?_)<;>clear hK K
  refine qa (ql (qm ?_))
  refine hk_region fun K hK=>runs_eval tab_ok ?_
  simp only [evz,fl,gp,tab,simprocAttr]
  refine fin_run trivial (hK _ ?_)<;>clear hK K
  refine qa ?_
  refine hk_cond rfl (fun hC7=>?_) (fun hC7=>?_)
  ·(try simp only [nhs] at hC7)
   rw [hC7] at hsgi
   have hsn:sgN 0 (D.getD i 0)=0:=rfl
   refine qh (qd (qd (qa ?_)))
   refine hk_region fun K hK=>runs_eval tab_ok ?_
   simp only [evz,fl,gp,tab,simprocAttr]
   refine fin_run ?_ (hK _ ?_)<;>clear hK K
   ·(first|exact trivial|omega|(simp only [In64] at *; omega)|(simp [In64] at *; omega)|(simp_all; done)|skip)
   refine qa ?_
   refine ⟨i + 1,[0],by omega,by omega,?_⟩
   have hx:SG (i + 1)=SG i + _:=hsgi
   rw [hsn] at hx
   rw [hx]
   simp only [leq,leA,evz,fl,gp,tab,simprocAttr]<;>first|trivial|omega|skip
  (try simp only [nhs] at hC7)
  refine qm ?_
  refine hk_region fun K hK=>runs_eval tab_ok ?_
  simp only [evz,fl,gp,tab,simprocAttr]
  refine fin_run trivial (hK _ ?_)<;>clear hK K
  refine qa ?_
  refine hk_cond rfl (fun hC8=>?_) (fun hC8=>?_)
  ·(try simp only [nhs] at hC8)
   rw [hC8] at hsgi
   have hsn:sgN 1 (D.getD i 0)=D.getD i 0:=rfl
   refine hk_region fun K hK=>runs_eval tab_ok ?_
   simp only [evz,fl,gp,tab,simprocAttr,il_length,il_get (show i < D.length by omega)]
   refine fin_run ?_ (hK _ ?_)<;>clear hK K
   ·simp only [In64]; omega
   refine qd (qd (qa ?_))
   refine hk_region fun K hK=>runs_eval tab_ok ?_
   simp only [evz,fl,gp,tab,simprocAttr]
   refine fin_run ?_ (hK _ ?_)<;>clear hK K
   ·(first|exact trivial|omega|(simp only [In64] at *; omega)|(simp [In64] at *; omega)|(simp_all; done)|skip)
   refine qa ?_
   refine ⟨i + 1,[0],by omega,by omega,?_⟩
   have hx:SG (i + 1)=SG i + _:=hsgi
   rw [hsn] at hx
   rw [hx]
   simp only [leq,leA,evz,fl,gp,tab,simprocAttr]<;>first|trivial|omega|skip
  (try simp only [nhs] at hC8)
  refine qm ?_
  refine hk_region fun K hK=>runs_eval tab_ok ?_
  simp only [evz,fl,gp,tab,simprocAttr]
  refine fin_run ?_ (hK _ ?_)<;>clear hK K
  ·simp only [In64]; omega
  refine qa ?_
  refine hk_cond rfl (fun hC9=>?_) (fun hC9=>?_)
  ·(try simp only [nhs] at hC9)
   have hsn:sgN (inD p n S Q r k) (D.getD i 0) = -(D.getD i 0):=by unfold sgN; rw [if_neg hC7,if_neg hC8]
   refine hk_region fun K hK=>runs_eval tab_ok ?_
   simp only [evz,fl,gp,tab,simprocAttr,il_length,il_get (show i < D.length by omega)]
   refine fin_run ?_ (hK _ ?_)<;>clear hK K
   ·simp only [In64]; omega
   refine qd (qd (qa ?_))
   refine hk_region fun K hK=>runs_eval tab_ok ?_
   simp only [evz,fl,gp,tab,simprocAttr]
   refine fin_run ?_ (hK _ ?_)<;>clear hK K
   ·(first|exact trivial|omega|(simp only [In64] at *; omega)|(simp [In64] at *; omega)|(simp_all; done)|skip)
   refine qa ?_
   refine ⟨i + 1,[0],by omega,by omega,?_⟩
   have hx:SG (i + 1)=SG i + _:=hsgi
   rw [hsn] at hx
   rw [hx]
   simp only [leq,leA,evz,fl,gp,tab,simprocAttr]<;>first|trivial|omega|skip
  (try simp only [nhs] at hC9)
  exfalso; omega
 (try simp only [nhs] at hC4)
 have hik:i=k:=by omega
 rw [hik,s2]
 refine qj (qc (qc (qf (qa (qm ?_)))))
 refine hk_freeze 0 rfl rfl ?_
 refine hk_pure 1 rfl (Nat.zero_le _) ?_
 simp only [hset,List.drop_zero]
 refine hk_region fun K hK=>runs_eval tab_ok ?_
 simp only [evz,fl,gp,tab,simprocAttr,il_length,deq_self]
 refine fin_stop trivial (runs_call (hths) rfl rfl rfl (by simp only [dstOk,Nat.reduceLT]) (by repeat (first|exact trivial|constructor)) (runs_eval tab_ok ?_))
 simp only [evz,fl,gp,tab,simprocAttr,il_length,deq_self]
 refine fin_run ?_ (hK _ ?_)<;>clear hK K
 ·(first|exact trivial|omega|(simp only [In64] at *; omega)|(simp [In64] at *; omega)|(simp_all; done)|skip)
 refine qa (qk ?_)
 simp only [Tryd.results6,enA,evz,fl,gp,tab,simprocAttr]
 all_goals (simp)
theorem charSchur_c (N:Int) (m:List Int) (hm:m.length≤1000000000000000):FnC Tryd.prog 6 [gp N m] (.bool true):=by
 by_cases hf:(gf N m).1=0
 ·obtain ⟨n,e,h,_⟩:=gf_ok hf
  obtain rfl:N=(n:Int):=h.1
  by_cases hc:clN m n e≤24
  ·exact charSchur_ok h hc
  exact charSchur_f _ m 2 0 (by decide) (cf_many h (by omega))
 exact charSchur_f N m (gf N m).1 (gf N m).2 hf (cf_no N m hm hf)
end Go.Proofs.YtjlmpmidchddjaaDoor

namespace Go.Proofs.YtjlmpmidchddjaaDoor
open Go.Pv Go.ChangeShapes Go.WideShapes Go.ChangeAt Go.WideElems Go.RowKit
theorem own:ownKnob Tryd.prog.godebug=none:=by kernel_rfl
theorem laidOut:laidOutB Tryd.prog=true:=by kernel_rfl
theorem gG:Tryd.prog.globalNamed "math/bits.deBruijn64tab" = some 0:=by kernel_rfl
theorem tG:(Tryd.prog.globals[0]?).map (·.type)=some 113:=by kernel_rfl
theorem cG:Tryd.prog.cellsOf 5=1:=by kernel_rfl
theorem door_met (os:Os) (args:Array Value):laidMetH Tryd.prog [("math/bits.deBruijn64tab",Rows.laid_math_bits_deBruijn64tab)] ((World.doorLaid Tryd.prog 4000 os).forCall (fun _ _=>0) ⟨#[],args,[]⟩).memory:=
 laidMetH_of_parts3 (fuel:=8) (laidMet_of_run' 8 (by kernel_rfl) (by kernel_rfl)) (by kernel_rfl) (by kernel_rfl)
def convD:DataW Unit→PV
 | .lit (.int k n)=>.int k n
 | _=>.nil
def datum:List (DataW Unit)→List PV:=List.map convD
theorem glob_datum:(match (Rows.laid_math_bits_deBruijn64tab:DataW Unit) with | .agg l=>datum l | _=>[])=glob0:=rfl
theorem laid_ok {W:World} (h:laidMetH Tryd.prog [("math/bits.deBruijn64tab",Rows.laid_math_bits_deBruijn64tab)] W):LaidW (fun b=>b < W.heap.size) W:=by
 refine ⟨fun b h=>h,fun g l hg=>?_⟩
 have hg2:g=0∧l=glob0:=by
  unfold gv at hg
  by_cases e:g=0
  ·subst e; exact ⟨rfl,(Option.some.inj hg).symm⟩
  have:(g == 0)=false:=by simpa using e
  rw [this] at hg; simp at hg
 obtain ⟨rfl,rfl⟩:=hg2
 rw [MakeChecks.laidMetH_plain _ _ _ (by kernel_rfl)] at h
 obtain ⟨ps,⟨g0,t0,cs0,f0,p0,q0,hg0,ht0,hv0,hd0,_,_⟩,_,_⟩:=h
 obtain rfl:=Option.some.inj (gG.symm.trans hg0)
 obtain rfl:=Option.some.inj (tG.symm.trans ht0)
 obtain ⟨xs,m1,rfl,hx1,hlen,hn3,hel⟩:=DataW.trod_array Tryd.underlying113 hd0
 have hd1:Rows.laid_math_bits_deBruijn64tab=DataW.agg (xs.map (·.1)):=congrArg Prod.fst hx1
 have hgl:glob0=datum (xs.map (·.1)):=by
  rw [← glob_datum,hd1]
 have key:∀ c (h:c < glob0.length),W.cell? ⟨0,0 + c,none⟩=some ((cs0[c]?).getD undef)∧Reads (fun b=>b < W.heap.size) W glob0[c] ((cs0[c]?).getD undef):=by
  intro c hc
  have hc2:c < 64:=Nat.lt_of_lt_of_le hc (by decide)
  have hcx:c < xs.length:=by omega
  have h1:=hel c hc2
  rw [List.getElem?_eq_getElem hcx] at h1
  obtain ⟨k,e1,e2,_⟩:=DataW.trod_int Tryd.underlying5 h1
  rw [cG] at e1
  have e3:cs0.toList[c]? = some (.int .u8 k):=by
   have:=congrArg (fun l=>l[0]?) e1
   simpa [List.getElem?_take,List.getElem?_drop] using this
  have e4:cs0[c]? = some (.int .u8 k):=by simpa using e3
  have e5:glob0[c] = .int .u8 k:=by
   have:glob0[c]? = (datum (xs.map (·.1)))[c]?:=by rw [hgl]
   rw [List.getElem?_eq_getElem hc] at this
   simp only [datum,List.getElem?_map,List.getElem?_eq_getElem hcx,Option.map_some,Option.some.injEq] at this
   exact this.trans (by rw [e2]; rfl)
  refine ⟨?_,?_⟩
  ·rw [e4,Nat.zero_add,World.var?_cell gG hv0 c,e4]; rfl
  rw [e4]
  exact e5 ▸ (Reads.int .u8 k)
 refine .ptr _ _ _ (fun c=>(cs0[c]?).getD undef) ?_ (fun c hc=>(key c hc).1) fun c hc=>(key c hc).2
 have:=(key 0 (by decide)).1
 unfold World.cell? at this
 rcases Nat.lt_or_ge 0 W.heap.size with h | h
 ·exact h
 exfalso
 rw [Array.getElem?_eq_none h] at this
 simp at this
end Go.Proofs.YtjlmpmidchddjaaDoor
