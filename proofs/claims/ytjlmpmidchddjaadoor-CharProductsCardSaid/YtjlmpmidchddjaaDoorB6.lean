/-
  Texts of this proof, one behind the other: what each says stands at its head. Conditions: none.
-/
import Derived.Test.YtjlmpmidchddjaaDoorB5
import Derived.Test.YtjlmpmidchddjaaDoorB3
import Derived.Test.YtjlmpmidchddjaaDoorB4
set_option linter.all false
namespace Go.Proofs.YtjlmpmidchddjaaDoor
open Go.Pv
def dG (m:List Int) (n e:Nat):List (List (List Int)):=cT (aJ m n e) (fw m n e) [aO (aS m n e) (aS m n e)] (aS m n e)
def pC (m:List Int) (n e:Nat):Nat:=bS m n e e
def iP (m:List Int) (n e:Nat) (s:List (List Int)):List Int:=xK (aJ m n e) (xj (aJ m n e) (pC m n e) s) (pI (aJ m n e) n (pC m n e) (aS m n e) (kn m n e) (cY m n e) s) (cY m n e) (aS m n e) (aS m n e)
def kV (m:List Int) (n e:Nat):List (List Int):=xN (aJ m n e) n (pC m n e) (aS m n e) (kn m n e) (cY m n e) (dG m n e)
theorem sV (m:List Int) (n e:Nat):(kV m n e).Perm ((dG m n e).map (iP m n e)):=by
 unfold kV xN
 refine ((mu _).symm.map _).trans ?_
 rw [List.map_map]
 exact List.Perm.of_eq (List.map_congr_left fun s _=>rfl)
theorem AO (m:List Int) (n e:Nat) (s:List (List Int)):(iP m n e s).length=aS m n e:=by simp [iP,xK,bC]
theorem BM {n e:Nat} {m:List Int} (h:GT n m n e) (s:List (List Int)):eB (aJ m n e) (iP m n e s):=by
 obtain ⟨P,p1,p2⟩:=sM h
 refine nV (fun t=>bE (by omega) _) fun j=>?_
 rw [List.getD_eq_getElem?_getD,List.getElem?_replicate]
 split
 ·simp only [Option.getD_some]; omega
 simp only [Option.getD_none]; omega
theorem zl {n e:Nat} {m:List Int} (h:GT n m n e):0 < aS m n e∧aS m n e≤n:=⟨by have:=(eo h h.2.2.el).1; omega,gL _ _ _⟩
theorem BN {n e:Nat} {m:List Int} (h:GT n m n e) (hc24:aS m n e≤24):bL Tryd.prog 11 [gp n m] (.tup [.int .i64 (aJ m n e),.list (ll (kV m n e)),fl (0,0)]):=by
 obtain ⟨P,p1,p2⟩:=sM h
 have hp3:=P.three
 haveI:NeZero (aJ m n e):=⟨by omega⟩
 have G:=h.2.2
 have E:=G.fy
 have hb:=h.2.1.big
 obtain ⟨lam,Fm⟩:=(lS h).HV
 obtain ⟨hc0,hcn⟩:=zl h
 have hwl:∀ a,a < n→(pJ n (bQ n (op m n) e)).getD a 0=(bS m n e a:Int):=fun a ha=>by
  rw [pJ,fG ha]; exact (eo h ha).2
 have hTl:(fw m n e).length=aS m n e:=by simp [fw]
 have hTg:∀ i,i < aS m n e→(fw m n e).getD i []=iO (aS m n e) (ct n (op m n) e i):=fun i hi=>by simp [fw,List.getD,List.getElem?_map,List.getElem?_range hi]
 have hSl:(dG m n e).length=aS m n e:=Fm.len
 refine CD h (p:=aJ m n e) (c:=aS m n e) (o:=pC m n e) (J:=kn m n e) (S:=cY m n e) (L:=sA m n e) (TT:=fw m n e) (WL:=pJ n (bQ n (op m n) e)) (by omega) (by omega) hc0 hc24 (lQ h) ?_ (rS m hb E) (yh h) rfl hTl (fun i hi=>?_) (dT _ _) (hwl e G.el) (eo h G.el).1 (fun i hi=>?_) (fun i hi=>?_) ?_ fun s hs=>?_
 ·have:=AD h
  have e1:(List.range (dU n (bQ n (op m n) e)).length).map (p9 n (op m n) e)=Bv (fw m n e):=by
   unfold Bv fw p9 aS sA
   rw [List.map_map]
   rfl
  rw [e1] at this
  exact this
 ·rw [hTg i hi]
  refine ⟨du _ _,vL,fun v hv j=>?_⟩
  obtain ⟨a,ha,rfl⟩:=List.mem_map.1 hv
  by_cases hj:j < aS m n e
  ·have:=fG (n:=aS m n e) (g:=ct n (op m n) e i a) hj
   rw [this]
   have hr:=wQ ((dU n (bQ n (op m n) e)).getD i []) (cw n (op m n) e j) ((dU n (bQ n (op m n) e)).getD i []).length a
   have h2:=(jC h hi).2.1
   unfold cY sA at h2
   unfold ct
   omega
  rw [List.getD_eq_getElem?_getD,List.getElem?_eq_none (by rw [dT]; omega)]
  simp
 ·obtain ⟨s1,s2,s3⟩:=jC h hi
  have hx:=(Ae h hi).1
  refine ⟨qv m n e i,hx,s3,hwl _ (G.az hx),(eo h (G.az hx)).1,rfl,s1,by omega⟩
 ·have:=Fm.few i hi
  omega
 ·intro h0
  have:=Fm.len
  rw [h0] at this
  simp at this; omega
 obtain ⟨q,hq,e1⟩:=List.getElem_of_mem hs
 have hq2:q < aS m n e:=by have:=Fm.len; omega
 have hr:=rW h Fm hq2
 have e2:(cT (aJ m n e) (fw m n e) [aO (aS m n e) (aS m n e)] (aS m n e)).getD q []=s:=by rw [← e1]; simp [List.getD,List.getElem?_eq_getElem hq]
 rw [e2] at hr
 exact hr.sq
open Lean.Grind
attribute [local instance] Lean.Grind.Semiring.natCast Lean.Grind.Ring.intCast
section
variable {K:Type} [CommRing K]
def fg (l:List (List Int)) (F:List Int→K):K:=l.foldr (fun r a=>F r + a) 0
theorem yl {l l' : List (List Int)} (h:l.Perm l') (F:List Int→K):fg l F=fg l' F:=by
 induction h with
 | nil=>rfl
 | cons x _ ih=>show F x + fg _ F=F x + fg _ F; rw [ih]
 | swap x y l=>show F y + (F x + fg l F)=F x + (F y + fg l F); grind
 | trans _ _ h1 h2=>rw [h1,h2]
theorem zI (l l' : List (List Int)) (F:List Int→K):fg (l++l') F=fg l F + fg l' F:=by
 induction l with
 | nil=>show fg l' F=0 + fg l' F; grind
 | cons x l ih=>show F x + fg (l++l') F=F x + fg l F + fg l' F; rw [ih]; grind
theorem wy (F:List Int→K):∀ (l:List (List Int)),fg l F=sm (fun i=>F (l.getD i [])) l.length:=by
 intro l
 have key:∀ k,k≤l.length→fg (l.take k) F=sm (fun i=>F (l.getD i [])) k:=fun k=>by
  induction k with
  | zero=>intro _; rfl
  | succ k ih =>
   intro hk
   rw [List.take_succ_eq_append_getElem (by omega),zI,ih (by omega),sm]
   have:l[k]'(by omega)=l.getD k []:=by simp [List.getD,List.getElem?_eq_getElem (show k < l.length by omega)]
   rw [this]
   show _ + (F _ + 0)=_
   grind
 have:=key l.length (Nat.le_refl _)
 rwa [List.take_length] at this
end
section
variable {n e:Nat} {m:List Int} [NeZero (aJ m n e)]
def G9 (m:List Int) (n e:Nat) [NeZero (aJ m n e)] (r r' : List Int):Fin (aJ m n e):=sm (fun k=>((cY m n e k:Nat):Fin (aJ m n e)) * vc r k * vc r' (kn m n e k)) (aS m n e)
theorem k6 (h:GT n m n e):(∀ r∈kV m n e,G9 m n e r r=(n:Nat))∧(kV m n e).Pairwise (fun r r'=>G9 m n e r r' = 0∧G9 m n e r' r=0)∧(kV m n e).length=aS m n e∧(∀ r∈kV m n e,r.length=aS m n e∧eB (aJ m n e) r) ∧
  ∀ i j,i < aS m n e→j < aS m n e→fg (kV m n e) (fun r=>(vc r j:Fin (aJ m n e)) * vc r (kn m n e i)) * ((cY m n e j:Nat):Fin (aJ m n e))=if i=j then ((n:Nat):Fin (aJ m n e)) else 0:=by
 obtain ⟨lam,Fm⟩:=(lS h).HV
 have H:=lS h
 have hSl:(dG m n e).length=aS m n e:=Fm.len
 have hJl:∀ i,i < aS m n e→kn m n e i < aS m n e:=fun i hi=>(eo h (h.2.2.az (Ae h hi).1)).1
 have hrow:∀ q,q < aS m n e→∃ d:Fin (aJ m n e),d * d * bI n (op m n) e (bl (bS m n e) (fun i=>((dL (aJ m n e) (cY m n e i:Nat):Int):Fin (aJ m n e))) (lam q)) (bl (bS m n e) (fun i=>((dL (aJ m n e) (cY m n e i:Nat):Int):Fin (aJ m n e))) (lam q)) e=(n:Nat)∧∀ i,i < aS m n e→(vc (iP m n e ((dG m n e).getD q [])) i:Fin (aJ m n e))=d * lam q i * ((dL (aJ m n e) (cY m n e i:Nat):Int):Fin (aJ m n e)):=fun q hq=>by
  have hr:=rW h Fm hq
  refine ⟨_,hr.dd,fun i hi=>?_⟩
  unfold iP
  rw [D4 H.R hi]
  have hw:(vc (xj (aJ m n e) (pC m n e) ((dG m n e).getD q [])):Nat→Fin (aJ m n e))=lam q:=hr.w
  rw [hw]
  show lam q i * ((pI (aJ m n e) n (pC m n e) (aS m n e) (kn m n e) (cY m n e) ((dG m n e).getD q []):Nat):Fin (aJ m n e)) * _=((pI (aJ m n e) n (pC m n e) (aS m n e) (kn m n e) (cY m n e) ((dG m n e).getD q []):Nat):Fin (aJ m n e)) * lam q i * _
  grind
 have hrow' : ∀ q,∃ d:Fin (aJ m n e),q < aS m n e→d * d * bI n (op m n) e (bl (bS m n e) (fun i=>((dL (aJ m n e) (cY m n e i:Nat):Int):Fin (aJ m n e))) (lam q)) (bl (bS m n e) (fun i=>((dL (aJ m n e) (cY m n e i:Nat):Int):Fin (aJ m n e))) (lam q)) e=(n:Nat)∧∀ i,i < aS m n e→(vc (iP m n e ((dG m n e).getD q [])) i:Fin (aJ m n e))=d * lam q i * ((dL (aJ m n e) (cY m n e i:Nat):Int):Fin (aJ m n e)):=fun q=>by
  by_cases hq:q < aS m n e
  ·obtain ⟨d,hd⟩:=hrow q hq; exact ⟨d,fun _=>hd⟩
  exact ⟨0,fun hh=>absurd hh hq⟩
 obtain ⟨d,hd⟩:=Classical.axiomOfChoice hrow'
 have hpr:∀ q q',q < aS m n e→q' < aS m n e→G9 m n e (iP m n e ((dG m n e).getD q [])) (iP m n e ((dG m n e).getD q' []))=d q * d q' * bI n (op m n) e (bl (bS m n e) (fun i=>((dL (aJ m n e) (cY m n e i:Nat):Int):Fin (aJ m n e))) (lam q)) (bl (bS m n e) (fun i=>((dL (aJ m n e) (cY m n e i:Nat):Int):Fin (aJ m n e))) (lam q')) e:=fun q q' hq hq'=>by
  unfold G9
  rw [Cw.sum H,← aL]
  refine ai fun i hi=>?_
  rw [(hd q hq).2 i hi,(hd q' hq').2 _ (hJl i hi)]
  have e1:=H.io i hi
  rw [pb h hi] at e1
  have e2:((dL (aJ m n e) (cY m n e (kn m n e i):Nat):Int):Fin (aJ m n e))=((dL (aJ m n e) (cY m n e i:Nat):Int):Fin (aJ m n e)):=H.HX hi
  rw [e2]
  show _=d q * d q' * (lam q i * lam q' (kn m n e i) * _)
  grind
 have hP:=sV m n e
 have hg:∀ q,q < aS m n e→((dG m n e).map (iP m n e)).getD q []=iP m n e ((dG m n e).getD q []):=fun q hq=>by
  simp [List.getD,List.getElem?_map,List.getElem?_eq_getElem (show q < (dG m n e).length by omega)]
 refine ⟨fun r hr=>?_,?_,?_,fun r hr=>?_,fun i j hi hj=>?_⟩
 ·obtain ⟨s,hs,rfl⟩:=List.mem_map.1 (hP.mem_iff.1 hr)
  obtain ⟨q,hq,e1⟩:=List.getElem_of_mem hs
  have e2:(dG m n e).getD q []=s:=by rw [← e1]; simp [List.getD,List.getElem?_eq_getElem hq]
  rw [← e2,hpr q q (by omega) (by omega)]
  exact (hd q (by omega)).1
 ·refine (hP.pairwise_iff fun hab=>⟨hab.2,hab.1⟩).2 ?_
  rw [List.pairwise_iff_getElem]
  intro q q' hq hq' hlt
  rw [List.length_map] at hq hq'
  simp only [List.getElem_map]
  have e1:(dG m n e)[q]=(dG m n e).getD q []:=by simp [List.getD,List.getElem?_eq_getElem hq]
  have e2:(dG m n e)[q']=(dG m n e).getD q' []:=by simp [List.getD,List.getElem?_eq_getElem hq']
  rw [e1,e2,hpr q q' (by omega) (by omega),hpr q' q (by omega) (by omega),Fm.ort q q' (by omega) (by omega) (by omega),Fm.ort q' q (by omega) (by omega) (by omega)]
  exact ⟨by grind,by grind⟩
 ·rw [hP.length_eq,List.length_map,hSl]
 ·obtain ⟨s,hs,rfl⟩:=List.mem_map.1 (hP.mem_iff.1 hr)
  exact ⟨AO m n e s,BM h s⟩
 rw [yl hP,wy,List.length_map,hSl]
 have hcol:=Cw.Gj H Fm (d:=d) (fun q hq=>(hd q hq).1) hi hj
 have e1:sm (fun q=>(vc (((dG m n e).map (iP m n e)).getD q []) j:Fin (aJ m n e)) * vc (((dG m n e).map (iP m n e)).getD q []) (kn m n e i)) (aS m n e)=if i=j then ((n:Nat):Fin (aJ m n e)) * ((dL (aJ m n e) (cY m n e j:Nat):Int):Fin (aJ m n e)) else 0:=by
  rw [← hcol]
  refine ai fun q hq=>?_
  rw [hg q hq,(hd q hq).2 j hj,(hd q hq).2 _ (hJl i hi)]
  have e2:((dL (aJ m n e) (cY m n e (kn m n e i):Nat):Int):Fin (aJ m n e))=((dL (aJ m n e) (cY m n e i:Nat):Int):Fin (aJ m n e)):=H.HX hi
  rw [e2]; rfl
 rw [e1]
 have e3:=H.io j hj
 rw [pb h hj] at e3
 by_cases hij:i=j
 ·rw [if_pos hij,if_pos hij]; grind
 rw [if_neg hij,if_neg hij]; grind
end
end Go.Proofs.YtjlmpmidchddjaaDoor
namespace Go.Proofs.YtjlmpmidchddjaaDoor
open Go.Pv
def me (m:List Int) (n e:Nat):List Int:=(kV m n e).map fun r=>r.getD (pC m n e) 0
theorem rB {n e:Nat} {m:List Int} (h:GT n m n e) (hc:24 < aS m n e):bL Tryd.prog 13 [gp n m] (.tup [.list [],fl (2,0)]):=by
 refine aK ae Tryd.func13 rfl (by kernel_rfl) (by rw [Tryd.ntmps13]; exact Nat.le_add_left 1 _) ?_; rw [Tryd.ntmps13]
 refine qm ?_
 refine ab fun K hK=>aa ae ?_
 simp only [ak,fl,gp,aj,simprocAttr]
 refine af ?_ (hK _ ?_)<;>clear hK K
 ·first|exact trivial|omega|(simp only [ah] at *; omega)|(simp [ah] at *; omega)|simp_all
 refine qa (qm ?_)
 refine ab fun K hK=>aa ae ?_
 simp only [ak,fl,gp,aj,simprocAttr]
 refine an trivial (al (u3 h hc) rfl rfl rfl (by simp only [au,Nat.reduceLT]) (by repeat (first|exact trivial|constructor)) (aa ae ?_))
 simp only [ak,fl,gp,aj,simprocAttr]
 refine af ?_ (hK _ ?_)<;>clear hK K
 ·first|exact trivial|omega|(simp only [ah] at *; omega)|(simp [ah] at *; omega)|simp_all
 refine qa (qm (qm ?_))
 refine ab fun K hK=>aa ae ?_
 simp only [ak,fl,gp,aj,simprocAttr]
 refine af ?_ (hK _ ?_)<;>clear hK K
 ·first|exact trivial|omega|(simp only [ah] at *; omega)|(simp [ah] at *; omega)|simp_all
 refine qa ?_
 refine ao rfl (fun hC1=>?_) (fun hC1=>?_)
 ·(try simp only [aH] at hC1)
  refine qm ?_
  refine ba mixed (by kernel_rfl) fun K hK=>aa ae ?_
  simp only [ak,fl,gp,aj,simprocAttr]
  refine af ?_ (hK _ ?_)<;>clear hK K
  ·first|exact trivial|omega|(simp only [ah] at *; omega)|(simp [ah] at *; omega)|simp_all
  refine qa (qk (qb ?_))
  simp only [Tryd.results13,bY,ak,fl,gp,aj,simprocAttr]
  all_goals ((first|exact rfl|exact ⟨rfl,rfl⟩|exact ⟨rfl,rfl,rfl⟩|exact ⟨trivial,rfl⟩|exact ⟨Nat.le_refl _,rfl⟩|trivial|(simp; done)))
 (try simp only [aH] at hC1)
 first|exact absurd rfl hC1|exact hC1.elim|cases hC1|(simp at hC1; done)
theorem gR {n e:Nat} {m:List Int} (h:GT n m n e) (hc24:aS m n e≤24):bL Tryd.prog 13 [gp n m] (.tup [.list (il (me m n e)),fl (0,0)]):=by
 have E:=h.2.2.fy
 have hb:=h.2.1.big
 obtain ⟨P,p1,p2⟩:=sM h
 haveI:NeZero (aJ m n e):=⟨by have:=P.three; omega⟩
 obtain ⟨_,_,t3,t4,_⟩:=k6 h
 have hwl:(pJ n (bQ n (op m n) e)).getD e 0=(pC m n e:Int):=by rw [pJ,fG h.2.2.el]; exact (eo h h.2.2.el).2
 have hol:=(eo h h.2.2.el).1
 have hwll:(pJ n (bQ n (op m n) e)).length=n:=dT _ _
 refine aK ae Tryd.func13 rfl (by kernel_rfl) (by rw [Tryd.ntmps13]; exact Nat.le_add_left 1 _) ?_; rw [Tryd.ntmps13]
 refine qm ?_
 refine ab fun K hK=>aa ae ?_
 simp only [ak,fl,gp,aj,simprocAttr]
 refine af ?_ (hK _ ?_)<;>clear hK K
 ·first|exact trivial|omega|(simp only [ah] at *; omega)|(simp [ah] at *; omega)|simp_all
 refine qa (qm ?_)
 refine ab fun K hK=>aa ae ?_
 simp only [ak,fl,gp,aj,simprocAttr]
 refine an trivial (al (BN h hc24) rfl rfl rfl (by simp only [au,Nat.reduceLT]) (by repeat (first|exact trivial|constructor)) (aa ae ?_))
 simp only [ak,fl,gp,aj,simprocAttr]
 refine af ?_ (hK _ ?_)<;>clear hK K
 ·first|exact trivial|omega|(simp only [ah] at *; omega)|(simp [ah] at *; omega)|simp_all
 refine qa (qm (qm ?_))
 refine ab fun K hK=>aa ae ?_
 simp only [ak,fl,gp,aj,simprocAttr]
 refine af ?_ (hK _ ?_)<;>clear hK K
 ·first|exact trivial|omega|(simp only [ah] at *; omega)|(simp [ah] at *; omega)|simp_all
 refine qa ?_
 refine ao rfl (fun hC1=>?_) (fun hC1=>?_)
 ·cases hC1
 (try simp only [aH] at hC1)
 refine qh (qa (qm ?_))
 refine ba mixed (by kernel_rfl) fun K hK=>aa ae ?_
 simp only [ak,fl,gp,aj,simprocAttr]
 refine an trivial (al (lQ h) rfl rfl rfl (by simp only [au,Nat.reduceLT]) (by repeat (first|exact trivial|constructor)) (aa ae ?_))
 simp only [ak,fl,gp,aj,simprocAttr]
 refine an trivial (al (rS m hb E) rfl rfl rfl (by simp only [au,Nat.reduceLT]) (by repeat (first|exact trivial|constructor)) (aa ae ?_))
 simp only [ak,fl,gp,aj,simprocAttr]
 refine af ?_ (hK _ ?_)<;>clear hK K
 ·first|exact trivial|omega|(simp only [ah] at *; omega)|(simp [ah] at *; omega)|simp_all
 refine qa (qm ?_)
 refine ab fun K hK=>aa ae ?_
 simp only [ak,fl,gp,aj,simprocAttr]
 refine af trivial (hK _ ?_)<;>clear hK K
 refine qa (qm (qm ?_))
 refine cu 8 rfl ?_
 refine ab fun K hK=>aa ae ?_
 simp only [ak,fl,gp,aj,simprocAttr,ay,t3]
 refine af trivial (hK _ ?_)<;>clear hK K
 refine qa (ql ?_)
 refine aB (ι:=Nat) (fun i=>⟨45,[(1,.ptr 0 0),(3,.ptr 1 0),(6,.ptr 2 0),(7,.p (.list (il (pJ n (bQ n (op m n) e))))),(8,.sl 3 0 i),(25,.p (.list (ll (kV m n e)))),(26,.p (.int .i64 (aS m n e))),(27,.p (.int .i64 i))],[.own [.p (.int .i64 n),.p (.list (il m))],.own [.p (.int .i64 0),.p (.int .i64 0)],.own [.p (.int .i64 0),.p (.int .i64 0)],.own (ol ((me m n e).take i))]⟩) (fun i=>i≤aS m n e) (fun i=>aS m n e - i) 0 (Nat.zero_le _) [0,1,2,3] (by simp only [leq,bw,ak,fl,gp,aj,simprocAttr]<;>first|trivial|(simp [kf,km]; done)|skip) fun i hi=>?_
 refine qm ?_
 refine ab fun K hK=>aa ae ?_
 simp only [ak,fl,gp,aj,simprocAttr]
 refine af trivial (hK _ ?_)<;>clear hK K
 refine qa (qm ?_)
 refine ao rfl (fun hC2=>?_) (fun hC2=>?_)
 ·(try simp only [aH] at hC2)
  have hil:i < (kV m n e).length:=by omega
  obtain ⟨r,hr⟩:∃ r,(kV m n e).getD i []=r:=⟨_,rfl⟩
  have hrl:r.length=aS m n e:=by rw [← hr]; exact (t4 _ (aC hil)).1
  have hdk:(me m n e).take (i + 1)=(me m n e).take i++[r.getD (pC m n e) 0]:=by
   rw [List.take_succ_eq_append_getElem (by simp [me]; omega)]
   congr 2
   simp only [me,List.getElem_map]
   rw [← hr]; simp [List.getD,List.getElem?_eq_getElem hil]
  have hdl:((me m n e).take i).length=i:=by rw [List.length_take]; simp [me]; omega
  have hdt:List.take i ((me m n e).take i)=(me m n e).take i:=List.take_of_length_le (by omega)
  refine qh (qa (qm (ql (qm ?_))))
  refine ab fun K hK=>aa ae ?_
  simp only [ak,fl,gp,aj,simprocAttr,ay,dI hil,hr]
  refine af ?_ (hK _ ?_)<;>clear hK K
  ·omega
  refine qa ?_
  refine ab fun K hK=>aa ae ?_
  simp only [ak,fl,gp,aj,simprocAttr,hdt,hdl,aT (show e < (pJ n (bQ n (op m n) e)).length by rw [hwll]; exact h.2.2.el),hwl,aT (show pC m n e < r.length by rw [hrl]; exact hol)]
  refine an ?_ (al (nR h) rfl rfl rfl (by simp only [au,Nat.reduceLT]) (by repeat (first|exact trivial|constructor)) (aa ae ?_))
  ·first|exact trivial|omega|(simp only [ah] at *; omega)|(simp [ah] at *; omega)|simp_all
  simp only [ak,fl,gp,aj,simprocAttr,hdt,hdl,aT (show e < (pJ n (bQ n (op m n) e)).length by rw [hwll]; exact h.2.2.el),hwl,aT (show pC m n e < r.length by rw [hrl]; exact hol)]
  refine af ?_ (hK _ ?_)<;>clear hK K
  ·have:=h.2.2.el
   have hol2:pC m n e < aS m n e:=hol
   omega
  refine qd (qa ?_)
  refine ab fun K hK=>aa ae ?_
  simp only [ak,fl,gp,aj,simprocAttr]
  refine af ?_ (hK _ ?_)<;>clear hK K
  ·first|exact trivial|omega|(simp only [ah] at *; omega)|(simp [ah] at *; omega)|simp_all
  refine qa ?_
  refine ⟨i + 1,[0,1,2,4],by omega,by omega,?_⟩
  rw [hdk]
  simp only [leq,bw,ak,fl,gp,aj,simprocAttr]<;>first|trivial|omega|(rw [List.take_of_length_le (by rw [List.length_append]; exact Nat.le_refl _)]; done)|(rw [hdl,List.take_of_length_le (by rw [List.length_append,hdl]; exact Nat.le_refl _)]; done)|skip
 (try simp only [aH] at hC2)
 have hil:i=aS m n e:=by omega
 have hdl:(me m n e).length=aS m n e:=by simp [me,t3]
 have hdt:(me m n e).take i=me m n e:=List.take_of_length_le (by omega)
 refine qj (qc (qc (qf (qa (qm ?_)))))
 refine ba mixed (by kernel_rfl) fun K hK=>aa ae ?_
 simp only [ak,fl,gp,aj,simprocAttr]
 refine af ?_ (hK _ ?_)<;>clear hK K
 ·first|exact trivial|omega|(simp only [ah] at *; omega)|(simp [ah] at *; omega)|simp_all
 refine qa (qk ?_)
 simp only [Tryd.results13,bY,ak,fl,gp,aj,simprocAttr]
 rw [hdt,List.take_of_length_le (show (me m n e).length≤i by omega)]
 exact ⟨by omega,rfl⟩
theorem D9 {n e:Nat} {m:List Int} (h:GT n m n e):bL Tryd.prog 52 [gp n m] (fl (0,0)):=by
 have hb:=h.2.1.big
 have:=Il n m (by rw [h.2.1.len]; have:=Nat.mul_le_mul hb hb; omega)
 rwa [p8 h] at this
theorem Dl {n e:Nat} {m:List Int} (h:GT n m n e) (hc:24 < aS m n e):bL Tryd.prog 14 [gp n m] (fl (2,0)):=by
 have hcl:(dU n (bQ n (op m n) e)).length=aS m n e:=rfl
 refine aK ae Tryd.func14 rfl (by kernel_rfl) (by rw [Tryd.ntmps14]; exact Nat.le_add_left 1 _) ?_; rw [Tryd.ntmps14]
 refine qm ?_
 refine ab fun K hK=>aa ae ?_
 simp only [ak,fl,gp,aj,simprocAttr]
 refine af ?_ (hK _ ?_)<;>clear hK K
 ·first|exact trivial|omega|(simp only [ah] at *; omega)|(simp [ah] at *; omega)|simp_all
 refine qa (qm ?_)
 refine ab fun K hK=>aa ae ?_
 simp only [ak,fl,gp,aj,simprocAttr]
 refine an trivial (al (D9 h) rfl rfl rfl (by simp only [au,Nat.reduceLT]) (by repeat (first|exact trivial|constructor)) (aa ae ?_))
 simp only [ak,fl,gp,aj,simprocAttr]
 refine af ?_ (hK _ ?_)<;>clear hK K
 ·first|exact trivial|omega|(simp only [ah] at *; omega)|(simp [ah] at *; omega)|simp_all
 refine qa (qm (qm ?_))
 refine ab fun K hK=>aa ae ?_
 simp only [ak,fl,gp,aj,simprocAttr,ay,hcl]
 refine an trivial (al (mF h) rfl rfl rfl (by simp only [au,Nat.reduceLT]) (by repeat (first|exact trivial|constructor)) (aa ae ?_))
 simp only [ak,fl,gp,aj,simprocAttr,ay,hcl]
 refine af ?_ (hK _ ?_)<;>clear hK K
 ·first|exact trivial|omega|(simp only [ah] at *; omega)|(simp [ah] at *; omega)|simp_all
 refine qa ?_
 refine ao rfl (fun hC1=>?_) (fun hC1=>?_)
 ·(try simp only [aH] at hC1)
  refine ab fun K hK=>aa ae ?_
  simp only [ak,fl,gp,aj,simprocAttr]
  refine an trivial (al (Cn 2 0) rfl rfl rfl (by simp only [au,Nat.reduceLT]) (by repeat (first|exact trivial|constructor)) (aa ae ?_))
  simp only [ak,fl,gp,aj,simprocAttr]
  refine af ?_ (hK _ ?_)<;>clear hK K
  ·first|exact trivial|omega|(simp only [ah] at *; omega)|(simp [ah] at *; omega)|simp_all
  refine qa (qm ?_)
  refine ab fun K hK=>aa ae ?_
  simp only [ak,fl,gp,aj,simprocAttr]
  refine af ?_ (hK _ ?_)<;>clear hK K
  ·first|exact trivial|omega|(simp only [ah] at *; omega)|(simp [ah] at *; omega)|simp_all
  refine qa (qk ?_)
  simp only [Tryd.results14,bY,ak,fl,gp,aj,simprocAttr]
  all_goals ((first|exact rfl|exact ⟨rfl,rfl⟩|exact ⟨rfl,rfl,rfl⟩|exact ⟨trivial,rfl⟩|exact ⟨Nat.le_refl _,rfl⟩|trivial|(simp; done)))
 (try simp only [aH] at hC1)
 omega
theorem Gv {n e:Nat} {m:List Int} (h:GT n m n e) (hc:aS m n e≤24):bL Tryd.prog 14 [gp n m] (fl (0,0)):=by
 have hcl:(dU n (bQ n (op m n) e)).length=aS m n e:=rfl
 refine aK ae Tryd.func14 rfl (by kernel_rfl) (by rw [Tryd.ntmps14]; exact Nat.le_add_left 1 _) ?_; rw [Tryd.ntmps14]
 refine qm ?_
 refine ab fun K hK=>aa ae ?_
 simp only [ak,fl,gp,aj,simprocAttr]
 refine af ?_ (hK _ ?_)<;>clear hK K
 ·first|exact trivial|omega|(simp only [ah] at *; omega)|(simp [ah] at *; omega)|simp_all
 refine qa (qm ?_)
 refine ab fun K hK=>aa ae ?_
 simp only [ak,fl,gp,aj,simprocAttr]
 refine an trivial (al (D9 h) rfl rfl rfl (by simp only [au,Nat.reduceLT]) (by repeat (first|exact trivial|constructor)) (aa ae ?_))
 simp only [ak,fl,gp,aj,simprocAttr]
 refine af ?_ (hK _ ?_)<;>clear hK K
 ·first|exact trivial|omega|(simp only [ah] at *; omega)|(simp [ah] at *; omega)|simp_all
 refine qa (qm (qm ?_))
 refine ab fun K hK=>aa ae ?_
 simp only [ak,fl,gp,aj,simprocAttr,ay,hcl]
 refine an trivial (al (mF h) rfl rfl rfl (by simp only [au,Nat.reduceLT]) (by repeat (first|exact trivial|constructor)) (aa ae ?_))
 simp only [ak,fl,gp,aj,simprocAttr,ay,hcl]
 refine af ?_ (hK _ ?_)<;>clear hK K
 ·first|exact trivial|omega|(simp only [ah] at *; omega)|(simp [ah] at *; omega)|simp_all
 refine qa ?_
 refine ao rfl (fun hC1=>?_) (fun hC1=>?_)
 ·(try simp only [aH] at hC1)
  omega
 (try simp only [aH] at hC1)
 refine qh (qa (qm ?_))
 refine ab fun K hK=>aa ae ?_
 simp only [ak,fl,gp,aj,simprocAttr]
 refine af ?_ (hK _ ?_)<;>clear hK K
 ·first|exact trivial|omega|(simp only [ah] at *; omega)|(simp [ah] at *; omega)|simp_all
 refine qa (qk ?_)
 simp only [Tryd.results14,bY,ak,fl,gp,aj,simprocAttr]
 all_goals ((first|exact rfl|exact ⟨rfl,rfl⟩|exact ⟨rfl,rfl,rfl⟩|exact ⟨trivial,rfl⟩|exact ⟨Nat.le_refl _,rfl⟩|trivial|(simp; done)))
theorem xd {α:Type} {R:α→α→Prop} (anti:∀ a b,R a b→R b a→a=b):∀ (xs ys:List α),xs.Perm ys→xs.Pairwise R→ys.Pairwise R→xs=ys
 | [],ys,h,_,_=>h.symm.eq_nil.symm
 | x :: r,[],h,_,_=>h.eq_nil
 | x :: r,y :: s,h,h1,h2=>by
  have hxy:x=y:=by
   have m1:x∈y :: s:=h.mem_iff.1 (by simp)
   have m2:y∈x :: r:=h.mem_iff.2 (by simp)
   rcases List.mem_cons.1 m1 with h3 | h3
   ·exact h3
   rcases List.mem_cons.1 m2 with h4 | h4
   ·exact h4.symm
   exact anti _ _ ((List.pairwise_cons.1 h1).1 y h4) ((List.pairwise_cons.1 h2).1 x h3)
  subst hxy
  rw [xd anti r s (List.Perm.cons_inv h) (List.pairwise_cons.1 h1).2 (List.pairwise_cons.1 h2).2]
theorem yg {xs ys:List (List Int)} (h:xs.Perm ys) (hs:ys.Pairwise fun v w=>¬ dF w v < 0):ys=Bm xs:=
 xd (fun a b h1 h2=>kT _ _ h2 h1) _ _ (h.symm.trans (mu xs)) hs (mK xs)
theorem Dd:∀ e,e < 8→op vU 8 e 0=0→e=0:=by decide +kernel
theorem Be:(dG vU 8 0).map (nc (aJ vU 8 0) 8 (pC vU 8 0) (aS vU 8 0) (kn vU 8 0) (cY vU 8 0))=[[2,2,0,15,0,0],[1,1,1,1,1,1],[1,1,1,1,16,16],[1,1,16,1,1,16],[1,1,16,1,16,1]]:=by decide +kernel
theorem GK:aS vU 8 0=5:=by decide +kernel
theorem Hr:pC vU 8 0=0:=by decide +kernel
theorem E5:me vU 8 0=[1,1,1,1,2]:=by
 have h:=yg (xs:=[[2,2,0,15,0,0],[1,1,1,1,1,1],[1,1,1,1,16,16],[1,1,16,1,1,16],[1,1,16,1,16,1]]) (ys:=[[1,1,1,1,1,1],[1,1,1,1,16,16],[1,1,16,1,1,16],[1,1,16,1,16,1],[2,2,0,15,0,0]]) (by decide +kernel) (by decide +kernel)
 unfold me kV xN
 rw [Be,← h,Hr]
 rfl
theorem eX:bL Tryd.prog 15 [] (.bool true):=by
 obtain ⟨e,h⟩:=EM
 have he:e=0:=Dd e h.2.2.el (h.2.2.one_l 0 (by omega))
 subst he
 have hd:=gR h (by rw [GK]; omega)
 rw [E5] at hd
 refine aK ae Tryd.func15 rfl (by kernel_rfl) (by rw [Tryd.ntmps15]; exact Nat.le_add_left 0 _) ?_; rw [Tryd.ntmps15]
 refine qm ?_
 refine ab fun K hK=>aa ae ?_
 simp only [ak,fl,gp,aj,simprocAttr]
 refine af trivial (hK _ ?_)<;>clear hK K
 refine qa (qm ?_)
 refine ab fun K hK=>aa ae ?_
 simp only [ak,fl,gp,aj,simprocAttr]
 refine an trivial (al (A0) rfl rfl rfl (by simp only [au,Nat.reduceLT]) (by repeat (first|exact trivial|constructor)) (aa ae ?_))
 simp only [ak,fl,gp,aj,simprocAttr]
 refine an trivial (al (hd) rfl rfl rfl (by simp only [au,Nat.reduceLT]) (by repeat (first|exact trivial|constructor)) (aa ae ?_))
 simp only [ak,fl,gp,aj,simprocAttr]
 refine af ?_ (hK _ ?_)<;>clear hK K
 ·first|exact trivial|omega|(simp only [ah] at *; omega)|(simp [ah] at *; omega)|simp_all
 refine qa (qm ?_)
 refine ab fun K hK=>aa ae ?_
 simp only [ak,fl,gp,aj,simprocAttr]
 refine an trivial (al (bL.sub (args':=[.list (il [1,1,1,1,2]),.nn (il [1,1,1,1,2])]) (EL [1,1,1,1,2] [1,1,1,1,2] (by decide)) (And.intro (.same _) (And.intro (.nn _) trivial))) rfl rfl rfl (by simp only [au,Nat.reduceLT]) (by repeat (first|exact trivial|constructor)) (aa ae ?_))
 simp only [ak,fl,gp,aj,simprocAttr]
 refine af ?_ (hK _ ?_)<;>clear hK K
 ·first|exact trivial|omega|(simp only [ah] at *; omega)|(simp [ah] at *; omega)|simp_all
 refine qa (qk ?_)
 simp only [Tryd.results15,bY,ak,fl,gp,aj,simprocAttr]
 all_goals ((first|exact rfl|exact ⟨rfl,rfl⟩|exact ⟨rfl,rfl,rfl⟩|exact ⟨trivial,rfl⟩|exact ⟨Nat.le_refl _,rfl⟩|trivial|(simp; done)))
end Go.Proofs.YtjlmpmidchddjaaDoor
namespace Go.Proofs.YtjlmpmidchddjaaDoor
open Go.Pv
open Lean.Grind
attribute [local instance] Lean.Grind.Semiring.natCast Lean.Grind.Ring.intCast
section
variable {K:Type} [CommRing K] {p:Nat}
theorem Ji (R:Rp K p) {x y:Int} (hx:0≤x∧x < p) (hy:0≤y∧y < p) (h:(x:K)=(y:K)):x=y:=by
 have h1:(((x - y):Int):K)=0:=by rw [Ring.intCast_sub,h]; grind
 rw [R.ker] at h1
 obtain ⟨k,hk⟩:=Int.dvd_of_emod_eq_zero h1
 have:k=0:=by
  refine Int.le_antisymm (Int.le_of_not_gt fun h=>?_) (Int.le_of_not_gt fun h=>?_)
  ·have:(p:Int) * 1≤(p:Int) * k:=Int.mul_le_mul_of_nonneg_left (by omega) (by omega)
   omega
  have:(p:Int) * k≤(p:Int) * (-1):=Int.mul_le_mul_of_nonneg_left (by omega) (by omega)
  omega
 subst this
 omega
end
end Go.Proofs.YtjlmpmidchddjaaDoor
namespace Go.Proofs.YtjlmpmidchddjaaDoor
open Lean.Grind
attribute [local instance] Lean.Grind.Semiring.natCast Lean.Grind.Ring.intCast
section
variable {n e c:Nat} {f:Nat→Nat→Nat} {cI xx:Nat→Nat} {K:Type} [CommRing K]
theorem GC.Je (h:GC n f e c cI xx) {t:Nat→K} (ht:jT n f e cI t):jT n f e cI (fun a=>t (iv n f e a)):=by
 have G:=h.G
 refine ⟨fun a b ha hb hab=>ht.cl _ _ (G.az ha) (G.az hb) ((h.HR ha hb).1 hab),by show t (iv n f e e)=1; rw [G.fk]; exact ht.one,fun a b ha hb=>?_⟩
 rw [← ht.mul _ _ (G.az ha) (G.az hb)]
 refine ai fun y hy=>?_
 have hj:=G.az hy
 have e1:iv n f e (f (bT n f e y a) b)=f (iv n f e b) (bT n f e y (iv n f e a)):=by
  rw [G.cC (h.pL hy ha) hb]
  congr 1
  unfold bT
  rw [G.cC (G.cl _ _ hj ha) hy,G.cC hj ha,G.cQ hy,G.assoc _ _ _ hj (G.az ha) hy]
 show t (iv n f e (f (bT n f e y a) b))=t (f (bT n f e y (iv n f e a)) (iv n f e b))
 rw [e1,h.yx ht.cl (G.az hb) (h.pL hy (G.az ha))]
theorem GC.real (h:GC n f e c cI xx) (F:my K) (hn:(n:K) ≠ 0) {t:Nat→K} (ht:jT n f e cI t):(∀ a,a < n→t a=t (iv n f e a))∨bI n f e t (fun a=>t (iv n f e a)) e=0:=by
 by_cases hr:∀ a,a < n→t a=t (iv n f e a)
 ·exact .inl hr
 refine .inr ?_
 have:∃ a,a < n∧t a ≠ t (iv n f e a):=Classical.byContradiction fun hc=>hr fun a ha=>Classical.byContradiction fun hc2=>hc ⟨a,ha,hc2⟩
 obtain ⟨a,ha,hne⟩:=this
 exact h.xy F hn ht (h.Je ht) ha hne h.G.el
end
section
variable {n e:Nat} {m:List Int}
variable [NeZero (aJ m n e)]
end
end Go.Proofs.YtjlmpmidchddjaaDoor
namespace Go.Proofs.YtjlmpmidchddjaaDoor
open Go.Pv
open Lean.Grind
attribute [local instance] Lean.Grind.Semiring.natCast Lean.Grind.Ring.intCast
section
variable {K:Type} [CommRing K]
end
end Go.Proofs.YtjlmpmidchddjaaDoor
namespace Go.Proofs.YtjlmpmidchddjaaDoor
open Lean.Grind
attribute [local instance] Lean.Grind.Semiring.natCast Lean.Grind.Ring.intCast
section
variable {n e c:Nat} {f:Nat→Nat→Nat} {cI xx:Nat→Nat} {K:Type} [CommRing K] {p:Nat}
def gV (n:Nat) (a:Nat→K):Prop:=∀ x,n≤x→a x=0
def dl (K:Type) [CommRing K] (g x:Nat):K:=if x=g then 1 else 0
def cv (n:Nat) (f:Nat→Nat→Nat) (e:Nat) (a b:Nat→K) (x:Nat):K:=if x < n then sm (fun y=>a y * b (f (iv n f e y) x)) n else 0
theorem gV.ext {a b:Nat→K} (ha:gV n a) (hb:gV n b) (h:∀ x,x < n→a x=b x):a=b:=by
 funext x
 by_cases hx:x < n
 ·exact h x hx
 rw [ha x (by omega),hb x (by omega)]
theorem gV.zero:gV n (fun _=>(0:K)):=fun _ _=>rfl
theorem gV.add {a b:Nat→K} (ha:gV n a) (hb:gV n b):gV n fun x=>a x + b x:=fun x hx=>by simp only [ha x hx,hb x hx]; grind
theorem gV.smul {a:Nat→K} (k:K) (ha:gV n a):gV n fun x=>k * a x:=fun x hx=>by simp only [ha x hx]; grind
theorem u7 {g:Nat} (hg:g < n):gV n (dl K g):=fun x hx=>if_neg (by omega)
theorem cZ (a b:Nat→K):gV n (cv n f e a b):=fun x hx=>if_neg (by omega)
theorem dC (a b:Nat→K) {x:Nat} (hx:x < n):cv n f e a b x=sm (fun y=>a y * b (f (iv n f e y) x)) n:=if_pos hx
theorem cP (h:GC n f e c cI xx) {a a' b b' : Nat→K} (ha:∀ x,x < n→a x=a' x) (hb:∀ x,x < n→b x=b' x):cv n f e a b=cv n f e a' b':=
 (cZ a b).ext (cZ a' b') fun x hx=>by
  rw [dC _ _ hx,dC _ _ hx]
  exact ai fun y hy=>by rw [ha y hy,hb _ (h.G.cl _ _ (h.G.az hy) hx)]
theorem fC (a a' b:Nat→K):cv n f e (fun x=>a x + a' x) b=fun x=>cv n f e a b x + cv n f e a' b x:=by
 funext x
 unfold cv
 by_cases hx:x < n
 ·simp only [if_pos hx]
  rw [← jX]; exact ai fun y _=>by grind
 simp only [if_neg hx]; grind
theorem ej (a b b' : Nat→K):cv n f e a (fun x=>b x + b' x)=fun x=>cv n f e a b x + cv n f e a b' x:=by
 funext x
 unfold cv
 by_cases hx:x < n
 ·simp only [if_pos hx]
  rw [← jX]; exact ai fun y _=>by grind
 simp only [if_neg hx]; grind
theorem bD (k:K) (a b:Nat→K):cv n f e (fun x=>k * a x) b=fun x=>k * cv n f e a b x:=by
 funext x
 unfold cv
 by_cases hx:x < n
 ·simp only [if_pos hx]
  rw [← aL]; exact ai fun y _=>by grind
 simp only [if_neg hx]; grind
theorem aZ (k:K) (a b:Nat→K):cv n f e a (fun x=>k * b x)=fun x=>k * cv n f e a b x:=by
 funext x
 unfold cv
 by_cases hx:x < n
 ·simp only [if_pos hx]
  rw [← aL]; exact ai fun y _=>by grind
 simp only [if_neg hx]; grind
theorem qL (b:Nat→K):cv n f e (fun _=>0) b=fun _=>0:=by
 have:=bD (n:=n) (f:=f) (e:=e) (0:K) (fun _=>0) b
 have e1:(fun _:Nat=>(0:K) * 0)=fun _=>0:=by funext x; grind
 rw [e1] at this
 rw [this]; funext x; grind
theorem oq (b:Nat→K):cv n f e b (fun _=>0)=fun _=>0:=by
 have:=aZ (n:=n) (f:=f) (e:=e) (0:K) b (fun _=>0)
 have e1:(fun _:Nat=>(0:K) * 0)=fun _=>0:=by funext x; grind
 rw [e1] at this
 rw [this]; funext x; grind
theorem zV (F:Nat→Nat→K) (b:Nat→K) (m:Nat):cv n f e (fun x=>sm (fun g=>F g x) m) b=fun x=>sm (fun g=>cv n f e (F g) b x) m:=by
 induction m with
 | zero=>exact qL b
 | succ m ih =>
  show cv n f e (fun x=>(fun x=>sm (fun g=>F g x) m) x + F m x) b=_
  rw [fC,ih]; rfl
theorem qZ (F:Nat→Nat→K) (b:Nat→K) (m:Nat):cv n f e b (fun x=>sm (fun g=>F g x) m)=fun x=>sm (fun g=>cv n f e b (F g) x) m:=by
 induction m with
 | zero=>exact oq b
 | succ m ih =>
  show cv n f e b (fun x=>(fun x=>sm (fun g=>F g x) m) x + F m x)=_
  rw [ej,ih]; rfl
theorem GC.gN (h:GC n f e c cI xx) (a b d:Nat→K):cv n f e (cv n f e a b) d=cv n f e a (cv n f e b d):=by
 have G:=h.G
 refine (cZ _ _).ext (cZ _ _) fun x hx=>?_
 rw [dC _ _ hx,dC _ _ hx]
 have e1:∀ y,y < n→cv n f e a b y * d (f (iv n f e y) x)=sm (fun z=>a z * b (f (iv n f e z) y) * d (f (iv n f e y) x)) n:=fun y hy=>by
  rw [dC _ _ hy,← bH]
 rw [ai e1,aW]
 refine ai fun z hz=>?_
 have hzx:=G.cl _ _ (G.az hz) hx
 rw [dC _ _ hzx,← aL,← h.fg hz fun y=>a z * b (f (iv n f e z) y) * d (f (iv n f e y) x)]
 refine ai fun w hw=>?_
 rw [h.yF hz hw,G.cC hz hw,G.assoc _ _ _ (G.az hw) (G.az hz) hx]
 grind
theorem GC.uB (h:GC n f e c cI xx) (a:Nat→K) {g x:Nat} (hg:g < n) (hx:x < n):cv n f e (dl K g) a x=a (f (iv n f e g) x):=by
 rw [dC _ _ hx,bc hg fun y _ hne=>by unfold dl; rw [if_neg hne]; grind]
 unfold dl; rw [if_pos rfl]; grind
theorem GC.BZ (h:GC n f e c cI xx) (a:Nat→K) {g x:Nat} (hg:g < n) (hx:x < n):cv n f e a (dl K g) x=a (f x (iv n f e g)):=by
 have G:=h.G
 have hm:=G.cl _ _ hx (G.az hg)
 rw [dC _ _ hx,bc hm fun y hy hne=>?_]
 ·have:f (iv n f e (f x (iv n f e g))) x=g:=by
   rw [G.cC hx (G.az hg),G.cQ hg,G.assoc _ _ _ hg (G.az hx) hx,G.eb hx,G.one_r _ hg]
  unfold dl; rw [this,if_pos rfl]; grind
 unfold dl
 rw [if_neg fun he=>hne ?_]
 ·grind
 have h1:=h.nq hy hx
 rw [he] at h1
 rw [← h1,h.Fp hg hy]
theorem GC.H5 (h:GC n f e c cI xx) {a:Nat→K} (ha:gV n a):cv n f e (dl K e) a=a:=
 (cZ _ _).ext ha fun x hx=>by rw [h.uB a h.G.el hx,h.G.fk,h.G.one_l x hx]
theorem GC.Hc (h:GC n f e c cI xx) {a:Nat→K} (ha:gV n a):cv n f e a (dl K e)=a:=
 (cZ _ _).ext ha fun x hx=>by rw [h.BZ a h.G.el hx,h.G.fk,h.G.one_r x hx]
theorem GC.HU (h:GC n f e c cI xx) (a b:Nat→K):cv n f e a b e=cv n f e b a e:=by
 have G:=h.G
 rw [dC _ _ G.el,dC _ _ G.el,← h.yX fun y=>a y * b (f (iv n f e y) e)]
 exact ai fun y hy=>by rw [G.cQ hy,G.one_r y hy,G.one_r _ (G.az hy)]; grind
theorem GC.Iq (h:GC n f e c cI xx) {T:Nat→K} (hT:o5 n cI T) (a:Nat→K):cv n f e T a=cv n f e a T:=by
 have G:=h.G
 refine (cZ _ _).ext (cZ _ _) fun x hx=>?_
 rw [dC _ _ hx,dC _ _ hx,← h.fg hx fun y=>T y * a (f (iv n f e y) x),← h.yX fun y=>T (f x y) * a (f (iv n f e (f x y)) x)]
 refine ai fun w hw=>?_
 have hi:=G.az hw
 have e1:f (iv n f e (f x (iv n f e w))) x=w:=by
  rw [G.cC hx hi,G.cQ hw,G.assoc _ _ _ hw (G.az hx) hx,G.eb hx,G.one_r _ hw]
 rw [e1,h.yx hT hx hi]; grind
def pc (n:Nat) (f:Nat→Nat→Nat) (e:Nat) (u:Nat→K):Nat→Nat→K
 | 0=>dl K e
 | k + 1=>cv n f e u (pc n f e u k)
theorem GC.zw (h:GC n f e c cI xx) (u:Nat→K):∀ k,gV n (pc n f e u k)
 | 0=>u7 h.G.el
 | k + 1=>cZ _ _
theorem GC.kh (h:GC n f e c cI xx) (u:Nat→K) (j:Nat):∀ i,pc n f e u (i + j)=cv n f e (pc n f e u i) (pc n f e u j)
 | 0=>by rw [Nat.zero_add]; exact (h.H5 (h.zw u j)).symm
 | i + 1=>by
  rw [show i + 1 + j=(i + j) + 1 by omega]
  show cv n f e u (pc n f e u (i + j))=cv n f e (cv n f e u (pc n f e u i)) _
  rw [h.kh u j i,h.gN]
def uE (u:Nat→K):List Nat→K
 | []=>1
 | y :: w=>u y * uE u w
theorem Ct (u:Nat→K) (w w' : List Nat):uE u (w++w')=uE u w * uE u w':=by
 induction w with
 | nil=>show _=1 * _; rw [List.nil_append]; grind
 | cons y w ih=>show u y * uE u (w++w')=u y * uE u w * _; rw [ih]; grind
theorem wA (u:Nat→K) (x:Nat):∀ k,uE u (List.replicate k x)=u x ^ k
 | 0=>by rw [Semiring.pow_zero]; rfl
 | k + 1=>by
  rw [List.replicate_succ,Semiring.pow_succ]
  show u x * uE u (List.replicate k x)=_
  rw [wA u x k]; grind
theorem GC.tH (h:GC n f e c cI xx) (u:Nat→K):∀ k x,x < n→pc n f e u k x=sW (List.range n) k fun w=>uE u w * if kF f w e=x then 1 else 0
 | 0,x,hx=>by
  show dl K e x=uE u [] * if e=x then 1 else 0
  unfold dl uE
  by_cases hxe:x=e
  ·rw [if_pos hxe,if_pos hxe.symm]; grind
  rw [if_neg hxe,if_neg (fun h=>hxe h.symm)]; grind
 | k + 1,x,hx=>by
  have G:=h.G
  show cv n f e u (pc n f e u k) x=sl (List.range n) _
  rw [dC _ _ hx,cr]
  refine ai fun y hy=>?_
  rw [h.tH u k _ (G.cl _ _ (G.az hy) hx),← oP]
  refine eu fun w _ hw=>?_
  have hwn:=h.Ge (fun z hz=>List.mem_range.1 (hw z hz)) G.el
  show _=u y * uE u w * if f y (kF f w e)=x then 1 else 0
  by_cases hq:kF f w e=f (iv n f e y) x
  ·rw [if_pos hq,if_pos (by rw [hq,h.nq hy hx])]; grind
  rw [if_neg hq,if_neg fun hh=>hq (by rw [← hh,h.yF hy hwn])]; grind
theorem GC.H8 (h:GC n f e c cI xx) (R:Rp K p) (hcz:∀ a:Nat,0 < a→a < p→(a:K) ≠ 0) (hpw:∀ a,a < n→pw f e a p=a) (hfr:∀ a:K,a ^ p=a) (u:Nat→K):pc n f e u p e=u e:=by
 have G:=h.G
 let F:List Nat→K:=fun w=>if ∀ y∈w,y < n then uE u w * (if kF f w e=e then 1 else 0) else 0
 have hF:∀ w,F (iY w)=F w:=fun w=>by
  cases w with
  | nil=>rfl
  | cons y w =>
   simp only [F,iY]
   by_cases hw:∀ z∈y :: w,z < n
   ·have hw2:∀ z∈w++[y],z < n:=fun z hz=>hw z (by
     rcases List.mem_append.1 hz with hz | hz
     ·simp [hz]
     simp [List.mem_singleton.1 hz])
    rw [if_pos hw,if_pos hw2,nM,Ct]
    have hy:=hw y (by simp)
    have hw3:∀ z∈w,z < n:=fun z hz=>hw z (by simp [hz])
    have e1:kF f [y] e=y:=G.one_r y hy
    have e2:uE u [y]=u y:=by show u y * 1=_; grind
    have e3:uE u (y :: w)=u y * uE u w:=rfl
    have e4:kF f (y :: w) e=f y (kF f w e):=rfl
    rw [e1,e2,e3,e4,h.Gh hw3 hy]
    have hl:=h.Ge hw3 G.el
    by_cases hq:f (kF f w e) y=e
    ·have:f y (kF f w e)=e:=by
      have h1:=G.ee hy hl (.inr hq)
      rw [h1,G.dg hy]
     rw [if_pos hq,if_pos this]; grind
    have:¬ f y (kF f w e)=e:=fun hh=>hq (by
     have h1:=G.ee hy hl (.inl hh)
     rw [h1,G.eb hy])
    rw [if_neg hq,if_neg this]; grind
   have hw2:¬ ∀ z∈w++[y],z < n:=fun hh=>hw fun z hz=>hh z (by
    rcases List.mem_cons.1 hz with hz | hz
    ·simp [hz]
    simp [hz])
   rw [if_neg hw,if_neg hw2]
 have e1:pc n f e u p e=sW (List.range n) p F:=by
  rw [h.tH u p e G.el]
  refine eu fun w _ hw=>?_
  simp only [F]
  rw [if_pos fun y hy=>List.mem_range.1 (hw y hy)]
 rw [e1,q9 R.fld (by have:=R.two; omega) R.ch hcz (List.nodup_range) hF,cr,bc (i:=e) G.el fun g hg hne=>?_]
 ·simp only [F]
  rw [if_pos fun y hy=>by rw [List.eq_of_mem_replicate hy]; exact G.el,h.GU G.el,hpw e G.el,if_pos rfl,wA,hfr]; grind
 simp only [F]
 rw [if_pos fun y hy=>by rw [List.eq_of_mem_replicate hy]; exact hg,h.GU hg,hpw g hg,if_neg hne]; grind
end
end Go.Proofs.YtjlmpmidchddjaaDoor
namespace Go.Proofs.YtjlmpmidchddjaaDoor
open Lean.Grind
attribute [local instance] Lean.Grind.Semiring.natCast Lean.Grind.Ring.intCast
section
variable {n:Nat} {K:Type} [CommRing K] {p:Nat}
theorem B8 {w:Nat→K} (hs:gV n w) (k:Nat):w k=sm (fun i=>w i * if k=i then 1 else 0) n:=by
 by_cases hk:k < n
 ·rw [bc hk fun i _ hne=>by rw [if_neg (fun e=>hne e.symm)]; grind,if_pos rfl]; grind
 rw [hs k (by omega)]
 exact (aV fun i hi=>by rw [if_neg (by omega)]; grind).symm
theorem AW (F:my K) {P:(Nat→K)→Prop} (hP:iu P) (hn:∀ v,P v→gV n v):∀ d q (y:Nat→Nat→K),iQ y q→(∀ j,j < q→P (y j))→n - q=d→q≤n →
  ∃ q y,q≤n∧iQ y q∧(∀ j,j < q→P (y j))∧∀ v,P v→∃ C:Nat→K,∀ k,v k=sm (fun i=>C i * y i k) q:=by
 intro d
 induction d with
 | zero =>
  intro q y hy hp hd hqn
  refine Classical.byContradiction fun hno=>?_
  have h1:¬ ∀ v,P v→∃ C:Nat→K,∀ k,v k=sm (fun i=>C i * y i k) q:=fun hh=>hno ⟨q,y,hqn,hy,hp,hh⟩
  obtain ⟨v,hv⟩:=Classical.not_forall.1 h1
  obtain ⟨hv1,hv2⟩:=Classical.not_imp.1 hv
  have hy2:iQ (fun j=>if j=q then v else y j) (q + 1):=fun x hx=>by
   have e0:∀ k,sm (fun j=>x j * y j k) q + x q * v k=0:=fun k=>by
    have:=hx k
    rw [sm] at this
    simp only [if_pos] at this
    rw [← this]
    congr 1
    exact ai fun j hj=>by rw [if_neg (by omega)]
   have h0:x q=0:=Classical.byContradiction fun hc=>by
    obtain ⟨b,hb⟩:=F.1 _ hc
    refine hv2 ⟨fun j=>-b * x j,fun k=>?_⟩
    have e1:sm (fun i=>-b * x i * y i k) q = -b * sm (fun j=>x j * y j k) q:=by rw [← aL]; exact ai fun i _=>by grind
    rw [e1]
    have:=e0 k
    grind
   intro j hj
   by_cases hjq:j=q
   ·rw [hjq]; exact h0
   exact hy x (fun k=>by have:=e0 k; rw [h0] at this; grind) j (by omega)
  have:=q8 F hy2 (z:=fun i j=>if j=i then 1 else 0) (r:=n) fun j hj=>⟨(fun j=>if j=q then v else y j) j,B8 (by
    by_cases hjq:j=q
    ·simp only [if_pos hjq]; exact hn _ hv1
    simp only [if_neg hjq]; exact hn _ (hp j (by omega)))⟩
  omega
 | succ d ih =>
  intro q y hy hp hd hqn
  refine Classical.byContradiction fun hno=>?_
  have h1:¬ ∀ v,P v→∃ C:Nat→K,∀ k,v k=sm (fun i=>C i * y i k) q:=fun hh=>hno ⟨q,y,hqn,hy,hp,hh⟩
  obtain ⟨v,hv⟩:=Classical.not_forall.1 h1
  obtain ⟨hv1,hv2⟩:=Classical.not_imp.1 hv
  have hy2:iQ (fun j=>if j=q then v else y j) (q + 1):=fun x hx=>by
   have e0:∀ k,sm (fun j=>x j * y j k) q + x q * v k=0:=fun k=>by
    have:=hx k
    rw [sm] at this
    simp only [if_pos] at this
    rw [← this]
    congr 1
    exact ai fun j hj=>by rw [if_neg (by omega)]
   have h0:x q=0:=Classical.byContradiction fun hc=>by
    obtain ⟨b,hb⟩:=F.1 _ hc
    refine hv2 ⟨fun j=>-b * x j,fun k=>?_⟩
    have e1:sm (fun i=>-b * x i * y i k) q = -b * sm (fun j=>x j * y j k) q:=by rw [← aL]; exact ai fun i _=>by grind
    rw [e1]
    have:=e0 k
    grind
   intro j hj
   by_cases hjq:j=q
   ·rw [hjq]; exact h0
   exact hy x (fun k=>by have:=e0 k; rw [h0] at this; grind) j (by omega)
  exact hno (ih (q + 1) _ hy2 (fun j hj=>by
   by_cases hjq:j=q
   ·simp only [if_pos hjq]; exact hv1
   simp only [if_neg hjq]; exact hp j (by omega)) (by omega) (by omega))
theorem IE (F:my K) {P:(Nat→K)→Prop} (hP:iu P) (hn:∀ v,P v→gV n v) :
  ∃ q y,q≤n∧iQ y q∧(∀ j,j < q→P (y j))∧∀ v,P v→∃ C:Nat→K,∀ k,v k=sm (fun i=>C i * y i k) q:=
 AW F hP hn n 0 (fun _ _=>0) (fun x hx j hj=>absurd hj (Nat.not_lt_zero _)) (fun j hj=>absurd hj (Nat.not_lt_zero _)) (by omega) (Nat.zero_le _)
theorem iQ.IT {y:Nat→Nat→K} {q:Nat} (h:iQ y q) {C C' : Nat→K} (he:∀ k,sm (fun i=>C i * y i k) q=sm (fun i=>C' i * y i k) q):∀ i,i < q→C i=C' i:=fun i hi=>by
 have:=h (fun i=>C i - C' i) (fun k=>by
  have e1:sm (fun j=>(C j - C' j) * y j k) q=sm (fun i=>C i * y i k) q - sm (fun i=>C' i * y i k) q:=by rw [← kD]; exact ai fun j _=>by grind
  rw [e1,he]; grind) i hi
 grind
theorem iu.IF {P:(Nat→K)→Prop} (hP:iu P) (C:Nat→K) (y:Nat→Nat→K):∀ q,(∀ j,j < q→P (y j))→P fun k=>sm (fun i=>C i * y i k) q
 | 0,_=>hP.zero
 | q + 1,h=>by
  show P fun k=>(fun k=>sm (fun i=>C i * y i k) q) k + (fun k=>C q * y q k) k
  exact hP.add _ _ (hP.IF C y q fun j hj=>h j (by omega)) (hP.smul _ _ (h q (by omega)))
def yy (p m i:Nat):Nat:=m / p ^ i % p
theorem AQ (hp:0 < p) (m i:Nat):yy p m i < p:=Nat.mod_lt _ hp
theorem oE (m i:Nat):yy p m (i + 1)=yy p (m / p) i:=by
 unfold yy
 rw [Nat.div_div_eq_div_mul,Nat.pow_succ,Nat.mul_comm]
theorem wI (hp:0 < p):∀ q m m',m < p ^ q→m' < p ^ q→(∀ i,i < q→yy p m i=yy p m' i)→m=m'
 | 0,m,m',h1,h2,_=>by rw [Nat.pow_zero] at h1 h2; omega
 | q + 1,m,m',h1,h2,h=>by
  have h3:=h 0 (by omega)
  unfold yy at h3
  rw [Nat.pow_zero,Nat.div_one,Nat.div_one] at h3
  have h4:=wI hp q (m / p) (m' / p) (by rw [Nat.pow_succ] at h1; exact (Nat.div_lt_iff_lt_mul hp).2 h1) (by rw [Nat.pow_succ] at h2; exact (Nat.div_lt_iff_lt_mul hp).2 h2) fun i hi=>by
   rw [← oE,← oE]; exact h (i + 1) (by omega)
  rw [← Nat.div_add_mod m p,← Nat.div_add_mod m' p,h3,h4]
theorem we (hp:0 < p):∀ q (C:Nat→Nat),(∀ i,C i < p)→∃ m,m < p ^ q∧∀ i,i < q→yy p m i=C i
 | 0,C,_=>⟨0,by rw [Nat.pow_zero]; omega,fun i hi=>absurd hi (Nat.not_lt_zero _)⟩
 | q + 1,C,h=>by
  obtain ⟨m,h1,h2⟩:=we hp q (fun i=>C (i + 1)) fun i=>h _
  refine ⟨C 0 + p * m,?_,fun i hi=>?_⟩
  ·have h3:p * (m + 1)≤p * p ^ q:=Nat.mul_le_mul_left p h1
   have h4:=h 0
   rw [Nat.mul_add] at h3
   rw [Nat.pow_succ,Nat.mul_comm (p ^ q)]
   omega
  cases i with
  | zero =>
   unfold yy
   rw [Nat.pow_zero,Nat.div_one,Nat.add_mul_mod_self_left,Nat.mod_eq_of_lt (h 0)]
  | succ i =>
   rw [oE,Nat.add_mul_div_left _ _ hp,Nat.div_eq_of_lt (h 0),Nat.zero_add]
   exact h2 i (by omega)
theorem enum (R:Rp K p) (hsur:∀ a:K,∃ x:Nat,x < p∧(x:K)=a) {P:(Nat→K)→Prop} (hP:iu P) (hn:∀ v,P v→gV n v) :
  ∃ (q:Nat) (E:Nat→Nat→K),q≤n∧(∀ m,P (E m))∧(∀ m m',m < p ^ q→m' < p ^ q→E m=E m'→m=m')∧(∀ v,P v→∃ m,m < p ^ q∧E m=v)∧E 0=fun _=>0:=by
 have hp:0 < p:=by have:=R.two; omega
 obtain ⟨q,y,h1,h2,h3,h4⟩:=IE R.fld hP hn
 refine ⟨q,fun m k=>sm (fun i=>((yy p m i:Nat):K) * y i k) q,h1,fun m=>hP.IF _ y q h3,fun m m' hm hm' he=>?_,fun v hv=>?_,?_⟩
 ·refine wI hp q m m' hm hm' fun i hi=>?_
  have h5:=h2.IT (fun k=>congrFun he k) i hi
  refine Classical.byContradiction fun hne=>R.ne (AQ hp m i) (AQ hp m' i) hne ?_
  rw [h5]; grind
 ·obtain ⟨C,hC⟩:=h4 v hv
  obtain ⟨c,hc⟩:=Classical.axiomOfChoice fun i=>hsur (C i)
  obtain ⟨m,m1,m2⟩:=we hp q c fun i=>(hc i).1
  refine ⟨m,m1,funext fun k=>?_⟩
  rw [hC k]
  exact ai fun i hi=>by rw [m2 i hi,(hc i).2]
 funext k
 refine aV fun i _=>?_
 have:yy p 0 i=0:=by unfold yy; rw [Nat.zero_div,Nat.zero_mod]
 rw [this]; grind
theorem Jf (F:my K) {A:(Nat→K)→Nat→K} (hA:AP A) (hid:∀ u,gV n u→A (A u)=A u) (hs:∀ u,gV n (A u)) :
  ∃ v,v≤n∧sm (fun x=>A (dl K x) x) n=(v:K)∧(v=0→∀ u,gV n u→A u=fun _=>0):=by
 have hP:iu fun u=>gV n u∧A u=u:=⟨⟨gV.zero,hA.zero⟩,fun a b ha hb=>⟨ha.1.add hb.1,by rw [hA.1,ha.2,hb.2]⟩,fun k a ha=>⟨ha.1.smul k,by rw [hA.2,ha.2]⟩⟩
 obtain ⟨q,y,h1,h2,h3,h4⟩:=IE F hP fun v hv=>hv.1
 have h5:∀ u,∃ C:Nat→K,gV n u→∀ k,A u k=sm (fun i=>C i * y i k) q:=fun u=>by
  by_cases hu:gV n u
  ·obtain ⟨C,hC⟩:=h4 (A u) ⟨hs u,hid u hu⟩
   exact ⟨C,fun _=>hC⟩
  exact ⟨fun _=>0,fun h=>absurd h hu⟩
 obtain ⟨φ,hφ⟩:=Classical.axiomOfChoice h5
 refine ⟨q,h1,?_,fun h0 u hu=>?_⟩
 ·have e1:sm (fun x=>A (dl K x) x) n=sm (fun i=>sm (fun x=>φ (dl K x) i * y i x) n) q:=by
   rw [← aW]
   exact ai fun x hx=>hφ _ (u7 hx) x
  rw [e1]
  have e2:∀ i,i < q→sm (fun x=>φ (dl K x) i * y i x) n=1:=fun i hi=>by
   have e3:y i=fun k=>sm (fun x=>y i x * dl K x k) n:=by
    funext k
    by_cases hk:k < n
    ·rw [bc hk fun x _ hne=>by unfold dl; rw [if_neg (fun e=>hne e.symm)]; grind]
     unfold dl; rw [if_pos rfl]; grind
    rw [(h3 i hi).1 k (by omega)]
    exact (aV fun x hx=>by unfold dl; rw [if_neg (by omega)]; grind).symm
   have e4:∀ k,sm (fun j=>(if j=i then (1:K) else 0) * y j k) q=sm (fun j=>sm (fun x=>φ (dl K x) j * y i x) n * y j k) q:=fun k=>by
    rw [bc hi fun j _ hne=>by rw [if_neg hne]; grind,if_pos rfl]
    have e5:y i k=A (y i) k:=by rw [(h3 i hi).2]
    have e6:A (y i)=fun k=>sm (fun x=>y i x * A (dl K x) k) n:=by
     rw [← hA.sm,← e3]
    have e7:sm (fun x=>y i x * A (dl K x) k) n=sm (fun x=>sm (fun j=>φ (dl K x) j * y i x * y j k) q) n:=ai fun x hx=>by
     rw [hφ _ (u7 hx) k,← aL]; exact ai fun j _=>by grind
    have e8:sm (fun j=>sm (fun x=>φ (dl K x) j * y i x) n * y j k) q=sm (fun j=>sm (fun x=>φ (dl K x) j * y i x * y j k) n) q:=ai fun j _=>by rw [← bH]
    rw [e5,e6,e8,← aW,← e7]; grind
   have e9:=h2.IT e4 i hi
   rw [if_pos rfl] at e9
   exact e9.symm
  rw [ai e2,dN]; grind
 funext k
 rw [hφ u hu k,h0]; rfl
end
end Go.Proofs.YtjlmpmidchddjaaDoor
namespace Go.Proofs.YtjlmpmidchddjaaDoor
def tN (p d:Nat):Nat→Nat
 | 0=>p ^ d - 1
 | a + 1=>if 1≤a∧(p ^ d - 1) % (p ^ a - 1)=0 then Nat.gcd (tN p d a) ((p ^ d - 1) / (p ^ a - 1)) else tN p d a
def Gw:Bool:=HB.all fun p=>(List.range 61).all fun d=>decide (d < 2) || !decide ((p - 1) % tN p d d=0)
theorem FF:Gw=true:=by decide +kernel
def Gb (p d:Nat):Prop:=∃ ψ,ψ ∣ p ^ d - 1∧(∀ a,1≤a→a < d→(p ^ a - 1) ∣ (p ^ d - 1)→ψ ∣ (p ^ d - 1) / (p ^ a - 1))∧¬ ψ ∣ p - 1
theorem uX (p d:Nat):∀ m,tN p d m ∣ p ^ d - 1∧∀ a,1≤a→a < m→(p ^ a - 1) ∣ (p ^ d - 1)→tN p d m ∣ (p ^ d - 1) / (p ^ a - 1)
 | 0=>⟨Nat.dvd_refl _,fun a _ h=>absurd h (Nat.not_lt_zero _)⟩
 | m + 1=>by
  obtain ⟨h1,h2⟩:=uX p d m
  unfold tN
  by_cases hc:1≤m∧(p ^ d - 1) % (p ^ m - 1)=0
  ·rw [if_pos hc]
   refine ⟨Nat.dvd_trans (Nat.gcd_dvd_left _ _) h1,fun a ha hm hd=>?_⟩
   by_cases e:a=m
   ·subst e; exact Nat.gcd_dvd_right _ _
   exact Nat.dvd_trans (Nat.gcd_dvd_left _ _) (h2 a ha (by omega) hd)
  rw [if_neg hc]
  refine ⟨h1,fun a ha hm hd=>?_⟩
  by_cases e:a=m
  ·subst e; exact absurd ⟨ha,Nat.mod_eq_zero_of_dvd hd⟩ hc
  exact h2 a ha (by omega) hd
theorem Fv {p d:Nat} (hp:p∈HB) (h2:2≤d) (h3:d≤60):Gb p d:=by
 have h1:=FF
 unfold Gw at h1
 rw [List.all_eq_true] at h1
 have h4:=List.all_eq_true.1 (h1 p hp) d (List.mem_range.2 (by omega))
 rw [Bool.or_eq_true] at h4
 have h5:=(h4.resolve_left fun h=>by have:=of_decide_eq_true h; omega)
 have h6:¬ (p - 1) % tN p d d=0:=by simpa using h5
 obtain ⟨h7,h8⟩:=uX p d d
 exact ⟨_,h7,h8,fun h=>h6 (Nat.mod_eq_zero_of_dvd h)⟩
end Go.Proofs.YtjlmpmidchddjaaDoor
namespace Go.Proofs.YtjlmpmidchddjaaDoor
open Lean.Grind
attribute [local instance] Lean.Grind.Semiring.natCast Lean.Grind.Ring.intCast
theorem sP {n k:Nat} {P Q:Nat→Bool} (g:Nat→Nat) (h1:∀ x,x < n→P x=true→g x < k∧Q (g x)=true) (hi:∀ x y,x < n→y < n→P x=true→P y=true→g x=g y→x=y) (h2:∀ y,y < k→Q y=true→∃ x,x < n∧P x=true∧g x=y):(mem n P).length=(mem k Q).length:=by
 rw [← List.length_map (f:=g) («as»:=mem n P)]
 refine fb (fP (List.nodup_range.filter _) fun x hx y hy h=>?_) (List.nodup_range.filter _) fun y=>?_
 ·obtain ⟨a1,a2⟩:=aQ.1 hx
  obtain ⟨b1,b2⟩:=aQ.1 hy
  exact hi x y a1 b1 a2 b2 h
 rw [List.mem_map,aQ]
 constructor
 ·rintro ⟨x,hx,rfl⟩
  obtain ⟨a1,a2⟩:=aQ.1 hx
  exact h1 x a1 a2
 rintro ⟨a1,a2⟩
 obtain ⟨x,b1,b2,b3⟩:=h2 y a1 a2
 exact ⟨x,aQ.2 ⟨b1,b2⟩,b3⟩
theorem zb (n:Nat):(mem n fun _=>true).length=n:=by unfold mem; rw [List.filter_eq_self.2 fun _ _=>rfl,List.length_range]
theorem Ce {ψ:Nat} (g:Nat→Nat):∀ l:List Nat,(∀ x∈l,g x=1∨ψ ∣ g x)→ψ ∣ (l.map g).sum→ψ ∣ (l.filter fun x=>decide (g x=1)).length:=fun l h hs=>by
 have:∀ l:List Nat,(∀ x∈l,g x=1∨ψ ∣ g x)→∃ t,(l.map g).sum=(l.filter fun x=>decide (g x=1)).length + ψ * t:=by
  intro l
  induction l with
  | nil=>intro _; exact ⟨0,by simp⟩
  | cons x l ih =>
   intro h
   obtain ⟨t,ht⟩:=ih fun y hy=>h y (by simp [hy])
   by_cases h1:g x=1
   ·exact ⟨t,by rw [List.map_cons,List.sum_cons,ht,List.filter_cons,if_pos (by simp [h1]),List.length_cons,h1]; omega⟩
   obtain ⟨u,hu⟩:=(h x (by simp)).resolve_left h1
   exact ⟨t + u,by rw [List.map_cons,List.sum_cons,ht,List.filter_cons,if_neg (by simp [h1]),Nat.mul_add,← hu]; omega⟩
 obtain ⟨t,ht⟩:=this l h
 rw [ht] at hs
 exact (Nat.dvd_add_iff_left (Nat.dvd_mul_right ψ t)).2 hs
section
variable {n e c:Nat} {f:Nat→Nat→Nat} {cI xx:Nat→Nat} {K:Type} [CommRing K] {p:Nat}
theorem GC.Is (h : GC n f e c cI xx) (R : Rp K p) (hsur : ∀ a : K, ∃ x : Nat, x < p ∧ (x : K) = a) (hw : ∀ d, 2 ≤ d → d ≤ n → Gb p d)
    {D : (Nat → K) → Prop} (hD : iu D) (hn : ∀ v, D v → gV n v) (cl : ∀ a b, D a → D b → D (cv n f e a b)) {k : Nat → K} (hk : D k) (k0 : k ≠ fun _ => 0) (k1 : ∀ a, D a → cv n f e k a = a) (k2 : ∀ a, D a → cv n f e a k = a)
    (inv : ∀ x, D x → x ≠ (fun _ => 0) → ∃ y, D y ∧ cv n f e x y = k) (cen0 : ∀ z, D z → (∀ w, D w → cv n f e z w = cv n f e w z) → ∃ a : K, z = fun x => a * k x) :
    ∀ x, D x → ∃ a : K, x = fun i => a * k i := by
  have hp : 2 ≤ p := R.two
  obtain ⟨δ, E, d1, d2, d3, d4, d5⟩ := enum R hsur hD hn
  have d4' : ∀ v, ∃ m, D v → m < p ^ δ ∧ E m = v := fun v => by
    by_cases hv : D v
    · obtain ⟨m, hm⟩ := d4 v hv; exact ⟨m, fun _ => hm⟩
    · exact ⟨0, fun h => absurd h hv⟩
  obtain ⟨cd, hcd⟩ := Classical.axiomOfChoice d4'
  have linv : ∀ x, D x → x ≠ (fun _ => 0) → ∃ y, D y ∧ y ≠ (fun _ => 0) ∧ cv n f e x y = k ∧ cv n f e y x = k := fun x hx hx0 => by
    obtain ⟨y, hy, h1⟩ := inv x hx hx0
    have hy0 : y ≠ fun _ => 0 := fun h0 => k0 (by rw [← h1, h0, oq])
    obtain ⟨z, hz, h2⟩ := inv y hy hy0
    have h3 : z = x := by
      have := h.gN x y z
      rw [h1, h2, k1 z hz, k2 x hx] at this
      exact this
    exact ⟨y, hy, hy0, h1, h3 ▸ h2⟩
  have nz : ∀ a b, D a → D b → a ≠ (fun _ => 0) → b ≠ (fun _ => 0) → cv n f e a b ≠ fun _ => 0 := fun a b ha hb ha0 hb0 h0 => by
    obtain ⟨y, hy, _, _, h2⟩ := linv a ha ha0
    have := h.gN y a b
    rw [h0, h2, k1 b hb, oq] at this
    exact hb0 this
  obtain ⟨M, hM⟩ : ∃ M, M = p ^ δ - 1 := ⟨_, rfl⟩
  have hpd : 0 < p ^ δ := Nat.pow_pos (by omega)
  have code : ∀ v, D v → v ≠ (fun _ => 0) → cd v - 1 < M ∧ E (cd v - 1 + 1) = v := fun v hv hv0 => by
    obtain ⟨h1, h2⟩ := hcd v hv
    have h3 : cd v ≠ 0 := fun h0 => hv0 (by rw [← h2, h0, d5])
    rw [show cd v - 1 + 1 = cd v by omega]
    exact ⟨by omega, h2⟩
  have elt : ∀ i, i < M → D (E (i + 1)) ∧ E (i + 1) ≠ fun _ => 0 := fun i hi => ⟨d2 _, fun h0 => by
    have := d3 (i + 1) 0 (by omega) hpd (by rw [h0, d5])
    omega⟩
  have ext : ∀ i j, i < M → j < M → E (i + 1) = E (j + 1) → i = j := fun i j hi hj he => by
    have := d3 _ _ (by omega) (by omega) he
    omega
  have gC : ∀ i, i < M → cd (E (i + 1)) - 1 = i := fun i hi => by
    obtain ⟨h1, h2⟩ := elt i hi
    obtain ⟨h3, h4⟩ := code _ h1 h2
    exact ext _ _ h3 hi h4
  let fm : Nat → Nat → Nat := fun i j => cd (cv n f e (E (i + 1)) (E (j + 1))) - 1
  have fE : ∀ i j, i < M → j < M → fm i j < M ∧ E (fm i j + 1) = cv n f e (E (i + 1)) (E (j + 1)) := fun i j hi hj => by
    obtain ⟨a1, a2⟩ := elt i hi
    obtain ⟨b1, b2⟩ := elt j hj
    exact code _ (cl _ _ a1 b1) (nz _ _ a1 b1 a2 b2)
  obtain ⟨ck1, ck2⟩ := code k hk k0
  have G : cy M fm (cd k - 1) := {
    pos := by omega
    cl := fun a b ha hb => (fE a b ha hb).1
    el := ck1
    one_l := fun a ha => ext _ _ (fE _ _ ck1 ha).1 ha (by rw [(fE _ _ ck1 ha).2, ck2, k1 _ (elt a ha).1])
    one_r := fun a ha => ext _ _ (fE _ _ ha ck1).1 ha (by rw [(fE _ _ ha ck1).2, ck2, k2 _ (elt a ha).1])
    assoc := fun a b d ha hb hd => by
      have h1 := fE a b ha hb
      have h2 := fE b d hb hd
      have h3 := fE _ d h1.1 hd
      have h4 := fE a _ ha h2.1
      exact ext _ _ h3.1 h4.1 (by rw [h3.2, h4.2, h1.2, h2.2, h.gN])
    inv := fun a ha => by
      obtain ⟨a1, a2⟩ := elt a ha
      obtain ⟨y, y1, y2, y3, y4⟩ := linv _ a1 a2
      obtain ⟨y5, y6⟩ := code y y1 y2
      have h1 := fE a _ ha y5
      have h2 := fE _ a y5 ha
      exact ⟨_, y5, ext _ _ h1.1 ck1 (by rw [h1.2, y6, y3, ck2]), ext _ _ h2.1 ck1 (by rw [h2.2, y6, y4, ck2])⟩ }
  have comE : ∀ x y, x < M → y < M → (fm y x = fm x y ↔ cv n f e (E (y + 1)) (E (x + 1)) = cv n f e (E (x + 1)) (E (y + 1))) := fun x y hx hy => by
    have h1 := fE y x hy hx
    have h2 := fE x y hx hy
    constructor
    · intro he; rw [← h1.2, ← h2.2, he]
    · intro he; exact ext _ _ h1.1 h2.1 (by rw [h1.2, h2.2, he])
  have cc : ∀ x, x < M → ∃ a, (mem M (DL fm x)).length = p ^ a - 1 := fun x hx => by
    obtain ⟨X, hX⟩ : ∃ X, E (x + 1) = X := ⟨_, rfl⟩
    have hL : iu fun v => D v ∧ cv n f e v X = cv n f e X v := ⟨⟨hD.zero, by rw [qL, oq]⟩, fun a b ha hb => ⟨hD.add _ _ ha.1 hb.1, by rw [fC, ej, ha.2, hb.2]⟩, fun k a ha => ⟨hD.smul _ _ ha.1, by rw [bD, aZ, ha.2]⟩⟩
    obtain ⟨a, Ex, a1, a2, a3, a4, a5⟩ := enum R hsur hL fun v hv => hn v hv.1
    refine ⟨a, ?_⟩
    have hpa : 0 < p ^ a := Nat.pow_pos (by omega)
    have hz : ∀ i, i < p ^ a - 1 → Ex (i + 1) ≠ fun _ => 0 := fun i hi h0 => by
      have := a3 (i + 1) 0 (by omega) hpa (by rw [h0, a5])
      omega
    have := sP (n := p ^ a - 1) (k := M) (P := fun _ => true) (Q := DL fm x) (fun i => cd (Ex (i + 1)) - 1) (fun i hi _ => ?_) (fun i j hi hj _ _ he => ?_) fun y hy hq => ?_
    · rw [← this, zb]
    · obtain ⟨b1, b2⟩ := a2 (i + 1)
      obtain ⟨c1, c2⟩ := code _ b1 (hz i hi)
      refine ⟨c1, kH.2 ((comE x _ hx c1).2 ?_)⟩
      rw [c2, hX]; exact b2
    · obtain ⟨c1, c2⟩ := code _ (a2 (i + 1)).1 (hz i hi)
      obtain ⟨c3, c4⟩ := code _ (a2 (j + 1)).1 (hz j hj)
      have he : cd (Ex (i + 1)) - 1 = cd (Ex (j + 1)) - 1 := he
      have := a3 (i + 1) (j + 1) (by omega) (by omega) (by rw [← c2, ← c4, he])
      omega
    · have h1 := (comE x y hx hy).1 (kH.1 hq)
      rw [hX] at h1
      obtain ⟨m, m1, m2⟩ := a4 (E (y + 1)) ⟨(elt y hy).1, h1⟩
      have m3 : m ≠ 0 := fun h0 => (elt y hy).2 (by rw [← m2, h0, a5])
      refine ⟨m - 1, by omega, rfl, ?_⟩
      show cd (Ex (m - 1 + 1)) - 1 = y
      rw [show m - 1 + 1 = m by omega, m2, gC y hy]
  have hδ : δ = 1 := by
    refine Classical.byContradiction fun hne => ?_
    have hδ0 : δ ≠ 0 := fun h0 => by rw [h0, Nat.pow_zero] at hM; omega
    obtain ⟨ψ, w1, w2, w3⟩ := hw δ (by omega) d1
    refine w3 ?_
    have hs := G.fy.sum
    have hdiv := Ce (ψ := ψ) (fun x => (mem M (bQ M fm (cd k - 1) x)).length) (mem M (lead (bQ M fm (cd k - 1)))) (fun x hx => ?_) (by rw [hs, hM]; exact w1)
    · 
      have hcount : ((mem M (lead (bQ M fm (cd k - 1)))).filter fun x => decide ((mem M (bQ M fm (cd k - 1) x)).length = 1)).length = p - 1 := by
        have e0 : ((mem M (lead (bQ M fm (cd k - 1)))).filter fun x => decide ((mem M (bQ M fm (cd k - 1) x)).length = 1)) = mem M fun x => lead (bQ M fm (cd k - 1)) x && decide ((mem M (bQ M fm (cd k - 1) x)).length = 1) := by
          unfold mem
          rw [List.filter_filter]
          exact List.filter_congr fun x _ => Bool.and_comm _ _
        rw [e0]
        have hjk : ∀ j, j < p - 1 → D (fun x => (((j + 1 : Nat)) : K) * k x) ∧ (fun x => (((j + 1 : Nat)) : K) * k x) ≠ fun _ => 0 := fun j hj => ⟨hD.smul _ _ hk, fun h0 => by
          have hj1 : ((j + 1 : Nat) : K) ≠ 0 := fun h1 => R.ne (a := j + 1) (b := 0) (by omega) (by omega) (by omega) (by rw [h1]; grind)
          obtain ⟨b, hb⟩ := R.fld.1 _ hj1
          refine k0 (funext fun x => ?_)
          have := congrFun h0 x
          grind⟩
        have := sP (n := p - 1) (k := M) (P := fun _ => true) (Q := fun x => lead (bQ M fm (cd k - 1)) x && decide ((mem M (bQ M fm (cd k - 1) x)).length = 1)) (fun j => cd (fun x => ((j + 1 : Nat) : K) * k x) - 1) (fun j hj _ => ?_) (fun i j hi hj _ _ he => ?_) fun y hy hq => ?_
        · rw [← this, zb]
        · obtain ⟨j1, j2⟩ := hjk j hj
          obtain ⟨c1, c2⟩ := code _ j1 j2
          refine ⟨c1, ?_⟩
          have hsame : ∀ y, y < M → (bQ M fm (cd k - 1) (cd (fun x => ((j + 1 : Nat) : K) * k x) - 1) y = true ↔ y = cd (fun x => ((j + 1 : Nat) : K) * k x) - 1) := fun y hy => by
            rw [dR]
            have key : ∀ a, a < M → fm (fm (iv M fm (cd k - 1) a) (cd (fun x => ((j + 1 : Nat) : K) * k x) - 1)) a = cd (fun x => ((j + 1 : Nat) : K) * k x) - 1 := fun a ha => by
              have hc : fm a (cd (fun x => ((j + 1 : Nat) : K) * k x) - 1) = fm (cd (fun x => ((j + 1 : Nat) : K) * k x) - 1) a := (comE _ _ c1 ha).2 (by rw [c2, bD, aZ, k1 _ (elt a ha).1, k2 _ (elt a ha).1])
              rw [G.assoc _ _ _ (G.az ha) c1 ha, ← hc, ← G.assoc _ _ _ (G.az ha) ha c1, G.eb ha, G.one_l _ c1]
            constructor
            · rintro ⟨a, ha, h1⟩
              rw [← h1, key a ha]
            · intro h1
              exact ⟨cd k - 1, ck1, by rw [key _ ck1, h1]⟩
          rw [Bool.and_eq_true, decide_eq_true_eq]
          refine ⟨gI.2 ⟨(hsame _ c1).2 rfl, fun b hb => ?_⟩, ?_⟩
          · cases hcb : bQ M fm (cd k - 1) (cd (fun x => ((j + 1 : Nat) : K) * k x) - 1) b with
            | false => rfl
            | true => have := (hsame b (by omega)).1 hcb; omega
          · exact B3 c1 hsame
        · obtain ⟨i1, i2⟩ := hjk i hi
          obtain ⟨j1, j2⟩ := hjk j hj
          obtain ⟨c1, c2⟩ := code _ i1 i2
          obtain ⟨c3, c4⟩ := code _ j1 j2
          have he : cd (fun x => ((i + 1 : Nat) : K) * k x) - 1 = cd (fun x => ((j + 1 : Nat) : K) * k x) - 1 := he
          rw [he, c4] at c2
          refine Classical.byContradiction fun hij => ?_
          have h1 := R.ne (a := j + 1) (b := i + 1) (by omega) (by omega) (by omega)
          obtain ⟨b, hb⟩ := R.fld.1 _ h1
          refine k0 (funext fun x => ?_)
          have := congrFun c2 x
          grind
        · rw [Bool.and_eq_true, decide_eq_true_eq] at hq
          have h1 := G.p7 hy
          rw [hq.2, Nat.mul_one] at h1
          have h2 := CX.1 h1
          have h3 : ∀ w, D w → cv n f e (E (y + 1)) w = cv n f e w (E (y + 1)) := fun w hw => by
            by_cases hw0 : w = fun _ => 0
            · rw [hw0, qL, oq]
            · obtain ⟨c1, c2⟩ := code w hw hw0
              have := (comE y _ hy c1).1 (kH.1 (h2 _ c1))
              rw [c2] at this
              exact this.symm
          obtain ⟨a, ha⟩ := cen0 _ (elt y hy).1 h3
          obtain ⟨x, hx, hxa⟩ := hsur a
          have hx0 : x ≠ 0 := fun h0 => (elt y hy).2 (by rw [ha, ← hxa, h0]; funext z; grind)
          refine ⟨x - 1, by omega, rfl, ?_⟩
          show cd (fun z => ((x - 1 + 1 : Nat) : K) * k z) - 1 = y
          rw [show x - 1 + 1 = x by omega, hxa, ← ha, gC y hy]
      rw [hcount] at hdiv
      exact hdiv
    · 
      have hxM := (aQ.1 hx).1
      obtain ⟨a, ha⟩ := cc x hxM
      have h1 := G.p7 hxM
      by_cases h2 : (mem M (bQ M fm (cd k - 1) x)).length = 1
      · exact .inl h2
      · refine .inr ?_
        rw [ha] at h1
        have hMp := G.pos
        have hle : (mem M (DL fm x)).length ≤ M := by
          unfold mem
          exact Nat.le_trans (List.length_filter_le _ _) (by simp)
        have ha1 : p ^ a - 1 ≠ 0 := fun h0 => by rw [h0, Nat.zero_mul] at h1; omega
        have ha2 : a < δ := by
          refine Nat.lt_of_le_of_ne (Nat.le_of_not_lt fun hlt => ?_) fun he => ?_
          · have := Nat.pow_lt_pow_right (a := p) (by omega) hlt
            omega
          · rw [he, ← hM] at h1
            have := Nat.eq_of_mul_eq_mul_left hMp (h1.trans (Nat.mul_one M).symm)
            exact h2 this
        have ha3 : 1 ≤ a := by
          rcases Nat.eq_zero_or_pos a with h0 | h0
          · rw [h0, Nat.pow_zero] at ha1; omega
          · exact h0
        have h3 := w2 a ha3 ha2 (by rw [← hM, ← h1]; exact Nat.dvd_mul_right _ _)
        rw [← hM, ← h1, Nat.mul_div_cancel_left _ (by omega)] at h3
        exact h3
  intro x hx
  rw [hδ, Nat.pow_one] at d3
  have hcd' : ∀ v, D v → cd v < p ∧ E (cd v) = v := fun v hv => by
    have := hcd v hv
    rw [hδ, Nat.pow_one] at this
    exact this
  obtain ⟨j, hj, hje⟩ := tE (n := p) (f := fun j => cd fun x => ((j : Nat) : K) * k x) (fun j _ => (hcd' _ (hD.smul _ _ hk)).1) (fun i j hi hj he => by
    have h1 := (hcd' _ (hD.smul ((i : Nat) : K) _ hk)).2
    have h2 := (hcd' _ (hD.smul ((j : Nat) : K) _ hk)).2
    have he : cd (fun x => ((i : Nat) : K) * k x) = cd fun x => ((j : Nat) : K) * k x := he
    rw [he, h2] at h1
    refine Classical.byContradiction fun hij => ?_
    obtain ⟨b, hb⟩ := R.fld.1 _ (R.ne hj hi (fun h => hij h.symm))
    refine k0 (funext fun x => ?_)
    have := congrFun h1 x
    grind) (hcd' x hx).1
  have h1 := (hcd' _ (hD.smul ((j : Nat) : K) _ hk)).2
  have hje : cd (fun x => ((j : Nat) : K) * k x) = cd x := hje
  rw [hje, (hcd' x hx).2] at h1
  exact ⟨_, h1⟩
end
end Go.Proofs.YtjlmpmidchddjaaDoor
namespace Go.Proofs.YtjlmpmidchddjaaDoor
open Lean.Grind
attribute [local instance] Lean.Grind.Semiring.natCast Lean.Grind.Ring.intCast
theorem least {P:Nat→Prop} (h:∃ r,P r):∃ r,P r∧∀ r',P r'→r≤r':=by
 refine Classical.byContradiction fun hno=>?_
 have:∀ m r,r≤m→¬ P r:=by
  intro m
  induction m with
  | zero=>intro r hr hp; exact hno ⟨r,hp,fun r' _=>by omega⟩
  | succ m ih =>
   intro r hr hp
   exact hno ⟨r,hp,fun r' hp'=>Nat.le_of_not_lt fun hlt=>ih r' (by omega) hp'⟩
 obtain ⟨r,hr⟩:=h
 exact this r r (Nat.le_refl _) hr
section
variable {n e c:Nat} {f:Nat→Nat→Nat} {cI xx:Nat→Nat} {K:Type} [CommRing K] {p:Nat}
theorem Rp.gC (R:Rp K p) {a b:Nat} (ha:a < p) (hb:b < p) (h:(a:K)=b):a=b:=Classical.byContradiction fun hne=>R.ne ha hb hne (by rw [h]; grind)
theorem GC.Bb (h:GC n f e c cI xx) (u:Nat→K) (a:Nat):∀ b,pc n f e (pc n f e u a) b=pc n f e u (a * b)
 | 0=>rfl
 | b + 1=>by
  show cv n f e (pc n f e u a) (pc n f e (pc n f e u a) b)=_
  rw [h.Bb u a b,← h.kh,Nat.mul_add,Nat.mul_one,Nat.add_comm]
theorem GC.sY (h:GC n f e c cI xx) (F:my K) {u:Nat→K} (hu:cv n f e u u=u):∃ r,r≤n∧(n:K) * u e=(r:K)∧(r=0→u=fun _=>0):=by
 have G:=h.G
 obtain ⟨v,v1,v2,v3⟩:=Jf (n:=n) F (A:=fun v=>cv n f e v u) ⟨fun a b=>fC a b u,fun k a=>bD k a u⟩ (fun v _=>by show cv n f e (cv n f e v u) u=_; rw [h.gN,hu]) fun v=>cZ _ _
 refine ⟨v,v1,?_,fun h0=>?_⟩
 ·rw [← v2,← dN]
  refine ai fun x hx=>?_
  show u e=cv n f e (dl K x) u x
  rw [h.uB u hx hx,G.eb hx]
 rw [← hu]
 exact v3 h0 u (by rw [← hu]; exact cZ _ _)
def WT (n:Nat) (f:Nat→Nat→Nat) (e:Nat) (t:Nat→K) (a:Nat→K):Prop:=gV n a∧cv n f e a t=fun x=>bI n f e t t e * a x
theorem GC.yW (h:GC n f e c cI xx) (F:my K) {t:Nat→K} (ht:jT n f e cI t) (hs:bI n f e t t e ≠ 0) {a:Nat→K} (ha:WT n f e t a) {x:Nat} (hx:x < n):sm (fun g=>a (bT n f e g x)) n=(n:K) * a e * t x:=by
 have G:=h.G
 have h1:bI n f e t t e * sm (fun g=>a (bT n f e g x)) n=bI n f e t t e * ((n:K) * a e * t x):=by
  have e1:∀ g,g < n→bI n f e t t e * a (bT n f e g x)=sm (fun y=>a y * t (f (iv n f e y) (bT n f e g x))) n:=fun g hg=>by
   have:=congrFun ha.2 (bT n f e g x)
   rw [← this,dC _ _ (h.pL hg hx)]
  rw [← aL,ai e1,aW]
  have e2:∀ y,y < n→sm (fun g=>a y * t (f (iv n f e y) (bT n f e g x))) n=(n:K) * t x * (a y * t (f (iv n f e y) e)):=fun y hy=>by
   have hi:=G.az hy
   rw [aL,ai (g:=fun g=>t (f (bT n f e g x) (iv n f e y))) fun g hg=>h.yx ht.cl hi (h.pL hg hx),ht.mul x _ hx hi,G.one_r _ hi]
   grind
  rw [ai e2,aL,← dC a t G.el,ha.2]
  grind
 obtain ⟨b,hb⟩:=F.1 _ hs
 grind
structure CY (n:Nat) (f:Nat→Nat→Nat) (e:Nat) (t k:Nat→K) (v:Nat):Prop where
 W:WT n f e t k
 id:cv n f e k k=k
 rk:(n:K) * k e=(v:K)
 ge:1≤v
 le:v≤n
 sq:bI n f e t t e * ((v:K) * v)=(n:K)
 one:∀ w:Nat→K,∃ a:K,cv n f e k (cv n f e w k)=fun x=>a * k x
theorem GC.Hd (h:GC n f e c cI xx) (R:Rp K p) (hsur:∀ a:K,∃ x:Nat,x < p∧(x:K)=a) (hw:∀ d,2≤d→d≤n→Gb p d) (h2n:2 * n < p) (hn0:(n:K) ≠ 0)
  (hcz:∀ a:Nat,0 < a→a < p→(a:K) ≠ 0) (hpw:∀ a,a < n→pw f e a p=a) {t:Nat→K} (ht:jT n f e cI t) (hs:bI n f e t t e ≠ 0) :
  ∃ (v:Nat) (k:Nat→K),CY n f e t k v:=by
 have G:=h.G
 have F:=R.fld
 have hfr:∀ a:K,a ^ p=a:=fun a=>by
  obtain ⟨x,_,rfl⟩:=hsur a
  exact R.pow x
 obtain ⟨s,hsd⟩:∃ s,s=bI n f e t t e:=⟨_,rfl⟩
 rw [← hsd] at hs
 obtain ⟨si,hsi⟩:=F.1 _ hs
 have hW:∀ {a:Nat→K},WT n f e t a↔gV n a∧cv n f e a t=fun x=>s * a x:=by intro a; unfold WT; rw [hsd]
 have htt:∀ x,x < n→cv n f e t t x=s * t x:=fun x hx=>by
  rw [dC _ _ hx,← h.uM t t hx,h.self F hn0 ht hx,hsd]
 have wmul:∀ {a:Nat→K} (b:Nat→K),WT n f e t a→WT n f e t (cv n f e b a):=fun {a} b ha=>hW.2 ⟨cZ _ _,by
  rw [h.gN,(hW.1 ha).2,aZ]⟩
 let ε:Nat→K:=fun x=>if x < n then si * t x else 0
 have hε:∀ x,x < n→ε x=(fun x=>si * t x) x:=fun x hx=>if_pos hx
 have hεs:gV n ε:=fun x hx=>if_neg (by omega)
 have hεW:WT n f e t ε:=hW.2 ⟨hεs,by
  rw [cP h hε (b':=t) fun _ _=>rfl,bD]
  funext x
  by_cases hx:x < n
  ·rw [htt x hx]
   show _=s * (if x < n then si * t x else 0)
   rw [if_pos hx]; grind
  rw [cZ t t x (by omega),hεs x (by omega)]; grind⟩
 have hεi:cv n f e ε ε=ε:=by
  rw [cP h (a:=ε) (fun _ _=>rfl) hε,aZ,(hW.1 hεW).2]
  funext x; grind
 have hε0:ε ≠ fun _=>0:=fun h0=>by
  have:=congrFun h0 e
  rw [hε e G.el] at this
  have h1:si * t e=0:=this
  rw [ht.one] at h1
  have:s * si=0:=by grind
  rw [hsi] at this
  exact F.2 this
 let Q:Nat→Prop:=fun r=>∃ k,WT n f e t k∧cv n f e k k=k∧(k ≠ fun _=>0)∧r≤n∧(n:K) * k e=(r:K)
 obtain ⟨r,⟨k,kW,kk,k0,rn,kr⟩,hmin⟩:=least (P:=Q) (by
  obtain ⟨r,r1,r2,_⟩:=h.sY F hεi
  exact ⟨r,ε,hεW,hεi,hε0,r1,r2⟩)
 have hr0:r ≠ 0:=fun h0=>by
  obtain ⟨r',a1,a2,a3⟩:=h.sY F kk
  have:=R.gC (by omega) (by omega) (a2.symm.trans kr)
  exact k0 (a3 (by omega))
 have hke:k e ≠ 0:=fun h0=>hr0 (R.gC (p:=p) (by omega) (by omega) (by rw [← kr,h0]; grind))
 let D:(Nat→K)→Prop:=fun x=>cv n f e k x=x∧cv n f e x k=x
 have hDl:iu D:=⟨⟨oq k,qL k⟩,fun a b ha hb=>⟨by rw [ej,ha.1,hb.1],by rw [fC,ha.2,hb.2]⟩,fun l a ha=>⟨by rw [aZ,ha.1],by rw [bD,ha.2]⟩⟩
 have hDs:∀ x,D x→gV n x:=fun x hx=>by rw [← hx.1]; exact cZ _ _
 have hDk:D k:=⟨kk,kk⟩
 have hDc:∀ a b,D a→D b→D (cv n f e a b):=fun a b ha hb=>⟨by rw [← h.gN,ha.1],by rw [h.gN,hb.2]⟩
 have hDw:∀ w,D (cv n f e k (cv n f e w k)):=fun w=>⟨by rw [← h.gN k k,kk],by rw [h.gN,h.gN,kk]⟩
 have hDW:∀ x,D x→WT n f e t x:=fun x hx=>by rw [← hx.2]; exact wmul x kW
 obtain ⟨qa,Ea,qa1,qa2,qa3,qa4,qa5⟩:=enum (n:=n) R hsur (P:=gV n) ⟨gV.zero,fun a b ha hb=>ha.add hb,fun k a ha=>ha.smul k⟩ fun v hv=>hv
 have hinv:∀ x,D x→(x ≠ fun _=>0)→∃ y,D y∧cv n f e x y=k:=fun x hx hx0=>by
  obtain ⟨g,hg,hxg⟩:∃ g,g < n∧x g ≠ 0:=Classical.byContradiction fun hno=>hx0 ((hDs x hx).ext gV.zero fun g hg=>Classical.byContradiction fun hc=>hno ⟨g,hg,hc⟩)
  obtain ⟨w,hwd⟩:∃ w,w=dl K (iv n f e g):=⟨_,rfl⟩
  obtain ⟨z,hz⟩:∃ z,z=cv n f e k (cv n f e w k):=⟨_,rfl⟩
  have hzD:D z:=by rw [hz]; exact hDw w
  obtain ⟨u,hu⟩:∃ u,u=cv n f e x z:=⟨_,rfl⟩
  have huD:D u:=by rw [hu]; exact hDc x z hx hzD
  have hue:u e=x g:=by
   rw [hu,hz,← h.gN,hx.2,← h.gN,h.HU,← h.gN,hx.1,hwd,h.BZ x (G.az hg) G.el,G.cQ hg,G.one_l g hg]
  have hue0:u e ≠ 0:=by rw [hue]; exact hxg
  have hpp:∀ i,pc n f e u (p ^ i) e=u e:=fun i=>by
   induction i with
   | zero =>
    rw [Nat.pow_zero]
    show cv n f e u (dl K e) e=_
    rw [h.Hc (hDs u huD)]
   | succ i ih=>rw [Nat.pow_succ,← h.Bb,h.H8 R hcz hpw hfr,ih]
  have hnn:∀ m,pc n f e u m ≠ fun _=>0:=fun m h0=>by
   have h1:m≤p ^ m:=Nat.le_of_lt (Nat.lt_pow_self (by have:=R.two; omega))
   have h2:=hpp m
   rw [show p ^ m=(p ^ m - m) + m by omega,h.kh,h0,oq] at h2
   exact hue0 h2.symm
  obtain ⟨cd,hcd⟩:=Classical.axiomOfChoice fun i=>qa4 _ (h.zw u i)
  have hpos:0 < p ^ qa:=Nat.pow_pos (by have:=R.two; omega)
  obtain ⟨i,j,hij,hjn,hcij⟩:=An (n:=p ^ qa) (f:=cd) fun i _=>(hcd i).1
  have hpij:pc n f e u i=pc n f e u j:=by rw [← (hcd i).2,← (hcd j).2,hcij]
  obtain ⟨d,rfl⟩:∃ d,j=i + d:=⟨j - i,by omega⟩
  have hper:∀ l i',i≤i'→pc n f e u (i' + l * d)=pc n f e u i':=fun l=>by
   induction l with
   | zero=>intro i' _; rw [Nat.zero_mul]; rfl
   | succ l ih =>
    intro i' hi'
    have e1:i' + (l + 1) * d=(i' - i + l * d) + (i + d):=by rw [Nat.add_mul]; omega
    rw [e1,h.kh,← hpij,← h.kh,show i' - i + l * d + i=i' + l * d by omega,ih i' hi']
  obtain ⟨m,hm⟩:∃ m,m=(i + 1) * d:=⟨_,rfl⟩
  have hmi:i + 1≤m:=by rw [hm]; exact Nat.le_mul_of_pos_right _ (by omega)
  have hid:cv n f e (pc n f e u m) (pc n f e u m)=pc n f e u m:=by
   rw [← h.kh]
   have:=hper (i + 1) m (by omega)
   rwa [← hm] at this
  obtain ⟨q,hq⟩:∃ q,m=q + 1:=⟨m - 1,by omega⟩
  have hbl:cv n f e k (pc n f e u m)=pc n f e u m:=by
   rw [hq]
   show cv n f e k (cv n f e u (pc n f e u q))=cv n f e u (pc n f e u q)
   rw [← h.gN,huD.1]
  have hbr:cv n f e (pc n f e u m) k=pc n f e u m:=by
   have h1:pc n f e u 1=u:=h.Hc (hDs u huD)
   rw [hq,h.kh,h1,h.gN,huD.2]
  obtain ⟨r1,r11,r12,r13⟩:=h.sY F hid
  have hk' : cv n f e (fun x=>k x + (-1) * pc n f e u m x) (fun x=>k x + (-1) * pc n f e u m x)=fun x=>k x + (-1) * pc n f e u m x:=by
   rw [fC k (fun x=>(-1) * pc n f e u m x),bD,ej k k,ej _ k,aZ,aZ,kk,hbl,hbr,hid]
   funext x; grind
  obtain ⟨r2,r21,r22,r23⟩:=h.sY F hk'
  have hle:=hmin r1 ⟨_,hDW _ ⟨hbl,hbr⟩,hid,hnn m,r11,r12⟩
  have hsum:r1 + r2=r:=R.gC (p:=p) (by omega) (by omega) (by
   rw [← kr,Semiring.natCast_add,← r12,← r22]; grind)
  have hz0:=r23 (by omega)
  have hku:pc n f e u m=k:=by
   funext x
   have:=congrFun hz0 x
   grind
  refine ⟨cv n f e z (cv n f e (pc n f e u q) k),⟨by rw [← h.gN,hzD.1],by rw [h.gN,h.gN,kk]⟩,?_⟩
  rw [← h.gN,← hu,← h.gN]
  have:cv n f e u (pc n f e u q)=k:=by rw [← hku,hq]; rfl
  rw [this,kk]
 have hC:∀ (a:Nat→K) {g x:Nat},g < n→x < n→cv n f e (dl K g) (cv n f e a (dl K (iv n f e g))) x=a (bT n f e g x):=fun a g x hg hx=>by
  rw [h.uB _ hg hx,h.BZ a (G.az hg) (G.cl _ _ (G.az hg) hx),G.cQ hg]; rfl
 have hS:∀ a,WT n f e t a→∀ x,sm (fun g=>cv n f e k (cv n f e (cv n f e (dl K g) (cv n f e a (dl K (iv n f e g)))) k) x) n=(n:K) * a e * s * k x:=fun a ha x=>by
  have e1:(fun x=>sm (fun g=>cv n f e k (cv n f e (cv n f e (dl K g) (cv n f e a (dl K (iv n f e g)))) k) x) n)=cv n f e k (cv n f e (fun x=>sm (fun g=>cv n f e (dl K g) (cv n f e a (dl K (iv n f e g))) x) n) k):=by
   rw [zV,qZ]
  have e2:cv n f e (fun x=>sm (fun g=>cv n f e (dl K g) (cv n f e a (dl K (iv n f e g))) x) n) k=cv n f e (fun x=>(n:K) * a e * t x) k:=cP h (fun x hx=>by
   rw [ai fun g hg=>hC a hg hx,h.yW F ht (by rw [← hsd]; exact hs) ha hx]) fun _ _=>rfl
  have e3:=congrFun e1 x
  rw [e2,bD,h.Iq ht.cl,(hW.1 kW).2,aZ,aZ,kk] at e3
  have e4:sm (fun g=>cv n f e k (cv n f e (cv n f e (dl K g) (cv n f e a (dl K (iv n f e g)))) k) x) n=(n:K) * a e * (s * k x):=e3
  rw [e4]; grind
 have hcen:∀ z,D z→(∀ w,D w→cv n f e z w=cv n f e w z)→∃ a:K,z=fun x=>a * k x:=fun z hz hcz=>by
  have e1:∀ g,g < n→cv n f e k (cv n f e (cv n f e (dl K g) (cv n f e z (dl K (iv n f e g)))) k)=cv n f e z (cv n f e k (cv n f e (cv n f e (dl K g) (cv n f e k (dl K (iv n f e g)))) k)):=fun g hg=>by
   have hA:=hDw (dl K g)
   have h1:=hcz _ hA
   have e2:cv n f e k (cv n f e (cv n f e (dl K g) (cv n f e z (dl K (iv n f e g)))) k)=cv n f e (cv n f e (cv n f e k (cv n f e (dl K g) k)) z) (cv n f e (dl K (iv n f e g)) k):=by
    simp only [h.gN]
    rw [← h.gN k z,hz.1]
   have e3:cv n f e z (cv n f e k (cv n f e (cv n f e (dl K g) (cv n f e k (dl K (iv n f e g)))) k))=cv n f e (cv n f e z (cv n f e k (cv n f e (dl K g) k))) (cv n f e (dl K (iv n f e g)) k):=by
    simp only [h.gN]
   rw [e2,e3,h1]
  obtain ⟨ki,hki⟩:=F.1 _ hke
  refine ⟨z e * ki,funext fun x=>?_⟩
  have h1:=hS z (hDW z hz) x
  rw [ai fun g hg=>congrFun (e1 g hg) x] at h1
  have e4:(fun x=>sm (fun g=>cv n f e z (cv n f e k (cv n f e (cv n f e (dl K g) (cv n f e k (dl K (iv n f e g)))) k)) x) n)=cv n f e z (fun x=>(n:K) * k e * s * k x):=by
   rw [← qZ]
   congr 1
   funext y
   exact hS k kW y
  have e5:=congrFun e4 x
  rw [aZ,hz.2] at e5
  have e6:sm (fun g=>cv n f e z (cv n f e k (cv n f e (cv n f e (dl K g) (cv n f e k (dl K (iv n f e g)))) k)) x) n=(n:K) * k e * s * z x:=e5
  rw [e6] at h1
  obtain ⟨ni,hni⟩:=F.1 _ hn0
  grind
 have hall:=h.Is R hsur hw hDl hDs hDc hDk k0 (fun a ha=>ha.1) (fun a ha=>ha.2) hinv hcen
 have t1:sm (fun x=>cv n f e k (cv n f e (dl K x) k) x) n=1:=by
  have e1:∀ x,x < n→k e * cv n f e k (cv n f e (dl K x) k) x=k (iv n f e x) * k x:=fun x hx=>by
   obtain ⟨a,ha⟩:=hall _ (hDw (dl K x))
   have h1:=congrFun ha e
   rw [h.HU,h.gN,kk,h.uB k hx G.el,G.one_r _ (G.az hx)] at h1
   rw [ha]
   show k e * (a * k x)=_
   rw [h1]; grind
  have e2:k e * sm (fun x=>cv n f e k (cv n f e (dl K x) k) x) n=k e:=by
   rw [← aL,ai e1]
   have e3:=congrFun kk e
   rw [dC _ _ G.el] at e3
   rw [← e3]
   exact ai fun x hx=>by rw [G.one_r _ (G.az hx)]; grind
  obtain ⟨ki,hki⟩:=F.1 _ hke
  grind
 have t2:sm (fun x=>cv n f e k (cv n f e (dl K x) k) x) n=(n:K) * k e * (s * k e):=by
  have e1:∀ x,x < n→cv n f e k (cv n f e (dl K x) k) x=sm (fun y=>k y * k (bT n f e x (iv n f e y))) n:=fun x hx=>by
   rw [dC _ _ hx]
   refine ai fun y hy=>?_
   rw [h.uB k hx (G.cl _ _ (G.az hy) hx)]
   unfold bT
   rw [G.assoc _ _ _ (G.az hx) (G.az hy) hx]
  rw [ai e1,aW]
  have e2:∀ y,y < n→sm (fun x=>k y * k (bT n f e x (iv n f e y))) n=(n:K) * k e * (k y * t (f (iv n f e y) e)):=fun y hy=>by
   rw [aL,h.yW F ht (by rw [← hsd]; exact hs) kW (G.az hy),G.one_r _ (G.az hy)]
   grind
  rw [ai e2,aL,← dC k t G.el,(hW.1 kW).2]
 refine ⟨r,k,kW,kk,kr,by omega,rn,?_,fun w=>hall _ (hDw w)⟩
 rw [t1] at t2
 rw [← hsd,← kr]
 grind
end
end Go.Proofs.YtjlmpmidchddjaaDoor
namespace Go.Proofs.YtjlmpmidchddjaaDoor
open Lean.Grind
attribute [local instance] Lean.Grind.Semiring.natCast Lean.Grind.Ring.intCast
section
variable {n e c:Nat} {f:Nat→Nat→Nat} {cI xx:Nat→Nat} {K:Type} [CommRing K] {p:Nat}
theorem WT.mul (h:GC n f e c cI xx) {t a:Nat→K} (b:Nat→K) (ha:WT n f e t a):WT n f e t (cv n f e b a):=
 ⟨cZ _ _,by rw [h.gN,ha.2,aZ]⟩
theorem WT.add {t a b:Nat→K} (ha:WT n f e t a) (hb:WT n f e t b):WT n f e t fun x=>a x + b x:=
 ⟨ha.1.add hb.1,by rw [fC,ha.2,hb.2]; funext x; grind⟩
theorem WT.smul {t a:Nat→K} (k:K) (ha:WT n f e t a):WT n f e t fun x=>k * a x:=
 ⟨ha.1.smul k,by rw [bD,ha.2]; funext x; grind⟩
def eD (n:Nat) (si:K) (t:Nat→K) (x:Nat):K:=if x < n then si * t x else 0
theorem xq (si:K) (t:Nat→K):gV n (eD n si t):=fun x hx=>if_neg (by omega)
theorem ff (si:K) (t:Nat→K) {x:Nat} (hx:x < n):eD n si t x=si * t x:=if_pos hx
theorem GC.IB (h:GC n f e c cI xx) (F:my K) (hn0:(n:K) ≠ 0) {t:Nat→K} (ht:jT n f e cI t) {x:Nat} (hx:x < n):cv n f e t t x=bI n f e t t e * t x:=by
 rw [dC _ _ hx,← h.uM t t hx,h.self F hn0 ht hx]
theorem GC.Fq (h:GC n f e c cI xx) (F:my K) (hn0:(n:K) ≠ 0) {t:Nat→K} (ht:jT n f e cI t) {si:K} (hsi:bI n f e t t e * si=1) :
  WT n f e t (eD n si t)∧cv n f e (eD n si t) (eD n si t)=eD n si t∧eD n si t e=si∧∀ a,gV n a→(WT n f e t a↔cv n f e a (eD n si t)=a):=by
 have G:=h.G
 have hW:WT n f e t (eD n si t):=⟨xq _ _,by
  rw [cP h (a':=fun x=>si * t x) (fun x hx=>ff si t hx) (b':=t) fun _ _=>rfl,bD]
  funext x
  by_cases hx:x < n
  ·rw [h.IB F hn0 ht hx,ff _ _ hx]; grind
  rw [cZ t t x (by omega),xq _ _ x (by omega)]; grind⟩
 have hr:∀ a,cv n f e a (eD n si t)=fun x=>si * cv n f e a t x:=fun a=>by
  rw [cP h (a:=a) (a':=a) (fun _ _=>rfl) (b':=fun x=>si * t x) fun x hx=>ff si t hx,aZ]
 refine ⟨hW,?_,by rw [ff _ _ G.el,ht.one]; grind,fun a ha=>⟨fun hw=>?_,fun hw=>⟨ha,?_⟩⟩⟩
 ·rw [hr,hW.2]; funext x; grind
 ·rw [hr,hw.2]; funext x; grind
 have h1:=hr a
 rw [hw] at h1
 funext x
 rw [congrFun h1 x]; grind
theorem GC.En (h:GC n f e c cI xx) (F:my K) (hn0:(n:K) ≠ 0) {t k:Nat→K} {v:Nat} (ht:jT n f e cI t) (hs:bI n f e t t e ≠ 0) (hk:CY n f e t k v) (hke:k e ≠ 0) {u:Nat→K} (hu:WT n f e t u) (huu:cv n f e u u=u) (hu0:u ≠ fun _=>0) :
  ∃ j,WT n f e t j∧cv n f e j j=j∧cv n f e u j=j∧cv n f e j u=j∧j e=k e:=by
 have G:=h.G
 have h1:∃ g,g < n∧cv n f e u (cv n f e (dl K g) k) ≠ fun _=>0:=Classical.byContradiction fun hno=>by
  have hz:∀ g,g < n→cv n f e u (cv n f e (dl K g) k)=fun _=>0:=fun g hg=>Classical.byContradiction fun hc=>hno ⟨g,hg,hc⟩
  have e2:cv n f e u (fun x=>sm (fun g=>cv n f e (dl K g) (cv n f e k (dl K (iv n f e g))) x) n)=fun x=>0:=by
   rw [qZ]
   funext x
   refine aV fun g hg=>?_
   rw [← h.gN (dl K g) k,← h.gN u,hz g hg,qL]
  have e3:cv n f e u (fun x=>sm (fun g=>cv n f e (dl K g) (cv n f e k (dl K (iv n f e g))) x) n)=cv n f e u (fun x=>(n:K) * k e * t x):=cP h (fun _ _=>rfl) fun x hx=>by
   rw [← h.yW F ht hs hk.W hx]
   refine ai fun g hg=>?_
   rw [h.uB _ hg hx,h.BZ k (G.az hg) (G.cl _ _ (G.az hg) hx),G.cQ hg]; rfl
  rw [e3,aZ,hu.2] at e2
  refine hu0 (funext fun x=>?_)
  have h2:=congrFun e2 x
  obtain ⟨ni,hni⟩:=F.1 _ hn0
  obtain ⟨ki,hki⟩:=F.1 _ hke
  obtain ⟨si,hsi⟩:=F.1 _ hs
  have h3:(n:K) * k e * (bI n f e t t e * u x)=0:=h2
  grind
 obtain ⟨g,hg,hz0⟩:=h1
 obtain ⟨z,hz⟩:∃ z,z=cv n f e u (cv n f e (dl K g) k):=⟨_,rfl⟩
 rw [← hz] at hz0
 have zk:cv n f e z k=z:=by rw [hz,h.gN,h.gN,hk.id]
 have uz:cv n f e u z=z:=by rw [hz,← h.gN,huu]
 have zs:gV n z:=by rw [hz]; exact cZ _ _
 obtain ⟨g0,hg0,hzg⟩:∃ g0,g0 < n∧z g0 ≠ 0:=Classical.byContradiction fun hno=>hz0 (zs.ext gV.zero fun g hg=>Classical.byContradiction fun hc=>hno ⟨g,hg,hc⟩)
 obtain ⟨y,hy⟩:∃ y,y=dl K (iv n f e g0):=⟨_,rfl⟩
 have yz:cv n f e y z e=z g0:=by rw [hy,h.uB z (G.az hg0) G.el,G.cQ hg0,G.one_r _ hg0]
 obtain ⟨a,ha⟩:=hk.one (cv n f e y z)
 have ha' : cv n f e k (cv n f e y z)=fun x=>a * k x:=by rw [← ha,h.gN y,zk]
 have hae:a * k e=z g0:=by
  have:=congrFun ha' e
  rw [h.HU,h.gN,zk,yz] at this
  exact this.symm
 have ha0:a ≠ 0:=fun h0=>hzg (by rw [← hae,h0]; grind)
 obtain ⟨b,hb⟩:=F.1 _ ha0
 refine ⟨fun x=>b * cv n f e z (cv n f e y u) x,(hu.mul h y |>.mul h z).smul b,?_,?_,?_,?_⟩
 ·rw [bD,aZ]
  have e1:cv n f e (cv n f e z (cv n f e y u)) (cv n f e z (cv n f e y u))=fun x=>a * cv n f e z (cv n f e y u) x:=by
   have e2:cv n f e (cv n f e z (cv n f e y u)) (cv n f e z (cv n f e y u))=cv n f e (cv n f e z (cv n f e k (cv n f e y z))) (cv n f e y u):=by
    rw [← h.gN z k,zk]
    simp only [h.gN]
    rw [← h.gN u z,uz]
   rw [e2,ha',aZ,bD,zk]
  rw [e1]
  funext x; grind
 ·rw [aZ,← h.gN,uz]
 ·rw [bD,h.gN,h.gN,huu]
 show b * cv n f e z (cv n f e y u) e=k e
 rw [h.HU,h.gN,uz,yz,← hae]
 grind
theorem CY.ne (R:Rp K p) {t k:Nat→K} {v:Nat} (h2n:2 * n < p) (hk:CY n f e t k v):k e ≠ 0∧(v:K) ≠ 0:=by
 have hv:(v:K) ≠ 0:=fun h0=>by
  have:=R.gC (p:=p) (a:=v) (b:=0) (by have:=hk.le; omega) (by have:=R.two; omega) (by rw [h0]; grind)
  have:=hk.ge; omega
 exact ⟨fun h0=>hv (by rw [← hk.rk,h0]; grind),hv⟩
theorem GC.mult (h:GC n f e c cI xx) (R:Rp K p) (h2n:2 * n < p) (hn0:(n:K) ≠ 0) {t k:Nat→K} {v:Nat} (ht:jT n f e cI t) (hs:bI n f e t t e ≠ 0) (hk:CY n f e t k v) :
  ∀ r,r≤n→∀ u,WT n f e t u→cv n f e u u=u→(n:K) * u e=(r:K)→v ∣ r:=by
 intro r
 induction r using Nat.strongRecOn with
 | ind r ih =>
  intro hr u hu huu hur
  obtain ⟨hke,hv0⟩:=hk.ne R h2n
  by_cases hu0:u=fun _=>0
  ·have:r=0:=R.gC (p:=p) (by omega) (by have:=R.two; omega) (by rw [← hur,hu0]; grind)
   rw [this]; exact Nat.dvd_zero v
  obtain ⟨j,j1,j2,j3,j4,j5⟩:=h.En R.fld hn0 ht hs hk hke hu huu hu0
  have hd:WT n f e t fun x=>u x + (-1) * j x:=hu.add (j1.smul _)
  have hdd:cv n f e (fun x=>u x + (-1) * j x) (fun x=>u x + (-1) * j x)=fun x=>u x + (-1) * j x:=by
   rw [fC u (fun x=>(-1) * j x),bD,ej u u,ej j u,aZ,aZ,huu,j2,j3,j4]
   funext x; grind
  obtain ⟨r2,a1,a2,_⟩:=h.sY R.fld hdd
  have hv:=hk.le
  have e1:r2 + v=r:=R.gC (p:=p) (by omega) (by omega) (by
   rw [Semiring.natCast_add,← a2,← hk.rk,← hur,← j5]; grind)
  have:=ih r2 (by have:=hk.ge; omega) (by omega) _ hd hdd a2
  rw [← e1]
  exact Nat.dvd_add this (Nat.dvd_refl v)
theorem GC.IG (h:GC n f e c cI xx) (R:Rp K p) (h2n:2 * n < p) (hn0:(n:K) ≠ 0) {t k:Nat→K} {v:Nat} (ht:jT n f e cI t) (hs:bI n f e t t e ≠ 0) (hk:CY n f e t k v):v * v≤n:=by
 have F:=R.fld
 obtain ⟨si,hsi⟩:=F.1 _ hs
 obtain ⟨w1,w2,w3,_⟩:=h.Fq F hn0 ht hsi
 obtain ⟨r,r1,r2,_⟩:=h.sY F w2
 obtain ⟨q,hq⟩:=h.mult R h2n hn0 ht hs hk r r1 _ w1 w2 r2
 obtain ⟨_,hv0⟩:=hk.ne R h2n
 have hv:=hk.le
 have hqn:q≤n:=Nat.le_trans (by rw [hq]; exact Nat.le_mul_of_pos_left q hk.ge) r1
 have:q=v:=R.gC (p:=p) (by omega) (by omega) (by
  have e1:(r:K)=(v:K) * (q:K):=by rw [hq,Semiring.natCast_mul]
  rw [w3] at r2
  have e2:=hk.sq
  obtain ⟨vi,hvi⟩:=F.1 _ hv0
  have e3:(n:K) * si=(v:K) * v:=by rw [← e2]; grind
  have e4:(v:K) * (q:K)=(v:K) * (v:K):=by rw [← e1,← r2,e3]
  grind)
 rw [hq,this] at r1
 exact r1
def sn (g:Nat→Nat):Nat→Nat
 | 0=>0
 | i + 1=>sn g i + g i
theorem rC (g:Nat→Nat):∀ i,((sn g i:Nat):K)=sm (fun q=>((g q:Nat):K)) i
 | 0=>Semiring.natCast_zero
 | i + 1=>by show ((sn g i + g i:Nat):K)=_; rw [Semiring.natCast_add,rC g i]; rfl
theorem GC.vV (h:GC n f e c cI xx) (F:my K) (hn0:(n:K) ≠ 0) {t t' : Nat→K} (ht:jT n f e cI t) (ht' : jT n f e cI t') (hs:bI n f e t t e ≠ 0) (hz:bI n f e t t' e=0) (si si' : K):cv n f e (eD n si t) (eD n si' t')=fun _=>0:=by
 have:∃ a,a < n∧t a ≠ t' a:=Classical.byContradiction fun hno=>by
  have he:∀ a,a < n→t a=t' a:=fun a ha=>Classical.byContradiction fun hc=>hno ⟨a,ha,hc⟩
  refine hs ?_
  rw [← hz]
  exact ai fun z hz=>by rw [he _ (h.G.az hz)]
 obtain ⟨a,ha,hne⟩:=this
 rw [cP h (a':=fun x=>si * t x) (fun x hx=>ff si t hx) (b':=fun x=>si' * t' x) fun x hx=>ff si' t' hx,bD,aZ]
 funext x
 show si * (si' * cv n f e t t' x)=0
 by_cases hx:x < n
 ·rw [dC _ _ hx,← h.uM t t' hx,h.xy F hn0 ht ht' ha hne hx]; grind
 rw [cZ t t' x (by omega)]; grind
theorem GC.DT (h:GC n f e c cI xx) (R:Rp K p) (h2n:2 * n < p) (hn0:(n:K) ≠ 0) {m:Nat} {tt:Nat→Nat→K} {vv:Nat→Nat} (ht:∀ q,q < m→jT n f e cI (tt q)) (hs:∀ q,q < m→bI n f e (tt q) (tt q) e ≠ 0) (hv:∀ q,q < m→vv q * vv q≤n∧bI n f e (tt q) (tt q) e * ((vv q:K) * vv q)=(n:K))
  (ho:∀ q q',q < m→q' < m→q ≠ q'→bI n f e (tt q) (tt q') e=0):sn (fun q=>vv q * vv q) m≤n:=by
 have F:=R.fld
 have:∀ q,∃ si:K,q < m→bI n f e (tt q) (tt q) e * si=1:=fun q=>by
  by_cases hq:q < m
  ·obtain ⟨si,h1⟩:=F.1 _ (hs q hq); exact ⟨si,fun _=>h1⟩
  exact ⟨0,fun h0=>absurd h0 hq⟩
 obtain ⟨si,hsi⟩:=Classical.axiomOfChoice this
 have key:∀ j,j≤m→cv n f e (fun x=>sm (fun q=>eD n (si q) (tt q) x) j) (fun x=>sm (fun q=>eD n (si q) (tt q) x) j)=(fun x=>sm (fun q=>eD n (si q) (tt q) x) j)∧sn (fun q=>vv q * vv q) j≤n∧(n:K) * sm (fun q=>eD n (si q) (tt q) e) j=(sn (fun q=>vv q * vv q) j:Nat):=by
  intro j
  induction j with
  | zero =>
   intro _
   refine ⟨?_,Nat.zero_le _,?_⟩
   ·show cv n f e (fun _=>0) (fun _=>0)=fun _=>0
    exact qL _
   show (n:K) * 0=((0:Nat):K)
   rw [Semiring.natCast_zero]; grind
  | succ j ih =>
   intro hj
   obtain ⟨i1,i2,i3⟩:=ih (by omega)
   obtain ⟨w1,w2,w3,_⟩:=h.Fq F hn0 (ht j hj) (hsi j hj)
   have z1:cv n f e (fun x=>sm (fun q=>eD n (si q) (tt q) x) j) (eD n (si j) (tt j))=fun _=>0:=by
    rw [zV]; funext x
    exact aV fun q hq=>by rw [h.vV F hn0 (ht q (by omega)) (ht j hj) (hs q (by omega)) (ho q j (by omega) hj (by omega))]
   have z2:cv n f e (eD n (si j) (tt j)) (fun x=>sm (fun q=>eD n (si q) (tt q) x) j)=fun _=>0:=by
    rw [qZ]; funext x
    exact aV fun q hq=>by rw [h.vV F hn0 (ht j hj) (ht q (by omega)) (hs j hj) (ho j q hj (by omega) (by omega))]
   have hid:cv n f e (fun x=>sm (fun q=>eD n (si q) (tt q) x) (j + 1)) (fun x=>sm (fun q=>eD n (si q) (tt q) x) (j + 1))=(fun x=>sm (fun q=>eD n (si q) (tt q) x) (j + 1)):=by
    show cv n f e (fun x=>sm (fun q=>eD n (si q) (tt q) x) j + eD n (si j) (tt j) x) (fun x=>sm (fun q=>eD n (si q) (tt q) x) j + eD n (si j) (tt j) x)=fun x=>sm (fun q=>eD n (si q) (tt q) x) j + eD n (si j) (tt j) x
    rw [fC (fun x=>sm (fun q=>eD n (si q) (tt q) x) j),ej (fun x=>sm (fun q=>eD n (si q) (tt q) x) j) (fun x=>sm (fun q=>eD n (si q) (tt q) x) j),ej (eD n (si j) (tt j)) (fun x=>sm (fun q=>eD n (si q) (tt q) x) j),i1,z1,z2,w2]
    funext x; grind
   obtain ⟨r,r1,r2,_⟩:=h.sY F hid
   obtain ⟨v1,v2⟩:=hv j hj
   have e1:(n:K) * si j=((vv j * vv j:Nat):K):=by
    rw [Semiring.natCast_mul,← v2]
    have:=hsi j hj
    grind
   have e2:(n:K) * sm (fun q=>eD n (si q) (tt q) e) (j + 1)=((sn (fun q=>vv q * vv q) (j + 1):Nat):K):=by
    show (n:K) * (sm (fun q=>eD n (si q) (tt q) e) j + eD n (si j) (tt j) e)=((sn (fun q=>vv q * vv q) j + vv j * vv j:Nat):K)
    rw [Semiring.natCast_add,← i3,w3,← e1]; grind
   have e3:sn (fun q=>vv q * vv q) (j + 1)=r:=R.gC (p:=p) (by show sn _ j + vv j * vv j < p; omega) (by omega) (by rw [← e2,← r2])
   exact ⟨hid,by omega,e2⟩
 exact (key m (Nat.le_refl _)).2.1
end
end Go.Proofs.YtjlmpmidchddjaaDoor
namespace Go.Proofs.YtjlmpmidchddjaaDoor
open Lean.Grind
attribute [local instance] Lean.Grind.Semiring.natCast Lean.Grind.Ring.intCast
theorem tu {α β:Type} (g:α→β) {l1 l2:List β} (h:l1.Perm l2):∀ l' : List α,l2=l'.map g→∃ l'' : List α,l''.Perm l'∧l1=l''.map g:=by
 induction h with
 | nil=>intro l' h; exact ⟨l',List.Perm.refl _,h⟩
 | cons x h ih =>
  intro l' h2
  cases l' with
  | nil=>cases h2
  | cons y l' =>
   rw [List.map_cons] at h2
   injection h2 with h3 h4
   obtain ⟨l'',a,b⟩:=ih l' h4
   exact ⟨y :: l'',a.cons y,by rw [List.map_cons,h3,b]⟩
 | swap x y l =>
  intro l' h2
  match l',h2 with
  | [],h2=>cases h2
  | [z],h2=>cases h2
  | z :: w :: l',h2 =>
   simp only [List.map_cons] at h2
   injection h2 with h3 h4
   injection h4 with h4 h5
   exact ⟨w :: z :: l',List.Perm.swap z w l',by simp only [List.map_cons]; rw [h3,h4,h5]⟩
 | trans h1 h2 ih1 ih2 =>
  intro l' h
  obtain ⟨m,a,b⟩:=ih2 l' h
  obtain ⟨m',a',b'⟩:=ih1 m b
  exact ⟨m',a'.trans a,b'⟩
section
variable {n e c:Nat} {f:Nat→Nat→Nat} {cI xx:Nat→Nat} {K:Type} [CommRing K] {p:Nat}
structure dw (K:Type) [CommRing K] (n:Nat) (f:Nat→Nat→Nat) (e c:Nat) (cI:Nat→Nat) (tt:Nat→Nat→K) (vv:Nat→Nat):Prop where
 chr:∀ i,i < c→jT n f e cI (tt i)
 nz:∀ i,i < c→bI n f e (tt i) (tt i) e ≠ 0
 Gh:∀ i,i < c→∃ k,CY n f e (tt i) k (vv i)
 ge:∀ i,i < c→1≤vv i
 sq:∀ i,i < c→vv i * vv i≤n∧bI n f e (tt i) (tt i) e * ((vv i:K) * vv i)=(n:K)
 ort:∀ i j,i < c→j < c→i ≠ j→bI n f e (tt i) (tt j) e=0
 Gj:∀ a,a < n→sm (fun i=>(vv i:K) * vv i * tt i a) c=if a=e then (n:K) else 0
 sum:sn (fun i=>vv i * vv i) c=n
 all:∀ t,jT n f e cI t→∃ i,i < c∧∀ a,a < n→t a=tt i a
theorem DS {g g' : Nat→Nat} : ∀ {m:Nat},(∀ i,i < m→g i≤g' i)→sn g m≤sn g' m
 | 0,_=>Nat.le_refl _
 | m + 1,h=>Nat.add_le_add (DS fun i hi=>h i (by omega)) (h m (by omega))
end
variable {n e:Nat} {m:List Int}
theorem FH (h:GT n m n e):aJ m n e∈HB:=by
 have hd:=jh h n (Nat.le_refl _)
 have h1:=h.2.1.pos
 have h2:=h.2.1.big
 have a:=List.all_eq_true.1 AM n (List.mem_range.2 (by omega))
 have hE:=Nat.le_of_dvd (by omega) hd
 have b:=List.all_eq_true.1 a (fx m n e n) (List.mem_range.2 (by omega))
 simp only [Bool.or_eq_true,decide_eq_true_eq] at b
 rcases b with (b | b) | b
 ·omega
 ·exact absurd (Nat.mod_eq_zero_of_dvd hd) b
 exact List.contains_iff_mem.1 b
theorem Cj (h:GT n m n e) [NeZero (aJ m n e)]:∃ (tt:Nat→Nat→Fin (aJ m n e)) (vv:Nat→Nat),dw (Fin (aJ m n e)) n (op m n) e (aS m n e) (bS m n e) tt vv ∧
  ∀ i,i < aS m n e→(∀ a,a < n→(vc ((kV m n e).getD i []) (bS m n e a):Fin (aJ m n e))=(vv i:Nat) * tt i a)∧((kV m n e).getD i []).getD (pC m n e) 0=(vv i:Nat):=by
 obtain ⟨P,p1,p2⟩:=sM h
 have hp3:=P.three
 have H:=lS h
 have C:=mM h
 have G:=h.2.2
 have R:=H.R
 have F:=R.fld
 obtain ⟨lam,Fm⟩:=H.HV
 have hSl:(dG m n e).length=aS m n e:=Fm.len
 have hrng:(dG m n e).map (iP m n e)=(List.range (aS m n e)).map fun q=>iP m n e ((dG m n e).getD q []):=by
  refine List.ext_getElem (by simp [hSl]) fun q hq _=>?_
  simp only [List.length_map] at hq
  simp [List.getD,List.getElem?_eq_getElem hq]
 obtain ⟨L,hL,hT⟩:=tu (fun q=>iP m n e ((dG m n e).getD q [])) (sV m n e) _ hrng
 have hLl:L.length=aS m n e:=by rw [hL.length_eq,List.length_range]
 have hLn:L.Nodup:=hL.nodup_iff.2 List.nodup_range
 have hLm:∀ i,i < aS m n e→L.getD i 0 < aS m n e:=fun i hi=>List.mem_range.1 (hL.mem_iff.1 (aC (by omega)))
 have hLi:∀ i j,i < aS m n e→j < aS m n e→L.getD i 0=L.getD j 0→i=j:=fun i j hi hj hij=>by
  refine (List.getElem_inj hLn (h₀:=by omega) (h₁:=by omega)).1 ?_
  simpa [List.getD,List.getElem?_eq_getElem (show i < L.length by omega),List.getElem?_eq_getElem (show j < L.length by omega)] using hij
 have hTg:∀ i,i < aS m n e→(kV m n e).getD i []=iP m n e ((dG m n e).getD (L.getD i 0) []):=fun i hi=>by
  rw [hT]; simp [List.getD,List.getElem?_map,List.getElem?_eq_getElem (show i < L.length by omega)]
 have hpr:∀ i,∃ v:Nat,i < aS m n e→∃ k,CY n (op m n) e (bl (bS m n e) (fun i=>((dL (aJ m n e) (cY m n e i:Nat):Int):Fin (aJ m n e))) (lam (L.getD i 0))) k v:=fun i=>by
  by_cases hi:i < aS m n e
  ·obtain ⟨v,hv⟩:=C.Hd R (fun a=>sL a) (fun d d1 d2=>Fv (FH h) d1 (by have:=h.2.1.big; omega)) p1 H.nz H.cz (fun a ha=>Ao h ha) (Fm.chr _ (hLm i hi)) (Fm.nz _ (hLm i hi))
   exact ⟨v,fun _=>hv⟩
  exact ⟨0,fun h0=>absurd h0 hi⟩
 obtain ⟨vv,hvv⟩:=Classical.axiomOfChoice hpr
 have hsq:∀ i,i < aS m n e→vv i * vv i≤n:=fun i hi=>by
  obtain ⟨k,hk⟩:=hvv i hi
  exact C.IG R p1 H.nz (Fm.chr _ (hLm i hi)) (Fm.nz _ (hLm i hi)) hk
 have hle:∀ i,i < aS m n e→1≤vv i∧vv i≤n:=fun i hi=>by
  obtain ⟨k,hk⟩:=hvv i hi
  exact ⟨hk.ge,hk.le⟩
 have hss:∀ i,i < aS m n e→bI n (op m n) e (bl (bS m n e) (fun i=>((dL (aJ m n e) (cY m n e i:Nat):Int):Fin (aJ m n e))) (lam (L.getD i 0))) (bl (bS m n e) (fun i=>((dL (aJ m n e) (cY m n e i:Nat):Int):Fin (aJ m n e))) (lam (L.getD i 0))) e * (((vv i:Nat):Fin (aJ m n e)) * ((vv i:Nat):Fin (aJ m n e)))=(n:Nat):=fun i hi=>by
  obtain ⟨k,hk⟩:=hvv i hi
  exact hk.sq
 have hdv:∀ i,i < aS m n e→pI (aJ m n e) n (bS m n e e) (aS m n e) (kn m n e) (cY m n e) ((dG m n e).getD (L.getD i 0) [])=vv i:=fun i hi=>by
  have hr:=rW h Fm (hLm i hi)
  obtain ⟨v1,v2⟩:=hle i hi
  have h1:=hr.mn (vv i) v1 (by omega) (hss i hi)
  have h2:=hr.dd
  have h3:=hss i hi
  have hz:=Fm.nz _ (hLm i hi)
  have hd1:1≤pI (aJ m n e) n (bS m n e e) (aS m n e) (kn m n e) (cY m n e) ((dG m n e).getD (L.getD i 0) []):=by unfold pI Hz; omega
  have h0:pI (aJ m n e) n (bS m n e e) (aS m n e) (kn m n e) (cY m n e) ((cT (aJ m n e) (fw m n e) [aO (aS m n e) (aS m n e)] (aS m n e)).getD (L.getD i 0) [])=pI (aJ m n e) n (bS m n e e) (aS m n e) (kn m n e) (cY m n e) ((dG m n e).getD (L.getD i 0) []):=rfl
  rw [h0] at h1 h2
  generalize pI (aJ m n e) n (bS m n e e) (aS m n e) (kn m n e) (cY m n e) ((dG m n e).getD (L.getD i 0) [])=d at *
  generalize bI n (op m n) e (bl (bS m n e) (fun i=>((dL (aJ m n e) (cY m n e i:Nat):Int):Fin (aJ m n e))) (lam (L.getD i 0))) (bl (bS m n e) (fun i=>((dL (aJ m n e) (cY m n e i:Nat):Int):Fin (aJ m n e))) (lam (L.getD i 0))) e=s at *
  obtain ⟨si,hsi⟩:=F.1 _ hz
  have h4:(((d:Nat):Fin (aJ m n e)) - ((vv i:Nat):Fin (aJ m n e))) * (((d:Nat):Fin (aJ m n e)) + ((vv i:Nat):Fin (aJ m n e)))=0:=by grind
  rcases F.mul h4 with h5 | h5
  ·exact R.gC (p:=aJ m n e) (by omega) (by omega) (by grind)
  exfalso
  exact qS (p:=aJ m n e) (d + vv i) (by omega) (by omega) (by rw [Semiring.natCast_add]; exact h5)
 have hort:∀ i j,i < aS m n e→j < aS m n e→i ≠ j→bI n (op m n) e (bl (bS m n e) (fun i=>((dL (aJ m n e) (cY m n e i:Nat):Int):Fin (aJ m n e))) (lam (L.getD i 0))) (bl (bS m n e) (fun i=>((dL (aJ m n e) (cY m n e i:Nat):Int):Fin (aJ m n e))) (lam (L.getD j 0))) e=0:=fun i j hi hj hij=>Fm.ort _ _ (hLm i hi) (hLm j hj) fun hh=>hij (hLi i j hi hj hh)
 have hent:∀ i,i < aS m n e→∀ a,a < n→(vc ((kV m n e).getD i []) (bS m n e a):Fin (aJ m n e))=(vv i:Nat) * bl (bS m n e) (fun i=>((dL (aJ m n e) (cY m n e i:Nat):Int):Fin (aJ m n e))) (lam (L.getD i 0)) a:=fun i hi a ha=>by
  have hr:=rW h Fm (hLm i hi)
  have hw:(vc (xj (aJ m n e) (pC m n e) ((dG m n e).getD (L.getD i 0) [])):Nat→Fin (aJ m n e))=lam (L.getD i 0):=hr.w
  rw [hTg i hi]
  unfold iP
  rw [D4 R (eo h ha).1,hw]
  have hd:pI (aJ m n e) n (pC m n e) (aS m n e) (kn m n e) (cY m n e) ((dG m n e).getD (L.getD i 0) [])=vv i:=hdv i hi
  rw [hd]
  unfold bl
  grind
 have hch:∀ i,i < aS m n e→jT n (op m n) e (bS m n e) (bl (bS m n e) (fun i=>((dL (aJ m n e) (cY m n e i:Nat):Int):Fin (aJ m n e))) (lam (L.getD i 0))):=fun i hi=>Fm.chr _ (hLm i hi)
 have hnz:∀ i,i < aS m n e→bI n (op m n) e (bl (bS m n e) (fun i=>((dL (aJ m n e) (cY m n e i:Nat):Int):Fin (aJ m n e))) (lam (L.getD i 0))) (bl (bS m n e) (fun i=>((dL (aJ m n e) (cY m n e i:Nat):Int):Fin (aJ m n e))) (lam (L.getD i 0))) e ≠ 0:=fun i hi=>Fm.nz _ (hLm i hi)
 have hcol:∀ a,a < n→sm (fun i=>((vv i:Nat):Fin (aJ m n e)) * ((vv i:Nat):Fin (aJ m n e)) * bl (bS m n e) (fun i=>((dL (aJ m n e) (cY m n e i:Nat):Int):Fin (aJ m n e))) (lam (L.getD i 0)) a) (aS m n e)=if a=e then ((n:Nat):Fin (aJ m n e)) else 0:=fun a ha=>by
  obtain ⟨t1,t2,t3,t4,t5⟩:=k6 h
  have hal:=(eo h ha).1
  have hol:=(eo h G.el).1
  have h5:=t5 (bS m n e e) (bS m n e a) hol hal
  rw [wy,t3] at h5
  have hOx:qv m n e (bS m n e e)=e:=by
   have hx:=C.xl _ hol
   exact C.zz hx (C.cx _ hol)
  have hJO:kn m n e (bS m n e e)=bS m n e e:=by
   unfold kn
   rw [hOx,G.fk]
  rw [hJO] at h5
  have e1:sm (fun i=>(vc ((kV m n e).getD i []) (bS m n e a):Fin (aJ m n e)) * vc ((kV m n e).getD i []) (bS m n e e)) (aS m n e)=sm (fun i=>((vv i:Nat):Fin (aJ m n e)) * ((vv i:Nat):Fin (aJ m n e)) * bl (bS m n e) (fun i=>((dL (aJ m n e) (cY m n e i:Nat):Int):Fin (aJ m n e))) (lam (L.getD i 0)) a) (aS m n e):=ai fun i hi=>by
   rw [hent i hi a ha,hent i hi e G.el,(hch i hi).one]; grind
  rw [e1] at h5
  by_cases hae:a=e
  ·rw [if_pos hae]
   rw [if_pos (by rw [hae])] at h5
   have hS1:cY m n e (bS m n e a)=1:=by
    have hk:=pb (K:=Fin (aJ m n e)) h hol
    have hk1:sf (Fin (aJ m n e)) n (bS m n e) (bS m n e e)=1:=C.pz G.el _ (fun g hg hge hne=>absurd (C.zz hg hge) hne) rfl
    rw [hk1] at hk
    have:=jC h hol
    rw [hae]
    refine (R.gC (p:=aJ m n e) (by omega) (by omega) ?_)
    rw [← hk,Semiring.natCast_one]
   rw [hS1] at h5
   rw [← h5]
   have:((1:Nat):Fin (aJ m n e))=1:=Semiring.natCast_one
   rw [this]; grind
  rw [if_neg hae]
  rw [if_neg (fun hh=>hae (C.zz ha hh.symm))] at h5
  have hS:=jC h hal
  rcases F.mul h5 with h6 | h6
  ·exact h6
  exact absurd h6 (qS _ hS.1 (by omega))
 have hsum0:=C.DT R p1 H.nz (m:=aS m n e) (vv:=vv) hch hnz (fun i hi=>⟨hsq i hi,hss i hi⟩) hort
 refine ⟨_,vv,⟨hch,hnz,hvv,fun i hi=>(hle i hi).1,fun i hi=>⟨hsq i hi,hss i hi⟩,hort,hcol,?_,fun t ht=>?_⟩,fun i hi=>⟨hent i hi,?_⟩⟩
 ·have h1:=hcol e G.el
  rw [if_pos rfl] at h1
  refine R.gC (p:=aJ m n e) (by omega) (by omega) ?_
  rw [rC,← h1]
  exact ai fun i hi=>by rw [(hch i hi).one,Semiring.natCast_mul]; grind
 ·refine Classical.byContradiction fun hno=>?_
  have hne:∀ i,i < aS m n e→∃ a,a < n∧t a ≠ bl (bS m n e) (fun i=>((dL (aJ m n e) (cY m n e i:Nat):Int):Fin (aJ m n e))) (lam (L.getD i 0)) a:=fun i hi=>Classical.byContradiction fun hc=>hno ⟨i,hi,fun a ha=>Classical.byContradiction fun hc2=>hc ⟨a,ha,hc2⟩⟩
  have ho:∀ i,i < aS m n e→∀ b,b < n→bI n (op m n) e t (bl (bS m n e) (fun i=>((dL (aJ m n e) (cY m n e i:Nat):Int):Fin (aJ m n e))) (lam (L.getD i 0))) b=0:=fun i hi b hb=>by
   obtain ⟨a,ha,h1⟩:=hne i hi
   exact C.xy F H.nz ht (hch i hi) ha h1 hb
  have h1:sm (fun w=>t w * sm (fun i=>((vv i:Nat):Fin (aJ m n e)) * ((vv i:Nat):Fin (aJ m n e)) * bl (bS m n e) (fun i=>((dL (aJ m n e) (cY m n e i:Nat):Int):Fin (aJ m n e))) (lam (L.getD i 0)) (op m n (iv n (op m n) e w) e)) (aS m n e)) n=0:=by
   have e1:∀ w,w < n→t w * sm (fun i=>((vv i:Nat):Fin (aJ m n e)) * ((vv i:Nat):Fin (aJ m n e)) * bl (bS m n e) (fun i=>((dL (aJ m n e) (cY m n e i:Nat):Int):Fin (aJ m n e))) (lam (L.getD i 0)) (op m n (iv n (op m n) e w) e)) (aS m n e)=sm (fun i=>((vv i:Nat):Fin (aJ m n e)) * ((vv i:Nat):Fin (aJ m n e)) * (t w * bl (bS m n e) (fun i=>((dL (aJ m n e) (cY m n e i:Nat):Int):Fin (aJ m n e))) (lam (L.getD i 0)) (op m n (iv n (op m n) e w) e))) (aS m n e):=fun w hw=>by
    rw [← aL]; exact ai fun i hi=>by grind
   rw [ai e1,aW]
   refine aV fun i hi=>?_
   rw [aL,← C.uM _ _ G.el,ho i hi e G.el]; grind
  rw [bc (i:=e) G.el fun w hw hwe=>by
   rw [hcol _ (G.cl _ _ (G.az hw) G.el),if_neg fun hh=>hwe (by rw [G.one_r _ (G.az hw)] at hh; rw [← G.cQ hw,hh,G.fk])]; grind] at h1
  rw [G.fk,G.one_l e G.el,hcol e G.el,if_pos rfl,ht.one] at h1
  exact H.nz (by grind)
 have hr:(kV m n e).getD i []∈kV m n e:=aC (by rw [(k6 h).2.2.1]; exact hi)
 have hrg:=((k6 h).2.2.2.1 _ hr).2
 have h1:=hent i hi e G.el
 rw [(hch i hi).one] at h1
 have:=hle i hi
 refine Ji R (hrg _) ⟨by omega,by omega⟩ ?_
 rw [R.dU]
 show (vc ((kV m n e).getD i []) (bS m n e e):Fin (aJ m n e))=_
 rw [h1]; grind
end Go.Proofs.YtjlmpmidchddjaaDoor
namespace Go.Proofs.YtjlmpmidchddjaaDoor
open Lean.Grind
attribute [local instance] Lean.Grind.Semiring.natCast Lean.Grind.Ring.intCast
section
variable {n e c:Nat} {f:Nat→Nat→Nat} {cI xx:Nat→Nat} {K:Type} [CommRing K] {p:Nat}
theorem GC.BF (h:GC n f e c cI xx) {y a b:Nat} (hy:y < n) (ha:a < n) (hb:b < n):f (bT n f e y a) (bT n f e y b)=bT n f e y (f a b):=by
 have G:=h.G
 have hi:=G.az hy
 unfold bT
 rw [G.assoc _ _ _ (G.cl _ _ hi ha) hy (G.cl _ _ (G.cl _ _ hi hb) hy),← G.assoc y _ y hy (G.cl _ _ hi hb) hy,h.nq hy hb,← G.assoc _ _ _ (G.cl _ _ hi ha) hb hy,G.assoc _ _ _ hi ha hb]
def pU (n:Nat) (f:Nat→Nat→Nat) (t:Nat→K):K:=sm (fun g=>t (f g g)) n
theorem GC.IX (h:GC n f e c cI xx) (F:my K) (hn:(n:K) ≠ 0) {t:Nat→K} (ht:jT n f e cI t) {x:Nat} (hx:x < n):sm (fun g=>t (f (f g g) x)) n=pU n f t * t x:=by
 have G:=h.G
 have e1:(n:K) * sm (fun g=>t (f (f g g) x)) n=(n:K) * (pU n f t * t x):=by
  have e2:∀ y,y < n→sm (fun g=>t (f (f g g) x)) n=sm (fun g=>t (f (bT n f e y (f g g)) x)) n:=fun y hy=>by
   rw [← h.CQ hy fun g=>t (f (f g g) x)]
   exact ai fun g hg=>by rw [h.BF hy hg hg]
  rw [← dN,ai e2,aW]
  rw [ai (g:=fun g=>(n:K) * (t (f g g) * t x)) fun g hg=>ht.mul _ _ (G.cl _ _ hg hg) hx,aL,bH]
  rfl
 obtain ⟨ni,hni⟩:=F.1 _ hn
 grind
theorem GC.Hl (h:GC n f e c cI xx) (F:my K) (hn:(n:K) ≠ 0) {t:Nat→K} (ht:jT n f e cI t):pU n f t * pU n f t=(n:K) * bI n f e t t e∨pU n f t=0:=by
 have G:=h.G
 have e1:pU n f t * pU n f t=(n:K) * sm (fun a=>t a * t a) n:=by
  have e2:∀ k,k < n→pU n f t * t (f k k)=sm (fun g=>t (f (f g g) (f k k))) n:=fun k hk=>(h.IX F hn ht (G.cl _ _ hk hk)).symm
  have e3:pU n f t * pU n f t=sm (fun k=>sm (fun g=>t (f (f g g) (f k k))) n) n:=by
   rw [← ai e2,aL]; rfl
  rw [e3,aW]
  have e4:∀ g,g < n→sm (fun k=>t (f (f g g) (f k k))) n=sm (fun a=>t (f (bT n f e (iv n f e g) a) a)) n:=fun g hg=>by
   have hi:=G.az hg
   rw [← h.fg hi fun k=>t (f (f g g) (f k k))]
   refine ai fun a ha=>?_
   have:f (f g g) (f (f (iv n f e g) a) (f (iv n f e g) a))=f (bT n f e (iv n f e g) a) a:=by
    unfold bT
    rw [G.cQ hg,G.assoc g g _ hg hg (G.cl _ _ (G.cl _ _ hi ha) (G.cl _ _ hi ha)),← G.assoc g (f (iv n f e g) a) _ hg (G.cl _ _ hi ha) (G.cl _ _ hi ha),h.nq hg ha,← G.assoc a (iv n f e g) a ha hi ha,← G.assoc g (f a (iv n f e g)) a hg (G.cl _ _ ha hi) ha,← G.assoc g a _ hg ha hi]
   rw [this]
  rw [ai e4,aW]
  have e5:∀ a,a < n→sm (fun g=>t (f (bT n f e (iv n f e g) a) a)) n=(n:K) * (t a * t a):=fun a ha=>by
   rw [h.yX fun g=>t (f (bT n f e g a) a)]
   exact ht.mul a a ha ha
  rw [ai e5,aL]
 rcases h.real F hn ht with hr | hr
 ·left
  rw [e1]
  congr 1
  show _=sm (fun z=>t (f e z) * t (iv n f e z)) n
  exact ai fun z hz=>by rw [G.one_l z hz,← hr z hz]
 right
 have e2:sm (fun a=>t a * t a) n=0:=by
  rw [← hr]
  exact ai fun z hz=>by
   show _=t (f e z) * t (iv n f e (iv n f e z))
   rw [G.one_l z hz,G.cQ hz]
 rw [e2] at e1
 have e3:pU n f t * pU n f t=0:=by rw [e1]; grind
 rcases F.mul e3 with h1 | h1<;>exact h1
theorem dw.ind (h:GC n f e c cI xx) (F:my K) (hn:(n:K) ≠ 0) {tt:Nat→Nat→K} {vv:Nat→Nat} (A:dw K n f e c cI tt vv) {ni:K} (hni:(n:K) * ni=1) {i:Nat} (hi:i < c) :
  (vv i:K) * pU n f (tt i) * ni=0∨(vv i:K) * pU n f (tt i) * ni=1∨(vv i:K) * pU n f (tt i) * ni = -1:=by
 rcases h.Hl F hn (A.chr i hi) with h1 | h1
 ·right
  obtain ⟨_,h2⟩:=A.sq i hi
  have e1:((vv i:K) * pU n f (tt i) * ni - 1) * ((vv i:K) * pU n f (tt i) * ni + 1)=0:=by
   have e2:((vv i:K) * pU n f (tt i) * ni) * ((vv i:K) * pU n f (tt i) * ni)=1:=by
    have e3:(vv i:K) * vv i * (pU n f (tt i) * pU n f (tt i))=(n:K) * n:=by rw [h1]; grind
    grind
   grind
  rcases F.mul e1 with h3 | h3
  ·left; grind
  right; grind
 left; rw [h1]; grind
end
end Go.Proofs.YtjlmpmidchddjaaDoor
namespace Go.Proofs.YtjlmpmidchddjaaDoor
open Lean.Grind
attribute [local instance] Lean.Grind.Semiring.natCast Lean.Grind.Ring.intCast
section
variable {n e c:Nat} {f:Nat→Nat→Nat} {cI xx:Nat→Nat} {K:Type} [CommRing K] {p:Nat} {TT:List (List (List Int))} {io:Nat→K}
theorem iS.HL (h:iS K p n f e c cI xx TT io):io (cI e)=1∧xx (cI e)=e:=by
 have C:=h.C
 have G:=C.G
 have hol:=C.lt e G.el
 have h1:=h.io (cI e) hol
 have hk1:sf K n cI (cI e)=1:=C.pz G.el _ (fun g hg hge hne=>absurd (C.zz hg hge) hne) rfl
 rw [hk1] at h1
 exact ⟨by rw [← h1]; grind,C.zz (C.xl _ hol) (C.cx _ hol)⟩
theorem iS.H6 (h:iS K p n f e c cI xx TT io) (hsur:∀ a:K,∃ x:Nat,x < p∧(x:K)=a) (hw:∀ d,2≤d→d≤n→Gb p d) (p1:2 * n < p):∃ (tt:Nat→Nat→K) (vv:Nat→Nat),dw K n f e c cI tt vv:=by
 have C:=h.C
 have G:=C.G
 have R:=h.R
 have F:=R.fld
 obtain ⟨lam,Fm⟩:=h.HV
 have hpr:∀ i,∃ v:Nat,i < c→∃ k,CY n f e (bl cI io (lam i)) k v:=fun i=>by
  by_cases hi:i < c
  ·obtain ⟨v,hv⟩:=C.Hd R hsur hw p1 h.nz h.cz h.pw (Fm.chr i hi) (Fm.nz i hi)
   exact ⟨v,fun _=>hv⟩
  exact ⟨0,fun h0=>absurd h0 hi⟩
 obtain ⟨vv,hvv⟩:=Classical.axiomOfChoice hpr
 have hsq:∀ i,i < c→vv i * vv i≤n∧bI n f e (bl cI io (lam i)) (bl cI io (lam i)) e * ((vv i:K) * vv i)=(n:K):=fun i hi=>by
  obtain ⟨k,hk⟩:=hvv i hi
  exact ⟨C.IG R p1 h.nz (Fm.chr i hi) (Fm.nz i hi) hk,hk.sq⟩
 have hge:∀ i,i < c→1≤vv i:=fun i hi=>by
  obtain ⟨k,hk⟩:=hvv i hi
  exact hk.ge
 obtain ⟨HL,xo1⟩:=h.HL
 have hcol:∀ a,a < n→sm (fun i=>(vv i:K) * vv i * bl cI io (lam i) a) c=if a=e then (n:K) else 0:=fun a ha=>by
  have hal:=C.lt a ha
  have hol:=C.lt e G.el
  have h5:=Cw.Gj h Fm (d:=fun q=>(vv q:K)) (fun q hq=>by have:=(hsq q hq).2; grind) hol hal
  have e1:sm (fun i=>(vv i:K) * vv i * bl cI io (lam i) a) c=sm (fun q=>((vv q:K) * lam q (cI a) * io (cI a)) * ((vv q:K) * lam q (cI (iv n f e (xx (cI e)))) * io (cI e))) c:=ai fun q hq=>by
   rw [xo1,G.fk,Fm.one q hq,HL]
   unfold bl
   grind
  rw [e1,h5]
  by_cases hae:a=e
  ·rw [if_pos hae,if_pos (by rw [hae]),hae,HL]; grind
  rw [if_neg hae,if_neg fun hh=>hae (C.zz ha hh.symm)]
 have hsum0:=C.DT R p1 h.nz (m:=c) (vv:=vv) Fm.chr Fm.nz hsq Fm.ort
 refine ⟨_,vv,⟨Fm.chr,Fm.nz,hvv,hge,hsq,Fm.ort,hcol,?_,fun t ht=>?_⟩⟩
 ·have h1:=hcol e G.el
  rw [if_pos rfl] at h1
  refine R.gC (p:=p) (by omega) (by omega) ?_
  rw [rC,← h1]
  exact ai fun i hi=>by rw [(Fm.chr i hi).one,Semiring.natCast_mul]; grind
 refine Classical.byContradiction fun hno=>?_
 have hne:∀ i,i < c→∃ a,a < n∧t a ≠ bl cI io (lam i) a:=fun i hi=>Classical.byContradiction fun hc=>hno ⟨i,hi,fun a ha=>Classical.byContradiction fun hc2=>hc ⟨a,ha,hc2⟩⟩
 have ho:∀ i,i < c→∀ b,b < n→bI n f e t (bl cI io (lam i)) b=0:=fun i hi b hb=>by
  obtain ⟨a,ha,h1⟩:=hne i hi
  exact C.xy F h.nz ht (Fm.chr i hi) ha h1 hb
 have h1:sm (fun w=>t w * sm (fun i=>(vv i:K) * vv i * bl cI io (lam i) (f (iv n f e w) e)) c) n=0:=by
  have e1:∀ w,w < n→t w * sm (fun i=>(vv i:K) * vv i * bl cI io (lam i) (f (iv n f e w) e)) c=sm (fun i=>(vv i:K) * vv i * (t w * bl cI io (lam i) (f (iv n f e w) e))) c:=fun w hw=>by
   rw [← aL]; exact ai fun i hi=>by grind
  rw [ai e1,aW]
  refine aV fun i hi=>?_
  rw [aL,← C.uM _ _ G.el,ho i hi e G.el]; grind
 rw [bc (i:=e) G.el fun w hw hwe=>by
  rw [hcol _ (G.cl _ _ (G.az hw) G.el),if_neg fun hh=>hwe (by rw [G.one_r _ (G.az hw)] at hh; rw [← G.cQ hw,hh,G.fk])]; grind] at h1
 rw [G.fk,G.one_l e G.el,hcol e G.el,if_pos rfl,ht.one] at h1
 exact h.nz (by grind)
end
theorem C7 {n e : Nat} {m : List Int} (h : GT n m n e) {p : Nat} [NeZero p] (P : PG p) (p1 : 2 * n < p) (hpw : ∀ a, a < n → pw (op m n) e a p = a) : iS (Fin p) p n (op m n) e (aS m n e) (bS m n e) (qv m n e) (fw m n e) (fun i => ((dL p (cY m n e i : Nat) : Int) : Fin p)) := by
  have R := sI P
  have hb := h.2.1.pos
  exact {
    C := mM h
    R := R
    nz := qS n (by omega) (by omega)
    cz := qS
    io := fun i hi => by
      obtain ⟨s1, s2, _⟩ := jC h hi
      have := R.toRd.inv (x := (cY m n e i : Nat)) (by omega) (by omega)
      rw [pb h hi]
      rwa [R.dU] at this
    pw := hpw
    len := fun i hi => by
      have e1 : (fw m n e).getD i [] = iO (aS m n e) (ct n (op m n) e i) := by simp [fw, List.getD, List.getElem?_map, List.getElem?_range hi]
      rw [e1, du]
    yu := fun i j k hi hj hk => zc h hi hj hk }
section
variable {n e c:Nat} {f:Nat→Nat→Nat} {cI xx:Nat→Nat} {K:Type} [CommRing K] {p:Nat}
theorem dw.ma (h:GC n f e c cI xx) (R:Rp K p) (h2n:2 * n < p) (hn0:(n:K) ≠ 0) {tt:Nat→Nat→K} {vv:Nat→Nat} (A:dw K n f e c cI tt vv) {i:Nat} (hi:i < c) (hv:vv i=1) {a b:Nat} (ha:a < n) (hb:b < n):tt i (f a b)=tt i a * tt i b:=by
 have G:=h.G
 have F:=R.fld
 obtain ⟨k,hk⟩:=A.Gh i hi
 have ht:=A.chr i hi
 have hs:=A.nz i hi
 have hq:=hk.sq
 rw [hv] at hk hq
 rw [Semiring.natCast_one] at hq
 obtain ⟨si,hsi⟩:=F.1 _ hs
 obtain ⟨w1,w2,w3,w4⟩:=h.Fq F hn0 ht hsi
 have ke:cv n f e k (eD n si (tt i))=k:=(w4 k hk.W.1).1 hk.W
 have hTc:cv n f e (eD n si (tt i)) k=cv n f e k (eD n si (tt i)):=by
  rw [cP h (a':=fun x=>si * tt i x) (fun x hx=>ff si (tt i) hx) (b':=k) (fun _ _=>rfl),bD,h.Iq ht.cl]
  rw [cP h (a:=k) (a':=k) (b:=eD n si (tt i)) (fun _ _=>rfl) (b':=fun x=>si * tt i x) (fun x hx=>ff si (tt i) hx),aZ]
 have hdd:cv n f e (fun x=>eD n si (tt i) x + (-1) * k x) (fun x=>eD n si (tt i) x + (-1) * k x)=fun x=>eD n si (tt i) x + (-1) * k x:=by
  rw [fC (eD n si (tt i)) (fun x=>(-1) * k x),bD,ej (eD n si (tt i)) (eD n si (tt i)),ej k (eD n si (tt i)),aZ,aZ,w2,hTc,ke,hk.id]
  funext x; grind
 obtain ⟨r,r1,r2,r3⟩:=h.sY F hdd
 have hr0:r=0:=R.gC (p:=p) (by omega) (by have:=R.two; omega) (by
  have e1:=hk.rk
  rw [Semiring.natCast_one] at e1
  rw [← r2,w3,Semiring.natCast_zero]
  have e2:(n:K) * si=1:=by rw [← hq]; grind
  grind)
 have hek:∀ x,eD n si (tt i) x=k x:=fun x=>by
  have:=congrFun (r3 hr0) x
  grind
 have hiv:=G.az ha
 obtain ⟨l,hl⟩:=hk.one (dl K (iv n f e a))
 have e1:cv n f e k (cv n f e (dl K (iv n f e a)) k)=cv n f e (dl K (iv n f e a)) k:=by
  rw [← ke,cP h (a:=cv n f e k (eD n si (tt i))) (a':=eD n si (tt i)) (fun x _=>by rw [ke]; exact (hek x).symm) (b':=cv n f e (dl K (iv n f e a)) (cv n f e k (eD n si (tt i)))) (fun _ _=>rfl),ke]
  have e2:cv n f e (eD n si (tt i)) (cv n f e (dl K (iv n f e a)) k)=cv n f e (cv n f e (dl K (iv n f e a)) k) (eD n si (tt i)):=by
   rw [cP h (a':=fun x=>si * tt i x) (fun x hx=>ff si (tt i) hx) (b':=cv n f e (dl K (iv n f e a)) k) (fun _ _=>rfl),bD,h.Iq ht.cl]
   rw [cP h (a:=cv n f e (dl K (iv n f e a)) k) (a':=cv n f e (dl K (iv n f e a)) k) (b:=eD n si (tt i)) (fun _ _=>rfl) (b':=fun x=>si * tt i x) (fun x hx=>ff si (tt i) hx),aZ]
  rw [e2,h.gN,ke]
 rw [e1] at hl
 have hval:∀ x,x < n→tt i (f a x)=l * tt i x:=fun x hx=>by
  have h1:=congrFun hl x
  rw [h.uB k hiv hx,G.cQ ha,← hek,← hek,ff _ _ (G.cl _ _ ha hx),ff _ _ hx] at h1
  have h2:bI n f e (tt i) (tt i) e * (si * tt i (f a x))=bI n f e (tt i) (tt i) e * (l * (si * tt i x)):=by rw [h1]
  grind
 have h0:=hval e G.el
 rw [G.one_r a ha,ht.one] at h0
 rw [hval b hb,h0]; grind
end
end Go.Proofs.YtjlmpmidchddjaaDoor
namespace Go.Proofs.YtjlmpmidchddjaaDoor
def Ht:Nat→Nat→Nat→Nat→Nat
 | 0,_,_,p=>1 % p
 | k + 1,a,n,p=>if n=0 then 1 % p else if n % 2=1 then a * Ht k (a * a % p) (n / 2) p % p else Ht k (a * a % p) (n / 2) p
theorem oW (p:Nat):∀ k a n,n < 2 ^ k→Ht k a n p=a ^ n % p
 | 0,a,n,h=>by
  have:n=0:=by rw [Nat.pow_zero] at h; omega
  subst this; rfl
 | k + 1,a,n,h=>by
  rw [Ht]
  by_cases h0:n=0
  ·rw [if_pos h0,h0]; rfl
  rw [if_neg h0]
  have hk:n / 2 < 2 ^ k:=by rw [Nat.pow_succ] at h; omega
  have ih:=oW p k (a * a % p) (n / 2) hk
  have e1:(a * a % p) ^ (n / 2) % p=a ^ (2 * (n / 2)) % p:=by
   rw [← Nat.pow_mod,← Nat.pow_two,← Nat.pow_mul]
  rw [ih,e1]
  by_cases h1:n % 2=1
  ·rw [if_pos h1]
   have e2:n=2 * (n / 2) + 1:=by omega
   rw [Nat.mul_mod_mod,Nat.mul_comm,← Nat.pow_succ]
   exact congrArg (fun m=>a ^ m % p) e2.symm
  rw [if_neg h1]
  exact congrArg (fun m=>a ^ m % p) (show 2 * (n / 2)=n by omega)
theorem zB {m:Nat} : ∀ (l:List Nat),(∀ q∈l,∀ d,d ∣ q→d=1∨d=q)→m ∣ l.foldr (· * ·) 1→m=1∨∃ q∈l,q ∣ m
 | [],_,h=>.inl (Nat.dvd_one.1 h)
 | q :: l,hq,h=>by
  rcases hq q (by simp) (Nat.gcd m q) (Nat.gcd_dvd_right _ _) with h1 | h1
  ·have hc:Nat.Coprime m q:=h1
   have h2:m ∣ l.foldr (· * ·) 1:=hc.dvd_of_dvd_mul_left (by simpa using h)
   rcases zB l (fun x hx=>hq x (by simp [hx])) h2 with h3 | ⟨x,h3,h4⟩
   ·exact .inl h3
   exact .inr ⟨x,by simp [h3],h4⟩
  exact .inr ⟨q,by simp,by rw [← h1]; exact Nat.gcd_dvd_left _ _⟩
theorem GW {p g:Nat} (hp:3≤p) (hg:0 < g) (hgp:g < p) (l:List Nat) (hl:∀ q∈l,0 < q∧∀ d,d ∣ q→d=1∨d=q) (hN:l.foldr (· * ·) 1=p - 1) (h1:g ^ (p - 1) % p=1) (h2:∀ q∈l,¬ g ^ ((p - 1) / q) % p=1):PG p:=by
 have hone:1 % p=1:=Nat.mod_eq_of_lt (by omega)
 have hmul:∀ a b,a % p=1→b % p=1→a * b % p=1:=fun a b ha hb=>by rw [Nat.mul_mod,ha,hb]; exact hone
 have hpow:∀ a k,a % p=1→a ^ k % p=1:=fun a k ha=>by
  rw [Nat.pow_mod,ha,Nat.one_pow]; exact hone
 have hne:∀ j,0 < j→j < p - 1→¬ g ^ j % p=1:=by
  intro j hj hjp hj1
  obtain ⟨d,⟨d1,d2⟩,d3⟩:=least (P:=fun d=>0 < d∧g ^ d % p=1) ⟨j,hj,hj1⟩
  have hdj:=d3 j ⟨hj,hj1⟩
  have hdv:d ∣ p - 1:=by
   obtain ⟨r,hr⟩:∃ r,(p - 1) % d=r:=⟨_,rfl⟩
   have e1:p - 1=d * ((p - 1) / d) + r:=by rw [← hr]; exact (Nat.div_add_mod _ _).symm
   have e2:g ^ r % p=1:=by
    have e3:g ^ (p - 1) % p=g ^ r % p:=by
     conv=>lhs; rw [e1]
     rw [Nat.pow_add,Nat.mul_mod,Nat.pow_mul,hpow _ _ d2,Nat.one_mul,Nat.mod_mod]
    rw [← e3]; exact h1
   have hrd:r < d:=by rw [← hr]; exact Nat.mod_lt _ d1
   by_cases h0:r=0
   ·exact Nat.dvd_of_mod_eq_zero (by rw [hr,h0])
   have:=d3 r ⟨by omega,e2⟩
   omega
  obtain ⟨m,hm⟩:=hdv
  have hm1:m ≠ 1:=fun h=>by rw [h,Nat.mul_one] at hm; omega
  rcases zB (m:=m) l (fun q hq=>(hl q hq).2) (by rw [hN,hm]; exact ⟨d,by rw [Nat.mul_comm]⟩) with h3 | ⟨q,hq,c,hc⟩
  ·exact hm1 h3
  refine h2 q hq ?_
  have e1:(p - 1) / q=d * c:=by
   rw [hm,hc,← Nat.mul_assoc,Nat.mul_comm d q,Nat.mul_assoc,Nat.mul_div_cancel_left _ (hl q hq).1]
  rw [e1,Nat.pow_mul]
  exact hpow _ _ d2
 have hinv:∀ i,i≤p - 1→g ^ (p - 1 - i) * g ^ i % p=1:=fun i hi=>by rw [← Nat.pow_add,show p - 1 - i + i=p - 1 by omega]; exact h1
 have hinj:∀ i j,i < j→j < p - 1→¬ g ^ i % p=g ^ j % p:=fun i j hij hj h=>by
  refine hne (j - i) (by omega) (by omega) ?_
  have e1:g ^ (p - 1 - i) * g ^ j % p=1:=by rw [Nat.mul_mod,← h,← Nat.mul_mod]; exact hinv i (by omega)
  have e2:g ^ (p - 1 - i) * g ^ j=g ^ (j - i) * g ^ (p - 1):=by rw [← Nat.pow_add,← Nat.pow_add]; congr 1; omega
  rw [e2,Nat.mul_mod,h1,Nat.mul_one,Nat.mod_mod] at e1
  exact e1
 have hnz:∀ i,i < p - 1→0 < g ^ i % p:=fun i hi=>by
  refine Nat.pos_of_ne_zero fun h=>?_
  have:=hinv i (by omega)
  rw [Nat.mul_mod,h,Nat.mul_zero,Nat.zero_mod] at this
  omega
 refine ⟨hp,fun a ha ha0=>?_,g,hgp,hg,fun j hj hj0=>hne j (by omega) hj⟩
 have hnd:((List.range (p - 1)).map fun i=>g ^ i % p).Nodup:=by
  rw [List.Nodup,List.pairwise_map]
  refine List.Pairwise.imp_of_mem (R:=fun i j=>i < j) (fun {i j} hi hj hij=>hinj i j hij (List.mem_range.1 hj)) List.pairwise_lt_range
 have hpm:=ep (l:=(List.range (p - 1)).map fun i=>g ^ i % p) (l':=(List.range (p - 1)).map (· + 1)) hnd (fun x hx=>by
  obtain ⟨i,hi,rfl⟩:=List.mem_map.1 hx
  have hi:=List.mem_range.1 hi
  have:=hnz i hi
  have h4:=Nat.mod_lt (g ^ i) (show p > 0 by omega)
  exact List.mem_map.2 ⟨g ^ i % p - 1,List.mem_range.2 (by omega),by show g ^ i % p - 1 + 1=g ^ i % p; omega⟩) (by simp)
 have hmem:a∈(List.range (p - 1)).map fun i=>g ^ i % p:=hpm.mem_iff.2 (List.mem_map.2 ⟨a - 1,List.mem_range.2 (by omega),by show a - 1 + 1=a; omega⟩)
 obtain ⟨i,hi,rfl⟩:=List.mem_map.1 hmem
 rw [← Nat.pow_mod,← Nat.pow_mul,Nat.mul_comm,Nat.pow_mul]
 exact hpow _ _ h1
def Bx:Nat:=1586414208465303895622652387553239793260850049100993586947686401
def IA:List Nat:=List.replicate 105 2++List.replicate 20 3++[5,5,7,7,11,13,17,19,23,29,31,37,41,43,47,53,59]
def I6:Bool:=IA.all fun q=>decide (0 < q) && decide (q < 60) && ((List.range 60).all fun d=>decide (d=0) || decide (d=1) || decide (d=q) || decide (q < d) || !decide (q % d=0)) && !decide (Ht 212 89 ((Bx - 1) / q) Bx=1)
theorem HI:I6=true:=by decide +kernel
def It:Bool:=((List.range 61).all fun d=>decide (d=0) || decide ((Bx - 1) % d=0)) && ((List.range 61).all fun d=>decide (d < 2) || !decide ((Bx - 1) % tN Bx d d=0))
theorem DU:It=true:=by decide +kernel
theorem Dz:∃ p:Nat,PG p∧(∀ d,1≤d→d≤60→d ∣ p - 1)∧2 ^ 200 < p∧∀ d,2≤d→d≤60→Gb p d:=by
 have hB:=List.all_eq_true.1 HI
 refine ⟨Bx,GW (g:=89) (by decide) (by decide) (by decide) IA (fun q hq=>?_) (by decide +kernel) ?_ (fun q hq=>?_),fun d d1 d2=>?_,by decide +kernel,fun d d1 d2=>?_⟩
 ·have h:=hB q hq
  simp only [Bool.and_eq_true,decide_eq_true_eq] at h
  obtain ⟨⟨⟨h1,h2⟩,h3⟩,_⟩:=h
  refine ⟨h1,fun d hd=>?_⟩
  have hdq:=Nat.le_of_dvd h1 hd
  have h4:=List.all_eq_true.1 h3 d (List.mem_range.2 (by omega))
  simp only [Bool.or_eq_true,decide_eq_true_eq,Bool.not_eq_true',decide_eq_false_iff_not] at h4
  rcases h4 with (((h4 | h4) | h4) | h4) | h4
  ·subst h4; have:=Nat.zero_dvd.1 hd; omega
  ·exact .inl h4
  ·exact .inr h4
  ·omega
  exact absurd (Nat.mod_eq_zero_of_dvd hd) h4
 ·rw [← oW Bx 212 89 (Bx - 1) (by decide +kernel)]
  decide +kernel
 ·have h:=hB q hq
  simp only [Bool.and_eq_true,decide_eq_true_eq,Bool.not_eq_true',decide_eq_false_iff_not] at h
  have h3:=h.2
  rwa [oW Bx 212 89 _ (Nat.lt_of_le_of_lt (Nat.div_le_self _ _) (by decide +kernel))] at h3
 ·have h:=DU
  unfold It at h
  rw [Bool.and_eq_true] at h
  have h4:=List.all_eq_true.1 h.1 d (List.mem_range.2 (by omega))
  simp only [Bool.or_eq_true,decide_eq_true_eq] at h4
  exact Nat.dvd_of_mod_eq_zero (h4.resolve_left (by omega))
 have h:=DU
 unfold It at h
 rw [Bool.and_eq_true] at h
 have h4:=List.all_eq_true.1 h.2 d (List.mem_range.2 (by omega))
 simp only [Bool.or_eq_true,decide_eq_true_eq,Bool.not_eq_true',decide_eq_false_iff_not] at h4
 have h6:=h4.resolve_left (by omega)
 obtain ⟨h7,h8⟩:=uX Bx d d
 exact ⟨_,h7,h8,fun h=>h6 (Nat.mod_eq_zero_of_dvd h)⟩
end Go.Proofs.YtjlmpmidchddjaaDoor
namespace Go.Proofs.YtjlmpmidchddjaaDoor
open Lean.Grind
attribute [local instance] Lean.Grind.Semiring.natCast Lean.Grind.Ring.intCast
section
variable {n e c:Nat} {f:Nat→Nat→Nat} {cI xx:Nat→Nat} {K:Type} [CommRing K] {p:Nat}
def pN (n:Nat) (f:Nat→Nat→Nat) (e a b:Nat):Nat:=f (iv n f e a) (bT n f e b a)
def zN (n:Nat) (f:Nat→Nat→Nat) (e:Nat):Nat→Nat→Nat
 | 0,x=>if x=e then 1 else 0
 | k + 1,x=>sn (fun a=>sn (fun b=>zN n f e k (f (iv n f e (pN n f e a b)) x)) n) n
theorem qs {g:Nat→Nat} {B:Nat} : ∀ {m:Nat},(∀ i,i < m→g i≤B)→sn g m≤m * B
 | 0,_=>by rw [Nat.zero_mul]; exact Nat.le_refl _
 | m + 1,h=>by
  have h1:=qs (m:=m) fun i hi=>h i (by omega)
  have h2:=h m (by omega)
  rw [sn,Nat.add_mul,Nat.one_mul]; omega
theorem D5 (n:Nat) (f:Nat→Nat→Nat) (e:Nat):∀ k x,zN n f e k x≤(n * n) ^ k
 | 0,x=>by rw [zN,Nat.pow_zero]; split<;>omega
 | k + 1,x=>by
  rw [zN]
  refine Nat.le_trans (qs (B:=n * (n * n) ^ k) fun a _=>qs fun b _=>D5 n f e k _) ?_
  rw [Nat.pow_succ,← Nat.mul_assoc,Nat.mul_comm (n * n)]
  exact Nat.le_refl _
theorem GC.Hw (h:GC n f e c cI xx) {a b:Nat} (ha:a < n) (hb:b < n):pN n f e a b < n:=h.G.cl _ _ (h.G.az ha) (h.pL hb ha)
theorem GC.DN (h:GC n f e c cI xx) (F:my K) (hn0:(n:K) ≠ 0) {t:Nat→K} (ht:jT n f e cI t) {y:Nat} (hy:y < n):sm (fun a=>sm (fun b=>t (f (pN n f e a b) y)) n) n=(n:K) * bI n f e t t e * t y:=by
 have G:=h.G
 have e1:∀ a,a < n→sm (fun b=>t (f (pN n f e a b) y)) n=(n:K) * (t a * t (f (iv n f e a) y)):=fun a ha=>by
  have hi:=G.az ha
  have e2:sm (fun b=>t (f (pN n f e a b) y)) n=sm (fun b=>t (f (bT n f e b a) (f y (iv n f e a)))) n:=ai fun b hb=>by
   have hc:=h.pL hb ha
   unfold pN
   rw [G.assoc _ _ _ hi hc hy,h.yx ht.cl hi (G.cl _ _ hc hy),G.assoc _ _ _ hc hy hi]
  rw [e2,ht.mul a _ ha (G.cl _ _ hy hi),h.yx ht.cl hy hi]
 rw [ai e1,aL,← dC t t hy,h.IB F hn0 ht hy]
 grind
theorem Ia (k x:Nat):((zN n f e (k + 1) x:Nat):K)=sm (fun a=>sm (fun b=>((zN n f e k (f (iv n f e (pN n f e a b)) x):Nat):K)) n) n:=by
 rw [zN,rC]
 exact ai fun a _=>rC _ n
theorem GC.Hu (h:GC n f e c cI xx) (F:my K) (hn0:(n:K) ≠ 0) {t:Nat→K} (ht:jT n f e cI t):∀ k y,y < n→sm (fun x=>((zN n f e k x:Nat):K) * t (f x y)) n=((n:K) * bI n f e t t e) ^ k * t y
 | 0,y,hy=>by
  have G:=h.G
  rw [bc (i:=e) G.el fun x hx hxe=>by rw [zN,if_neg hxe,Semiring.natCast_zero]; grind]
  rw [zN,if_pos rfl,Semiring.natCast_one,G.one_l y hy,Semiring.pow_zero]
 | k + 1,y,hy=>by
  have G:=h.G
  have e1:∀ x,x < n→((zN n f e (k + 1) x:Nat):K) * t (f x y)=sm (fun a=>sm (fun b=>((zN n f e k (f (iv n f e (pN n f e a b)) x):Nat):K) * t (f x y)) n) n:=fun x hx=>by
   rw [Ia,← bH]; exact ai fun a _=>by rw [← bH]
  rw [ai e1,aW]
  have e2:∀ a,a < n→sm (fun x=>sm (fun b=>((zN n f e k (f (iv n f e (pN n f e a b)) x):Nat):K) * t (f x y)) n) n=sm (fun b=>sm (fun x=>((zN n f e k x:Nat):K) * t (f (pN n f e a b) (f x y))) n) n:=fun a ha=>by
   rw [aW]
   refine ai fun b hb=>?_
   have hc:=h.Hw ha hb
   rw [← h.fg (G.az hc) fun x=>((zN n f e k x:Nat):K) * t (f (pN n f e a b) (f x y))]
   refine ai fun x hx=>?_
   rw [← G.assoc _ _ _ hc (G.cl _ _ (G.az hc) hx) hy,h.nq hc hx]
  rw [ai e2]
  have e3:∀ a,a < n→sm (fun b=>sm (fun x=>((zN n f e k x:Nat):K) * t (f (pN n f e a b) (f x y))) n) n=sm (fun x=>sm (fun b=>((zN n f e k x:Nat):K) * t (f (pN n f e a b) (f x y))) n) n:=fun a _=>aW _ _ _
  rw [ai e3,aW]
  have e4:∀ x,x < n→sm (fun a=>sm (fun b=>((zN n f e k x:Nat):K) * t (f (pN n f e a b) (f x y))) n) n=((n:K) * bI n f e t t e) * (((zN n f e k x:Nat):K) * t (f x y)):=fun x hx=>by
   have e5:sm (fun a=>sm (fun b=>((zN n f e k x:Nat):K) * t (f (pN n f e a b) (f x y))) n) n=((zN n f e k x:Nat):K) * sm (fun a=>sm (fun b=>t (f (pN n f e a b) (f x y))) n) n:=by
    rw [← aL]; exact ai fun a _=>aL _ _ _
   rw [e5,h.DN F hn0 ht (G.cl _ _ hx hy)]
   grind
  rw [ai e4,aL,h.Hu F hn0 ht k y hy,Semiring.pow_succ]
  grind
theorem dw.bk (h:GC n f e c cI xx) (F:my K) (hn0:(n:K) ≠ 0) {tt:Nat→Nat→K} {vv:Nat→Nat} (A:dw K n f e c cI tt vv) (k:Nat):(n:K) * ((zN n f e k e:Nat):K)=sm (fun i=>(vv i:K) * vv i * ((n:K) * bI n f e (tt i) (tt i) e) ^ k) c:=by
 have G:=h.G
 have e1:sm (fun x=>((zN n f e k x:Nat):K) * sm (fun i=>(vv i:K) * vv i * tt i x) c) n=(n:K) * ((zN n f e k e:Nat):K):=by
  rw [bc (i:=e) G.el fun x hx hxe=>by rw [A.Gj x hx,if_neg hxe]; grind]
  rw [A.Gj e G.el,if_pos rfl]; grind
 rw [← e1]
 have e2:∀ x,x < n→((zN n f e k x:Nat):K) * sm (fun i=>(vv i:K) * vv i * tt i x) c=sm (fun i=>(vv i:K) * vv i * (((zN n f e k x:Nat):K) * tt i (f x e))) c:=fun x hx=>by
  rw [← aL]; exact ai fun i _=>by rw [G.one_r x hx]; grind
 rw [ai e2,aW]
 refine ai fun i hi=>?_
 rw [aL,h.Hu F hn0 (A.chr i hi) k e G.el,(A.chr i hi).one]; grind
def cn (vv:Nat→Nat) (c d:Nat):Nat:=sn (fun i=>if vv i=d then 1 else 0) c
theorem vR (g:Nat→Nat→Nat):∀ c m,sn (fun i=>sn (fun d=>g i d) m) c=sn (fun d=>sn (fun i=>g i d) c) m
 | 0,m=>by
  have:∀ m,sn (fun d=>sn (fun i=>g i d) 0) m=0:=fun m=>by
   induction m with
   | zero=>rfl
   | succ m ih=>show sn (fun d=>sn (fun i=>g i d) 0) m + 0=0; omega
  rw [this]; rfl
 | c + 1,m=>by
  have h1:∀ (u v:Nat→Nat) m,sn (fun d=>u d + v d) m=sn u m + sn v m:=fun u v m=>by
   induction m with
   | zero=>rfl
   | succ m ih=>show sn (fun d=>u d + v d) m + (u m + v m)=sn u m + u m + (sn v m + v m); omega
  show sn (fun i=>sn (fun d=>g i d) m) c + sn (fun d=>g c d) m=sn (fun d=>sn (fun i=>g i d) c + g c d) m
  rw [h1,vR g c m]
theorem dq {g g' : Nat→Nat} : ∀ {m:Nat},(∀ i,i < m→g i=g' i)→sn g m=sn g' m
 | 0,_=>rfl
 | m + 1,h=>by rw [sn,sn,dq fun i hi=>h i (by omega),h m (by omega)]
theorem x9 {m d:Nat} (hd:d < m) (v:Nat):sn (fun x=>if d=x then v else 0) m=v:=by
 have key:∀ m,sn (fun x=>if d=x then v else 0) m=if d < m then v else 0:=fun m=>by
  induction m with
  | zero=>rfl
  | succ m ih =>
   rw [sn,ih]
   by_cases h1:d < m
   ·rw [if_pos h1,if_neg (by omega),if_pos (by omega)]; rfl
   by_cases h2:d=m
   ·rw [if_neg h1,if_pos h2,if_pos (by omega)]; omega
   rw [if_neg h1,if_neg h2,if_neg (by omega)]
 rw [key,if_pos hd]
theorem ju (g:Nat→Nat) (v:Nat):∀ m,sn (fun i=>g i * v) m=sn g m * v
 | 0=>by rw [sn,sn,Nat.zero_mul]
 | m + 1=>by rw [sn,sn,ju g v m,Nat.add_mul]
theorem ko {vv:Nat→Nat} {c m:Nat} (h:∀ i,i < c→vv i < m) (g:Nat→Nat):sn (fun i=>g (vv i)) c=sn (fun d=>cn vv c d * g d) m:=by
 have e1:∀ i,i < c→g (vv i)=sn (fun d=>(if vv i=d then 1 else 0) * g d) m:=fun i hi=>by
  rw [← x9 (h i hi) (g (vv i))]
  exact dq fun d _=>by
   by_cases hd:vv i=d
   ·rw [if_pos hd,if_pos hd,hd]; omega
   rw [if_neg hd,if_neg hd]; omega
 rw [dq e1,vR]
 exact dq fun d _=>ju _ _ c
theorem u5 {vv:Nat→Nat} : ∀ {c i:Nat},i < c→0 < cn vv c (vv i)
 | 0,_,h=>absurd h (Nat.not_lt_zero _)
 | c + 1,i,h=>by
  have e:cn vv (c + 1) (vv i)=cn vv c (vv i) + if vv c=vv i then 1 else 0:=rfl
  by_cases hi:i=c
  ·subst hi; rw [e,if_pos rfl]; omega
  have:=u5 (vv:=vv) (c:=c) (i:=i) (by omega)
  rw [e]; omega
theorem pe {vv:Nat→Nat} {d:Nat} : ∀ {c:Nat},0 < cn vv c d→∃ i,i < c∧vv i=d
 | 0,h=>absurd h (Nat.lt_irrefl 0)
 | c + 1,h=>by
  have e:cn vv (c + 1) d=cn vv c d + if vv c=d then 1 else 0:=rfl
  by_cases hd:vv c=d
  ·exact ⟨c,Nat.lt_succ_self c,hd⟩
  rw [e,if_neg hd] at h
  obtain ⟨i,hi,e2⟩:=pe (c:=c) h
  exact ⟨i,by omega,e2⟩
theorem qy (vv:Nat→Nat) (d:Nat):∀ c,cn vv c d≤c
 | 0=>Nat.le_refl _
 | c + 1=>by
  have e:cn vv (c + 1) d=cn vv c d + if vv c=d then 1 else 0:=rfl
  have:=qy vv d c
  rw [e]; split<;>omega
theorem IS (F:my K):∀ (s:Nat) (x a:Nat→K),(∀ i j,i < s→j < s→i ≠ j→x i ≠ x j)→(∀ k,k < s→sm (fun d=>a d * x d ^ k) s=0)→∀ d,d < s→a d=0
 | 0,_,_,_,_=>fun d hd=>absurd hd (Nat.not_lt_zero d)
 | s + 1,x,a,hx,h=>by
  have h1:=IS F s x (fun d=>a d * (x d - x s)) (fun i j hi hj=>hx i j (by omega) (by omega)) fun k hk=>by
   have e1:=h (k + 1) (by omega)
   have e2:=h k (by omega)
   have e3:sm (fun d=>a d * (x d - x s) * x d ^ k) (s + 1)=0:=by
    have e4:sm (fun d=>a d * (x d - x s) * x d ^ k) (s + 1)=sm (fun d=>a d * x d ^ (k + 1)) (s + 1) - x s * sm (fun d=>a d * x d ^ k) (s + 1):=by
     rw [← aL,← kD]
     exact ai fun d _=>by rw [Semiring.pow_succ]; grind
    rw [e4,e1,e2]; grind
   have e5:sm (fun d=>a d * (x d - x s) * x d ^ k) (s + 1)=sm (fun d=>a d * (x d - x s) * x d ^ k) s + a s * (x s - x s) * x s ^ k:=rfl
   rw [e5] at e3
   grind
  have h2:∀ d,d < s→a d=0:=fun d hd=>by
   have:=h1 d hd
   rcases F.mul this with h3 | h3
   ·exact h3
   exact absurd (show x d=x s by grind) (hx d s (by omega) (by omega) (by omega))
  intro d hd
  by_cases hds:d=s
  ·subst hds
   have:=h 0 (by omega)
   have e5:sm (fun q=>a q * x q ^ 0) (d + 1)=sm (fun q=>a q * x q ^ 0) d + a d * x d ^ 0:=rfl
   rw [e5,aV fun q hq=>by rw [h2 q hq]; grind,Semiring.pow_zero] at this
   grind
  exact h2 d (by omega)
end
end Go.Proofs.YtjlmpmidchddjaaDoor
namespace Go.Proofs.YtjlmpmidchddjaaDoor
open Lean.Grind
attribute [local instance] Lean.Grind.Semiring.natCast Lean.Grind.Ring.intCast
variable {n e:Nat} {m:List Int}
theorem rl (h:GT n m n e) {p:Nat} [NeZero p] (P:PG p) (hd:∀ d,1≤d→d≤60→d ∣ p - 1) (hb:2 ^ 200 < p) (hw:∀ d,2≤d→d≤60→Gb p d) :
  ∃ (tt:Nat→Nat→Fin p) (vv:Nat→Nat),dw (Fin p) n (op m n) e (aS m n e) (bS m n e) tt vv:=by
 have hn:=h.2.1.big
 have G:=h.2.2
 have h200:120 < 2 ^ 200:=by decide
 have H:=C7 h P (by omega) fun a ha=>by
  obtain ⟨o1,o2,_,_⟩:=G.iT ha
  have h1:=(G.l9 ha (p - 1)).2 (hd _ o1 (by omega))
  have e1:p=p - 1 + 1:=by omega
  rw [e1]
  show op m n (pw (op m n) e a (p - 1)) a=a
  rw [h1,G.one_l a ha]
 exact H.H6 (fun a=>sL a) (fun d d1 d2=>hw d d1 (by omega)) (by omega)
def cL (d:Nat):Nat:=176400 / (d * d)
theorem zh {d:Nat} (h1:1≤d) (h2:d≤7):cL d * (d * d)=176400:=by
 have:d=1∨d=2∨d=3∨d=4∨d=5∨d=6∨d=7:=by omega
 rcases this with rfl | rfl | rfl | rfl | rfl | rfl | rfl<;>decide
theorem ot {v n:Nat} (h:v * v≤n) (hn:n≤60):v≤7:=by
 refine Nat.le_of_not_lt fun hc=>?_
 have:8 * 8≤v * v:=Nat.mul_le_mul hc hc
 omega
section
variable {K:Type} [CommRing K] {p:Nat}
theorem dw.ints {c:Nat} {cI xx:Nat→Nat} {f:Nat→Nat→Nat} (h:GC n f e c cI xx) (R:Rp K p) (hn0:(n:K) ≠ 0) (hn:n≤60) (hb:2 ^ 200 < p) {tt:Nat→Nat→K} {vv:Nat→Nat} (A:dw K n f e c cI tt vv) {k:Nat} (hk:k≤6) :
  176400 ^ k * (n * zN n f e k e)=sn (fun i=>vv i * vv i * (n * n * cL (vv i)) ^ k) c:=by
 have F:=R.fld
 have hnn:n * n≤3600:=Nat.mul_le_mul hn hn
 have b1:176400 ^ k * (n * zN n f e k e)≤176400 ^ 6 * (60 * 3600 ^ 6):=by
  refine Nat.mul_le_mul (Nat.pow_le_pow_right (by decide) hk) (Nat.mul_le_mul hn ?_)
  exact Nat.le_trans (D5 n f e k e) (Nat.le_trans (Nat.pow_le_pow_left hnn k) (Nat.pow_le_pow_right (by decide) hk))
 have b2:sn (fun i=>vv i * vv i * (n * n * cL (vv i)) ^ k) c≤n * (3600 * 176400) ^ 6:=by
  have e0:n * (3600 * 176400) ^ 6=sn (fun i=>vv i * vv i * (3600 * 176400) ^ 6) c:=by rw [ju,A.sum]
  rw [e0]
  refine DS fun i hi=>Nat.mul_le_mul_left _ ?_
  refine Nat.le_trans (Nat.pow_le_pow_left (Nat.mul_le_mul hnn (Nat.div_le_self _ _)) k) (Nat.pow_le_pow_right (by decide) hk)
 have b3:n * (3600 * 176400) ^ 6≤60 * (3600 * 176400) ^ 6:=Nat.mul_le_mul_right _ hn
 have c1:176400 ^ 6 * (60 * 3600 ^ 6) < 2 ^ 200:=by decide
 have c2:60 * (3600 * 176400) ^ 6 < 2 ^ 200:=by decide
 refine R.gC (p:=p) (Nat.lt_of_le_of_lt b1 (Nat.lt_trans c1 hb)) (Nat.lt_of_le_of_lt b2 (Nat.lt_of_le_of_lt b3 (Nat.lt_trans c2 hb))) ?_
 rw [Semiring.natCast_mul,Semiring.natCast_mul,A.bk h F hn0 k,rC,← aL]
 refine ai fun i hi=>?_
 obtain ⟨v1,v2⟩:=A.sq i hi
 have hv:=ot v1 hn
 have hc:=zh (A.ge i hi) hv
 have hcK:((cL (vv i):Nat):K) * ((vv i:K) * vv i)=((176400:Nat):K):=by rw [← Semiring.natCast_mul,← Semiring.natCast_mul,hc]
 rw [Semiring.natCast_mul,Semiring.natCast_mul,Semiring.natCast_pow,Semiring.natCast_pow,Semiring.natCast_mul,Semiring.natCast_mul]
 have e1:((176400:Nat):K) * ((n:K) * bI n f e (tt i) (tt i) e)=(n:K) * n * ((cL (vv i):Nat):K):=by
  rw [← hcK]
  have:(cL (vv i):K) * ((vv i:K) * vv i) * ((n:K) * bI n f e (tt i) (tt i) e)=(n:K) * (cL (vv i):K) * (bI n f e (tt i) (tt i) e * ((vv i:K) * vv i)):=by grind
  rw [this,v2]; grind
 have e2:∀ (x y z:K) (k:Nat),x ^ k * (z * y ^ k)=z * (x * y) ^ k:=fun x y z k=>by
  induction k with
  | zero=>rw [Semiring.pow_zero,Semiring.pow_zero,Semiring.pow_zero]; grind
  | succ k ih=>rw [Semiring.pow_succ,Semiring.pow_succ,Semiring.pow_succ]; grind
 rw [e2,e1]
end
def zX (n k a1 a2 a3 a4 a5 a6 a7:Nat):Nat:=a1 * (1 * 1 * (n * n * cL 1) ^ k) + a2 * (2 * 2 * (n * n * cL 2) ^ k) + a3 * (3 * 3 * (n * n * cL 3) ^ k) + a4 * (4 * 4 * (n * n * cL 4) ^ k) + a5 * (5 * 5 * (n * n * cL 5) ^ k) + a6 * (6 * 6 * (n * n * cL 6) ^ k) + a7 * (7 * 7 * (n * n * cL 7) ^ k)
def Ih (n a1 a2 a3 a4 a5 a6 a7:Nat):Bool:=
 !decide (zX n 1 a1 a2 a3 a4 a5 a6 a7 % (176400 ^ 1 * n)=0) || !decide (zX n 2 a1 a2 a3 a4 a5 a6 a7 % (176400 ^ 2 * n)=0) || !decide (zX n 3 a1 a2 a3 a4 a5 a6 a7 % (176400 ^ 3 * n)=0) ||
 ((decide (a2=0) || decide (n % 2=0)) && (decide (a3=0) || decide (n % 3=0)) && (decide (a4=0) || decide (n % 4=0)) && (decide (a5=0) || decide (n % 5=0)) && (decide (a6=0) || decide (n % 6=0)) && (decide (a7=0) || decide (n % 7=0)))
def Hb:Bool:=(List.range 61).all fun n=>(List.range (n / 49 + 1)).all fun a7=>(List.range ((n - 49 * a7) / 36 + 1)).all fun a6=>(List.range ((n - 49 * a7 - 36 * a6) / 25 + 1)).all fun a5=>(List.range ((n - 49 * a7 - 36 * a6 - 25 * a5) / 16 + 1)).all fun a4 =>
 (List.range ((n - 49 * a7 - 36 * a6 - 25 * a5 - 16 * a4) / 9 + 1)).all fun a3=>(List.range ((n - 49 * a7 - 36 * a6 - 25 * a5 - 16 * a4 - 9 * a3) / 4 + 1)).all fun a2=>Ih n (n - 49 * a7 - 36 * a6 - 25 * a5 - 16 * a4 - 9 * a3 - 4 * a2) a2 a3 a4 a5 a6 a7
theorem Fi:Hb=true:=by decide +kernel
theorem Fa {n a1 a2 a3 a4 a5 a6 a7:Nat} (hn:n≤60) (hs:a1 + 4 * a2 + 9 * a3 + 16 * a4 + 25 * a5 + 36 * a6 + 49 * a7=n):Ih n a1 a2 a3 a4 a5 a6 a7=true:=by
 have h:=Fi
 unfold Hb at h
 have h:=List.all_eq_true.1 h n (List.mem_range.2 (by omega))
 have h:=List.all_eq_true.1 h a7 (List.mem_range.2 (by omega))
 have h:=List.all_eq_true.1 h a6 (List.mem_range.2 (by omega))
 have h:=List.all_eq_true.1 h a5 (List.mem_range.2 (by omega))
 have h:=List.all_eq_true.1 h a4 (List.mem_range.2 (by omega))
 have h:=List.all_eq_true.1 h a3 (List.mem_range.2 (by omega))
 have h:=List.all_eq_true.1 h a2 (List.mem_range.2 (by omega))
 have e:n - 49 * a7 - 36 * a6 - 25 * a5 - 16 * a4 - 9 * a3 - 4 * a2=a1:=by omega
 rwa [e] at h
theorem Iz (g:Nat→Nat) (h0:g 0=0):sn g 8=g 1 + g 2 + g 3 + g 4 + g 5 + g 6 + g 7:=by
 show 0 + g 0 + g 1 + g 2 + g 3 + g 4 + g 5 + g 6 + g 7=_
 omega
section
variable {c:Nat} {cI xx:Nat→Nat} {f:Nat→Nat→Nat} {K:Type} [CommRing K] {p:Nat}
theorem dw.IJ (hn:n≤60) {tt:Nat→Nat→K} {vv:Nat→Nat} (A:dw K n f e c cI tt vv) {i:Nat} (hi:i < c):vv i < 8:=by
 have:=ot (A.sq i hi).1 hn; omega
theorem dw.I4 {tt:Nat→Nat→K} {vv:Nat→Nat} (A:dw K n f e c cI tt vv):cn vv c 0=0:=by
 refine Nat.eq_zero_of_le_zero (Nat.le_of_not_lt fun h=>?_)
 obtain ⟨i,hi,e1⟩:=pe h
 have:=A.ge i hi
 omega
theorem dw.dvd (h:GC n f e c cI xx) (R:Rp K p) (hn0:(n:K) ≠ 0) (hn1:1≤n) (hn:n≤60) (hb:2 ^ 200 < p) {tt:Nat→Nat→K} {vv:Nat→Nat} (A:dw K n f e c cI tt vv) {i:Nat} (hi:i < c):vv i ∣ n:=by
 have hlt:∀ i,i < c→vv i < 8:=fun i hi=>A.IJ hn hi
 have h0:=A.I4
 have hs:=ko hlt fun d=>d * d
 rw [A.sum,Iz _ (by rw [h0,Nat.zero_mul])] at hs
 have hT:=Fa (n:=n) (a1:=cn vv c 1) (a2:=cn vv c 2) (a3:=cn vv c 3) (a4:=cn vv c 4) (a5:=cn vv c 5) (a6:=cn vv c 6) (a7:=cn vv c 7) hn (by omega)
 have hk:∀ k,k≤6→zX n k (cn vv c 1) (cn vv c 2) (cn vv c 3) (cn vv c 4) (cn vv c 5) (cn vv c 6) (cn vv c 7) % (176400 ^ k * n)=0:=fun k hk=>by
  have h1:=A.ints h R hn0 hn hb hk
  rw [ko hlt fun d=>d * d * (n * n * cL d) ^ k,Iz _ (by rw [h0,Nat.zero_mul])] at h1
  have h2:zX n k (cn vv c 1) (cn vv c 2) (cn vv c 3) (cn vv c 4) (cn vv c 5) (cn vv c 6) (cn vv c 7)=176400 ^ k * (n * zN n f e k e):=h1.symm
  rw [h2,← Nat.mul_assoc]
  exact Nat.mul_mod_right _ _
 unfold Ih at hT
 rw [hk 1 (by omega),hk 2 (by omega),hk 3 (by omega)] at hT
 simp only [decide_true,Bool.not_true,Bool.false_or,Bool.and_eq_true,Bool.or_eq_true,decide_eq_true_eq] at hT
 obtain ⟨⟨⟨⟨⟨g2,g3⟩,g4⟩,g5⟩,g6⟩,g7⟩:=hT
 have hp:=u5 (vv:=vv) hi
 have h8:=hlt i hi
 have h1:=A.ge i hi
 generalize hv:vv i=v at *
 have:v=1∨v=2∨v=3∨v=4∨v=5∨v=6∨v=7:=by omega
 refine Nat.dvd_of_mod_eq_zero ?_
 rcases this with rfl | rfl | rfl | rfl | rfl | rfl | rfl
 ·exact Nat.mod_one n
 ·exact g2.resolve_left (by omega)
 ·exact g3.resolve_left (by omega)
 ·exact g4.resolve_left (by omega)
 ·exact g5.resolve_left (by omega)
 ·exact g6.resolve_left (by omega)
 exact g7.resolve_left (by omega)
theorem dw.count (h:GC n f e c cI xx) (R:Rp K p) (hn0:(n:K) ≠ 0) (hn1:1≤n) (hn:n≤60) (hb:2 ^ 200 < p) {tt:Nat→Nat→K} {vv:Nat→Nat} (A:dw K n f e c cI tt vv) {k:Nat} (hk:k≤6) :
  n * zN n f e k e=sn (fun d=>cn vv c d * (d * d * ((n / d) * (n / d)) ^ k)) 8:=by
 have hlt:∀ i,i < c→vv i < 8:=fun i hi=>A.IJ hn hi
 have h1:=A.ints h R hn0 hn hb hk
 rw [ko hlt fun d=>d * d * (n * n * cL d) ^ k] at h1
 have h2:sn (fun d=>cn vv c d * (d * d * (n * n * cL d) ^ k)) 8=sn (fun d=>cn vv c d * (d * d * ((n / d) * (n / d)) ^ k)) 8 * 176400 ^ k:=by
  rw [← ju]
  refine dq fun d hd=>?_
  by_cases h0:cn vv c d=0
  ·rw [h0]; simp
  obtain ⟨i,hi,e1⟩:=pe (vv:=vv) (c:=c) (d:=d) (by omega)
  have hdv:=A.dvd h R hn0 hn1 hn hb hi
  have hge:=A.ge i hi
  rw [e1] at hdv hge
  have hc:=zh hge (by omega)
  obtain ⟨q,hq⟩:=hdv
  have hnd:n / d=q:=by rw [hq,Nat.mul_div_cancel_left _ (by omega)]
  have e3:n * n * cL d=q * q * 176400:=by
   rw [hq,← hc]
   simp only [Nat.mul_assoc,Nat.mul_comm,Nat.mul_left_comm]
  rw [hnd,e3,Nat.mul_pow]
  simp only [Nat.mul_assoc]
 rw [h2,Nat.mul_comm] at h1
 exact Nat.eq_of_mul_eq_mul_right (Nat.pow_pos (by decide)) h1
end
theorem dw.same {c c' : Nat} {cI xx cI' xx' : Nat→Nat} {f:Nat→Nat→Nat} {K K' : Type} [CommRing K] [CommRing K'] {p p' : Nat} (h:GC n f e c cI xx) (h' : GC n f e c' cI' xx') (R:Rp K p) (R' : Rp K' p') (h2n:2 * n < p) (hcz:∀ a:Nat,0 < a→a < p→(a:K) ≠ 0) (hn0' : (n:K') ≠ 0) (hn1:1≤n) (hn:n≤60) (hb:2 ^ 200 < p') (hcn:c≤n) (hcn' : c'≤n)
  {tt:Nat→Nat→K} {vv:Nat→Nat} (A:dw K n f e c cI tt vv) {tt' : Nat→Nat→K'} {vv' : Nat→Nat} (A' : dw K' n f e c' cI' tt' vv'):∀ d,cn vv c d=cn vv' c' d:=by
 have F:=R.fld
 have hn0:(n:K) ≠ 0:=hcz n hn1 (by omega)
 obtain ⟨s,s1,s2⟩:∃ s,s * s≤n∧n < (s + 1) * (s + 1):=by
  have:∀ m,m≤n→∃ s,s * s≤m∧m < (s + 1) * (s + 1):=fun m=>by
   induction m with
   | zero=>intro _; exact ⟨0,by omega,by omega⟩
   | succ m ih =>
    intro hm
    obtain ⟨s,a,b⟩:=ih (by omega)
    by_cases hc:m + 1 < (s + 1) * (s + 1)
    ·exact ⟨s,by omega,hc⟩
    refine ⟨s + 1,by omega,?_⟩
    have:(s + 1 + 1) * (s + 1 + 1)=(s + 1) * (s + 1) + 2 * (s + 1) + 1:=by rw [Nat.add_mul,Nat.mul_add]; omega
    omega
  exact this n (Nat.le_refl _)
 have s7:=ot s1 hn
 have hsn:s≤n:=by
  by_cases h0:s=0
  ·omega
  exact Nat.le_trans (Nat.le_mul_of_pos_left s (by omega)) s1
 have hbig:∀ v,v * v≤n→v≤s:=fun v hv=>by
  refine Nat.le_of_not_lt fun hc=>?_
  have:(s + 1) * (s + 1)≤v * v:=Nat.mul_le_mul hc hc
  omega
 have hz:∀ d,¬ (1≤d∧d≤s)→cn vv c d=0:=fun d hd=>by
  refine Nat.eq_zero_of_le_zero (Nat.le_of_not_lt fun h=>?_)
  obtain ⟨i,hi,e1⟩:=pe h
  exact hd ⟨by rw [← e1]; exact A.ge i hi,by rw [← e1]; exact hbig _ (A.sq i hi).1⟩
 have hz' : ∀ d,¬ (1≤d∧d≤s)→cn vv' c' d=0:=fun d hd=>by
  refine Nat.eq_zero_of_le_zero (Nat.le_of_not_lt fun h=>?_)
  obtain ⟨i,hi,e1⟩:=pe h
  exact hd ⟨by rw [← e1]; exact A'.ge i hi,by rw [← e1]; exact hbig _ (A'.sq i hi).1⟩
 have hinv:∀ d:Nat,∃ b:K,1≤d∧d≤s→(d:K) * b=1:=fun d=>by
  by_cases hd:1≤d∧d≤s
  ·obtain ⟨b,hb⟩:=F.1 _ (hcz d hd.1 (by omega)); exact ⟨b,fun _=>hb⟩
  exact ⟨0,fun h=>absurd h hd⟩
 obtain ⟨di,hdi⟩:=Classical.axiomOfChoice hinv
 let x:Nat→K:=fun j=>(n:K) * n * (di (j + 1) * di (j + 1))
 have hx:∀ i j,i < s→j < s→i ≠ j→x i ≠ x j:=fun i j hi hj hij he=>by
  have a1:=hdi (i + 1) ⟨by omega,by omega⟩
  have a2:=hdi (j + 1) ⟨by omega,by omega⟩
  have he:(n:K) * n * (di (i + 1) * di (i + 1))=(n:K) * n * (di (j + 1) * di (j + 1)):=he
  obtain ⟨ni,hni⟩:=F.1 _ hn0
  have e1:(((i + 1:Nat):K) - ((j + 1:Nat):K)) * (((i + 1:Nat):K) + ((j + 1:Nat):K))=0:=by grind
  rcases F.mul e1 with e2 | e2
  ·exact R.ne (a:=i + 1) (b:=j + 1) (by omega) (by omega) (by omega) e2
  exact hcz (i + 1 + (j + 1)) (by omega) (by omega) (by rw [Semiring.natCast_add]; exact e2)
 have hsum:∀ (g:Nat→K),(∀ d,¬ (1≤d∧d≤s)→g d=0)→∀ m,s < m→sm g m=sm (fun j=>g (j + 1)) s:=fun g hg m hm=>by
  have e1:∀ q,sm g (q + 1)=g 0 + sm (fun j=>g (j + 1)) q:=fun q=>by
   induction q with
   | zero=>show 0 + g 0=g 0 + 0; grind
   | succ q ih=>rw [sm,ih,sm]; grind
  have e2:∀ q,sm (fun j=>g (j + 1)) (s + q)=sm (fun j=>g (j + 1)) s:=fun q=>by
   induction q with
   | zero=>rfl
   | succ q ih =>
    show sm (fun j=>g (j + 1)) (s + q) + g (s + q + 1)=_
    rw [ih,hg _ (by omega)]; grind
  rw [show m=s + (m - s - 1) + 1 by omega,e1,hg 0 (by omega),e2]; grind
 have hA:∀ k,(n:K) * ((zN n f e k e:Nat):K)=sm (fun j=>((cn vv c (j + 1):Nat):K) * (((j + 1:Nat):K) * ((j + 1:Nat):K)) * x j ^ k) s:=fun k=>by
  rw [A.bk h F hn0 k]
  have e1:∀ i,i < c→(vv i:K) * vv i * ((n:K) * bI n f e (tt i) (tt i) e) ^ k=sm (fun d=>(if vv i=d then (1:K) else 0) * ((d:K) * d * ((n:K) * n * (di d * di d)) ^ k)) (s + 1):=fun i hi=>by
   obtain ⟨v1,v2⟩:=A.sq i hi
   have hvs:=hbig _ v1
   have hg:=A.ge i hi
   rw [bc (i:=vv i) (by omega) fun d _ hd=>by rw [if_neg fun hh=>hd hh.symm]; grind,if_pos rfl]
   have e2:(n:K) * bI n f e (tt i) (tt i) e=(n:K) * n * (di (vv i) * di (vv i)):=by
    have:=hdi (vv i) ⟨hg,hvs⟩
    rw [← v2]; grind
   rw [e2]; grind
  rw [ai e1,aW]
  rw [hsum _ (fun d hd=>?_) (s + 1) (by omega)]
  ·refine ai fun j hj=>?_
   rw [bH]
   have e3:sm (fun i=>if vv i=j + 1 then (1:K) else 0) c=((cn vv c (j + 1):Nat):K):=by
    unfold cn
    rw [rC]
    exact ai fun i _=>by
     by_cases hh:vv i=j + 1
     ·rw [if_pos hh,if_pos hh,Semiring.natCast_one]
     rw [if_neg hh,if_neg hh,Semiring.natCast_zero]
   rw [e3]; grind
  refine aV fun i hi=>?_
  have:vv i ≠ d:=fun hh=>hd ⟨by rw [← hh]; exact A.ge i hi,by rw [← hh]; exact hbig _ (A.sq i hi).1⟩
  rw [if_neg this]; grind
 have hA' : ∀ k,k≤6→(n:K) * ((zN n f e k e:Nat):K)=sm (fun j=>((cn vv' c' (j + 1):Nat):K) * (((j + 1:Nat):K) * ((j + 1:Nat):K)) * x j ^ k) s:=fun k hk=>by
  rw [← Semiring.natCast_mul,A'.count h' R' hn0' hn1 hn hb hk,rC,hsum _ (fun d hd=>by rw [hz' d hd,Nat.zero_mul]; exact Semiring.natCast_zero) 8 (by omega)]
  refine ai fun j hj=>?_
  by_cases h0:cn vv' c' (j + 1)=0
  ·rw [h0,Nat.zero_mul,Semiring.natCast_zero]; grind
  obtain ⟨i,hi,e1⟩:=pe (vv:=vv') (c:=c') (d:=j + 1) (by omega)
  have hdv:=A'.dvd h' R' hn0' hn1 hn hb hi
  rw [e1] at hdv
  obtain ⟨q,hq⟩:=hdv
  have hnd:n / (j + 1)=q:=by rw [hq,Nat.mul_div_cancel_left _ (by omega)]
  have hqK:((q:Nat):K)=(n:K) * di (j + 1):=by
   have a1:=hdi (j + 1) ⟨by omega,by omega⟩
   have a2:(n:K)=((j + 1:Nat):K) * (q:K):=by rw [← Semiring.natCast_mul,← hq]
   rw [a2]; grind
  rw [hnd,Semiring.natCast_mul,Semiring.natCast_mul,Semiring.natCast_mul,Semiring.natCast_pow,Semiring.natCast_mul,hqK]
  have:(n:K) * di (j + 1) * ((n:K) * di (j + 1))=x j:=by show _=(n:K) * n * (di (j + 1) * di (j + 1)); grind
  rw [this]; grind
 have hV:=IS F s x (fun j=>(((cn vv c (j + 1):Nat):K) - ((cn vv' c' (j + 1):Nat):K)) * (((j + 1:Nat):K) * ((j + 1:Nat):K))) hx fun k hk=>by
  have e1:=hA k
  rw [hA' k (by omega)] at e1
  have e2:sm (fun j=>(((cn vv c (j + 1):Nat):K) - ((cn vv' c' (j + 1):Nat):K)) * (((j + 1:Nat):K) * ((j + 1:Nat):K)) * x j ^ k) s=sm (fun j=>((cn vv c (j + 1):Nat):K) * (((j + 1:Nat):K) * ((j + 1:Nat):K)) * x j ^ k) s - sm (fun j=>((cn vv' c' (j + 1):Nat):K) * (((j + 1:Nat):K) * ((j + 1:Nat):K)) * x j ^ k) s:=by
   rw [← kD]; exact ai fun j _=>by grind
  rw [e2,e1]; grind
 intro d
 by_cases hd:1≤d∧d≤s
 ·obtain ⟨j,rfl⟩:∃ j,d=j + 1:=⟨d - 1,by omega⟩
  have h1:=hV j (by omega)
  have hj:=hcz (j + 1) (by omega) (by omega)
  obtain ⟨b,hb2⟩:=F.1 _ hj
  have l1:=qy vv (j + 1) c
  have l2:=qy vv' (j + 1) c'
  refine R.gC (p:=p) (by omega) (by omega) ?_
  grind
 rw [hz d hd,hz' d hd]
end Go.Proofs.YtjlmpmidchddjaaDoor
namespace Go.Proofs.YtjlmpmidchddjaaDoor
open Go.Pv
def yC (e x:Nat):Bool:=decide (x=e)
def yt (n:Nat) (f:Nat→Nat→Nat) (p q:Nat→Bool) (a b:Nat):Bool:=decide (∃ x,x < n∧p x=true∧∃ y,y < n∧q y=true∧f (f x a) y=b)
theorem CL {n:Nat} {P Q:Nat→Bool} (g:Nat→Nat) (h1:∀ x,x < n→P x=true→g x < n∧Q (g x)=true) (hi:∀ x y,x < n→y < n→P x=true→P y=true→g x=g y→x=y) (h2:∀ y,y < n→Q y=true→∃ x,x < n∧P x=true∧g x=y):(mem n P).length=(mem n Q).length:=by
 rw [← List.length_map (f:=g) («as»:=mem n P)]
 refine fb (fP (List.nodup_range.filter _) fun x hx y hy he=>hi x y (aQ.1 hx).1 (aQ.1 hy).1 (aQ.1 hx).2 (aQ.1 hy).2 he) (List.nodup_range.filter _) fun y=>?_
 rw [List.mem_map,aQ]
 constructor
 ·rintro ⟨x,hx,rfl⟩
  exact h1 x (aQ.1 hx).1 (aQ.1 hx).2
 rintro ⟨y1,y2⟩
 obtain ⟨x,x1,x2,x3⟩:=h2 y y1 y2
 exact ⟨x,aQ.2 ⟨x1,x2⟩,x3⟩
section
variable {n:Nat} {f:Nat→Nat→Nat} {e:Nat} {p q:Nat→Bool}
theorem gz {a b:Nat} : yt n f p q a b=true↔∃ x y,x < n∧y < n∧p x=true∧q y=true∧f (f x a) y=b:=by
 unfold yt; rw [decide_eq_true_iff]
 exact ⟨fun ⟨x,h1,h2,y,h3,h4,h5⟩=>⟨x,y,h1,h3,h2,h4,h5⟩,fun ⟨x,y,h1,h3,h2,h4,h5⟩=>⟨x,h1,h2,y,h3,h4,h5⟩⟩
theorem nZ {x:Nat} : yC e x=true↔x=e:=by unfold yC; exact decide_eq_true_iff
theorem cy.Dn (G:cy n f e):Sub n f e (yC e):=
 FL G (nZ.2 rfl) fun a b ha hb h1 h2=>by
  rw [nZ] at *; subst h1; subst h2; exact G.one_l _ ha
theorem cy.C8 (G:cy n f e) (hp:Sub n f e p) (hq:Sub n f e q):uG n (yt n f p q) where
 refl a ha:=gz.2 ⟨e,e,G.el,G.el,hp.one,hq.one,by rw [G.one_l a ha,G.one_r a ha]⟩
 symm a b ha hb h:=by
  obtain ⟨x,y,x1,y1,x2,y2,rfl⟩:=gz.1 h
  have ix:=G.az x1
  have iy:=G.az y1
  have hxa:=G.cl _ _ x1 ha
  refine gz.2 ⟨iv n f e x,iv n f e y,ix,iy,hp.inv x x1 x2,hq.inv y y1 y2,?_⟩
  rw [← G.assoc _ _ y ix hxa y1,← G.assoc _ x a ix x1 ha,G.eb x1,G.one_l a ha,G.assoc a y _ ha y1 iy,G.dg y1,G.one_r a ha]
 trans a b c ha hb hc h1 h2:=by
  obtain ⟨x,y,x1,y1,x2,y2,rfl⟩:=gz.1 h1
  obtain ⟨u,v,u1,v1,u2,v2,rfl⟩:=gz.1 h2
  have hxa:=G.cl _ _ x1 ha
  refine gz.2 ⟨f u x,f y v,G.cl _ _ u1 x1,G.cl _ _ y1 v1,hp.mul _ _ u1 x1 u2 x2,hq.mul _ _ y1 v1 y2 v2,?_⟩
  rw [G.assoc u x a u1 x1 ha,← G.assoc _ y v (G.cl _ _ u1 hxa) y1 v1,G.assoc u (f x a) y u1 hxa y1]
theorem cy.De (G:cy n f e) {a:Nat} (ha:a < n):(mem n (yt n f p (yC e) a)).length=(mem n p).length:=by
 refine (CL (fun x=>f x a) (fun x hx h=>⟨G.cl _ _ hx ha,gz.2 ⟨x,e,hx,G.el,h,nZ.2 rfl,G.one_r _ (G.cl _ _ hx ha)⟩⟩) (fun x y hx hy _ _ h=>G.lG ha hx hy h) fun y hy h=>?_).symm
 obtain ⟨x,z,x1,z1,x2,z2,rfl⟩:=gz.1 h
 exact ⟨x,x1,x2,by rw [nZ.1 z2,G.one_r _ (G.cl _ _ x1 ha)]⟩
theorem uq {α:Type} {g:α→Nat} {k:Nat} : ∀ {l:List α},(∀ x∈l,g x=k)→(l.map g).sum=l.length * k
 | [],_=>by simp
 | a :: l,h=>by
  rw [List.map_cons,List.sum_cons,uq (l:=l) fun x hx=>h x (by simp [hx]),h a (by simp),List.length_cons,Nat.add_mul,Nat.one_mul,Nat.add_comm]
theorem cy.xk (G:cy n f e) (hp:Sub n f e p):(mem n (lead (yt n f p (yC e)))).length * (mem n p).length=n:=by
 have h:=(G.C8 hp G.Dn).sum
 rwa [uq fun x hx=>G.De (aQ.1 hx).1] at h
theorem Sub.pos (hp:Sub n f e p) (he:e < n):0 < (mem n p).length:=List.length_pos_of_mem (aQ.2 ⟨he,hp.one⟩)
theorem uG.part {r:Nat→Nat→Bool} (h:uG n r) {K:Nat→Bool} (hK:∀ x y,x < n→y < n→r x y=true→K x=true→K y=true):((mem n fun x=>lead r x && K x).map fun x=>(mem n (r x)).length).sum=(mem n K).length:=by
 have h1:=gW (fun x y=>r x y) (mem n fun x=>lead r x && K x) (List.range n)
 have h2:∀ y,y∈List.range n→((mem n fun x=>lead r x && K x).filter fun x=>r x y).length=if K y=true then 1 else 0:=fun y hy=>by
  have y1:=List.mem_range.1 hy
  by_cases hk:K y=true
  ·rw [if_pos hk,← h.one y1]
   congr 1
   unfold mem
   rw [List.filter_filter,List.filter_filter]
   refine List.filter_congr fun x hx=>?_
   have x1:=List.mem_range.1 hx
   cases hr:r x y with
   | false=>simp
   | true=>rw [hK y x y1 x1 (h.symm x y x1 y1 hr) hk]; simp
  rw [if_neg hk,List.length_eq_zero_iff,List.filter_eq_nil_iff]
  intro x hx hr
  obtain ⟨x1,x2⟩:=aQ.1 hx
  rw [Bool.and_eq_true] at x2
  exact hk (hK x y x1 y1 hr x2.2)
 have h3:((List.range n).map fun y=>((mem n fun x=>lead r x && K x).filter fun x=>r x y).length).sum=(mem n K).length:=by
  rw [List.map_congr_left h2]
  unfold mem
  generalize List.range n=L
  induction L with
  | nil=>rfl
  | cons a L ih=>rw [List.map_cons,List.sum_cons,ih,List.filter_cons]; by_cases hk:K a=true<;>simp [hk,Nat.add_comm]
 exact h1.trans h3
end
open Go.Pv
def GO (n:Nat) (f:Nat→Nat→Nat) (e:Nat) (p q:Nat→Bool) (x:Nat):Bool:=decide (∃ a,a < n∧p a=true∧∃ b,b < n∧q b=true∧G8 n f e a b=x)
structure Jk (n:Nat) (T:Nat→Nat→Bool) (K:Nat):Prop where
 eq:∀ a,a < n→T (K + 1) a=T K a
 ne:∀ j,j < K→¬ ∀ a,a < n→T (j + 1) a=T j a
section
variable {n:Nat} {f:Nat→Nat→Nat} {e:Nat}
theorem wc {p q:Nat→Bool} {x:Nat} : GO n f e p q x=true↔∃ a b,a < n∧b < n∧p a=true∧q b=true∧G8 n f e a b=x:=by
 unfold GO; rw [decide_eq_true_iff]
 exact ⟨fun ⟨a,h1,h2,b,h3,h4,h5⟩=>⟨a,b,h1,h3,h2,h4,h5⟩,fun ⟨a,b,h1,h3,h2,h4,h5⟩=>⟨a,h1,h2,b,h3,h4,h5⟩⟩
section
variable {nx:(Nat→Bool)→Nat→Bool}
end
end
open Go.Pv
structure Qm (n:Nat) (f:Nat→Nat→Nat) (k:Nat) (cl rep:Nat→Nat):Prop where
 lt:∀ a,a < n→cl a < k
 rlt:∀ i,i < k→rep i < n
 at_:∀ i,i < k→cl (rep i)=i
 cong:∀ a b c d,a < n→b < n→c < n→d < n→cl a=cl b→cl c=cl d→cl (f a c)=cl (f b d)
section
variable {n:Nat} {f:Nat→Nat→Nat} {e:Nat} {p:Nat→Bool}
end
open Go.Pv
section
variable {n:Nat} {f:Nat→Nat→Nat} {e:Nat}
end
end Go.Proofs.YtjlmpmidchddjaaDoor
namespace Go.Proofs.YtjlmpmidchddjaaDoor
open Lean.Grind
attribute [local instance] Lean.Grind.Semiring.natCast Lean.Grind.Ring.intCast
section
variable {n e c:Nat} {f:Nat→Nat→Nat} {cI xx:Nat→Nat} {K:Type} [CommRing K] {p:Nat}
theorem Cd (G:cy n f e) {a b:Nat} (ha:a < n) (hb:b < n):pN n f e a b=G8 n f e a b:=by
 have ia:=G.az ha
 have ib:=G.az hb
 unfold pN bT G8
 rw [G.assoc _ _ _ ib ha hb,← G.assoc _ _ _ ia ib (G.cl _ _ ha hb)]
theorem dw.Ic (h:GC n f e c cI xx) (R:Rp K p) (h2n:2 * n < p) (hn0:(n:K) ≠ 0) {tt:Nat→Nat→K} {vv:Nat→Nat} (A:dw K n f e c cI tt vv) {i:Nat} (hi:i < c) (hv:vv i=1) {a:Nat} (ha:rj n f e (GO n f e (fun _=>true) fun _=>true) a):a < n∧tt i a=1:=by
 have G:=h.G
 have ht:=A.chr i hi
 have hm:∀ a b,a < n→b < n→tt i (f a b)=tt i a * tt i b:=fun a b ha hb=>A.ma h R h2n hn0 hi hv ha hb
 induction ha with
 | one=>exact ⟨G.el,ht.one⟩
 | step a b h1 hb hp ih =>
  obtain ⟨x,y,hx,hy,_,_,hxy⟩:=wc.1 hp
  have ix:=G.az hx
  have iy:=G.az hy
  have e1:tt i b=1:=by
   rw [← hxy]
   unfold G8
   rw [hm _ _ (G.cl _ _ ix iy) (G.cl _ _ hx hy),hm _ _ ix iy,hm _ _ hx hy]
   have a1:=hm _ _ hx ix
   have a2:=hm _ _ hy iy
   rw [G.dg hx,ht.one] at a1
   rw [G.dg hy,ht.one] at a2
   grind
  exact ⟨G.cl _ _ ih.1 hb,by rw [hm _ _ ih.1 hb,ih.2,e1]; grind⟩
theorem dw.BL (h:GC n f e c cI xx) (R:Rp K p) (h2n:2 * n < p) (hn1:1≤n) (hcn:c≤n) (hn0:(n:K) ≠ 0) (hcz:∀ a:Nat,0 < a→a < p→(a:K) ≠ 0) {tt:Nat→Nat→K} {vv:Nat→Nat} (A:dw K n f e c cI tt vv)
  {d:Nat→Bool} (hd:∀ a,a < n→(d a=true↔rj n f e (GO n f e (fun _=>true) fun _=>true) a)) (hs:Sub n f e d) (hN:ID n f e d):cn vv c 1 * (mem n d).length=n:=by
 have G:=h.G
 have F:=R.fld
 have hcj:∀ y a,y < n→a < n→d (bT n f e y a)=d a:=fun y a hy ha=>by
  have iy:=G.az hy
  have hc:=h.pL hy ha
  have key:∀ y a,y < n→a < n→d a=true→d (bT n f e y a)=true:=fun y a hy ha hda=>hN y hy a ha hda
  have hback:bT n f e (iv n f e y) (bT n f e y a)=a:=by
   have e1:bT n f e (iv n f e y) (bT n f e y a)=f (f y (bT n f e y a)) (iv n f e y):=by unfold bT; rw [G.cQ hy]
   rw [e1]
   unfold bT
   rw [G.assoc _ _ _ iy ha hy,h.nq hy (G.cl _ _ ha hy),h.Fp hy ha]
  rw [Bool.eq_iff_iff]
  exact ⟨fun h1=>by have:=key (iv n f e y) _ iy hc h1; rwa [hback] at this,key y a hy ha⟩
 let D:Nat→K:=fun a=>if d a=true then 1 else 0
 have hDl:sm D n=(((mem n d).length:Nat):K):=by
  unfold mem
  rw [← vA,gU,cr]
 have hWx:∀ i,i < c→∀ x,x < n→sm (fun a=>D a * tt i (f a x)) n=sm (fun a=>D a * tt i a) n * tt i x:=fun i hi x hx=>by
  have ht:=A.chr i hi
  have e1:(n:K) * sm (fun a=>D a * tt i (f a x)) n=(n:K) * (sm (fun a=>D a * tt i a) n * tt i x):=by
   have e2:∀ y,y < n→sm (fun a=>D a * tt i (f a x)) n=sm (fun a=>D a * tt i (f (bT n f e y a) x)) n:=fun y hy=>by
    rw [← h.CQ hy fun a=>D a * tt i (f a x)]
    exact ai fun a ha=>by show (if d (bT n f e y a)=true then (1:K) else 0) * _=(if d a=true then (1:K) else 0) * _; rw [hcj y a hy ha]
   rw [← dN,ai e2,aW]
   have e3:∀ a,a < n→sm (fun y=>D a * tt i (f (bT n f e y a) x)) n=(n:K) * (D a * tt i a * tt i x):=fun a ha=>by
    rw [aL,ht.mul a x ha hx]; grind
   rw [ai e3,aL,bH]
  obtain ⟨ni,hni⟩:=F.1 _ hn0
  grind
 have hW:∀ i,i < c→(vv i:K) * vv i * sm (fun a=>D a * tt i a) n=(if vv i=1 then 1 else 0) * (((mem n d).length:Nat):K):=fun i hi=>by
  have ht:=A.chr i hi
  by_cases hv:vv i=1
  ·rw [if_pos hv,hv,Semiring.natCast_one]
   have:sm (fun a=>D a * tt i a) n=sm D n:=ai fun a ha=>by
    by_cases hda:d a=true
    ·rw [(A.Ic h R h2n hn0 hi hv ((hd a ha).1 hda)).2]; grind
    show (if d a=true then (1:K) else 0) * _=if d a=true then (1:K) else 0
    rw [if_neg hda]; grind
   rw [this,hDl]; grind
  rw [if_neg hv]
  have hz:sm (fun a=>D a * tt i a) n=0:=by
   by_cases hex:∃ a,a < n∧d a=true∧tt i a ≠ 1
   ·obtain ⟨a0,ha0,hda0,hne⟩:=hex
    have e1:=hWx i hi a0 ha0
    have e2:sm (fun a=>D a * tt i (f a a0)) n=sm (fun a=>D a * tt i a) n:=by
     rw [← h.Hx ha0 fun a=>D a * tt i a]
     refine ai fun a ha=>?_
     have:d (f a a0)=d a:=by
      rw [Bool.eq_iff_iff]
      refine ⟨fun h1=>?_,fun h1=>hs.mul a a0 ha ha0 h1 hda0⟩
      have h2:=hs.mul _ _ (G.cl _ _ ha ha0) (G.az ha0) h1 (hs.inv a0 ha0 hda0)
      rwa [h.Fp ha0 ha] at h2
     show (if d a=true then (1:K) else 0) * _=(if d (f a a0)=true then (1:K) else 0) * _
     rw [this]
    rw [e2] at e1
    have e3:sm (fun a=>D a * tt i a) n * (tt i a0 - 1)=0:=by grind
    rcases F.mul e3 with h1 | h1
    ·exact h1
    exact absurd (show tt i a0=1 by grind) hne
   exfalso
   have hall:∀ a,a < n→d a=true→tt i a=1:=fun a ha hda=>Classical.byContradiction fun hc=>hex ⟨a,ha,hda,hc⟩
   have e1:=h.DN F hn0 ht G.el
   have e2:sm (fun a=>sm (fun b=>tt i (f (pN n f e a b) e)) n) n=(n:K) * ((n:K) * 1):=by
    rw [← dN]
    refine ai fun a ha=>?_
    rw [← dN]
    refine ai fun b hb=>?_
    have hc:=h.Hw ha hb
    rw [G.one_r _ hc]
    refine hall _ hc ((hd _ hc).2 ?_)
    have h3:f e (pN n f e a b)=pN n f e a b:=G.one_l _ hc
    rw [← h3]
    refine rj.step _ _ .one hc (wc.2 ⟨a,b,ha,hb,rfl,rfl,?_⟩)
    rw [Cd G ha hb]
   rw [e2,ht.one] at e1
   obtain ⟨v1,v2⟩:=A.sq i hi
   obtain ⟨ni,hni⟩:=F.1 _ hn0
   have e3:((vv i * vv i:Nat):K)=((1:Nat):K):=by
    rw [Semiring.natCast_mul,Semiring.natCast_one]
    have:bI n f e (tt i) (tt i) e=(n:K):=by grind
    rw [this] at v2
    grind
   have e4:=R.gC (p:=p) (by omega) (by have:=R.two; omega) e3
   have hge:=A.ge i hi
   have:2 * 2≤vv i * vv i:=Nat.mul_le_mul (by omega) (by omega)
   omega
  rw [hz]; grind
 have hsum:(n:K)=((cn vv c 1:Nat):K) * (((mem n d).length:Nat):K):=by
  have e1:sm (fun i=>(vv i:K) * vv i * sm (fun a=>D a * tt i a) n) c=(n:K):=by
   have e2:∀ i,i < c→(vv i:K) * vv i * sm (fun a=>D a * tt i a) n=sm (fun a=>D a * ((vv i:K) * vv i * tt i a)) n:=fun i _=>by
    rw [← aL]; exact ai fun a _=>by grind
   rw [ai e2,aW]
   have e3:∀ a,a < n→sm (fun i=>D a * ((vv i:K) * vv i * tt i a)) c=D a * (if a=e then (n:K) else 0):=fun a ha=>by rw [aL,A.Gj a ha]
   rw [ai e3,bc (i:=e) G.el fun a _ hae=>by rw [if_neg hae]; grind,if_pos rfl]
   show (if d e=true then (1:K) else 0) * (n:K)=n
   rw [if_pos hs.one]; grind
  rw [← e1,ai hW,bH]
  congr 1
  unfold cn
  rw [rC]
  exact ai fun i _=>by
   by_cases hh:vv i=1
   ·rw [if_pos hh,if_pos hh,Semiring.natCast_one]
   rw [if_neg hh,if_neg hh,Semiring.natCast_zero]
 have hnum:=G.xk hs
 have hml:0 < (mem n d).length:=List.length_pos_of_mem (aQ.2 ⟨G.el,hs.one⟩)
 have hml2:(mem n d).length≤n:=by
  have hq0:0 < (mem n (lead (yt n f d (yC e)))).length:=Nat.pos_of_ne_zero fun h0=>by
   rw [h0,Nat.zero_mul] at hnum
   omega
  have:=Nat.le_mul_of_pos_left (mem n d).length hq0
  omega
 have hq2:(mem n (lead (yt n f d (yC e)))).length≤n:=by
  have:=Nat.le_mul_of_pos_right (mem n (lead (yt n f d (yC e)))).length hml
  omega
 have hcl:=qy vv 1 c
 have:(mem n (lead (yt n f d (yC e)))).length=cn vv c 1:=by
  refine R.gC (p:=p) (by omega) (by omega) ?_
  have e1:(n:K)=(((mem n (lead (yt n f d (yC e)))).length:Nat):K) * (((mem n d).length:Nat):K):=by rw [← Semiring.natCast_mul,hnum]
  obtain ⟨b,hb⟩:=F.1 _ (hcz _ hml (by omega))
  grind
 rw [← this]
 exact hnum
end
end Go.Proofs.YtjlmpmidchddjaaDoor
namespace Go.Proofs.YtjlmpmidchddjaaDoor
open Lean.Grind
attribute [local instance] Lean.Grind.Semiring.natCast Lean.Grind.Ring.intCast
variable {n e:Nat} {m:List Int}
theorem lK (h:GT n m n e):∃ vv:Nat→Nat,(∀ i,i < aS m n e→((kV m n e).getD i []).getD (pC m n e) 0=(vv i:Nat)∧1≤vv i∧vv i≤n∧vv i ∣ n)∧sn (fun i=>vv i * vv i) (aS m n e)=n ∧
  (∀ d:Nat→Bool,(∀ a,a < n→(d a=true↔rj n (op m n) e (GO n (op m n) e (fun _=>true) fun _=>true) a))→Sub n (op m n) e d→ID n (op m n) e d→cn vv (aS m n e) 1=(dU n (yt n (op m n) d (yC e))).length) ∧
  ∀ (p:Nat) [NeZero p] (tt' : Nat→Nat→Fin p) (vv' : Nat→Nat),PG p→2 ^ 200 < p→dw (Fin p) n (op m n) e (aS m n e) (bS m n e) tt' vv'→∀ d,cn vv (aS m n e) d=cn vv' (aS m n e) d:=by
 obtain ⟨P,p1,p2⟩:=sM h
 have hp3:=P.three
 haveI:NeZero (aJ m n e):=⟨by omega⟩
 have H:=lS h
 have C:=mM h
 have R:=H.R
 have hn1:=h.2.1.pos
 have hn:=h.2.1.big
 have hcn:=(zl h).2
 obtain ⟨tt,vv,A,hrow⟩:=Cj h
 have hsame:∀ (p:Nat) [NeZero p] (tt' : Nat→Nat→Fin p) (vv' : Nat→Nat),PG p→2 ^ 200 < p→dw (Fin p) n (op m n) e (aS m n e) (bS m n e) tt' vv'→∀ d,cn vv (aS m n e) d=cn vv' (aS m n e) d:=fun p _ tt' vv' hP hb A'=>by
  have h200:120 < 2 ^ 200:=by decide
  exact dw.same C C R (sI hP) p1 H.cz (qS n (by omega) (by omega)) hn1 hn hb hcn hcn A A'
 refine ⟨vv,fun i hi=>?_,A.sum,fun d hd hs hN=>?_,hsame⟩
 ·have hv1:=A.ge i hi
  have hv2:=(A.sq i hi).1
  refine ⟨(hrow i hi).2,hv1,Nat.le_trans (Nat.le_mul_of_pos_left _ hv1) hv2,?_⟩
  obtain ⟨q,q1,q2,q3,q4⟩:=Dz
  haveI:NeZero q:=⟨by have:=q1.three; omega⟩
  obtain ⟨tt',vv',A'⟩:=rl h q1 q2 q3 q4
  have h1:=hsame q tt' vv' q1 q3 A' (vv i)
  have h2:=u5 (vv:=vv) hi
  rw [h1] at h2
  obtain ⟨j,hj,e1⟩:=pe h2
  have h200:120 < 2 ^ 200:=by decide
  have:=A'.dvd C (sI q1) (qS n (by omega) (by omega)) hn1 hn q3 hj
  rwa [e1] at this
 have h1:=A.BL C R p1 hn1 hcn H.nz H.cz hd hs hN
 have h2:=h.2.2.xk hs
 have hml:0 < (mem n d).length:=List.length_pos_of_mem (aQ.2 ⟨h.2.2.el,hs.one⟩)
 have h3:cn vv (aS m n e) 1=(mem n (lead (yt n (op m n) d (yC e)))).length:=Nat.eq_of_mul_eq_mul_right hml (by rw [h1,h2])
 rw [h3]
 unfold dU gu mem
 simp
end Go.Proofs.YtjlmpmidchddjaaDoor
namespace Go.Proofs.YtjlmpmidchddjaaDoor
open Go.Pv
def lI (n' : Nat) (f f' : Nat→Nat→Nat) (a b:Nat):Nat:=f (a / n') (b / n') * n' + f' (a % n') (b % n')
theorem FJ {n n' a b:Nat} {m m' : List Int} (T:qM n m) (T' : qM n' m') (ha:a < n * n') (hb:b < n * n') :
  bL Tryd.prog 62 [.int .i64 a,.int .i64 b,.ptr [.int .i64 n,.list (il m)],.ptr [.int .i64 n',.list (il m')]] (.int .i64 (lI n' (op m n) (op m' n') a b:Nat)):=by
 have hp:=T'.pos
 have h1:a / n' < n:=Nat.div_lt_of_lt_mul (by rw [Nat.mul_comm]; exact ha)
 have h2:b / n' < n:=Nat.div_lt_of_lt_mul (by rw [Nat.mul_comm]; exact hb)
 have h3:a % n' < n':=Nat.mod_lt _ hp
 have h4:b % n' < n':=Nat.mod_lt _ hp
 have h5:=T.lt h1 h2
 have h6:=T'.lt h3 h4
 have hs1:=T.big
 have hs2:=T'.big
 have h7:op m n (a / n') (b / n') * n'≤60 * 60:=Nat.mul_le_mul (by omega) hs2
 have h8:((op m n (a / n') (b / n'):Nat):Int) * (n' : Int)=((op m n (a / n') (b / n') * n' : Nat):Int):=(Int.natCast_mul _ _).symm
 refine aK ae Tryd.func62 rfl (by kernel_rfl) (by rw [Tryd.ntmps62]; exact Nat.le_add_left 4 _) ?_; rw [Tryd.ntmps62]
 refine qm ?_
 refine ab fun K hK=>aa ae ?_
 simp only [ak,fl,gp,aj,simprocAttr]
 refine af trivial (hK _ ?_)<;>clear hK K
 refine qa (qm ?_)
 refine ba mixed (by kernel_rfl) fun K hK=>aa ae ?_
 simp only [ak,fl,gp,aj,simprocAttr,oc,rA]
 refine an ?_ (al (kX T h1 h2) rfl rfl rfl (by simp only [au,Nat.reduceLT]) (by repeat (first|exact trivial|constructor)) (aa ae ?_))
 ·generalize a / n' = s at *; generalize b / n' = t at *; simp only [ah]; omega
 simp only [ak,fl,gp,aj,simprocAttr,oc,rA]
 refine an ?_ (al (kX T' h3 h4) rfl rfl rfl (by simp only [au,Nat.reduceLT]) (by repeat (first|exact trivial|constructor)) (aa ae ?_))
 ·rw [h8]; simp only [ah]; omega
 simp only [ak,fl,gp,aj,simprocAttr,oc,rA]
 refine af ?_ (hK _ ?_)<;>clear hK K
 ·rw [h8]; simp only [ah]; omega
 refine qa (qk ?_)
 simp only [Tryd.results62,bY,ak,fl,gp,aj,simprocAttr]
 all_goals (rfl)
def pf (N:Int) (m:List Int) (N' : Int) (m' : List Int):Int × Int:=
 if ¬ (gf N m).1=0 then gf N m else if ¬ (gf N' m').1=0 then gf N' m' else if N * N' > 60 then (9,0) else (0,0)
theorem uW (N:Int) (m:List Int) (N' : Int) (m' : List Int) (hm:m.length≤1000000000000000) (hm' : m'.length≤1000000000000000) (hf:¬ (pf N m N' m').1=0):bL Tryd.prog 28 [gp N m,gp N' m'] (.tup [gp 0 [],fl (pf N m N' m')]):=by
 refine aK ae Tryd.func28 rfl (by kernel_rfl) (by rw [Tryd.ntmps28]; exact Nat.le_add_left 2 _) ?_; rw [Tryd.ntmps28]
 refine qm ?_
 refine ab fun K hK=>aa ae ?_
 simp only [ak,fl,gp,aj,simprocAttr]
 refine af ?_ (hK _ ?_)<;>clear hK K
 ·first|exact trivial|omega|(simp only [ah] at *; omega)|(simp [ah] at *; omega)|simp_all
 refine qa (qm (qm ?_))
 refine ab fun K hK=>aa ae ?_
 simp only [ak,fl,gp,aj,simprocAttr]
 refine af ?_ (hK _ ?_)<;>clear hK K
 ·first|exact trivial|omega|(simp only [ah] at *; omega)|(simp [ah] at *; omega)|simp_all
 refine qa (ql ?_)
 refine aB (ι:=Nat) (fun i=>⟨41,[(2,.ptr 0 0),(3,.ptr 1 0),(4,.ptr 2 0),(5,.ptr 3 0),(11,.p (.nn [gp N m,gp N' m'])),(12,.p (.int .i64 2)),(13,.p (.int .i64 i))],[.own [.p (.int .i64 N),.p (.list (il m))],.own [.p (.int .i64 N'),.p (.list (il m'))],.own [.p (.int .i64 0),.p .nil],.own [.p (.int .i64 0),.p (.int .i64 0)]]⟩) (fun i=>i≤2∧(1≤i→(gf N m).1=0)∧(2≤i→(gf N' m').1=0)) (fun i=>2 - i) 0 ⟨by omega,by omega,by omega⟩ [0,1,2,3] (by simp only [leq,bw,ak,fl,gp,aj,simprocAttr]<;>trivial) fun i hi=>?_
 obtain ⟨hi1,hi2,hi3⟩:=hi
 refine qm ?_
 refine ab fun K hK=>aa ae ?_
 simp only [ak,fl,gp,aj,simprocAttr]
 refine af trivial (hK _ ?_)<;>clear hK K
 refine qa (qm ?_)
 refine ao rfl (fun hC1=>?_) (fun hC1=>?_)
 ·(try simp only [aH] at hC1)
  refine qh (qa (qm (ql (qm ?_))))
  rcases (show i=0∨i=1 by omega) with rfl | rfl
  ·refine ab fun K hK=>aa ae ?_
   simp only [ak,fl,gp,aj,simprocAttr,List.getD_cons_zero,List.getD_cons_succ]
   refine af ?_ (hK _ ?_)<;>clear hK K
   ·first|exact trivial|omega|(simp only [ah] at *; omega)|(simp [ah] at *; omega)|simp_all
   refine qa (qm ?_)
   refine ab fun K hK=>aa ae ?_
   simp only [ak,fl,gp,aj,simprocAttr]
   refine an trivial (al (iB N m hm) rfl rfl rfl (by simp only [au,Nat.reduceLT]) (by repeat (first|exact trivial|constructor)) (aa ae ?_))
   simp only [ak,fl,gp,aj,simprocAttr]
   refine af ?_ (hK _ ?_)<;>clear hK K
   ·first|exact trivial|omega|(simp only [ah] at *; omega)|(simp [ah] at *; omega)|simp_all
   refine qa (qm ?_)
   refine ab fun K hK=>aa ae ?_
   simp only [ak,fl,gp,aj,simprocAttr]
   refine af ?_ (hK _ ?_)<;>clear hK K
   ·first|exact trivial|omega|(simp only [ah] at *; omega)|(simp [ah] at *; omega)|simp_all
   refine qa ?_
   refine ao rfl (fun hC2=>?_) (fun hC2=>?_)
   ·(try simp only [aH] at hC2)
    refine qm ?_
    refine ob mixed fun K hK=>fR ae ?_
    simp only [He,ak,fl,gp,aj,simprocAttr]
    refine oF ?_ (hK _ _ (by first|kernel_rfl|rfl) ?_)<;>clear hK K
    ·first|exact trivial|omega|(simp only [ah] at *; omega)|(simp [ah] at *; omega)|simp_all
    refine qa (qk (qe (qb (qb (qe (qb ?_))))))
    simp only [Tryd.results28,bY,ak,fl,gp,aj,simprocAttr]
    all_goals (unfold pf; rw [if_pos hC2]; simp [il])
   (try simp only [aH] at hC2)
   refine qh (qd (qa ?_))
   refine ab fun K hK=>aa ae ?_
   simp only [ak,fl,gp,aj,simprocAttr]
   refine af ?_ (hK _ ?_)<;>clear hK K
   ·first|exact trivial|omega|(simp only [ah] at *; omega)|(simp [ah] at *; omega)|simp_all
   refine qa ?_
   refine ⟨1,[0,1,2,3],⟨by omega,fun _=>hC2,by omega⟩,by omega,?_⟩
   simp only [leq,bw,ak,fl,gp,aj,simprocAttr]<;>first|trivial|omega
  refine ab fun K hK=>aa ae ?_
  simp only [ak,fl,gp,aj,simprocAttr,List.getD_cons_zero,List.getD_cons_succ]
  refine af ?_ (hK _ ?_)<;>clear hK K
  ·first|exact trivial|omega|(simp only [ah] at *; omega)|(simp [ah] at *; omega)|simp_all
  refine qa (qm ?_)
  refine ab fun K hK=>aa ae ?_
  simp only [ak,fl,gp,aj,simprocAttr]
  refine an trivial (al (iB N' m' hm') rfl rfl rfl (by simp only [au,Nat.reduceLT]) (by repeat (first|exact trivial|constructor)) (aa ae ?_))
  simp only [ak,fl,gp,aj,simprocAttr]
  refine af ?_ (hK _ ?_)<;>clear hK K
  ·first|exact trivial|omega|(simp only [ah] at *; omega)|(simp [ah] at *; omega)|simp_all
  refine qa (qm ?_)
  refine ab fun K hK=>aa ae ?_
  simp only [ak,fl,gp,aj,simprocAttr]
  refine af ?_ (hK _ ?_)<;>clear hK K
  ·first|exact trivial|omega|(simp only [ah] at *; omega)|(simp [ah] at *; omega)|simp_all
  refine qa ?_
  refine ao rfl (fun hC2=>?_) (fun hC2=>?_)
  ·(try simp only [aH] at hC2)
   refine qm ?_
   refine ob mixed fun K hK=>fR ae ?_
   simp only [He,ak,fl,gp,aj,simprocAttr]
   refine oF ?_ (hK _ _ (by first|kernel_rfl|rfl) ?_)<;>clear hK K
   ·first|exact trivial|omega|(simp only [ah] at *; omega)|(simp [ah] at *; omega)|simp_all
   refine qa (qk (qe (qb (qb (qe (qb ?_))))))
   simp only [Tryd.results28,bY,ak,fl,gp,aj,simprocAttr]
   all_goals (unfold pf; rw [if_neg (by simpa using hi2 (by omega)),if_pos hC2]; simp [il])
  (try simp only [aH] at hC2)
  refine qh (qd (qa ?_))
  refine ab fun K hK=>aa ae ?_
  simp only [ak,fl,gp,aj,simprocAttr]
  refine af ?_ (hK _ ?_)<;>clear hK K
  ·first|exact trivial|omega|(simp only [ah] at *; omega)|(simp [ah] at *; omega)|simp_all
  refine qa ?_
  refine ⟨2,[0,1,2,3],⟨by omega,fun _=>hi2 (by omega),fun _=>hC2⟩,by omega,?_⟩
  simp only [leq,bw,ak,fl,gp,aj,simprocAttr]<;>first|trivial|omega
 (try simp only [aH] at hC1)
 have z1:=hi2 (by omega)
 have z2:=hi3 (by omega)
 obtain ⟨n,e,⟨rfl,T,G⟩,_⟩:=tV z1
 obtain ⟨n',e',⟨rfl,T',G'⟩,_⟩:=tV z2
 have hs1:=T.big
 have hs2:=T'.big
 have hmul:(n:Int) * (n' : Int)=((n * n' : Nat):Int):=(Int.natCast_mul _ _).symm
 have hle:n * n'≤60 * 60:=Nat.mul_le_mul hs1 hs2
 refine qj (qc (qc (qf (qa (qm (qm ?_))))))
 refine ab fun K hK=>aa ae ?_
 simp only [ak,fl,gp,aj,simprocAttr]
 refine af ?_ (hK _ ?_)<;>clear hK K
 ·rw [hmul]; simp only [ah]; omega
 refine qa ?_
 refine ao rfl (fun hC3=>?_) (fun hC3=>?_)
 ·(try simp only [aH] at hC3)
  refine qm ?_
  refine ab fun K hK=>aa ae ?_
  simp only [ak,fl,gp,aj,simprocAttr]
  refine an trivial (al (fH 9 0) rfl rfl rfl (by simp only [au,Nat.reduceLT]) (by repeat (first|exact trivial|constructor)) (aa ae ?_))
  simp only [ak,fl,gp,aj,simprocAttr]
  refine af ?_ (hK _ ?_)<;>clear hK K
  ·first|exact trivial|omega|(simp only [ah] at *; omega)|(simp [ah] at *; omega)|simp_all
  refine qa (qk (qb ?_))
  simp only [Tryd.results28,bY,ak,fl,gp,aj,simprocAttr]
  all_goals (unfold pf; rw [if_neg (by simpa using z1),if_neg (by simpa using z2),if_pos hC3]; simp [il])
 (try simp only [aH] at hC3)
 unfold pf at hf; rw [if_neg (by simpa using z1),if_neg (by simpa using z2),if_neg hC3] at hf; exact absurd rfl hf
theorem iq {n e n' e' : Nat} {m m' : List Int} (h:GT n m n e) (h' : GT n' m' n' e') (hle:n * n'≤60):bL Tryd.prog 28 [gp n m,gp n' m'] (.tup [gp (n * n' : Nat) (sx (fun a b=>(lI n' (op m n) (op m' n') a b:Nat)) (n * n')),fl (0,0)]):=by
 have T:=h.2.1
 have T':=h'.2.1
 have hsq:=kU T.big
 have hsq':=kU T'.big
 have hl:=T.len
 have hl':=T'.len
 have hmul:(n:Int) * (n' : Int)=((n * n' : Nat):Int):=(Int.natCast_mul _ _).symm
 refine aK ae Tryd.func28 rfl (by kernel_rfl) (by rw [Tryd.ntmps28]; exact Nat.le_add_left 2 _) ?_; rw [Tryd.ntmps28]
 refine qm ?_
 refine ab fun K hK=>aa ae ?_
 simp only [ak,fl,gp,aj,simprocAttr]
 refine af ?_ (hK _ ?_)<;>clear hK K
 ·first|exact trivial|omega|(simp only [ah] at *; omega)|(simp [ah] at *; omega)|simp_all
 refine qa (qm (qm ?_))
 refine ab fun K hK=>aa ae ?_
 simp only [ak,fl,gp,aj,simprocAttr]
 refine af ?_ (hK _ ?_)<;>clear hK K
 ·first|exact trivial|omega|(simp only [ah] at *; omega)|(simp [ah] at *; omega)|simp_all
 refine qa (ql ?_)
 refine aB (ι:=Nat) (fun i=>⟨41,[(2,.ptr 0 0),(3,.ptr 1 0),(4,.ptr 2 0),(5,.ptr 3 0),(11,.p (.nn [gp n m,gp n' m'])),(12,.p (.int .i64 2)),(13,.p (.int .i64 i))],[.own [.p (.int .i64 n),.p (.list (il m))],.own [.p (.int .i64 n'),.p (.list (il m'))],.own [.p (.int .i64 0),.p .nil],.own [.p (.int .i64 0),.p (.int .i64 0)]]⟩) (fun i=>i≤2) (fun i=>2 - i) 0 (by omega) [0,1,2,3] (by simp only [leq,bw,ak,fl,gp,aj,simprocAttr]<;>trivial) fun i hi=>?_
 refine qm ?_
 refine ab fun K hK=>aa ae ?_
 simp only [ak,fl,gp,aj,simprocAttr]
 refine af trivial (hK _ ?_)<;>clear hK K
 refine qa (qm ?_)
 refine ao rfl (fun hC1=>?_) (fun hC1=>?_)
 ·(try simp only [aH] at hC1)
  refine qh (qa (qm (ql (qm ?_))))
  rcases (show i=0∨i=1 by omega) with rfl | rfl
  ·refine ab fun K hK=>aa ae ?_
   simp only [ak,fl,gp,aj,simprocAttr,List.getD_cons_zero,List.getD_cons_succ]
   refine af ?_ (hK _ ?_)<;>clear hK K
   ·first|exact trivial|omega|(simp only [ah] at *; omega)|(simp [ah] at *; omega)|simp_all
   refine qa (qm ?_)
   refine ab fun K hK=>aa ae ?_
   simp only [ak,fl,gp,aj,simprocAttr]
   refine an trivial (al (iB n m (by omega)) rfl rfl rfl (by simp only [au,Nat.reduceLT]) (by repeat (first|exact trivial|constructor)) (aa ae ?_))
   simp only [ak,fl,gp,aj,simprocAttr,p8 h]
   refine af ?_ (hK _ ?_)<;>clear hK K
   ·first|exact trivial|omega|(simp only [ah] at *; omega)|(simp [ah] at *; omega)|simp_all
   refine qa (qm ?_)
   refine ab fun K hK=>aa ae ?_
   simp only [ak,fl,gp,aj,simprocAttr]
   refine af ?_ (hK _ ?_)<;>clear hK K
   ·first|exact trivial|omega|(simp only [ah] at *; omega)|(simp [ah] at *; omega)|simp_all
   refine qa ?_
   refine ao rfl (fun hC2=>?_) (fun hC2=>?_)
   ·cases hC2
   (try simp only [aH] at hC2)
   refine qh (qd (qa ?_))
   refine ab fun K hK=>aa ae ?_
   simp only [ak,fl,gp,aj,simprocAttr]
   refine af ?_ (hK _ ?_)<;>clear hK K
   ·first|exact trivial|omega|(simp only [ah] at *; omega)|(simp [ah] at *; omega)|simp_all
   refine qa ?_
   refine ⟨1,[0,1,2,3],by omega,by omega,?_⟩
   simp only [leq,bw,ak,fl,gp,aj,simprocAttr]<;>first|trivial|omega
  refine ab fun K hK=>aa ae ?_
  simp only [ak,fl,gp,aj,simprocAttr,List.getD_cons_zero,List.getD_cons_succ]
  refine af ?_ (hK _ ?_)<;>clear hK K
  ·first|exact trivial|omega|(simp only [ah] at *; omega)|(simp [ah] at *; omega)|simp_all
  refine qa (qm ?_)
  refine ab fun K hK=>aa ae ?_
  simp only [ak,fl,gp,aj,simprocAttr]
  refine an trivial (al (iB n' m' (by omega)) rfl rfl rfl (by simp only [au,Nat.reduceLT]) (by repeat (first|exact trivial|constructor)) (aa ae ?_))
  simp only [ak,fl,gp,aj,simprocAttr,p8 h']
  refine af ?_ (hK _ ?_)<;>clear hK K
  ·first|exact trivial|omega|(simp only [ah] at *; omega)|(simp [ah] at *; omega)|simp_all
  refine qa (qm ?_)
  refine ab fun K hK=>aa ae ?_
  simp only [ak,fl,gp,aj,simprocAttr]
  refine af ?_ (hK _ ?_)<;>clear hK K
  ·first|exact trivial|omega|(simp only [ah] at *; omega)|(simp [ah] at *; omega)|simp_all
  refine qa ?_
  refine ao rfl (fun hC2=>?_) (fun hC2=>?_)
  ·cases hC2
  (try simp only [aH] at hC2)
  refine qh (qd (qa ?_))
  refine ab fun K hK=>aa ae ?_
  simp only [ak,fl,gp,aj,simprocAttr]
  refine af ?_ (hK _ ?_)<;>clear hK K
  ·first|exact trivial|omega|(simp only [ah] at *; omega)|(simp [ah] at *; omega)|simp_all
  refine qa ?_
  refine ⟨2,[0,1,2,3],by omega,by omega,?_⟩
  simp only [leq,bw,ak,fl,gp,aj,simprocAttr]<;>first|trivial|omega
 (try simp only [aH] at hC1)
 refine qj (qc (qc (qf (qa (qm (qm ?_))))))
 refine ab fun K hK=>aa ae ?_
 simp only [ak,fl,gp,aj,simprocAttr]
 refine af ?_ (hK _ ?_)<;>clear hK K
 ·rw [hmul]; simp only [ah]; omega
 refine qa ?_
 refine ao rfl (fun hC3=>?_) (fun hC3=>?_)
 ·(try simp only [aH] at hC3)
  omega
 (try simp only [aH] at hC3)
 refine qh (qa (qm ?_))
 refine bX 0 rfl rfl ?_
 refine bX 1 rfl rfl ?_
 simp only [aE]
 refine ab fun K hK=>aa ae ?_
 simp only [ak,fl,gp,aj,simprocAttr,hmul]
 refine an ?_ (al (Fe (n * n') hle _ _ (fun a b=>(lI n' (op m n) (op m' n') a b:Nat)) (fun a b ha hb=>FJ T T' ha hb)) rfl rfl rfl (by simp only [au,Nat.reduceLT]) (by repeat (first|exact trivial|constructor)) (aa ae ?_))
 ·first|exact trivial|omega|(simp only [ah] at *; omega)|(simp [ah] at *; omega)|simp_all
 simp only [ak,fl,gp,aj,simprocAttr,hmul]
 refine af ?_ (hK _ ?_)<;>clear hK K
 ·first|exact trivial|omega|(simp only [ah] at *; omega)|(simp [ah] at *; omega)|simp_all
 refine qa (qk ?_)
 simp only [Tryd.results28,bY,ak,fl,gp,aj,simprocAttr]
 all_goals (simp [il])
section
variable {n n' e e' : Nat} {f f' : Nat→Nat→Nat}
theorem bN {x y n' : Nat} (hy:y < n'):(x * n' + y) / n' = x:=by
 rw [Nat.mul_comm,Nat.mul_add_div (by omega),Nat.div_eq_of_lt hy]; omega
theorem bP {x y n' : Nat} (hy:y < n'):(x * n' + y) % n' = y:=by
 rw [Nat.mul_comm,Nat.mul_add_mod,Nat.mod_eq_of_lt hy]
theorem fu {x y n n' : Nat} (hx:x < n) (hy:y < n'):x * n' + y < n * n':=by
 have:(x + 1) * n'≤n * n':=Nat.mul_le_mul_right _ hx
 rw [Nat.add_mul,Nat.one_mul] at this
 omega
theorem cO {a:Nat} (hp:0 < n') (ha:a < n * n'):a / n' < n∧a % n' < n'∧a / n' * n' + a % n' = a:=
 ⟨Nat.div_lt_of_lt_mul (by rw [Nat.mul_comm]; exact ha),Nat.mod_lt _ hp,by rw [Nat.mul_comm]; exact Nat.div_add_mod a n'⟩
theorem rG (G' : cy n' f' e') {a b:Nat} : lI n' f f' a b / n' = f (a / n') (b / n'):=bN (G'.cl _ _ (Nat.mod_lt _ G'.pos) (Nat.mod_lt _ G'.pos))
theorem rX (G' : cy n' f' e') {a b:Nat} : lI n' f f' a b % n' = f' (a % n') (b % n'):=bP (G'.cl _ _ (Nat.mod_lt _ G'.pos) (Nat.mod_lt _ G'.pos))
theorem Cs (G:cy n f e) (G' : cy n' f' e'):cy (n * n') (lI n' f f') (e * n' + e'):=by
 have hp:=G'.pos
 refine ⟨Nat.mul_pos G.pos hp,fun a b ha hb=>?_,fu G.el G'.el,fun a ha=>?_,fun a ha=>?_,fun a b c ha hb hc=>?_,fun a ha=>?_⟩
 ·obtain ⟨a1,a2,_⟩:=cO hp ha
  obtain ⟨b1,b2,_⟩:=cO hp hb
  exact fu (G.cl _ _ a1 b1) (G'.cl _ _ a2 b2)
 ·obtain ⟨a1,a2,a3⟩:=cO hp ha
  unfold lI
  rw [bN G'.el,bP G'.el,G.one_l _ a1,G'.one_l _ a2,a3]
 ·obtain ⟨a1,a2,a3⟩:=cO hp ha
  unfold lI
  rw [bN G'.el,bP G'.el,G.one_r _ a1,G'.one_r _ a2,a3]
 ·obtain ⟨a1,a2,_⟩:=cO hp ha
  obtain ⟨b1,b2,_⟩:=cO hp hb
  obtain ⟨c1,c2,_⟩:=cO hp hc
  have l:lI n' f f' (lI n' f f' a b) c=f (lI n' f f' a b / n') (c / n') * n' + f' (lI n' f f' a b % n') (c % n'):=rfl
  have r:lI n' f f' a (lI n' f f' b c)=f (a / n') (lI n' f f' b c / n') * n' + f' (a % n') (lI n' f f' b c % n'):=rfl
  rw [l,r,rG G',rX G',rG G',rX G',G.assoc _ _ _ a1 b1 c1,G'.assoc _ _ _ a2 b2 c2]
 obtain ⟨a1,a2,_⟩:=cO hp ha
 obtain ⟨x,hx,x1,x2⟩:=G.inv _ a1
 obtain ⟨y,hy,y1,y2⟩:=G'.inv _ a2
 refine ⟨x * n' + y,fu hx hy,?_,?_⟩
 ·unfold lI; rw [bN hy,bP hy,x1,y1]
 unfold lI; rw [bN hy,bP hy,x2,y2]
end
end Go.Proofs.YtjlmpmidchddjaaDoor
namespace Go.Proofs.YtjlmpmidchddjaaDoor
open Lean.Grind
attribute [local instance] Lean.Grind.Semiring.natCast Lean.Grind.Ring.intCast
section
variable {K:Type} [CommRing K]
theorem qg (F:Nat→K) (m:Nat):∀ k,sm F (m + k)=sm F m + sm (fun b=>F (m + b)) k
 | 0=>by show sm F m=sm F m + 0; grind
 | k + 1=>by
  show sm F (m + k) + F (m + k)=sm F m + (sm (fun b=>F (m + b)) k + F (m + k))
  rw [qg F m k]; grind
theorem ss (F:Nat→K) (n' : Nat):∀ n,sm F (n * n')=sm (fun a=>sm (fun b=>F (a * n' + b)) n') n
 | 0=>by rw [Nat.zero_mul]; rfl
 | n + 1=>by rw [Nat.add_mul,Nat.one_mul,qg,ss F n' n]; rfl
theorem qG (F:Nat→Nat) (m:Nat):∀ k,sn F (m + k)=sn F m + sn (fun b=>F (m + b)) k
 | 0=>rfl
 | k + 1=>by
  show sn F (m + k) + F (m + k)=sn F m + (sn (fun b=>F (m + b)) k + F (m + k))
  rw [qG F m k,Nat.add_assoc]
theorem wS (F:Nat→Nat) (n' : Nat):∀ n,sn F (n * n')=sn (fun a=>sn (fun b=>F (a * n' + b)) n') n
 | 0=>by rw [Nat.zero_mul]; rfl
 | n + 1=>by rw [Nat.add_mul,Nat.one_mul,qG,wS F n' n]; rfl
theorem ri (g:Nat→Nat):∀ m,sn g m=((List.range m).map g).sum
 | 0=>rfl
 | m + 1=>by rw [List.range_succ,List.map_append,List.sum_append,← ri g m]; simp [sn]
theorem Cz {A B:Nat} {σ h:Nat→Nat} (h1:∀ x,x < A→σ x < B) (h2:∀ x y,x < A→y < A→σ x=σ y→x=y) (hp:∀ l,l < B→1≤h l) (hs:sn (fun x=>h (σ x)) A=sn h B) (g:Nat→Nat):sn (fun x=>g (σ x)) A=sn g B:=by
 obtain ⟨L,hL⟩:∃ L,L=(List.range A).map σ:=⟨_,rfl⟩
 obtain ⟨L2,hL2⟩:∃ L2,L2=(List.range B).filter fun l=>decide (l ∉ L):=⟨_,rfl⟩
 have hLn:L.Nodup:=by
  rw [hL,List.Nodup,List.pairwise_map]
  exact List.Pairwise.imp_of_mem (R:=fun i j=>i < j) (fun {i j} hi hj hij he=>by have:=h2 i j (List.mem_range.1 hi) (List.mem_range.1 hj) he; omega) List.pairwise_lt_range
 have hLm:∀ l,l∈L→l < B:=fun l hl=>by
  rw [hL] at hl
  obtain ⟨x,hx,rfl⟩:=List.mem_map.1 hl
  exact h1 x (List.mem_range.1 hx)
 have hn:(L++L2).Nodup:=by
  rw [List.nodup_append]
  refine ⟨hLn,by rw [hL2]; exact List.nodup_range.filter _,fun a ha b hb hab=>?_⟩
  subst hab
  rw [hL2,List.mem_filter] at hb
  exact absurd ha (by simpa using hb.2)
 have hm:∀ y,y∈L++L2↔y∈List.range B:=fun y=>by
  rw [List.mem_append,hL2,List.mem_filter,List.mem_range]
  constructor
  ·rintro (h | h)
   ·exact hLm y h
   exact h.1
  intro h
  by_cases hy:y∈L
  ·exact .inl hy
  exact .inr ⟨h,by simpa using hy⟩
 have hlen:(L++L2).length=(List.range B).length:=fb hn List.nodup_range hm
 have hP:(L++L2).Perm (List.range B):=ep hn (fun x hx=>(hm x).1 hx) (by omega)
 have hsum:∀ g:Nat→Nat,sn (fun x=>g (σ x)) A + (L2.map g).sum=sn g B:=fun g=>by
  rw [ri g B,← (hP.map g).sum_nat,List.map_append,List.sum_append,ri,hL,List.map_map]
  rfl
 have h0:L2=[]:=by
  have h3:=hsum h
  cases L2 with
  | nil=>rfl
  | cons l r =>
   exfalso
   have hl:l∈l :: r:=by simp
   rw [hL2,List.mem_filter,List.mem_range] at hl
   have:=hp l hl.1
   rw [List.map_cons,List.sum_cons] at h3
   omega
 have h4:=hsum g
 rw [h0] at h4
 simpa using h4
end
section
variable {n e c n' e' c' c'' : Nat} {f f' f'' : Nat→Nat→Nat} {cI xx cI' xx' cI'' xx'' : Nat→Nat} {K:Type} [CommRing K] {p:Nat}
theorem dw.prod (C:GC n f e c cI xx) (C' : GC n' f' e' c' cI' xx') (C'' : GC (n * n') f'' (e * n' + e') c'' cI'' xx'') (hf:∀ a b,a < n * n'→b < n * n'→f'' a b=lI n' f f' a b) (R:Rp K p) (h2n:2 * (n * n') < p) (hcz:∀ a:Nat,0 < a→a < p→(a:K) ≠ 0)
  {tt tt' tt'' : Nat→Nat→K} {vv vv' vv'' : Nat→Nat} (A:dw K n f e c cI tt vv) (A' : dw K n' f' e' c' cI' tt' vv') (A'' : dw K (n * n') f'' (e * n' + e') c'' cI'' tt'' vv'') (g:Nat→Nat) :
  sn (fun l=>g (vv'' l)) c'' = sn (fun i=>sn (fun k=>g (vv i * vv' k)) c') c:=by
 have G:=C.G
 have G':=C'.G
 have G'':=C''.G
 have F:=R.fld
 have hp':=G'.pos
 have hsp:∀ x,x < n * n'→x / n' < n∧x % n' < n'∧x / n' * n' + x % n' = x:=fun x hx=>cO hp' hx
 have hd:∀ x y,x < n * n'→y < n * n'→f'' x y / n' = f (x / n') (y / n'):=fun x y hx hy=>by rw [hf x y hx hy,rG G']
 have hm:∀ x y,x < n * n'→y < n * n'→f'' x y % n' = f' (x % n') (y % n'):=fun x y hx hy=>by rw [hf x y hx hy,rX G']
 have hiv:∀ x,x < n * n'→iv (n * n') f'' (e * n' + e') x / n' = iv n f e (x / n')∧iv (n * n') f'' (e * n' + e') x % n' = iv n' f' e' (x % n'):=fun x hx=>by
  obtain ⟨x1,x2,x3⟩:=hsp x hx
  have hz:=fu (G.az x1) (G'.az x2)
  have h1:f'' x (iv n f e (x / n') * n' + iv n' f' e' (x % n'))=e * n' + e':=by
   rw [hf _ _ hx hz]
   unfold lI
   rw [bN (G'.az x2),bP (G'.az x2),G.dg x1,G'.dg x2]
  have h2:=G''.ee hx hz (.inl h1)
  rw [← h2]
  exact ⟨bN (G'.az x2),bP (G'.az x2)⟩
 have hcj:∀ y a,y < n * n'→a < n * n'→bT (n * n') f'' (e * n' + e') y a / n' = bT n f e (y / n') (a / n')∧bT (n * n') f'' (e * n' + e') y a % n' = bT n' f' e' (y % n') (a % n'):=fun y a hy ha=>by
  have iy:=G''.az hy
  have hc:=G''.cl _ _ iy ha
  obtain ⟨i1,i2⟩:=hiv y hy
  unfold bT
  exact ⟨by rw [hd _ _ hc hy,hd _ _ iy ha,i1],by rw [hm _ _ hc hy,hm _ _ iy ha,i2]⟩
 let T:Nat→Nat→Nat→K:=fun i k x=>tt i (x / n') * tt' k (x % n')
 have hT:∀ i k,i < c→k < c'→jT (n * n') f'' (e * n' + e') cI'' (T i k):=fun i k hi hk=>by
  have ht:=A.chr i hi
  have ht':=A'.chr k hk
  refine ⟨fun a b ha hb hab=>?_,?_,fun a b ha hb=>?_⟩
  ·obtain ⟨y,hy,hyb⟩:=(C''.cj a b ha hb).1 hab
   have hyb' : bT (n * n') f'' (e * n' + e') y a=b:=hyb
   obtain ⟨c1,c2⟩:=hcj y a hy ha
   rw [hyb'] at c1 c2
   obtain ⟨a1,a2,_⟩:=hsp a ha
   obtain ⟨y1,y2,_⟩:=hsp y hy
   show tt i (a / n') * tt' k (a % n')=tt i (b / n') * tt' k (b % n')
   rw [c1,c2,ht.cl _ _ a1 (C.pL y1 a1) (C.D6 y1 a1).symm,ht'.cl _ _ a2 (C'.pL y2 a2) (C'.D6 y2 a2).symm]
  ·show tt i ((e * n' + e') / n') * tt' k ((e * n' + e') % n')=1
   rw [bN G'.el,bP G'.el,ht.one,ht'.one]; grind
  obtain ⟨a1,a2,_⟩:=hsp a ha
  obtain ⟨b1,b2,_⟩:=hsp b hb
  rw [ss]
  have e1:∀ y1,y1 < n→sm (fun y2=>T i k (f'' (bT (n * n') f'' (e * n' + e') (y1 * n' + y2) a) b)) n' = tt i (f (bT n f e y1 (a / n')) (b / n')) * ((n' : K) * (tt' k (a % n') * tt' k (b % n'))):=fun y1 hy1=>by
   rw [← ht'.mul _ _ a2 b2,← aL]
   refine ai fun y2 hy2=>?_
   have hy:=fu hy1 hy2
   obtain ⟨c1,c2⟩:=hcj _ a hy ha
   rw [bN hy2] at c1
   rw [bP hy2] at c2
   have hcl:=C''.pL hy ha
   show tt i (f'' (bT (n * n') f'' (e * n' + e') (y1 * n' + y2) a) b / n') * tt' k (f'' (bT (n * n') f'' (e * n' + e') (y1 * n' + y2) a) b % n')=_
   rw [hd _ _ hcl hb,hm _ _ hcl hb,c1,c2]
  rw [ai e1,bH,ht.mul _ _ a1 b1]
  show _=((n * n' : Nat):K) * (tt i (a / n') * tt' k (a % n') * (tt i (b / n') * tt' k (b % n')))
  rw [Semiring.natCast_mul]; grind
 have hS:∀ i k,i < c→k < c'→bI (n * n') f'' (e * n' + e') (T i k) (T i k) (e * n' + e')=bI n f e (tt i) (tt i) e * bI n' f' e' (tt' k) (tt' k) e':=fun i k hi hk=>by
  unfold bI
  rw [ss,← bH]
  refine ai fun z1 hz1=>?_
  rw [← aL]
  refine ai fun z2 uD=>?_
  have hz:=fu hz1 uD
  obtain ⟨i1,i2⟩:=hiv _ hz
  rw [bN uD] at i1
  rw [bP uD] at i2
  show tt i (f'' (e * n' + e') (z1 * n' + z2) / n') * tt' k (f'' (e * n' + e') (z1 * n' + z2) % n') * (tt i (iv (n * n') f'' (e * n' + e') (z1 * n' + z2) / n') * tt' k (iv (n * n') f'' (e * n' + e') (z1 * n' + z2) % n'))=_
  rw [hd _ _ G''.el hz,hm _ _ G''.el hz,i1,i2,bN uD,bP uD,bN G'.el,bP G'.el]
  grind
 have hex:∀ x,∃ l,x < c * c'→l < c''∧(∀ a,a < n * n'→T (x / c') (x % c') a=tt'' l a)∧vv'' l=vv (x / c') * vv' (x % c'):=fun x=>by
  by_cases hx:x < c * c'
  ·have hc0:0 < c':=Nat.pos_of_ne_zero fun h0=>by rw [h0,Nat.mul_zero] at hx; omega
   obtain ⟨x1,x2,_⟩:=cO hc0 hx
   obtain ⟨l,l1,l2⟩:=A''.all _ (hT _ _ x1 x2)
   refine ⟨l,fun _=>⟨l1,l2,?_⟩⟩
   obtain ⟨q1,q2⟩:=A''.sq l l1
   obtain ⟨q3,q4⟩:=A.sq _ x1
   obtain ⟨q5,q6⟩:=A'.sq _ x2
   have hs:bI (n * n') f'' (e * n' + e') (tt'' l) (tt'' l) (e * n' + e')=bI n f e (tt (x / c')) (tt (x / c')) e * bI n' f' e' (tt' (x % c')) (tt' (x % c')) e':=by
    rw [← hS _ _ x1 x2]
    unfold bI
    exact ai fun z hz=>by rw [l2 _ (G''.cl _ _ G''.el hz),l2 _ (G''.az hz)]
   have hz1:=A.nz _ x1
   have uD:=A'.nz _ x2
   obtain ⟨s1,hs1⟩:=F.1 _ hz1
   obtain ⟨s2,hs2⟩:=F.1 _ uD
   rw [hs,Semiring.natCast_mul,← q4,← q6] at q2
   have e1:(((vv'' l:Nat):K) - ((vv (x / c') * vv' (x % c'):Nat):K)) * (((vv'' l:Nat):K) + ((vv (x / c') * vv' (x % c'):Nat):K))=0:=by
    rw [Semiring.natCast_mul]
    grind
   have g1:=A''.ge l l1
   have b1:vv'' l≤n * n':=Nat.le_trans (Nat.le_mul_of_pos_left _ g1) q1
   have b2:vv (x / c') * vv' (x % c')≤n * n':=Nat.mul_le_mul (Nat.le_trans (Nat.le_mul_of_pos_left _ (A.ge _ x1)) q3) (Nat.le_trans (Nat.le_mul_of_pos_left _ (A'.ge _ x2)) q5)
   rcases F.mul e1 with h1 | h1
   ·exact R.gC (p:=p) (by omega) (by omega) (by grind)
   exfalso
   exact hcz (vv'' l + vv (x / c') * vv' (x % c')) (by omega) (by omega) (by rw [Semiring.natCast_add]; exact h1)
  exact ⟨0,fun h=>absurd h hx⟩
 obtain ⟨σ,hσ⟩:=Classical.axiomOfChoice hex
 have hinj:∀ x y,x < c * c'→y < c * c'→σ x=σ y→x=y:=fun x y hx hy hxy=>by
  have hc0:0 < c':=Nat.pos_of_ne_zero fun h0=>by rw [h0,Nat.mul_zero] at hx; omega
  obtain ⟨x1,x2,x3⟩:=cO hc0 hx
  obtain ⟨y1,y2,y3⟩:=cO hc0 hy
  obtain ⟨_,lx,_⟩:=hσ x hx
  obtain ⟨_,ly,_⟩:=hσ y hy
  rw [hxy] at lx
  have hTT:∀ a,a < n * n'→T (x / c') (x % c') a=T (y / c') (y % c') a:=fun a ha=>by rw [lx a ha,ly a ha]
  have h1:x / c' = y / c':=Classical.byContradiction fun hne=>by
   have hz:=A.ort _ _ x1 y1 hne
   refine A.nz _ x1 ?_
   rw [← hz]
   refine ai fun z hz=>?_
   have:=hTT _ (fu (G.az hz) G'.el)
   have h3:tt (x / c') ((iv n f e z * n' + e') / n') * tt' (x % c') ((iv n f e z * n' + e') % n')=tt (y / c') ((iv n f e z * n' + e') / n') * tt' (y % c') ((iv n f e z * n' + e') % n'):=this
   rw [bN G'.el,bP G'.el,(A'.chr _ x2).one,(A'.chr _ y2).one] at h3
   grind
  have h2:x % c' = y % c':=Classical.byContradiction fun hne=>by
   have hz:=A'.ort _ _ x2 y2 hne
   refine A'.nz _ x2 ?_
   rw [← hz]
   refine ai fun z hz=>?_
   have hi:=G'.az hz
   have:=hTT _ (fu G.el hi)
   have h3:tt (x / c') ((e * n' + iv n' f' e' z) / n') * tt' (x % c') ((e * n' + iv n' f' e' z) % n')=tt (y / c') ((e * n' + iv n' f' e' z) / n') * tt' (y % c') ((e * n' + iv n' f' e' z) % n'):=this
   rw [bN hi,bP hi,(A.chr _ x1).one,(A.chr _ y1).one] at h3
   grind
  rw [← x3,← y3,h1,h2]
 have hpair:∀ g:Nat→Nat,sn (fun x=>g (vv'' (σ x))) (c * c')=sn (fun i=>sn (fun k=>g (vv i * vv' k)) c') c:=fun g=>by
  rw [wS]
  refine dq fun i hi=>dq fun k hk=>?_
  rw [(hσ _ (fu hi hk)).2.2,bN hk,bP hk]
 rw [← hpair g]
 refine (Cz (h:=fun l=>vv'' l * vv'' l) (fun x hx=>(hσ x hx).1) hinj (fun l hl=>Nat.mul_pos (A''.ge l hl) (A''.ge l hl)) ?_ fun l=>g (vv'' l)).symm
 rw [A''.sum,hpair fun v=>v * v,← A.sum,← A'.sum,← ju]
 refine dq fun i _=>?_
 rw [Nat.mul_comm,← ju]
 exact dq fun k _=>by rw [Nat.mul_mul_mul_comm,Nat.mul_comm]
end
end Go.Proofs.YtjlmpmidchddjaaDoor
namespace Go.Proofs.YtjlmpmidchddjaaDoor
open Go.Pv
theorem cy.Hg {n:Nat} {f f' : Nat→Nat→Nat} {e:Nat} (G:cy n f e) (h:∀ a b,a < n→b < n→f' a b=f a b):cy n f' e:=by
 refine ⟨G.pos,fun a b ha hb=>by rw [h a b ha hb]; exact G.cl a b ha hb,G.el,fun a ha=>by rw [h e a G.el ha]; exact G.one_l a ha,fun a ha=>by rw [h a e ha G.el]; exact G.one_r a ha,fun a b c ha hb hc=>?_,fun a ha=>?_⟩
 ·rw [h a b ha hb,h _ c (G.cl a b ha hb) hc,h b c hb hc,h a _ ha (G.cl b c hb hc)]
  exact G.assoc a b c ha hb hc
 obtain ⟨b,hb,h1,h2⟩:=G.inv a ha
 exact ⟨b,hb,by rw [h a b ha hb]; exact h1,by rw [h b a hb ha]; exact h2⟩
theorem wo (g:Nat→Nat→Nat) {n a b:Nat} (ha:a < n) (hb:b < n):op (sx (fun a b=>(g a b:Nat)) n) n a b=g a b:=by
 unfold op
 rw [xr _ ha hb]; rfl
theorem Cm {n:Nat} {g:Nat→Nat→Nat} (h1:1≤n) (hn:n≤60) (hg:∀ a b,a < n→b < n→g a b < n):qM n (sx (fun a b=>(g a b:Nat)) n):=by
 refine ⟨h1,hn,C4 _ _,fun i hi=>?_⟩
 have h1:i / n < n:=Nat.div_lt_of_lt_mul hi
 have h2:i % n < n:=Nat.mod_lt _ (by omega)
 have h3:i / n * n + i % n=i:=by rw [Nat.mul_comm]; exact Nat.div_add_mod i n
 have:=xr (fun a b=>((g a b:Nat):Int)) h1 h2
 rw [h3] at this
 rw [this]
 have:=hg _ _ h1 h2
 omega
theorem Dg {n e:Nat} {g:Nat→Nat→Nat} (hn:n≤60) (G:cy n g e):GT n (sx (fun a b=>(g a b:Nat)) n) n e:=
 ⟨rfl,Cm G.pos hn G.cl,G.Hg fun a b ha hb=>wo g ha hb⟩
end Go.Proofs.YtjlmpmidchddjaaDoor
namespace Go.Proofs.YtjlmpmidchddjaaDoor
open Lean.Grind
attribute [local instance] Lean.Grind.Semiring.natCast Lean.Grind.Ring.intCast
variable {n e n' e' : Nat} {m m' : List Int}
theorem Bk (h:GT n m n e) (h' : GT n' m' n' e') (hle:n * n'≤60):GT (n * n' : Nat) (sx (fun a b=>(lI n' (op m n) (op m' n') a b:Nat)) (n * n')) (n * n') (e * n' + e'):=Dg hle (Cs h.2.2 h'.2.2)
def Ga (v w:Nat→Nat) (c' d i:Nat):Nat:=sn (fun i=>sn (fun k=>if v i * w k=d then 1 else 0) c') i
theorem yp (h:GT n m n e) (h' : GT n' m' n' e') (hle:n * n'≤60) {M:List Int} (hM:M=sx (fun a b=>(lI n' (op m n) (op m' n') a b:Nat)) (n * n')):∃ v w V:Nat→Nat,
  (∀ i,i < aS m n e→((kV m n e).getD i []).getD (pC m n e) 0=(v i:Nat)∧1≤v i∧v i≤n)∧(∀ i,i < aS m' n' e'→((kV m' n' e').getD i []).getD (pC m' n' e') 0=(w i:Nat)∧1≤w i∧w i≤n') ∧
  (∀ i,i < aS M (n * n') (e * n' + e')→((kV M (n * n') (e * n' + e')).getD i []).getD (pC M (n * n') (e * n' + e')) 0=(V i:Nat)∧1≤V i∧V i≤n * n') ∧
  ∀ d,cn V (aS M (n * n') (e * n' + e')) d=Ga v w (aS m' n' e') d (aS m n e):=by
 have h'':=Bk h h' hle
 rw [← hM] at h''
 have hn1:=h.2.1.pos
 have hn2:=h'.2.1.pos
 have hn60:=h.2.1.big
 have hn60':=h'.2.1.big
 obtain ⟨v,v1,_,_,v4⟩:=lK h
 obtain ⟨w,w1,_,_,w4⟩:=lK h'
 obtain ⟨V,V1,_,_,V4⟩:=lK h''
 refine ⟨v,w,V,fun i hi=>⟨(v1 i hi).1,(v1 i hi).2.1,(v1 i hi).2.2.1⟩,fun i hi=>⟨(w1 i hi).1,(w1 i hi).2.1,(w1 i hi).2.2.1⟩,fun i hi=>⟨(V1 i hi).1,(V1 i hi).2.1,(V1 i hi).2.2.1⟩,fun d=>?_⟩
 obtain ⟨q,q1,q2,q3,q4⟩:=Dz
 haveI:NeZero q:=⟨by have:=q1.three; omega⟩
 have h200:120 < 2 ^ 200:=by decide
 obtain ⟨ta,va,Aa⟩:=rl h q1 q2 q3 q4
 obtain ⟨tb,vb,Ab⟩:=rl h' q1 q2 q3 q4
 obtain ⟨tc,vc',Ac⟩:=rl h'' q1 q2 q3 q4
 have ha:=v4 q ta va q1 q3 Aa
 have hb:=w4 q tb vb q1 q3 Ab
 have hc:=V4 q tc vc' q1 q3 Ac
 have hop:∀ a b,a < n * n'→b < n * n'→op M (n * n') a b=lI n' (op m n) (op m' n') a b:=fun a b ha hb=>by rw [hM]; exact wo _ ha hb
 have hp:=dw.prod (mM h) (mM h') (mM h'') hop (sI q1) (by omega) qS Aa Ab Ac (fun x=>if x=d then 1 else 0)
 rw [hc d]
 have e1:cn vc' (aS M (n * n') (e * n' + e')) d=sn (fun i=>sn (fun k=>if va i * vb k=d then 1 else 0) (aS m' n' e')) (aS m n e):=hp
 rw [e1]
 unfold Ga
 have hva:∀ i,i < aS m n e→va i < 61:=fun i hi=>by have:=(Aa.sq i hi).1; have:=ot this hn60; omega
 have hvb:∀ i,i < aS m' n' e'→vb i < 61:=fun i hi=>by have:=(Ab.sq i hi).1; have:=ot this hn60'; omega
 have hv:∀ i,i < aS m n e→v i < 61:=fun i hi=>by have:=(v1 i hi).2.2.1; omega
 have hw:∀ i,i < aS m' n' e'→w i < 61:=fun i hi=>by have:=(w1 i hi).2.2.1; omega
 rw [ko hva fun x=>sn (fun k=>if x * vb k=d then 1 else 0) (aS m' n' e'),ko hv fun x=>sn (fun k=>if x * w k=d then 1 else 0) (aS m' n' e')]
 refine dq fun x _=>?_
 rw [ha x,ko hvb fun y=>if x * y=d then 1 else 0,ko hw fun y=>if x * y=d then 1 else 0]
 congr 1
 exact dq fun y _=>by rw [hb y]
end Go.Proofs.YtjlmpmidchddjaaDoor
