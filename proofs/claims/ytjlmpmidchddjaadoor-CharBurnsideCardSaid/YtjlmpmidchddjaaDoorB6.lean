/-
  Texts of this proof, one behind the other: what each says stands at its head. Conditions: none.
-/
import Derived.Test.YtjlmpmidchddjaaDoorB5
import Derived.Test.YtjlmpmidchddjaaDoorB3
import Derived.Test.YtjlmpmidchddjaaDoorB4
set_option linter.all false
namespace Go.Proofs.YtjlmpmidchddjaaDoor
open Go.Pv
def dH (m:List Int) (n e:Nat):List (List (List Int)):=cQ (aG m n e) (gE m n e) [aP (aX m n e) (aX m n e)] (aX m n e)
def nI (m:List Int) (n e:Nat):Nat:=bX m n e e
def iO (m:List Int) (n e:Nat) (s:List (List Int)):List Int:=xZ (aG m n e) (vo (aG m n e) (nI m n e) s) (pq (aG m n e) n (nI m n e) (aX m n e) (kz m n e) (cV m n e) s) (cV m n e) (aX m n e) (aX m n e)
def fi (m:List Int) (n e:Nat):List (List Int):=xS (aG m n e) n (nI m n e) (aX m n e) (kz m n e) (cV m n e) (dH m n e)
theorem tK (m:List Int) (n e:Nat):(fi m n e).Perm ((dH m n e).map (iO m n e)):=by
 unfold fi xS
 refine ((lY _).symm.map _).trans ?_
 rw [List.map_map]
 exact List.Perm.of_eq (List.map_congr_left fun s _=>rfl)
theorem zN (m:List Int) (n e:Nat) (s:List (List Int)):(iO m n e s).length=aX m n e:=by simp [iO,xZ,bF]
theorem CE {n e:Nat} {m:List Int} (h:GT n m n e) (s:List (List Int)):ed (aG m n e) (iO m n e s):=by
 obtain ⟨P,p1,p2⟩:=o9 h
 refine nJ (fun t=>bC (by omega) _) fun j=>?_
 rw [List.getD_eq_getElem?_getD,List.getElem?_replicate]
 split
 ·simp only [Option.getD_some]; omega
 simp only [Option.getD_none]; omega
theorem zg {n e:Nat} {m:List Int} (h:GT n m n e):0 < aX m n e∧aX m n e≤n:=⟨by have:=(dm h h.2.2.el).1; omega,iY _ _ _⟩
theorem vN {n e:Nat} {m:List Int} (h:GT n m n e) (hc24:aX m n e≤24):cL Tryd.prog 11 [gp n m] (.tup [.int .i64 (aG m n e),.list (ll (fi m n e)),fl (0,0)]):=by
 obtain ⟨P,p1,p2⟩:=o9 h
 have hp3:=P.three
 haveI:NeZero (aG m n e):=⟨by omega⟩
 have G:=h.2.2
 have E:=G.fL
 have hb:=h.2.1.big
 obtain ⟨lam,Fm⟩:=(kG h).HE
 obtain ⟨hc0,hcn⟩:=zg h
 have hwl:∀ a,a < n→(pD n (bV n (op m n) e)).getD a 0=(bX m n e a:Int):=fun a ha=>by
  rw [pD,jB ha]; exact (dm h ha).2
 have hTl:(gE m n e).length=aX m n e:=by simp [gE]
 have hTg:∀ i,i < aX m n e→(gE m n e).getD i []=iR (aX m n e) (ct n (op m n) e i):=fun i hi=>by simp [gE,List.getD,List.getElem?_map,List.getElem?_range hi]
 have hSl:(dH m n e).length=aX m n e:=Fm.len
 refine B0 h (p:=aG m n e) (c:=aX m n e) (o:=nI m n e) (J:=kz m n e) (S:=cV m n e) (L:=kU m n e) (TT:=gE m n e) (WL:=pD n (bV n (op m n) e)) (by omega) (by omega) hc0 hc24 (pV h) ?_ (qw m hb E) (xp h) rfl hTl (fun i hi=>?_) (fK _ _) (hwl e G.el) (dm h G.el).1 (fun i hi=>?_) (fun i hi=>?_) ?_ fun s hs=>?_
 ·have:=yM h
  have e1:(List.range (eu n (bV n (op m n) e)).length).map (p6 n (op m n) e)=A7 (gE m n e):=by
   unfold A7 gE p6 aX kU
   rw [List.map_map]
   rfl
  rw [e1] at this
  exact this
 ·rw [hTg i hi]
  refine ⟨dQ _ _,wF,fun v hv j=>?_⟩
  obtain ⟨a,ha,rfl⟩:=List.mem_map.1 hv
  by_cases hj:j < aX m n e
  ·have:=jB (n:=aX m n e) (g:=ct n (op m n) e i a) hj
   rw [this]
   have hr:=wi ((eu n (bV n (op m n) e)).getD i []) (cw n (op m n) e j) ((eu n (bV n (op m n) e)).getD i []).length a
   have h2:=(ir h hi).2.1
   unfold cV kU at h2
   unfold ct
   omega
  rw [List.getD_eq_getElem?_getD,List.getElem?_eq_none (by rw [fK]; omega)]
  simp
 ·obtain ⟨s1,s2,s3⟩:=ir h hi
  have hx:=(yx h hi).1
  refine ⟨qK m n e i,hx,s3,hwl _ (G.az hx),(dm h (G.az hx)).1,rfl,s1,by omega⟩
 ·have:=Fm.few i hi
  omega
 ·intro h0
  have:=Fm.len
  rw [h0] at this
  simp at this; omega
 obtain ⟨q,hq,e1⟩:=List.getElem_of_mem hs
 have hq2:q < aX m n e:=by have:=Fm.len; omega
 have hr:=rJ h Fm hq2
 have e2:(cQ (aG m n e) (gE m n e) [aP (aX m n e) (aX m n e)] (aX m n e)).getD q []=s:=by rw [← e1]; simp [List.getD,List.getElem?_eq_getElem hq]
 rw [e2] at hr
 exact hr.sq
open Lean.Grind
attribute [local instance] Lean.Grind.Semiring.natCast Lean.Grind.Ring.intCast
section
variable {K:Type} [CommRing K]
def fu (l:List (List Int)) (F:List Int→K):K:=l.foldr (fun r a=>F r + a) 0
theorem xn {l l' : List (List Int)} (h:l.Perm l') (F:List Int→K):fu l F=fu l' F:=by
 induction h with
 | nil=>rfl
 | cons x _ ih=>show F x + fu _ F=F x + fu _ F; rw [ih]
 | swap x y l=>show F y + (F x + fu l F)=F x + (F y + fu l F); grind
 | trans _ _ h1 h2=>rw [h1,h2]
theorem yD (l l' : List (List Int)) (F:List Int→K):fu (l++l') F=fu l F + fu l' F:=by
 induction l with
 | nil=>show fu l' F=0 + fu l' F; grind
 | cons x l ih=>show F x + fu (l++l') F=F x + fu l F + fu l' F; rw [ih]; grind
theorem vP (F:List Int→K):∀ (l:List (List Int)),fu l F=sm (fun i=>F (l.getD i [])) l.length:=by
 intro l
 have key:∀ k,k≤l.length→fu (l.take k) F=sm (fun i=>F (l.getD i [])) k:=fun k=>by
  induction k with
  | zero=>intro _; rfl
  | succ k ih =>
   intro hk
   rw [List.take_succ_eq_append_getElem (by omega),yD,ih (by omega),sm]
   have:l[k]'(by omega)=l.getD k []:=by simp [List.getD,List.getElem?_eq_getElem (show k < l.length by omega)]
   rw [this]
   show _ + (F _ + 0)=_
   grind
 have:=key l.length (Nat.le_refl _)
 rwa [List.take_length] at this
end
section
variable {n e:Nat} {m:List Int} [NeZero (aG m n e)]
def GQ (m:List Int) (n e:Nat) [NeZero (aG m n e)] (r r' : List Int):Fin (aG m n e):=sm (fun k=>((cV m n e k:Nat):Fin (aG m n e)) * vc r k * vc r' (kz m n e k)) (aX m n e)
theorem eS (h:GT n m n e):(∀ r∈fi m n e,GQ m n e r r=(n:Nat))∧(fi m n e).Pairwise (fun r r'=>GQ m n e r r' = 0∧GQ m n e r' r=0)∧(fi m n e).length=aX m n e∧(∀ r∈fi m n e,r.length=aX m n e∧ed (aG m n e) r) ∧
  ∀ i j,i < aX m n e→j < aX m n e→fu (fi m n e) (fun r=>(vc r j:Fin (aG m n e)) * vc r (kz m n e i)) * ((cV m n e j:Nat):Fin (aG m n e))=if i=j then ((n:Nat):Fin (aG m n e)) else 0:=by
 obtain ⟨lam,Fm⟩:=(kG h).HE
 have H:=kG h
 have hSl:(dH m n e).length=aX m n e:=Fm.len
 have hJl:∀ i,i < aX m n e→kz m n e i < aX m n e:=fun i hi=>(dm h (h.2.2.az (yx h hi).1)).1
 have hrow:∀ q,q < aX m n e→∃ d:Fin (aG m n e),d * d * bY n (op m n) e (bz (bX m n e) (fun i=>((dP (aG m n e) (cV m n e i:Nat):Int):Fin (aG m n e))) (lam q)) (bz (bX m n e) (fun i=>((dP (aG m n e) (cV m n e i:Nat):Int):Fin (aG m n e))) (lam q)) e=(n:Nat)∧∀ i,i < aX m n e→(vc (iO m n e ((dH m n e).getD q [])) i:Fin (aG m n e))=d * lam q i * ((dP (aG m n e) (cV m n e i:Nat):Int):Fin (aG m n e)):=fun q hq=>by
  have hr:=rJ h Fm hq
  refine ⟨_,hr.dd,fun i hi=>?_⟩
  unfold iO
  rw [Db H.R hi]
  have hw:(vc (vo (aG m n e) (nI m n e) ((dH m n e).getD q [])):Nat→Fin (aG m n e))=lam q:=hr.w
  rw [hw]
  show lam q i * ((pq (aG m n e) n (nI m n e) (aX m n e) (kz m n e) (cV m n e) ((dH m n e).getD q []):Nat):Fin (aG m n e)) * _=((pq (aG m n e) n (nI m n e) (aX m n e) (kz m n e) (cV m n e) ((dH m n e).getD q []):Nat):Fin (aG m n e)) * lam q i * _
  grind
 have hrow' : ∀ q,∃ d:Fin (aG m n e),q < aX m n e→d * d * bY n (op m n) e (bz (bX m n e) (fun i=>((dP (aG m n e) (cV m n e i:Nat):Int):Fin (aG m n e))) (lam q)) (bz (bX m n e) (fun i=>((dP (aG m n e) (cV m n e i:Nat):Int):Fin (aG m n e))) (lam q)) e=(n:Nat)∧∀ i,i < aX m n e→(vc (iO m n e ((dH m n e).getD q [])) i:Fin (aG m n e))=d * lam q i * ((dP (aG m n e) (cV m n e i:Nat):Int):Fin (aG m n e)):=fun q=>by
  by_cases hq:q < aX m n e
  ·obtain ⟨d,hd⟩:=hrow q hq; exact ⟨d,fun _=>hd⟩
  exact ⟨0,fun hh=>absurd hh hq⟩
 obtain ⟨d,hd⟩:=Classical.axiomOfChoice hrow'
 have hpr:∀ q q',q < aX m n e→q' < aX m n e→GQ m n e (iO m n e ((dH m n e).getD q [])) (iO m n e ((dH m n e).getD q' []))=d q * d q' * bY n (op m n) e (bz (bX m n e) (fun i=>((dP (aG m n e) (cV m n e i:Nat):Int):Fin (aG m n e))) (lam q)) (bz (bX m n e) (fun i=>((dP (aG m n e) (cV m n e i:Nat):Int):Fin (aG m n e))) (lam q')) e:=fun q q' hq hq'=>by
  unfold GQ
  rw [C5.sum H,← aK]
  refine ai fun i hi=>?_
  rw [(hd q hq).2 i hi,(hd q' hq').2 _ (hJl i hi)]
  have e1:=H.io i hi
  rw [rL h hi] at e1
  have e2:((dP (aG m n e) (cV m n e (kz m n e i):Nat):Int):Fin (aG m n e))=((dP (aG m n e) (cV m n e i:Nat):Int):Fin (aG m n e)):=H.HR hi
  rw [e2]
  show _=d q * d q' * (lam q i * lam q' (kz m n e i) * _)
  grind
 have hP:=tK m n e
 have hg:∀ q,q < aX m n e→((dH m n e).map (iO m n e)).getD q []=iO m n e ((dH m n e).getD q []):=fun q hq=>by
  simp [List.getD,List.getElem?_map,List.getElem?_eq_getElem (show q < (dH m n e).length by omega)]
 refine ⟨fun r hr=>?_,?_,?_,fun r hr=>?_,fun i j hi hj=>?_⟩
 ·obtain ⟨s,hs,rfl⟩:=List.mem_map.1 (hP.mem_iff.1 hr)
  obtain ⟨q,hq,e1⟩:=List.getElem_of_mem hs
  have e2:(dH m n e).getD q []=s:=by rw [← e1]; simp [List.getD,List.getElem?_eq_getElem hq]
  rw [← e2,hpr q q (by omega) (by omega)]
  exact (hd q (by omega)).1
 ·refine (hP.pairwise_iff fun hab=>⟨hab.2,hab.1⟩).2 ?_
  rw [List.pairwise_iff_getElem]
  intro q q' hq hq' hlt
  rw [List.length_map] at hq hq'
  simp only [List.getElem_map]
  have e1:(dH m n e)[q]=(dH m n e).getD q []:=by simp [List.getD,List.getElem?_eq_getElem hq]
  have e2:(dH m n e)[q']=(dH m n e).getD q' []:=by simp [List.getD,List.getElem?_eq_getElem hq']
  rw [e1,e2,hpr q q' (by omega) (by omega),hpr q' q (by omega) (by omega),Fm.ort q q' (by omega) (by omega) (by omega),Fm.ort q' q (by omega) (by omega) (by omega)]
  exact ⟨by grind,by grind⟩
 ·rw [hP.length_eq,List.length_map,hSl]
 ·obtain ⟨s,hs,rfl⟩:=List.mem_map.1 (hP.mem_iff.1 hr)
  exact ⟨zN m n e s,CE h s⟩
 rw [xn hP,vP,List.length_map,hSl]
 have hcol:=C5.H8 H Fm (d:=d) (fun q hq=>(hd q hq).1) hi hj
 have e1:sm (fun q=>(vc (((dH m n e).map (iO m n e)).getD q []) j:Fin (aG m n e)) * vc (((dH m n e).map (iO m n e)).getD q []) (kz m n e i)) (aX m n e)=if i=j then ((n:Nat):Fin (aG m n e)) * ((dP (aG m n e) (cV m n e j:Nat):Int):Fin (aG m n e)) else 0:=by
  rw [← hcol]
  refine ai fun q hq=>?_
  rw [hg q hq,(hd q hq).2 j hj,(hd q hq).2 _ (hJl i hi)]
  have e2:((dP (aG m n e) (cV m n e (kz m n e i):Nat):Int):Fin (aG m n e))=((dP (aG m n e) (cV m n e i:Nat):Int):Fin (aG m n e)):=H.HR hi
  rw [e2]; rfl
 rw [e1]
 have e3:=H.io j hj
 rw [rL h hj] at e3
 by_cases hij:i=j
 ·rw [if_pos hij,if_pos hij]; grind
 rw [if_neg hij,if_neg hij]; grind
end
end Go.Proofs.YtjlmpmidchddjaaDoor
namespace Go.Proofs.YtjlmpmidchddjaaDoor
open Go.Pv
def sV (m:List Int) (n e:Nat):List Int:=(fi m n e).map fun r=>r.getD (nI m n e) 0
theorem xk {n e:Nat} {m:List Int} (h:GT n m n e) (hc24:aX m n e≤24):cL Tryd.prog 13 [gp n m] (.tup [.list (il (sV m n e)),fl (0,0)]):=by
 have E:=h.2.2.fL
 have hb:=h.2.1.big
 obtain ⟨P,p1,p2⟩:=o9 h
 haveI:NeZero (aG m n e):=⟨by have:=P.three; omega⟩
 obtain ⟨_,_,t3,t4,_⟩:=eS h
 have hwl:(pD n (bV n (op m n) e)).getD e 0=(nI m n e:Int):=by rw [pD,jB h.2.2.el]; exact (dm h h.2.2.el).2
 have hol:=(dm h h.2.2.el).1
 have hwll:(pD n (bV n (op m n) e)).length=n:=fK _ _
 refine aM ae Tryd.func13 rfl (by kernel_rfl) (by rw [Tryd.ntmps13]; exact Nat.le_add_left 1 _) ?_; rw [Tryd.ntmps13]
 refine qm ?_
 refine ab fun K hK=>aa ae ?_
 simp only [ak,fl,gp,aj,simprocAttr]
 refine af ?_ (hK _ ?_)<;>clear hK K
 ·first|exact trivial|omega|(simp only [ah] at *; omega)|(simp [ah] at *; omega)|simp_all
 refine qa (qm ?_)
 refine ab fun K hK=>aa ae ?_
 simp only [ak,fl,gp,aj,simprocAttr]
 refine ao trivial (al (vN h hc24) rfl rfl rfl (by simp only [ay,Nat.reduceLT]) (by repeat (first|exact trivial|constructor)) (aa ae ?_))
 simp only [ak,fl,gp,aj,simprocAttr]
 refine af ?_ (hK _ ?_)<;>clear hK K
 ·first|exact trivial|omega|(simp only [ah] at *; omega)|(simp [ah] at *; omega)|simp_all
 refine qa (qm (qm ?_))
 refine ab fun K hK=>aa ae ?_
 simp only [ak,fl,gp,aj,simprocAttr]
 refine af ?_ (hK _ ?_)<;>clear hK K
 ·first|exact trivial|omega|(simp only [ah] at *; omega)|(simp [ah] at *; omega)|simp_all
 refine qa ?_
 refine an rfl (fun hC1=>?_) (fun hC1=>?_)
 ·cases hC1
 (try simp only [aI] at hC1)
 refine qh (qa (qm ?_))
 refine bf mixed (by kernel_rfl) fun K hK=>aa ae ?_
 simp only [ak,fl,gp,aj,simprocAttr]
 refine ao trivial (al (pV h) rfl rfl rfl (by simp only [ay,Nat.reduceLT]) (by repeat (first|exact trivial|constructor)) (aa ae ?_))
 simp only [ak,fl,gp,aj,simprocAttr]
 refine ao trivial (al (qw m hb E) rfl rfl rfl (by simp only [ay,Nat.reduceLT]) (by repeat (first|exact trivial|constructor)) (aa ae ?_))
 simp only [ak,fl,gp,aj,simprocAttr]
 refine af ?_ (hK _ ?_)<;>clear hK K
 ·first|exact trivial|omega|(simp only [ah] at *; omega)|(simp [ah] at *; omega)|simp_all
 refine qa (qm ?_)
 refine ab fun K hK=>aa ae ?_
 simp only [ak,fl,gp,aj,simprocAttr]
 refine af trivial (hK _ ?_)<;>clear hK K
 refine qa (qm (qm ?_))
 refine bT 8 rfl ?_
 refine ab fun K hK=>aa ae ?_
 simp only [ak,fl,gp,aj,simprocAttr,au,t3]
 refine af trivial (hK _ ?_)<;>clear hK K
 refine qa (ql ?_)
 refine aA (ι:=Nat) (fun i=>⟨45,[(1,.ptr 0 0),(3,.ptr 1 0),(6,.ptr 2 0),(7,.p (.list (il (pD n (bV n (op m n) e))))),(8,.sl 3 0 i),(25,.p (.list (ll (fi m n e)))),(26,.p (.int .i64 (aX m n e))),(27,.p (.int .i64 i))],[.own [.p (.int .i64 n),.p (.list (il m))],.own [.p (.int .i64 0),.p (.int .i64 0)],.own [.p (.int .i64 0),.p (.int .i64 0)],.own (ol ((sV m n e).take i))]⟩) (fun i=>i≤aX m n e) (fun i=>aX m n e - i) 0 (Nat.zero_le _) [0,1,2,3] (by simp only [leq,bh,ak,fl,gp,aj,simprocAttr]<;>first|trivial|(simp [kp,kv]; done)|skip) fun i hi=>?_
 refine qm ?_
 refine ab fun K hK=>aa ae ?_
 simp only [ak,fl,gp,aj,simprocAttr]
 refine af trivial (hK _ ?_)<;>clear hK K
 refine qa (qm ?_)
 refine an rfl (fun hC2=>?_) (fun hC2=>?_)
 ·(try simp only [aI] at hC2)
  have hil:i < (fi m n e).length:=by omega
  obtain ⟨r,hr⟩:∃ r,(fi m n e).getD i []=r:=⟨_,rfl⟩
  have hrl:r.length=aX m n e:=by rw [← hr]; exact (t4 _ (aC hil)).1
  have hdk:(sV m n e).take (i + 1)=(sV m n e).take i++[r.getD (nI m n e) 0]:=by
   rw [List.take_succ_eq_append_getElem (by simp [sV]; omega)]
   congr 2
   simp only [sV,List.getElem_map]
   rw [← hr]; simp [List.getD,List.getElem?_eq_getElem hil]
  have hdl:((sV m n e).take i).length=i:=by rw [List.length_take]; simp [sV]; omega
  have hdt:List.take i ((sV m n e).take i)=(sV m n e).take i:=List.take_of_length_le (by omega)
  refine qh (qa (qm (ql (qm ?_))))
  refine ab fun K hK=>aa ae ?_
  simp only [ak,fl,gp,aj,simprocAttr,au,bD hil,hr]
  refine af ?_ (hK _ ?_)<;>clear hK K
  ·omega
  refine qa ?_
  refine ab fun K hK=>aa ae ?_
  simp only [ak,fl,gp,aj,simprocAttr,hdt,hdl,aW (show e < (pD n (bV n (op m n) e)).length by rw [hwll]; exact h.2.2.el),hwl,aW (show nI m n e < r.length by rw [hrl]; exact hol)]
  refine ao ?_ (al (nA h) rfl rfl rfl (by simp only [ay,Nat.reduceLT]) (by repeat (first|exact trivial|constructor)) (aa ae ?_))
  ·first|exact trivial|omega|(simp only [ah] at *; omega)|(simp [ah] at *; omega)|simp_all
  simp only [ak,fl,gp,aj,simprocAttr,hdt,hdl,aW (show e < (pD n (bV n (op m n) e)).length by rw [hwll]; exact h.2.2.el),hwl,aW (show nI m n e < r.length by rw [hrl]; exact hol)]
  refine af ?_ (hK _ ?_)<;>clear hK K
  ·have:=h.2.2.el
   have hol2:nI m n e < aX m n e:=hol
   omega
  refine qd (qa ?_)
  refine ab fun K hK=>aa ae ?_
  simp only [ak,fl,gp,aj,simprocAttr]
  refine af ?_ (hK _ ?_)<;>clear hK K
  ·first|exact trivial|omega|(simp only [ah] at *; omega)|(simp [ah] at *; omega)|simp_all
  refine qa ?_
  refine ⟨i + 1,[0,1,2,4],by omega,by omega,?_⟩
  rw [hdk]
  simp only [leq,bh,ak,fl,gp,aj,simprocAttr]<;>first|trivial|omega|(rw [List.take_of_length_le (by rw [List.length_append]; exact Nat.le_refl _)]; done)|(rw [hdl,List.take_of_length_le (by rw [List.length_append,hdl]; exact Nat.le_refl _)]; done)|skip
 (try simp only [aI] at hC2)
 have hil:i=aX m n e:=by omega
 have hdl:(sV m n e).length=aX m n e:=by simp [sV,t3]
 have hdt:(sV m n e).take i=sV m n e:=List.take_of_length_le (by omega)
 refine qj (qc (qc (qf (qa (qm ?_)))))
 refine bf mixed (by kernel_rfl) fun K hK=>aa ae ?_
 simp only [ak,fl,gp,aj,simprocAttr]
 refine af ?_ (hK _ ?_)<;>clear hK K
 ·first|exact trivial|omega|(simp only [ah] at *; omega)|(simp [ah] at *; omega)|simp_all
 refine qa (qk ?_)
 simp only [Tryd.results13,cy,ak,fl,gp,aj,simprocAttr]
 rw [hdt,List.take_of_length_le (show (sV m n e).length≤i by omega)]
 exact ⟨by omega,rfl⟩
theorem G0 (N:Int) (m:List Int) (hm:m.length≤1000000000000000) (hf:¬ (gf N m).1=0):cL Tryd.prog 14 [gp N m] (fl (gf N m)):=by
 refine aM ae Tryd.func14 rfl (by kernel_rfl) (by rw [Tryd.ntmps14]; exact Nat.le_add_left 1 _) ?_; rw [Tryd.ntmps14]
 refine qm ?_
 refine ab fun K hK=>aa ae ?_
 simp only [ak,fl,gp,aj,simprocAttr]
 refine af ?_ (hK _ ?_)<;>clear hK K
 ·first|exact trivial|omega|(simp only [ah] at *; omega)|(simp [ah] at *; omega)|simp_all
 refine qa (qm ?_)
 refine ab fun K hK=>aa ae ?_
 simp only [ak,fl,gp,aj,simprocAttr]
 refine ao trivial (al (GG N m hm) rfl rfl rfl (by simp only [ay,Nat.reduceLT]) (by repeat (first|exact trivial|constructor)) (aa ae ?_))
 simp only [ak,fl,gp,aj,simprocAttr]
 refine af ?_ (hK _ ?_)<;>clear hK K
 ·first|exact trivial|omega|(simp only [ah] at *; omega)|(simp [ah] at *; omega)|simp_all
 refine qa (qm (qm ?_))
 refine ab fun K hK=>aa ae ?_
 simp only [ak,fl,gp,aj,simprocAttr,decide_eq_false hf]
 refine af ?_ (hK _ ?_)<;>clear hK K
 ·first|exact trivial|omega|(simp only [ah] at *; omega)|(simp [ah] at *; omega)|simp_all
 refine qa ?_
 refine an rfl (fun hC1=>?_) (fun hC1=>?_)
 ·cases hC1
 refine qh (qa (qm ?_))
 refine ab fun K hK=>aa ae ?_
 simp only [ak,fl,gp,aj,simprocAttr]
 refine af ?_ (hK _ ?_)<;>clear hK K
 ·first|exact trivial|omega|(simp only [ah] at *; omega)|(simp [ah] at *; omega)|simp_all
 refine qa (qk ?_)
 simp only [Tryd.results14,cy,ak,fl,gp,aj,simprocAttr]
 all_goals ((first|exact rfl|exact ⟨rfl,rfl⟩|exact ⟨rfl,rfl,rfl⟩|exact ⟨trivial,rfl⟩|exact ⟨Nat.le_refl _,rfl⟩|trivial|(simp; done)))
theorem DJ {n e:Nat} {m:List Int} (h:GT n m n e):cL Tryd.prog 52 [gp n m] (fl (0,0)):=by
 have hb:=h.2.1.big
 have:=GG n m (by rw [h.2.1.len]; have:=Nat.mul_le_mul hb hb; omega)
 rwa [zV h] at this
theorem Cp {n e:Nat} {m:List Int} (h:GT n m n e) (hc:24 < aX m n e):cL Tryd.prog 14 [gp n m] (fl (2,0)):=by
 have hcl:(eu n (bV n (op m n) e)).length=aX m n e:=rfl
 refine aM ae Tryd.func14 rfl (by kernel_rfl) (by rw [Tryd.ntmps14]; exact Nat.le_add_left 1 _) ?_; rw [Tryd.ntmps14]
 refine qm ?_
 refine ab fun K hK=>aa ae ?_
 simp only [ak,fl,gp,aj,simprocAttr]
 refine af ?_ (hK _ ?_)<;>clear hK K
 ·first|exact trivial|omega|(simp only [ah] at *; omega)|(simp [ah] at *; omega)|simp_all
 refine qa (qm ?_)
 refine ab fun K hK=>aa ae ?_
 simp only [ak,fl,gp,aj,simprocAttr]
 refine ao trivial (al (DJ h) rfl rfl rfl (by simp only [ay,Nat.reduceLT]) (by repeat (first|exact trivial|constructor)) (aa ae ?_))
 simp only [ak,fl,gp,aj,simprocAttr]
 refine af ?_ (hK _ ?_)<;>clear hK K
 ·first|exact trivial|omega|(simp only [ah] at *; omega)|(simp [ah] at *; omega)|simp_all
 refine qa (qm (qm ?_))
 refine ab fun K hK=>aa ae ?_
 simp only [ak,fl,gp,aj,simprocAttr,au,hcl]
 refine ao trivial (al (jn h) rfl rfl rfl (by simp only [ay,Nat.reduceLT]) (by repeat (first|exact trivial|constructor)) (aa ae ?_))
 simp only [ak,fl,gp,aj,simprocAttr,au,hcl]
 refine af ?_ (hK _ ?_)<;>clear hK K
 ·first|exact trivial|omega|(simp only [ah] at *; omega)|(simp [ah] at *; omega)|simp_all
 refine qa ?_
 refine an rfl (fun hC1=>?_) (fun hC1=>?_)
 ·(try simp only [aI] at hC1)
  refine ab fun K hK=>aa ae ?_
  simp only [ak,fl,gp,aj,simprocAttr]
  refine ao trivial (al (Ca 2 0) rfl rfl rfl (by simp only [ay,Nat.reduceLT]) (by repeat (first|exact trivial|constructor)) (aa ae ?_))
  simp only [ak,fl,gp,aj,simprocAttr]
  refine af ?_ (hK _ ?_)<;>clear hK K
  ·first|exact trivial|omega|(simp only [ah] at *; omega)|(simp [ah] at *; omega)|simp_all
  refine qa (qm ?_)
  refine ab fun K hK=>aa ae ?_
  simp only [ak,fl,gp,aj,simprocAttr]
  refine af ?_ (hK _ ?_)<;>clear hK K
  ·first|exact trivial|omega|(simp only [ah] at *; omega)|(simp [ah] at *; omega)|simp_all
  refine qa (qk ?_)
  simp only [Tryd.results14,cy,ak,fl,gp,aj,simprocAttr]
  all_goals ((first|exact rfl|exact ⟨rfl,rfl⟩|exact ⟨rfl,rfl,rfl⟩|exact ⟨trivial,rfl⟩|exact ⟨Nat.le_refl _,rfl⟩|trivial|(simp; done)))
 (try simp only [aI] at hC1)
 omega
theorem Gy {n e:Nat} {m:List Int} (h:GT n m n e) (hc:aX m n e≤24):cL Tryd.prog 14 [gp n m] (fl (0,0)):=by
 have hcl:(eu n (bV n (op m n) e)).length=aX m n e:=rfl
 refine aM ae Tryd.func14 rfl (by kernel_rfl) (by rw [Tryd.ntmps14]; exact Nat.le_add_left 1 _) ?_; rw [Tryd.ntmps14]
 refine qm ?_
 refine ab fun K hK=>aa ae ?_
 simp only [ak,fl,gp,aj,simprocAttr]
 refine af ?_ (hK _ ?_)<;>clear hK K
 ·first|exact trivial|omega|(simp only [ah] at *; omega)|(simp [ah] at *; omega)|simp_all
 refine qa (qm ?_)
 refine ab fun K hK=>aa ae ?_
 simp only [ak,fl,gp,aj,simprocAttr]
 refine ao trivial (al (DJ h) rfl rfl rfl (by simp only [ay,Nat.reduceLT]) (by repeat (first|exact trivial|constructor)) (aa ae ?_))
 simp only [ak,fl,gp,aj,simprocAttr]
 refine af ?_ (hK _ ?_)<;>clear hK K
 ·first|exact trivial|omega|(simp only [ah] at *; omega)|(simp [ah] at *; omega)|simp_all
 refine qa (qm (qm ?_))
 refine ab fun K hK=>aa ae ?_
 simp only [ak,fl,gp,aj,simprocAttr,au,hcl]
 refine ao trivial (al (jn h) rfl rfl rfl (by simp only [ay,Nat.reduceLT]) (by repeat (first|exact trivial|constructor)) (aa ae ?_))
 simp only [ak,fl,gp,aj,simprocAttr,au,hcl]
 refine af ?_ (hK _ ?_)<;>clear hK K
 ·first|exact trivial|omega|(simp only [ah] at *; omega)|(simp [ah] at *; omega)|simp_all
 refine qa ?_
 refine an rfl (fun hC1=>?_) (fun hC1=>?_)
 ·(try simp only [aI] at hC1)
  omega
 (try simp only [aI] at hC1)
 refine qh (qa (qm ?_))
 refine ab fun K hK=>aa ae ?_
 simp only [ak,fl,gp,aj,simprocAttr]
 refine af ?_ (hK _ ?_)<;>clear hK K
 ·first|exact trivial|omega|(simp only [ah] at *; omega)|(simp [ah] at *; omega)|simp_all
 refine qa (qk ?_)
 simp only [Tryd.results14,cy,ak,fl,gp,aj,simprocAttr]
 all_goals ((first|exact rfl|exact ⟨rfl,rfl⟩|exact ⟨rfl,rfl,rfl⟩|exact ⟨trivial,rfl⟩|exact ⟨Nat.le_refl _,rfl⟩|trivial|(simp; done)))
theorem r9 {p:Nat} : jU p=true↔1 < p∧∀ d,d < p→2≤d→¬ p % d=0:=by
 unfold jU
 rw [Bool.and_eq_true,decide_eq_true_iff,List.all_eq_true]
 refine ⟨fun ⟨a,b⟩=>⟨a,fun d hd h2=>?_⟩,fun ⟨a,b⟩=>⟨a,fun d hd=>?_⟩⟩
 ·have:=b d (List.mem_range.2 hd)
  simp only [Bool.or_eq_true,decide_eq_true_eq] at this
  rcases this with h | h
  ·omega
  exact h
 simp only [Bool.or_eq_true,decide_eq_true_eq]
 by_cases h2:d < 2
 ·exact .inl h2
 exact .inr (b d (List.mem_range.1 hd) (by omega))
theorem CX {n e:Nat} {m:List Int} (h:GT n m n e) {q:Nat} (hq:2 * n + 1≤q) (h1:q % bn m n e n=1 % bn m n e n) (h2:jU q=true):aG m n e≤q:=by
 have hd:=eX h n (Nat.le_refl _)
 have hp:=h.2.1.pos
 obtain ⟨k1,k2,k3⟩:=pb hp h.2.1.big hd
 unfold aG yf
 have hE0:0 < bn m n e n:=(fR h (Nat.le_refl n)).1
 have hE:=Nat.le_of_dvd (by omega) hd
 generalize bn m n e n=E at *
 have h3:(q - 1) % E=0:=Nat.sub_mod_eq_zero_of_mod_eq h1
 obtain ⟨k,hk⟩:=Nat.dvd_of_mod_eq_zero h3
 have hk0:0 < k:=by
  refine Nat.pos_of_ne_zero fun h0=>?_
  rw [h0,Nat.mul_zero] at hk; omega
 obtain ⟨j,rfl⟩:∃ j,k=j + 1:=⟨k - 1,by omega⟩
 have hqj:q=E * (j + 1) + 1:=by omega
 have hc:xH E n j=true:=by unfold xH; rw [← hqj,h2,decide_eq_true (by omega)]; rfl
 have hjk:tQ E n≤j:=Nat.le_of_not_lt fun hl=>by rw [k3 j hl] at hc; cases hc
 have:=Nat.mul_le_mul_left E (show tQ E n + 1≤j + 1 by omega)
 omega
theorem AP {n e:Nat} {m:List Int} (h:GT n m n e):cL Tryd.prog 56 [gp n m] (.int .i64 (aG m n e:Nat)):=by
 have hb:=h.2.1.big
 obtain ⟨P,p1,p2⟩:=o9 h
 have hd:=eX h n (Nat.le_refl _)
 have hp:=h.2.1.pos
 have hgood:=fun q=>CX h (q:=q)
 have hPm:aG m n e % bn m n e n=1 % bn m n e n:=by
  unfold aG yf
  rw [Nat.mul_add_mod]
 have hPp:jU (aG m n e)=true:=(yg hp hb hd).2.2
 have hE0:=(fR h (Nat.le_refl n))
 refine aM ae Tryd.func56 rfl (by kernel_rfl) (by rw [Tryd.ntmps56]; exact Nat.le_add_left 1 _) ?_; rw [Tryd.ntmps56]
 refine qm ?_
 refine ab fun K hK=>aa ae ?_
 simp only [ak,fl,gp,aj,simprocAttr]
 refine af ?_ (hK _ ?_)<;>clear hK K
 ·first|exact trivial|omega|(simp only [ah] at *; omega)|(simp [ah] at *; omega)|simp_all
 refine qa (qm ?_)
 refine ab fun K hK=>aa ae ?_
 simp only [ak,fl,gp,aj,simprocAttr]
 refine af trivial (hK _ ?_)<;>clear hK K
 refine qa (qm (qm ?_))
 refine ab fun K hK=>aa ae ?_
 simp only [ak,fl,gp,aj,simprocAttr]
 refine af trivial (hK _ ?_)<;>clear hK K
 refine qa (ql ?_)
 refine aA (ι:=Nat) (fun i=>⟨51,[(1,.ptr 0 0),(3,.p (.int .i64 (bn m n e i:Nat))),(4,.p (.int .i64 i))],[.own [.p (.int .i64 n),.p (.list (il m))]]⟩) (fun i=>i≤n) (fun i=>n - i) 0 (Nat.zero_le _) [0] (by simp only [leq,bh,ak,fl,gp,aj,simprocAttr]<;>first|rfl|trivial|skip) fun i hi=>?_
 refine qm (qm ?_)
 refine ab fun K hK=>aa ae ?_
 simp only [ak,fl,gp,aj,simprocAttr]
 refine af ?_ (hK _ ?_)<;>clear hK K
 ·first|exact trivial|omega|(simp only [ah] at *; omega)|(simp [ah] at *; omega)|simp_all
 refine qa ?_
 refine an rfl (fun hC1=>?_) (fun hC1=>?_)
 ·(try simp only [aI] at hC1)
  have hil:i < n:=by omega
  have e1:=fR h hi
  have e2:=fR h (show i + 1≤n from hil)
  have o1:=Nat.le_of_dvd (by omega) (h.2.2.wz hil)
  have o2:=h.2.2.nF hil
  have hL:bn m n e (i + 1)=bn m n e i / Nat.gcd (bn m n e i) (ord n (op m n) e i) * ord n (op m n) e i:=(Bh _ _).symm
  have hgp:0 < Nat.gcd (bn m n e i) (ord n (op m n) e i):=Nat.gcd_pos_of_pos_left _ (by omega)
  have tdd:Int.tdiv ((bn m n e i:Nat):Int) ((Nat.gcd (bn m n e i) (ord n (op m n) e i):Nat):Int)=((bn m n e i / Nat.gcd (bn m n e i) (ord n (op m n) e i):Nat):Int):=rfl
  have hmul:((bn m n e i / Nat.gcd (bn m n e i) (ord n (op m n) e i):Nat):Int) * ((ord n (op m n) e i:Nat):Int)=((bn m n e (i + 1):Nat):Int):=by rw [hL,Int.natCast_mul]
  refine qh (qa (qm (ql ?_)))
  refine tO mixed fun K hK=>dY ae ?_
  simp only [EP,ak,fl,gp,aj,simprocAttr,tdd,hmul]
  refine gV ?_ (fS (H4 h hil) rfl rfl rfl rfl (by simp only [ay,Nat.reduceLT]) (by repeat (first|exact trivial|constructor)) (dY ae ?_))
  ·first|exact trivial|omega|(simp only [ah] at *; omega)|(simp [ah] at *; omega)|simp_all
  simp only [EP,ak,fl,gp,aj,simprocAttr,tdd,hmul]
  refine gV ?_ (fS (Hh (bn m n e i) (ord n (op m n) e i)) rfl rfl rfl rfl (by simp only [ay,Nat.reduceLT]) (by repeat (first|exact trivial|constructor)) (dY ae ?_))
  ·first|exact trivial|omega|(simp only [ah] at *; omega)|(simp [ah] at *; omega)|simp_all
  simp only [EP,ak,fl,gp,aj,simprocAttr,tdd,hmul]
  refine gV ?_ (fS (H4 h hil) rfl rfl rfl rfl (by simp only [ay,Nat.reduceLT]) (by repeat (first|exact trivial|constructor)) (dY ae ?_))
  ·have:=Nat.div_le_self (bn m n e i) (Nat.gcd (bn m n e i) (ord n (op m n) e i))
   obtain ⟨z,hz⟩:∃ z,bn m n e i / Nat.gcd (bn m n e i) (ord n (op m n) e i)=z:=⟨_,rfl⟩
   rw [hz] at this ⊢
   exact ⟨by omega,by simp only [ah]; omega⟩
  simp only [EP,ak,fl,gp,aj,simprocAttr,tdd,hmul]
  refine sZ ?_ (hK _ _ (by first|kernel_rfl|rfl) ?_)<;>clear hK K
  ·simp only [ah]; omega
  refine qd (qa ?_)
  refine ab fun K hK=>aa ae ?_
  simp only [ak,fl,gp,aj,simprocAttr]
  refine af ?_ (hK _ ?_)<;>clear hK K
  ·first|exact trivial|omega|(simp only [ah] at *; omega)|(simp [ah] at *; omega)|simp_all
  refine qa ?_
  refine ⟨i + 1,[0],by omega,by omega,?_⟩
  simp only [leq,bh,ak,fl,gp,aj,simprocAttr]<;>first|trivial|omega|skip
 (try simp only [aI] at hC1)
 have hil:i=n:=by omega
 rw [hil]
 obtain ⟨E,hE⟩:∃ E,bn m n e n=E:=⟨_,rfl⟩
 rw [hE] at hPm hE0 hgood ⊢
 obtain ⟨p,hpp⟩:∃ p,aG m n e=p:=⟨_,rfl⟩
 rw [hpp] at hPm hPp hgood p1 p2 ⊢
 refine qj (qc (qc (qf (qa (qm ?_)))))
 refine ab fun K hK=>aa ae ?_
 simp only [ak,fl,gp,aj,simprocAttr]
 refine af ?_ (hK _ ?_)<;>clear hK K
 ·simp only [ah]; omega
 refine qa (ql ?_)
 refine aA (ι:=Nat) (fun q=>⟨51,[(3,.p (.int .i64 E)),(5,.p (.int .i64 q))],[]⟩) (fun q=>2 * n + 1≤q∧q≤p) (fun q=>p - q) (2 * n + 1) ⟨Nat.le_refl _,by omega⟩ [] (by simp only [leq,bh,ak,fl,gp,aj,simprocAttr]<;>omega) fun q hq=>?_
 obtain ⟨q1,q2⟩:=hq
 have t1:Int.tmod (q:Int) (E:Int)=((q % E:Nat):Int):=rfl
 have t2:Int.tmod 1 (E:Int)=((1 % E:Nat):Int):=rfl
 refine qm (ql (qm ?_))
 refine bf mixed (by kernel_rfl) fun K hK=>aa ae ?_
 simp only [ak,fl,gp,aj,simprocAttr,t1,t2]
 refine af ?_ (hK _ ?_)<;>clear hK K
 ·omega
 refine qa (qm (qm ?_))
 refine ab fun K hK=>aa ae ?_
 simp only [ak,fl,gp,aj,simprocAttr]
 refine af trivial (hK _ ?_)<;>clear hK K
 refine qa (ql ?_)
 refine aA (ι:=Nat × Bool) (fun x=>⟨51,[(3,.p (.int .i64 E)),(5,.p (.int .i64 q)),(6,.p (.bool x.2)),(7,.p (.int .i64 x.1))],[]⟩) (fun x=>2≤x.1∧x.1≤q + 2∧(x.2=true→q % E=1 % E∧∀ t,t < x.1→2≤t→¬ q % t=0)∧(x.2=false→¬ (q % E=1 % E∧jU q=true))) (fun x=>q + 2 - x.1) (2,decide (q % E=1 % E)) ⟨Nat.le_refl _,by simp only; omega,fun hh=>⟨by simpa using hh,fun t h1 h2=>by simp only at h1; omega⟩,fun hh hh2=>by
   rw [decide_eq_true hh2.1] at hh; cases hh⟩ [] (by simp only [leq,bh,ak,fl,gp,aj,simprocAttr]<;>first|trivial|exact decide_eq_decide.2 (by omega)|skip) fun x hx=>?_
 obtain ⟨d,is⟩:=x
 obtain ⟨d1,d2,d3,d4⟩:=hx
 simp only at d1 d2 d3 d4
 have t3:Int.tmod (q:Int) (d:Int)=((q % d:Nat):Int):=rfl
 refine qm (qm ?_)
 rcases Nat.lt_or_ge d q with hdq | hdq
 ·refine ab fun K hK=>aa ae ?_
  simp only [ak,fl,gp,aj,simprocAttr,decide_eq_true (show (d:Int) < (q:Int) by omega)]
  refine af trivial (hK _ ?_)<;>clear hK K
  refine qa ?_
  refine an rfl (fun hC2=>?_) (fun hC2=>?_)
  ·(try simp only [aI] at hC2)
   have his:is=true:=by simpa using hC2
   obtain ⟨a1,a2⟩:=d3 his
   refine qh (qa (qm (ql ?_)))
   refine ab fun K hK=>aa ae ?_
   simp only [ak,fl,gp,aj,simprocAttr,t3]
   refine af ?_ (hK _ ?_)<;>clear hK K
   ·omega
   refine qd (qa ?_)
   refine ab fun K hK=>aa ae ?_
   simp only [ak,fl,gp,aj,simprocAttr]
   refine af ?_ (hK _ ?_)<;>clear hK K
   ·first|exact trivial|omega|(simp only [ah] at *; omega)|(simp [ah] at *; omega)|simp_all
   refine qa ?_
   refine ⟨(d + 1,decide (¬ q % d=0)),[],⟨by simp only; omega,by simp only; omega,fun hh=>⟨a1,fun t h1 h2=>?_⟩,fun hh hh2=>?_⟩,by simp only; omega,?_⟩
   ·by_cases e1:t=d
    ·rw [e1]; simpa using hh
    exact a2 t (by simp only at h1; omega) h2
   ·have hz:q % d=0:=by simpa using hh
    exact (r9.1 hh2.2).2 d hdq d1 hz
   simp only [leq,bh,ak,fl,gp,aj,simprocAttr]<;>first|trivial|omega|(rw [← decide_not]; exact decide_eq_decide.2 (by omega))|skip
  (try simp only [aI] at hC2)
  have his:is=false:=by simpa using hC2
  have hno:=d4 his
  refine qj (qc (qc (qf (qa (qm ?_)))))
  refine ab fun K hK=>aa ae ?_
  simp only [ak,fl,gp,aj,simprocAttr]
  refine af trivial (hK _ ?_)<;>clear hK K
  refine qa ?_
  refine an rfl (fun hC3=>?_) (fun hC3=>?_)
  ·(try simp only [aI] at hC3)
   rw [his] at hC3; cases hC3
  (try simp only [aI] at hC3)
  refine qh (qd (qa ?_))
  refine ab fun K hK=>aa ae ?_
  simp only [ak,fl,gp,aj,simprocAttr]
  refine af ?_ (hK _ ?_)<;>clear hK K
  ·first|exact trivial|omega|(simp only [ah] at *; omega)|(simp [ah] at *; omega)|simp_all
  refine qa ?_
  have hqp:q ≠ p:=fun hh=>hno (by rw [hh]; exact ⟨hPm,hPp⟩)
  refine ⟨q + 1,[],⟨by omega,by omega⟩,by omega,by simp only [leq,bh,ak,fl,gp,aj,simprocAttr]<;>omega⟩
 refine ab fun K hK=>aa ae ?_
 simp only [ak,fl,gp,aj,simprocAttr,decide_eq_false (show ¬ (d:Int) < (q:Int) by omega)]
 refine af trivial (hK _ ?_)<;>clear hK K
 refine qa ?_
 refine an rfl (fun hC2=>?_) (fun hC2=>?_)
 ·cases hC2
 refine qj (qc (qc (qf (qa (qm ?_)))))
 refine ab fun K hK=>aa ae ?_
 simp only [ak,fl,gp,aj,simprocAttr]
 refine af trivial (hK _ ?_)<;>clear hK K
 refine qa ?_
 refine an rfl (fun hC3=>?_) (fun hC3=>?_)
 ·(try simp only [aI] at hC3)
  have his:is=true:=by simpa using hC3
  obtain ⟨a1,a2⟩:=d3 his
  have hpr:jU q=true:=r9.2 ⟨by omega,fun t h1 h2=>a2 t (by omega) h2⟩
  have:=hgood q q1 a1 hpr
  have hqp:q=p:=by omega
  refine qm ?_
  refine ab fun K hK=>aa ae ?_
  simp only [ak,fl,gp,aj,simprocAttr]
  refine af trivial (hK _ ?_)<;>clear hK K
  refine qa (qk (qe (qb (qb (qe ?_)))))
  simp only [Tryd.results56,cy,ak,fl,gp,aj,simprocAttr]
  all_goals (rw [hqp])
 (try simp only [aI] at hC3)
 have his:is=false:=by simpa using hC3
 have hno:=d4 his
 refine qh (qd (qa ?_))
 refine ab fun K hK=>aa ae ?_
 simp only [ak,fl,gp,aj,simprocAttr]
 refine af ?_ (hK _ ?_)<;>clear hK K
 ·first|exact trivial|omega|(simp only [ah] at *; omega)|(simp [ah] at *; omega)|simp_all
 refine qa ?_
 have hqp:q ≠ p:=fun hh=>hno (by rw [hh]; exact ⟨hPm,hPp⟩)
 refine ⟨q + 1,[],⟨by omega,by omega⟩,by omega,by simp only [leq,bh,ak,fl,gp,aj,simprocAttr]<;>omega⟩
theorem vO {α:Type} {R:α→α→Prop} (anti:∀ a b,R a b→R b a→a=b):∀ (xs ys:List α),xs.Perm ys→xs.Pairwise R→ys.Pairwise R→xs=ys
 | [],ys,h,_,_=>h.symm.eq_nil.symm
 | x :: r,[],h,_,_=>h.eq_nil
 | x :: r,y :: s,h,h1,h2=>by
  have hxy:x=y:=by
   have m1:x∈y :: s:=h.mem_iff.1 (by simp)
   have m2:y∈x :: r:=h.mem_iff.2 (by simp)
   rcases List.mem_cons.1 m1 with h3 | h3
   ·exact h3
   rcases List.mem_cons.1 m2 with h4 | h4
   ·exact h4.symm
   exact anti _ _ ((List.pairwise_cons.1 h1).1 y h4) ((List.pairwise_cons.1 h2).1 x h3)
  subst hxy
  rw [vO anti r s (List.Perm.cons_inv h) (List.pairwise_cons.1 h1).2 (List.pairwise_cons.1 h2).2]
theorem wX {xs ys:List (List Int)} (h:xs.Perm ys) (hs:ys.Pairwise fun v w=>¬ dG w v < 0):ys=yr xs:=
 vO (fun a b h1 h2=>kP _ _ h2 h1) _ _ (h.symm.trans (lY xs)) hs (mF xs)
theorem BG:∀ e,e < 8→op wO 8 e 0=0→e=0:=by decide +kernel
theorem zj:(dH wO 8 0).map (ng (aG wO 8 0) 8 (nI wO 8 0) (aX wO 8 0) (kz wO 8 0) (cV wO 8 0))=[[2,2,0,15,0,0],[1,1,1,1,1,1],[1,1,1,1,16,16],[1,1,16,1,1,16],[1,1,16,1,16,1]]:=by decide +kernel
theorem GP:aX wO 8 0=5:=by decide +kernel
theorem G4:nI wO 8 0=0:=by decide +kernel
theorem Fe:sV wO 8 0=[1,1,1,1,2]:=by
 have h:=wX (xs:=[[2,2,0,15,0,0],[1,1,1,1,1,1],[1,1,1,1,16,16],[1,1,16,1,1,16],[1,1,16,1,16,1]]) (ys:=[[1,1,1,1,1,1],[1,1,1,1,16,16],[1,1,16,1,1,16],[1,1,16,1,16,1],[2,2,0,15,0,0]]) (by decide +kernel) (by decide +kernel)
 unfold sV fi xS
 rw [zj,← h,G4]
 rfl
theorem mN:cL Tryd.prog 15 [] (.bool true):=by
 obtain ⟨e,h⟩:=Fl
 have he:e=0:=BG e h.2.2.el (h.2.2.one_l 0 (by omega))
 subst he
 have hd:=xk h (by rw [GP]; omega)
 rw [Fe] at hd
 refine aM ae Tryd.func15 rfl (by kernel_rfl) (by rw [Tryd.ntmps15]; exact Nat.le_add_left 0 _) ?_; rw [Tryd.ntmps15]
 refine qm ?_
 refine ab fun K hK=>aa ae ?_
 simp only [ak,fl,gp,aj,simprocAttr]
 refine af trivial (hK _ ?_)<;>clear hK K
 refine qa (qm ?_)
 refine ab fun K hK=>aa ae ?_
 simp only [ak,fl,gp,aj,simprocAttr]
 refine ao trivial (al (yK) rfl rfl rfl (by simp only [ay,Nat.reduceLT]) (by repeat (first|exact trivial|constructor)) (aa ae ?_))
 simp only [ak,fl,gp,aj,simprocAttr]
 refine ao trivial (al (hd) rfl rfl rfl (by simp only [ay,Nat.reduceLT]) (by repeat (first|exact trivial|constructor)) (aa ae ?_))
 simp only [ak,fl,gp,aj,simprocAttr]
 refine af ?_ (hK _ ?_)<;>clear hK K
 ·first|exact trivial|omega|(simp only [ah] at *; omega)|(simp [ah] at *; omega)|simp_all
 refine qa (qm ?_)
 refine ab fun K hK=>aa ae ?_
 simp only [ak,fl,gp,aj,simprocAttr]
 refine ao trivial (al (cL.sub (args':=[.list (il [1,1,1,1,2]),.nn (il [1,1,1,1,2])]) (Ak [1,1,1,1,2] [1,1,1,1,2] (by decide)) (And.intro (.same _) (And.intro (.nn _) trivial))) rfl rfl rfl (by simp only [ay,Nat.reduceLT]) (by repeat (first|exact trivial|constructor)) (aa ae ?_))
 simp only [ak,fl,gp,aj,simprocAttr]
 refine af ?_ (hK _ ?_)<;>clear hK K
 ·first|exact trivial|omega|(simp only [ah] at *; omega)|(simp [ah] at *; omega)|simp_all
 refine qa (qk ?_)
 simp only [Tryd.results15,cy,ak,fl,gp,aj,simprocAttr]
 all_goals ((first|exact rfl|exact ⟨rfl,rfl⟩|exact ⟨rfl,rfl,rfl⟩|exact ⟨trivial,rfl⟩|exact ⟨Nat.le_refl _,rfl⟩|trivial|(simp; done)))
theorem uC (N:Int) (m:List Int) (f:PV) (c a:Int) (hc:¬ c=0) (hf:cL Tryd.prog 14 [gp N m] (fl (c,a))):cL Tryd.prog 16 [gp N m] (.tup [.int .i64 0,.list [],.list [],.bool false]):=by
 refine aM ae Tryd.func16 rfl (by kernel_rfl) (by rw [Tryd.ntmps16]; exact Nat.le_add_left 1 _) ?_; rw [Tryd.ntmps16]
 refine qm ?_
 refine ab fun K hK=>aa ae ?_
 simp only [ak,fl,gp,aj,simprocAttr]
 refine af ?_ (hK _ ?_)<;>clear hK K
 ·first|exact trivial|omega|(simp only [ah] at *; omega)|(simp [ah] at *; omega)|simp_all
 refine qa (qm (qm ?_))
 refine ab fun K hK=>aa ae ?_
 simp only [ak,fl,gp,aj,simprocAttr]
 refine ao trivial (al (hf) rfl rfl rfl (by simp only [ay,Nat.reduceLT]) (by repeat (first|exact trivial|constructor)) (aa ae ?_))
 simp only [ak,fl,gp,aj,simprocAttr]
 refine af ?_ (hK _ ?_)<;>clear hK K
 ·first|exact trivial|omega|(simp only [ah] at *; omega)|(simp [ah] at *; omega)|simp_all
 refine qa ?_
 refine an rfl (fun hC1=>?_) (fun hC1=>?_)
 ·(try simp only [aI] at hC1)
  refine qm ?_
  refine ab fun K hK=>aa ae ?_
  simp only [ak,fl,gp,aj,simprocAttr]
  refine af trivial (hK _ ?_)<;>clear hK K
  refine qa (qk (qb ?_))
  simp only [Tryd.results16,cy,ak,fl,gp,aj,simprocAttr]
  all_goals ((first|exact rfl|exact ⟨rfl,rfl⟩|exact ⟨rfl,rfl,rfl⟩|exact ⟨trivial,rfl⟩|exact ⟨Nat.le_refl _,rfl⟩|trivial|(simp; done)))
 (try simp only [aI] at hC1)
 exact absurd hC1 hc
theorem xG {n e:Nat} {m:List Int} (h:GT n m n e) (hc24:aX m n e≤24):cL Tryd.prog 16 [gp n m] (.tup [.int .i64 (aG m n e:Nat),.list (ll (fi m n e)),.list (ll (kU m n e)),.bool true]):=by
 obtain ⟨P,p1,p2⟩:=o9 h
 haveI:NeZero (aG m n e):=⟨by have:=P.three; omega⟩
 obtain ⟨_,_,t3,t4,_⟩:=eS h
 have hll:(kU m n e).length=aX m n e:=rfl
 refine aM ae Tryd.func16 rfl (by kernel_rfl) (by rw [Tryd.ntmps16]; exact Nat.le_add_left 1 _) ?_; rw [Tryd.ntmps16]
 refine qm ?_
 refine ab fun K hK=>aa ae ?_
 simp only [ak,fl,gp,aj,simprocAttr]
 refine af ?_ (hK _ ?_)<;>clear hK K
 ·first|exact trivial|omega|(simp only [ah] at *; omega)|(simp [ah] at *; omega)|simp_all
 refine qa (qm (qm ?_))
 refine ab fun K hK=>aa ae ?_
 simp only [ak,fl,gp,aj,simprocAttr]
 refine ao trivial (al (Gy h hc24) rfl rfl rfl (by simp only [ay,Nat.reduceLT]) (by repeat (first|exact trivial|constructor)) (aa ae ?_))
 simp only [ak,fl,gp,aj,simprocAttr]
 refine af ?_ (hK _ ?_)<;>clear hK K
 ·first|exact trivial|omega|(simp only [ah] at *; omega)|(simp [ah] at *; omega)|simp_all
 refine qa ?_
 refine an rfl (fun hC1=>?_) (fun hC1=>?_)
 ·(try simp only [aI] at hC1)
  first|exact absurd rfl hC1|exact hC1.elim|cases hC1|(simp at hC1; done)
 (try simp only [aI] at hC1)
 refine qh (qa (qm ?_))
 refine ab fun K hK=>aa ae ?_
 simp only [ak,fl,gp,aj,simprocAttr]
 refine ao trivial (al (vN h hc24) rfl rfl rfl (by simp only [ay,Nat.reduceLT]) (by repeat (first|exact trivial|constructor)) (aa ae ?_))
 simp only [ak,fl,gp,aj,simprocAttr]
 refine af ?_ (hK _ ?_)<;>clear hK K
 ·first|exact trivial|omega|(simp only [ah] at *; omega)|(simp [ah] at *; omega)|simp_all
 refine qa (qm ?_)
 refine ab fun K hK=>aa ae ?_
 simp only [ak,fl,gp,aj,simprocAttr]
 refine ao trivial (al (jn h) rfl rfl rfl (by simp only [ay,Nat.reduceLT]) (by repeat (first|exact trivial|constructor)) (aa ae ?_))
 simp only [ak,fl,gp,aj,simprocAttr]
 refine af ?_ (hK _ ?_)<;>clear hK K
 ·first|exact trivial|omega|(simp only [ah] at *; omega)|(simp [ah] at *; omega)|simp_all
 refine qa (qm (qm ?_))
 refine ab fun K hK=>aa ae ?_
 simp only [ak,fl,gp,aj,simprocAttr,au,hll,t3]
 refine ao trivial (al (AP h) rfl rfl rfl (by simp only [ay,Nat.reduceLT]) (by repeat (first|exact trivial|constructor)) (aa ae ?_))
 simp only [ak,fl,gp,aj,simprocAttr,au,hll,t3]
 refine af ?_ (hK _ ?_)<;>clear hK K
 ·first|exact trivial|omega|(simp only [ah] at *; omega)|(simp [ah] at *; omega)|simp_all
 refine qa ?_
 refine an rfl (fun hC2=>?_) (fun hC2=>?_)
 ·(try simp only [aI] at hC2)
  first|exact absurd rfl hC2|omega|cases hC2
 (try simp only [aI] at hC2)
 refine qh (qa (qm (qm ?_)))
 refine ab fun K hK=>aa ae ?_
 simp only [ak,fl,gp,aj,simprocAttr]
 refine af trivial (hK _ ?_)<;>clear hK K
 refine qa (ql ?_)
 refine aA (ι:=Nat) (fun i=>⟨82,[(6,.p (.int .i64 (aG m n e:Nat))),(7,.p (.list (ll (fi m n e)))),(9,.p (.list (ll (kU m n e)))),(10,.p (.int .i64 i))],[]⟩) (fun i=>i≤aX m n e) (fun i=>aX m n e - i) 0 (Nat.zero_le _) [] (by simp only [leq,bh,ak,fl,gp,aj,simprocAttr]<;>first|trivial|skip) fun i hi=>?_
 refine qm (qm ?_)
 refine ab fun K hK=>aa ae ?_
 simp only [ak,fl,gp,aj,simprocAttr,au,t3]
 refine af trivial (hK _ ?_)<;>clear hK K
 refine qa ?_
 refine an rfl (fun hC3=>?_) (fun hC3=>?_)
 ·(try simp only [aI] at hC3)
  have hil:i < (fi m n e).length:=by omega
  obtain ⟨r,hr⟩:∃ r,(fi m n e).getD i []=r:=⟨_,rfl⟩
  have hrl:r.length=aX m n e:=by rw [← hr]; exact (t4 _ (aC hil)).1
  have hrg:ed (aG m n e) r:=by rw [← hr]; exact (t4 _ (aC hil)).2
  refine qh (qa (qm (ql (qm (qm ?_)))))
  refine ab fun K hK=>aa ae ?_
  simp only [ak,fl,gp,aj,simprocAttr,au,bD hil,hr,aJ,hrl,hll]
  refine af ?_ (hK _ ?_)<;>clear hK K
  ·first|exact trivial|omega|(simp only [ah] at *; omega)|(simp [ah] at *; omega)|simp_all
  refine qa ?_
  refine an rfl (fun hC4=>?_) (fun hC4=>?_)
  ·(try simp only [aI] at hC4)
   cases hC4
  (try simp only [aI] at hC4)
  refine qh (qa (qm ?_))
  refine ab fun K hK=>aa ae ?_
  simp only [ak,fl,gp,aj,simprocAttr]
  refine af trivial (hK _ ?_)<;>clear hK K
  refine qa (ql ?_)
  refine aA (ι:=Nat) (fun k=>⟨82,[(6,.p (.int .i64 (aG m n e:Nat))),(7,.p (.list (ll (fi m n e)))),(9,.p (.list (ll (kU m n e)))),(10,.p (.int .i64 i)),(11,.p (.int .i64 k))],[]⟩) (fun k=>k≤aX m n e) (fun k=>aX m n e - k) 0 (Nat.zero_le _) [] (by simp only [leq,bh,ak,fl,gp,aj,simprocAttr]<;>first|trivial|skip) fun k hk=>?_
  refine qm (qm ?_)
  refine ab fun K hK=>aa ae ?_
  simp only [ak,fl,gp,aj,simprocAttr,au,hll]
  refine af trivial (hK _ ?_)<;>clear hK K
  refine qa ?_
  refine an rfl (fun hC5=>?_) (fun hC5=>?_)
  ·(try simp only [aI] at hC5)
   have hkl:k < r.length:=by omega
   have hrk:=hrg k
   refine qh (qa (qm (ql (qm ?_))))
   refine ab fun K hK=>aa ae ?_
   simp only [ak,fl,gp,aj,simprocAttr,au,bD hil,hr,aW hkl,decide_eq_false (show ¬ r.getD k 0 < 0 by omega)]
   refine af ?_ (hK _ ?_)<;>clear hK K
   ·omega
   refine qa ?_
   refine an rfl (fun hC6=>?_) (fun hC6=>?_)
   ·(try simp only [aI] at hC6)
    omega
   (try simp only [aI] at hC6)
   refine qh (qd (qa ?_))
   refine ab fun K hK=>aa ae ?_
   simp only [ak,fl,gp,aj,simprocAttr]
   refine af ?_ (hK _ ?_)<;>clear hK K
   ·first|exact trivial|omega|(simp only [ah] at *; omega)|(simp [ah] at *; omega)|simp_all
   refine qa ?_
   refine ⟨k + 1,[],by omega,by omega,by simp only [leq,bh,ak,fl,gp,aj,simprocAttr]<;>first|trivial|omega|skip⟩
  (try simp only [aI] at hC5)
  refine qj (qc (qc (qf (qd (qa ?_)))))
  refine ab fun K hK=>aa ae ?_
  simp only [ak,fl,gp,aj,simprocAttr]
  refine af ?_ (hK _ ?_)<;>clear hK K
  ·first|exact trivial|omega|(simp only [ah] at *; omega)|(simp [ah] at *; omega)|simp_all
  refine qa ?_
  refine ⟨i + 1,[],by omega,by omega,by simp only [leq,bh,ak,fl,gp,aj,simprocAttr]<;>first|trivial|omega|skip⟩
 (try simp only [aI] at hC3)
 refine qj (qc (qc (qf (qa (qm ?_)))))
 refine ab fun K hK=>aa ae ?_
 simp only [ak,fl,gp,aj,simprocAttr]
 refine af trivial (hK _ ?_)<;>clear hK K
 refine qa (qk ?_)
 simp only [Tryd.results16,cy,ak,fl,gp,aj,simprocAttr]
 all_goals ((first|exact rfl|exact ⟨rfl,rfl⟩|exact ⟨rfl,rfl,rfl⟩|exact ⟨trivial,rfl⟩|exact ⟨Nat.le_refl _,rfl⟩|trivial|(simp; done)))
end Go.Proofs.YtjlmpmidchddjaaDoor
namespace Go.Proofs.YtjlmpmidchddjaaDoor
open Go.Pv
open Lean.Grind
attribute [local instance] Lean.Grind.Semiring.natCast Lean.Grind.Ring.intCast
section
variable {K:Type} [CommRing K] {p:Nat}
theorem HV (R:Rp K p) {x y:Int} (hx:0≤x∧x < p) (hy:0≤y∧y < p) (h:(x:K)=(y:K)):x=y:=by
 have h1:(((x - y):Int):K)=0:=by rw [Ring.intCast_sub,h]; grind
 rw [R.ker] at h1
 obtain ⟨k,hk⟩:=Int.dvd_of_emod_eq_zero h1
 have:k=0:=by
  refine Int.le_antisymm (Int.le_of_not_gt fun h=>?_) (Int.le_of_not_gt fun h=>?_)
  ·have:(p:Int) * 1≤(p:Int) * k:=Int.mul_le_mul_of_nonneg_left (by omega) (by omega)
   omega
  have:(p:Int) * k≤(p:Int) * (-1):=Int.mul_le_mul_of_nonneg_left (by omega) (by omega)
  omega
 subst this
 omega
end
end Go.Proofs.YtjlmpmidchddjaaDoor
namespace Go.Proofs.YtjlmpmidchddjaaDoor
open Lean.Grind
attribute [local instance] Lean.Grind.Semiring.natCast Lean.Grind.Ring.intCast
section
variable {n e c:Nat} {f:Nat→Nat→Nat} {cI xx:Nat→Nat} {K:Type} [CommRing K]
theorem GC.Iq (h:GC n f e c cI xx) {t:Nat→K} (ht:kK n f e cI t):kK n f e cI (fun a=>t (iv n f e a)):=by
 have G:=h.G
 refine ⟨fun a b ha hb hab=>ht.cl _ _ (G.az ha) (G.az hb) ((h.Hr ha hb).1 hab),by show t (iv n f e e)=1; rw [G.gK]; exact ht.one,fun a b ha hb=>?_⟩
 rw [← ht.mul _ _ (G.az ha) (G.az hb)]
 refine ai fun y hy=>?_
 have hj:=G.az hy
 have e1:iv n f e (f (bU n f e y a) b)=f (iv n f e b) (bU n f e y (iv n f e a)):=by
  rw [G.bM (h.sT hy ha) hb]
  congr 1
  unfold bU
  rw [G.bM (G.cl _ _ hj ha) hy,G.bM hj ha,G.cN hy,G.assoc _ _ _ hj (G.az ha) hy]
 show t (iv n f e (f (bU n f e y a) b))=t (f (bU n f e y (iv n f e a)) (iv n f e b))
 rw [e1,h.A9 ht.cl (G.az hb) (h.sT hy (G.az ha))]
theorem GC.real (h:GC n f e c cI xx) (F:nr K) (hn:(n:K) ≠ 0) {t:Nat→K} (ht:kK n f e cI t):(∀ a,a < n→t a=t (iv n f e a))∨bY n f e t (fun a=>t (iv n f e a)) e=0:=by
 by_cases hr:∀ a,a < n→t a=t (iv n f e a)
 ·exact .inl hr
 refine .inr ?_
 have:∃ a,a < n∧t a ≠ t (iv n f e a):=Classical.byContradiction fun hc=>hr fun a ha=>Classical.byContradiction fun hc2=>hc ⟨a,ha,hc2⟩
 obtain ⟨a,ha,hne⟩:=this
 exact h.zT F hn ht (h.Iq ht) ha hne h.G.el
end
section
variable {n e:Nat} {m:List Int}
variable [NeZero (aG m n e)]
end
end Go.Proofs.YtjlmpmidchddjaaDoor
namespace Go.Proofs.YtjlmpmidchddjaaDoor
open Go.Pv
open Lean.Grind
attribute [local instance] Lean.Grind.Semiring.natCast Lean.Grind.Ring.intCast
section
variable {K:Type} [CommRing K]
end
end Go.Proofs.YtjlmpmidchddjaaDoor
namespace Go.Proofs.YtjlmpmidchddjaaDoor
open Lean.Grind
attribute [local instance] Lean.Grind.Semiring.natCast Lean.Grind.Ring.intCast
section
variable {n e c:Nat} {f:Nat→Nat→Nat} {cI xx:Nat→Nat} {K:Type} [CommRing K] {p:Nat}
def ez (n:Nat) (a:Nat→K):Prop:=∀ x,n≤x→a x=0
def dl (K:Type) [CommRing K] (g x:Nat):K:=if x=g then 1 else 0
def cv (n:Nat) (f:Nat→Nat→Nat) (e:Nat) (a b:Nat→K) (x:Nat):K:=if x < n then sm (fun y=>a y * b (f (iv n f e y) x)) n else 0
theorem ez.ext {a b:Nat→K} (ha:ez n a) (hb:ez n b) (h:∀ x,x < n→a x=b x):a=b:=by
 funext x
 by_cases hx:x < n
 ·exact h x hx
 rw [ha x (by omega),hb x (by omega)]
theorem ez.zero:ez n (fun _=>(0:K)):=fun _ _=>rfl
theorem ez.add {a b:Nat→K} (ha:ez n a) (hb:ez n b):ez n fun x=>a x + b x:=fun x hx=>by simp only [ha x hx,hb x hx]; grind
theorem ez.smul {a:Nat→K} (k:K) (ha:ez n a):ez n fun x=>k * a x:=fun x hx=>by simp only [ha x hx]; grind
theorem km {g:Nat} (hg:g < n):ez n (dl K g):=fun x hx=>if_neg (by omega)
theorem bG (a b:Nat→K):ez n (cv n f e a b):=fun x hx=>if_neg (by omega)
theorem dw (a b:Nat→K) {x:Nat} (hx:x < n):cv n f e a b x=sm (fun y=>a y * b (f (iv n f e y) x)) n:=if_pos hx
theorem cU (h:GC n f e c cI xx) {a a' b b' : Nat→K} (ha:∀ x,x < n→a x=a' x) (hb:∀ x,x < n→b x=b' x):cv n f e a b=cv n f e a' b':=
 (bG a b).ext (bG a' b') fun x hx=>by
  rw [dw _ _ hx,dw _ _ hx]
  exact ai fun y hy=>by rw [ha y hy,hb _ (h.G.cl _ _ (h.G.az hy) hx)]
theorem bS (a a' b:Nat→K):cv n f e (fun x=>a x + a' x) b=fun x=>cv n f e a b x + cv n f e a' b x:=by
 funext x
 unfold cv
 by_cases hx:x < n
 ·simp only [if_pos hx]
  rw [← iX]; exact ai fun y _=>by grind
 simp only [if_neg hx]; grind
theorem cn (a b b' : Nat→K):cv n f e a (fun x=>b x + b' x)=fun x=>cv n f e a b x + cv n f e a b' x:=by
 funext x
 unfold cv
 by_cases hx:x < n
 ·simp only [if_pos hx]
  rw [← iX]; exact ai fun y _=>by grind
 simp only [if_neg hx]; grind
theorem aR (k:K) (a b:Nat→K):cv n f e (fun x=>k * a x) b=fun x=>k * cv n f e a b x:=by
 funext x
 unfold cv
 by_cases hx:x < n
 ·simp only [if_pos hx]
  rw [← aK]; exact ai fun y _=>by grind
 simp only [if_neg hx]; grind
theorem aO (k:K) (a b:Nat→K):cv n f e a (fun x=>k * b x)=fun x=>k * cv n f e a b x:=by
 funext x
 unfold cv
 by_cases hx:x < n
 ·simp only [if_pos hx]
  rw [← aK]; exact ai fun y _=>by grind
 simp only [if_neg hx]; grind
theorem p9 (b:Nat→K):cv n f e (fun _=>0) b=fun _=>0:=by
 have:=aR (n:=n) (f:=f) (e:=e) (0:K) (fun _=>0) b
 have e1:(fun _:Nat=>(0:K) * 0)=fun _=>0:=by funext x; grind
 rw [e1] at this
 rw [this]; funext x; grind
theorem pe (b:Nat→K):cv n f e b (fun _=>0)=fun _=>0:=by
 have:=aO (n:=n) (f:=f) (e:=e) (0:K) b (fun _=>0)
 have e1:(fun _:Nat=>(0:K) * 0)=fun _=>0:=by funext x; grind
 rw [e1] at this
 rw [this]; funext x; grind
theorem ue (F:Nat→Nat→K) (b:Nat→K) (m:Nat):cv n f e (fun x=>sm (fun g=>F g x) m) b=fun x=>sm (fun g=>cv n f e (F g) b x) m:=by
 induction m with
 | zero=>exact p9 b
 | succ m ih =>
  show cv n f e (fun x=>(fun x=>sm (fun g=>F g x) m) x + F m x) b=_
  rw [bS,ih]; rfl
theorem ow (F:Nat→Nat→K) (b:Nat→K) (m:Nat):cv n f e b (fun x=>sm (fun g=>F g x) m)=fun x=>sm (fun g=>cv n f e b (F g) x) m:=by
 induction m with
 | zero=>exact pe b
 | succ m ih =>
  show cv n f e b (fun x=>(fun x=>sm (fun g=>F g x) m) x + F m x)=_
  rw [cn,ih]; rfl
theorem GC.fD (h:GC n f e c cI xx) (a b d:Nat→K):cv n f e (cv n f e a b) d=cv n f e a (cv n f e b d):=by
 have G:=h.G
 refine (bG _ _).ext (bG _ _) fun x hx=>?_
 rw [dw _ _ hx,dw _ _ hx]
 have e1:∀ y,y < n→cv n f e a b y * d (f (iv n f e y) x)=sm (fun z=>a z * b (f (iv n f e z) y) * d (f (iv n f e y) x)) n:=fun y hy=>by
  rw [dw _ _ hy,← bI]
 rw [ai e1,aU]
 refine ai fun z hz=>?_
 have hzx:=G.cl _ _ (G.az hz) hx
 rw [dw _ _ hzx,← aK,← h.fu hz fun y=>a z * b (f (iv n f e z) y) * d (f (iv n f e y) x)]
 refine ai fun w hw=>?_
 rw [h.xU hz hw,G.bM hz hw,G.assoc _ _ _ (G.az hw) (G.az hz) hx]
 grind
theorem GC.lV (h:GC n f e c cI xx) (a:Nat→K) {g x:Nat} (hg:g < n) (hx:x < n):cv n f e (dl K g) a x=a (f (iv n f e g) x):=by
 rw [dw _ _ hx,ba hg fun y _ hne=>by unfold dl; rw [if_neg hne]; grind]
 unfold dl; rw [if_pos rfl]; grind
theorem GC.Bk (h:GC n f e c cI xx) (a:Nat→K) {g x:Nat} (hg:g < n) (hx:x < n):cv n f e a (dl K g) x=a (f x (iv n f e g)):=by
 have G:=h.G
 have hm:=G.cl _ _ hx (G.az hg)
 rw [dw _ _ hx,ba hm fun y hy hne=>?_]
 ·have:f (iv n f e (f x (iv n f e g))) x=g:=by
   rw [G.bM hx (G.az hg),G.cN hg,G.assoc _ _ _ hg (G.az hx) hx,G.eb hx,G.one_r _ hg]
  unfold dl; rw [this,if_pos rfl]; grind
 unfold dl
 rw [if_neg fun he=>hne ?_]
 ·grind
 have h1:=h.pf hy hx
 rw [he] at h1
 rw [← h1,h.HB hg hy]
theorem GC.GR (h:GC n f e c cI xx) {a:Nat→K} (ha:ez n a):cv n f e (dl K e) a=a:=
 (bG _ _).ext ha fun x hx=>by rw [h.lV a h.G.el hx,h.G.gK,h.G.one_l x hx]
theorem GC.EG (h:GC n f e c cI xx) {a:Nat→K} (ha:ez n a):cv n f e a (dl K e)=a:=
 (bG _ _).ext ha fun x hx=>by rw [h.Bk a h.G.el hx,h.G.gK,h.G.one_r x hx]
theorem GC.Gu (h:GC n f e c cI xx) (a b:Nat→K):cv n f e a b e=cv n f e b a e:=by
 have G:=h.G
 rw [dw _ _ G.el,dw _ _ G.el,← h.w9 fun y=>a y * b (f (iv n f e y) e)]
 exact ai fun y hy=>by rw [G.cN hy,G.one_r y hy,G.one_r _ (G.az hy)]; grind
theorem GC.HC (h:GC n f e c cI xx) {T:Nat→K} (hT:pd n cI T) (a:Nat→K):cv n f e T a=cv n f e a T:=by
 have G:=h.G
 refine (bG _ _).ext (bG _ _) fun x hx=>?_
 rw [dw _ _ hx,dw _ _ hx,← h.fu hx fun y=>T y * a (f (iv n f e y) x),← h.w9 fun y=>T (f x y) * a (f (iv n f e (f x y)) x)]
 refine ai fun w hw=>?_
 have hi:=G.az hw
 have e1:f (iv n f e (f x (iv n f e w))) x=w:=by
  rw [G.bM hx hi,G.cN hw,G.assoc _ _ _ hw (G.az hx) hx,G.eb hx,G.one_r _ hw]
 rw [e1,h.A9 hT hx hi]; grind
def pc (n:Nat) (f:Nat→Nat→Nat) (e:Nat) (u:Nat→K):Nat→Nat→K
 | 0=>dl K e
 | k + 1=>cv n f e u (pc n f e u k)
theorem GC.rm (h:GC n f e c cI xx) (u:Nat→K):∀ k,ez n (pc n f e u k)
 | 0=>km h.G.el
 | k + 1=>bG _ _
theorem GC.jf (h:GC n f e c cI xx) (u:Nat→K) (j:Nat):∀ i,pc n f e u (i + j)=cv n f e (pc n f e u i) (pc n f e u j)
 | 0=>by rw [Nat.zero_add]; exact (h.GR (h.rm u j)).symm
 | i + 1=>by
  rw [show i + 1 + j=(i + j) + 1 by omega]
  show cv n f e u (pc n f e u (i + j))=cv n f e (cv n f e u (pc n f e u i)) _
  rw [h.jf u j i,h.fD]
def tU (u:Nat→K):List Nat→K
 | []=>1
 | y :: w=>u y * tU u w
theorem BJ (u:Nat→K) (w w' : List Nat):tU u (w++w')=tU u w * tU u w':=by
 induction w with
 | nil=>show _=1 * _; rw [List.nil_append]; grind
 | cons y w ih=>show u y * tU u (w++w')=u y * tU u w * _; rw [ih]; grind
theorem wq (u:Nat→K) (x:Nat):∀ k,tU u (List.replicate k x)=u x ^ k
 | 0=>by rw [Semiring.pow_zero]; rfl
 | k + 1=>by
  rw [List.replicate_succ,Semiring.pow_succ]
  show u x * tU u (List.replicate k x)=_
  rw [wq u x k]; grind
theorem GC.rR (h:GC n f e c cI xx) (u:Nat→K):∀ k x,x < n→pc n f e u k x=sW (List.range n) k fun w=>tU u w * if kJ f w e=x then 1 else 0
 | 0,x,hx=>by
  show dl K e x=tU u [] * if e=x then 1 else 0
  unfold dl tU
  by_cases hxe:x=e
  ·rw [if_pos hxe,if_pos hxe.symm]; grind
  rw [if_neg hxe,if_neg (fun h=>hxe h.symm)]; grind
 | k + 1,x,hx=>by
  have G:=h.G
  show cv n f e u (pc n f e u k) x=sl (List.range n) _
  rw [dw _ _ hx,cD]
  refine ai fun y hy=>?_
  rw [h.rR u k _ (G.cl _ _ (G.az hy) hx),← oR]
  refine ej fun w _ hw=>?_
  have hwn:=h.FU (fun z hz=>List.mem_range.1 (hw z hz)) G.el
  show _=u y * tU u w * if f y (kJ f w e)=x then 1 else 0
  by_cases hq:kJ f w e=f (iv n f e y) x
  ·rw [if_pos hq,if_pos (by rw [hq,h.pf hy hx])]; grind
  rw [if_neg hq,if_neg fun hh=>hq (by rw [← hh,h.xU hy hwn])]; grind
theorem GC.HM (h:GC n f e c cI xx) (R:Rp K p) (hcz:∀ a:Nat,0 < a→a < p→(a:K) ≠ 0) (hpw:∀ a,a < n→pw f e a p=a) (hfr:∀ a:K,a ^ p=a) (u:Nat→K):pc n f e u p e=u e:=by
 have G:=h.G
 let F:List Nat→K:=fun w=>if ∀ y∈w,y < n then tU u w * (if kJ f w e=e then 1 else 0) else 0
 have hF:∀ w,F (iU w)=F w:=fun w=>by
  cases w with
  | nil=>rfl
  | cons y w =>
   simp only [F,iU]
   by_cases hw:∀ z∈y :: w,z < n
   ·have hw2:∀ z∈w++[y],z < n:=fun z hz=>hw z (by
     rcases List.mem_append.1 hz with hz | hz
     ·simp [hz]
     simp [List.mem_singleton.1 hz])
    rw [if_pos hw,if_pos hw2,nU,BJ]
    have hy:=hw y (by simp)
    have hw3:∀ z∈w,z < n:=fun z hz=>hw z (by simp [hz])
    have e1:kJ f [y] e=y:=G.one_r y hy
    have e2:tU u [y]=u y:=by show u y * 1=_; grind
    have e3:tU u (y :: w)=u y * tU u w:=rfl
    have e4:kJ f (y :: w) e=f y (kJ f w e):=rfl
    rw [e1,e2,e3,e4,h.Eo hw3 hy]
    have hl:=h.FU hw3 G.el
    by_cases hq:f (kJ f w e) y=e
    ·have:f y (kJ f w e)=e:=by
      have h1:=G.eD hy hl (.inr hq)
      rw [h1,G.eC hy]
     rw [if_pos hq,if_pos this]; grind
    have:¬ f y (kJ f w e)=e:=fun hh=>hq (by
     have h1:=G.eD hy hl (.inl hh)
     rw [h1,G.eb hy])
    rw [if_neg hq,if_neg this]; grind
   have hw2:¬ ∀ z∈w++[y],z < n:=fun hh=>hw fun z hz=>hh z (by
    rcases List.mem_cons.1 hz with hz | hz
    ·simp [hz]
    simp [hz])
   rw [if_neg hw,if_neg hw2]
 have e1:pc n f e u p e=sW (List.range n) p F:=by
  rw [h.rR u p e G.el]
  refine ej fun w _ hw=>?_
  simp only [F]
  rw [if_pos fun y hy=>List.mem_range.1 (hw y hy)]
 rw [e1,qU R.fld (by have:=R.two; omega) R.ch hcz (List.nodup_range) hF,cD,ba (i:=e) G.el fun g hg hne=>?_]
 ·simp only [F]
  rw [if_pos fun y hy=>by rw [List.eq_of_mem_replicate hy]; exact G.el,h.Gv G.el,hpw e G.el,if_pos rfl,wq,hfr]; grind
 simp only [F]
 rw [if_pos fun y hy=>by rw [List.eq_of_mem_replicate hy]; exact hg,h.Gv hg,hpw g hg,if_neg hne]; grind
end
end Go.Proofs.YtjlmpmidchddjaaDoor
namespace Go.Proofs.YtjlmpmidchddjaaDoor
open Lean.Grind
attribute [local instance] Lean.Grind.Semiring.natCast Lean.Grind.Ring.intCast
section
variable {n:Nat} {K:Type} [CommRing K] {p:Nat}
theorem Bw {w:Nat→K} (hs:ez n w) (k:Nat):w k=sm (fun i=>w i * if k=i then 1 else 0) n:=by
 by_cases hk:k < n
 ·rw [ba hk fun i _ hne=>by rw [if_neg (fun e=>hne e.symm)]; grind,if_pos rfl]; grind
 rw [hs k (by omega)]
 exact (aS fun i hi=>by rw [if_neg (by omega)]; grind).symm
theorem yV (F:nr K) {P:(Nat→K)→Prop} (hP:gT P) (hn:∀ v,P v→ez n v):∀ d q (y:Nat→Nat→K),im y q→(∀ j,j < q→P (y j))→n - q=d→q≤n →
  ∃ q y,q≤n∧im y q∧(∀ j,j < q→P (y j))∧∀ v,P v→∃ C:Nat→K,∀ k,v k=sm (fun i=>C i * y i k) q:=by
 intro d
 induction d with
 | zero =>
  intro q y hy hp hd hqn
  refine Classical.byContradiction fun hno=>?_
  have h1:¬ ∀ v,P v→∃ C:Nat→K,∀ k,v k=sm (fun i=>C i * y i k) q:=fun hh=>hno ⟨q,y,hqn,hy,hp,hh⟩
  obtain ⟨v,hv⟩:=Classical.not_forall.1 h1
  obtain ⟨hv1,hv2⟩:=Classical.not_imp.1 hv
  have hy2:im (fun j=>if j=q then v else y j) (q + 1):=fun x hx=>by
   have e0:∀ k,sm (fun j=>x j * y j k) q + x q * v k=0:=fun k=>by
    have:=hx k
    rw [sm] at this
    simp only [if_pos] at this
    rw [← this]
    congr 1
    exact ai fun j hj=>by rw [if_neg (by omega)]
   have h0:x q=0:=Classical.byContradiction fun hc=>by
    obtain ⟨b,hb⟩:=F.1 _ hc
    refine hv2 ⟨fun j=>-b * x j,fun k=>?_⟩
    have e1:sm (fun i=>-b * x i * y i k) q = -b * sm (fun j=>x j * y j k) q:=by rw [← aK]; exact ai fun i _=>by grind
    rw [e1]
    have:=e0 k
    grind
   intro j hj
   by_cases hjq:j=q
   ·rw [hjq]; exact h0
   exact hy x (fun k=>by have:=e0 k; rw [h0] at this; grind) j (by omega)
  have:=qx F hy2 (z:=fun i j=>if j=i then 1 else 0) (r:=n) fun j hj=>⟨(fun j=>if j=q then v else y j) j,Bw (by
    by_cases hjq:j=q
    ·simp only [if_pos hjq]; exact hn _ hv1
    simp only [if_neg hjq]; exact hn _ (hp j (by omega)))⟩
  omega
 | succ d ih =>
  intro q y hy hp hd hqn
  refine Classical.byContradiction fun hno=>?_
  have h1:¬ ∀ v,P v→∃ C:Nat→K,∀ k,v k=sm (fun i=>C i * y i k) q:=fun hh=>hno ⟨q,y,hqn,hy,hp,hh⟩
  obtain ⟨v,hv⟩:=Classical.not_forall.1 h1
  obtain ⟨hv1,hv2⟩:=Classical.not_imp.1 hv
  have hy2:im (fun j=>if j=q then v else y j) (q + 1):=fun x hx=>by
   have e0:∀ k,sm (fun j=>x j * y j k) q + x q * v k=0:=fun k=>by
    have:=hx k
    rw [sm] at this
    simp only [if_pos] at this
    rw [← this]
    congr 1
    exact ai fun j hj=>by rw [if_neg (by omega)]
   have h0:x q=0:=Classical.byContradiction fun hc=>by
    obtain ⟨b,hb⟩:=F.1 _ hc
    refine hv2 ⟨fun j=>-b * x j,fun k=>?_⟩
    have e1:sm (fun i=>-b * x i * y i k) q = -b * sm (fun j=>x j * y j k) q:=by rw [← aK]; exact ai fun i _=>by grind
    rw [e1]
    have:=e0 k
    grind
   intro j hj
   by_cases hjq:j=q
   ·rw [hjq]; exact h0
   exact hy x (fun k=>by have:=e0 k; rw [h0] at this; grind) j (by omega)
  exact hno (ih (q + 1) _ hy2 (fun j hj=>by
   by_cases hjq:j=q
   ·simp only [if_pos hjq]; exact hv1
   simp only [if_neg hjq]; exact hp j (by omega)) (by omega) (by omega))
theorem HU (F:nr K) {P:(Nat→K)→Prop} (hP:gT P) (hn:∀ v,P v→ez n v) :
  ∃ q y,q≤n∧im y q∧(∀ j,j < q→P (y j))∧∀ v,P v→∃ C:Nat→K,∀ k,v k=sm (fun i=>C i * y i k) q:=
 yV F hP hn n 0 (fun _ _=>0) (fun x hx j hj=>absurd hj (Nat.not_lt_zero _)) (fun j hj=>absurd hj (Nat.not_lt_zero _)) (by omega) (Nat.zero_le _)
theorem im.HQ {y:Nat→Nat→K} {q:Nat} (h:im y q) {C C' : Nat→K} (he:∀ k,sm (fun i=>C i * y i k) q=sm (fun i=>C' i * y i k) q):∀ i,i < q→C i=C' i:=fun i hi=>by
 have:=h (fun i=>C i - C' i) (fun k=>by
  have e1:sm (fun j=>(C j - C' j) * y j k) q=sm (fun i=>C i * y i k) q - sm (fun i=>C' i * y i k) q:=by rw [← jc]; exact ai fun j _=>by grind
  rw [e1,he]; grind) i hi
 grind
theorem gT.H5 {P:(Nat→K)→Prop} (hP:gT P) (C:Nat→K) (y:Nat→Nat→K):∀ q,(∀ j,j < q→P (y j))→P fun k=>sm (fun i=>C i * y i k) q
 | 0,_=>hP.zero
 | q + 1,h=>by
  show P fun k=>(fun k=>sm (fun i=>C i * y i k) q) k + (fun k=>C q * y q k) k
  exact hP.add _ _ (hP.H5 C y q fun j hj=>h j (by omega)) (hP.smul _ _ (h q (by omega)))
def ye (p m i:Nat):Nat:=m / p ^ i % p
theorem yi (hp:0 < p) (m i:Nat):ye p m i < p:=Nat.mod_lt _ hp
theorem n7 (m i:Nat):ye p m (i + 1)=ye p (m / p) i:=by
 unfold ye
 rw [Nat.div_div_eq_div_mul,Nat.pow_succ,Nat.mul_comm]
theorem vZ (hp:0 < p):∀ q m m',m < p ^ q→m' < p ^ q→(∀ i,i < q→ye p m i=ye p m' i)→m=m'
 | 0,m,m',h1,h2,_=>by rw [Nat.pow_zero] at h1 h2; omega
 | q + 1,m,m',h1,h2,h=>by
  have h3:=h 0 (by omega)
  unfold ye at h3
  rw [Nat.pow_zero,Nat.div_one,Nat.div_one] at h3
  have h4:=vZ hp q (m / p) (m' / p) (by rw [Nat.pow_succ] at h1; exact (Nat.div_lt_iff_lt_mul hp).2 h1) (by rw [Nat.pow_succ] at h2; exact (Nat.div_lt_iff_lt_mul hp).2 h2) fun i hi=>by
   rw [← n7,← n7]; exact h (i + 1) (by omega)
  rw [← Nat.div_add_mod m p,← Nat.div_add_mod m' p,h3,h4]
theorem vD (hp:0 < p):∀ q (C:Nat→Nat),(∀ i,C i < p)→∃ m,m < p ^ q∧∀ i,i < q→ye p m i=C i
 | 0,C,_=>⟨0,by rw [Nat.pow_zero]; omega,fun i hi=>absurd hi (Nat.not_lt_zero _)⟩
 | q + 1,C,h=>by
  obtain ⟨m,h1,h2⟩:=vD hp q (fun i=>C (i + 1)) fun i=>h _
  refine ⟨C 0 + p * m,?_,fun i hi=>?_⟩
  ·have h3:p * (m + 1)≤p * p ^ q:=Nat.mul_le_mul_left p h1
   have h4:=h 0
   rw [Nat.mul_add] at h3
   rw [Nat.pow_succ,Nat.mul_comm (p ^ q)]
   omega
  cases i with
  | zero =>
   unfold ye
   rw [Nat.pow_zero,Nat.div_one,Nat.add_mul_mod_self_left,Nat.mod_eq_of_lt (h 0)]
  | succ i =>
   rw [n7,Nat.add_mul_div_left _ _ hp,Nat.div_eq_of_lt (h 0),Nat.zero_add]
   exact h2 i (by omega)
theorem enum (R:Rp K p) (hsur:∀ a:K,∃ x:Nat,x < p∧(x:K)=a) {P:(Nat→K)→Prop} (hP:gT P) (hn:∀ v,P v→ez n v) :
  ∃ (q:Nat) (E:Nat→Nat→K),q≤n∧(∀ m,P (E m))∧(∀ m m',m < p ^ q→m' < p ^ q→E m=E m'→m=m')∧(∀ v,P v→∃ m,m < p ^ q∧E m=v)∧E 0=fun _=>0:=by
 have hp:0 < p:=by have:=R.two; omega
 obtain ⟨q,y,h1,h2,h3,h4⟩:=HU R.fld hP hn
 refine ⟨q,fun m k=>sm (fun i=>((ye p m i:Nat):K) * y i k) q,h1,fun m=>hP.H5 _ y q h3,fun m m' hm hm' he=>?_,fun v hv=>?_,?_⟩
 ·refine vZ hp q m m' hm hm' fun i hi=>?_
  have h5:=h2.HQ (fun k=>congrFun he k) i hi
  refine Classical.byContradiction fun hne=>R.ne (yi hp m i) (yi hp m' i) hne ?_
  rw [h5]; grind
 ·obtain ⟨C,hC⟩:=h4 v hv
  obtain ⟨c,hc⟩:=Classical.axiomOfChoice fun i=>hsur (C i)
  obtain ⟨m,m1,m2⟩:=vD hp q c fun i=>(hc i).1
  refine ⟨m,m1,funext fun k=>?_⟩
  rw [hC k]
  exact ai fun i hi=>by rw [m2 i hi,(hc i).2]
 funext k
 refine aS fun i _=>?_
 have:ye p 0 i=0:=by unfold ye; rw [Nat.zero_div,Nat.zero_mod]
 rw [this]; grind
theorem Hg (F:nr K) {A:(Nat→K)→Nat→K} (hA:xq A) (hid:∀ u,ez n u→A (A u)=A u) (hs:∀ u,ez n (A u)) :
  ∃ v,v≤n∧sm (fun x=>A (dl K x) x) n=(v:K)∧(v=0→∀ u,ez n u→A u=fun _=>0):=by
 have hP:gT fun u=>ez n u∧A u=u:=⟨⟨ez.zero,hA.zero⟩,fun a b ha hb=>⟨ha.1.add hb.1,by rw [hA.1,ha.2,hb.2]⟩,fun k a ha=>⟨ha.1.smul k,by rw [hA.2,ha.2]⟩⟩
 obtain ⟨q,y,h1,h2,h3,h4⟩:=HU F hP fun v hv=>hv.1
 have h5:∀ u,∃ C:Nat→K,ez n u→∀ k,A u k=sm (fun i=>C i * y i k) q:=fun u=>by
  by_cases hu:ez n u
  ·obtain ⟨C,hC⟩:=h4 (A u) ⟨hs u,hid u hu⟩
   exact ⟨C,fun _=>hC⟩
  exact ⟨fun _=>0,fun h=>absurd h hu⟩
 obtain ⟨φ,hφ⟩:=Classical.axiomOfChoice h5
 refine ⟨q,h1,?_,fun h0 u hu=>?_⟩
 ·have e1:sm (fun x=>A (dl K x) x) n=sm (fun i=>sm (fun x=>φ (dl K x) i * y i x) n) q:=by
   rw [← aU]
   exact ai fun x hx=>hφ _ (km hx) x
  rw [e1]
  have e2:∀ i,i < q→sm (fun x=>φ (dl K x) i * y i x) n=1:=fun i hi=>by
   have e3:y i=fun k=>sm (fun x=>y i x * dl K x k) n:=by
    funext k
    by_cases hk:k < n
    ·rw [ba hk fun x _ hne=>by unfold dl; rw [if_neg (fun e=>hne e.symm)]; grind]
     unfold dl; rw [if_pos rfl]; grind
    rw [(h3 i hi).1 k (by omega)]
    exact (aS fun x hx=>by unfold dl; rw [if_neg (by omega)]; grind).symm
   have e4:∀ k,sm (fun j=>(if j=i then (1:K) else 0) * y j k) q=sm (fun j=>sm (fun x=>φ (dl K x) j * y i x) n * y j k) q:=fun k=>by
    rw [ba hi fun j _ hne=>by rw [if_neg hne]; grind,if_pos rfl]
    have e5:y i k=A (y i) k:=by rw [(h3 i hi).2]
    have e6:A (y i)=fun k=>sm (fun x=>y i x * A (dl K x) k) n:=by
     rw [← hA.sm,← e3]
    have e7:sm (fun x=>y i x * A (dl K x) k) n=sm (fun x=>sm (fun j=>φ (dl K x) j * y i x * y j k) q) n:=ai fun x hx=>by
     rw [hφ _ (km hx) k,← aK]; exact ai fun j _=>by grind
    have e8:sm (fun j=>sm (fun x=>φ (dl K x) j * y i x) n * y j k) q=sm (fun j=>sm (fun x=>φ (dl K x) j * y i x * y j k) n) q:=ai fun j _=>by rw [← bI]
    rw [e5,e6,e8,← aU,← e7]; grind
   have e9:=h2.HQ e4 i hi
   rw [if_pos rfl] at e9
   exact e9.symm
  rw [ai e2,bQ]; grind
 funext k
 rw [hφ u hu k,h0]; rfl
end
end Go.Proofs.YtjlmpmidchddjaaDoor
namespace Go.Proofs.YtjlmpmidchddjaaDoor
def uL (p d:Nat):Nat→Nat
 | 0=>p ^ d - 1
 | a + 1=>if 1≤a∧(p ^ d - 1) % (p ^ a - 1)=0 then Nat.gcd (uL p d a) ((p ^ d - 1) / (p ^ a - 1)) else uL p d a
def GK:Bool:=FW.all fun p=>(List.range 61).all fun d=>decide (d < 2) || !decide ((p - 1) % uL p d d=0)
theorem EL:GK=true:=by decide +kernel
def HW (p d:Nat):Prop:=∃ ψ,ψ ∣ p ^ d - 1∧(∀ a,1≤a→a < d→(p ^ a - 1) ∣ (p ^ d - 1)→ψ ∣ (p ^ d - 1) / (p ^ a - 1))∧¬ ψ ∣ p - 1
theorem zH (p d:Nat):∀ m,uL p d m ∣ p ^ d - 1∧∀ a,1≤a→a < m→(p ^ a - 1) ∣ (p ^ d - 1)→uL p d m ∣ (p ^ d - 1) / (p ^ a - 1)
 | 0=>⟨Nat.dvd_refl _,fun a _ h=>absurd h (Nat.not_lt_zero _)⟩
 | m + 1=>by
  obtain ⟨h1,h2⟩:=zH p d m
  unfold uL
  by_cases hc:1≤m∧(p ^ d - 1) % (p ^ m - 1)=0
  ·rw [if_pos hc]
   refine ⟨Nat.dvd_trans (Nat.gcd_dvd_left _ _) h1,fun a ha hm hd=>?_⟩
   by_cases e:a=m
   ·subst e; exact Nat.gcd_dvd_right _ _
   exact Nat.dvd_trans (Nat.gcd_dvd_left _ _) (h2 a ha (by omega) hd)
  rw [if_neg hc]
  refine ⟨h1,fun a ha hm hd=>?_⟩
  by_cases e:a=m
  ·subst e; exact absurd ⟨ha,Nat.mod_eq_zero_of_dvd hd⟩ hc
  exact h2 a ha (by omega) hd
theorem Ef {p d:Nat} (hp:p∈FW) (h2:2≤d) (h3:d≤60):HW p d:=by
 have h1:=EL
 unfold GK at h1
 rw [List.all_eq_true] at h1
 have h4:=List.all_eq_true.1 (h1 p hp) d (List.mem_range.2 (by omega))
 rw [Bool.or_eq_true] at h4
 have h5:=(h4.resolve_left fun h=>by have:=of_decide_eq_true h; omega)
 have h6:¬ (p - 1) % uL p d d=0:=by simpa using h5
 obtain ⟨h7,h8⟩:=zH p d d
 exact ⟨_,h7,h8,fun h=>h6 (Nat.mod_eq_zero_of_dvd h)⟩
end Go.Proofs.YtjlmpmidchddjaaDoor
namespace Go.Proofs.YtjlmpmidchddjaaDoor
open Lean.Grind
attribute [local instance] Lean.Grind.Semiring.natCast Lean.Grind.Ring.intCast
theorem sI {n k:Nat} {P Q:Nat→Bool} (g:Nat→Nat) (h1:∀ x,x < n→P x=true→g x < k∧Q (g x)=true) (hi:∀ x y,x < n→y < n→P x=true→P y=true→g x=g y→x=y) (h2:∀ y,y < k→Q y=true→∃ x,x < n∧P x=true∧g x=y):(mem n P).length=(mem k Q).length:=by
 rw [← List.length_map (f:=g) («as»:=mem n P)]
 refine gm (gQ (List.nodup_range.filter _) fun x hx y hy h=>?_) (List.nodup_range.filter _) fun y=>?_
 ·obtain ⟨a1,a2⟩:=bg.1 hx
  obtain ⟨b1,b2⟩:=bg.1 hy
  exact hi x y a1 b1 a2 b2 h
 rw [List.mem_map,bg]
 constructor
 ·rintro ⟨x,hx,rfl⟩
  obtain ⟨a1,a2⟩:=bg.1 hx
  exact h1 x a1 a2
 rintro ⟨a1,a2⟩
 obtain ⟨x,b1,b2,b3⟩:=h2 y a1 a2
 exact ⟨x,bg.2 ⟨b1,b2⟩,b3⟩
theorem AE (n:Nat):(mem n fun _=>true).length=n:=by unfold mem; rw [List.filter_eq_self.2 fun _ _=>rfl,List.length_range]
theorem BK {ψ:Nat} (g:Nat→Nat):∀ l:List Nat,(∀ x∈l,g x=1∨ψ ∣ g x)→ψ ∣ (l.map g).sum→ψ ∣ (l.filter fun x=>decide (g x=1)).length:=fun l h hs=>by
 have:∀ l:List Nat,(∀ x∈l,g x=1∨ψ ∣ g x)→∃ t,(l.map g).sum=(l.filter fun x=>decide (g x=1)).length + ψ * t:=by
  intro l
  induction l with
  | nil=>intro _; exact ⟨0,by simp⟩
  | cons x l ih =>
   intro h
   obtain ⟨t,ht⟩:=ih fun y hy=>h y (by simp [hy])
   by_cases h1:g x=1
   ·exact ⟨t,by rw [List.map_cons,List.sum_cons,ht,List.filter_cons,if_pos (by simp [h1]),List.length_cons,h1]; omega⟩
   obtain ⟨u,hu⟩:=(h x (by simp)).resolve_left h1
   exact ⟨t + u,by rw [List.map_cons,List.sum_cons,ht,List.filter_cons,if_neg (by simp [h1]),Nat.mul_add,← hu]; omega⟩
 obtain ⟨t,ht⟩:=this l h
 rw [ht] at hs
 exact (Nat.dvd_add_iff_left (Nat.dvd_mul_right ψ t)).2 hs
section
variable {n e c:Nat} {f:Nat→Nat→Nat} {cI xx:Nat→Nat} {K:Type} [CommRing K] {p:Nat}
theorem GC.HN (h : GC n f e c cI xx) (R : Rp K p) (hsur : ∀ a : K, ∃ x : Nat, x < p ∧ (x : K) = a) (hw : ∀ d, 2 ≤ d → d ≤ n → HW p d)
    {D : (Nat → K) → Prop} (hD : gT D) (hn : ∀ v, D v → ez n v) (cl : ∀ a b, D a → D b → D (cv n f e a b)) {k : Nat → K} (hk : D k) (k0 : k ≠ fun _ => 0) (k1 : ∀ a, D a → cv n f e k a = a) (k2 : ∀ a, D a → cv n f e a k = a)
    (inv : ∀ x, D x → x ≠ (fun _ => 0) → ∃ y, D y ∧ cv n f e x y = k) (cen0 : ∀ z, D z → (∀ w, D w → cv n f e z w = cv n f e w z) → ∃ a : K, z = fun x => a * k x) :
    ∀ x, D x → ∃ a : K, x = fun i => a * k i := by
  have hp : 2 ≤ p := R.two
  obtain ⟨δ, E, d1, d2, d3, d4, d5⟩ := enum R hsur hD hn
  have d4' : ∀ v, ∃ m, D v → m < p ^ δ ∧ E m = v := fun v => by
    by_cases hv : D v
    · obtain ⟨m, hm⟩ := d4 v hv; exact ⟨m, fun _ => hm⟩
    · exact ⟨0, fun h => absurd h hv⟩
  obtain ⟨cd, hcd⟩ := Classical.axiomOfChoice d4'
  have linv : ∀ x, D x → x ≠ (fun _ => 0) → ∃ y, D y ∧ y ≠ (fun _ => 0) ∧ cv n f e x y = k ∧ cv n f e y x = k := fun x hx hx0 => by
    obtain ⟨y, hy, h1⟩ := inv x hx hx0
    have hy0 : y ≠ fun _ => 0 := fun h0 => k0 (by rw [← h1, h0, pe])
    obtain ⟨z, hz, h2⟩ := inv y hy hy0
    have h3 : z = x := by
      have := h.fD x y z
      rw [h1, h2, k1 z hz, k2 x hx] at this
      exact this
    exact ⟨y, hy, hy0, h1, h3 ▸ h2⟩
  have nz : ∀ a b, D a → D b → a ≠ (fun _ => 0) → b ≠ (fun _ => 0) → cv n f e a b ≠ fun _ => 0 := fun a b ha hb ha0 hb0 h0 => by
    obtain ⟨y, hy, _, _, h2⟩ := linv a ha ha0
    have := h.fD y a b
    rw [h0, h2, k1 b hb, pe] at this
    exact hb0 this
  obtain ⟨M, hM⟩ : ∃ M, M = p ^ δ - 1 := ⟨_, rfl⟩
  have hpd : 0 < p ^ δ := Nat.pow_pos (by omega)
  have code : ∀ v, D v → v ≠ (fun _ => 0) → cd v - 1 < M ∧ E (cd v - 1 + 1) = v := fun v hv hv0 => by
    obtain ⟨h1, h2⟩ := hcd v hv
    have h3 : cd v ≠ 0 := fun h0 => hv0 (by rw [← h2, h0, d5])
    rw [show cd v - 1 + 1 = cd v by omega]
    exact ⟨by omega, h2⟩
  have elt : ∀ i, i < M → D (E (i + 1)) ∧ E (i + 1) ≠ fun _ => 0 := fun i hi => ⟨d2 _, fun h0 => by
    have := d3 (i + 1) 0 (by omega) hpd (by rw [h0, d5])
    omega⟩
  have ext : ∀ i j, i < M → j < M → E (i + 1) = E (j + 1) → i = j := fun i j hi hj he => by
    have := d3 _ _ (by omega) (by omega) he
    omega
  have iP : ∀ i, i < M → cd (E (i + 1)) - 1 = i := fun i hi => by
    obtain ⟨h1, h2⟩ := elt i hi
    obtain ⟨h3, h4⟩ := code _ h1 h2
    exact ext _ _ h3 hi h4
  let fm : Nat → Nat → Nat := fun i j => cd (cv n f e (E (i + 1)) (E (j + 1))) - 1
  have fE : ∀ i j, i < M → j < M → fm i j < M ∧ E (fm i j + 1) = cv n f e (E (i + 1)) (E (j + 1)) := fun i j hi hj => by
    obtain ⟨a1, a2⟩ := elt i hi
    obtain ⟨b1, b2⟩ := elt j hj
    exact code _ (cl _ _ a1 b1) (nz _ _ a1 b1 a2 b2)
  obtain ⟨ck1, ck2⟩ := code k hk k0
  have G : dF M fm (cd k - 1) := {
    pos := by omega
    cl := fun a b ha hb => (fE a b ha hb).1
    el := ck1
    one_l := fun a ha => ext _ _ (fE _ _ ck1 ha).1 ha (by rw [(fE _ _ ck1 ha).2, ck2, k1 _ (elt a ha).1])
    one_r := fun a ha => ext _ _ (fE _ _ ha ck1).1 ha (by rw [(fE _ _ ha ck1).2, ck2, k2 _ (elt a ha).1])
    assoc := fun a b d ha hb hd => by
      have h1 := fE a b ha hb
      have h2 := fE b d hb hd
      have h3 := fE _ d h1.1 hd
      have h4 := fE a _ ha h2.1
      exact ext _ _ h3.1 h4.1 (by rw [h3.2, h4.2, h1.2, h2.2, h.fD])
    inv := fun a ha => by
      obtain ⟨a1, a2⟩ := elt a ha
      obtain ⟨y, y1, y2, y3, y4⟩ := linv _ a1 a2
      obtain ⟨y5, y6⟩ := code y y1 y2
      have h1 := fE a _ ha y5
      have h2 := fE _ a y5 ha
      exact ⟨_, y5, ext _ _ h1.1 ck1 (by rw [h1.2, y6, y3, ck2]), ext _ _ h2.1 ck1 (by rw [h2.2, y6, y4, ck2])⟩ }
  have comE : ∀ x y, x < M → y < M → (fm y x = fm x y ↔ cv n f e (E (y + 1)) (E (x + 1)) = cv n f e (E (x + 1)) (E (y + 1))) := fun x y hx hy => by
    have h1 := fE y x hy hx
    have h2 := fE x y hx hy
    constructor
    · intro he; rw [← h1.2, ← h2.2, he]
    · intro he; exact ext _ _ h1.1 h2.1 (by rw [h1.2, h2.2, he])
  have cc : ∀ x, x < M → ∃ a, (mem M (Dx fm x)).length = p ^ a - 1 := fun x hx => by
    obtain ⟨X, hX⟩ : ∃ X, E (x + 1) = X := ⟨_, rfl⟩
    have hL : gT fun v => D v ∧ cv n f e v X = cv n f e X v := ⟨⟨hD.zero, by rw [p9, pe]⟩, fun a b ha hb => ⟨hD.add _ _ ha.1 hb.1, by rw [bS, cn, ha.2, hb.2]⟩, fun k a ha => ⟨hD.smul _ _ ha.1, by rw [aR, aO, ha.2]⟩⟩
    obtain ⟨a, Ex, a1, a2, a3, a4, a5⟩ := enum R hsur hL fun v hv => hn v hv.1
    refine ⟨a, ?_⟩
    have hpa : 0 < p ^ a := Nat.pow_pos (by omega)
    have hz : ∀ i, i < p ^ a - 1 → Ex (i + 1) ≠ fun _ => 0 := fun i hi h0 => by
      have := a3 (i + 1) 0 (by omega) hpa (by rw [h0, a5])
      omega
    have := sI (n := p ^ a - 1) (k := M) (P := fun _ => true) (Q := Dx fm x) (fun i => cd (Ex (i + 1)) - 1) (fun i hi _ => ?_) (fun i j hi hj _ _ he => ?_) fun y hy hq => ?_
    · rw [← this, AE]
    · obtain ⟨b1, b2⟩ := a2 (i + 1)
      obtain ⟨c1, c2⟩ := code _ b1 (hz i hi)
      refine ⟨c1, kZ.2 ((comE x _ hx c1).2 ?_)⟩
      rw [c2, hX]; exact b2
    · obtain ⟨c1, c2⟩ := code _ (a2 (i + 1)).1 (hz i hi)
      obtain ⟨c3, c4⟩ := code _ (a2 (j + 1)).1 (hz j hj)
      have he : cd (Ex (i + 1)) - 1 = cd (Ex (j + 1)) - 1 := he
      have := a3 (i + 1) (j + 1) (by omega) (by omega) (by rw [← c2, ← c4, he])
      omega
    · have h1 := (comE x y hx hy).1 (kZ.1 hq)
      rw [hX] at h1
      obtain ⟨m, m1, m2⟩ := a4 (E (y + 1)) ⟨(elt y hy).1, h1⟩
      have m3 : m ≠ 0 := fun h0 => (elt y hy).2 (by rw [← m2, h0, a5])
      refine ⟨m - 1, by omega, rfl, ?_⟩
      show cd (Ex (m - 1 + 1)) - 1 = y
      rw [show m - 1 + 1 = m by omega, m2, iP y hy]
  have hδ : δ = 1 := by
    refine Classical.byContradiction fun hne => ?_
    have hδ0 : δ ≠ 0 := fun h0 => by rw [h0, Nat.pow_zero] at hM; omega
    obtain ⟨ψ, w1, w2, w3⟩ := hw δ (by omega) d1
    refine w3 ?_
    have hs := G.fL.sum
    have hdiv := BK (ψ := ψ) (fun x => (mem M (bV M fm (cd k - 1) x)).length) (mem M (lead (bV M fm (cd k - 1)))) (fun x hx => ?_) (by rw [hs, hM]; exact w1)
    · 
      have hcount : ((mem M (lead (bV M fm (cd k - 1)))).filter fun x => decide ((mem M (bV M fm (cd k - 1) x)).length = 1)).length = p - 1 := by
        have e0 : ((mem M (lead (bV M fm (cd k - 1)))).filter fun x => decide ((mem M (bV M fm (cd k - 1) x)).length = 1)) = mem M fun x => lead (bV M fm (cd k - 1)) x && decide ((mem M (bV M fm (cd k - 1) x)).length = 1) := by
          unfold mem
          rw [List.filter_filter]
          exact List.filter_congr fun x _ => Bool.and_comm _ _
        rw [e0]
        have hjk : ∀ j, j < p - 1 → D (fun x => (((j + 1 : Nat)) : K) * k x) ∧ (fun x => (((j + 1 : Nat)) : K) * k x) ≠ fun _ => 0 := fun j hj => ⟨hD.smul _ _ hk, fun h0 => by
          have hj1 : ((j + 1 : Nat) : K) ≠ 0 := fun h1 => R.ne (a := j + 1) (b := 0) (by omega) (by omega) (by omega) (by rw [h1]; grind)
          obtain ⟨b, hb⟩ := R.fld.1 _ hj1
          refine k0 (funext fun x => ?_)
          have := congrFun h0 x
          grind⟩
        have := sI (n := p - 1) (k := M) (P := fun _ => true) (Q := fun x => lead (bV M fm (cd k - 1)) x && decide ((mem M (bV M fm (cd k - 1) x)).length = 1)) (fun j => cd (fun x => ((j + 1 : Nat) : K) * k x) - 1) (fun j hj _ => ?_) (fun i j hi hj _ _ he => ?_) fun y hy hq => ?_
        · rw [← this, AE]
        · obtain ⟨j1, j2⟩ := hjk j hj
          obtain ⟨c1, c2⟩ := code _ j1 j2
          refine ⟨c1, ?_⟩
          have hsame : ∀ y, y < M → (bV M fm (cd k - 1) (cd (fun x => ((j + 1 : Nat) : K) * k x) - 1) y = true ↔ y = cd (fun x => ((j + 1 : Nat) : K) * k x) - 1) := fun y hy => by
            rw [dR]
            have key : ∀ a, a < M → fm (fm (iv M fm (cd k - 1) a) (cd (fun x => ((j + 1 : Nat) : K) * k x) - 1)) a = cd (fun x => ((j + 1 : Nat) : K) * k x) - 1 := fun a ha => by
              have hc : fm a (cd (fun x => ((j + 1 : Nat) : K) * k x) - 1) = fm (cd (fun x => ((j + 1 : Nat) : K) * k x) - 1) a := (comE _ _ c1 ha).2 (by rw [c2, aR, aO, k1 _ (elt a ha).1, k2 _ (elt a ha).1])
              rw [G.assoc _ _ _ (G.az ha) c1 ha, ← hc, ← G.assoc _ _ _ (G.az ha) ha c1, G.eb ha, G.one_l _ c1]
            constructor
            · rintro ⟨a, ha, h1⟩
              rw [← h1, key a ha]
            · intro h1
              exact ⟨cd k - 1, ck1, by rw [key _ ck1, h1]⟩
          rw [Bool.and_eq_true, decide_eq_true_eq]
          refine ⟨gS.2 ⟨(hsame _ c1).2 rfl, fun b hb => ?_⟩, ?_⟩
          · cases hcb : bV M fm (cd k - 1) (cd (fun x => ((j + 1 : Nat) : K) * k x) - 1) b with
            | false => rfl
            | true => have := (hsame b (by omega)).1 hcb; omega
          · exact Cx c1 hsame
        · obtain ⟨i1, i2⟩ := hjk i hi
          obtain ⟨j1, j2⟩ := hjk j hj
          obtain ⟨c1, c2⟩ := code _ i1 i2
          obtain ⟨c3, c4⟩ := code _ j1 j2
          have he : cd (fun x => ((i + 1 : Nat) : K) * k x) - 1 = cd (fun x => ((j + 1 : Nat) : K) * k x) - 1 := he
          rw [he, c4] at c2
          refine Classical.byContradiction fun hij => ?_
          have h1 := R.ne (a := j + 1) (b := i + 1) (by omega) (by omega) (by omega)
          obtain ⟨b, hb⟩ := R.fld.1 _ h1
          refine k0 (funext fun x => ?_)
          have := congrFun c2 x
          grind
        · rw [Bool.and_eq_true, decide_eq_true_eq] at hq
          have h1 := G.pP hy
          rw [hq.2, Nat.mul_one] at h1
          have h2 := C3.1 h1
          have h3 : ∀ w, D w → cv n f e (E (y + 1)) w = cv n f e w (E (y + 1)) := fun w hw => by
            by_cases hw0 : w = fun _ => 0
            · rw [hw0, p9, pe]
            · obtain ⟨c1, c2⟩ := code w hw hw0
              have := (comE y _ hy c1).1 (kZ.1 (h2 _ c1))
              rw [c2] at this
              exact this.symm
          obtain ⟨a, ha⟩ := cen0 _ (elt y hy).1 h3
          obtain ⟨x, hx, hxa⟩ := hsur a
          have hx0 : x ≠ 0 := fun h0 => (elt y hy).2 (by rw [ha, ← hxa, h0]; funext z; grind)
          refine ⟨x - 1, by omega, rfl, ?_⟩
          show cd (fun z => ((x - 1 + 1 : Nat) : K) * k z) - 1 = y
          rw [show x - 1 + 1 = x by omega, hxa, ← ha, iP y hy]
      rw [hcount] at hdiv
      exact hdiv
    · 
      have hxM := (bg.1 hx).1
      obtain ⟨a, ha⟩ := cc x hxM
      have h1 := G.pP hxM
      by_cases h2 : (mem M (bV M fm (cd k - 1) x)).length = 1
      · exact .inl h2
      · refine .inr ?_
        rw [ha] at h1
        have hMp := G.pos
        have hle : (mem M (Dx fm x)).length ≤ M := by
          unfold mem
          exact Nat.le_trans (List.length_filter_le _ _) (by simp)
        have ha1 : p ^ a - 1 ≠ 0 := fun h0 => by rw [h0, Nat.zero_mul] at h1; omega
        have ha2 : a < δ := by
          refine Nat.lt_of_le_of_ne (Nat.le_of_not_lt fun hlt => ?_) fun he => ?_
          · have := Nat.pow_lt_pow_right (a := p) (by omega) hlt
            omega
          · rw [he, ← hM] at h1
            have := Nat.eq_of_mul_eq_mul_left hMp (h1.trans (Nat.mul_one M).symm)
            exact h2 this
        have ha3 : 1 ≤ a := by
          rcases Nat.eq_zero_or_pos a with h0 | h0
          · rw [h0, Nat.pow_zero] at ha1; omega
          · exact h0
        have h3 := w2 a ha3 ha2 (by rw [← hM, ← h1]; exact Nat.dvd_mul_right _ _)
        rw [← hM, ← h1, Nat.mul_div_cancel_left _ (by omega)] at h3
        exact h3
  intro x hx
  rw [hδ, Nat.pow_one] at d3
  have hcd' : ∀ v, D v → cd v < p ∧ E (cd v) = v := fun v hv => by
    have := hcd v hv
    rw [hδ, Nat.pow_one] at this
    exact this
  obtain ⟨j, hj, hje⟩ := so (n := p) (f := fun j => cd fun x => ((j : Nat) : K) * k x) (fun j _ => (hcd' _ (hD.smul _ _ hk)).1) (fun i j hi hj he => by
    have h1 := (hcd' _ (hD.smul ((i : Nat) : K) _ hk)).2
    have h2 := (hcd' _ (hD.smul ((j : Nat) : K) _ hk)).2
    have he : cd (fun x => ((i : Nat) : K) * k x) = cd fun x => ((j : Nat) : K) * k x := he
    rw [he, h2] at h1
    refine Classical.byContradiction fun hij => ?_
    obtain ⟨b, hb⟩ := R.fld.1 _ (R.ne hj hi (fun h => hij h.symm))
    refine k0 (funext fun x => ?_)
    have := congrFun h1 x
    grind) (hcd' x hx).1
  have h1 := (hcd' _ (hD.smul ((j : Nat) : K) _ hk)).2
  have hje : cd (fun x => ((j : Nat) : K) * k x) = cd x := hje
  rw [hje, (hcd' x hx).2] at h1
  exact ⟨_, h1⟩
end
end Go.Proofs.YtjlmpmidchddjaaDoor
namespace Go.Proofs.YtjlmpmidchddjaaDoor
open Lean.Grind
attribute [local instance] Lean.Grind.Semiring.natCast Lean.Grind.Ring.intCast
theorem least {P:Nat→Prop} (h:∃ r,P r):∃ r,P r∧∀ r',P r'→r≤r':=by
 refine Classical.byContradiction fun hno=>?_
 have:∀ m r,r≤m→¬ P r:=by
  intro m
  induction m with
  | zero=>intro r hr hp; exact hno ⟨r,hp,fun r' _=>by omega⟩
  | succ m ih =>
   intro r hr hp
   exact hno ⟨r,hp,fun r' hp'=>Nat.le_of_not_lt fun hlt=>ih r' (by omega) hp'⟩
 obtain ⟨r,hr⟩:=h
 exact this r r (Nat.le_refl _) hr
section
variable {n e c:Nat} {f:Nat→Nat→Nat} {cI xx:Nat→Nat} {K:Type} [CommRing K] {p:Nat}
theorem Rp.iP (R:Rp K p) {a b:Nat} (ha:a < p) (hb:b < p) (h:(a:K)=b):a=b:=Classical.byContradiction fun hne=>R.ne ha hb hne (by rw [h]; grind)
theorem GC.zm (h:GC n f e c cI xx) (u:Nat→K) (a:Nat):∀ b,pc n f e (pc n f e u a) b=pc n f e u (a * b)
 | 0=>rfl
 | b + 1=>by
  show cv n f e (pc n f e u a) (pc n f e (pc n f e u a) b)=_
  rw [h.zm u a b,← h.jf,Nat.mul_add,Nat.mul_one,Nat.add_comm]
theorem GC.tL (h:GC n f e c cI xx) (F:nr K) {u:Nat→K} (hu:cv n f e u u=u):∃ r,r≤n∧(n:K) * u e=(r:K)∧(r=0→u=fun _=>0):=by
 have G:=h.G
 obtain ⟨v,v1,v2,v3⟩:=Hg (n:=n) F (A:=fun v=>cv n f e v u) ⟨fun a b=>bS a b u,fun k a=>aR k a u⟩ (fun v _=>by show cv n f e (cv n f e v u) u=_; rw [h.fD,hu]) fun v=>bG _ _
 refine ⟨v,v1,?_,fun h0=>?_⟩
 ·rw [← v2,← bQ]
  refine ai fun x hx=>?_
  show u e=cv n f e (dl K x) u x
  rw [h.lV u hx hx,G.eb hx]
 rw [← hu]
 exact v3 h0 u (by rw [← hu]; exact bG _ _)
def WT (n:Nat) (f:Nat→Nat→Nat) (e:Nat) (t:Nat→K) (a:Nat→K):Prop:=ez n a∧cv n f e a t=fun x=>bY n f e t t e * a x
theorem GC.vM (h:GC n f e c cI xx) (F:nr K) {t:Nat→K} (ht:kK n f e cI t) (hs:bY n f e t t e ≠ 0) {a:Nat→K} (ha:WT n f e t a) {x:Nat} (hx:x < n):sm (fun g=>a (bU n f e g x)) n=(n:K) * a e * t x:=by
 have G:=h.G
 have h1:bY n f e t t e * sm (fun g=>a (bU n f e g x)) n=bY n f e t t e * ((n:K) * a e * t x):=by
  have e1:∀ g,g < n→bY n f e t t e * a (bU n f e g x)=sm (fun y=>a y * t (f (iv n f e y) (bU n f e g x))) n:=fun g hg=>by
   have:=congrFun ha.2 (bU n f e g x)
   rw [← this,dw _ _ (h.sT hg hx)]
  rw [← aK,ai e1,aU]
  have e2:∀ y,y < n→sm (fun g=>a y * t (f (iv n f e y) (bU n f e g x))) n=(n:K) * t x * (a y * t (f (iv n f e y) e)):=fun y hy=>by
   have hi:=G.az hy
   rw [aK,ai (g:=fun g=>t (f (bU n f e g x) (iv n f e y))) fun g hg=>h.A9 ht.cl hi (h.sT hg hx),ht.mul x _ hx hi,G.one_r _ hi]
   grind
  rw [ai e2,aK,← dw a t G.el,ha.2]
  grind
 obtain ⟨b,hb⟩:=F.1 _ hs
 grind
structure yS (n:Nat) (f:Nat→Nat→Nat) (e:Nat) (t k:Nat→K) (v:Nat):Prop where
 W:WT n f e t k
 id:cv n f e k k=k
 rk:(n:K) * k e=(v:K)
 ge:1≤v
 le:v≤n
 sq:bY n f e t t e * ((v:K) * v)=(n:K)
 one:∀ w:Nat→K,∃ a:K,cv n f e k (cv n f e w k)=fun x=>a * k x
theorem GC.HF (h:GC n f e c cI xx) (R:Rp K p) (hsur:∀ a:K,∃ x:Nat,x < p∧(x:K)=a) (hw:∀ d,2≤d→d≤n→HW p d) (h2n:2 * n < p) (hn0:(n:K) ≠ 0)
  (hcz:∀ a:Nat,0 < a→a < p→(a:K) ≠ 0) (hpw:∀ a,a < n→pw f e a p=a) {t:Nat→K} (ht:kK n f e cI t) (hs:bY n f e t t e ≠ 0) :
  ∃ (v:Nat) (k:Nat→K),yS n f e t k v:=by
 have G:=h.G
 have F:=R.fld
 have hfr:∀ a:K,a ^ p=a:=fun a=>by
  obtain ⟨x,_,rfl⟩:=hsur a
  exact R.pow x
 obtain ⟨s,hsd⟩:∃ s,s=bY n f e t t e:=⟨_,rfl⟩
 rw [← hsd] at hs
 obtain ⟨si,hsi⟩:=F.1 _ hs
 have hW:∀ {a:Nat→K},WT n f e t a↔ez n a∧cv n f e a t=fun x=>s * a x:=by intro a; unfold WT; rw [hsd]
 have htt:∀ x,x < n→cv n f e t t x=s * t x:=fun x hx=>by
  rw [dw _ _ hx,← h.w8 t t hx,h.self F hn0 ht hx,hsd]
 have wmul:∀ {a:Nat→K} (b:Nat→K),WT n f e t a→WT n f e t (cv n f e b a):=fun {a} b ha=>hW.2 ⟨bG _ _,by
  rw [h.fD,(hW.1 ha).2,aO]⟩
 let ε:Nat→K:=fun x=>if x < n then si * t x else 0
 have hε:∀ x,x < n→ε x=(fun x=>si * t x) x:=fun x hx=>if_pos hx
 have hεs:ez n ε:=fun x hx=>if_neg (by omega)
 have hεW:WT n f e t ε:=hW.2 ⟨hεs,by
  rw [cU h hε (b':=t) fun _ _=>rfl,aR]
  funext x
  by_cases hx:x < n
  ·rw [htt x hx]
   show _=s * (if x < n then si * t x else 0)
   rw [if_pos hx]; grind
  rw [bG t t x (by omega),hεs x (by omega)]; grind⟩
 have hεi:cv n f e ε ε=ε:=by
  rw [cU h (a:=ε) (fun _ _=>rfl) hε,aO,(hW.1 hεW).2]
  funext x; grind
 have hε0:ε ≠ fun _=>0:=fun h0=>by
  have:=congrFun h0 e
  rw [hε e G.el] at this
  have h1:si * t e=0:=this
  rw [ht.one] at h1
  have:s * si=0:=by grind
  rw [hsi] at this
  exact F.2 this
 let Q:Nat→Prop:=fun r=>∃ k,WT n f e t k∧cv n f e k k=k∧(k ≠ fun _=>0)∧r≤n∧(n:K) * k e=(r:K)
 obtain ⟨r,⟨k,kW,kk,k0,rn,kr⟩,hmin⟩:=least (P:=Q) (by
  obtain ⟨r,r1,r2,_⟩:=h.tL F hεi
  exact ⟨r,ε,hεW,hεi,hε0,r1,r2⟩)
 have hr0:r ≠ 0:=fun h0=>by
  obtain ⟨r',a1,a2,a3⟩:=h.tL F kk
  have:=R.iP (by omega) (by omega) (a2.symm.trans kr)
  exact k0 (a3 (by omega))
 have hke:k e ≠ 0:=fun h0=>hr0 (R.iP (p:=p) (by omega) (by omega) (by rw [← kr,h0]; grind))
 let D:(Nat→K)→Prop:=fun x=>cv n f e k x=x∧cv n f e x k=x
 have hDl:gT D:=⟨⟨pe k,p9 k⟩,fun a b ha hb=>⟨by rw [cn,ha.1,hb.1],by rw [bS,ha.2,hb.2]⟩,fun l a ha=>⟨by rw [aO,ha.1],by rw [aR,ha.2]⟩⟩
 have hDs:∀ x,D x→ez n x:=fun x hx=>by rw [← hx.1]; exact bG _ _
 have hDk:D k:=⟨kk,kk⟩
 have hDc:∀ a b,D a→D b→D (cv n f e a b):=fun a b ha hb=>⟨by rw [← h.fD,ha.1],by rw [h.fD,hb.2]⟩
 have hDw:∀ w,D (cv n f e k (cv n f e w k)):=fun w=>⟨by rw [← h.fD k k,kk],by rw [h.fD,h.fD,kk]⟩
 have hDW:∀ x,D x→WT n f e t x:=fun x hx=>by rw [← hx.2]; exact wmul x kW
 obtain ⟨qa,Ea,qa1,qa2,qa3,qa4,qa5⟩:=enum (n:=n) R hsur (P:=ez n) ⟨ez.zero,fun a b ha hb=>ha.add hb,fun k a ha=>ha.smul k⟩ fun v hv=>hv
 have hinv:∀ x,D x→(x ≠ fun _=>0)→∃ y,D y∧cv n f e x y=k:=fun x hx hx0=>by
  obtain ⟨g,hg,hxg⟩:∃ g,g < n∧x g ≠ 0:=Classical.byContradiction fun hno=>hx0 ((hDs x hx).ext ez.zero fun g hg=>Classical.byContradiction fun hc=>hno ⟨g,hg,hc⟩)
  obtain ⟨w,hwd⟩:∃ w,w=dl K (iv n f e g):=⟨_,rfl⟩
  obtain ⟨z,hz⟩:∃ z,z=cv n f e k (cv n f e w k):=⟨_,rfl⟩
  have hzD:D z:=by rw [hz]; exact hDw w
  obtain ⟨u,hu⟩:∃ u,u=cv n f e x z:=⟨_,rfl⟩
  have huD:D u:=by rw [hu]; exact hDc x z hx hzD
  have hue:u e=x g:=by
   rw [hu,hz,← h.fD,hx.2,← h.fD,h.Gu,← h.fD,hx.1,hwd,h.Bk x (G.az hg) G.el,G.cN hg,G.one_l g hg]
  have hue0:u e ≠ 0:=by rw [hue]; exact hxg
  have hpp:∀ i,pc n f e u (p ^ i) e=u e:=fun i=>by
   induction i with
   | zero =>
    rw [Nat.pow_zero]
    show cv n f e u (dl K e) e=_
    rw [h.EG (hDs u huD)]
   | succ i ih=>rw [Nat.pow_succ,← h.zm,h.HM R hcz hpw hfr,ih]
  have hnn:∀ m,pc n f e u m ≠ fun _=>0:=fun m h0=>by
   have h1:m≤p ^ m:=Nat.le_of_lt (Nat.lt_pow_self (by have:=R.two; omega))
   have h2:=hpp m
   rw [show p ^ m=(p ^ m - m) + m by omega,h.jf,h0,pe] at h2
   exact hue0 h2.symm
  obtain ⟨cd,hcd⟩:=Classical.axiomOfChoice fun i=>qa4 _ (h.rm u i)
  have hpos:0 < p ^ qa:=Nat.pow_pos (by have:=R.two; omega)
  obtain ⟨i,j,hij,hjn,hcij⟩:=yH (n:=p ^ qa) (f:=cd) fun i _=>(hcd i).1
  have hpij:pc n f e u i=pc n f e u j:=by rw [← (hcd i).2,← (hcd j).2,hcij]
  obtain ⟨d,rfl⟩:∃ d,j=i + d:=⟨j - i,by omega⟩
  have hper:∀ l i',i≤i'→pc n f e u (i' + l * d)=pc n f e u i':=fun l=>by
   induction l with
   | zero=>intro i' _; rw [Nat.zero_mul]; rfl
   | succ l ih =>
    intro i' hi'
    have e1:i' + (l + 1) * d=(i' - i + l * d) + (i + d):=by rw [Nat.add_mul]; omega
    rw [e1,h.jf,← hpij,← h.jf,show i' - i + l * d + i=i' + l * d by omega,ih i' hi']
  obtain ⟨m,hm⟩:∃ m,m=(i + 1) * d:=⟨_,rfl⟩
  have hmi:i + 1≤m:=by rw [hm]; exact Nat.le_mul_of_pos_right _ (by omega)
  have hid:cv n f e (pc n f e u m) (pc n f e u m)=pc n f e u m:=by
   rw [← h.jf]
   have:=hper (i + 1) m (by omega)
   rwa [← hm] at this
  obtain ⟨q,hq⟩:∃ q,m=q + 1:=⟨m - 1,by omega⟩
  have hbl:cv n f e k (pc n f e u m)=pc n f e u m:=by
   rw [hq]
   show cv n f e k (cv n f e u (pc n f e u q))=cv n f e u (pc n f e u q)
   rw [← h.fD,huD.1]
  have hbr:cv n f e (pc n f e u m) k=pc n f e u m:=by
   have h1:pc n f e u 1=u:=h.EG (hDs u huD)
   rw [hq,h.jf,h1,h.fD,huD.2]
  obtain ⟨r1,r11,r12,r13⟩:=h.tL F hid
  have hk' : cv n f e (fun x=>k x + (-1) * pc n f e u m x) (fun x=>k x + (-1) * pc n f e u m x)=fun x=>k x + (-1) * pc n f e u m x:=by
   rw [bS k (fun x=>(-1) * pc n f e u m x),aR,cn k k,cn _ k,aO,aO,kk,hbl,hbr,hid]
   funext x; grind
  obtain ⟨r2,r21,r22,r23⟩:=h.tL F hk'
  have hle:=hmin r1 ⟨_,hDW _ ⟨hbl,hbr⟩,hid,hnn m,r11,r12⟩
  have hsum:r1 + r2=r:=R.iP (p:=p) (by omega) (by omega) (by
   rw [← kr,Semiring.natCast_add,← r12,← r22]; grind)
  have hz0:=r23 (by omega)
  have hku:pc n f e u m=k:=by
   funext x
   have:=congrFun hz0 x
   grind
  refine ⟨cv n f e z (cv n f e (pc n f e u q) k),⟨by rw [← h.fD,hzD.1],by rw [h.fD,h.fD,kk]⟩,?_⟩
  rw [← h.fD,← hu,← h.fD]
  have:cv n f e u (pc n f e u q)=k:=by rw [← hku,hq]; rfl
  rw [this,kk]
 have hC:∀ (a:Nat→K) {g x:Nat},g < n→x < n→cv n f e (dl K g) (cv n f e a (dl K (iv n f e g))) x=a (bU n f e g x):=fun a g x hg hx=>by
  rw [h.lV _ hg hx,h.Bk a (G.az hg) (G.cl _ _ (G.az hg) hx),G.cN hg]; rfl
 have hS:∀ a,WT n f e t a→∀ x,sm (fun g=>cv n f e k (cv n f e (cv n f e (dl K g) (cv n f e a (dl K (iv n f e g)))) k) x) n=(n:K) * a e * s * k x:=fun a ha x=>by
  have e1:(fun x=>sm (fun g=>cv n f e k (cv n f e (cv n f e (dl K g) (cv n f e a (dl K (iv n f e g)))) k) x) n)=cv n f e k (cv n f e (fun x=>sm (fun g=>cv n f e (dl K g) (cv n f e a (dl K (iv n f e g))) x) n) k):=by
   rw [ue,ow]
  have e2:cv n f e (fun x=>sm (fun g=>cv n f e (dl K g) (cv n f e a (dl K (iv n f e g))) x) n) k=cv n f e (fun x=>(n:K) * a e * t x) k:=cU h (fun x hx=>by
   rw [ai fun g hg=>hC a hg hx,h.vM F ht (by rw [← hsd]; exact hs) ha hx]) fun _ _=>rfl
  have e3:=congrFun e1 x
  rw [e2,aR,h.HC ht.cl,(hW.1 kW).2,aO,aO,kk] at e3
  have e4:sm (fun g=>cv n f e k (cv n f e (cv n f e (dl K g) (cv n f e a (dl K (iv n f e g)))) k) x) n=(n:K) * a e * (s * k x):=e3
  rw [e4]; grind
 have hcen:∀ z,D z→(∀ w,D w→cv n f e z w=cv n f e w z)→∃ a:K,z=fun x=>a * k x:=fun z hz hcz=>by
  have e1:∀ g,g < n→cv n f e k (cv n f e (cv n f e (dl K g) (cv n f e z (dl K (iv n f e g)))) k)=cv n f e z (cv n f e k (cv n f e (cv n f e (dl K g) (cv n f e k (dl K (iv n f e g)))) k)):=fun g hg=>by
   have hA:=hDw (dl K g)
   have h1:=hcz _ hA
   have e2:cv n f e k (cv n f e (cv n f e (dl K g) (cv n f e z (dl K (iv n f e g)))) k)=cv n f e (cv n f e (cv n f e k (cv n f e (dl K g) k)) z) (cv n f e (dl K (iv n f e g)) k):=by
    simp only [h.fD]
    rw [← h.fD k z,hz.1]
   have e3:cv n f e z (cv n f e k (cv n f e (cv n f e (dl K g) (cv n f e k (dl K (iv n f e g)))) k))=cv n f e (cv n f e z (cv n f e k (cv n f e (dl K g) k))) (cv n f e (dl K (iv n f e g)) k):=by
    simp only [h.fD]
   rw [e2,e3,h1]
  obtain ⟨ki,hki⟩:=F.1 _ hke
  refine ⟨z e * ki,funext fun x=>?_⟩
  have h1:=hS z (hDW z hz) x
  rw [ai fun g hg=>congrFun (e1 g hg) x] at h1
  have e4:(fun x=>sm (fun g=>cv n f e z (cv n f e k (cv n f e (cv n f e (dl K g) (cv n f e k (dl K (iv n f e g)))) k)) x) n)=cv n f e z (fun x=>(n:K) * k e * s * k x):=by
   rw [← ow]
   congr 1
   funext y
   exact hS k kW y
  have e5:=congrFun e4 x
  rw [aO,hz.2] at e5
  have e6:sm (fun g=>cv n f e z (cv n f e k (cv n f e (cv n f e (dl K g) (cv n f e k (dl K (iv n f e g)))) k)) x) n=(n:K) * k e * s * z x:=e5
  rw [e6] at h1
  obtain ⟨ni,hni⟩:=F.1 _ hn0
  grind
 have hall:=h.HN R hsur hw hDl hDs hDc hDk k0 (fun a ha=>ha.1) (fun a ha=>ha.2) hinv hcen
 have t1:sm (fun x=>cv n f e k (cv n f e (dl K x) k) x) n=1:=by
  have e1:∀ x,x < n→k e * cv n f e k (cv n f e (dl K x) k) x=k (iv n f e x) * k x:=fun x hx=>by
   obtain ⟨a,ha⟩:=hall _ (hDw (dl K x))
   have h1:=congrFun ha e
   rw [h.Gu,h.fD,kk,h.lV k hx G.el,G.one_r _ (G.az hx)] at h1
   rw [ha]
   show k e * (a * k x)=_
   rw [h1]; grind
  have e2:k e * sm (fun x=>cv n f e k (cv n f e (dl K x) k) x) n=k e:=by
   rw [← aK,ai e1]
   have e3:=congrFun kk e
   rw [dw _ _ G.el] at e3
   rw [← e3]
   exact ai fun x hx=>by rw [G.one_r _ (G.az hx)]; grind
  obtain ⟨ki,hki⟩:=F.1 _ hke
  grind
 have t2:sm (fun x=>cv n f e k (cv n f e (dl K x) k) x) n=(n:K) * k e * (s * k e):=by
  have e1:∀ x,x < n→cv n f e k (cv n f e (dl K x) k) x=sm (fun y=>k y * k (bU n f e x (iv n f e y))) n:=fun x hx=>by
   rw [dw _ _ hx]
   refine ai fun y hy=>?_
   rw [h.lV k hx (G.cl _ _ (G.az hy) hx)]
   unfold bU
   rw [G.assoc _ _ _ (G.az hx) (G.az hy) hx]
  rw [ai e1,aU]
  have e2:∀ y,y < n→sm (fun x=>k y * k (bU n f e x (iv n f e y))) n=(n:K) * k e * (k y * t (f (iv n f e y) e)):=fun y hy=>by
   rw [aK,h.vM F ht (by rw [← hsd]; exact hs) kW (G.az hy),G.one_r _ (G.az hy)]
   grind
  rw [ai e2,aK,← dw k t G.el,(hW.1 kW).2]
 refine ⟨r,k,kW,kk,kr,by omega,rn,?_,fun w=>hall _ (hDw w)⟩
 rw [t1] at t2
 rw [← hsd,← kr]
 grind
end
end Go.Proofs.YtjlmpmidchddjaaDoor
namespace Go.Proofs.YtjlmpmidchddjaaDoor
open Lean.Grind
attribute [local instance] Lean.Grind.Semiring.natCast Lean.Grind.Ring.intCast
section
variable {n e c:Nat} {f:Nat→Nat→Nat} {cI xx:Nat→Nat} {K:Type} [CommRing K] {p:Nat}
theorem WT.mul (h:GC n f e c cI xx) {t a:Nat→K} (b:Nat→K) (ha:WT n f e t a):WT n f e t (cv n f e b a):=
 ⟨bG _ _,by rw [h.fD,ha.2,aO]⟩
theorem WT.add {t a b:Nat→K} (ha:WT n f e t a) (hb:WT n f e t b):WT n f e t fun x=>a x + b x:=
 ⟨ha.1.add hb.1,by rw [bS,ha.2,hb.2]; funext x; grind⟩
theorem WT.smul {t a:Nat→K} (k:K) (ha:WT n f e t a):WT n f e t fun x=>k * a x:=
 ⟨ha.1.smul k,by rw [aR,ha.2]; funext x; grind⟩
def eB (n:Nat) (si:K) (t:Nat→K) (x:Nat):K:=if x < n then si * t x else 0
theorem wH (si:K) (t:Nat→K):ez n (eB n si t):=fun x hx=>if_neg (by omega)
theorem fk (si:K) (t:Nat→K) {x:Nat} (hx:x < n):eB n si t x=si * t x:=if_pos hx
theorem GC.IF (h:GC n f e c cI xx) (F:nr K) (hn0:(n:K) ≠ 0) {t:Nat→K} (ht:kK n f e cI t) {x:Nat} (hx:x < n):cv n f e t t x=bY n f e t t e * t x:=by
 rw [dw _ _ hx,← h.w8 t t hx,h.self F hn0 ht hx]
theorem GC.Er (h:GC n f e c cI xx) (F:nr K) (hn0:(n:K) ≠ 0) {t:Nat→K} (ht:kK n f e cI t) {si:K} (hsi:bY n f e t t e * si=1) :
  WT n f e t (eB n si t)∧cv n f e (eB n si t) (eB n si t)=eB n si t∧eB n si t e=si∧∀ a,ez n a→(WT n f e t a↔cv n f e a (eB n si t)=a):=by
 have G:=h.G
 have hW:WT n f e t (eB n si t):=⟨wH _ _,by
  rw [cU h (a':=fun x=>si * t x) (fun x hx=>fk si t hx) (b':=t) fun _ _=>rfl,aR]
  funext x
  by_cases hx:x < n
  ·rw [h.IF F hn0 ht hx,fk _ _ hx]; grind
  rw [bG t t x (by omega),wH _ _ x (by omega)]; grind⟩
 have hr:∀ a,cv n f e a (eB n si t)=fun x=>si * cv n f e a t x:=fun a=>by
  rw [cU h (a:=a) (a':=a) (fun _ _=>rfl) (b':=fun x=>si * t x) fun x hx=>fk si t hx,aO]
 refine ⟨hW,?_,by rw [fk _ _ G.el,ht.one]; grind,fun a ha=>⟨fun hw=>?_,fun hw=>⟨ha,?_⟩⟩⟩
 ·rw [hr,hW.2]; funext x; grind
 ·rw [hr,hw.2]; funext x; grind
 have h1:=hr a
 rw [hw] at h1
 funext x
 rw [congrFun h1 x]; grind
theorem GC.Fx (h:GC n f e c cI xx) (F:nr K) (hn0:(n:K) ≠ 0) {t k:Nat→K} {v:Nat} (ht:kK n f e cI t) (hs:bY n f e t t e ≠ 0) (hk:yS n f e t k v) (hke:k e ≠ 0) {u:Nat→K} (hu:WT n f e t u) (huu:cv n f e u u=u) (hu0:u ≠ fun _=>0) :
  ∃ j,WT n f e t j∧cv n f e j j=j∧cv n f e u j=j∧cv n f e j u=j∧j e=k e:=by
 have G:=h.G
 have h1:∃ g,g < n∧cv n f e u (cv n f e (dl K g) k) ≠ fun _=>0:=Classical.byContradiction fun hno=>by
  have hz:∀ g,g < n→cv n f e u (cv n f e (dl K g) k)=fun _=>0:=fun g hg=>Classical.byContradiction fun hc=>hno ⟨g,hg,hc⟩
  have e2:cv n f e u (fun x=>sm (fun g=>cv n f e (dl K g) (cv n f e k (dl K (iv n f e g))) x) n)=fun x=>0:=by
   rw [ow]
   funext x
   refine aS fun g hg=>?_
   rw [← h.fD (dl K g) k,← h.fD u,hz g hg,p9]
  have e3:cv n f e u (fun x=>sm (fun g=>cv n f e (dl K g) (cv n f e k (dl K (iv n f e g))) x) n)=cv n f e u (fun x=>(n:K) * k e * t x):=cU h (fun _ _=>rfl) fun x hx=>by
   rw [← h.vM F ht hs hk.W hx]
   refine ai fun g hg=>?_
   rw [h.lV _ hg hx,h.Bk k (G.az hg) (G.cl _ _ (G.az hg) hx),G.cN hg]; rfl
  rw [e3,aO,hu.2] at e2
  refine hu0 (funext fun x=>?_)
  have h2:=congrFun e2 x
  obtain ⟨ni,hni⟩:=F.1 _ hn0
  obtain ⟨ki,hki⟩:=F.1 _ hke
  obtain ⟨si,hsi⟩:=F.1 _ hs
  have h3:(n:K) * k e * (bY n f e t t e * u x)=0:=h2
  grind
 obtain ⟨g,hg,hz0⟩:=h1
 obtain ⟨z,hz⟩:∃ z,z=cv n f e u (cv n f e (dl K g) k):=⟨_,rfl⟩
 rw [← hz] at hz0
 have zk:cv n f e z k=z:=by rw [hz,h.fD,h.fD,hk.id]
 have uz:cv n f e u z=z:=by rw [hz,← h.fD,huu]
 have zs:ez n z:=by rw [hz]; exact bG _ _
 obtain ⟨g0,hg0,hzg⟩:∃ g0,g0 < n∧z g0 ≠ 0:=Classical.byContradiction fun hno=>hz0 (zs.ext ez.zero fun g hg=>Classical.byContradiction fun hc=>hno ⟨g,hg,hc⟩)
 obtain ⟨y,hy⟩:∃ y,y=dl K (iv n f e g0):=⟨_,rfl⟩
 have yz:cv n f e y z e=z g0:=by rw [hy,h.lV z (G.az hg0) G.el,G.cN hg0,G.one_r _ hg0]
 obtain ⟨a,ha⟩:=hk.one (cv n f e y z)
 have ha' : cv n f e k (cv n f e y z)=fun x=>a * k x:=by rw [← ha,h.fD y,zk]
 have hae:a * k e=z g0:=by
  have:=congrFun ha' e
  rw [h.Gu,h.fD,zk,yz] at this
  exact this.symm
 have ha0:a ≠ 0:=fun h0=>hzg (by rw [← hae,h0]; grind)
 obtain ⟨b,hb⟩:=F.1 _ ha0
 refine ⟨fun x=>b * cv n f e z (cv n f e y u) x,(hu.mul h y |>.mul h z).smul b,?_,?_,?_,?_⟩
 ·rw [aR,aO]
  have e1:cv n f e (cv n f e z (cv n f e y u)) (cv n f e z (cv n f e y u))=fun x=>a * cv n f e z (cv n f e y u) x:=by
   have e2:cv n f e (cv n f e z (cv n f e y u)) (cv n f e z (cv n f e y u))=cv n f e (cv n f e z (cv n f e k (cv n f e y z))) (cv n f e y u):=by
    rw [← h.fD z k,zk]
    simp only [h.fD]
    rw [← h.fD u z,uz]
   rw [e2,ha',aO,aR,zk]
  rw [e1]
  funext x; grind
 ·rw [aO,← h.fD,uz]
 ·rw [aR,h.fD,h.fD,huu]
 show b * cv n f e z (cv n f e y u) e=k e
 rw [h.Gu,h.fD,uz,yz,← hae]
 grind
theorem yS.ne (R:Rp K p) {t k:Nat→K} {v:Nat} (h2n:2 * n < p) (hk:yS n f e t k v):k e ≠ 0∧(v:K) ≠ 0:=by
 have hv:(v:K) ≠ 0:=fun h0=>by
  have:=R.iP (p:=p) (a:=v) (b:=0) (by have:=hk.le; omega) (by have:=R.two; omega) (by rw [h0]; grind)
  have:=hk.ge; omega
 exact ⟨fun h0=>hv (by rw [← hk.rk,h0]; grind),hv⟩
theorem GC.mult (h:GC n f e c cI xx) (R:Rp K p) (h2n:2 * n < p) (hn0:(n:K) ≠ 0) {t k:Nat→K} {v:Nat} (ht:kK n f e cI t) (hs:bY n f e t t e ≠ 0) (hk:yS n f e t k v) :
  ∀ r,r≤n→∀ u,WT n f e t u→cv n f e u u=u→(n:K) * u e=(r:K)→v ∣ r:=by
 intro r
 induction r using Nat.strongRecOn with
 | ind r ih =>
  intro hr u hu huu hur
  obtain ⟨hke,hv0⟩:=hk.ne R h2n
  by_cases hu0:u=fun _=>0
  ·have:r=0:=R.iP (p:=p) (by omega) (by have:=R.two; omega) (by rw [← hur,hu0]; grind)
   rw [this]; exact Nat.dvd_zero v
  obtain ⟨j,j1,j2,j3,j4,j5⟩:=h.Fx R.fld hn0 ht hs hk hke hu huu hu0
  have hd:WT n f e t fun x=>u x + (-1) * j x:=hu.add (j1.smul _)
  have hdd:cv n f e (fun x=>u x + (-1) * j x) (fun x=>u x + (-1) * j x)=fun x=>u x + (-1) * j x:=by
   rw [bS u (fun x=>(-1) * j x),aR,cn u u,cn j u,aO,aO,huu,j2,j3,j4]
   funext x; grind
  obtain ⟨r2,a1,a2,_⟩:=h.tL R.fld hdd
  have hv:=hk.le
  have e1:r2 + v=r:=R.iP (p:=p) (by omega) (by omega) (by
   rw [Semiring.natCast_add,← a2,← hk.rk,← hur,← j5]; grind)
  have:=ih r2 (by have:=hk.ge; omega) (by omega) _ hd hdd a2
  rw [← e1]
  exact Nat.dvd_add this (Nat.dvd_refl v)
theorem GC.IJ (h:GC n f e c cI xx) (R:Rp K p) (h2n:2 * n < p) (hn0:(n:K) ≠ 0) {t k:Nat→K} {v:Nat} (ht:kK n f e cI t) (hs:bY n f e t t e ≠ 0) (hk:yS n f e t k v):v * v≤n:=by
 have F:=R.fld
 obtain ⟨si,hsi⟩:=F.1 _ hs
 obtain ⟨w1,w2,w3,_⟩:=h.Er F hn0 ht hsi
 obtain ⟨r,r1,r2,_⟩:=h.tL F w2
 obtain ⟨q,hq⟩:=h.mult R h2n hn0 ht hs hk r r1 _ w1 w2 r2
 obtain ⟨_,hv0⟩:=hk.ne R h2n
 have hv:=hk.le
 have hqn:q≤n:=Nat.le_trans (by rw [hq]; exact Nat.le_mul_of_pos_left q hk.ge) r1
 have:q=v:=R.iP (p:=p) (by omega) (by omega) (by
  have e1:(r:K)=(v:K) * (q:K):=by rw [hq,Semiring.natCast_mul]
  rw [w3] at r2
  have e2:=hk.sq
  obtain ⟨vi,hvi⟩:=F.1 _ hv0
  have e3:(n:K) * si=(v:K) * v:=by rw [← e2]; grind
  have e4:(v:K) * (q:K)=(v:K) * (v:K):=by rw [← e1,← r2,e3]
  grind)
 rw [hq,this] at r1
 exact r1
def sn (g:Nat→Nat):Nat→Nat
 | 0=>0
 | i + 1=>sn g i + g i
theorem AN (g:Nat→Nat):∀ i,((sn g i:Nat):K)=sm (fun q=>((g q:Nat):K)) i
 | 0=>Semiring.natCast_zero
 | i + 1=>by show ((sn g i + g i:Nat):K)=_; rw [Semiring.natCast_add,AN g i]; rfl
theorem GC.vg (h:GC n f e c cI xx) (F:nr K) (hn0:(n:K) ≠ 0) {t t' : Nat→K} (ht:kK n f e cI t) (ht' : kK n f e cI t') (hs:bY n f e t t e ≠ 0) (hz:bY n f e t t' e=0) (si si' : K):cv n f e (eB n si t) (eB n si' t')=fun _=>0:=by
 have:∃ a,a < n∧t a ≠ t' a:=Classical.byContradiction fun hno=>by
  have he:∀ a,a < n→t a=t' a:=fun a ha=>Classical.byContradiction fun hc=>hno ⟨a,ha,hc⟩
  refine hs ?_
  rw [← hz]
  exact ai fun z hz=>by rw [he _ (h.G.az hz)]
 obtain ⟨a,ha,hne⟩:=this
 rw [cU h (a':=fun x=>si * t x) (fun x hx=>fk si t hx) (b':=fun x=>si' * t' x) fun x hx=>fk si' t' hx,aR,aO]
 funext x
 show si * (si' * cv n f e t t' x)=0
 by_cases hx:x < n
 ·rw [dw _ _ hx,← h.w8 t t' hx,h.zT F hn0 ht ht' ha hne hx]; grind
 rw [bG t t' x (by omega)]; grind
theorem GC.Ga (h:GC n f e c cI xx) (R:Rp K p) (h2n:2 * n < p) (hn0:(n:K) ≠ 0) {m:Nat} {tt:Nat→Nat→K} {vv:Nat→Nat} (ht:∀ q,q < m→kK n f e cI (tt q)) (hs:∀ q,q < m→bY n f e (tt q) (tt q) e ≠ 0) (hv:∀ q,q < m→vv q * vv q≤n∧bY n f e (tt q) (tt q) e * ((vv q:K) * vv q)=(n:K))
  (ho:∀ q q',q < m→q' < m→q ≠ q'→bY n f e (tt q) (tt q') e=0):sn (fun q=>vv q * vv q) m≤n:=by
 have F:=R.fld
 have:∀ q,∃ si:K,q < m→bY n f e (tt q) (tt q) e * si=1:=fun q=>by
  by_cases hq:q < m
  ·obtain ⟨si,h1⟩:=F.1 _ (hs q hq); exact ⟨si,fun _=>h1⟩
  exact ⟨0,fun h0=>absurd h0 hq⟩
 obtain ⟨si,hsi⟩:=Classical.axiomOfChoice this
 have key:∀ j,j≤m→cv n f e (fun x=>sm (fun q=>eB n (si q) (tt q) x) j) (fun x=>sm (fun q=>eB n (si q) (tt q) x) j)=(fun x=>sm (fun q=>eB n (si q) (tt q) x) j)∧sn (fun q=>vv q * vv q) j≤n∧(n:K) * sm (fun q=>eB n (si q) (tt q) e) j=(sn (fun q=>vv q * vv q) j:Nat):=by
  intro j
  induction j with
  | zero =>
   intro _
   refine ⟨?_,Nat.zero_le _,?_⟩
   ·show cv n f e (fun _=>0) (fun _=>0)=fun _=>0
    exact p9 _
   show (n:K) * 0=((0:Nat):K)
   rw [Semiring.natCast_zero]; grind
  | succ j ih =>
   intro hj
   obtain ⟨i1,i2,i3⟩:=ih (by omega)
   obtain ⟨w1,w2,w3,_⟩:=h.Er F hn0 (ht j hj) (hsi j hj)
   have z1:cv n f e (fun x=>sm (fun q=>eB n (si q) (tt q) x) j) (eB n (si j) (tt j))=fun _=>0:=by
    rw [ue]; funext x
    exact aS fun q hq=>by rw [h.vg F hn0 (ht q (by omega)) (ht j hj) (hs q (by omega)) (ho q j (by omega) hj (by omega))]
   have z2:cv n f e (eB n (si j) (tt j)) (fun x=>sm (fun q=>eB n (si q) (tt q) x) j)=fun _=>0:=by
    rw [ow]; funext x
    exact aS fun q hq=>by rw [h.vg F hn0 (ht j hj) (ht q (by omega)) (hs j hj) (ho j q hj (by omega) (by omega))]
   have hid:cv n f e (fun x=>sm (fun q=>eB n (si q) (tt q) x) (j + 1)) (fun x=>sm (fun q=>eB n (si q) (tt q) x) (j + 1))=(fun x=>sm (fun q=>eB n (si q) (tt q) x) (j + 1)):=by
    show cv n f e (fun x=>sm (fun q=>eB n (si q) (tt q) x) j + eB n (si j) (tt j) x) (fun x=>sm (fun q=>eB n (si q) (tt q) x) j + eB n (si j) (tt j) x)=fun x=>sm (fun q=>eB n (si q) (tt q) x) j + eB n (si j) (tt j) x
    rw [bS (fun x=>sm (fun q=>eB n (si q) (tt q) x) j),cn (fun x=>sm (fun q=>eB n (si q) (tt q) x) j) (fun x=>sm (fun q=>eB n (si q) (tt q) x) j),cn (eB n (si j) (tt j)) (fun x=>sm (fun q=>eB n (si q) (tt q) x) j),i1,z1,z2,w2]
    funext x; grind
   obtain ⟨r,r1,r2,_⟩:=h.tL F hid
   obtain ⟨v1,v2⟩:=hv j hj
   have e1:(n:K) * si j=((vv j * vv j:Nat):K):=by
    rw [Semiring.natCast_mul,← v2]
    have:=hsi j hj
    grind
   have e2:(n:K) * sm (fun q=>eB n (si q) (tt q) e) (j + 1)=((sn (fun q=>vv q * vv q) (j + 1):Nat):K):=by
    show (n:K) * (sm (fun q=>eB n (si q) (tt q) e) j + eB n (si j) (tt j) e)=((sn (fun q=>vv q * vv q) j + vv j * vv j:Nat):K)
    rw [Semiring.natCast_add,← i3,w3,← e1]; grind
   have e3:sn (fun q=>vv q * vv q) (j + 1)=r:=R.iP (p:=p) (by show sn _ j + vv j * vv j < p; omega) (by omega) (by rw [← e2,← r2])
   exact ⟨hid,by omega,e2⟩
 exact (key m (Nat.le_refl _)).2.1
end
end Go.Proofs.YtjlmpmidchddjaaDoor
namespace Go.Proofs.YtjlmpmidchddjaaDoor
open Lean.Grind
attribute [local instance] Lean.Grind.Semiring.natCast Lean.Grind.Ring.intCast
theorem s8 {α β:Type} (g:α→β) {l1 l2:List β} (h:l1.Perm l2):∀ l' : List α,l2=l'.map g→∃ l'' : List α,l''.Perm l'∧l1=l''.map g:=by
 induction h with
 | nil=>intro l' h; exact ⟨l',List.Perm.refl _,h⟩
 | cons x h ih =>
  intro l' h2
  cases l' with
  | nil=>cases h2
  | cons y l' =>
   rw [List.map_cons] at h2
   injection h2 with h3 h4
   obtain ⟨l'',a,b⟩:=ih l' h4
   exact ⟨y :: l'',a.cons y,by rw [List.map_cons,h3,b]⟩
 | swap x y l =>
  intro l' h2
  match l',h2 with
  | [],h2=>cases h2
  | [z],h2=>cases h2
  | z :: w :: l',h2 =>
   simp only [List.map_cons] at h2
   injection h2 with h3 h4
   injection h4 with h4 h5
   exact ⟨w :: z :: l',List.Perm.swap z w l',by simp only [List.map_cons]; rw [h3,h4,h5]⟩
 | trans h1 h2 ih1 ih2 =>
  intro l' h
  obtain ⟨m,a,b⟩:=ih2 l' h
  obtain ⟨m',a',b'⟩:=ih1 m b
  exact ⟨m',a'.trans a,b'⟩
section
variable {n e c:Nat} {f:Nat→Nat→Nat} {cI xx:Nat→Nat} {K:Type} [CommRing K] {p:Nat}
structure uB (K:Type) [CommRing K] (n:Nat) (f:Nat→Nat→Nat) (e c:Nat) (cI:Nat→Nat) (tt:Nat→Nat→K) (vv:Nat→Nat):Prop where
 chr:∀ i,i < c→kK n f e cI (tt i)
 nz:∀ i,i < c→bY n f e (tt i) (tt i) e ≠ 0
 Eo:∀ i,i < c→∃ k,yS n f e (tt i) k (vv i)
 ge:∀ i,i < c→1≤vv i
 sq:∀ i,i < c→vv i * vv i≤n∧bY n f e (tt i) (tt i) e * ((vv i:K) * vv i)=(n:K)
 ort:∀ i j,i < c→j < c→i ≠ j→bY n f e (tt i) (tt j) e=0
 H8:∀ a,a < n→sm (fun i=>(vv i:K) * vv i * tt i a) c=if a=e then (n:K) else 0
 sum:sn (fun i=>vv i * vv i) c=n
 all:∀ t,kK n f e cI t→∃ i,i < c∧∀ a,a < n→t a=tt i a
theorem Di {g g' : Nat→Nat} : ∀ {m:Nat},(∀ i,i < m→g i≤g' i)→sn g m≤sn g' m
 | 0,_=>Nat.le_refl _
 | m + 1,h=>Nat.add_le_add (Di fun i hi=>h i (by omega)) (h m (by omega))
end
variable {n e:Nat} {m:List Int}
theorem E8 (h:GT n m n e):aG m n e∈FW:=by
 have hd:=eX h n (Nat.le_refl _)
 have h1:=h.2.1.pos
 have h2:=h.2.1.big
 have a:=List.all_eq_true.1 AO n (List.mem_range.2 (by omega))
 have hE:=Nat.le_of_dvd (by omega) hd
 have b:=List.all_eq_true.1 a (bn m n e n) (List.mem_range.2 (by omega))
 simp only [Bool.or_eq_true,decide_eq_true_eq] at b
 rcases b with (b | b) | b
 ·omega
 ·exact absurd (Nat.mod_eq_zero_of_dvd hd) b
 exact List.contains_iff_mem.1 b
theorem vU (h:GT n m n e) [NeZero (aG m n e)]:∃ (tt:Nat→Nat→Fin (aG m n e)) (vv:Nat→Nat),uB (Fin (aG m n e)) n (op m n) e (aX m n e) (bX m n e) tt vv ∧
  ∀ i,i < aX m n e→(∀ a,a < n→(vc ((fi m n e).getD i []) (bX m n e a):Fin (aG m n e))=(vv i:Nat) * tt i a)∧((fi m n e).getD i []).getD (nI m n e) 0=(vv i:Nat):=by
 obtain ⟨P,p1,p2⟩:=o9 h
 have hp3:=P.three
 have H:=kG h
 have C:=sY h
 have G:=h.2.2
 have R:=H.R
 have F:=R.fld
 obtain ⟨lam,Fm⟩:=H.HE
 have hSl:(dH m n e).length=aX m n e:=Fm.len
 have hrng:(dH m n e).map (iO m n e)=(List.range (aX m n e)).map fun q=>iO m n e ((dH m n e).getD q []):=by
  refine List.ext_getElem (by simp [hSl]) fun q hq _=>?_
  simp only [List.length_map] at hq
  simp [List.getD,List.getElem?_eq_getElem hq]
 obtain ⟨L,hL,hT⟩:=s8 (fun q=>iO m n e ((dH m n e).getD q [])) (tK m n e) _ hrng
 have hLl:L.length=aX m n e:=by rw [hL.length_eq,List.length_range]
 have hLn:L.Nodup:=hL.nodup_iff.2 List.nodup_range
 have hLm:∀ i,i < aX m n e→L.getD i 0 < aX m n e:=fun i hi=>List.mem_range.1 (hL.mem_iff.1 (aC (by omega)))
 have hLi:∀ i j,i < aX m n e→j < aX m n e→L.getD i 0=L.getD j 0→i=j:=fun i j hi hj hij=>by
  refine (List.getElem_inj hLn (h₀:=by omega) (h₁:=by omega)).1 ?_
  simpa [List.getD,List.getElem?_eq_getElem (show i < L.length by omega),List.getElem?_eq_getElem (show j < L.length by omega)] using hij
 have hTg:∀ i,i < aX m n e→(fi m n e).getD i []=iO m n e ((dH m n e).getD (L.getD i 0) []):=fun i hi=>by
  rw [hT]; simp [List.getD,List.getElem?_map,List.getElem?_eq_getElem (show i < L.length by omega)]
 have hpr:∀ i,∃ v:Nat,i < aX m n e→∃ k,yS n (op m n) e (bz (bX m n e) (fun i=>((dP (aG m n e) (cV m n e i:Nat):Int):Fin (aG m n e))) (lam (L.getD i 0))) k v:=fun i=>by
  by_cases hi:i < aX m n e
  ·obtain ⟨v,hv⟩:=C.HF R (fun a=>sU a) (fun d d1 d2=>Ef (E8 h) d1 (by have:=h.2.1.big; omega)) p1 H.nz H.cz (fun a ha=>AW h ha) (Fm.chr _ (hLm i hi)) (Fm.nz _ (hLm i hi))
   exact ⟨v,fun _=>hv⟩
  exact ⟨0,fun h0=>absurd h0 hi⟩
 obtain ⟨vv,hvv⟩:=Classical.axiomOfChoice hpr
 have hsq:∀ i,i < aX m n e→vv i * vv i≤n:=fun i hi=>by
  obtain ⟨k,hk⟩:=hvv i hi
  exact C.IJ R p1 H.nz (Fm.chr _ (hLm i hi)) (Fm.nz _ (hLm i hi)) hk
 have hle:∀ i,i < aX m n e→1≤vv i∧vv i≤n:=fun i hi=>by
  obtain ⟨k,hk⟩:=hvv i hi
  exact ⟨hk.ge,hk.le⟩
 have hss:∀ i,i < aX m n e→bY n (op m n) e (bz (bX m n e) (fun i=>((dP (aG m n e) (cV m n e i:Nat):Int):Fin (aG m n e))) (lam (L.getD i 0))) (bz (bX m n e) (fun i=>((dP (aG m n e) (cV m n e i:Nat):Int):Fin (aG m n e))) (lam (L.getD i 0))) e * (((vv i:Nat):Fin (aG m n e)) * ((vv i:Nat):Fin (aG m n e)))=(n:Nat):=fun i hi=>by
  obtain ⟨k,hk⟩:=hvv i hi
  exact hk.sq
 have hdv:∀ i,i < aX m n e→pq (aG m n e) n (bX m n e e) (aX m n e) (kz m n e) (cV m n e) ((dH m n e).getD (L.getD i 0) [])=vv i:=fun i hi=>by
  have hr:=rJ h Fm (hLm i hi)
  obtain ⟨v1,v2⟩:=hle i hi
  have h1:=hr.mn (vv i) v1 (by omega) (hss i hi)
  have h2:=hr.dd
  have h3:=hss i hi
  have hz:=Fm.nz _ (hLm i hi)
  have hd1:1≤pq (aG m n e) n (bX m n e e) (aX m n e) (kz m n e) (cV m n e) ((dH m n e).getD (L.getD i 0) []):=by unfold pq GL; omega
  have h0:pq (aG m n e) n (bX m n e e) (aX m n e) (kz m n e) (cV m n e) ((cQ (aG m n e) (gE m n e) [aP (aX m n e) (aX m n e)] (aX m n e)).getD (L.getD i 0) [])=pq (aG m n e) n (bX m n e e) (aX m n e) (kz m n e) (cV m n e) ((dH m n e).getD (L.getD i 0) []):=rfl
  rw [h0] at h1 h2
  generalize pq (aG m n e) n (bX m n e e) (aX m n e) (kz m n e) (cV m n e) ((dH m n e).getD (L.getD i 0) [])=d at *
  generalize bY n (op m n) e (bz (bX m n e) (fun i=>((dP (aG m n e) (cV m n e i:Nat):Int):Fin (aG m n e))) (lam (L.getD i 0))) (bz (bX m n e) (fun i=>((dP (aG m n e) (cV m n e i:Nat):Int):Fin (aG m n e))) (lam (L.getD i 0))) e=s at *
  obtain ⟨si,hsi⟩:=F.1 _ hz
  have h4:(((d:Nat):Fin (aG m n e)) - ((vv i:Nat):Fin (aG m n e))) * (((d:Nat):Fin (aG m n e)) + ((vv i:Nat):Fin (aG m n e)))=0:=by grind
  rcases F.mul h4 with h5 | h5
  ·exact R.iP (p:=aG m n e) (by omega) (by omega) (by grind)
  exfalso
  exact Cu (p:=aG m n e) (d + vv i) (by omega) (by omega) (by rw [Semiring.natCast_add]; exact h5)
 have hort:∀ i j,i < aX m n e→j < aX m n e→i ≠ j→bY n (op m n) e (bz (bX m n e) (fun i=>((dP (aG m n e) (cV m n e i:Nat):Int):Fin (aG m n e))) (lam (L.getD i 0))) (bz (bX m n e) (fun i=>((dP (aG m n e) (cV m n e i:Nat):Int):Fin (aG m n e))) (lam (L.getD j 0))) e=0:=fun i j hi hj hij=>Fm.ort _ _ (hLm i hi) (hLm j hj) fun hh=>hij (hLi i j hi hj hh)
 have hent:∀ i,i < aX m n e→∀ a,a < n→(vc ((fi m n e).getD i []) (bX m n e a):Fin (aG m n e))=(vv i:Nat) * bz (bX m n e) (fun i=>((dP (aG m n e) (cV m n e i:Nat):Int):Fin (aG m n e))) (lam (L.getD i 0)) a:=fun i hi a ha=>by
  have hr:=rJ h Fm (hLm i hi)
  have hw:(vc (vo (aG m n e) (nI m n e) ((dH m n e).getD (L.getD i 0) [])):Nat→Fin (aG m n e))=lam (L.getD i 0):=hr.w
  rw [hTg i hi]
  unfold iO
  rw [Db R (dm h ha).1,hw]
  have hd:pq (aG m n e) n (nI m n e) (aX m n e) (kz m n e) (cV m n e) ((dH m n e).getD (L.getD i 0) [])=vv i:=hdv i hi
  rw [hd]
  unfold bz
  grind
 have hch:∀ i,i < aX m n e→kK n (op m n) e (bX m n e) (bz (bX m n e) (fun i=>((dP (aG m n e) (cV m n e i:Nat):Int):Fin (aG m n e))) (lam (L.getD i 0))):=fun i hi=>Fm.chr _ (hLm i hi)
 have hnz:∀ i,i < aX m n e→bY n (op m n) e (bz (bX m n e) (fun i=>((dP (aG m n e) (cV m n e i:Nat):Int):Fin (aG m n e))) (lam (L.getD i 0))) (bz (bX m n e) (fun i=>((dP (aG m n e) (cV m n e i:Nat):Int):Fin (aG m n e))) (lam (L.getD i 0))) e ≠ 0:=fun i hi=>Fm.nz _ (hLm i hi)
 have hcol:∀ a,a < n→sm (fun i=>((vv i:Nat):Fin (aG m n e)) * ((vv i:Nat):Fin (aG m n e)) * bz (bX m n e) (fun i=>((dP (aG m n e) (cV m n e i:Nat):Int):Fin (aG m n e))) (lam (L.getD i 0)) a) (aX m n e)=if a=e then ((n:Nat):Fin (aG m n e)) else 0:=fun a ha=>by
  obtain ⟨t1,t2,t3,t4,t5⟩:=eS h
  have hal:=(dm h ha).1
  have hol:=(dm h G.el).1
  have h5:=t5 (bX m n e e) (bX m n e a) hol hal
  rw [vP,t3] at h5
  have hOx:qK m n e (bX m n e e)=e:=by
   have hx:=C.xl _ hol
   exact C.Dh hx (C.cx _ hol)
  have hJO:kz m n e (bX m n e e)=bX m n e e:=by
   unfold kz
   rw [hOx,G.gK]
  rw [hJO] at h5
  have e1:sm (fun i=>(vc ((fi m n e).getD i []) (bX m n e a):Fin (aG m n e)) * vc ((fi m n e).getD i []) (bX m n e e)) (aX m n e)=sm (fun i=>((vv i:Nat):Fin (aG m n e)) * ((vv i:Nat):Fin (aG m n e)) * bz (bX m n e) (fun i=>((dP (aG m n e) (cV m n e i:Nat):Int):Fin (aG m n e))) (lam (L.getD i 0)) a) (aX m n e):=ai fun i hi=>by
   rw [hent i hi a ha,hent i hi e G.el,(hch i hi).one]; grind
  rw [e1] at h5
  by_cases hae:a=e
  ·rw [if_pos hae]
   rw [if_pos (by rw [hae])] at h5
   have hS1:cV m n e (bX m n e a)=1:=by
    have hk:=rL (K:=Fin (aG m n e)) h hol
    have hk1:rQ (Fin (aG m n e)) n (bX m n e) (bX m n e e)=1:=C.qC G.el _ (fun g hg hge hne=>absurd (C.Dh hg hge) hne) rfl
    rw [hk1] at hk
    have:=ir h hol
    rw [hae]
    refine (R.iP (p:=aG m n e) (by omega) (by omega) ?_)
    rw [← hk,Semiring.natCast_one]
   rw [hS1] at h5
   rw [← h5]
   have:((1:Nat):Fin (aG m n e))=1:=Semiring.natCast_one
   rw [this]; grind
  rw [if_neg hae]
  rw [if_neg (fun hh=>hae (C.Dh ha hh.symm))] at h5
  have hS:=ir h hal
  rcases F.mul h5 with h6 | h6
  ·exact h6
  exact absurd h6 (Cu _ hS.1 (by omega))
 have hsum0:=C.Ga R p1 H.nz (m:=aX m n e) (vv:=vv) hch hnz (fun i hi=>⟨hsq i hi,hss i hi⟩) hort
 refine ⟨_,vv,⟨hch,hnz,hvv,fun i hi=>(hle i hi).1,fun i hi=>⟨hsq i hi,hss i hi⟩,hort,hcol,?_,fun t ht=>?_⟩,fun i hi=>⟨hent i hi,?_⟩⟩
 ·have h1:=hcol e G.el
  rw [if_pos rfl] at h1
  refine R.iP (p:=aG m n e) (by omega) (by omega) ?_
  rw [AN,← h1]
  exact ai fun i hi=>by rw [(hch i hi).one,Semiring.natCast_mul]; grind
 ·refine Classical.byContradiction fun hno=>?_
  have hne:∀ i,i < aX m n e→∃ a,a < n∧t a ≠ bz (bX m n e) (fun i=>((dP (aG m n e) (cV m n e i:Nat):Int):Fin (aG m n e))) (lam (L.getD i 0)) a:=fun i hi=>Classical.byContradiction fun hc=>hno ⟨i,hi,fun a ha=>Classical.byContradiction fun hc2=>hc ⟨a,ha,hc2⟩⟩
  have ho:∀ i,i < aX m n e→∀ b,b < n→bY n (op m n) e t (bz (bX m n e) (fun i=>((dP (aG m n e) (cV m n e i:Nat):Int):Fin (aG m n e))) (lam (L.getD i 0))) b=0:=fun i hi b hb=>by
   obtain ⟨a,ha,h1⟩:=hne i hi
   exact C.zT F H.nz ht (hch i hi) ha h1 hb
  have h1:sm (fun w=>t w * sm (fun i=>((vv i:Nat):Fin (aG m n e)) * ((vv i:Nat):Fin (aG m n e)) * bz (bX m n e) (fun i=>((dP (aG m n e) (cV m n e i:Nat):Int):Fin (aG m n e))) (lam (L.getD i 0)) (op m n (iv n (op m n) e w) e)) (aX m n e)) n=0:=by
   have e1:∀ w,w < n→t w * sm (fun i=>((vv i:Nat):Fin (aG m n e)) * ((vv i:Nat):Fin (aG m n e)) * bz (bX m n e) (fun i=>((dP (aG m n e) (cV m n e i:Nat):Int):Fin (aG m n e))) (lam (L.getD i 0)) (op m n (iv n (op m n) e w) e)) (aX m n e)=sm (fun i=>((vv i:Nat):Fin (aG m n e)) * ((vv i:Nat):Fin (aG m n e)) * (t w * bz (bX m n e) (fun i=>((dP (aG m n e) (cV m n e i:Nat):Int):Fin (aG m n e))) (lam (L.getD i 0)) (op m n (iv n (op m n) e w) e))) (aX m n e):=fun w hw=>by
    rw [← aK]; exact ai fun i hi=>by grind
   rw [ai e1,aU]
   refine aS fun i hi=>?_
   rw [aK,← C.w8 _ _ G.el,ho i hi e G.el]; grind
  rw [ba (i:=e) G.el fun w hw hwe=>by
   rw [hcol _ (G.cl _ _ (G.az hw) G.el),if_neg fun hh=>hwe (by rw [G.one_r _ (G.az hw)] at hh; rw [← G.cN hw,hh,G.gK])]; grind] at h1
  rw [G.gK,G.one_l e G.el,hcol e G.el,if_pos rfl,ht.one] at h1
  exact H.nz (by grind)
 have hr:(fi m n e).getD i []∈fi m n e:=aC (by rw [(eS h).2.2.1]; exact hi)
 have hrg:=((eS h).2.2.2.1 _ hr).2
 have h1:=hent i hi e G.el
 rw [(hch i hi).one] at h1
 have:=hle i hi
 refine HV R (hrg _) ⟨by omega,by omega⟩ ?_
 rw [R.eu]
 show (vc ((fi m n e).getD i []) (bX m n e e):Fin (aG m n e))=_
 rw [h1]; grind
end Go.Proofs.YtjlmpmidchddjaaDoor
namespace Go.Proofs.YtjlmpmidchddjaaDoor
open Lean.Grind
attribute [local instance] Lean.Grind.Semiring.natCast Lean.Grind.Ring.intCast
section
variable {n e c:Nat} {f:Nat→Nat→Nat} {cI xx:Nat→Nat} {K:Type} [CommRing K] {p:Nat}
theorem GC.Cr (h:GC n f e c cI xx) {y a b:Nat} (hy:y < n) (ha:a < n) (hb:b < n):f (bU n f e y a) (bU n f e y b)=bU n f e y (f a b):=by
 have G:=h.G
 have hi:=G.az hy
 unfold bU
 rw [G.assoc _ _ _ (G.cl _ _ hi ha) hy (G.cl _ _ (G.cl _ _ hi hb) hy),← G.assoc y _ y hy (G.cl _ _ hi hb) hy,h.pf hy hb,← G.assoc _ _ _ (G.cl _ _ hi ha) hb hy,G.assoc _ _ _ hi ha hb]
def pG (n:Nat) (f:Nat→Nat→Nat) (t:Nat→K):K:=sm (fun g=>t (f g g)) n
theorem GC.Iz (h:GC n f e c cI xx) (F:nr K) (hn:(n:K) ≠ 0) {t:Nat→K} (ht:kK n f e cI t) {x:Nat} (hx:x < n):sm (fun g=>t (f (f g g) x)) n=pG n f t * t x:=by
 have G:=h.G
 have e1:(n:K) * sm (fun g=>t (f (f g g) x)) n=(n:K) * (pG n f t * t x):=by
  have e2:∀ y,y < n→sm (fun g=>t (f (f g g) x)) n=sm (fun g=>t (f (bU n f e y (f g g)) x)) n:=fun y hy=>by
   rw [← h.CL hy fun g=>t (f (f g g) x)]
   exact ai fun g hg=>by rw [h.Cr hy hg hg]
  rw [← bQ,ai e2,aU]
  rw [ai (g:=fun g=>(n:K) * (t (f g g) * t x)) fun g hg=>ht.mul _ _ (G.cl _ _ hg hg) hx,aK,bI]
  rfl
 obtain ⟨ni,hni⟩:=F.1 _ hn
 grind
theorem GC.F7 (h:GC n f e c cI xx) (F:nr K) (hn:(n:K) ≠ 0) {t:Nat→K} (ht:kK n f e cI t):pG n f t * pG n f t=(n:K) * bY n f e t t e∨pG n f t=0:=by
 have G:=h.G
 have e1:pG n f t * pG n f t=(n:K) * sm (fun a=>t a * t a) n:=by
  have e2:∀ k,k < n→pG n f t * t (f k k)=sm (fun g=>t (f (f g g) (f k k))) n:=fun k hk=>(h.Iz F hn ht (G.cl _ _ hk hk)).symm
  have e3:pG n f t * pG n f t=sm (fun k=>sm (fun g=>t (f (f g g) (f k k))) n) n:=by
   rw [← ai e2,aK]; rfl
  rw [e3,aU]
  have e4:∀ g,g < n→sm (fun k=>t (f (f g g) (f k k))) n=sm (fun a=>t (f (bU n f e (iv n f e g) a) a)) n:=fun g hg=>by
   have hi:=G.az hg
   rw [← h.fu hi fun k=>t (f (f g g) (f k k))]
   refine ai fun a ha=>?_
   have:f (f g g) (f (f (iv n f e g) a) (f (iv n f e g) a))=f (bU n f e (iv n f e g) a) a:=by
    unfold bU
    rw [G.cN hg,G.assoc g g _ hg hg (G.cl _ _ (G.cl _ _ hi ha) (G.cl _ _ hi ha)),← G.assoc g (f (iv n f e g) a) _ hg (G.cl _ _ hi ha) (G.cl _ _ hi ha),h.pf hg ha,← G.assoc a (iv n f e g) a ha hi ha,← G.assoc g (f a (iv n f e g)) a hg (G.cl _ _ ha hi) ha,← G.assoc g a _ hg ha hi]
   rw [this]
  rw [ai e4,aU]
  have e5:∀ a,a < n→sm (fun g=>t (f (bU n f e (iv n f e g) a) a)) n=(n:K) * (t a * t a):=fun a ha=>by
   rw [h.w9 fun g=>t (f (bU n f e g a) a)]
   exact ht.mul a a ha ha
  rw [ai e5,aK]
 rcases h.real F hn ht with hr | hr
 ·left
  rw [e1]
  congr 1
  show _=sm (fun z=>t (f e z) * t (iv n f e z)) n
  exact ai fun z hz=>by rw [G.one_l z hz,← hr z hz]
 right
 have e2:sm (fun a=>t a * t a) n=0:=by
  rw [← hr]
  exact ai fun z hz=>by
   show _=t (f e z) * t (iv n f e (iv n f e z))
   rw [G.one_l z hz,G.cN hz]
 rw [e2] at e1
 have e3:pG n f t * pG n f t=0:=by rw [e1]; grind
 rcases F.mul e3 with h1 | h1<;>exact h1
theorem uB.ind (h:GC n f e c cI xx) (F:nr K) (hn:(n:K) ≠ 0) {tt:Nat→Nat→K} {vv:Nat→Nat} (A:uB K n f e c cI tt vv) {ni:K} (hni:(n:K) * ni=1) {i:Nat} (hi:i < c) :
  (vv i:K) * pG n f (tt i) * ni=0∨(vv i:K) * pG n f (tt i) * ni=1∨(vv i:K) * pG n f (tt i) * ni = -1:=by
 rcases h.F7 F hn (A.chr i hi) with h1 | h1
 ·right
  obtain ⟨_,h2⟩:=A.sq i hi
  have e1:((vv i:K) * pG n f (tt i) * ni - 1) * ((vv i:K) * pG n f (tt i) * ni + 1)=0:=by
   have e2:((vv i:K) * pG n f (tt i) * ni) * ((vv i:K) * pG n f (tt i) * ni)=1:=by
    have e3:(vv i:K) * vv i * (pG n f (tt i) * pG n f (tt i))=(n:K) * n:=by rw [h1]; grind
    grind
   grind
  rcases F.mul e1 with h3 | h3
  ·left; grind
  right; grind
 left; rw [h1]; grind
end
end Go.Proofs.YtjlmpmidchddjaaDoor
namespace Go.Proofs.YtjlmpmidchddjaaDoor
open Lean.Grind
attribute [local instance] Lean.Grind.Semiring.natCast Lean.Grind.Ring.intCast
section
variable {n e c:Nat} {f:Nat→Nat→Nat} {cI xx:Nat→Nat} {K:Type} [CommRing K] {p:Nat} {TT:List (List (List Int))} {io:Nat→K}
end
section
variable {n e c:Nat} {f:Nat→Nat→Nat} {cI xx:Nat→Nat} {K:Type} [CommRing K] {p:Nat}
theorem uB.lR (h:GC n f e c cI xx) (R:Rp K p) (h2n:2 * n < p) (hn0:(n:K) ≠ 0) {tt:Nat→Nat→K} {vv:Nat→Nat} (A:uB K n f e c cI tt vv) {i:Nat} (hi:i < c) (hv:vv i=1) {a b:Nat} (ha:a < n) (hb:b < n):tt i (f a b)=tt i a * tt i b:=by
 have G:=h.G
 have F:=R.fld
 obtain ⟨k,hk⟩:=A.Eo i hi
 have ht:=A.chr i hi
 have hs:=A.nz i hi
 have hq:=hk.sq
 rw [hv] at hk hq
 rw [Semiring.natCast_one] at hq
 obtain ⟨si,hsi⟩:=F.1 _ hs
 obtain ⟨w1,w2,w3,w4⟩:=h.Er F hn0 ht hsi
 have ke:cv n f e k (eB n si (tt i))=k:=(w4 k hk.W.1).1 hk.W
 have hTc:cv n f e (eB n si (tt i)) k=cv n f e k (eB n si (tt i)):=by
  rw [cU h (a':=fun x=>si * tt i x) (fun x hx=>fk si (tt i) hx) (b':=k) (fun _ _=>rfl),aR,h.HC ht.cl]
  rw [cU h (a:=k) (a':=k) (b:=eB n si (tt i)) (fun _ _=>rfl) (b':=fun x=>si * tt i x) (fun x hx=>fk si (tt i) hx),aO]
 have hdd:cv n f e (fun x=>eB n si (tt i) x + (-1) * k x) (fun x=>eB n si (tt i) x + (-1) * k x)=fun x=>eB n si (tt i) x + (-1) * k x:=by
  rw [bS (eB n si (tt i)) (fun x=>(-1) * k x),aR,cn (eB n si (tt i)) (eB n si (tt i)),cn k (eB n si (tt i)),aO,aO,w2,hTc,ke,hk.id]
  funext x; grind
 obtain ⟨r,r1,r2,r3⟩:=h.tL F hdd
 have hr0:r=0:=R.iP (p:=p) (by omega) (by have:=R.two; omega) (by
  have e1:=hk.rk
  rw [Semiring.natCast_one] at e1
  rw [← r2,w3,Semiring.natCast_zero]
  have e2:(n:K) * si=1:=by rw [← hq]; grind
  grind)
 have hek:∀ x,eB n si (tt i) x=k x:=fun x=>by
  have:=congrFun (r3 hr0) x
  grind
 have hiv:=G.az ha
 obtain ⟨l,hl⟩:=hk.one (dl K (iv n f e a))
 have e1:cv n f e k (cv n f e (dl K (iv n f e a)) k)=cv n f e (dl K (iv n f e a)) k:=by
  rw [← ke,cU h (a:=cv n f e k (eB n si (tt i))) (a':=eB n si (tt i)) (fun x _=>by rw [ke]; exact (hek x).symm) (b':=cv n f e (dl K (iv n f e a)) (cv n f e k (eB n si (tt i)))) (fun _ _=>rfl),ke]
  have e2:cv n f e (eB n si (tt i)) (cv n f e (dl K (iv n f e a)) k)=cv n f e (cv n f e (dl K (iv n f e a)) k) (eB n si (tt i)):=by
   rw [cU h (a':=fun x=>si * tt i x) (fun x hx=>fk si (tt i) hx) (b':=cv n f e (dl K (iv n f e a)) k) (fun _ _=>rfl),aR,h.HC ht.cl]
   rw [cU h (a:=cv n f e (dl K (iv n f e a)) k) (a':=cv n f e (dl K (iv n f e a)) k) (b:=eB n si (tt i)) (fun _ _=>rfl) (b':=fun x=>si * tt i x) (fun x hx=>fk si (tt i) hx),aO]
  rw [e2,h.fD,ke]
 rw [e1] at hl
 have hval:∀ x,x < n→tt i (f a x)=l * tt i x:=fun x hx=>by
  have h1:=congrFun hl x
  rw [h.lV k hiv hx,G.cN ha,← hek,← hek,fk _ _ (G.cl _ _ ha hx),fk _ _ hx] at h1
  have h2:bY n f e (tt i) (tt i) e * (si * tt i (f a x))=bY n f e (tt i) (tt i) e * (l * (si * tt i x)):=by rw [h1]
  grind
 have h0:=hval e G.el
 rw [G.one_r a ha,ht.one] at h0
 rw [hval b hb,h0]; grind
end
end Go.Proofs.YtjlmpmidchddjaaDoor
namespace Go.Proofs.YtjlmpmidchddjaaDoor
open Lean.Grind
attribute [local instance] Lean.Grind.Semiring.natCast Lean.Grind.Ring.intCast
section
variable {K:Type} [CommRing K]
theorem eT (a b:K):∀ k:Nat,(a * b) ^ k=a ^ k * b ^ k
 | 0=>by rw [Semiring.pow_zero,Semiring.pow_zero,Semiring.pow_zero]; grind
 | k + 1=>by rw [Semiring.pow_succ,Semiring.pow_succ,Semiring.pow_succ,eT a b k]; grind
theorem dO (a:K) (i:Nat):∀ j:Nat,a ^ (i + j)=a ^ i * a ^ j
 | 0=>by rw [Nat.add_zero,Semiring.pow_zero]; grind
 | j + 1=>by rw [← Nat.add_assoc,Semiring.pow_succ,Semiring.pow_succ,dO a i j]; grind
theorem fj (a:K) (i:Nat):∀ j:Nat,a ^ (i * j)=(a ^ i) ^ j
 | 0=>by rw [Nat.mul_zero,Semiring.pow_zero,Semiring.pow_zero]
 | j + 1=>by rw [Nat.mul_add,Nat.mul_one,dO,fj a i j,Semiring.pow_succ]
theorem bR:∀ k:Nat,(1:K) ^ k=1
 | 0=>Semiring.pow_zero _
 | k + 1=>by rw [Semiring.pow_succ,bR k]; grind
theorem BH (a:K):∀ m,a ^ m - 1=(a - 1) * sm (fun i=>a ^ i) m
 | 0=>by rw [Semiring.pow_zero]; show (1:K) - 1=(a - 1) * 0; grind
 | m + 1=>by
  have:=BH a m
  rw [Semiring.pow_succ,sm]
  grind
end
structure LR (R K:Type) [CommRing R] [CommRing K] (p N:Nat) (ρ:R→K):Prop where
 add:∀ a b,ρ (a + b)=ρ a + ρ b
 mul:∀ a b,ρ (a * b)=ρ a * ρ b
 one:ρ 1=1
 sur:∀ b,∃ a,ρ a=b
 rp:ρ (p:R)=0
 ker:∀ a,ρ a=0→∃ b,a=(p:R) * b
 ann:∀ m,m < N→∀ a:R,(p:R) ^ m * a=0→ρ a=0
 nil:(p:R) ^ N=0
 fld:nr K
section
variable {R K:Type} [CommRing R] [CommRing K] {p N n:Nat} {ρ:R→K}
theorem LR.zero (h:LR R K p N ρ):ρ 0=0:=by
 have:=h.add 0 0
 have e:(0:R) + 0=0:=by grind
 rw [e] at this
 grind
theorem LR.neg (h:LR R K p N ρ) (a:R):ρ (-a) = - ρ a:=by
 have:=h.add a (-a)
 have e:a + -a=0:=by grind
 rw [e,h.zero] at this
 grind
theorem LR.sub (h:LR R K p N ρ) (a b:R):ρ (a - b)=ρ a - ρ b:=by
 have e:a - b=a + -b:=by grind
 rw [e,h.add,h.neg]; grind
theorem LR.sm (h:LR R K p N ρ) (f:Nat→R):∀ m,ρ (Go.Proofs.YtjlmpmidchddjaaDoor.sm f m)=Go.Proofs.YtjlmpmidchddjaaDoor.sm (fun i=>ρ (f i)) m
 | 0=>h.zero
 | m + 1=>by show ρ (Go.Proofs.YtjlmpmidchddjaaDoor.sm f m + f m)=_; rw [h.add,h.sm f m]; rfl
theorem LR.pow (h:LR R K p N ρ) (a:R):∀ k:Nat,ρ (a ^ k)=ρ a ^ k
 | 0=>by rw [Semiring.pow_zero,Semiring.pow_zero,h.one]
 | k + 1=>by rw [Semiring.pow_succ,Semiring.pow_succ,h.mul,h.pow a k]
theorem LR.nat (h:LR R K p N ρ):∀ k:Nat,ρ ((k:Nat):R)=((k:Nat):K)
 | 0=>by rw [Semiring.natCast_zero,Semiring.natCast_zero,h.zero]
 | k + 1=>by rw [Semiring.natCast_add,Semiring.natCast_add,h.add,h.nat k,Semiring.natCast_one,Semiring.natCast_one,h.one]
theorem LR.unit (h:LR R K p N ρ) {a:R} (ha:ρ a ≠ 0):∃ b,a * b=1:=by
 obtain ⟨c,hc⟩:=h.fld.1 _ ha
 obtain ⟨b,rfl⟩:=h.sur c
 obtain ⟨w,hw⟩:=h.ker (a * b - 1) (by rw [h.sub,h.mul,hc,h.one]; grind)
 have hz:(-((p:R) * w)) ^ N=0:=by
  have e : -((p:R) * w)=(p:R) * (-w):=by grind
  rw [e,eT,h.nil]; grind
 have hg:=BH (-((p:R) * w)) N
 rw [hz] at hg
 refine ⟨b * Go.Proofs.YtjlmpmidchddjaaDoor.sm (fun i=>(-((p:R) * w)) ^ i) N,?_⟩
 grind
theorem LR.F2 (h:LR R K p N ρ) (hp:(p:K)=0) {a:R} (ha:ρ a=1):a ^ (p ^ N)=1:=by
 have key:∀ m:Nat,∃ b,a ^ (p ^ m) - 1=(p:R) ^ (m + 1) * b:=fun m=>by
  induction m with
  | zero =>
   obtain ⟨b,hb⟩:=h.ker (a - 1) (by rw [h.sub,ha,h.one]; grind)
   refine ⟨b,?_⟩
   rw [Nat.pow_zero,Semiring.pow_succ,Semiring.pow_zero,Semiring.pow_succ,Semiring.pow_zero]
   grind
  | succ m ih =>
   obtain ⟨b,hb⟩:=ih
   obtain ⟨x,hx⟩:∃ x,x=a ^ (p ^ m):=⟨_,rfl⟩
   have hρ:ρ x=1:=by rw [hx,h.pow,ha,bR]
   obtain ⟨s,hs⟩:=h.ker (Go.Proofs.YtjlmpmidchddjaaDoor.sm (fun i=>x ^ i) p) (by
    rw [h.sm,ai (g:=fun _=>(1:K)) fun i _=>by rw [h.pow,hρ,bR],bQ,hp]; grind)
   refine ⟨b * s,?_⟩
   rw [Nat.pow_succ,fj,← hx,BH x p,hs,Semiring.pow_succ _ (m + 1)]
   rw [← hx] at hb
   rw [hb]; grind
 obtain ⟨b,hb⟩:=key N
 rw [Semiring.pow_succ,h.nil] at hb
 grind
theorem AD {A:(Nat→R)→Nat→R} (hA:xq A) {q:Nat} {y:Nat→Nat→R} (h2:im y q) (h3:∀ i,i < q→ez n (y i)∧A (y i)=y i) (h4:∀ u,ez n u→∃ C:Nat→R,∀ k,A u k=Go.Proofs.YtjlmpmidchddjaaDoor.sm (fun i=>C i * y i k) q) :
  Go.Proofs.YtjlmpmidchddjaaDoor.sm (fun x=>A (dl R x) x) n=(q:R):=by
 have h5:∀ u,∃ C:Nat→R,ez n u→∀ k,A u k=Go.Proofs.YtjlmpmidchddjaaDoor.sm (fun i=>C i * y i k) q:=fun u=>by
  by_cases hu:ez n u
  ·obtain ⟨C,hC⟩:=h4 u hu
   exact ⟨C,fun _=>hC⟩
  exact ⟨fun _=>0,fun h=>absurd h hu⟩
 obtain ⟨φ,hφ⟩:=Classical.axiomOfChoice h5
 have e1:Go.Proofs.YtjlmpmidchddjaaDoor.sm (fun x=>A (dl R x) x) n=Go.Proofs.YtjlmpmidchddjaaDoor.sm (fun i=>Go.Proofs.YtjlmpmidchddjaaDoor.sm (fun x=>φ (dl R x) i * y i x) n) q:=by
  rw [← aU]
  exact ai fun x hx=>hφ _ (km hx) x
 rw [e1]
 have e2:∀ i,i < q→Go.Proofs.YtjlmpmidchddjaaDoor.sm (fun x=>φ (dl R x) i * y i x) n=1:=fun i hi=>by
  have e3:y i=fun k=>Go.Proofs.YtjlmpmidchddjaaDoor.sm (fun x=>y i x * dl R x k) n:=by
   funext k
   by_cases hk:k < n
   ·rw [ba hk fun x _ hne=>by unfold dl; rw [if_neg (fun e=>hne e.symm)]; grind]
    unfold dl; rw [if_pos rfl]; grind
   rw [(h3 i hi).1 k (by omega)]
   exact (aS fun x hx=>by unfold dl; rw [if_neg (by omega)]; grind).symm
  have e4:∀ k,Go.Proofs.YtjlmpmidchddjaaDoor.sm (fun j=>(if j=i then (1:R) else 0) * y j k) q=Go.Proofs.YtjlmpmidchddjaaDoor.sm (fun j=>Go.Proofs.YtjlmpmidchddjaaDoor.sm (fun x=>φ (dl R x) j * y i x) n * y j k) q:=fun k=>by
   rw [ba hi fun j _ hne=>by rw [if_neg hne]; grind,if_pos rfl]
   have e5:y i k=A (y i) k:=by rw [(h3 i hi).2]
   have e6:A (y i)=fun k=>Go.Proofs.YtjlmpmidchddjaaDoor.sm (fun x=>y i x * A (dl R x) k) n:=by
    rw [← hA.sm,← e3]
   have e7:Go.Proofs.YtjlmpmidchddjaaDoor.sm (fun x=>y i x * A (dl R x) k) n=Go.Proofs.YtjlmpmidchddjaaDoor.sm (fun x=>Go.Proofs.YtjlmpmidchddjaaDoor.sm (fun j=>φ (dl R x) j * y i x * y j k) q) n:=ai fun x hx=>by
    rw [hφ _ (km hx) k,← aK]; exact ai fun j _=>by grind
   have e8:Go.Proofs.YtjlmpmidchddjaaDoor.sm (fun j=>Go.Proofs.YtjlmpmidchddjaaDoor.sm (fun x=>φ (dl R x) j * y i x) n * y j k) q=Go.Proofs.YtjlmpmidchddjaaDoor.sm (fun j=>Go.Proofs.YtjlmpmidchddjaaDoor.sm (fun x=>φ (dl R x) j * y i x * y j k) n) q:=ai fun j _=>by rw [← bI]
   rw [e5,e6,e8,← aU,← e7]; grind
  have e9:=h2.HQ e4 i hi
  rw [if_pos rfl] at e9
  exact e9.symm
 rw [ai e2,bQ]; grind
theorem LR.Hg (h:LR R K p N ρ) {A:(Nat→R)→Nat→R} (hA:xq A) (hid:∀ u,ez n u→A (A u)=A u) (hs:∀ u,ez n (A u)):∃ v:Nat,v≤n∧Go.Proofs.YtjlmpmidchddjaaDoor.sm (fun x=>A (dl R x) x) n=(v:R):=by
 have hσ:=Classical.axiomOfChoice h.sur
 obtain ⟨σ,hσ⟩:=hσ
 have hP:gT fun v:Nat→K=>∃ u,ez n u∧∀ x,v x=ρ (A u x):=⟨⟨fun _=>0,ez.zero,fun x=>by rw [hA.zero,h.zero]⟩,fun a b ha hb=>by
  obtain ⟨u,u1,u2⟩:=ha
  obtain ⟨v,v1,v2⟩:=hb
  exact ⟨fun x=>u x + v x,u1.add v1,fun x=>by show a x + b x=_; rw [hA.1,u2,v2,h.add]⟩,fun k a ha=>by
  obtain ⟨u,u1,u2⟩:=ha
  exact ⟨fun x=>σ k * u x,u1.smul _,fun x=>by show k * a x=_; rw [hA.2,u2,h.mul,hσ]⟩⟩
 obtain ⟨q,y,h1,h2,h3,h4⟩:=HU h.fld hP (n:=n) fun v hv x hx=>by
  obtain ⟨u,u1,u2⟩:=hv
  rw [u2,hs u x hx,h.zero]
 have h5:∀ j,∃ u:Nat→R,j < q→ez n u∧∀ x,y j x=ρ (A u x):=fun j=>by
  by_cases hj:j < q
  ·obtain ⟨u,hu⟩:=h3 j hj; exact ⟨u,fun _=>hu⟩
  exact ⟨fun _=>0,fun hh=>absurd hh hj⟩
 obtain ⟨U,hU⟩:=Classical.axiomOfChoice h5
 have hY:∀ i,i < q→ez n (A (U i))∧A (A (U i))=A (U i):=fun i hi=>⟨hs _,hid _ (hU i hi).1⟩
 have hspan:∀ m:Nat,∀ u,ez n u→∃ (C:Nat→R) (u' : Nat→R),ez n u'∧∀ x,A u x=Go.Proofs.YtjlmpmidchddjaaDoor.sm (fun i=>C i * A (U i) x) q + (p:R) ^ m * A u' x:=fun m=>by
  induction m with
  | zero =>
   intro u hu
   refine ⟨fun _=>0,u,hu,fun x=>?_⟩
   rw [aS fun i _=>by grind,Semiring.pow_zero]; grind
  | succ m ih =>
   intro u hu
   obtain ⟨C,u',hu',hC⟩:=ih u hu
   obtain ⟨c,hc⟩:=h4 (fun x=>ρ (A u' x)) ⟨u',hu',fun x=>rfl⟩
   have hw:∀ x,∃ w:R,A u' x - Go.Proofs.YtjlmpmidchddjaaDoor.sm (fun i=>σ (c i) * A (U i) x) q=(p:R) * w:=fun x=>by
    refine h.ker _ ?_
    rw [h.sub,h.sm,hc x]
    rw [ai (g:=fun i=>ρ (σ (c i) * A (U i) x)) fun i hi=>by rw [h.mul,hσ,← (hU i hi).2 x]]
    grind
   obtain ⟨w,hw⟩:=Classical.axiomOfChoice hw
   let w' : Nat→R:=fun x=>if x < n then w x else 0
   have hws:ez n w':=fun x hx=>if_neg (by omega)
   have hAu:A u' = fun x=>(fun x=>Go.Proofs.YtjlmpmidchddjaaDoor.sm (fun i=>σ (c i) * A (U i) x) q) x + (fun x=>(p:R) * w' x) x:=by
    funext x
    by_cases hx:x < n
    ·have:=hw x
     show A u' x=Go.Proofs.YtjlmpmidchddjaaDoor.sm (fun i=>σ (c i) * A (U i) x) q + (p:R) * (if x < n then w x else 0)
     rw [if_pos hx,← this]; grind
    show A u' x=Go.Proofs.YtjlmpmidchddjaaDoor.sm (fun i=>σ (c i) * A (U i) x) q + (p:R) * (if x < n then w x else 0)
    rw [if_neg hx,hs u' x (by omega),aS fun i _=>by rw [hs (U i) x (by omega)]; grind]; grind
   have hAA:∀ x,A u' x=Go.Proofs.YtjlmpmidchddjaaDoor.sm (fun i=>σ (c i) * A (U i) x) q + (p:R) * A w' x:=fun x=>by
    have e1:A u' x=A (A u') x:=by rw [hid u' hu']
    rw [e1,hAu,hA.1,hA.2,hA.sm]
    show Go.Proofs.YtjlmpmidchddjaaDoor.sm (fun i=>σ (c i) * A (A (U i)) x) q + (p:R) * A w' x=_
    rw [ai fun i hi=>by rw [(hY i hi).2]]
   refine ⟨fun i=>C i + (p:R) ^ m * σ (c i),w',hws,fun x=>?_⟩
   rw [hC x,hAA x]
   have e2:Go.Proofs.YtjlmpmidchddjaaDoor.sm (fun i=>(C i + (p:R) ^ m * σ (c i)) * A (U i) x) q=Go.Proofs.YtjlmpmidchddjaaDoor.sm (fun i=>C i * A (U i) x) q + (p:R) ^ m * Go.Proofs.YtjlmpmidchddjaaDoor.sm (fun i=>σ (c i) * A (U i) x) q:=by
    rw [← aK,← iX]; exact ai fun i _=>by grind
   rw [e2,Semiring.pow_succ]; grind
 have hfree:∀ m:Nat,m≤N→∀ C:Nat→R,(∀ x,∃ w:R,Go.Proofs.YtjlmpmidchddjaaDoor.sm (fun i=>C i * A (U i) x) q=(p:R) ^ m * w)→∀ i,i < q→∃ D:R,C i=(p:R) ^ m * D:=fun m=>by
  induction m with
  | zero=>intro _ C _ i _; exact ⟨C i,by rw [Semiring.pow_zero]; grind⟩
  | succ m ih =>
   intro hm C hC i hi
   obtain ⟨w,hw⟩:=Classical.axiomOfChoice hC
   have h6:=ih (by omega) C fun x=>⟨(p:R) * w x,by rw [hw x,Semiring.pow_succ]; grind⟩
   have h7:∀ i,∃ D:R,i < q→C i=(p:R) ^ m * D:=fun i=>by
    by_cases hi:i < q
    ·obtain ⟨D,hD⟩:=h6 i hi; exact ⟨D,fun _=>hD⟩
    exact ⟨0,fun hh=>absurd hh hi⟩
   obtain ⟨D,hD⟩:=Classical.axiomOfChoice h7
   have h8:∀ x,Go.Proofs.YtjlmpmidchddjaaDoor.sm (fun i=>ρ (D i) * y i x) q=0:=fun x=>by
    have e1:(p:R) ^ m * (Go.Proofs.YtjlmpmidchddjaaDoor.sm (fun i=>D i * A (U i) x) q - (p:R) * w x)=0:=by
     have e2:Go.Proofs.YtjlmpmidchddjaaDoor.sm (fun i=>C i * A (U i) x) q=(p:R) ^ m * Go.Proofs.YtjlmpmidchddjaaDoor.sm (fun i=>D i * A (U i) x) q:=by
      rw [← aK]; exact ai fun i hi=>by rw [hD i hi]; grind
     have e3:=hw x
     rw [e2,Semiring.pow_succ] at e3
     grind
    have e4:=h.ann m (by omega) _ e1
    rw [h.sub,h.mul,h.rp,h.sm] at e4
    rw [ai (g:=fun i=>ρ (D i * A (U i) x)) fun i hi=>by rw [h.mul,← (hU i hi).2 x]]
    grind
   obtain ⟨E,hE⟩:=h.ker _ (h2 _ h8 i hi)
   exact ⟨E,by rw [hD i hi,hE,Semiring.pow_succ]; grind⟩
 refine ⟨q,h1,AD hA (y:=fun i=>A (U i)) (fun C hC j hj=>?_) hY fun u hu=>?_⟩
 ·obtain ⟨D,hD⟩:=hfree N (Nat.le_refl _) C (fun x=>⟨0,by rw [hC x]; grind⟩) j hj
  rw [hD,h.nil]; grind
 obtain ⟨C,u',_,hC⟩:=hspan N u hu
 exact ⟨C,fun x=>by rw [hC x,h.nil]; grind⟩
variable {e c:Nat} {f:Nat→Nat→Nat} {cI xx:Nat→Nat}
theorem LR.cv (h:LR R K p N ρ) (a b:Nat→R) (x:Nat):ρ (Go.Proofs.YtjlmpmidchddjaaDoor.cv n f e a b x)=Go.Proofs.YtjlmpmidchddjaaDoor.cv n f e (fun y=>ρ (a y)) (fun y=>ρ (b y)) x:=by
 unfold Go.Proofs.YtjlmpmidchddjaaDoor.cv
 split
 ·rw [h.sm]; exact ai fun y _=>h.mul _ _
 exact h.zero
theorem LR.idem (h:LR R K p N ρ) (C:GC n f e c cI xx) {k:Nat→K} (hk:ez n k) (hkk:Go.Proofs.YtjlmpmidchddjaaDoor.cv n f e k k=k):∀ m,∃ u w:Nat→R,ez n u∧(∀ x,ρ (u x)=k x)∧ez n w∧∀ x,Go.Proofs.YtjlmpmidchddjaaDoor.cv n f e u u x + (-1) * u x=(p:R) ^ (2 ^ m) * w x:=fun m=>by
 induction m with
 | zero =>
  obtain ⟨σ,hσ⟩:=Classical.axiomOfChoice h.sur
  let u:Nat→R:=fun x=>if x < n then σ (k x) else 0
  have hu:ez n u:=fun x hx=>if_neg (by omega)
  have hρ:∀ x,ρ (u x)=k x:=fun x=>by
   by_cases hx:x < n
   ·show ρ (if x < n then σ (k x) else 0)=k x
    rw [if_pos hx,hσ]
   rw [hu x (by omega),h.zero,hk x (by omega)]
  have hw:∀ x,∃ w:R,Go.Proofs.YtjlmpmidchddjaaDoor.cv n f e u u x + (-1) * u x=(p:R) * w:=fun x=>by
   refine h.ker _ ?_
   have e1:(fun y=>ρ (u y))=k:=funext hρ
   rw [h.add,h.mul,h.cv,e1,hkk,hρ,h.neg,h.one]; grind
  obtain ⟨w,hw⟩:=Classical.axiomOfChoice hw
  refine ⟨u,fun x=>if x < n then w x else 0,hu,hρ,fun x hx=>if_neg (by omega),fun x=>?_⟩
  rw [Nat.pow_zero,Semiring.pow_succ,Semiring.pow_zero]
  show _=1 * (p:R) * (if x < n then w x else 0)
  by_cases hx:x < n
  ·rw [if_pos hx,hw x]; grind
  rw [if_neg hx,bG u u x (by omega),hu x (by omega)]; grind
 | succ m ih =>
  obtain ⟨u,w,hu,hρ,hw,hE⟩:=ih
  obtain ⟨P,hP⟩:∃ P,P=(p:R) ^ (2 ^ m):=⟨_,rfl⟩
  rw [← hP] at hE
  have p1:pc n f e u 1=u:=C.EG hu
  have p2:pc n f e u 2=Go.Proofs.YtjlmpmidchddjaaDoor.cv n f e u u:=by show Go.Proofs.YtjlmpmidchddjaaDoor.cv n f e u (pc n f e u 1)=_; rw [p1]
  have hEE:(fun x=>pc n f e u 2 x + (-1) * pc n f e u 1 x)=fun x=>P * w x:=by funext x; rw [p1,p2]; exact hE x
  have hm:∀ i j,Go.Proofs.YtjlmpmidchddjaaDoor.cv n f e (pc n f e u i) (pc n f e u j)=pc n f e u (i + j):=fun i j=>(C.jf u j i).symm
  have hsq:(fun x=>pc n f e u 4 x + (-2) * pc n f e u 3 x + pc n f e u 2 x)=fun x=>P * (P * Go.Proofs.YtjlmpmidchddjaaDoor.cv n f e w w x):=by
   have e1:Go.Proofs.YtjlmpmidchddjaaDoor.cv n f e (fun x=>pc n f e u 2 x + (-1) * pc n f e u 1 x) (fun x=>pc n f e u 2 x + (-1) * pc n f e u 1 x)=fun x=>pc n f e u 4 x + (-2) * pc n f e u 3 x + pc n f e u 2 x:=by
    rw [bS (pc n f e u 2) (fun x=>(-1) * pc n f e u 1 x),aR,cn (pc n f e u 2) (pc n f e u 2),cn (pc n f e u 1) (pc n f e u 2),aO,aO,hm,hm,hm,hm]
    funext x; grind
   rw [← e1,hEE,aR,aO]
  have hs2:(fun x=>pc n f e u 6 x + (-2) * pc n f e u 5 x + pc n f e u 4 x)=fun x=>P * (P * Go.Proofs.YtjlmpmidchddjaaDoor.cv n f e (Go.Proofs.YtjlmpmidchddjaaDoor.cv n f e w w) (pc n f e u 2) x):=by
   have e1:Go.Proofs.YtjlmpmidchddjaaDoor.cv n f e (fun x=>pc n f e u 4 x + (-2) * pc n f e u 3 x + pc n f e u 2 x) (pc n f e u 2)=fun x=>pc n f e u 6 x + (-2) * pc n f e u 5 x + pc n f e u 4 x:=by
    rw [bS (fun x=>pc n f e u 4 x + (-2) * pc n f e u 3 x) (pc n f e u 2),bS (pc n f e u 4) (fun x=>(-2) * pc n f e u 3 x),aR,hm,hm,hm]
   rw [← e1,hsq,aR,aR]
  have hs1:(fun x=>pc n f e u 5 x + (-2) * pc n f e u 4 x + pc n f e u 3 x)=fun x=>P * (P * Go.Proofs.YtjlmpmidchddjaaDoor.cv n f e (Go.Proofs.YtjlmpmidchddjaaDoor.cv n f e w w) (pc n f e u 1) x):=by
   have e1:Go.Proofs.YtjlmpmidchddjaaDoor.cv n f e (fun x=>pc n f e u 4 x + (-2) * pc n f e u 3 x + pc n f e u 2 x) (pc n f e u 1)=fun x=>pc n f e u 5 x + (-2) * pc n f e u 4 x + pc n f e u 3 x:=by
    rw [bS (fun x=>pc n f e u 4 x + (-2) * pc n f e u 3 x) (pc n f e u 2),bS (pc n f e u 4) (fun x=>(-2) * pc n f e u 3 x),aR,hm,hm,hm]
   rw [← e1,hsq,aR,aR]
  refine ⟨fun x=>3 * pc n f e u 2 x + (-2) * pc n f e u 3 x,fun x=>4 * Go.Proofs.YtjlmpmidchddjaaDoor.cv n f e (Go.Proofs.YtjlmpmidchddjaaDoor.cv n f e w w) (pc n f e u 2) x + (-4) * Go.Proofs.YtjlmpmidchddjaaDoor.cv n f e (Go.Proofs.YtjlmpmidchddjaaDoor.cv n f e w w) (pc n f e u 1) x + (-3) * Go.Proofs.YtjlmpmidchddjaaDoor.cv n f e w w x,fun x hx=>?_,fun x=>?_,fun x hx=>?_,fun x=>?_⟩
  ·show 3 * pc n f e u 2 x + (-2) * pc n f e u 3 x=0
   rw [C.rm u 2 x hx,C.rm u 3 x hx]; grind
  ·have e1:(fun y=>ρ (u y))=k:=funext hρ
   have e2:∀ x,ρ (pc n f e u 2 x)=k x:=fun x=>by rw [p2,h.cv,e1,hkk]
   have e3:∀ x,ρ (pc n f e u 3 x)=k x:=fun x=>by
    show ρ (Go.Proofs.YtjlmpmidchddjaaDoor.cv n f e u (pc n f e u 2) x)=k x
    rw [h.cv,e1,show (fun y=>ρ (pc n f e u 2 y))=k from funext e2,hkk]
   rw [h.add,h.mul,h.mul,e2,e3]
   have e4:ρ (3:R)=3:=by
    have:(3:R)=1 + 1 + 1:=by grind
    rw [this,h.add,h.add,h.one]; grind
   have e5:ρ (-2:R) = -2:=by
    have:(-2:R) = -(1 + 1):=by grind
    rw [this,h.neg,h.add,h.one]; grind
   rw [e4,e5]; grind
  ·show 4 * Go.Proofs.YtjlmpmidchddjaaDoor.cv n f e (Go.Proofs.YtjlmpmidchddjaaDoor.cv n f e w w) (pc n f e u 2) x + (-4) * Go.Proofs.YtjlmpmidchddjaaDoor.cv n f e (Go.Proofs.YtjlmpmidchddjaaDoor.cv n f e w w) (pc n f e u 1) x + (-3) * Go.Proofs.YtjlmpmidchddjaaDoor.cv n f e w w x=0
   rw [bG _ _ x hx,bG _ _ x hx,bG _ _ x hx]; grind
  have e1:Go.Proofs.YtjlmpmidchddjaaDoor.cv n f e (fun x=>3 * pc n f e u 2 x + (-2) * pc n f e u 3 x) (fun x=>3 * pc n f e u 2 x + (-2) * pc n f e u 3 x)=fun x=>9 * pc n f e u 4 x + (-12) * pc n f e u 5 x + 4 * pc n f e u 6 x:=by
   rw [bS (fun x=>3 * pc n f e u 2 x) (fun x=>(-2) * pc n f e u 3 x),aR,aR,cn (pc n f e u 2) (fun x=>3 * pc n f e u 2 x),cn (pc n f e u 3) (fun x=>3 * pc n f e u 2 x),aO,aO,aO,aO,hm,hm,hm,hm]
   funext x; grind
  have a0:=congrFun hsq x
  have a1:=congrFun hs1 x
  have a2:=congrFun hs2 x
  have a0:pc n f e u 4 x + (-2) * pc n f e u 3 x + pc n f e u 2 x=P * (P * Go.Proofs.YtjlmpmidchddjaaDoor.cv n f e w w x):=a0
  have a1:pc n f e u 5 x + (-2) * pc n f e u 4 x + pc n f e u 3 x=P * (P * Go.Proofs.YtjlmpmidchddjaaDoor.cv n f e (Go.Proofs.YtjlmpmidchddjaaDoor.cv n f e w w) (pc n f e u 1) x):=a1
  have a2:pc n f e u 6 x + (-2) * pc n f e u 5 x + pc n f e u 4 x=P * (P * Go.Proofs.YtjlmpmidchddjaaDoor.cv n f e (Go.Proofs.YtjlmpmidchddjaaDoor.cv n f e w w) (pc n f e u 2) x):=a2
  rw [congrFun e1 x]
  have e2:(p:R) ^ (2 ^ (m + 1))=P * P:=by rw [hP,Nat.pow_succ,Nat.mul_two,dO]
  rw [e2]
  show 9 * pc n f e u 4 x + (-12) * pc n f e u 5 x + 4 * pc n f e u 6 x + (-1) * (3 * pc n f e u 2 x + (-2) * pc n f e u 3 x)=_
  grind
end
section
variable {p:Nat} [NeZero p] [NeZero (p ^ 8)]
def GN (p:Nat) [NeZero p] (a:Fin (p ^ 8)):Fin p:=((a.val:Nat):Fin p)
theorem Gc (P:PG p):LR (Fin (p ^ 8)) (Fin p) p 8 (GN p):=by
 have hp:=P.three
 have R:=Dg P
 have hdv:p ∣ p ^ 8:=⟨p ^ 7,by rw [Nat.pow_succ,Nat.mul_comm]⟩
 have hpos:1 < p ^ 8:=Nat.lt_of_lt_of_le (show 1 < p by omega) (Nat.le_of_dvd (Nat.pow_pos (by omega)) hdv)
 have hcast:∀ x:Nat,GN p ((x:Nat):Fin (p ^ 8))=((x:Nat):Fin p):=fun x=>by
  refine w5 ?_
  show x % p ^ 8 % p=x % p
  exact Nat.mod_mod_of_dvd x hdv
 have hval:∀ a:Fin (p ^ 8),((a.val:Nat):Fin (p ^ 8))=a:=fun a=>Fin.ext (Nat.mod_eq_of_lt a.isLt)
 refine ⟨fun a b=>?_,fun a b=>?_,?_,fun b=>?_,?_,fun a ha=>?_,fun m hm a ha=>?_,?_,R.fld⟩
 ·have e:a + b=((a.val + b.val:Nat):Fin (p ^ 8)):=by rw [Semiring.natCast_add,hval,hval]
  rw [e,hcast,Semiring.natCast_add]; rfl
 ·have e:a * b=((a.val * b.val:Nat):Fin (p ^ 8)):=by rw [Semiring.natCast_mul,hval,hval]
  rw [e,hcast,Semiring.natCast_mul]; rfl
 ·have e:(1:Fin (p ^ 8))=((1:Nat):Fin (p ^ 8)):=Semiring.natCast_one.symm
  rw [e,hcast,Semiring.natCast_one]
 ·obtain ⟨x,_,rfl⟩:=sU b
  exact ⟨((x:Nat):Fin (p ^ 8)),hcast x⟩
 ·rw [hcast]; exact R.ch
 ·have h1:a.val % p=0:=(fz a.val).1 ha
  obtain ⟨q,hq⟩:=Nat.dvd_of_mod_eq_zero h1
  exact ⟨((q:Nat):Fin (p ^ 8)),by rw [← Semiring.natCast_mul,← hq,hval]⟩
 ·have e:((p:Nat):Fin (p ^ 8)) ^ m * a=((p ^ m * a.val:Nat):Fin (p ^ 8)):=by rw [Semiring.natCast_mul,Semiring.natCast_pow,hval]
  rw [e] at ha
  have h1:p ^ 8 ∣ p ^ m * a.val:=Nat.dvd_of_mod_eq_zero ((fz (p:=p ^ 8) _).1 ha)
  have h2:p ^ 8=p ^ m * p ^ (8 - m):=by rw [← Nat.pow_add]; congr 1; omega
  obtain ⟨av,hav⟩:∃ av:Nat,av=a.val:=⟨_,rfl⟩
  rw [← hav,h2] at h1
  have h3:p ^ (8 - m) ∣ a.val:=by rw [← hav]; exact Nat.dvd_of_mul_dvd_mul_left (Nat.pow_pos (by omega)) h1
  have h4:p ∣ a.val:=Nat.dvd_trans ⟨p ^ (8 - m - 1),by rw [← Nat.pow_succ']; congr 1; omega⟩ h3
  exact (fz a.val).2 (Nat.mod_eq_zero_of_dvd h4)
 rw [← Semiring.natCast_pow]; exact (fz (p:=p ^ 8) _).2 (Nat.mod_self _)
end
end Go.Proofs.YtjlmpmidchddjaaDoor
namespace Go.Proofs.YtjlmpmidchddjaaDoor
end Go.Proofs.YtjlmpmidchddjaaDoor
namespace Go.Proofs.YtjlmpmidchddjaaDoor
open Lean.Grind
attribute [local instance] Lean.Grind.Semiring.natCast Lean.Grind.Ring.intCast
section
variable {n e c:Nat} {f:Nat→Nat→Nat} {cI xx:Nat→Nat} {K:Type} [CommRing K] {p:Nat}
theorem vK {g:Nat→Nat} {B:Nat} : ∀ {m:Nat},(∀ i,i < m→g i≤B)→sn g m≤m * B
 | 0,_=>by rw [Nat.zero_mul]; exact Nat.le_refl _
 | m + 1,h=>by
  have h1:=vK (m:=m) fun i hi=>h i (by omega)
  have h2:=h m (by omega)
  rw [sn,Nat.add_mul,Nat.one_mul]; omega
theorem og {g g' : Nat→Nat} : ∀ {m:Nat},(∀ i,i < m→g i=g' i)→sn g m=sn g' m
 | 0,_=>rfl
 | m + 1,h=>by rw [sn,sn,og fun i hi=>h i (by omega),h m (by omega)]
theorem rE (g:Nat→Nat) (v:Nat):∀ m,sn (fun i=>g i * v) m=sn g m * v
 | 0=>by rw [sn,sn,Nat.zero_mul]
 | m + 1=>by rw [sn,sn,rE g v m,Nat.add_mul]
end
end Go.Proofs.YtjlmpmidchddjaaDoor
namespace Go.Proofs.YtjlmpmidchddjaaDoor
open Lean.Grind
attribute [local instance] Lean.Grind.Semiring.natCast Lean.Grind.Ring.intCast
variable {n e:Nat} {m:List Int}
section
variable {K:Type} [CommRing K] {p:Nat}
end
section
variable {c:Nat} {cI xx:Nat→Nat} {f:Nat→Nat→Nat} {K:Type} [CommRing K] {p:Nat}
end
end Go.Proofs.YtjlmpmidchddjaaDoor
namespace Go.Proofs.YtjlmpmidchddjaaDoor
open Go.Pv
section
variable {n n' e e' : Nat} {f f' : Nat→Nat→Nat}
end
end Go.Proofs.YtjlmpmidchddjaaDoor
namespace Go.Proofs.YtjlmpmidchddjaaDoor
open Lean.Grind
attribute [local instance] Lean.Grind.Semiring.natCast Lean.Grind.Ring.intCast
section
variable {K:Type} [CommRing K]
theorem vX (g:Nat→Nat):∀ m,sn g m=((List.range m).map g).sum
 | 0=>rfl
 | m + 1=>by rw [List.range_succ,List.map_append,List.sum_append,← vX g m]; simp [sn]
end
section
variable {n e c n' e' c' c'' : Nat} {f f' f'' : Nat→Nat→Nat} {cI xx cI' xx' cI'' xx'' : Nat→Nat} {K:Type} [CommRing K] {p:Nat}
end
end Go.Proofs.YtjlmpmidchddjaaDoor
namespace Go.Proofs.YtjlmpmidchddjaaDoor
open Lean.Grind
attribute [local instance] Lean.Grind.Semiring.natCast Lean.Grind.Ring.intCast
def mq (q:Nat):Prop:=2≤q∧∀ d,d ∣ q→d=1∨d=q
theorem v8 {E x y:Nat} (h:x % E=y % E) (hl:x≤y):E ∣ y - x:=by
 have e1:=Nat.mod_add_div x E
 have e2:=Nat.mod_add_div y E
 refine ⟨y / E - x / E,?_⟩
 rw [Nat.mul_sub]
 omega
theorem mq.He {q m:Nat} (h:mq q) (hm:¬ q ∣ m):Nat.Coprime q m:=by
 rcases h.2 (Nat.gcd q m) (Nat.gcd_dvd_left _ _) with h1 | h1
 ·exact h1
 exact absurd (by rw [← h1]; exact Nat.gcd_dvd_right _ _) hm
theorem vb {q m:Nat} (h:Nat.Coprime q m) (h2:2≤q):∃ i,m * i % q=1:=by
 have hnd:((List.range q).map fun i=>m * i % q).Nodup:=by
  rw [List.Nodup,List.pairwise_map]
  refine List.Pairwise.imp_of_mem (R:=fun i j=>i < j) (fun {i j} hi hj hij he=>?_) List.pairwise_lt_range
  have hj:=List.mem_range.1 hj
  have h3:q ∣ m * j - m * i:=v8 he (Nat.mul_le_mul_left m (by omega))
  rw [← Nat.mul_sub] at h3
  have h4:=h.dvd_of_dvd_mul_left h3
  have:=Nat.le_of_dvd (by omega) h4
  omega
 have hp:=eh (l':=List.range q) hnd (fun x hx=>by
  obtain ⟨i,_,rfl⟩:=List.mem_map.1 hx
  exact List.mem_range.2 (Nat.mod_lt _ (by omega))) (by simp)
 obtain ⟨i,_,hi⟩:=List.mem_map.1 (hp.mem_iff.2 (List.mem_range.2 (show 1 < q by omega)))
 exact ⟨i,hi⟩
theorem wC {q:Nat} (h:mq q):∀ l:List Nat,(∀ x∈l,mq x∧x ≠ q)→¬ q ∣ l.foldr (· * ·) 1
 | [],_,hd=>by have:=Nat.dvd_one.1 hd; have:=h.1; omega
 | x :: l,hl,hd=>by
  have hx:=hl x (by simp)
  have hc:Nat.Coprime q x:=h.He fun hdx=>by
   rcases hx.1.2 q hdx with h1 | h1
   ·have:=h.1; omega
   exact hx.2 h1.symm
  exact wC h l (fun y hy=>hl y (by simp [hy])) (hc.dvd_of_dvd_mul_left hd)
section
variable {E:Nat}
def tX (E:Nat) (a:Nat→Int):Prop:=∀ l,a (l + E)=a l
def fy (x:Nat) (a:Nat→Int) (l:Nat):Int:=a l - a (l + x)
theorem tX.mul {a:Nat→Int} (h:tX E a) (l:Nat):∀ t,a (l + t * E)=a l
 | 0=>by rw [Nat.zero_mul]; rfl
 | t + 1=>by rw [Nat.add_mul,Nat.one_mul,← Nat.add_assoc,h,h.mul l t]
theorem tX.mod {a:Nat→Int} (h:tX E a) {l l' : Nat} (he:l % E=l' % E):a l=a l':=by
 have e1:l=l % E + l / E * E:=by rw [Nat.mul_comm]; exact (Nat.mod_add_div l E).symm
 have e2:l' = l' % E + l' / E * E:=by rw [Nat.mul_comm]; exact (Nat.mod_add_div l' E).symm
 rw [e1,e2,h.mul,h.mul,he]
theorem tX.fy {a:Nat→Int} (h:tX E a) (x:Nat):tX E (fy x a):=fun l=>by
 unfold Go.Proofs.YtjlmpmidchddjaaDoor.fy
 rw [h,show l + E + x=l + x + E by omega,h]
def UU (E:Nat):List Nat→(Nat→Int)→Nat
 | [],a=>sn (fun l=>(a l).natAbs * (a l).natAbs) E
 | q :: qs,a=>sn (fun m=>UU E qs (fy ((m + 1) * (E / q)) a)) (q - 1)
def WW (E:Nat):List Nat→(Nat→Int)→Prop
 | [],a=>∀ l,a l=0
 | q :: qs,a=>WW E qs (fy (E / q) a)
theorem WW.zero:∀ qs,WW E qs fun _=>0
 | []=>fun _=>rfl
 | q :: qs=>by
  show WW E qs (fy (E / q) fun _=>0)
  have:fy (E / q) (fun _=>0)=fun _=>0:=funext fun l=>by show (0:Int) - 0=0; omega
  rw [this]; exact WW.zero qs
theorem WW.add:∀ {qs:List Nat} {a b:Nat→Int},WW E qs a→WW E qs b→WW E qs fun l=>a l + b l
 | [],a,b,ha,hb=>fun l=>by show a l + b l=0; rw [ha l,hb l]; rfl
 | q :: qs,a,b,ha,hb=>by
  show WW E qs (fy (E / q) fun l=>a l + b l)
  have:(fy (E / q) fun l=>a l + b l)=fun l=>fy (E / q) a l + fy (E / q) b l:=funext fun l=>by show a l + b l - (a (l + E / q) + b (l + E / q))=a l - a (l + E / q) + (b l - b (l + E / q)); omega
  rw [this]
  exact WW.add (qs:=qs) ha hb
theorem WW.Ii (x:Nat):∀ {qs:List Nat} {a:Nat→Int},WW E qs a→WW E qs fun l=>a (l + x)
 | [],a,ha=>fun l=>ha _
 | q :: qs,a,ha=>by
  show WW E qs (fy (E / q) fun l=>a (l + x))
  have:(fy (E / q) fun l=>a (l + x))=fun l=>fy (E / q) a (l + x):=funext fun l=>by
   show a (l + x) - a (l + E / q + x)=a (l + x) - a (l + x + E / q)
   rw [show l + E / q + x=l + x + E / q by omega]
  rw [this]
  exact WW.Ii x (qs:=qs) ha
theorem WW.mul {qs:List Nat} {a:Nat→Int} {x:Nat} (h:WW E qs (fy x a)):∀ j,WW E qs (fy (j * x) a)
 | 0=>by
  have:fy (0 * x) a=fun _=>0:=funext fun l=>by unfold fy; rw [Nat.zero_mul,Nat.add_zero]; omega
  rw [this]; exact WW.zero qs
 | j + 1=>by
  have:fy ((j + 1) * x) a=fun l=>fy (j * x) a l + fy x a (l + j * x):=funext fun l=>by
   unfold fy
   rw [show l + (j + 1) * x=l + j * x + x by rw [Nat.add_mul]; omega]; omega
  rw [this]
  exact (h.mul j).add (h.Ii (j * x))
theorem WW.back {qs:List Nat} {a:Nat→Int} (ha:tX E a) {q m:Nat} (hq:mq q) (hqE:q ∣ E) (hm:¬ q ∣ m) (h:WW E qs (fy (m * (E / q)) a)):WW E qs (fy (E / q) a):=by
 obtain ⟨i,hi⟩:=vb (hq.He hm) hq.1
 have h1:=h.mul i
 have e1:i * (m * (E / q))=E / q + m * i / q * E:=by
  have e2:m * i=1 + m * i / q * q:=by
   have:=Nat.mod_add_div (m * i) q
   rw [hi,Nat.mul_comm] at this
   exact this.symm
  rw [← Nat.mul_assoc,Nat.mul_comm i m,e2,Nat.add_mul,Nat.one_mul,Nat.mul_assoc,Nat.mul_div_cancel' hqE,← e2]
 have e3:fy (i * (m * (E / q))) a=fy (E / q) a:=funext fun l=>by
  unfold fy
  rw [e1,← Nat.add_assoc,ha.mul]
 rwa [e3] at h1
def Fu (E q:Nat) (a:Nat→Int):Prop:=∀ l,sm (fun i=>a (l + i * (E / q))) q=0
theorem q7 {K:Type} [CommRing K] {g:Nat→K} {E:Nat} (h:∀ l,g (l + E)=g l):∀ x,sm (fun l=>g (l + x)) E=sm g E
 | 0=>rfl
 | x + 1=>by
  rw [← q7 h x]
  have key:∀ m,sm (fun l=>g (l + (x + 1))) m + g x=sm (fun l=>g (l + x)) m + g (m + x):=fun m=>by
   induction m with
   | zero =>
    show (0:K) + g x=0 + g (0 + x)
    rw [Nat.zero_add]
   | succ m ih =>
    have e:m + 1 + x=m + (x + 1):=by omega
    rw [sm,sm,e]
    have:=ih
    grind
  have:=key E
  rw [show E + x=x + E by omega,h x] at this
  grind
theorem Fu.fy {a:Nat→Int} {q:Nat} (h:Fu E q a) (x:Nat):Fu E q (fy x a):=fun l=>by
 have e:(fun i=>Go.Proofs.YtjlmpmidchddjaaDoor.fy x a (l + i * (E / q)))=fun i=>a (l + i * (E / q)) - a (l + x + i * (E / q)):=funext fun i=>by
  unfold Go.Proofs.YtjlmpmidchddjaaDoor.fy
  rw [show l + i * (E / q) + x=l + x + i * (E / q) by omega]
 rw [e,jc,h,h]; rfl
theorem CO {a:Nat→Int} (ha:tX E a) {q:Nat} (hqE:q ∣ E) (m:Nat):Fu E q (fy (m * (E / q)) a):=fun l=>by
 have e:(fun i=>fy (m * (E / q)) a (l + i * (E / q)))=fun i=>a (l + i * (E / q)) - a (l + (i + m) * (E / q)):=funext fun i=>by
  unfold fy
  rw [Nat.add_mul,← Nat.add_assoc]
 have hper:∀ i,(fun i=>a (l + i * (E / q))) (i + q)=(fun i=>a (l + i * (E / q))) i:=fun i=>by
  show a (l + (i + q) * (E / q))=a (l + i * (E / q))
  rw [Nat.add_mul,Nat.mul_div_cancel' hqE,← Nat.add_assoc,ha]
 have h1:=q7 (K:=Int) (g:=fun i=>a (l + i * (E / q))) (E:=q) hper m
 rw [e,jc]
 have h2:sm (fun i=>a (l + (i + m) * (E / q))) q=sm (fun i=>a (l + i * (E / q))) q:=h1
 rw [h2]; omega
def uw (l:List Nat):Nat:=l.foldr (· * ·) 1
theorem many:∀ {qs:List Nat},(∀ q∈qs,mq q∧q ∣ E)→qs.Nodup→∀ {b:Nat→Int},tX E b→(∀ q∈qs,Fu E q b)→∀ {l0:Nat},b l0 ≠ 0→0 < E →
  ∃ L:List Nat,L.length=2 ^ qs.length∧(L.map (· % E)).Nodup∧∀ l∈L,b l ≠ 0∧uw qs * l % E=uw qs * l0 % E
 | [],_,_,b,_,_,l0,h0,_=>⟨[l0],rfl,by simp,fun l hl=>by
  rw [List.mem_singleton] at hl
  subst hl
  exact ⟨h0,rfl⟩⟩
 | q :: qs,hq,hn,b,hb,hz,l0,h0,hE=>by
  obtain ⟨hq1,hq2⟩:=hq q (by simp)
  have hn1:=(List.nodup_cons.1 hn).1
  have hn2:=(List.nodup_cons.1 hn).2
  have hq' : ∀ x∈qs,mq x∧x ∣ E:=fun x hx=>hq x (by simp [hx])
  have hz' : ∀ x∈qs,Fu E x b:=fun x hx=>hz x (by simp [hx])
  have hq0:0 < q:=by have:=hq1.1; omega
  obtain ⟨L1,a1,a2,a3⟩:=many hq' hn2 hb hz' h0 hE
  have hex:∃ i,1≤i∧i < q∧b (l0 + i * (E / q)) ≠ 0:=Classical.byContradiction fun hno=>by
   have h1:=hz q (by simp) l0
   rw [ba (i:=0) hq0 fun i hi hi0=>Classical.byContradiction fun hc=>hno ⟨i,by omega,hi,hc⟩,Nat.zero_mul,Nat.add_zero] at h1
   exact h0 h1
  obtain ⟨i,i1,i2,i3⟩:=hex
  obtain ⟨L2,b1,b2,b3⟩:=many hq' hn2 hb hz' i3 hE
  refine ⟨L1++L2,by rw [List.length_append,a1,b1,List.length_cons,Nat.pow_succ]; omega,?_,fun l hl=>?_⟩
  ·rw [List.map_append,List.nodup_append]
   refine ⟨a2,b2,fun x hx y hy hxy=>?_⟩
   obtain ⟨u,hu,rfl⟩:=List.mem_map.1 hx
   obtain ⟨v,hv,hvu⟩:=List.mem_map.1 hy
   have huv:u % E=v % E:=by rw [hxy]; exact hvu.symm
   have c1:=(a3 u hu).2
   have c2:=(b3 v hv).2
   have c3:uw qs * u % E=uw qs * v % E:=by rw [Nat.mul_mod,huv,← Nat.mul_mod]
   rw [c1,c2] at c3
   have c4:E ∣ uw qs * (l0 + i * (E / q)) - uw qs * l0:=v8 c3 (Nat.mul_le_mul_left _ (by omega))
   rw [← Nat.mul_sub,show l0 + i * (E / q) - l0=i * (E / q) by omega,← Nat.mul_assoc] at c4
   obtain ⟨h',hh'⟩:=hq2
   have hdq:E / q=h':=by rw [hh',Nat.mul_div_cancel_left _ hq0]
   have hh0:0 < h':=Nat.pos_of_ne_zero fun h0=>by rw [h0,Nat.mul_zero] at hh'; omega
   rw [hdq] at c4
   have c5:q * h' ∣ uw qs * i * h':=by rw [← hh']; exact c4
   have c6:q ∣ uw qs * i:=Nat.dvd_of_mul_dvd_mul_right hh0 c5
   have c7:Nat.Coprime q (uw qs):=hq1.He (wC hq1 qs fun x hx=>⟨(hq' x hx).1,fun he=>hn1 (by rw [← he]; exact hx)⟩)
   have c8:=Nat.le_of_dvd (by omega) (c7.dvd_of_dvd_mul_left c6)
   omega
  have hpq:uw (q :: qs)=q * uw qs:=rfl
  rw [hpq]
  rcases List.mem_append.1 hl with h1 | h1
  ·refine ⟨(a3 l h1).1,?_⟩
   rw [Nat.mul_assoc,Nat.mul_mod,(a3 l h1).2,← Nat.mul_mod,← Nat.mul_assoc]
  refine ⟨(b3 l h1).1,?_⟩
  rw [Nat.mul_assoc,Nat.mul_mod,(b3 l h1).2,← Nat.mul_mod,← Nat.mul_assoc,Nat.mul_add]
  have e1:q * uw qs * (i * (E / q))=uw qs * i * E:=by
   have:q * (E / q)=E:=Nat.mul_div_cancel' hq2
   rw [show q * uw qs * (i * (E / q))=uw qs * i * (q * (E / q)) by simp only [Nat.mul_assoc,Nat.mul_comm,Nat.mul_left_comm],this]
  rw [e1,Nat.add_mul_mod_self_right]
theorem BS {L:List Nat} {B:Nat} {g:Nat→Nat} (hn:L.Nodup) (hL:∀ l∈L,l < B∧1≤g l):L.length≤sn g B:=by
 obtain ⟨L2,hL2⟩:∃ L2,L2=(List.range B).filter fun l=>decide (l ∉ L):=⟨_,rfl⟩
 have hn2:(L++L2).Nodup:=by
  rw [List.nodup_append]
  refine ⟨hn,by rw [hL2]; exact List.nodup_range.filter _,fun a ha b hb hab=>?_⟩
  subst hab
  rw [hL2,List.mem_filter] at hb
  exact absurd ha (by simpa using hb.2)
 have hm:∀ y,y∈L++L2↔y∈List.range B:=fun y=>by
  rw [List.mem_append,hL2,List.mem_filter,List.mem_range]
  constructor
  ·rintro (h | h)
   ·exact (hL y h).1
   exact h.1
  intro h
  by_cases hy:y∈L
  ·exact .inl hy
  exact .inr ⟨h,by simpa using hy⟩
 have hlen:(L++L2).length=(List.range B).length:=gm hn2 List.nodup_range hm
 have hP:(L++L2).Perm (List.range B):=eh hn2 (fun x hx=>(hm x).1 hx) (by omega)
 rw [vX g B,← (hP.map g).sum_nat,List.map_append,List.sum_append]
 have:∀ l:List Nat,(∀ x∈l,1≤g x)→l.length≤(l.map g).sum:=fun l=>by
  induction l with
  | nil=>intro _; exact Nat.le_refl _
  | cons x l ih =>
   intro h
   have:=ih fun y hy=>h y (by simp [hy])
   have:=h x (by simp)
   rw [List.map_cons,List.sum_cons,List.length_cons]; omega
 have:=this L fun x hx=>(hL x hx).2
 omega
def qH (qs:List Nat):Nat:=qs.foldr (fun q r=>(q - 1) * r) 1
theorem DC (hE:0 < E):∀ {qs Q:List Nat},(∀ q∈qs,mq q∧q ∣ E)→(∀ q∈Q,mq q∧q ∣ E)→(qs++Q).Nodup→∀ {a:Nat→Int},tX E a→(∀ q∈Q,Fu E q a)→¬ WW E qs a→2 ^ (qs.length + Q.length) * qH qs≤UU E qs a
 | [],Q,_,hQ,hn,a,ha,hz,hw=>by
  have hex:∃ l0,a l0 ≠ 0:=Classical.byContradiction fun hno=>hw fun l=>Classical.byContradiction fun hc=>hno ⟨l,hc⟩
  obtain ⟨l0,h0⟩:=hex
  obtain ⟨L,a1,a2,a3⟩:=many hQ (by simpa using hn) ha hz h0 hE
  have h1:=BS (B:=E) (g:=fun l=>(a l).natAbs * (a l).natAbs) a2 fun l hl=>by
   obtain ⟨u,hu,rfl⟩:=List.mem_map.1 hl
   refine ⟨Nat.mod_lt _ hE,?_⟩
   have h2:a (u % E)=a u:=ha.mod (Nat.mod_mod _ _)
   show 1≤(a (u % E)).natAbs * (a (u % E)).natAbs
   rw [h2]
   have h3:=(a3 u hu).1
   have h4:1≤(a u).natAbs:=by omega
   exact Nat.mul_le_mul h4 h4
  rw [List.length_map,a1] at h1
  show 2 ^ (0 + Q.length) * 1≤UU E [] a
  rw [Nat.zero_add,Nat.mul_one]
  exact h1
 | q :: qs,Q,hq,hQ,hn,a,ha,hz,hw=>by
  obtain ⟨hq1,hq2⟩:=hq q (by simp)
  have hn' : (qs++q :: Q).Nodup:=by
   refine (List.Perm.nodup_iff ?_).1 hn
   exact List.perm_middle.symm
  have h1:∀ m,m < q - 1→2 ^ (qs.length + (q :: Q).length) * qH qs≤UU E qs (fy ((m + 1) * (E / q)) a):=fun m hm=>by
   refine DC hE (fun x hx=>hq x (by simp [hx])) (fun x hx=>?_) hn' (ha.fy _) (fun x hx=>?_) fun hww=>hw ?_
   ·rcases List.mem_cons.1 hx with rfl | h
    ·exact ⟨hq1,hq2⟩
    exact hQ x h
   ·rcases List.mem_cons.1 hx with rfl | h
    ·exact CO ha hq2 _
    exact (hz x h).fy _
   exact WW.back ha hq1 hq2 (fun hd=>by have:=Nat.le_of_dvd (by omega) hd; omega) hww
  have h2:∀ m,sn (fun _=>2 ^ (qs.length + (q :: Q).length) * qH qs) m=m * (2 ^ (qs.length + (q :: Q).length) * qH qs):=fun m=>by
   induction m with
   | zero=>rw [Nat.zero_mul]; rfl
   | succ m ih=>rw [sn,ih,Nat.add_mul,Nat.one_mul]
  have h3:=Di h1
  rw [h2] at h3
  have e1:2 ^ ((q :: qs).length + Q.length) * qH (q :: qs)=(q - 1) * (2 ^ (qs.length + (q :: Q).length) * qH qs):=by
   have:(q :: qs).length + Q.length=qs.length + (q :: Q).length:=by rw [List.length_cons,List.length_cons]; omega
   rw [this]
   show _ * ((q - 1) * qH qs)=_
   simp only [Nat.mul_assoc,Nat.mul_comm,Nat.mul_left_comm]
  rw [e1]
  exact h3
theorem Df:∀ (qs:List Nat) {a:Nat→Int} {B:Nat},(∀ l,(a l).natAbs≤B)→UU E qs a≤qH qs * (E * (4 ^ qs.length * (B * B)))
 | [],a,B,h=>by
  show sn (fun l=>(a l).natAbs * (a l).natAbs) E≤1 * (E * (4 ^ 0 * (B * B)))
  rw [Nat.pow_zero,Nat.one_mul,Nat.one_mul]
  exact vK fun l _=>Nat.mul_le_mul (h l) (h l)
 | q :: qs,a,B,h=>by
  show sn (fun m=>UU E qs (fy ((m + 1) * (E / q)) a)) (q - 1)≤(q - 1) * qH qs * (E * (4 ^ (qs.length + 1) * (B * B)))
  refine Nat.le_trans (vK (B:=qH qs * (E * (4 ^ qs.length * (2 * B * (2 * B))))) fun m _=>Df qs fun l=>?_) ?_
  ·unfold fy
   have h1:=h l
   have h2:=h (l + (m + 1) * (E / q))
   omega
  rw [Nat.pow_succ]
  have:4 ^ qs.length * (2 * B * (2 * B))=4 ^ qs.length * 4 * (B * B):=by
   rw [show 2 * B * (2 * B)=4 * (B * B) by rw [Nat.mul_mul_mul_comm],Nat.mul_assoc]
  rw [this,Nat.mul_assoc (q - 1) (qH qs)]
  exact Nat.le_refl _
theorem yI (d:Nat):∀ (qs:List Nat) (a:Nat→Int),UU E qs (fun l=>(d:Int) * a l)=d * d * UU E qs a
 | [],a=>by
  show sn (fun l=>((d:Int) * a l).natAbs * ((d:Int) * a l).natAbs) E=d * d * sn (fun l=>(a l).natAbs * (a l).natAbs) E
  rw [Nat.mul_comm (d * d),← rE]
  refine og fun l _=>?_
  rw [Int.natAbs_mul,Int.natAbs_natCast,Nat.mul_mul_mul_comm,Nat.mul_comm]
 | q :: qs,a=>by
  show sn (fun m=>UU E qs (fy ((m + 1) * (E / q)) fun l=>(d:Int) * a l)) (q - 1)=d * d * sn (fun m=>UU E qs (fy ((m + 1) * (E / q)) a)) (q - 1)
  rw [Nat.mul_comm (d * d),← rE]
  refine og fun m _=>?_
  have e:(fy ((m + 1) * (E / q)) fun l=>(d:Int) * a l)=fun l=>(d:Int) * fy ((m + 1) * (E / q)) a l:=funext fun l=>by show (d:Int) * a l - (d:Int) * a (l + (m + 1) * (E / q))=(d:Int) * (a l - a (l + (m + 1) * (E / q))); rw [Int.mul_sub]
  rw [e,yI d qs,Nat.mul_comm]
end
end Go.Proofs.YtjlmpmidchddjaaDoor
namespace Go.Proofs.YtjlmpmidchddjaaDoor
open Lean.Grind
attribute [local instance] Lean.Grind.Semiring.natCast Lean.Grind.Ring.intCast
section
variable {K:Type} [CommRing K] {E:Nat}
def FF (E:Nat) (z:K) (a:Nat→Int):K:=sm (fun l=>((a l:Int):K) * z ^ l) E
theorem uj {z:K} (hz:z ^ E=1) {a:Nat→Int} (ha:tX E a) {x:Nat} (hx:x≤E):FF E z (fy x a)=FF E z a * (1 - z ^ (E - x)):=by
 have h1:sm (fun l=>((a (l + x):Int):K) * z ^ (l + x)) E=FF E z a:=q7 (g:=fun l=>((a l:Int):K) * z ^ l) (fun l=>by
  show ((a (l + E):Int):K) * z ^ (l + E)=_
  rw [ha,dO,hz]; grind) x
 have h2:FF E z (fy x a)=FF E z a - z ^ (E - x) * sm (fun l=>((a (l + x):Int):K) * z ^ (l + x)) E:=by
  unfold FF
  rw [← aK,← jc]
  refine ai fun l _=>?_
  have e1:z ^ (E - x) * z ^ (l + x)=z ^ l:=by
   rw [← dO,show E - x + (l + x)=l + E by omega,dO,hz]; grind
  unfold fy
  rw [Ring.intCast_sub]
  grind
 rw [h2,h1]; grind
theorem WW.ff (F:nr K) {z:K} (hz:z ^ E=1):∀ {qs:List Nat},(∀ q∈qs,z ^ (E - E / q) ≠ 1)→∀ {a:Nat→Int},tX E a→WW E qs a→FF E z a=0
 | [],_,a,_,hw=>aS fun l _=>by rw [hw l,Ring.intCast_zero]; grind
 | q :: qs,hq,a,ha,hw=>by
  have h1:=WW.ff F hz (qs:=qs) (fun x hx=>hq x (by simp [hx])) (ha.fy (E / q)) hw
  rw [uj hz ha (Nat.div_le_self _ _)] at h1
  rcases F.mul h1 with h2 | h2
  ·exact h2
  exact absurd (show z ^ (E - E / q)=1 by grind) (hq q (by simp))
def Wt (E:Nat) (z z' : K):List Nat→Nat→K
 | [],_=>1
 | q :: qs,j=>sm (fun m=>(1 - (z ^ j) ^ (E - (m + 1) * (E / q))) * (1 - (z' ^ j) ^ (E - (m + 1) * (E / q)))) (q - 1) * Wt E z z' qs j
theorem fB (z:K) (i j:Nat):(z ^ i) ^ j=(z ^ j) ^ i:=by rw [← fj,← fj,Nat.mul_comm]
theorem zO {z z' : K} (hz:z ^ E=1) (hz' : z' ^ E=1) (hzz:z * z' = 1) (hor:∀ l l',l < E→l' < E→l ≠ l'→sm (fun j=>(z ^ l * z' ^ l') ^ j) E=0) :
  ∀ {qs:List Nat},(∀ q∈qs,mq q∧q ∣ E)→∀ {a:Nat→Int},tX E a→(E:K) * ((UU E qs a:Nat):K)=sm (fun j=>Wt E z z' qs j * (FF E (z ^ j) a * FF E (z' ^ j) a)) E
 | [],_,a,_=>by
  have e1:∀ j,j < E→Wt E z z' [] j * (FF E (z ^ j) a * FF E (z' ^ j) a)=sm (fun l=>sm (fun l'=>((a l:Int):K) * ((a l' : Int):K) * (z ^ l * z' ^ l') ^ j) E) E:=fun j _=>by
   show 1 * (FF E (z ^ j) a * FF E (z' ^ j) a)=_
   unfold FF
   rw [← bI]
   have:(1:K) * sm (fun i=>((a i:Int):K) * (z ^ j) ^ i * sm (fun l=>((a l:Int):K) * (z' ^ j) ^ l) E) E=sm (fun i=>((a i:Int):K) * (z ^ j) ^ i * sm (fun l=>((a l:Int):K) * (z' ^ j) ^ l) E) E:=by grind
   rw [this]
   refine ai fun l _=>?_
   rw [← aK]
   refine ai fun l' _=>?_
   rw [eT,fB z l j,fB z' l' j]; grind
  rw [ai e1,aU]
  have e2:∀ l,l < E→sm (fun j=>sm (fun l'=>((a l:Int):K) * ((a l' : Int):K) * (z ^ l * z' ^ l') ^ j) E) E=(E:K) * (((a l:Int):K) * ((a l:Int):K)):=fun l hl=>by
   rw [aU,ba hl fun l' hl' hne=>by rw [aK,hor l l' hl hl' fun h=>hne h.symm]; grind]
   have e3:z ^ l * z' ^ l=1:=by rw [← eT,hzz,bR]
   rw [ai (g:=fun _=>((a l:Int):K) * ((a l:Int):K)) fun j _=>by rw [e3,bR]; grind,bQ]
  rw [ai e2,aK]
  show (E:K) * ((sn (fun l=>(a l).natAbs * (a l).natAbs) E:Nat):K)=_
  rw [AN]
  congr 1
  refine ai fun l _=>?_
  rw [← Ring.intCast_mul,← Int.natAbs_mul_self,Ring.intCast_natCast]
 | q :: qs,hq,a,ha=>by
  obtain ⟨hq1,hq2⟩:=hq q (by simp)
  have e1:∀ m,m < q - 1→(E:K) * ((UU E qs (fy ((m + 1) * (E / q)) a):Nat):K)=sm (fun j=>(1 - (z ^ j) ^ (E - (m + 1) * (E / q))) * (1 - (z' ^ j) ^ (E - (m + 1) * (E / q))) * (Wt E z z' qs j * (FF E (z ^ j) a * FF E (z' ^ j) a))) E:=fun m hm=>by
   have hx:(m + 1) * (E / q)≤E:=by
    have:=Nat.mul_le_mul_right (E / q) (show m + 1≤q by omega)
    rw [Nat.mul_div_cancel' hq2] at this
    exact this
   rw [zO hz hz' hzz hor (qs:=qs) (fun x h=>hq x (by simp [h])) (ha.fy _)]
   refine ai fun j _=>?_
   rw [uj (by rw [fB,hz,bR]) ha hx,uj (by rw [fB,hz',bR]) ha hx]; grind
  show (E:K) * ((sn (fun m=>UU E qs (fy ((m + 1) * (E / q)) a)) (q - 1):Nat):K)=_
  rw [AN,← aK,ai e1,aU]
  refine ai fun j _=>?_
  rw [bI]
  show _=sm (fun m=>(1 - (z ^ j) ^ (E - (m + 1) * (E / q))) * (1 - (z' ^ j) ^ (E - (m + 1) * (E / q)))) (q - 1) * Wt E z z' qs j * (FF E (z ^ j) a * FF E (z' ^ j) a)
  grind
theorem vr {z z' : K} (hz:z ^ E=1):∀ {qs:List Nat},(∀ q∈qs,q ∣ E)→∀ {j:Nat},(∃ q∈qs,q ∣ j)→Wt E z z' qs j=0
 | [],_,_,⟨_,h,_⟩=>by cases h
 | q :: qs,hq,j,⟨x,hx,hxj⟩=>by
  show sm (fun m=>(1 - (z ^ j) ^ (E - (m + 1) * (E / q))) * (1 - (z' ^ j) ^ (E - (m + 1) * (E / q)))) (q - 1) * Wt E z z' qs j=0
  rcases List.mem_cons.1 hx with rfl | hx
  ·have:sm (fun m=>(1 - (z ^ j) ^ (E - (m + 1) * (E / x))) * (1 - (z' ^ j) ^ (E - (m + 1) * (E / x)))) (x - 1)=0:=aS fun m hm=>by
    obtain ⟨t,ht⟩:=hxj
    have hx2:=hq x (by simp)
    have hle:(m + 1) * (E / x)≤E:=by
     have:=Nat.mul_le_mul_right (E / x) (show m + 1≤x by omega)
     rw [Nat.mul_div_cancel' hx2] at this
     exact this
    have e1:(z ^ j) ^ ((m + 1) * (E / x))=1:=by
     rw [ht,← fj,show x * t * ((m + 1) * (E / x))=(x * (E / x)) * (t * (m + 1)) by simp only [Nat.mul_assoc,Nat.mul_comm,Nat.mul_left_comm],Nat.mul_div_cancel' hx2,fj,hz,bR]
    have e2:(z ^ j) ^ (E - (m + 1) * (E / x))=1:=by
     have e3:(z ^ j) ^ (E - (m + 1) * (E / x)) * (z ^ j) ^ ((m + 1) * (E / x))=1:=by
      rw [← dO,Nat.sub_add_cancel hle,fB,hz,bR]
     rw [e1] at e3
     grind
    rw [e2]; grind
   rw [this]; grind
  rw [vr hz (qs:=qs) (fun y hy=>hq y (by simp [hy])) ⟨x,hx,hxj⟩]; grind
def dE (E l:Nat):Int:=if l % E=0 then 1 else 0
theorem Fq:tX E (dE E):=fun l=>by unfold dE; rw [Nat.add_mod_right]
theorem DF (hE:0 < E) (z:K):FF E z (dE E)=1:=by
 unfold FF
 rw [ba (i:=0) hE fun l hl hl0=>by unfold dE; rw [Nat.mod_eq_of_lt hl,if_neg hl0,Ring.intCast_zero]; grind]
 unfold dE
 rw [Nat.zero_mod,if_pos rfl,Ring.intCast_one,Semiring.pow_zero]; grind
end
def HP (q:Nat):Bool:=decide (2≤q) && (List.range (q + 1)).all fun d=>decide (d=0) || decide (d=1) || decide (d=q) || !decide (q % d=0)
def qG (E:Nat):List Nat:=(List.range (E + 1)).filter fun q=>decide (0 < q) && decide (E % q=0) && HP q
def It:Bool:=(List.range 61).all fun E=>decide (E=0) || (decide (UU E (qG E) (dE E)=2 ^ (qG E).length * qH (qG E)) && decide (qH (qG E) * 4 ^ (qG E).length≤16 * E * E) && decide (1≤qH (qG E)) && (List.range E).all fun j=>decide (Nat.gcd j E=1) || (qG E).any fun q=>decide (j % q=0))
theorem F5:It=true:=by decide +kernel
theorem D0 {q:Nat} (h:HP q=true):mq q:=by
 unfold HP at h
 rw [Bool.and_eq_true,decide_eq_true_eq] at h
 refine ⟨h.1,fun d hd=>?_⟩
 have hdq:=Nat.le_of_dvd (by omega) hd
 have h4:=List.all_eq_true.1 h.2 d (List.mem_range.2 (by omega))
 simp only [Bool.or_eq_true,decide_eq_true_eq,Bool.not_eq_true',decide_eq_false_iff_not] at h4
 rcases h4 with ((h4 | h4) | h4) | h4
 ·subst h4; have:=Nat.zero_dvd.1 hd; omega
 ·exact .inl h4
 ·exact .inr h4
 exact absurd (Nat.mod_eq_zero_of_dvd hd) h4
theorem EN {E q:Nat} (h:q∈qG E):mq q∧q ∣ E:=by
 unfold qG at h
 rw [List.mem_filter] at h
 simp only [Bool.and_eq_true,decide_eq_true_eq] at h
 exact ⟨D0 h.2.2,Nat.dvd_of_mod_eq_zero h.2.1.2⟩
theorem xQ (E:Nat):(qG E).Nodup:=List.nodup_range.filter _
theorem AB {E:Nat} (h1:1≤E) (h2:E≤60):UU E (qG E) (dE E)=2 ^ (qG E).length * qH (qG E)∧qH (qG E) * 4 ^ (qG E).length≤16 * E * E∧1≤qH (qG E)∧∀ j,j < E→Nat.gcd j E=1∨∃ q∈qG E,q ∣ j:=by
 have h:=List.all_eq_true.1 F5 E (List.mem_range.2 (by omega))
 rw [Bool.or_eq_true] at h
 have h:=h.resolve_left fun h=>by rw [decide_eq_true_eq] at h; omega
 simp only [Bool.and_eq_true,decide_eq_true_eq] at h
 obtain ⟨⟨⟨a,b⟩,c⟩,d⟩:=h
 refine ⟨a,b,c,fun j hj=>?_⟩
 have h5:=List.all_eq_true.1 d j (List.mem_range.2 hj)
 rw [Bool.or_eq_true,decide_eq_true_eq] at h5
 rcases h5 with h5 | h5
 ·exact .inl h5
 obtain ⟨q,hq,h6⟩:=List.any_eq_true.1 h5
 exact .inr ⟨q,hq,Nat.dvd_of_mod_eq_zero (by simpa using h6)⟩
end Go.Proofs.YtjlmpmidchddjaaDoor
namespace Go.Proofs.YtjlmpmidchddjaaDoor
open Lean.Grind
attribute [local instance] Lean.Grind.Semiring.natCast Lean.Grind.Ring.intCast
section
variable {R K:Type} [CommRing R] [CommRing K] {p N n e c E:Nat} {ρ:R→K} {f:Nat→Nat→Nat} {cI xx:Nat→Nat}
def kM (n:Nat) (f:Nat→Nat→Nat) (e:Nat) (u:Nat→R) (y:Nat):R:=sm (fun x=>u (f (iv n f e x) (f (iv n f e y) x))) n
theorem GC.Ht (h:GC n f e c cI xx) {a b:Nat} (ha:a < n) (hb:b < n):cv n f e (dl R a) (dl R b)=dl R (f a b):=by
 have G:=h.G
 refine (bG _ _).ext (km (G.cl _ _ ha hb)) fun x hx=>?_
 rw [h.lV _ ha hx]
 unfold dl
 by_cases hh:x=f a b
 ·rw [if_pos hh,if_pos (by rw [hh,h.xU ha hb])]
 rw [if_neg hh,if_neg fun h2=>hh (by rw [← h2,h.pf ha hx])]
theorem GC.yB (h:GC n f e c cI xx) (u:Nat→R) {y:Nat} (hy:y < n):sm (fun x=>cv n f e (dl R y) (cv n f e (dl R x) u) x) n=kM n f e u y:=ai fun x hx=>by
 rw [h.lV _ hy hx,h.lV _ hx (h.G.cl _ _ (h.G.az hy) hx)]
theorem uv (G:dF n f e) {g:Nat} (hg:g < n):∀ j,pw f e g j < n
 | 0=>G.el
 | j + 1=>G.cl _ _ (uv G hg j) hg
def mb (f:Nat→Nat→Nat) (e g E:Nat) (b z' : R) (l:Nat) (x:Nat):R:=b * sm (fun j=>z' ^ (j * l) * dl R (pw f e g j) x) E
theorem GC.G6 (h:GC n f e c cI xx) (L:LR R K p N ρ) (hE:0 < E) {z' b:R} (hz' : z' ^ E=1) (hb:(E:R) * b=1) {u:Nat→R} (hu:cv n f e u u=u) {g:Nat} (hg:g < n) (hgE:pw f e g E=e) (l:Nat) :
  ∃ v:Nat,v≤n∧(v:R)=b * sm (fun j=>z' ^ (j * l) * kM n f e u (pw f e g j)) E:=by
 have G:=h.G
 have hpl:=uv G hg
 have hs:ez n (mb f e g E b z' l):=fun x hx=>by
  unfold mb
  rw [aS fun j _=>by rw [km (hpl j) x hx]; grind]; grind
 have hfun:mb f e g E b z' l=fun x=>b * sm (fun j=>(fun x=>z' ^ (j * l) * dl R (pw f e g j) x) x) E:=rfl
 have hcvl:∀ w:Nat→R,cv n f e (mb f e g E b z' l) w=fun x=>b * sm (fun j=>z' ^ (j * l) * cv n f e (dl R (pw f e g j)) w x) E:=fun w=>by
  rw [hfun,aR,ue]
  funext x
  congr 1
  exact ai fun j _=>by rw [aR]
 have hid:cv n f e (mb f e g E b z' l) (mb f e g E b z' l)=mb f e g E b z' l:=by
  rw [hcvl]
  funext x
  have e1:∀ j,z' ^ (j * l) * cv n f e (dl R (pw f e g j)) (mb f e g E b z' l) x=b * sm (fun s=>z' ^ (s * l) * dl R (pw f e g s) x) E:=fun j=>by
   rw [hfun,aO,ow]
   show z' ^ (j * l) * (b * sm (fun s=>cv n f e (dl R (pw f e g j)) (fun x=>z' ^ (s * l) * dl R (pw f e g s) x) x) E)=_
   have e2:sm (fun s=>cv n f e (dl R (pw f e g j)) (fun x=>z' ^ (s * l) * dl R (pw f e g s) x) x) E=sm (fun s=>z' ^ (s * l) * dl R (pw f e g (j + s)) x) E:=ai fun s _=>by
    rw [aO,h.Ht (hpl j) (hpl s),← G.eE hg]
   rw [e2]
   have e3:sm (fun s=>(fun s=>z' ^ (s * l) * dl R (pw f e g s) x) (s + j)) E=sm (fun s=>z' ^ (s * l) * dl R (pw f e g s) x) E:=q7 (g:=fun s=>z' ^ (s * l) * dl R (pw f e g s) x) (fun s=>by
    show z' ^ ((s + E) * l) * dl R (pw f e g (s + E)) x=_
    rw [Nat.add_mul,dO,fj z' E l,hz',bR,G.eE hg,hgE,G.one_r _ (hpl s)]; grind) j
   rw [← e3]
   have e4:sm (fun s=>(fun s=>z' ^ (s * l) * dl R (pw f e g s) x) (s + j)) E=z' ^ (j * l) * sm (fun s=>z' ^ (s * l) * dl R (pw f e g (j + s)) x) E:=by
    rw [← aK]
    refine ai fun s _=>?_
    show z' ^ ((s + j) * l) * dl R (pw f e g (s + j)) x=_
    rw [Nat.add_mul,dO,Nat.add_comm s j]; grind
   rw [e4]; grind
  rw [ai fun j _=>e1 j,bQ]
  unfold mb
  grind
 obtain ⟨v,v1,v2⟩:=L.Hg (n:=n) (A:=fun w=>cv n f e (mb f e g E b z' l) (cv n f e w u)) ⟨fun a b'=>by
  show cv n f e _ (cv n f e (fun j=>a j + b' j) u)=_
  rw [bS a b' u,cn],fun k a=>by
  show cv n f e _ (cv n f e (fun j=>k * a j) u)=_
  rw [aR k a u,aO]⟩ (fun w _=>by
  show cv n f e _ (cv n f e (cv n f e _ (cv n f e w u)) u)=cv n f e _ (cv n f e w u)
  rw [h.fD (mb f e g E b z' l),← h.fD (mb f e g E b z' l),hid,h.fD w,hu]) fun w=>bG _ _
 refine ⟨v,v1,?_⟩
 rw [← v2]
 have e5:∀ x,x < n→cv n f e (mb f e g E b z' l) (cv n f e (dl R x) u) x=sm (fun j=>b * (z' ^ (j * l) * cv n f e (dl R (pw f e g j)) (cv n f e (dl R x) u) x)) E:=fun x _=>by
  rw [hcvl,aK]
 rw [ai e5,aU,← aK]
 refine ai fun j _=>?_
 rw [aK,aK,h.yB u (hpl j)]
theorem yS.IC (h:GC n f e c cI xx) (F:nr K) {t k:Nat→K} {v:Nat} (hk:yS n f e t k v) (hke:k e ≠ 0):sm (fun x=>cv n f e k (cv n f e (dl K x) k) x) n=1:=by
 have G:=h.G
 have e1:∀ x,x < n→k e * cv n f e k (cv n f e (dl K x) k) x=k (iv n f e x) * k x:=fun x hx=>by
  obtain ⟨a,ha⟩:=hk.one (dl K x)
  have h1:=congrFun ha e
  rw [h.Gu,h.fD,hk.id,h.lV k hx G.el,G.one_r _ (G.az hx)] at h1
  rw [ha]
  show k e * (a * k x)=_
  rw [h1]; grind
 have e2:k e * sm (fun x=>cv n f e k (cv n f e (dl K x) k) x) n=k e:=by
  rw [← aK,ai e1]
  have e3:=congrFun hk.id e
  rw [dw _ _ G.el] at e3
  rw [← e3]
  exact ai fun x hx=>by rw [G.one_r _ (G.az hx)]; grind
 obtain ⟨ki,hki⟩:=F.1 _ hke
 grind
theorem GC.Cw (h:GC n f e c cI xx) (u:Nat→R):sm (fun y=>kM n f e u y * kM n f e u (iv n f e y)) n=(n:R) * sm (fun x=>cv n f e u (cv n f e (dl R x) u) x) n:=by
 have G:=h.G
 let κ:Nat→R:=fun y=>sm (fun x=>u (bU n f e x y)) n
 have hκ:∀ y,y < n→kM n f e u y=κ (iv n f e y):=fun y hy=>ai fun x hx=>by
  unfold bU
  rw [G.assoc _ _ _ (G.az hx) (G.az hy) hx]
 have hcl:∀ x y,x < n→y < n→κ (bU n f e x y)=κ y:=fun x y hx hy=>by
  show sm (fun w=>u (bU n f e w (bU n f e x y))) n=sm (fun w=>u (bU n f e w y)) n
  rw [← h.fu hx fun w=>u (bU n f e w y)]
  refine ai fun w hw=>?_
  have ix:=G.az hx
  have iw:=G.az hw
  have xw:=G.cl _ _ hx hw
  have:bU n f e w (bU n f e x y)=bU n f e (f x w) y:=by
   unfold bU
   rw [G.bM hx hw,G.assoc _ _ _ iw (G.cl _ _ (G.cl _ _ ix hy) hx) hw,G.assoc _ _ _ (G.cl _ _ ix hy) hx hw,G.assoc _ _ _ ix hy xw,G.assoc _ _ _ (G.cl _ _ iw ix) hy xw,G.assoc _ _ _ iw ix (G.cl _ _ hy xw)]
  rw [this]
 have e1:sm (fun y=>kM n f e u y * kM n f e u (iv n f e y)) n=sm (fun y=>κ (iv n f e y) * κ y) n:=ai fun y hy=>by
  rw [hκ y hy,hκ _ (G.az hy),G.cN hy]
 have e2:∀ y,y < n→κ (iv n f e y) * κ y=sm (fun x=>u (bU n f e x (iv n f e y)) * κ y) n:=fun y _=>by
  show sm (fun x=>u (bU n f e x (iv n f e y))) n * κ y=_
  rw [← bI]
 have e3:∀ x,x < n→sm (fun y=>u (bU n f e x (iv n f e y)) * κ y) n=sm (fun y=>u (iv n f e y) * κ y) n:=fun x hx=>by
  rw [← h.CL hx fun y=>u (iv n f e y) * κ y]
  refine ai fun y hy=>?_
  rw [hcl x y hx hy]
  have ix:=G.az hx
  have:iv n f e (bU n f e x y)=bU n f e x (iv n f e y):=by
   unfold bU
   rw [G.bM (G.cl _ _ ix hy) hx,G.bM ix hy,G.cN hx,G.assoc _ _ _ ix (G.az hy) hx]
  rw [this]
 have e4:sm (fun x=>cv n f e u (cv n f e (dl R x) u) x) n=sm (fun y=>u (iv n f e y) * κ y) n:=by
  have e5:∀ x,x < n→cv n f e u (cv n f e (dl R x) u) x=sm (fun y=>u y * u (bU n f e x (iv n f e y))) n:=fun x hx=>by
   rw [dw _ _ hx]
   refine ai fun y hy=>?_
   rw [h.lV u hx (G.cl _ _ (G.az hy) hx)]
   unfold bU
   rw [G.assoc _ _ _ (G.az hx) (G.az hy) hx]
  rw [ai e5,aU]
  rw [← h.w9 fun y=>u (iv n f e y) * κ y]
  refine ai fun y hy=>?_
  rw [aK,G.cN hy]
 rw [e1,ai e2,aU,ai e3,bQ,e4]
theorem HG (h : GC n f e c cI xx) (L : LR R K p 8 ρ) (hinj : ∀ a b : Nat, a < p ^ 8 → b < p ^ 8 → (a : R) = (b : R) → a = b) (RK : Rp K p) (h2n : 2 * n < p) (hn0 : (n : K) ≠ 0) (hE1 : 1 ≤ E) (hE2 : E ≤ n) (hn60 : n ≤ 60) (hcz : ∀ a : Nat, 0 < a → a < p → (a : K) ≠ 0)
    {z z' : R} (hz : z ^ E = 1) (hzz : z * z' = 1) (hord : ∀ i, 0 < i → i < E → ρ z ^ i ≠ 1) (hexp : ∀ g, g < n → pw f e g E = e)
    {t k : Nat → K} {v : Nat} (ht : kK n f e cI t) (hs : bY n f e t t e ≠ 0) (hk : yS n f e t k v) (hv : 2 ≤ v) : ∃ g, g < n ∧ t g = 0 := by
  have G := h.G
  have F := RK.fld
  have hp2 := RK.two
  refine Classical.byContradiction fun hno => ?_
  have hnz : ∀ g, g < n → t g ≠ 0 := fun g hg hc => hno ⟨g, hg, hc⟩
  obtain ⟨hke, hv0⟩ := hk.ne RK h2n
  have hvn := hk.le
  have hz' : z' ^ E = 1 := by
    have := eT z z' E
    rw [hzz, bR, hz] at this
    grind
  have hzj : ∀ j, j < E → z' ^ j = z ^ ((E - j) % E) := fun j hj => by
    have e1 : z ^ j * z' ^ j = 1 := by rw [← eT, hzz, bR]
    have e2 : z ^ j * z ^ ((E - j) % E) = 1 := by
      by_cases h0 : j = 0
      · subst h0; rw [Nat.sub_zero, Nat.mod_self, Semiring.pow_zero]; grind
      · rw [Nat.mod_eq_of_lt (by omega), ← dO, show j + (E - j) = E by omega, hz]
    grind
  have hor : ∀ l l', l < E → l' < E → l ≠ l' → sm (fun j => (z ^ l * z' ^ l') ^ j) E = 0 := fun l l' hl hl' hne => by
    obtain ⟨w, hw⟩ : ∃ w, w = z ^ l * z' ^ l' := ⟨_, rfl⟩
    have hwE : w ^ E = 1 := by rw [hw, eT, fB, hz, fB z', hz', bR, bR]; grind
    have hw1 : ρ (w - 1) ≠ 0 := fun h0 => by
      rw [L.sub, L.one] at h0
      have hw2 : ρ w = 1 := by grind
      have e1 : ρ z ^ l = ρ z ^ l' := by
        have e2 : w * z ^ l' = z ^ l := by
          rw [hw]
          have : z' ^ l' * z ^ l' = 1 := by rw [← eT]; have : z' * z = 1 := by grind
                                            rw [this, bR]
          grind
        have e3 := congrArg ρ e2
        rw [L.mul, hw2, L.pow, L.pow] at e3
        rw [← e3]; grind
      have hu : ∀ a b, a < b → b < E → ρ z ^ a ≠ ρ z ^ b := fun a b hab hb he => by
        refine hord (b - a) (by omega) (by omega) ?_
        have e4 : ρ z ^ a * ρ z ^ (b - a) = ρ z ^ a := by rw [← dO, show a + (b - a) = b by omega, he]
        have e5 : ρ z ^ a * ρ z ^ (E - a) = 1 := by rw [← dO, show a + (E - a) = E by omega, ← L.pow, hz, L.one]
        grind
      rcases Nat.lt_or_gt_of_ne hne with hl2 | hl2
      · exact hu l l' hl2 hl' e1
      · exact hu l' l hl2 hl e1.symm
    obtain ⟨y, hy⟩ := L.unit hw1
    have h1 := BH w E
    rw [hwE] at h1
    rw [← hw]
    grind
  obtain ⟨b, hb⟩ := L.unit (a := (E : R)) (by rw [L.nat]; exact hcz E hE1 (by omega))
  obtain ⟨u, w, hus, huρ, hws, huw⟩ := L.idem h hk.W.1 hk.id 3
  have huu : cv n f e u u = u := by
    funext x
    have := huw x
    rw [show 2 ^ 3 = 8 from rfl, L.nil] at this
    grind
  have hex : ∀ g l, ∃ a : Nat, a ≤ n ∧ (g < n → (a : R) = b * sm (fun j => z' ^ (j * l) * kM n f e u (pw f e g j)) E) := fun g l => by
    by_cases hg : g < n
    · obtain ⟨a, a1, a2⟩ := h.G6 L hE1 hz' hb huu hg (hexp g hg) l
      exact ⟨a, a1, fun _ => a2⟩
    · exact ⟨0, Nat.zero_le _, fun hc => absurd hc hg⟩
  have hex2 : ∀ g, ∃ a : Nat → Nat, ∀ l, a l ≤ n ∧ (g < n → (a l : R) = b * sm (fun j => z' ^ (j * l) * kM n f e u (pw f e g j)) E) := fun g => Classical.axiomOfChoice (hex g)
  obtain ⟨M, hM⟩ := Classical.axiomOfChoice hex2
  let B : Nat → Nat → Int := fun g l => ((M g (l % E) : Nat) : Int)
  have hBp : ∀ g, tX E (B g) := fun g l => by show ((M g ((l + E) % E) : Nat) : Int) = _; rw [Nat.add_mod_right]
  have hBv : ∀ g l, l < E → ((B g l : Int) : R) = ((M g l : Nat) : R) := fun g l hl => by
    show ((((M g (l % E) : Nat) : Int)) : R) = _
    rw [Nat.mod_eq_of_lt hl, Ring.intCast_natCast]
  have hval : ∀ g, g < n → ∀ j, j < E → FF E (z ^ j) (B g) = kM n f e u (pw f e g j) := fun g hg j hj => by
    unfold FF
    have e1 : ∀ l, l < E → ((B g l : Int) : R) * (z ^ j) ^ l = sm (fun i => b * kM n f e u (pw f e g i) * (z ^ j * z' ^ i) ^ l) E := fun l hl => by
      rw [hBv g l hl, (hM g l).2 hg, ← aK, ← bI]
      refine ai fun i _ => ?_
      rw [eT, fj z' i l]; grind
    rw [ai e1, aU]
    have e2 : ∀ i, i < E → sm (fun l => b * kM n f e u (pw f e g i) * (z ^ j * z' ^ i) ^ l) E = if i = j then kM n f e u (pw f e g i) else 0 := fun i hi => by
      rw [aK]
      by_cases hij : i = j
      · have e3 : z ^ j * z' ^ i = 1 := by rw [hij, ← eT, hzz, bR]
        rw [if_pos hij, e3, ai (g := fun _ => (1 : R)) fun l _ => bR l, bQ]; grind
      · rw [if_neg hij, hor j i hj hi fun hh => hij hh.symm]; grind
    rw [ai e2, ba hj fun i _ hne => if_neg hne, if_pos rfl]
  have hpl : ∀ g, g < n → ∀ j, pw f e g j < n := fun g hg j => uv G hg j
  have hval' : ∀ g, g < n → ∀ j, j < E → FF E (z' ^ j) (B g) = kM n f e u (iv n f e (pw f e g j)) := fun g hg j hj => by
    rw [hzj j hj, hval g hg _ (Nat.mod_lt _ hE1)]
    have e1 : pw f e g ((E - j) % E) = iv n f e (pw f e g j) := by
      refine G.eD (hpl g hg j) (hpl g hg _) (.inl ?_)
      rw [← G.eE hg]
      by_cases h0 : j = 0
      · subst h0; rw [Nat.sub_zero, Nat.mod_self]; rfl
      · rw [Nat.mod_eq_of_lt (by omega), show j + (E - j) = E by omega, hexp g hg]
    rw [e1]
  have hsum1 : sm (fun x => cv n f e u (cv n f e (dl R x) u) x) n = 1 := by
    obtain ⟨r, r1, r2⟩ := L.Hg (n := n) (A := fun w => cv n f e u (cv n f e w u)) ⟨fun a b' => by
      show cv n f e u (cv n f e (fun j => a j + b' j) u) = _
      rw [bS a b' u, cn], fun k a => by
      show cv n f e u (cv n f e (fun j => k * a j) u) = _
      rw [aR k a u, aO]⟩ (fun w _ => by
      show cv n f e u (cv n f e (cv n f e u (cv n f e w u)) u) = cv n f e u (cv n f e w u)
      rw [h.fD u (cv n f e w u) u, h.fD w u u, huu, ← h.fD u u, huu]) fun w => bG _ _
    have e1 := congrArg ρ r2
    rw [L.sm, L.nat] at e1
    have e2 : sm (fun x => ρ (cv n f e u (cv n f e (dl R x) u) x)) n = sm (fun x => cv n f e k (cv n f e (dl K x) k) x) n := ai fun x _ => by
      have e3 : (fun y => ρ (u y)) = k := funext huρ
      have e4 : (fun y => ρ (dl R x y)) = dl K x := funext fun y => by
        unfold dl
        split
        · exact L.one
        · exact L.zero
      rw [L.cv, e3]
      congr 1
      funext y
      rw [L.cv, e3, e4]
    rw [e2, hk.IC h F hke] at e1
    have e5 : r = 1 := RK.iP (p := p) (by omega) (by omega) (by rw [← e1, Semiring.natCast_one])
    rw [r2, e5, Semiring.natCast_one]
  have hall : sm (fun y => kM n f e u y * kM n f e u (iv n f e y)) n = (n : R) := by rw [h.Cw, hsum1]; grind
  obtain ⟨q1, q2, q3, q4⟩ := AB hE1 (show E ≤ 60 by omega)
  have hqs : ∀ q ∈ qG E, mq q ∧ q ∣ E := fun q hq => EN hq
  have hnd := xQ E
  obtain ⟨qs, hqe⟩ : ∃ qs, qs = qG E := ⟨_, rfl⟩
  rw [← hqe] at q1 q2 q3 q4 hqs hnd
  have heq : ((sn (fun g => UU E qs (B g)) n : Nat) : R) = ((n * UU E qs (dE E) : Nat) : R) := by
    have e1 : (E : R) * ((sn (fun g => UU E qs (B g)) n : Nat) : R) = (E : R) * ((n * UU E qs (dE E) : Nat) : R) := by
      rw [AN, ← aK, Semiring.natCast_mul]
      have e2 : ∀ g, g < n → (E : R) * ((UU E qs (B g) : Nat) : R) = sm (fun j => Wt E z z' qs j * (kM n f e u (pw f e g j) * kM n f e u (iv n f e (pw f e g j)))) E := fun g hg => by
        rw [zO hz hz' hzz hor hqs (hBp g)]
        exact ai fun j hj => by rw [hval g hg j hj, hval' g hg j hj]
      rw [ai e2, aU]
      have e3 : ∀ j, j < E → sm (fun g => Wt E z z' qs j * (kM n f e u (pw f e g j) * kM n f e u (iv n f e (pw f e g j)))) n = Wt E z z' qs j * (n : R) := fun j hj => by
        rw [aK]
        rcases q4 j hj with h1 | ⟨q, hq, hqj⟩
        · congr 1
          rw [← hall]
          refine mh (σ := fun g => pw f e g j) (fun g hg => hpl g hg j) (fun g g' hg hg' hgg => ?_) fun y => kM n f e u y * kM n f e u (iv n f e y)
          by_cases hE : E = 1
          · have a1 := hexp g hg
            have a2 := hexp g' hg'
            rw [hE] at a1 a2
            have b1 : pw f e g 1 = g := by show f e g = g; exact G.one_l g hg
            have b2 : pw f e g' 1 = g' := by show f e g' = g'; exact G.one_l g' hg'
            rw [← b1, ← b2, a1, a2]
          · obtain ⟨i, hi⟩ := vb (q := E) (m := j) (by unfold Nat.Coprime; rw [Nat.gcd_comm]; exact h1) (by omega)
            have key : ∀ g, g < n → pw f e (pw f e g j) i = g := fun g hg => by
              rw [← G.lM hg]
              have e4 : j * i = 1 + E * (j * i / E) := by
                have := Nat.mod_add_div (j * i) E
                rw [hi] at this
                exact this.symm
              have b1 : pw f e g 1 = g := by show f e g = g; exact G.one_l g hg
              rw [e4, G.eE hg, G.lM hg, hexp g hg, G.xY, b1, G.one_r g hg]
            have hgg' : pw f e g j = pw f e g' j := hgg
            exact (key g hg).symm.trans ((congrArg (fun x => pw f e x i) hgg').trans (key g' hg'))
        · rw [vr hz (fun q hq => (hqs q hq).2) ⟨q, hq, hqj⟩]; grind
      rw [ai e3, bI]
      have e5 := zO hz hz' hzz hor hqs (Fq (E := E))
      have e6 : sm (fun j => Wt E z z' qs j * (FF E (z ^ j) (dE E) * FF E (z' ^ j) (dE E))) E = sm (fun j => Wt E z z' qs j) E := ai fun j _ => by rw [DF hE1, DF hE1]; grind
      rw [e6] at e5
      rw [← e5]; grind
    grind
  have hUle : ∀ g, UU E qs (B g) ≤ 16 * n * n * (n * (n * n)) := fun g => by
    refine Nat.le_trans (Df qs (B := n) fun l => ?_) ?_
    · show ((M g (l % E) : Nat) : Int).natAbs ≤ n
      rw [Int.natAbs_natCast]; exact (hM g _).1
    · have e1 : qH qs * (E * (4 ^ qs.length * (n * n))) = qH qs * 4 ^ qs.length * (E * (n * n)) := by simp only [Nat.mul_assoc, Nat.mul_comm, Nat.mul_left_comm]
      rw [e1]
      refine Nat.mul_le_mul (Nat.le_trans q2 ?_) (Nat.mul_le_mul_right _ hE2)
      exact Nat.mul_le_mul (Nat.mul_le_mul_left _ hE2) hE2
  have hU0 : UU E qs (dE E) ≤ 16 * n * n := by
    rw [q1]
    refine Nat.le_trans ?_ (Nat.le_trans q2 (Nat.mul_le_mul (Nat.mul_le_mul_left _ hE2) hE2))
    rw [Nat.mul_comm]
    exact Nat.mul_le_mul_left _ (Nat.pow_le_pow_left (by omega) _)
  have hn1 : 1 ≤ n := by have := G.el; omega
  have hbig : n * (16 * n * n * (n * (n * n))) < p ^ 8 := by
    have h1 : (2 * n) ^ 8 < p ^ 8 := Nat.pow_lt_pow_left h2n (by omega)
    have h2 : n * (16 * n * n * (n * (n * n))) = 16 * n ^ 6 := by
      simp only [Nat.pow_succ, Nat.pow_zero, Nat.one_mul, Nat.mul_assoc, Nat.mul_comm, Nat.mul_left_comm]
    have h3 : (2 * n) ^ 8 = 256 * (n ^ 6 * n ^ 2) := by rw [Nat.mul_pow, ← Nat.pow_add]
    have h4 : n ^ 6 ≤ n ^ 6 * n ^ 2 := Nat.le_mul_of_pos_right _ (Nat.pow_pos hn1)
    omega
  have hnat := hinj _ _ (Nat.lt_of_le_of_lt (vK fun g _ => hUle g) hbig) (Nat.lt_of_le_of_lt (Nat.mul_le_mul_left n (Nat.le_trans hU0 (Nat.le_mul_of_pos_right _ (Nat.mul_pos hn1 (Nat.mul_pos hn1 hn1))))) hbig) heq
  have hge : ∀ g, g < n → UU E qs (dE E) ≤ UU E qs (B g) := fun g hg => by
    rw [q1]
    have := DC hE1 (qs := qs) (Q := []) hqs (fun x hx => by cases hx) (by rw [List.append_nil]; exact hnd) (hBp g) (fun x hx => by cases hx) fun hw => ?_
    · simpa using this
    · have hzK : (ρ z) ^ E = 1 := by rw [← L.pow, hz, L.one]
      have h2 := WW.ff F hzK (qs := qs) (fun q hq => by
        obtain ⟨h3, h4⟩ := hqs q hq
        have h5 := Nat.le_of_dvd hE1 h4
        have h6 : 0 < E / q := Nat.div_pos h5 (by have := h3.1; omega)
        have h7 : E / q < E := Nat.div_lt_self hE1 (by have := h3.1; omega)
        exact hord _ (by omega) (by omega)) (hBp g) hw
      have h3 : ρ (FF E (z ^ 1) (B g)) = FF E (ρ z) (B g) := by
        unfold FF
        rw [L.sm]
        refine ai fun l hl => ?_
        have e1 : z ^ 1 = z := by rw [Semiring.pow_succ, Semiring.pow_zero]; grind
        rw [L.mul, L.pow, e1, hBv g l hl, L.nat]
        congr 1
        show _ = ((((M g (l % E) : Nat) : Int)) : K)
        rw [Nat.mod_eq_of_lt hl, Ring.intCast_natCast]
      have hchg : ρ (kM n f e u g) = (v : K) * t (iv n f e g) := by
        unfold kM
        rw [L.sm]
        have e3 : ∀ x, x < n → ρ (u (f (iv n f e x) (f (iv n f e g) x))) = k (bU n f e x (iv n f e g)) := fun x hx => by
          rw [huρ]; unfold bU; rw [G.assoc _ _ _ (G.az hx) (G.az hg) hx]
        rw [ai e3, h.vM F ht hs hk.W (G.az hg), hk.rk]
      have hne : (v : K) * t (iv n f e g) ≠ 0 := fun h0 => by
        rcases F.mul h0 with h4 | h4
        · exact hv0 h4
        · exact hnz _ (G.az hg) h4
      by_cases hE : E = 1
      · 
        have hgall : ∀ x, x < n → x = e := fun x hx => by
          have a1 := hexp x hx
          rw [hE] at a1
          have b1 : pw f e x 1 = x := by show f e x = x; exact G.one_l x hx
          rw [← b1, a1]
        have e1 : FF E (z ^ 0) (B g) = kM n f e u (pw f e g 0) := hval g hg 0 hE1
        have e2 : ρ (FF E (z ^ 0) (B g)) = FF E (ρ z) (B g) := by
          unfold FF
          rw [L.sm]
          refine ai fun l hl => ?_
          have hl0 : l = 0 := by omega
          subst hl0
          rw [L.mul, L.pow, hBv g 0 hl, L.nat, Semiring.pow_zero, Semiring.pow_zero]
          congr 1
          show _ = ((((M g (0 % E) : Nat) : Int)) : K)
          rw [Nat.mod_eq_of_lt hl, Ring.intCast_natCast]
        rw [h2, e1] at e2
        have e4 : pw f e g 0 = g := (hgall g hg).symm
        rw [e4, hchg] at e2
        exact hne e2
      · rw [h2, hval g hg 1 (by omega)] at h3
        have b1 : pw f e g 1 = g := by show f e g = g; exact G.one_l g hg
        rw [b1, hchg] at h3
        exact hne h3
  have hone : UU E qs (B e) = v * v * UU E qs (dE E) := by
    have hch1 : kM n f e u e = (v : R) := by
      obtain ⟨r, r1, r2⟩ := L.Hg (n := n) (A := fun w => cv n f e w u) ⟨fun a b' => bS a b' u, fun k a => aR k a u⟩ (fun w _ => by
        show cv n f e (cv n f e w u) u = cv n f e w u
        rw [h.fD, huu]) fun w => bG _ _
      have e1 : kM n f e u e = (r : R) := by
        rw [← r2, ← h.yB u G.el]
        exact ai fun x _ => by rw [h.GR (bG _ _)]
      have e2 := congrArg ρ e1
      rw [L.nat] at e2
      have e3 : ρ (kM n f e u e) = (v : K) := by
        unfold kM
        rw [L.sm]
        have e4 : ∀ x, x < n → ρ (u (f (iv n f e x) (f (iv n f e e) x))) = k e := fun x hx => by
          rw [huρ, G.gK, G.one_l x hx, G.eb hx]
        rw [ai e4, bQ, hk.rk]
      rw [e3] at e2
      rw [e1, RK.iP (p := p) (by omega) (by omega) e2.symm]
    have hpe : ∀ j, pw f e e j = e := fun j => G.xY j
    have hMe : ∀ l, l < E → M e l = if l = 0 then v else 0 := fun l hl => by
      have e1 := (hM e l).2 G.el
      have hlt : ∀ a : Nat, a ≤ n → a < p ^ 8 := fun a ha => Nat.lt_of_le_of_lt ha (Nat.lt_of_lt_of_le (show n < p by omega) (Nat.le_self_pow (by omega) p))
      refine hinj _ _ (hlt _ (hM e l).1) (hlt _ (by split <;> omega)) ?_
      rw [e1]
      have e2 : sm (fun j => z' ^ (j * l) * kM n f e u (pw f e e j)) E = sm (fun j => (z ^ 0 * z' ^ l) ^ j) E * (v : R) := by
        rw [← bI]
        refine ai fun j _ => ?_
        rw [hpe, hch1, Nat.mul_comm, fj, Semiring.pow_zero]
        have : (1 : R) * z' ^ l = z' ^ l := by grind
        rw [this]
      rw [e2]
      by_cases h0 : l = 0
      · rw [if_pos h0, h0, Semiring.pow_zero, Semiring.pow_zero, ai (g := fun _ => (1 : R)) fun j _ => by
          have : (1 : R) * 1 = 1 := by grind
          rw [this, bR], bQ]; grind
      · rw [if_neg h0, hor 0 l hE1 hl (fun hh => h0 hh.symm), Semiring.natCast_zero]; grind
    have hBe : B e = fun l => (v : Int) * dE E l := funext fun l => by
      show ((M e (l % E) : Nat) : Int) = (v : Int) * (if l % E = 0 then 1 else 0)
      rw [hMe _ (Nat.mod_lt _ hE1)]
      split <;> simp
    rw [hBe, yI]
  have hU1 : 1 ≤ UU E qs (dE E) := by
    rw [q1]
    exact Nat.mul_pos (Nat.pow_pos (by decide)) q3
  have hfin : n * UU E qs (dE E) + UU E qs (dE E) ≤ sn (fun g => UU E qs (B g)) n := by
    have key : ∀ m, m ≤ n → m * UU E qs (dE E) + (if e < m then UU E qs (dE E) else 0) ≤ sn (fun g => UU E qs (B g)) m := fun m => by
      induction m with
      | zero => intro _; rw [Nat.zero_mul, if_neg (by omega)]; exact Nat.zero_le _
      | succ m ih =>
        intro hm
        have h1 := ih (by omega)
        have h2 := hge m (by omega)
        rw [sn, Nat.add_mul, Nat.one_mul]
        by_cases hem : m = e
        · have h3 : 2 * UU E qs (dE E) ≤ UU E qs (B m) := by
            rw [hem, hone]
            exact Nat.mul_le_mul_right _ (by have := Nat.mul_le_mul hv hv; omega)
          rw [if_pos (by omega)]
          rw [if_neg (by omega)] at h1
          omega
        · by_cases hlt : e < m
          · rw [if_pos (by omega)]
            rw [if_pos hlt] at h1
            omega
          · rw [if_neg (by omega)]
            rw [if_neg hlt] at h1
            omega
    have := key n (Nat.le_refl _)
    rwa [if_pos G.el] at this
  omega
end
end Go.Proofs.YtjlmpmidchddjaaDoor
namespace Go.Proofs.YtjlmpmidchddjaaDoor
open Lean.Grind
attribute [local instance] Lean.Grind.Semiring.natCast Lean.Grind.Ring.intCast
section
variable {n e c:Nat} {f:Nat→Nat→Nat} {cI xx:Nat→Nat} {K:Type} [CommRing K] {p:Nat}
theorem uB.CY (h:GC n f e c cI xx) (R:Rp K p) (h2n:2 * n < p) (hn0:(n:K) ≠ 0) (hcz:∀ a:Nat,0 < a→a < p→(a:K) ≠ 0) {tt:Nat→Nat→K} {vv:Nat→Nat} (A:uB K n f e c cI tt vv) {i k:Nat} (hi:i < c) (hk:k < c) (hv:vv i=1) :
  ∃ j,j < c∧vv j=vv k∧∀ a,a < n→tt j a=tt i a * tt k a:=by
 have G:=h.G
 have F:=R.fld
 have hl:∀ a b,a < n→b < n→tt i (f a b)=tt i a * tt i b:=fun a b ha hb=>A.lR h R h2n hn0 hi hv ha hb
 have ti:=A.chr i hi
 have tk:=A.chr k hk
 have hT:kK n f e cI fun a=>tt i a * tt k a:=⟨fun a b ha hb hab=>by show tt i a * tt k a=tt i b * tt k b; rw [ti.cl a b ha hb hab,tk.cl a b ha hb hab],by show tt i e * tt k e=1; rw [ti.one,tk.one]; grind,fun a b ha hb=>by
  have e1:∀ y,y < n→tt i (f (bU n f e y a) b) * tt k (f (bU n f e y a) b)=tt i a * tt i b * tt k (f (bU n f e y a) b):=fun y hy=>by
   rw [hl _ _ (h.sT hy ha) hb,ti.cl _ _ (h.sT hy ha) ha (h.Fs hy ha)]
  show sm (fun y=>tt i (f (bU n f e y a) b) * tt k (f (bU n f e y a) b)) n=(n:K) * (tt i a * tt k a * (tt i b * tt k b))
  rw [ai e1,aK,tk.mul a b ha hb]; grind⟩
 obtain ⟨j,hj,hjt⟩:=A.all _ hT
 refine ⟨j,hj,?_,fun a ha=>(hjt a ha).symm⟩
 have hs:bY n f e (tt j) (tt j) e=bY n f e (tt k) (tt k) e:=by
  unfold bY
  refine ai fun z hz=>?_
  have iz:=G.az hz
  rw [G.one_l z hz,← hjt z hz,← hjt _ iz]
  have h1:=hl z _ hz iz
  rw [G.eC hz,ti.one] at h1
  show tt i z * tt k z * (tt i (iv n f e z) * tt k (iv n f e z))=tt k z * tt k (iv n f e z)
  grind
 obtain ⟨v1,v2⟩:=A.sq j hj
 obtain ⟨v3,v4⟩:=A.sq k hk
 have g1:=A.ge j hj
 have g2:=A.ge k hk
 have b1:vv j≤n:=Nat.le_trans (Nat.le_mul_of_pos_left _ g1) v1
 have b2:vv k≤n:=Nat.le_trans (Nat.le_mul_of_pos_left _ g2) v3
 rw [hs] at v2
 obtain ⟨si,hsi⟩:=F.1 _ (A.nz k hk)
 have e1:((vv j:K) - (vv k:K)) * ((vv j:K) + (vv k:K))=0:=by grind
 rcases F.mul e1 with h1 | h1
 ·exact R.iP (p:=p) (by omega) (by omega) (by grind)
 exfalso
 exact hcz (vv j + vv k) (by omega) (by omega) (by rw [Semiring.natCast_add]; exact h1)
end
variable {n e:Nat} {m:List Int}
theorem D9 (h:GT n m n e):1≤bn m n e n∧bn m n e n≤n∧(∀ g,g < n→pw (op m n) e g (bn m n e n)=e)∧∃ d,0 < d∧aG m n e=bn m n e n * d + 1:=by
 have hd:=eX h n (Nat.le_refl _)
 have hn1:=h.2.1.pos
 have hle:=Nat.le_of_dvd (by omega) hd
 refine ⟨Nat.pos_of_ne_zero fun h0=>by rw [h0] at hd; have:=Nat.zero_dvd.1 hd; omega,hle,fun g hg=>(h.2.2.lS hg _).2 (tI h hg),tQ (bn m n e n) n + 1,Nat.succ_pos _,rfl⟩
theorem zX (h:GT n m n e) {i:Nat} (hi:i < aX m n e) (hd:1 < ((fi m n e).getD i []).getD (nI m n e) 0):∃ c,c < aX m n e∧((fi m n e).getD i []).getD c 0=0:=by
 obtain ⟨P,p1,p2⟩:=o9 h
 have hp3:=P.three
 haveI:NeZero (aG m n e):=⟨by omega⟩
 haveI:NeZero (aG m n e ^ 8):=⟨Nat.pos_iff_ne_zero.1 (Nat.pow_pos (by omega))⟩
 have H:=kG h
 have C:=sY h
 have R:=H.R
 have F:=R.fld
 have L:=Gc P.toPG
 have hn60:=h.2.1.big
 obtain ⟨E1,E2,E3,d,hd0,hpd⟩:=D9 h
 obtain ⟨tt,vv,A,hrow⟩:=vU h
 obtain ⟨r1,r2⟩:=hrow i hi
 obtain ⟨k,hk⟩:=A.Eo i hi
 obtain ⟨g,g1,g2,g3⟩:=P.gen
 have hgp:∀ j:Nat,((g:Nat):Fin (aG m n e)) ^ (aG m n e ^ j)=((g:Nat):Fin (aG m n e)):=fun j=>by
  induction j with
  | zero=>rw [Nat.pow_zero,Semiring.pow_succ,Semiring.pow_zero]; grind
  | succ j ih=>rw [Nat.pow_succ,fj,ih,R.pow]
 have hg1:((g:Nat):Fin (aG m n e)) ^ (aG m n e - 1)=1:=mB P.toPG (by rw [Nat.mod_eq_of_lt g1]; omega)
 let Z:Fin (aG m n e ^ 8):=(((g:Nat):Fin (aG m n e ^ 8)) ^ d) ^ (aG m n e ^ 8)
 have hZ:GN (aG m n e) Z=((g:Nat):Fin (aG m n e)) ^ d:=by
  show GN (aG m n e) ((((g:Nat):Fin (aG m n e ^ 8)) ^ d) ^ (aG m n e ^ 8))=_
  rw [L.pow,L.pow,L.nat,fB,hgp]
 have hZE:Z ^ bn m n e n=1:=by
  show ((((g:Nat):Fin (aG m n e ^ 8)) ^ d) ^ (aG m n e ^ 8)) ^ bn m n e n=1
  have e0:(((g:Nat):Fin (aG m n e ^ 8)) ^ d) ^ bn m n e n=((g:Nat):Fin (aG m n e ^ 8)) ^ (aG m n e - 1):=by
   rw [← fj,show d * bn m n e n=aG m n e - 1 by rw [hpd,Nat.mul_comm]; omega]
  rw [fB,e0]
  refine L.F2 R.ch ?_
  rw [L.pow,L.nat,hg1]
 have hZZ:Z * Z ^ (bn m n e n - 1)=1:=by
  rw [← hZE]
  have:bn m n e n=bn m n e n - 1 + 1:=by omega
  conv=>rhs; rw [this,Semiring.pow_succ]
  grind
 have hord:∀ j,0 < j→j < bn m n e n→GN (aG m n e) Z ^ j ≠ 1:=fun j hj hjE hc=>by
  rw [hZ,← fj,← Semiring.natCast_pow] at hc
  have hlt:d * j < aG m n e - 1:=by
   have:d * j < d * bn m n e n:=Nat.mul_lt_mul_of_pos_left hjE hd0
   rw [Nat.mul_comm d (bn m n e n)] at this
   omega
  refine g3 (d * j) hlt (by have:=Nat.mul_pos hd0 hj; omega) ?_
  have h1:((g ^ (d * j):Nat):Fin (aG m n e))=((1:Nat):Fin (aG m n e)):=by rw [hc,sw P.three]
  have h2:=xg h1
  rwa [Nat.mod_eq_of_lt (show 1 < aG m n e by omega)] at h2
 have hinj:∀ a b:Nat,a < aG m n e ^ 8→b < aG m n e ^ 8→((a:Nat):Fin (aG m n e ^ 8))=((b:Nat):Fin (aG m n e ^ 8))→a=b:=fun a b ha hb hab=>by
  have:=xg (p:=aG m n e ^ 8) hab
  rwa [Nat.mod_eq_of_lt ha,Nat.mod_eq_of_lt hb] at this
 have hv2:2≤vv i:=by rw [r2] at hd; omega
 obtain ⟨x,hx,hx0⟩:=HG C L hinj R p1 H.nz E1 E2 hn60 H.cz hZE hZZ hord E3 (A.chr i hi) (A.nz i hi) hk hv2
 refine ⟨bX m n e x,(dm h hx).1,?_⟩
 have h1:=r1 x hx
 rw [hx0] at h1
 have hr:(fi m n e).getD i []∈fi m n e:=aC (by rw [(eS h).2.2.1]; exact hi)
 have hrg:=((eS h).2.2.2.1 _ hr).2
 refine HV R (hrg _) ⟨by omega,by omega⟩ ?_
 show (vc ((fi m n e).getD i []) (bX m n e x):Fin (aG m n e))=_
 rw [h1,Ring.intCast_zero]; grind
theorem BQ (h:GT n m n e) {i k:Nat} (hi:i < aX m n e) (hk:k < aX m n e) (hd:¬ 1 < ((fi m n e).getD i []).getD (nI m n e) 0) :
  (List.range (aX m n e)).map (fun c=>((fi m n e).getD i []).getD c 0 * ((fi m n e).getD k []).getD c 0 % (aG m n e:Nat))∈fi m n e:=by
 obtain ⟨P,p1,p2⟩:=o9 h
 have hp3:=P.three
 haveI:NeZero (aG m n e):=⟨by omega⟩
 have H:=kG h
 have C:=sY h
 have R:=H.R
 obtain ⟨tt,vv,A,hrow⟩:=vU h
 obtain ⟨_,_,t3,t4,_⟩:=eS h
 have hv:vv i=1:=by
  have:=(hrow i hi).2
  have:=A.ge i hi
  omega
 obtain ⟨j,hj,j1,j2⟩:=A.CY C R p1 H.nz H.cz hi hk hv
 have hm:(fi m n e).getD j []∈fi m n e:=aC (by omega)
 have:(List.range (aX m n e)).map (fun c=>((fi m n e).getD i []).getD c 0 * ((fi m n e).getD k []).getD c 0 % (aG m n e:Nat))=(fi m n e).getD j []:=by
  have hl:=(t4 _ hm).1
  have hrg:=(t4 _ hm).2
  obtain ⟨rj,hrj⟩:∃ rj,(fi m n e).getD j []=rj:=⟨_,rfl⟩
  have a3':=fun x hx=>(hrow j hj).1 x hx
  rw [hrj] at hl hrg a3' ⊢
  refine List.ext_getElem (by rw [List.length_map,List.length_range,hl]) fun c h1 h2=>?_
  have hc:c < aX m n e:=by rw [← hl]; exact h2
  have e1:rj[c]=rj.getD c 0:=by simp [List.getD,List.getElem?_eq_getElem h2]
  rw [e1,List.getElem_map,List.getElem_range]
  refine HV R (bC (by omega) _) (hrg c) ?_
  rw [R.toRd.mod,Ring.intCast_mul]
  have hx:=C.xl c hc
  have a1:=(hrow i hi).1 _ hx
  have a2:=(hrow k hk).1 _ hx
  have a3:=a3' _ hx
  rw [C.cx c hc] at a1 a2 a3
  show (vc ((fi m n e).getD i []) c:Fin (aG m n e)) * vc ((fi m n e).getD k []) c=vc rj c
  rw [a1,a2,a3,j1,j2 _ hx,hv,Semiring.natCast_one]; grind
 rw [this]
 exact hm
end Go.Proofs.YtjlmpmidchddjaaDoor
