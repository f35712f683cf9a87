/-
  Texts of this proof, one behind the other: what each says stands at its head. Conditions: none.
-/
import Derived.Test.YtjlmpmidchddjaaDoorB4
import Derived.Test.YtjlmpmidchddjaaDoorB3
import Derived.Shelf.SlSortCmp.Whole1
import Derived.Test.YtjlmpmidchddjaaDoorProg
import Derived.Shelf.SlLaysF
set_option linter.all false
namespace Go.Proofs.YtjlmpmidchddjaaDoor
open Go.Pv
def iR (c:Nat) (f:Nat→Nat→Int):List (List Int):=(List.range c).map fun j=>lN c (f j)
theorem dQ (c:Nat) (f:Nat→Nat→Int):(iR c f).length=c:=by simp [iR]
theorem ve {c j:Nat} {f:Nat→Nat→Int} (hj:j < c):(iR c f).getD j []=lN c (f j):=by
 simp [iR,List.getD,List.getElem?_map,List.getElem?_range hj]
theorem wF {c:Nat} {f:Nat→Nat→Int} : ∀ v∈iR c f,v.length=c:=fun v hv=>by
 simp only [iR,List.mem_map] at hv
 obtain ⟨j,_,rfl⟩:=hv
 exact fK _ _
theorem jM {c:Nat} {f f' : Nat→Nat→Int} (h:∀ j,j < c→∀ k,k < c→f j k=f' j k):iR c f=iR c f':=
 List.map_congr_left fun j hj=>jD fun k hk=>h j (List.mem_range.1 hj) k hk
theorem Cj (c:Nat) (f:Nat→Nat→Int) (j k:Nat) (x:Int):(iR c f).set j ((lN c (f j)).set k x)=iR c fun j' k'=>if j' = j∧k' = k then x else f j' k':=by
 refine List.ext_getElem (by simp [iR]) fun i h1 h2=>?_
 have hi:i < c:=by simpa [iR] using h2
 rw [List.getElem_set]
 by_cases e:j=i
 ·subst e
  simp only [if_true,iR,List.getElem_map,List.getElem_range,vH]
  exact jD fun a ha=>by by_cases h:a=k<;>simp [h]
 rw [if_neg e]
 simp only [iR,List.getElem_map,List.getElem_range]
 exact jD fun a ha=>by simp [Ne.symm e]
theorem zA (c:Nat):List.replicate c (List.replicate c (0:Int))=iR c fun _ _=>0:=by
 refine List.ext_getElem (by simp [iR]) fun i h1 h2=>?_
 simp only [iR,List.getElem_replicate,List.getElem_map]
 refine List.ext_getElem (by simp [lN]) fun i h1 h2=>?_
 simp [lN]
def tcp (A:List Int) (W:Int→Int) (t j:Nat):Int:=((A.take t).countP (fun x=>decide (W x=(j:Int))):Nat)
theorem yp (A:List Int) (W:Int→Int) (j:Nat):tcp A W 0 j=0:=by simp [tcp]
theorem A1 {A:List Int} (W:Int→Int) {t:Nat} (h:t < A.length) (j:Nat):tcp A W (t + 1) j=tcp A W t j + if W (A.getD t 0)=(j:Int) then 1 else 0:=by
 unfold tcp
 rw [List.take_succ_eq_append_getElem h,List.countP_append]
 have:A[t]=A.getD t 0:=by simp [List.getD,List.getElem?_eq_getElem h]
 rw [this]
 rw [List.countP_singleton]
 by_cases e:W (A.getD t 0)=(j:Int)
 ·rw [if_pos (by simpa using e),if_pos e]; omega
 rw [if_neg (by simpa using e),if_neg e]; omega
theorem wi (A:List Int) (W:Int→Int) (t j:Nat):0≤tcp A W t j∧tcp A W t j≤t:=by
 unfold tcp
 have:=List.countP_le_length (p:=fun x=>decide (W x=(j:Int))) (l:=A.take t)
 rw [List.length_take] at this
 omega
def cw (n:Nat) (f:Nat→Nat→Nat) (e:Nat) (k:Nat) (x:Int):Int:=CI (eu n (bV n f e)) ((f (iv n f e x.toNat) ((mem n (lead (bV n f e))).getD k 0):Nat):Int)
def ct (n:Nat) (f:Nat→Nat→Nat) (e i j k:Nat):Int:=tcp ((eu n (bV n f e)).getD i []) (cw n f e k) ((eu n (bV n f e)).getD i []).length j
def p6 (n:Nat) (f:Nat→Nat→Nat) (e i:Nat):PV:=.list (ll (iR (eu n (bV n f e)).length (ct n f e i)))
def zs (c j:Nat):List (List Int):=List.replicate j (List.replicate c 0)
theorem ka (c j:Nat):(zs c j).length=j:=by simp [zs]
theorem Dn (c j:Nat) (x y:aL):aq (tl (zs c j)++[x]++[y]) (j + 1)=y:=by
 have:j + 1=(tl (zs c j)++[x]).length:=by simp [aD,ka]
 rw [this]; exact a8 _ _
theorem IB (c j:Nat) (x y z:aL):aq (tl (zs c j)++[x]++[y]++[z]) (j + 2)=z:=by
 have:j + 2=(tl (zs c j)++[x]++[y]).length:=by simp [aD,ka]
 rw [this]; exact a8 _ _
theorem CN (c j:Nat):zs c (j + 1)=zs c j++[List.replicate c 0]:=by
 simp [zs,List.replicate_succ']
theorem II {c j i:Nat} (h:i < j + 1) (y z:aL):aq (tl (zs c j)++[.own (ol (List.replicate c 0))]++[y]++[z]) i = .own (ol ((zs c (j + 1)).getD i [])):=by
 have hl:=ka c (j + 1)
 rw [kR,← CN,aF (by rw [List.length_append,aD,hl]; simp; omega),aF (by rw [aD,hl]; exact h),aV (by rw [hl]; exact h)]
def f3 (g:Nat→Nat→Int) (k j k' : Nat):Int:=if k' < k then g j k' else 0
def f4 (g:Nat→Nat→Int) (A:List Int) (W:Int→Int) (k t j k' : Nat):Int:=if k' < k then g j k' else if k' = k then tcp A W t j else 0
set_option maxHeartbeats 4000000 in
set_option maxRecDepth 20000 in
theorem yM {n e:Nat} {m:List Int} (h:GT n m n e):cL Tryd.prog 42 [gp n m,.list (ll (eu n (bV n (op m n) e)))] (.list ((List.range (eu n (bV n (op m n) e)).length).map (p6 n (op m n) e))):=by
 have G:=h.2.2
 have T:=h.2.1
 have hb:=h.2.1.big
 have E:=G.fL
 have hcl:(eu n (bV n (op m n) e)).length≤n:=iY _ _ _
 generalize hL:eu n (bV n (op m n) e)=L at *
 generalize hc:L.length=c at *
 refine aM ae Tryd.func42 rfl (by kernel_rfl) (by rw [Tryd.ntmps42]; exact Nat.le_add_left 2 _) ?_; rw [Tryd.ntmps42]
 refine qm ?_
 refine ab fun K hK=>aa ae ?_
 simp only [ak,fl,gp,aj,simprocAttr]
 refine af ?_ (hK _ ?_)<;>clear hK K
 ·first|exact trivial|omega|(simp only [ah] at *; omega)|(simp [ah] at *; omega)|simp_all
 refine qa (qm ?_)
 refine ab fun K hK=>aa ae ?_
 simp only [ak,fl,gp,aj,simprocAttr]
 refine ao trivial (al ((hL ▸ qw m hb E)) rfl rfl rfl (by simp only [ay,Nat.reduceLT]) (by repeat (first|exact trivial|constructor)) (aa ae ?_))
 simp only [ak,fl,gp,aj,simprocAttr]
 refine af ?_ (hK _ ?_)<;>clear hK K
 ·first|exact trivial|omega|(simp only [ah] at *; omega)|(simp [ah] at *; omega)|simp_all
 refine qa (qm ?_)
 refine ab fun K hK=>aa ae ?_
 simp only [ak,fl,gp,aj,simprocAttr]
 refine af trivial (hK _ ?_)<;>clear hK K
 refine qa (qm (qm ?_))
 refine bT 6 rfl ?_
 refine ab fun K hK=>aa ae ?_
 simp only [ak,fl,gp,aj,simprocAttr,au,hc]
 refine af trivial (hK _ ?_)<;>clear hK K
 refine qa (ql ?_)
 refine aA (ι:=Nat) (fun i=>⟨76,[(1,.p (.list (ll L))),(2,.ptr 0 0),(5,.p (.list (il (pD n (bV n (op m n) e))))),(6,.sl 1 0 i),(18,.p (.list (ll L))),(19,.p (.int .i64 c)),(20,.p (.int .i64 i))],[.own [.p (.int .i64 n),.p (.list (il m))],.own (bE ((List.range i).map (p6 n (op m n) e)))]⟩) (fun i=>i≤c) (fun i=>c - i) 0 (Nat.zero_le _) [0,1] (by simp only [leq,bh,ak,fl,gp,aj,simprocAttr]<;>simp [bE]) fun i hi=>?_
 refine qm ?_
 refine ab fun K hK=>aa ae ?_
 simp only [ak,fl,gp,aj,simprocAttr]
 refine af trivial (hK _ ?_)<;>clear hK K
 refine qa (qm ?_)
 refine an rfl (fun hC1=>?_) (fun hC1=>?_)
 ·(try simp only [aI] at hC1)
  have hlt:i < L.length:=by omega
  refine qh (qa (qm (ql (qm ?_))))
  refine ab fun K hK=>aa ae ?_
  simp only [ak,fl,gp,aj,simprocAttr,au,bD hlt]
  refine af ?_ (hK _ ?_)<;>clear hK K
  ·omega
  refine qa (qm ?_)
  refine ab fun K hK=>aa ae ?_
  simp only [ak,fl,gp,aj,simprocAttr]
  refine af trivial (hK _ ?_)<;>clear hK K
  refine qa (qm (qm ?_))
  refine bT 9 rfl ?_
  refine ab fun K hK=>aa ae ?_
  simp only [ak,fl,gp,aj,simprocAttr,au,hc]
  refine af trivial (hK _ ?_)<;>clear hK K
  refine qa (ql ?_)
  refine aA (ι:=Nat) (fun j=>⟨76,[(1,.p (.list (ll L))),(2,.ptr 0 0),(5,.p (.list (il (pD n (bV n (op m n) e))))),(6,.sl 1 0 i),(8,.p (.list (il (L.getD i [])))),(9,.sl 2 0 j),(18,.p (.list (ll L))),(19,.p (.int .i64 c)),(20,.p (.int .i64 i)),(25,.p (.int .i64 c)),(26,.p (.int .i64 j))],.own [.p (.int .i64 n),.p (.list (il m))] :: .own (bE ((List.range i).map (p6 n (op m n) e))) :: .own (rws c j) :: tl (zs c j)⟩) (fun j=>j≤c) (fun j=>c - j) 0 (Nat.zero_le _) [0,1,2] (by simp only [leq,bh,ak,fl,gp,aj,simprocAttr]<;>simp [rws,qI,zs,tl,kp]) fun j hj=>?_
  refine qm ?_
  refine ab fun K hK=>aa ae ?_
  simp only [ak,fl,gp,aj,simprocAttr]
  refine af trivial (hK _ ?_)<;>clear hK K
  refine qa (qm ?_)
  refine an rfl (fun hC2=>?_) (fun hC2=>?_)
  ·(try simp only [aI] at hC2)
   have hjl:j < c:=by omega
   refine qh (qa (qm (ql ?_)))
   refine ab fun K hK=>aa ae ?_
   simp only [ak,fl,gp,aj,simprocAttr,au,hc,a8,ta,aD,ka,List.length_append,cg,Dn,lA]
   refine ao ?_ (eM (cu ae rfl rfl rfl rfl rfl rfl) rfl (by simp only [ay,Nat.reduceLT]) (aa ae ?_))
   ·first|exact trivial|omega|(simp only [ah] at *; omega)|(simp [ah] at *; omega)|simp_all
   simp only [ak,fl,gp,aj,simprocAttr,au,hc,a8,ta,aD,ka,List.length_append,cg,Dn,lA]
   refine af ?_ (hK _ ?_)<;>clear hK K
   ·rw [dW]; exact ⟨AU _ _,by omega,by omega,by omega⟩
   refine qd (qa ?_)
   refine ab fun K hK=>aa ae ?_
   simp only [ak,fl,gp,aj,simprocAttr]
   refine af ?_ (hK _ ?_)<;>clear hK K
   ·first|exact trivial|omega|(simp only [ah] at *; omega)|(simp [ah] at *; omega)|simp_all
   refine qa ?_
   refine ⟨j + 1,0 :: 1 :: (j + 5) :: List.range' 3 (j + 1),by omega,by omega,?_⟩
   refine jL (N:=c) (G:=[.int .i64 n,.list (il m)]) (O:=(List.range i).map (p6 n (op m n) e)) (ka c (j + 1)) rfl rfl ⟨by omega,by omega,.inr (by omega)⟩ rfl rfl (IB c j _ _ _) (fun q hq=>II hq _ _) ?_
   simp [jY,St.get,lk,Go.Pv.bl,bu,bb,br]
  (try simp only [aI] at hC2)
  have hjc:j=c:=by omega
  subst hjc
  refine qj (qc (qc (qf (qa (qm (qm ?_))))))
  refine ab fun K hK=>aa ae ?_
  simp only [ak,fl,gp,aj,simprocAttr,au,hc]
  refine af trivial (hK _ ?_)<;>clear hK K
  refine qa (ql ?_)
  refine aA (ι:=Nat) (fun k=>⟨76,[(1,.p (.list (ll L))),(2,.ptr 0 0),(5,.p (.list (il (pD n (bV n (op m n) e))))),(6,.sl 1 0 i),(8,.p (.list (il (L.getD i [])))),(9,.sl 2 0 j),(18,.p (.list (ll L))),(19,.p (.int .i64 j)),(20,.p (.int .i64 i)),(35,.p (.list (ll L))),(36,.p (.int .i64 j)),(37,.p (.int .i64 k))],.own [.p (.int .i64 n),.p (.list (il m))] :: .own (bE ((List.range i).map (p6 n (op m n) e))) :: .own (rws j j) :: tl (iR j (f3 (ct n (op m n) e i) k))⟩) (fun k=>k≤j) (fun k=>j - k) 0 (Nat.zero_le _) (0 :: 1 :: 2 :: List.range' 3 j) (by
   refine jL (N:=j) (G:=[.int .i64 n,.list (il m)]) (O:=(List.range i).map (p6 n (op m n) e)) (dQ _ _) rfl rfl ⟨by omega,by omega,.inl rfl⟩ rfl rfl rfl (fun q hq=>?_) ?_
   ·show aq (tl (zs j j)) q=_
    rw [aV (by rw [ka]; exact hq)]
    congr 2
    rw [zs,zA]
    rfl
   simp [jY,St.get,lk,Go.Pv.bl,bu,bb,br]) fun k hk=>?_
  refine qm ?_
  refine ab fun K hK=>aa ae ?_
  simp only [ak,fl,gp,aj,simprocAttr]
  refine af trivial (hK _ ?_)<;>clear hK K
  refine qa (qm ?_)
  refine an rfl (fun hC3=>?_) (fun hC3=>?_)
  ·(try simp only [aI] at hC3)
   have hkl:k < L.length:=by omega
   refine qh (qa (qm (ql (qm ?_))))
   refine ab fun K hK=>aa ae ?_
   simp only [ak,fl,gp,aj,simprocAttr,au,bD hkl]
   refine af ?_ (hK _ ?_)<;>clear hK K
   ·omega
   refine qa (qm ?_)
   refine ab fun K hK=>aa ae ?_
   simp only [ak,fl,gp,aj,simprocAttr]
   refine af trivial (hK _ ?_)<;>clear hK K
   refine qa (ql ?_)
   refine aA (ι:=Nat) (fun t=>⟨76,[(1,.p (.list (ll L))),(2,.ptr 0 0),(5,.p (.list (il (pD n (bV n (op m n) e))))),(6,.sl 1 0 i),(8,.p (.list (il (L.getD i [])))),(9,.sl 2 0 j),(10,.p (.int .i64 k)),(11,.p (.list (il (L.getD k [])))),(18,.p (.list (ll L))),(19,.p (.int .i64 j)),(20,.p (.int .i64 i)),(35,.p (.list (ll L))),(36,.p (.int .i64 j)),(37,.p (.int .i64 k)),(42,.p (.list (il (L.getD i [])))),(43,.p (.int .i64 (L.getD i []).length)),(44,.p (.int .i64 t))],.own [.p (.int .i64 n),.p (.list (il m))] :: .own (bE ((List.range i).map (p6 n (op m n) e))) :: .own (rws j j) :: tl (iR j (f4 (ct n (op m n) e i) (L.getD i []) (cw n (op m n) e k) k t))⟩) (fun t=>t≤(L.getD i []).length) (fun t=>(L.getD i []).length - t) 0 (Nat.zero_le _) (0 :: 1 :: 2 :: List.range' 3 j) (by
    refine jL (N:=j) (G:=[.int .i64 n,.list (il m)]) (O:=(List.range i).map (p6 n (op m n) e)) (dQ _ _) rfl rfl ⟨by omega,by omega,.inl rfl⟩ rfl rfl rfl (fun q hq=>?_) ?_
    ·show aq (tl (iR j _)) q=_
     rw [aV (by rw [dQ]; exact hq)]
     congr 3
     refine jM fun a _ b _=>?_
     unfold f3 f4
     split
     ·rfl
     split
     ·rw [yp]
     rfl
    simp [jY,St.get,lk,Go.Pv.bl,bu,bb,br,aJ]) fun t ht=>?_
   refine qm ?_
   refine ab fun K hK=>aa ae ?_
   simp only [ak,fl,gp,aj,simprocAttr]
   refine af trivial (hK _ ?_)<;>clear hK K
   refine qa (qm ?_)
   refine an rfl (fun hC4=>?_) (fun hC4=>?_)
   ·(try simp only [aI] at hC4)
    have htl:t < (L.getD i []).length:=by omega
    obtain ⟨x,x1,x2,x3,x4⟩:=iB (n:=n) (r:=bV n (op m n) e) (i:=i) (by rw [hL]; exact hlt)
    obtain ⟨y,y1,y2,y3,y4⟩:=iB (n:=n) (r:=bV n (op m n) e) (i:=k) (by rw [hL]; exact hkl)
    rw [hL] at x3 y3
    obtain ⟨a,a1,a2,a3⟩:=qY (n:=n) (p:=bV n (op m n) e x) (by rw [← x3]; exact htl)
    rw [← x3] at a3
    obtain ⟨hd1,hd2⟩:=(jG y1).1 y2
    rw [← y3] at hd1 hd2
    have hia:=G.az a1
    have hpr:=T.lt hia y1
    obtain ⟨q,q1,q2⟩:=q6 E hpr
    have hwq:=oc E q1 hpr q2
    rw [hL] at q1 hwq
    have hcwa:cw n (op m n) e k ((L.getD i []).getD t 0)=(q:Int):=by
     rw [a3]
     unfold cw
     rw [Int.toNat_natCast,y4,hL,hwq]
    have hwl:(pD n (bV n (op m n) e)).length=n:=fK _ _
    have hwg:(pD n (bV n (op m n) e)).getD (op m n (iv n (op m n) e a) y) 0=(q:Int):=by rw [pD,jB hpr,hL,hwq]
    refine qh (qa (qm (ql (qm ?_))))
    refine ab fun K hK=>aa ae ?_
    simp only [ak,fl,gp,aj,simprocAttr,aW htl,a3]
    refine af ?_ (hK _ ?_)<;>clear hK K
    ·first|exact trivial|omega|(simp only [ah] at *; omega)|(simp [ah] at *; omega)|simp_all
    refine qa (qm ?_)
    refine tO mixed fun K hK=>dY ae ?_
    simp only [EP,ak,fl,gp,aj,simprocAttr,aW hd1,hd2]
    refine gV ?_ (fS (rA h a1) rfl rfl rfl rfl (by simp only [ay,Nat.reduceLT]) (by repeat (first|exact trivial|constructor)) (dY ae ?_))
    ·first|exact trivial|omega|(simp only [ah] at *; omega)|(simp [ah] at *; omega)|simp_all
    simp only [EP,ak,fl,gp,aj,simprocAttr,aW hd1,hd2]
    refine gV ?_ (fS (nj T hia y1) rfl rfl rfl rfl (by simp only [ay,Nat.reduceLT]) (by repeat (first|exact trivial|constructor)) (dY ae ?_))
    ·first|exact trivial|omega|(simp only [ah] at *; omega)|(simp [ah] at *; omega)|simp_all
    simp only [EP,ak,fl,gp,aj,simprocAttr,aW hd1,hd2]
    refine sZ ?_ (hK _ _ (by first|kernel_rfl|rfl) ?_)<;>clear hK K
    ·first|exact trivial|omega|(simp only [ah] at *; omega)|(simp [ah] at *; omega)|simp_all
    refine qa ?_
    refine ab fun K hK=>aa ae ?_
    simp only [ak,fl,gp,aj,simprocAttr,aW (show op m n (iv n (op m n) e a) y < (pD n (bV n (op m n) e)).length by omega),hwg,Bg (show q < j by omega),aV (show q < (iR j (f4 (ct n (op m n) e i) (L.getD i []) (cw n (op m n) e k) k t)).length by rw [dQ]; omega),ve (show q < j by omega),bK (show k < (lN j (f4 (ct n (op m n) e i) (L.getD i []) (cw n (op m n) e k) k t q)).length by rw [fK]; omega),eK,iG,Cj,jB (show k < j by omega)]
    refine af ?_ (hK _ ?_)<;>clear hK K
    ·have hf4:f4 (ct n (op m n) e i) (L.getD i []) (cw n (op m n) e k) k t q k=tcp (L.getD i []) (cw n (op m n) e k) t q:=by unfold f4; rw [if_neg (Nat.lt_irrefl _),if_pos rfl]
     have hr:=wi (L.getD i []) (cw n (op m n) e k) t q
     have hAl:(L.getD i []).length≤n:=by rw [x3]; exact j6 _ _
     rw [hf4,fK,dW]
     simp only [ah]
     omega
    refine qd (qa ?_)
    refine ab fun K hK=>aa ae ?_
    simp only [ak,fl,gp,aj,simprocAttr]
    refine af ?_ (hK _ ?_)<;>clear hK K
    ·have hAl:(L.getD i []).length≤n:=by rw [x3]; exact j6 _ _
     simp only [ah]; omega
    refine qa ?_
    refine ⟨t + 1,0 :: 1 :: 2 :: List.range' 3 j,by omega,by omega,?_⟩
    refine jL (N:=j) (G:=[.int .i64 n,.list (il m)]) (O:=(List.range i).map (p6 n (op m n) e)) (dQ _ _) rfl rfl ⟨by omega,by omega,.inl rfl⟩ rfl rfl rfl (fun q' hq'=>?_) ?_
    ·show aq (tl (iR j _)) q' = _
     rw [aV (by rw [dQ]; exact hq')]
     congr 3
     refine jM fun a' _ b' _=>?_
     unfold f4
     by_cases h1:b' < k
     ·rw [if_pos h1,if_pos h1,if_neg (by omega)]
     rw [if_neg h1,if_neg h1]
     by_cases h2:b' = k
     ·subst h2
      rw [if_pos rfl,if_pos rfl,if_neg (Nat.lt_irrefl _),if_pos rfl,A1 _ htl,hcwa]
      by_cases h3:a' = q
      ·subst h3
       rw [if_pos ⟨rfl,rfl⟩,if_pos rfl]
      rw [if_neg (by omega),if_neg (by omega),Int.add_zero]
     rw [if_neg h2,if_neg h2,if_neg (by omega)]
    simp [jY,St.get,lk,Go.Pv.bl,bu,bb,br]
   (try simp only [aI] at hC4)
   have htl:t=(L.getD i []).length:=by omega
   subst htl
   refine qj (qc (qc (qf (qd (qa ?_)))))
   refine ab fun K hK=>aa ae ?_
   simp only [ak,fl,gp,aj,simprocAttr]
   refine af ?_ (hK _ ?_)<;>clear hK K
   ·first|exact trivial|omega|(simp only [ah] at *; omega)|(simp [ah] at *; omega)|simp_all
   refine qa ?_
   refine ⟨k + 1,0 :: 1 :: 2 :: List.range' 3 j,by omega,by omega,?_⟩
   refine jL (N:=j) (G:=[.int .i64 n,.list (il m)]) (O:=(List.range i).map (p6 n (op m n) e)) (dQ _ _) rfl rfl ⟨by omega,by omega,.inl rfl⟩ rfl rfl rfl (fun q' hq'=>?_) ?_
   ·show aq (tl (iR j _)) q' = _
    rw [aV (by rw [dQ]; exact hq')]
    congr 3
    refine jM fun a' _ b' _=>?_
    unfold f3 f4
    by_cases h1:b' < k
    ·rw [if_pos h1,if_pos (by omega)]
    rw [if_neg h1]
    by_cases h2:b' = k
    ·subst h2
     rw [if_pos rfl,if_pos (by omega),ct,hL]
    rw [if_neg h2,if_neg (by omega)]
   simp [jY,St.get,lk,Go.Pv.bl,bu,bb,br]
  (try simp only [aI] at hC3)
  refine qj (qc (qc (qf (qa ?_))))
  have hkj:k=j:=by omega
  subst hkj
  refine CK 9 (N:=k) (M:=iR k (f3 (ct n (op m n) e i) k)) wF (by rw [dQ]; rfl) (by rw [dQ]) ?_
  have hfin:iR k (f3 (ct n (op m n) e i) k)=iR k (ct n (op m n) e i):=jM fun a _ b hb=>by unfold f3; rw [if_pos hb]
  rw [hfin]
  refine C7 (s1:=⟨76,[(1,.p (.list (ll L))),(2,.ptr 0 0),(5,.p (.list (il (pD n (bV n (op m n) e))))),(6,.sl 1 0 i),(9,.p (.list (ll (iR k (ct n (op m n) e i))))),(18,.p (.list (ll L))),(19,.p (.int .i64 k)),(20,.p (.int .i64 i))],[.own [.p (.int .i64 n),.p (.list (il m))],.own (bE ((List.range i).map (p6 n (op m n) e)))]⟩) [0,1] (by simp only [leq,bh,ak,fl,gp,aj,simprocAttr]) ?_
  refine ab fun K hK=>aa ae ?_
  simp only [ak,fl,gp,aj,simprocAttr,kQ]
  refine af ?_ (hK _ ?_)<;>clear hK K
  ·refine ⟨?_,by simp,by omega,by omega⟩
   rw [List.take_of_length_le (by simp)]
   exact uF (by simp [PV.one,p6])
  refine qd (qa ?_)
  refine ab fun K hK=>aa ae ?_
  simp only [ak,fl,gp,aj,simprocAttr]
  refine af ?_ (hK _ ?_)<;>clear hK K
  ·first|exact trivial|omega|(simp only [ah] at *; omega)|(simp [ah] at *; omega)|simp_all
  refine qa ?_
  have hsn:(List.range i).map (p6 n (op m n) e)++[.list (ll (iR k (ct n (op m n) e i)))]=(List.range (i + 1)).map (p6 n (op m n) e):=by
   rw [List.range_succ,List.map_append]
   simp [p6,hL,hc]
  refine ⟨i + 1,[0,2],by omega,by omega,?_⟩
  simp only [leq,bh,ak,fl,gp,aj,simprocAttr]
  rw [List.take_of_length_le (show ((List.range i).map (p6 n (op m n) e)).length≤i by simp),hsn,List.take_length]
 (try simp only [aI] at hC1)
 have hic:i=c:=by omega
 subst hic
 refine oC 6 1 (l:=(List.range i).map (p6 n (op m n) e)) (by simp [PV.one,p6]) (by simp; rfl) rfl ?_
 refine qj (qc (qc (qf (qa (qm ?_)))))
 refine ab fun K hK=>aa ae ?_
 simp only [ak,fl,gp,aj,simprocAttr]
 refine af trivial (hK _ ?_)<;>clear hK K
 refine qa (qk ?_)
 simp only [Tryd.results42,cy,ak,fl,gp,aj,simprocAttr]
 all_goals (rfl)
def p1 (M x:Nat):Nat:=(x / 2 &&& M) + (x &&& M)
def p2 (M x:Nat):Nat:=(x / 4 &&& M) + (x &&& M)
theorem dv {a B q:Nat} (h:a < B):(a + B * q) / B=q:=by
 rw [Nat.add_mul_div_left _ _ (Nat.lt_of_le_of_lt (Nat.zero_le _) h),Nat.div_eq_of_lt h,Nat.zero_add]
theorem l3 {E0 E1 E2 E3:Nat} (h0:E0≤5000) (h1:E1≤5000) (h2:E2≤5000) (h3:E3≤5000) :
  let y4:=E0 + 65536 * (E1 + 65536 * (E2 + 65536 * E3))
  let y5:=y4 + y4 / 65536
  (y5 + y5 / 4294967296) % 128=(E0 + E1 + E2 + E3) % 128:=by
 intro y4 y5
 have a1:y4 / 65536=E1 + 65536 * (E2 + 65536 * E3):=dv (by omega)
 have a2:y5=((E0 + E1) + 65536 * (E1 + E2)) + 4294967296 * ((E2 + E3) + 65536 * E3):=by
  show y4 + y4 / 65536=_
  rw [a1]; show E0 + 65536 * (E1 + 65536 * (E2 + 65536 * E3)) + _=_
  omega
 have a3:y5 / 4294967296=(E2 + E3) + 65536 * E3:=by rw [a2]; exact dv (by omega)
 rw [a3,a2]
 omega
theorem l1 {d0 d1 d2 d3 d4 d5 d6 d7:Nat} : d0 + 256 * (d1 + 256 * (d2 + 256 * (d3 + 256 * (d4 + 256 * (d5 + 256 * (d6 + 256 * d7)))))) + (d1 + 256 * (d2 + 256 * (d3 + 256 * (d4 + 256 * (d5 + 256 * (d6 + 256 * d7)))))) =
  (d0 + d1 + 256 * (d1 + d2)) + 65536 * ((d2 + d3 + 256 * (d3 + d4)) + 65536 * ((d4 + d5 + 256 * (d5 + d6)) + 65536 * (d6 + d7 + 256 * d7))):=by
 omega
def iH (x y:Int):Int:=if x < y then -1 else if y < x then 1 else 0
def dG:List Int→List Int→Int
 | [],[]=>0
 | [],_ :: _=>-1
 | _ :: _,[]=>1
 | x :: v,y :: w=>if iH x y=0 then dG v w else iH x y
theorem wm (x:Int):cL Tryd.prog 114 [.int .i64 x] (.bool false):=by
 refine aM ae Tryd.func114 rfl (by kernel_rfl) (by rw [Tryd.ntmps114]; exact Nat.le_add_left 1 _) ?_; rw [Tryd.ntmps114]
 refine qm ?_
 refine ab fun K hK=>aa ae ?_
 simp only [ak,fl,gp,aj,simprocAttr]
 refine af trivial (hK _ ?_)<;>clear hK K
 refine qa (qm ?_)
 refine ab fun K hK=>aa ae ?_
 simp only [ak,fl,gp,aj,simprocAttr]
 refine af trivial (hK _ ?_)<;>clear hK K
 refine qa (qk ?_)
 simp only [Tryd.results114,cy,ak,fl,gp,aj,simprocAttr]
 all_goals ((first|exact rfl|exact ⟨rfl,rfl⟩|exact ⟨rfl,rfl,rfl⟩|exact ⟨trivial,rfl⟩|exact ⟨Nat.le_refl _,rfl⟩|trivial|(simp; done)))
theorem xo (x y:Int):cL Tryd.prog 84 [.int .i64 x,.int .i64 y] (.int .i64 (iH x y)):=by
 refine aM ae Tryd.func84 rfl (by kernel_rfl) (by rw [Tryd.ntmps84]; exact Nat.le_add_left 2 _) ?_; rw [Tryd.ntmps84]
 refine qm ?_
 refine ab fun K hK=>aa ae ?_
 simp only [ak,fl,gp,aj,simprocAttr]
 refine af trivial (hK _ ?_)<;>clear hK K
 refine qa (qm ?_)
 refine ab fun K hK=>aa ae ?_
 simp only [ak,fl,gp,aj,simprocAttr]
 refine ao trivial (al (wm x) rfl rfl rfl (by simp only [ay,Nat.reduceLT]) (by repeat (first|exact trivial|constructor)) (aa ae ?_))
 simp only [ak,fl,gp,aj,simprocAttr]
 refine af trivial (hK _ ?_)<;>clear hK K
 refine qa (qm ?_)
 refine ab fun K hK=>aa ae ?_
 simp only [ak,fl,gp,aj,simprocAttr]
 refine ao trivial (al (wm y) rfl rfl rfl (by simp only [ay,Nat.reduceLT]) (by repeat (first|exact trivial|constructor)) (aa ae ?_))
 simp only [ak,fl,gp,aj,simprocAttr]
 refine af trivial (hK _ ?_)<;>clear hK K
 refine qa (qm (qm ?_))
 refine ab fun K hK=>aa ae ?_
 simp only [ak,fl,gp,aj,simprocAttr]
 refine af trivial (hK _ ?_)<;>clear hK K
 refine qa ?_
 refine an rfl (fun hC1=>?_) (fun hC1=>?_)
 ·cases hC1
 (try simp only [aI] at hC1)
 refine qh (qa (qm (qm ?_)))
 refine ab fun K hK=>aa ae ?_
 simp only [ak,fl,gp,aj,simprocAttr]
 refine af trivial (hK _ ?_)<;>clear hK K
 refine qa ?_
 refine an rfl (fun hC3=>?_) (fun hC3=>?_)
 ·cases hC3
 (try simp only [aI] at hC3)
 refine qh (qa (qm (qm ?_)))
 refine ab fun K hK=>aa ae ?_
 simp only [ak,fl,gp,aj,simprocAttr]
 refine af trivial (hK _ ?_)<;>clear hK K
 refine qa ?_
 refine an rfl (fun hC4=>?_) (fun hC4=>?_)
 ·(try simp only [aI] at hC4)
  refine qm ?_
  refine ab fun K hK=>aa ae ?_
  simp only [ak,fl,gp,aj,simprocAttr]
  refine af trivial (hK _ ?_)<;>clear hK K
  refine qa (qk (qb ?_))
  simp only [Tryd.results84,cy,ak,fl,gp,aj,simprocAttr]
  all_goals (unfold iH; rw [if_pos hC4])
 (try simp only [aI] at hC4)
 refine qh (qa (qm (qm ?_)))
 refine ab fun K hK=>aa ae ?_
 simp only [ak,fl,gp,aj,simprocAttr]
 refine af trivial (hK _ ?_)<;>clear hK K
 refine qa ?_
 refine an rfl (fun hC5=>?_) (fun hC5=>?_)
 ·(try simp only [aI] at hC5)
  refine qm ?_
  refine ab fun K hK=>aa ae ?_
  simp only [ak,fl,gp,aj,simprocAttr]
  refine af trivial (hK _ ?_)<;>clear hK K
  refine qa (qk (qb ?_))
  simp only [Tryd.results84,cy,ak,fl,gp,aj,simprocAttr]
  all_goals (unfold iH; rw [if_neg hC4,if_pos hC5])
 (try simp only [aI] at hC5)
 refine qh (qa (qm ?_))
 refine ab fun K hK=>aa ae ?_
 simp only [ak,fl,gp,aj,simprocAttr]
 refine af trivial (hK _ ?_)<;>clear hK K
 refine qa (qk ?_)
 simp only [Tryd.results84,cy,ak,fl,gp,aj,simprocAttr]
 all_goals (unfold iH; rw [if_neg hC4,if_neg hC5])
theorem pJ {v w:List Int} : ∀ {i:Nat},(∀ j,j < i→j < v.length→j < w.length∧iH (v.getD j 0) (w.getD j 0)=0)→i≤v.length→dG v w=dG (v.drop i) (w.drop i)
 | 0,_,_=>rfl
 | i + 1,h,hi=>by
  cases v with
  | nil=>simp at hi
  | cons x v =>
   cases w with
   | nil=>have:=(h 0 (by omega) (by simp)).1; simp at this
   | cons y w =>
    have h0:=(h 0 (by omega) (by simp)).2
    simp at h0
    have ih:=pJ (v:=v) (w:=w) (i:=i) (fun j hj hjv=>by
     have:=h (j + 1) (by omega) (by simpa using hjv)
     simpa using this) (by simpa using hi)
    simp only [List.drop_succ_cons]
    rw [← ih]
    show (if iH x y=0 then dG v w else iH x y)=_
    rw [if_pos h0]
theorem mo {v:List Int} {i:Nat} (h:i < v.length):v.drop i=v.getD i 0 :: v.drop (i + 1):=by
 rw [List.drop_eq_getElem_cons h]
 congr 1
 simp [List.getD,List.getElem?_eq_getElem h]
theorem ud (v w:List Int) (hv:v.length≤1000000000) (hw:w.length≤1000000000):cL Tryd.prog 50 [.list (il v),.list (il w)] (.int .i64 (dG v w)):=by
 refine aM ae Tryd.func50 rfl (by kernel_rfl) (by rw [Tryd.ntmps50]; exact Nat.le_add_left 2 _) ?_; rw [Tryd.ntmps50]
 refine qm ?_
 refine ab fun K hK=>aa ae ?_
 simp only [ak,fl,gp,aj,simprocAttr]
 refine af trivial (hK _ ?_)<;>clear hK K
 refine qa (qm (qm ?_))
 refine ab fun K hK=>aa ae ?_
 simp only [ak,fl,gp,aj,simprocAttr,aJ]
 refine af trivial (hK _ ?_)<;>clear hK K
 refine qa (ql ?_)
 refine aA (ι:=Nat) (fun i=>⟨36,[(0,.p (.list (il v))),(1,.p (.list (il w))),(9,.p (.list (il v))),(10,.p (.int .i64 v.length)),(11,.p (.int .i64 i))],[]⟩) (fun i=>i≤v.length∧∀ j,j < i→j < v.length→j < w.length∧iH (v.getD j 0) (w.getD j 0)=0) (fun i=>v.length - i) 0 ⟨Nat.zero_le _,fun j hj=>by omega⟩ [] (by simp only [leq,bh,ak,fl,gp,aj,simprocAttr]<;>trivial) fun i hi=>?_
 obtain ⟨hi1,hi2⟩:=hi
 have hd:=pJ hi2 hi1
 refine qm ?_
 refine ab fun K hK=>aa ae ?_
 simp only [ak,fl,gp,aj,simprocAttr]
 refine af trivial (hK _ ?_)<;>clear hK K
 refine qa (qm ?_)
 refine an rfl (fun hC1=>?_) (fun hC1=>?_)
 ·(try simp only [aI] at hC1)
  have hlt:i < v.length:=by omega
  have hdv:=mo hlt
  refine qh (qa (qm (ql (qm ?_))))
  refine ab fun K hK=>aa ae ?_
  simp only [ak,fl,gp,aj,simprocAttr,aW hlt]
  refine af ?_ (hK _ ?_)<;>clear hK K
  ·first|exact trivial|omega|(simp only [ah] at *; omega)|(simp [ah] at *; omega)|simp_all
  refine qa (qm (qm ?_))
  refine ab fun K hK=>aa ae ?_
  simp only [ak,fl,gp,aj,simprocAttr,aJ]
  refine af trivial (hK _ ?_)<;>clear hK K
  refine qa ?_
  refine an rfl (fun hC2=>?_) (fun hC2=>?_)
  ·(try simp only [aI] at hC2)
   refine qm ?_
   refine ab fun K hK=>aa ae ?_
   simp only [ak,fl,gp,aj,simprocAttr]
   refine af trivial (hK _ ?_)<;>clear hK K
   refine qa (qk (qb (qe (qb (qb (qe (qb ?_)))))))
   simp only [Tryd.results50,cy,ak,fl,gp,aj,simprocAttr]
   have hdw:w.drop i=[]:=List.drop_eq_nil_of_le (by omega)
   rw [hd,hdv,hdw]; rfl
  (try simp only [aI] at hC2)
  have hlw:i < w.length:=by omega
  have hdw:=mo hlw
  refine qh (qa (qm ?_))
  refine ab fun K hK=>aa ae ?_
  simp only [ak,fl,gp,aj,simprocAttr,aW hlw]
  refine af ?_ (hK _ ?_)<;>clear hK K
  ·first|exact trivial|omega|(simp only [ah] at *; omega)|(simp [ah] at *; omega)|simp_all
  refine qa (qm ?_)
  refine ab fun K hK=>aa ae ?_
  simp only [ak,fl,gp,aj,simprocAttr]
  refine ao trivial (al (xo (v.getD i 0) (w.getD i 0)) rfl rfl rfl (by simp only [ay,Nat.reduceLT]) (by repeat (first|exact trivial|constructor)) (aa ae ?_))
  simp only [ak,fl,gp,aj,simprocAttr]
  refine af trivial (hK _ ?_)<;>clear hK K
  refine qa (qm ?_)
  refine ab fun K hK=>aa ae ?_
  simp only [ak,fl,gp,aj,simprocAttr]
  refine af trivial (hK _ ?_)<;>clear hK K
  refine qa ?_
  refine an rfl (fun hC3=>?_) (fun hC3=>?_)
  ·(try simp only [aI] at hC3)
   refine qm ?_
   refine ab fun K hK=>aa ae ?_
   simp only [ak,fl,gp,aj,simprocAttr]
   refine af trivial (hK _ ?_)<;>clear hK K
   refine qa (qk (qe (qb (qb (qe (qb ?_))))))
   simp only [Tryd.results50,cy,ak,fl,gp,aj,simprocAttr]
   rw [hd,hdv,hdw]
   show _=if _ then _ else _
   rw [if_neg hC3]
  (try simp only [aI] at hC3)
  refine qh (qd (qa ?_))
  refine ab fun K hK=>aa ae ?_
  simp only [ak,fl,gp,aj,simprocAttr]
  refine af ?_ (hK _ ?_)<;>clear hK K
  ·first|exact trivial|omega|(simp only [ah] at *; omega)|(simp [ah] at *; omega)|simp_all
  refine qa ?_
  refine ⟨i + 1,[],⟨by omega,fun j hj hjv=>?_⟩,by omega,?_⟩
  ·by_cases hji:j=i
   ·rw [hji]; exact ⟨hlw,by simpa using hC3⟩
   exact hi2 j (by omega) hjv
  simp only [leq,bh,ak,fl,gp,aj,simprocAttr]<;>omega
 (try simp only [aI] at hC1)
 have hin:i=v.length:=by omega
 have hdv:v.drop i=[]:=List.drop_eq_nil_of_le (by omega)
 refine qj (qc (qc (qf (qa (qm (qm ?_))))))
 refine ab fun K hK=>aa ae ?_
 simp only [ak,fl,gp,aj,simprocAttr,aJ]
 refine af trivial (hK _ ?_)<;>clear hK K
 refine qa ?_
 refine an rfl (fun hC4=>?_) (fun hC4=>?_)
 ·(try simp only [aI] at hC4)
  refine qm ?_
  refine ab fun K hK=>aa ae ?_
  simp only [ak,fl,gp,aj,simprocAttr]
  refine af trivial (hK _ ?_)<;>clear hK K
  refine qa (qk (qb ?_))
  simp only [Tryd.results50,cy,ak,fl,gp,aj,simprocAttr]
  all_goals (rw [hd,hdv,mo (v:=w) (i:=i) (by omega)]; rfl)
 (try simp only [aI] at hC4)
 refine qh (qa (qm ?_))
 refine ab fun K hK=>aa ae ?_
 simp only [ak,fl,gp,aj,simprocAttr]
 refine af trivial (hK _ ?_)<;>clear hK K
 refine qa (qk ?_)
 simp only [Tryd.results50,cy,ak,fl,gp,aj,simprocAttr]
 have hdw:w.drop i=[]:=by
  refine List.drop_eq_nil_of_le ?_
  omega
 rw [hd,hdv,hdw]; rfl
theorem BF {x y:Int} : iH x y < 0↔x < y:=by
 unfold iH
 by_cases h1:x < y
 ·simp [h1]
 by_cases h2:y < x<;>simp [h1,h2]
theorem qE {x y:Int} : iH x y=0↔x=y:=by
 unfold iH
 by_cases h1:x < y
 ·simp [h1]; omega
 by_cases h2:y < x
 ·simp [h1,h2]; omega
 simp [h1,h2]; omega
theorem lO:∀ v:List Int,dG v v=0
 | []=>rfl
 | x :: v=>by show (if iH x x=0 then dG v v else iH x x)=0; rw [if_pos (qE.2 rfl)]; exact lO v
theorem lg {x y:Int} {v w:List Int} : dG (x :: v) (y :: w) < 0↔x < y∨x=y∧dG v w < 0:=by
 show (if iH x y=0 then dG v w else iH x y) < 0↔_
 by_cases h:iH x y=0
 ·rw [if_pos h]
  have:=qE.1 h
  constructor
  ·exact fun h2=>.inr ⟨this,h2⟩
  rintro (h2 | h2)
  ·omega
  exact h2.2
 rw [if_neg h,BF]
 have:¬ x=y:=fun e=>h (qE.2 e)
 constructor
 ·exact fun h2=>.inl h2
 rintro (h2 | h2)
 ·exact h2
 exact absurd h2.1 this
theorem kP:∀ v w:List Int,¬ dG v w < 0→¬ dG w v < 0→v=w
 | [],[],_,_=>rfl
 | [],_ :: _,h,_=>absurd (show (-1:Int) < 0 by omega) h
 | _ :: _,[],_,h=>absurd (show (-1:Int) < 0 by omega) h
 | x :: v,y :: w,h1,h2=>by
  rw [lg] at h1 h2
  have hxy:x=y:=by omega
  subst hxy
  rw [kP v w (fun h=>h1 (.inr ⟨rfl,h⟩)) (fun h=>h2 (.inr ⟨rfl,h⟩))]
theorem iE:∀ u v w:List Int,dG u v < 0→dG v w < 0→dG u w < 0
 | [],[],_,h,_=>absurd h (by simp [dG])
 | [],_ :: _,[],_,h=>absurd h (by simp [dG])
 | [],_ :: _,_ :: _,_,_=>by simp [dG]
 | _ :: _,[],_,h,_=>absurd h (by simp [dG])
 | _ :: _,_ :: _,[],_,h=>absurd h (by simp [dG])
 | x :: u,y :: v,z :: w,h1,h2=>by
  rw [lg] at h1 h2 ⊢
  rcases h1 with h1 | ⟨rfl,h1⟩
  ·rcases h2 with h2 | ⟨rfl,h2⟩
   ·exact .inl (by omega)
   exact .inl h1
  rcases h2 with h2 | ⟨rfl,h2⟩
  ·exact .inl h2
  exact .inr ⟨rfl,iE u v w h1 h2⟩
theorem nb (u v w:List Int) (h1:¬ dG u v < 0) (h2:¬ dG v w < 0):¬ dG u w < 0:=fun h=>by
 by_cases h3:dG v u < 0
 ·exact h2 (iE _ _ _ h3 h)
 rw [kP _ _ h1 h3] at h; exact h2 h
end Go.Proofs.YtjlmpmidchddjaaDoor
namespace Go.Pv
open Go.RowKit
theorem uI {w w' : World} (h:Below w.heap.size w w'):∃ q os,w' = Go.Sort.grow (w.drewN q) os:=by
 refine ⟨w'.drawn - w.drawn,w'.heap.extract w.heap.size w'.heap.size,?_⟩
 obtain ⟨h1,h2,h3,h4,h5,h6⟩:=h
 cases w with
 | mk heap tape drawn os output =>
  cases w' with
  | mk heap' tape' drawn' os' output' =>
   simp only at h1 h2 h3 h4 h5 h6
   subst h1 h2 h3
   have hh:heap' = heap++heap'.extract heap.size heap'.size:=by
    apply Array.ext_getElem?
    intro k
    by_cases hk:k < heap.size
    ·rw [Array.getElem?_append_left hk]; exact h5 k hk
    rw [Array.getElem?_append_right (by omega),Array.getElem?_extract]
    by_cases hk2:k < heap'.size
    ·rw [if_pos (by simp; omega),show heap.size + (k - heap.size)=k by omega]
    rw [if_neg (by simp; omega),Array.getElem?_eq_none (by omega)]
   have hd:drawn' = drawn + (drawn' - drawn):=by omega
   show World.mk heap' tape' drawn' os' output' = World.mk (heap++heap'.extract heap.size heap'.size) tape' (drawn + (drawn' - drawn)) os' output'
   rw [← hh,← hd]
theorem nq {α:Type} [Inhabited α] (enc:α→Value) (w:World) (blk off m:Nat) (dk:Array α) (os:Array Obj):∀ b,b ≠ blk→b < w.heap.size→(Go.Proofs.sortWorld enc w blk off m dk os).heap[b]? = w.heap[b]?:=by
 intro b hb hs
 unfold Go.Proofs.sortWorld
 rw [Go.Sort.heap_grow_old _ _ (by simpa using hs)]
 simp only [Go.Sort.putRow,Go.Sort.mapBlock,Array.getElem?_modify]
 rw [if_neg (Ne.symm hb)]
 rfl
theorem gq {lt:PV→PV→Prop} : ∀ (xs ys:List PV),xs.Perm ys→(∀ x∈xs,∀ y∈xs,¬ lt x y→¬ lt y x→x=y)→xs.Pairwise (fun x y=>¬ lt y x)→ys.Pairwise (fun x y=>¬ lt y x)→xs=ys
 | [],ys,h,_,_,_=>by simpa using h.symm.eq_nil.symm
 | x :: r,[],h,_,_,_=>by simpa using h.eq_nil
 | x :: r,y :: s,h,ha,h1,h2=>by
  have hxy:x=y:=by
   have hx:x∈y :: s:=h.mem_iff.1 (by simp)
   have hy:y∈x :: r:=h.mem_iff.2 (by simp)
   rcases List.mem_cons.1 hx with hx | hx
   ·exact hx
   rcases List.mem_cons.1 hy with hy' | hy'
   ·exact hy'.symm
   have a1:=(List.pairwise_cons.1 h1).1 y hy'
   have a2:=(List.pairwise_cons.1 h2).1 x hx
   exact ha x (by simp) y hy a2 a1
  subst hxy
  rw [gq r s (List.Perm.cons_inv h) (fun a ha' b hb'=>ha a (by simp [ha']) b (by simp [hb'])) (List.pairwise_cons.1 h1).2 (List.pairwise_cons.1 h2).2]
section
variable {P:Program} {ρ:Go.Shelf.Ren}
theorem ER (L:Go.Proofs.SlLaysF.n6 P ρ) {g:FuncId} {cap:List PV} (xs ys:List PV) (cf:PV→PV→Int) (hne:xs ≠ []) (hone:∀ x∈xs,x.one=true)
  (irr:∀ x∈xs,¬ cf x x < 0) (tr:∀ x∈xs,∀ y∈xs,∀ z∈xs,cf x y < 0→cf y z < 0→cf x z < 0) (ntr:∀ x∈xs,∀ y∈xs,∀ z∈xs,¬ cf x y < 0→¬ cf y z < 0→¬ cf x z < 0)
  (anti:∀ x∈xs,∀ y∈xs,¬ cf x y < 0→¬ cf y x < 0→x=y) (hc:∀ x∈xs,∀ y∈xs,cL P g (x :: y :: cap) (.int .i64 (cf x y)))
  (hperm:xs.Perm ys) (hs:ys.Pairwise fun x y=>¬ cf y x < 0) (hlen:xs.length < 4611686018427387904) :
  FR P (ρ.f 6) [.sl 0 0 xs.length,.p (.fn g cap)] [.own (bE xs)] (.p (.tup [])) [.own (bE ys)]:=by
 have hpos:0 < xs.length:=List.length_pos_iff.2 hne
 refine ⟨?_,fun C m w vals R=>?_⟩
 ·obtain ⟨nm,h1,h2⟩:=L.f6
  exact ⟨_,h2,h1,rfl⟩
 have hsz:vals.size=2:=R.size
 have s0:=R.slot 0
 have s1:=R.slot 1
 simp only [St.get,l9,lk,BEq.rfl,cond_true,show ((0:Nat) == 1)=false from rfl,cond_false] at s0 s1
 generalize hv0:vals.getD 0 undef=v0 at s0
 generalize hv1:vals.getD 1 undef=v1 at s1
 have hvals:vals = #[v0,v1]:=by
  apply Array.ext
  ·simpa using hsz
  intro i h1 h2
  simp only [Array.getD_eq_getD_getElem?] at hv0 hv1
  match i,h2 with
  | 0,_=>rw [Array.getElem?_eq_getElem h1] at hv0; simpa using hv0
  | 1,_=>rw [Array.getElem?_eq_getElem h1] at hv1; simpa using hv1
 subst hvals
 have s1:=s1.aQ
 cases s1 with
 | fn _ _ vs hcl hcr =>
 cases s0 with
 | sl _ _ _ _ hk0 h0 =>
 rcases h0 with ⟨h0,_⟩ | ⟨l,cp,hm,rfl,hle,hlo⟩
 ·omega
 rcases R.blk 0 (bE xs) rfl with ⟨hx,_⟩ | ⟨l',cur,e,hm',hB,hg,hcs,hmx,hol,hcell⟩
 ·exact absurd (show xs=[] by simpa [bE] using hx) hne
 rw [hm] at hm'; cases hm'
 rw [bB] at hol
 generalize hok:OK C m ([.own (bE xs)]++dD 0 [aL.own (bE xs)].length) w=ok at *
 have hokne:∀ b,ok b→b ≠ l.g:=fun b hb=>by
  subst hok
  exact fun e=>hb.2.2 0 _ l rfl hm e.symm
 have hoklt:∀ b,ok b→b < w.heap.size:=fun b hb=>by subst hok; exact hb.2.1
 have hblk:l.g < w.heap.size:=(Array.getElem?_eq_some_iff.1 hg).1
 have hrd:∀ j (h:j < xs.length),Reads ok w xs[j] (cur.getD (l.o + j) undef):=fun j h=>by
  have:=hcell j (by rw [bB]; exact h)
  simp only [bE,List.getElem_map] at this
  subst hok
  exact this.aQ
 let α:={p:PV × Value // p.1∈xs∧Reads ok w p.1 p.2}
 have inh:α:=⟨(xs[0],cur.getD (l.o + 0) undef),List.getElem_mem hpos,hrd 0 hpos⟩
 letI:Inhabited α:=⟨inh⟩
 let enc:α→Value:=fun x=>x.1.2
 let cf' : α→α→Int:=fun x y=>cf x.1.1 y.1.1
 let d:Array α:=Array.ofFn fun j:Fin xs.length=>(⟨(xs[j],cur.getD (l.o + j) undef),List.getElem_mem j.2,hrd j j.2⟩:α)
 have hd:d.size=xs.length:=by simp [d]
 have hdj:∀ j (h:j < xs.length),d[j]! = (⟨(xs[j],cur.getD (l.o + j) undef),List.getElem_mem h,hrd j h⟩:α):=fun j h=>by
  rw [getElem!_pos d j (by omega)]
  simp [d]
 have h1:Go.Proofs.OneCell enc:=fun x=>(Reads.one x.2.2 (hone _ x.2.1)).1
 have hO:Go.Sort.SWO (Go.Proofs.ltOf cf'):=by
  refine ⟨fun x=>?_,fun x y z h1 h2=>?_,fun x y z h1 h2=>?_⟩
  ·exact decide_eq_false (irr _ x.2.1)
  ·exact decide_eq_true (tr _ x.2.1 _ y.2.1 _ z.2.1 (of_decide_eq_true h1) (of_decide_eq_true h2))
  exact decide_eq_false (ntr _ x.2.1 _ y.2.1 _ z.2.1 (of_decide_eq_false h1) (of_decide_eq_false h2))
 have hH:Go.Sort.Holds enc w l.g (l.o + 0) d:=fun j hj=>by
  rw [hd] at hj
  have hjc:l.o + j < cur.size:=by omega
  refine ⟨?_,?_⟩
  ·rw [hdj j hj]
   show w.cell? ⟨l.g,l.o + 0 + j,none⟩=some (cur.getD (l.o + j) undef)
   simp only [World.cell?,hg,Nat.add_zero]
   simp [Array.getD_eq_getD_getElem?,Array.getElem?_eq_getElem hjc]
  simp [World.frozen?,hg]
 have eg:∀ args w,(callFunc g args).run P w = .ok (.enter g args) w:=by
  obtain ⟨fn,f1,f2,f3⟩:=(hc _ (List.getElem_mem hpos) _ (List.getElem_mem hpos)).1
  obtain ⟨c,hcb⟩:=Option.ne_none_iff_exists'.1 (show fn.body ≠ none by intro e; rw [e] at f3; simp at f3)
  exact Go.Proofs.enters_of f1 f2 hcb
 have hcmp:Go.Proofs.CmpLays1 P g vs enc cf' l.g (l.o + 0) d.size w:=fun m1 os dk hs x y=>by
  have hheap:∀ b,ok b→(Go.Proofs.sortWorld enc w l.g (l.o + 0) m1 dk os).heap[b]? = w.heap[b]?:=fun b hb=>nq enc w l.g _ m1 dk os b (hokne b hb) (hoklt b hb)
  have hsw:w.heap.size≤(Go.Proofs.sortWorld enc w l.g (l.o + 0) m1 dk os).heap.size:=by simp [Go.Proofs.sortWorld]
  refine ((hc _ x.2.1 _ y.2.1).2 ok _ (#[enc x,enc y]++vs) ⟨fun b hb=>Nat.lt_of_lt_of_le (hoklt b hb) hsw,fun gg ll hgg=>?_⟩ (by simp [hcl]; omega) fun i hi=>?_).mono fun e' w2 ⟨v,he,hbl,hv⟩=>?_
  ·have:=R.laid gg ll hgg
   rw [hok] at this
   exact this.ext (fun _ h=>h) hheap
  ·match i,hi with
   | 0,_ =>
    have e0:(#[enc x,enc y]++vs).getD 0 undef=enc x:=by simp [Array.getD_eq_getD_getElem?,Array.getElem?_append]
    rw [e0]
    exact x.2.2.ext (fun _ h=>h) hheap
   | 1,_ =>
    have e0:(#[enc x,enc y]++vs).getD 1 undef=enc y:=by simp [Array.getD_eq_getD_getElem?,Array.getElem?_append]
    rw [e0]
    exact y.2.2.ext (fun _ h=>h) hheap
   | i + 2,hi =>
    have hi' : i < cap.length:=by simpa using hi
    have e2:(#[enc x,enc y]++vs).getD (i + 2) undef=vs.getD i undef:=by
     simp only [Array.getD_eq_getD_getElem?]
     rw [Array.getElem?_append_right (by simp)]
     simp
    rw [e2]
    exact (hcr i hi').ext (fun _ h=>h) hheap
  subst he
  cases hv
  exact ⟨rfl,uI hbl⟩
 have hcall:=Go.Proofs.Any.slices_SortFunc L enc h1 cf' hO g vs l.g (l.o + 0) cp d w eg hcmp hH hblk (by omega)
 rw [hd] at hcall
 refine hcall.mono fun e2 w2 ⟨he,d',n,os,hp,hso,hw⟩=>?_
 subst he
 refine ⟨.tuple #[],m,rfl,?_⟩
 have hs' : d'.size=xs.length:=by rw [hp.1,hd]
 have hdl:d.toList.map (fun x=>x.1.1)=xs:=by
  apply List.ext_getElem
  ·simp [d]
  intro i h1 h2
  simp [d]
 have hperm2:(d'.toList.map fun x=>x.1.1).Perm xs:=by
  have:=hp.2.2
  rw [← hd,Array.extract_size] at this
  have h3:d'.extract 0 d.size=d':=by rw [hd,← hs',Array.extract_size]
  rw [h3] at this
  have h4:=this.map (fun x:α=>x.1.1)
  rwa [hdl] at h4
 have hys:d'.toList.map (fun x=>x.1.1)=ys:=by
  refine gq (lt:=fun x y=>cf x y < 0) _ _ (hperm2.trans hperm) (fun x hx y hy=>anti x (hperm2.mem_iff.1 hx) y (hperm2.mem_iff.1 hy)) ?_ hs
  rw [List.pairwise_iff_getElem]
  intro i j hi hj hij
  simp only [List.length_map,Array.length_toList] at hi hj
  have:=hso i j (Nat.zero_le _) hij (by omega)
  rw [getElem!_pos d' i hi,getElem!_pos d' j hj] at this
  simpa using of_decide_eq_false this
 have hyl:ys.length=xs.length:=hperm.length_eq.symm
 have R1:Rel C m ⟨2,l9 0 [.sl 0 0 xs.length,.p (.fn g cap)],aE ([.own (bE xs)]++dD 0 [aL.own (bE xs)].length) 0 (.own (bE ys))⟩ #[.slice (some ⟨l.g,l.o + 0,none⟩) xs.length cp,.func (.func g) #[] vs] (Go.Sort.putRow enc (Go.Sort.ahead w n) l.g (l.o + 0) d'):=by
  refine R.uZ (a:={ tmps:=#[.slice (some ⟨l.g,l.o + 0,none⟩) xs.length cp,.func (.func g) #[] vs],defers:=[] }) (c:=bE xs) rfl hm ⟨rfl,rfl,rfl,by simp,fun k hk=>?_,by simp⟩ (fun b hb=>?_) (cur:=Go.Sort.putCells enc (l.o + 0) d' cur) (e:=e) ?_ (by simp [Go.Sort.putCells,hcs]) (by rw [bB]; omega) fun j hj=>?_
  ·simp only [Go.Sort.putRow,Go.Sort.mapBlock,Array.getElem?_modify]
   rw [if_neg (fun e=>hk (by rw [← e]; exact hB))]; rfl
  ·simp only [Go.Sort.putRow,Go.Sort.mapBlock,Array.getElem?_modify]
   rw [if_neg (Ne.symm hb)]; rfl
  ·simp only [Go.Sort.putRow,Go.Sort.mapBlock,Array.getElem?_modify]
   rw [if_pos trivial]
   show Option.map _ (w.heap[l.g]?)=_
   rw [hg]; rfl
  rw [bB] at hj
  have hjd:j < d'.size:=by omega
  have hjc:l.o + j < cur.size:=by omega
  have e3:(Go.Sort.putCells enc (l.o + 0) d' cur).getD (l.o + j) undef=enc d'[j]:=by
   simp only [Go.Sort.putCells,Array.getD_eq_getD_getElem?,Array.getElem?_mapIdx,Array.getElem?_eq_getElem hjc,Option.map_some,Option.getD_some]
   rw [if_pos ⟨by omega,by omega⟩,show l.o + j - (l.o + 0)=j by omega,getElem!_pos d' j hjd]
  rw [e3]
  have e4:ys[j]=d'[j].1.1:=by
   have:=hys
   subst this
   simp
  have e5:(bE ys)[j]'(by rw [bB]; exact hj) = .p ys[j]:=by simp [bE]
  rw [e5,e4]
  have h6:=d'[j].2.2
  refine .p _ _ ?_
  show Reads (OK C m ([.own (bE xs)]++dD 0 [aL.own (bE xs)].length) w) w _ _
  rw [hok]
  exact h6
 have R2:=R1.later (w':=w2) (by
  rw [hw]
  refine ⟨rfl,rfl,rfl,by simp [Go.Proofs.sortWorld],fun k hk=>?_,Nat.le_refl _⟩
  unfold Go.Proofs.sortWorld
  exact Go.Sort.heap_grow_old _ _ hk)
 exact ⟨R2.laid,R2.below,R2.base,rfl,R2.inj,R2.blk,R2.fro,fun t=>by
  cases t with
  | zero=>exact .p _ _ (.tup [] #[] rfl fun c h=>absurd h (by simp))
  | succ t=>exact .dead _,R2.mp⟩
end
end Go.Pv
namespace Go.Proofs
open Go.Shelf
def Tryd.xF:Go.Shelf.Ren:=⟨fun | 6=>49 | 15=>83 | 14=>82 | 28=>112 | 29=>113 | 20=>104 | 21=>105 | 22=>106 | 23=>107 | 24=>108 | 25=>109 | 26=>110 | 27=>111 | 46=>119 | 47=>120 | 48=>121 | 49=>122 | 50=>123 | 57=>124 | n=>n,fun | 22=>25 | 24=>22 | 25=>71 | 3=>3 | 39=>93 | 0=>0 | 53=>112 | 55=>78 | 4=>4 | 46=>105 | 45=>104 | 50=>109 | 5=>5 | 9=>9 | 66=>114 | 70=>118 | 76=>120 | 77=>121 | n=>n,fun | n=>n⟩
theorem Tryd.G8 : Go.Proofs.SlLaysF.n6 Tryd.prog Tryd.xF := {
  mixed := by kernel_rfl
  f6 := ⟨Tryd.f49.name, by decide, Tryd.func49.trans (congrArg some (by kernel_rfl))⟩
  f14 := ⟨Tryd.f82.name, by decide, Tryd.func82.trans (congrArg some (by kernel_rfl))⟩
  f15 := Tryd.func83.trans (congrArg some (by kernel_rfl))
  f20 := ⟨Tryd.f104.name, by decide, Tryd.func104.trans (congrArg some (by kernel_rfl))⟩
  f21 := ⟨Tryd.f105.name, by decide, Tryd.func105.trans (congrArg some (by kernel_rfl))⟩
  f22 := ⟨Tryd.f106.name, by decide, Tryd.func106.trans (congrArg some (by kernel_rfl))⟩
  f23 := ⟨Tryd.f107.name, by decide, Tryd.func107.trans (congrArg some (by kernel_rfl))⟩
  f24 := ⟨Tryd.f108.name, by decide, Tryd.func108.trans (congrArg some (by kernel_rfl))⟩
  f25 := ⟨Tryd.f109.name, by decide, Tryd.func109.trans (congrArg some (by kernel_rfl))⟩
  f26 := ⟨Tryd.f110.name, by decide, Tryd.func110.trans (congrArg some (by kernel_rfl))⟩
  f27 := ⟨Tryd.f111.name, by decide, Tryd.func111.trans (congrArg some (by kernel_rfl))⟩
  f28 := Tryd.func112.trans (congrArg some (by kernel_rfl))
  f29 := Tryd.func113.trans (congrArg some (by kernel_rfl))
  f46 := ⟨Tryd.f119.name, by decide, Tryd.func119.trans (congrArg some (by kernel_rfl))⟩
  f47 := Tryd.func120.trans (congrArg some (by kernel_rfl))
  f48 := Tryd.func121.trans (congrArg some (by kernel_rfl))
  f49 := ⟨Tryd.f122.name, by decide, Tryd.func122.trans (congrArg some (by kernel_rfl))⟩
  f50 := ⟨Tryd.f123.name, by decide, Tryd.func123.trans (congrArg some (by kernel_rfl))⟩
  f57 := ⟨Tryd.f124.name, by decide, Tryd.func124.trans (congrArg some (by kernel_rfl))⟩
  t0 := Tryd.underlying0
  a0 := Tryd.isAgg0
  z0 := Tryd.sizeOf0
  v0 := Tryd.zeroValue0
  t3 := Tryd.underlying3
  a3 := Tryd.isAgg3
  z3 := Tryd.sizeOf3
  v3 := Tryd.zeroValue3
  t4 := Tryd.underlying4
  a4 := Tryd.isAgg4
  z4 := Tryd.sizeOf4
  v4 := Tryd.zeroValue4
  t5 := Tryd.underlying5
  a5 := Tryd.isAgg5
  z5 := Tryd.sizeOf5
  v5 := Tryd.zeroValue5
  t9 := Tryd.underlying9
  a9 := Tryd.isAgg9
  z9 := Tryd.sizeOf9
  v9 := Tryd.zeroValue9
  t22 := Tryd.underlying25
  a22 := Tryd.isAgg25
  z22 := Tryd.sizeOf25
  v22 := Tryd.zeroValue25
  a24 := Tryd.isAgg22
  z24 := Tryd.sizeOf22
  t25 := Tryd.underlying71
  a25 := Tryd.isAgg71
  z25 := Tryd.sizeOf71
  v25 := Tryd.zeroValue71
  t39 := Tryd.underlying93
  a39 := Tryd.isAgg93
  z39 := Tryd.sizeOf93
  v39 := Tryd.zeroValue93
  t45 := Tryd.underlying104
  a45 := Tryd.isAgg104
  z45 := Tryd.sizeOf104
  v45 := Tryd.zeroValue104
  t46 := Tryd.underlying105
  a46 := Tryd.isAgg105
  z46 := Tryd.sizeOf105
  v46 := Tryd.zeroValue105
  t50 := Tryd.underlying109
  a50 := Tryd.isAgg109
  z50 := Tryd.sizeOf109
  v50 := Tryd.zeroValue109
  t53 := Tryd.underlying112
  a53 := Tryd.isAgg112
  z53 := Tryd.sizeOf112
  v53 := Tryd.zeroValue112
  t55 := Tryd.underlying78
  a55 := Tryd.isAgg78
  z55 := Tryd.sizeOf78
  v55 := Tryd.zeroValue78
  t66 := Tryd.underlying114
  a66 := Tryd.isAgg114
  z66 := Tryd.sizeOf114
  v66 := Tryd.zeroValue114
  t70 := Tryd.underlying118
  a70 := Tryd.isAgg118
  z70 := Tryd.sizeOf118
  v70 := Tryd.zeroValue118
  t76 := Tryd.underlying120
  a76 := Tryd.isAgg120
  z76 := Tryd.sizeOf120
  v76 := Tryd.zeroValue120
  t77 := Tryd.underlying121
  a77 := Tryd.isAgg121
  z77 := Tryd.sizeOf121
  v77 := Tryd.zeroValue121 }
end Go.Proofs
namespace Go.Proofs.YtjlmpmidchddjaaDoor
open Go.Pv
def tT (H:aw):Prop:=∀ b∈H,ew H.length b=true
theorem tP {L L' : Nat} (h:L≤L') {x:AV} (hx:br L x=true):br L' x=true:=by
 cases x<;>simp only [br,decide_eq_true_eq] at hx ⊢<;>omega
theorem yW {L L' : Nat} (h:L≤L') {x:AV} (hx:bb L x=true):bb L' x=true:=by
 have hl:∀ l:List AV,l.all (br L)=true→l.all (br L')=true:=fun l hl=>List.all_eq_true.2 fun y hy=>tP h (List.all_eq_true.1 hl y hy)
 cases x with
 | agg l=>exact hl l hx
 | tup l=>exact hl l hx
 | cl f l=>exact hl l hx
 | yv k l vs =>
  simp only [bb,Bool.and_eq_true,decide_eq_true_eq] at hx ⊢
  exact ⟨by omega,hl l hx.2⟩
 | _=>simp only [bb] at hx ⊢; exact tP h hx
theorem A3 {L L' : Nat} (h:L≤L') {b:aL} (hb:ew L b=true):ew L' b=true:=by
 cases b with
 | own c=>exact List.all_eq_true.2 fun y hy=>yW h (List.all_eq_true.1 hb y hy)
 | dx i j=>simp only [ew,decide_eq_true_eq] at hb ⊢; omega
 | _=>rfl
theorem fG {H Y:aw} (h:tT H) (hY:∀ b∈Y,ew (H.length + Y.length) b=true):tT (H++Y):=fun b hb=>by
 rw [List.length_append]
 rcases List.mem_append.1 hb with hb | hb
 ·exact A3 (Nat.le_add_right _ _) (h b hb)
 exact hY b hb
theorem k7 {H:aw} (h:tT H) (k:Nat) {b:aL} (hb:ew H.length b=true):tT (aE H k b):=fun x hx=>by
 rw [cZ] at hx ⊢
 rw [List.length_set]
 rcases List.mem_or_eq_of_mem_set hx with hx | rfl
 ·exact h x hx
 exact hb
theorem dM (H:aw) (k:Nat) (b:aL):(aE H k b).length=H.length:=by rw [cZ,List.length_set]
theorem A6 {H:aw} {k:Nat} (h:k < H.length):aq H k∈H:=by
 rw [fI,List.getD_eq_getElem?_getD,List.getElem?_eq_getElem h]
 exact List.getElem_mem h
theorem Fc {H H' : aw} (h:tT H) (hl:H'.length=H.length) (hg:∀ j,aq H' j=aq H j∨∃ c,aq H' j = .fro c):tT H':=fun b hb=>by
 obtain ⟨j,hj⟩:=List.getElem?_of_mem hb
 have hjl:=(List.getElem?_eq_some_iff.1 hj).1
 have e:aq H' j=b:=by rw [fI,List.getD_eq_getElem?_getD,hj]; rfl
 rcases hg j with h1 | ⟨c,h1⟩
 ·rw [← e,h1,hl]; exact h _ (A6 (by omega))
 rw [← e,h1]; rfl
theorem bP {S s:St} {L:Nat} (hL:s.H.length=L) (hn:S.n=s.n) (hH:S.H=s.H) (hs:tT s.H) (hsl:∀ p∈S.sl,s.get p.1=p.2∧bb L p.2=true):Le (List.range L) S s:=by
 subst hL
 exact nE hn hH hs hsl
def Dy (H:aw) (c:Nat) (x:Nat × List (List Int)):Prop:=aq H x.1 = .own (b8 (x.1 + 1) c x.2.length)∧∀ i,i < x.2.length→aq H (x.1 + 1 + i) = .own (ol (x.2.getD i []))
def Dj (x y:Nat × List (List Int)):Prop:=x.1 + x.2.length < y.1∨y.1 + y.2.length < x.1
def gU (Q:List (Nat × List (List Int))):List AV:=Q.map fun x=>.sl x.1 0 x.2.length
structure rW (H:aw) (c b:Nat) (Q:List (Nat × List (List Int))):Prop where
 ch:∀ x∈Q,Dy H c x
 bd:∀ x∈Q,2≤x.1∧x.1 + x.2.length < b
 dj:Q.Pairwise Dj
theorem Dj.symm {x y:Nat × List (List Int)} (h:Dj x y):Dj y x:=Or.symm h
theorem rW.sub {H:aw} {c b:Nat} {Q Q' : List (Nat × List (List Int))} (h:rW H c b Q) (hs:Q'.Sublist Q):rW H c b Q':=
 ⟨fun x hx=>h.ch x (hs.subset hx),fun x hx=>h.bd x (hs.subset hx),h.dj.sublist hs⟩
theorem rW.move {H H' : aw} {c b b' : Nat} {Q:List (Nat × List (List Int))} (h:rW H c b Q) (hb:b≤b') (hg:∀ x∈Q,∀ j,x.1≤j→j≤x.1 + x.2.length→aq H' j=aq H j):rW H' c b' Q:=
 ⟨fun x hx=>⟨by rw [hg x hx _ (Nat.le_refl _) (by omega)]; exact (h.ch x hx).1,fun i hi=>by rw [hg x hx _ (by omega) (by omega)]; exact (h.ch x hx).2 i hi⟩,fun x hx=>by have:=h.bd x hx; omega,h.dj⟩
theorem rW.app {H:aw} {c b:Nat} {Q Q' : List (Nat × List (List Int))} (h:rW H c b Q) (h' : rW H c b Q') (hd:∀ x∈Q,∀ y∈Q',Dj x y):rW H c b (Q++Q'):=
 ⟨fun x hx=>(List.mem_append.1 hx).elim (h.ch x) (h'.ch x),fun x hx=>(List.mem_append.1 hx).elim (h.bd x) (h'.bd x),List.pairwise_append.2 ⟨h.dj,h'.dj,hd⟩⟩
theorem gB (Q:List (Nat × List (List Int))):(gU Q).length=Q.length:=by simp [gU]
theorem tZ (Q:List (Nat × List (List Int))):(gU Q).all bp=true:=by simp [gU,bp]
theorem wR (Q Q' : List (Nat × List (List Int))):gU Q++gU Q' = gU (Q++Q'):=by simp [gU]
theorem wG {Q:List (Nat × List (List Int))} {j:Nat} (h:j < Q.length) (d:AV):(gU Q).getD j d = .sl (Q.getD j (0,[])).1 0 (Q.getD j (0,[])).2.length:=by
 simp [gU,List.getD,List.getElem?_map,List.getElem?_eq_getElem h]
theorem Ft {H:aw} {c b L:Nat} {Q:List (Nat × List (List Int))} (h:rW H c b Q) (hb:b≤L):(gU Q).all (bb L)=true:=by
 rw [List.all_eq_true]
 intro x hx
 obtain ⟨y,hy,rfl⟩:=List.mem_map.1 hx
 have:=(h.bd y hy).2
 simp [bb,br]; omega
def gl (b:Nat):List (List (List Int))→List (Nat × List (List Int))
 | []=>[]
 | s :: r=>(b,s) :: gl (b + 1 + s.length) r
theorem sg (b:Nat) (Sp:List (List (List Int))):(gl b Sp).map Prod.snd=Sp:=by
 induction Sp generalizing b with
 | nil=>rfl
 | cons s r ih=>simp [gl,ih]
theorem k9 (b:Nat) (Sp:List (List (List Int))):(gl b Sp).length=Sp.length:=by rw [← List.length_map (f:=Prod.snd),sg]
theorem nG (b:Nat) (Sp:List (List (List Int))):∀ x∈gl b Sp,b≤x.1∧x.1 + x.2.length < b + cR Sp:=by
 induction Sp generalizing b with
 | nil=>intro x hx; simp [gl] at hx
 | cons s r ih =>
  intro x hx
  rcases List.mem_cons.1 hx with rfl | hx
  ·simp only [cR]; omega
  have:=ih _ x hx
  simp only [cR]; omega
theorem BX (b:Nat) (Sp:List (List (List Int))):(gl b Sp).Pairwise Dj:=by
 induction Sp generalizing b with
 | nil=>exact List.Pairwise.nil
 | cons s r ih =>
  refine List.pairwise_cons.2 ⟨fun y hy=>?_,ih _⟩
  have:=(nG _ r y hy).1
  exact .inl (by simp only; omega)
theorem yj {n len k:Nat} (h:k < len):(Go.Pv.kx n len).getD k 0=n + k:=Go.Pv.jz h
theorem CS {n len b:Nat} {Sp:List (List (List Int))} (h:b + cR Sp≤len):(gN b Sp).map (Go.Pv.bl (Go.Pv.kx n len))=gU (gl (n + b) Sp):=by
 induction Sp generalizing b with
 | nil=>rfl
 | cons s r ih =>
  simp only [cR] at h
  simp only [gN,gl,gU,List.map_cons,Go.Pv.bl,bu]
  rw [yj (by omega),ih (by omega),show n + (b + 1 + s.length)=n + b + 1 + s.length by omega]
  rfl
theorem vj {n len d W q:Nat} (h:d + q≤len):(b8 d W q).map (Go.Pv.bl (Go.Pv.kx n len))=b8 (n + d) W q:=by
 simp only [b8,List.map_map]
 refine List.map_congr_left fun i hi=>?_
 have:=List.mem_range.1 hi
 simp only [Function.comp,Go.Pv.bl,bu]
 rw [yj (by omega),show n + (i + d)=i + (n + d) by omega]
theorem vB (n len:Nat) (v:List Int):aL.bl (Go.Pv.kx n len) (.own (ol v)) = .own (ol v):=by simp [aL.bl,oq]
theorem Cc {n len b W:Nat} {Sp:List (List (List Int))} (h:b + cR Sp≤len):∀ (H:aw),H.length=n + b→∀ Y,∀ x∈gl (n + b) Sp,Dy (H++(iu W b Sp).map (aL.bl (Go.Pv.kx n len))++Y) W x:=by
 induction Sp generalizing b with
 | nil=>intro H hH Y x hx; simp [gl] at hx
 | cons s r ih =>
  intro H hH Y x hx
  simp only [cR] at h
  have e:(iu W b (s :: r)).map (aL.bl (Go.Pv.kx n len))=[.own (b8 (n + b + 1) W s.length)]++tl s++(iu W (b + 1 + s.length) r).map (aL.bl (Go.Pv.kx n len)):=by
   simp only [iu,List.map_cons,List.map_append,aL.bl,vj (show b + 1 + s.length≤len by omega),tl,List.map_map]
   simp only [List.cons_append,List.nil_append,List.cons.injEq]
   refine ⟨rfl,?_⟩
   congr 1
   exact List.map_congr_left fun v _=>vB _ _ _
  rw [e]
  rcases List.mem_cons.1 hx with rfl | hx
  ·refine ⟨?_,fun i hi=>?_⟩
   ·simp only [← List.append_assoc]
    rw [aF (by simp [hH]),aF (by simp [hH]),aF (by simp [hH]),← hH]
    exact a8 H _
   simp only [← List.append_assoc]
   simp only at hi ⊢
   rw [aF (by simp [hH,aD]<;>omega),aF (by simp [hH,aD]<;>omega),aY (by simp [hH]<;>omega)]
   have:n + b + 1 + i - (H++[aL.own (b8 (n + b + 1) W s.length)]).length=i:=by simp [hH]<;>omega
   rw [this,aV hi]
  have:=ih (b:=b + 1 + s.length) (by omega) (H++[.own (b8 (n + b + 1) W s.length)]++tl s) (by simp [hH,aD]; omega) Y x (by rw [show n + (b + 1 + s.length)=n + b + 1 + s.length by omega]; exact hx)
  simpa only [List.append_assoc] using this
def kO (c i:Nat):List Int:=(List.replicate c (0:Int)).set i 1
def aP (c k:Nat):List (List Int):=(List.range k).map (kO c)
theorem bc (c k:Nat):(aP c k).length=k:=by simp [aP]
theorem sR (c k:Nat):aP c (k + 1)=aP c k++[kO c k]:=by simp [aP,List.range_succ]
theorem xN (c i:Nat):(kO c i).length=c:=by simp [kO]
theorem Aq {p:Nat} (hp:2≤p) (c i:Nat):ed p (kO c i):=fun j=>by
 unfold kO
 rw [List.getD_eq_getElem?_getD,List.getElem?_set]
 split
 ·split
  ·simp only [Option.getD_some]; omega
  simp only [Option.getD_none]; omega
 rw [List.getElem?_replicate]
 split
 ·simp only [Option.getD_some]; omega
 simp only [Option.getD_none]; omega
structure EY (p c:Nat) (s:List (List Int)):Prop where
 pos:0 < s.length
 le:s.length≤c
 row:∀ v∈s,v.length=c
 rg:∀ v∈s,ed p v
theorem y7 {p c:Nat} (hp:2≤p) (hc:0 < c):EY p c (aP c c):=
 ⟨by rw [bc]; exact hc,by rw [bc]; exact Nat.le_refl _,fun v hv=>by obtain ⟨i,_,rfl⟩:=List.mem_map.1 hv; exact xN c i,fun v hv=>by obtain ⟨i,_,rfl⟩:=List.mem_map.1 hv; exact Aq hp c i⟩
theorem uK {p c n:Nat} (hp:2≤p) {s a:List (List Int)} (hs:s.length=n) (hn:n≤c) (h1:∀ v∈s,v.length=c) (ha:a.length=n) (ha1:∀ v∈a,v.length=n) (ha2:∀ v∈a,ed p v):∀ f left v out,(∀ t∈out,EY p c t)→∀ t∈iC p s a f left v out,EY p c t
 | 0,_,_,out,h,t,ht=>h t ht
 | f + 1,left,v,out,h,t,ht=>by
  rw [iC] at ht
  have hBl:=qO p v a n
  have hBr:∀ y∈jV p v a n,y.length=n∧ed p y:=fun y hy=>by
   obtain ⟨i,hi,rfl⟩:=List.mem_map.1 hy
   have hi:=List.mem_range.1 hi
   exact ⟨by rw [qZ]; exact ha1 _ (aC (by omega)),ux (by omega) (ha2 _ (aC (by omega)))⟩
  have hk:=po hp hBl (fun v hv=>(hBr v hv).1) (fun v hv=>(hBr v hv).2)
  rw [hs] at ht
  split at ht
  ·split at ht
   ·exact uK hp hs hn h1 ha ha1 ha2 f _ _ _ h t ht
   rename_i hne
   refine uK hp hs hn h1 ha ha1 ha2 f _ _ _ (fun u hu=>?_) t ht
   rcases List.mem_append.1 hu with hu | hu
   ·exact h u hu
   rw [List.mem_singleton.1 hu]
   have hk0:0 < (dX p (jV p v a n)).length:=List.length_pos_iff.2 hne
   have hs0:(s.getD 0 []).length=c:=h1 _ (aC (by omega))
   refine ⟨by rw [List.length_map]; exact hk0,by rw [List.length_map]; omega,fun w hw=>?_,fun w hw=>?_⟩
   ·obtain ⟨x,_,rfl⟩:=List.mem_map.1 hw
    rw [uP,nB,hs0]
   obtain ⟨x,_,rfl⟩:=List.mem_map.1 hw
   exact ui (by omega) _ _ _ _
  exact h t ht
theorem EJ {p c:Nat} (hp:2≤p) {s m:List (List Int)} (h:EY p c s):∀ t∈gx p s m,EY p c t:=fun t ht=>by
 unfold gx at ht
 split at ht
 ·rw [List.mem_singleton.1 ht]; exact h
 have hri:=fH (p:=p) (by omega) h.row h.rg s.length (Nat.le_refl _)
 have hql:=gP p s s.length
 refine uK hp rfl (Nat.le_trans hql h.le) hri.l2 (lH _ _ _ _ _) (fun v hv=>?_) (fun v hv=>?_) _ _ _ _ (fun t ht=>by cases ht) t ht
 ·obtain ⟨i,_,rfl⟩:=List.mem_map.1 hv
  rw [iV,hri.l1]
 obtain ⟨i,_,rfl⟩:=List.mem_map.1 hv
 exact q9 (by omega) _ _ _
theorem lK {p c:Nat} (hp:2≤p) (T:List (List (List Int))) (hc:0 < c):∀ i,∀ s∈cQ p T [aP c c] i,EY p c s
 | 0,s,hs=>by rw [List.mem_singleton.1 hs]; exact y7 hp hc
 | i + 1,s,hs=>by
  rw [cQ] at hs
  obtain ⟨t,ht,hst⟩:=List.mem_flatMap.1 hs
  exact EJ hp (lK hp T hc i t ht) s hst
def tq (p:Nat) (w:List Int) (J S:Nat→Nat):Nat→Int
 | 0=>0
 | i + 1=>(tq p w J S i + w.getD i 0 * w.getD (J i) 0 % (p:Int) * dP p (S i:Nat)) % (p:Int)
def EB (p N:Nat) (sum:Int):Int:=(N:Int) % (p:Int) * dP p sum % (p:Int)
def tW (p:Nat) (sq:Int) (d:Nat):Bool:=decide (((d:Int) + 1) * ((d:Int) + 1) % (p:Int)=sq)
def GL (p:Nat) (sq:Int):Nat:=(bO (tW p sq) p).getD 0 + 1
def Dr (p:Nat) (w:List Int) (d:Nat) (S:Nat→Nat) (t:Nat):Int:=w.getD t 0 * (d:Int) % (p:Int) * dP p (S t:Nat) % (p:Int)
def xZ (p:Nat) (w:List Int) (d:Nat) (S:Nat→Nat) (c i:Nat):List Int:=cO (Dr p w d S) 0 i (List.replicate c 0)
def vo (p o:Nat) (s:List (List Int)):List Int:=Ap p (dP p ((s.getD 0 []).getD o 0)) (s.getD 0 [])
def pq (p N o c:Nat) (J S:Nat→Nat) (s:List (List Int)):Nat:=GL p (EB p N (tq p (vo p o s) J S c))
def ng (p N o c:Nat) (J S:Nat→Nat) (s:List (List Int)):List Int:=(pq p N o c J S s:Int) :: xZ p (vo p o s) (pq p N o c J S s) S c c
def yr (xs:List (List Int)):List (List Int):=xs.mergeSort fun v w=>decide (¬ dG w v < 0)
def xS (p N o c:Nat) (J S:Nat→Nat) (Sp:List (List (List Int))):List (List Int):=(yr (Sp.map (ng p N o c J S))).map (·.drop 1)
theorem lY (xs:List (List Int)):xs.Perm (yr xs):=(List.mergeSort_perm xs _).symm
theorem mF (xs:List (List Int)):(yr xs).Pairwise fun v w=>¬ dG w v < 0:=by
 have:=List.pairwise_mergeSort (le:=fun v w:List Int=>decide (¬ dG w v < 0)) (fun a b c h1 h2=>by
  simp only [decide_eq_true_eq] at *
  exact nb _ _ _ h2 h1) (fun a b=>by
  simp only [Bool.or_eq_true,decide_eq_true_eq]
  by_cases h:dG b a < 0
  ·right
   intro h2
   have:=iE _ _ _ h h2
   rw [lO] at this; exact absurd this (by decide)
  exact .inl h) xs
 exact this.imp fun h=>by simpa using h
def Gb:PV→Int
 | .int _ x=>x
 | _=>0
theorem zu (v:List Int):(il v).map Gb=v:=by
 unfold il
 rw [List.map_map]
 exact (List.map_congr_left fun _ _=>rfl).trans (List.map_id v)
def Ie:PV→PV→Int
 | .list a,.list b=>dG (a.map Gb) (b.map Gb)
 | _,_=>0
theorem l5 (v w:List Int):Ie (.list (il v)) (.list (il w))=dG v w:=by
 show dG ((il v).map Gb) ((il w).map Gb)=_
 rw [zu,zu]
theorem dN {x:PV} {ls:List (List Int)} (h:x∈ll ls):∃ v∈ls,x = .list (il v):=by
 obtain ⟨v,hv,rfl⟩:=List.mem_map.1 h
 exact ⟨v,hv,rfl⟩
theorem BB {xs ys:List (List Int)} (hne:xs ≠ []) (hl:xs.length≤1000000) (hr:∀ v∈xs,v.length≤1000000) (hperm:xs.Perm ys) (hs:ys.Pairwise fun v w=>¬ dG w v < 0) :
  FR Tryd.prog 49 [.sl 0 0 (ll xs).length,.p (.fn 50 [])] [.own (bE (ll xs))] (.p (.tup [])) [.own (bE (ll ys))]:=
 ER Go.Proofs.Tryd.G8 (ll xs) (ll ys) Ie (fun h=>hne (by cases xs with
   | nil=>rfl
   | cons a r=>cases h)) (fun x hx=>by obtain ⟨v,_,rfl⟩:=dN hx; rfl)
  (fun x hx=>by obtain ⟨v,_,rfl⟩:=dN hx; rw [l5,lO]; decide)
  (fun x hx y hy z hz h1 h2=>by
   obtain ⟨u,_,rfl⟩:=dN hx; obtain ⟨v,_,rfl⟩:=dN hy; obtain ⟨w,_,rfl⟩:=dN hz
   rw [l5] at *; exact iE _ _ _ h1 h2)
  (fun x hx y hy z hz h1 h2=>by
   obtain ⟨u,_,rfl⟩:=dN hx; obtain ⟨v,_,rfl⟩:=dN hy; obtain ⟨w,_,rfl⟩:=dN hz
   rw [l5] at *; exact nb _ _ _ h1 h2)
  (fun x hx y hy h1 h2=>by
   obtain ⟨u,_,rfl⟩:=dN hx; obtain ⟨v,_,rfl⟩:=dN hy
   rw [l5] at *; rw [kP _ _ h1 h2])
  (fun x hx y hy=>by
   obtain ⟨u,hu,rfl⟩:=dN hx; obtain ⟨v,hv,rfl⟩:=dN hy
   rw [l5]; have h1:=hr u hu; have h2:=hr v hv; exact ud u v (by omega) (by omega))
  (hperm.map _) (by
   unfold ll
   rw [List.pairwise_map]
   exact hs.imp fun {x y} hxy h2=>hxy (by rwa [l5] at h2)) (by rw [au]; omega)
end Go.Proofs.YtjlmpmidchddjaaDoor
namespace Go.Proofs.YtjlmpmidchddjaaDoor
open Lean.Grind
attribute [local instance] Lean.Grind.Semiring.natCast Lean.Grind.Ring.intCast
section
variable {K:Type} [CommRing K]
structure Rp (K:Type) [CommRing K] (p:Nat):Prop extends Rd K p where
 ch:(p:K)=0
 pow:∀ v:Nat,(v:K) ^ p=v
 pws:Ia K p
 eu:∀ v:Nat,((v:Int):K)=(v:K)
theorem Rp.ne {p:Nat} (R:Rp K p) {a b:Nat} (ha:a < p) (hb:b < p) (hab:a ≠ b):((a:K) - (b:K)) ≠ 0:=fun h=>by
 rw [← R.eu,← R.eu,← Ring.intCast_sub,R.ker] at h
 have h2:=Int.dvd_of_emod_eq_zero h
 obtain ⟨k,hk⟩:=h2
 have:k=0:=by
  refine Int.le_antisymm (Int.le_of_not_gt fun h=>?_) (Int.le_of_not_gt fun h=>?_)
  ·have:(p:Int) * 1≤(p:Int) * k:=Int.mul_le_mul_of_nonneg_left (by omega) (by omega)
   omega
  have:(p:Int) * k≤(p:Int) * (-1):=Int.mul_le_mul_of_nonneg_left (by omega) (by omega)
  omega
 subst this
 omega
def dq (c:Nat) (m:List (List Int)) (u:Nat→K) (j:Nat):K:=if j < c then sm (fun k=>bN m j k * u k) c else 0
theorem nW (c:Nat) (m:List (List Int)):xq (dq (K:=K) c m):=
 ⟨fun u v=>by
  funext j
  unfold dq
  by_cases h:j < c
  ·rw [if_pos h,if_pos h,if_pos h,← iX]; exact ai fun k _=>by grind
  ·rw [if_neg h,if_neg h,if_neg h]; grind,fun k u=>by
  funext j
  unfold dq
  by_cases h:j < c
  ·rw [if_pos h,if_pos h,← aK]; exact ai fun k _=>by grind
  rw [if_neg h,if_neg h]; grind⟩
theorem wM {p:Nat} (R:Rd K p) (b w:List Int):∀ k,((iF p b w k:Int):K)=sm (fun t=>vc b t * vc w t) k
 | 0=>Ring.intCast_zero
 | k + 1=>by rw [iF,R.mod,Ring.intCast_add,Ring.intCast_mul,wM R b w k]; rfl
theorem ET {p c:Nat} (R:Rd K p) {m:List (List Int)} {w:List Int} (hm:m.length=c) (hw:w.length=c) (j:Nat):(vc (qv p m w) j:K)=dq c m (vc w) j:=by
 unfold dq
 by_cases h:j < c
 ·rw [if_pos h]
  have:(qv p m w).getD j 0=iF p (m.getD j []) w w.length:=by simp [qv,G5,List.getD,List.getElem?_map,List.getElem?_range (show j < m.length by omega)]
  unfold vc
  rw [this,wM R,hw]; rfl
 rw [if_neg h]; exact gF (by rw [qJ]; omega)
theorem zi {p W:Nat} (R:Rd K p) {s:List (List Int)} (hs:∀ v∈s,v.length=W) (v:List Int):∀ i,(vc (qt p W s v i):Nat→K)=fun j=>sm (fun t=>vc v t * bN s t j) i
 | 0=>by
  funext j
  simp only [qt,sm]
  unfold vc
  rw [List.getD_eq_getElem?_getD,List.getElem?_replicate]
  split
  ·exact Ring.intCast_zero
  exact Ring.intCast_zero
 | i + 1=>by
  have hl:(s.getD i []).length≤(qt p W s v i).length:=by
   rw [nB]
   by_cases h:i < s.length
   ·rw [hs _ (aC h)]; exact Nat.le_refl _
   rw [List.getD_eq_getElem?_getD,List.getElem?_eq_none (by omega)]; simp
  rw [qt,Gk R hl,zi R hs v i]
  rfl
theorem RE.DB {S:List (List Int) × List Int} (h:RE (K:=K) S) {u:Nat→K} (hu:bA S.1 u) (j:Nat):u j=sm (fun q=>u (S.2.getD q 0).toNat * bN S.1 q j) S.1.length:=by
 obtain ⟨C,hC⟩:=hu
 rw [hC]
 refine ai fun q hq=>?_
 congr 1
 rw [hC,ba (i:=q) hq fun t ht hne=>by rw [h.at' t q ht hq,if_neg hne]; grind,h.at' q q hq hq,if_pos rfl]
 grind
theorem piece {p c n : Nat} (R : Rp K p) {s' : List (List Int)} {at' : List Int} {m : List (List Int)} (he : RE (K := K) (s', at')) (hn : s'.length = n) (hl : at'.length = n) (h1 : ∀ v ∈ s', v.length = c) (hat : ∀ i, i < n → 0 ≤ at'.getD i 0 ∧ at'.getD i 0 < c) (hm : m.length = c)
    (hinv : ∀ u : Nat → K, bA s' u → bA s' (dq c m u)) {v : Nat} (hv : v < p) (hn0 : 0 < n) :
    (∀ w : Nat → K, bA ((dX p (jV p v (fp p m s' at' n) n)).map (uP p s')) w ↔ bA s' w ∧ ∀ j, dq c m w j = (v : K) * w j) ∧ im (bN (K := K) ((dX p (jV p v (fp p m s' at' n) n)).map (uP p s'))) (dX p (jV p v (fp p m s' at' n) n)).length := by
  have hp0 : 0 < p := by have := R.two; omega
  have hA := nW (K := K) c m
  have hal := lH p m s' at' n
  have hBl := qO p v (fp p m s' at' n) n
  have hB : ∀ i q, i < n → q < n → bN (K := K) (jV p v (fp p m s' at' n) n) i q = dq c m (bN s' i) (at'.getD q 0).toNat - (if i = q then (v : K) else 0) := fun i q hi hq => by
    have e : (jV p v (fp p m s' at' n) n).getD i [] = yd p v (fp p m s' at' n) i := by simp [jV, List.getD, List.getElem?_map, List.getElem?_range hi]
    have ea : (fp p m s' at' n).getD i [] = iQ p m at' (s'.getD i []) := oG hi
    have eg : ∀ q, q < n → (((iQ p m at' (s'.getD i [])).getD q 0 : Int) : K) = dq c m (bN s' i) (at'.getD q 0).toNat := fun q hq => by
      have : (iQ p m at' (s'.getD i [])).getD q 0 = (qv p m (s'.getD i [])).getD (at'.getD q 0).toNat 0 := by simp [iQ, List.getD, List.getElem?_map, List.getElem?_eq_getElem (show q < at'.length by omega)]
      rw [this]
      exact ET R.toRd hm (h1 _ (aC (by omega))) _
    unfold bN
    rw [e]
    unfold yd vc
    rw [ea, List.getD_eq_getElem?_getD, List.getElem?_set]
    by_cases eq : i = q
    · subst eq
      rw [if_pos rfl, if_pos (by rw [iV]; omega), if_pos rfl]
      simp only [Option.getD_some]
      rw [R.mod, Ring.intCast_sub, eg i hi, R.eu]; rfl
    · rw [if_neg eq, if_neg eq, ← List.getD_eq_getElem?_getD, eg q hq]
      show _ = dq c m (bN s' i) _ - 0
      grind
  have hBr : ∀ y ∈ jV p v (fp p m s' at' n) n, y.length = n ∧ ed p y := fun y hy => by
    obtain ⟨t, ht, rfl⟩ := List.mem_map.1 hy
    have ht := List.mem_range.1 ht
    refine ⟨by rw [qZ, oG ht, iV]; exact hl, ux hp0 ?_⟩
    rw [oG ht]; exact q9 hp0 _ _ _
  obtain ⟨k1, k2⟩ := AQ (K := K) R.toRd hBl (fun y hy => (hBr y hy).1) (fun y hy => (hBr y hy).2)
  have hkr := po R.two hBl (fun y hy => (hBr y hy).1) (fun y hy => (hBr y hy).2)
  generalize jV p v (fp p m s' at' n) n = B at *
  generalize dX p B = KK at *
  have hs0 : (s'.getD 0 []).length = c := h1 _ (aC (by omega))
  let cb : (Nat → K) → Nat → K := fun u j => sm (fun i => u i * bN s' i j) n
  have hcm : ∀ r, r.length = n → (vc (uP p s' r) : Nat → K) = cb (vc r) := fun r hr => by
    unfold uP
    rw [hs0, zi R.toRd h1, hr]
  have hcbS : ∀ u, bA s' (cb u) := fun u => ⟨u, fun j => by rw [hn]⟩
  have hcbat : ∀ u q, q < n → cb u (at'.getD q 0).toNat = u q := fun u q hq => by
    show sm (fun i => u i * bN s' i _) n = _
    have ha := fun i hi => he.at' i q (show i < s'.length by omega) (show q < s'.length by omega)
    simp only at ha
    rw [ba (i := q) hq fun i hi hne => by rw [ha i (by omega), if_neg hne]; grind, ha q (by omega), if_pos rfl]; grind
  have hker : ∀ u : Nat → K, ug n B u ↔ (∀ j, n ≤ j → u j = 0) ∧ ∀ j, dq c m (cb u) j = (v : K) * cb u j := fun u => by
    have hAc : dq c m (cb u) = fun j => sm (fun i => u i * dq c m (bN s' i) j) n := hA.sm u (bN s') n
    have hq : ∀ q, q < n → sm (fun i => u i * bN B i q) n = dq c m (cb u) (at'.getD q 0).toNat - (v : K) * u q := fun q hq => by
      have e : sm (fun i => u i * bN B i q) n = sm (fun i => u i * dq c m (bN s' i) (at'.getD q 0).toNat) n - sm (fun i => u i * (if i = q then (v : K) else 0)) n := by
        rw [← jc]
        exact ai fun i hi => by rw [hB i q hi hq]; grind
      have hdl : sm (fun i => u i * (if i = q then (v : K) else 0)) n = u q * (v : K) := by
        rw [ba (i := q) hq fun i hi hne => by rw [if_neg hne]; grind, if_pos rfl]
      rw [e, hAc, hdl]; grind
    constructor
    · rintro ⟨a, b⟩
      refine ⟨a, fun j => ?_⟩
      have h3 := he.DB (hinv _ (hcbS u)) j
      simp only [hn] at h3
      rw [h3]
      show _ = (v : K) * sm (fun i => u i * bN s' i j) n
      rw [← aK]
      refine ai fun q hq2 => ?_
      have h4 := b q hq2
      rw [hq q hq2] at h4
      have : dq c m (cb u) (at'.getD q 0).toNat = (v : K) * u q := by grind
      rw [this]; grind
    · rintro ⟨a, b⟩
      refine ⟨a, fun q hq2 => ?_⟩
      rw [hq q hq2, b, hcbat u q hq2]; grind
  refine ⟨fun w => ⟨fun hw => ?_, fun hw => ?_⟩, ?_⟩
  · have hL : gT fun w : Nat → K => bA s' w ∧ ∀ j, dq c m w j = (v : K) * w j :=
      ⟨⟨(bA.lR s').zero, fun j => by rw [hA.zero]; grind⟩,
       fun a b ha hb => ⟨(bA.lR s').add _ _ ha.1 hb.1, fun j => by rw [hA.1]; simp only; rw [ha.2, hb.2]; grind⟩,
       fun k a ha => ⟨(bA.lR s').smul _ _ ha.1, fun j => by rw [hA.2]; simp only; rw [ha.2]; grind⟩⟩
    refine bA.least hL (fun r hr => ?_) hw
    obtain ⟨x, hx, rfl⟩ := List.mem_map.1 hr
    rw [hcm x (hkr.1 x hx).1]
    exact ⟨hcbS _, ((hker _).1 ((k1 _).1 (bA.mem hx))).2⟩
  · obtain ⟨hw1, hw2⟩ := hw
    let u : Nat → K := fun q => if q < n then w (at'.getD q 0).toNat else 0
    have hcu : cb u = w := by
      funext j
      have h3 := he.DB hw1 j
      simp only [hn] at h3
      rw [h3]
      exact ai fun q hq => by show (if q < n then w (at'.getD q 0).toNat else 0) * _ = _; rw [if_pos hq]
    have hu : ug n B u := (hker u).2 ⟨fun j hj => if_neg (by omega), fun j => by rw [hcu]; exact hw2 j⟩
    obtain ⟨C, hC⟩ := (k1 u).2 hu
    rw [← hcu]
    have e : cb u = fun j => sm (fun t => C t * cb (bN KK t) j) KK.length := by
      funext j
      show sm (fun i => u i * bN s' i j) n = sm (fun t => C t * sm (fun i => bN KK t i * bN s' i j) n) KK.length
      have : sm (fun t => C t * sm (fun i => bN KK t i * bN s' i j) n) KK.length = sm (fun t => sm (fun i => C t * bN KK t i * bN s' i j) n) KK.length := ai fun t _ => by
        rw [← aK]; exact ai fun i _ => by grind
      rw [this, aU]
      refine ai fun i _ => ?_
      rw [bI, ← hC]
    rw [e]
    refine (bA.lR _).sum fun t ht => ?_
    have hx : KK.getD t [] ∈ KK := aC ht
    have := bA.mem (K := K) (L := KK.map (uP p s')) (List.mem_map.2 ⟨_, hx, rfl⟩)
    rw [hcm _ (hkr.1 _ hx).1] at this
    exact this
  · intro x hx
    refine k2 x fun i => ?_
    have hg : ∀ t, t < KK.length → bN (K := K) (KK.map (uP p s')) t = cb (bN KK t) := fun t ht => by
      have hx : KK.getD t [] ∈ KK := aC ht
      have e : (KK.map (uP p s')).getD t [] = uP p s' (KK.getD t []) := by simp [List.getD, List.getElem?_map, List.getElem?_eq_getElem ht]
      unfold bN
      rw [e, hcm _ (hkr.1 _ hx).1]
    by_cases hi : i < n
    · have h3 := hx (at'.getD i 0).toNat
      rw [ai (g := fun t => x t * bN KK t i) fun t ht => by rw [hg t ht, hcbat _ i hi]] at h3
      exact h3
    · refine aS fun t ht => ?_
      have hx : KK.getD t [] ∈ KK := aC ht
      have : bN (K := K) KK t i = 0 := gF (by rw [(hkr.1 _ hx).1]; omega)
      rw [this]; grind
theorem sx {p:Nat} (R:Rp K p) {A:(Nat→K)→Nat→K} (hA:xq A):∀ v,v≤p→∀ y:Nat→Nat→K,(∀ μ,μ < v→∀ j,A (y μ) j=(μ:K) * y μ j)→(∀ j,sm (fun μ=>y μ j) v=0)→∀ μ,μ < v→∀ j,y μ j=0
 | 0,_,_,_,_,μ,hμ,_=>absurd hμ (Nat.not_lt_zero _)
 | v + 1,hv,y,hy,h0,μ,hμ,j=>by
  have h1:∀ j,sm (fun μ=>((μ:K) - (v:K)) * y μ j) v=0:=fun j=>by
   have e1:=hA.sm (fun _=>1) y (v + 1)
   have e2:(fun j=>sm (fun i=>(1:K) * y i j) (v + 1))=fun _=>0:=by
    funext j; rw [← h0 j]; exact ai fun i _=>by grind
   rw [e2,hA.zero] at e1
   have e3:=congrFun e1 j
   have e4:sm (fun i=>(1:K) * A (y i) j) (v + 1)=sm (fun i=>(i:K) * y i j) (v + 1):=ai fun i hi=>by rw [hy i hi]; grind
   rw [e4] at e3
   have e5:sm (fun μ=>((μ:K) - (v:K)) * y μ j) v=sm (fun i=>(i:K) * y i j) v - (v:K) * sm (fun i=>y i j) v:=by
    rw [← aK,← jc]; exact ai fun i _=>by grind
   have e6:=h0 j
   simp only [sm] at e3 e6
   rw [e5]; grind
  have ih:=sx R hA v (by omega) (fun μ j=>((μ:K) - (v:K)) * y μ j) (fun μ hμ j=>by rw [hA.2]; simp only; rw [hy μ (by omega)]; grind) h1
  have hlt:∀ μ,μ < v→∀ j,y μ j=0:=fun μ hμ j=>by
   rcases R.fld.mul (ih μ hμ j) with h | h
   ·exact absurd h (R.ne (by omega) (by omega) (by omega))
   exact h
  by_cases e:μ=v
  ·subst e
   have:=h0 j
   rw [sm,aS fun i hi=>hlt i hi j] at this
   grind
  exact hlt μ (by omega) j
def dS (f:Nat→Nat):Nat→Nat
 | 0=>0
 | v + 1=>dS f v + f v
theorem vS (f:Nat→Nat) {a b:Nat} (h:a≤b):dS f a≤dS f b:=by
 induction b with
 | zero=>have:a=0:=(by omega); subst this; exact Nat.le_refl _
 | succ b ih =>
  by_cases e:a=b + 1
  ·subst e; exact Nat.le_refl _
  have:=ih (by omega)
  simp only [dS]; omega
theorem zU (f:Nat→K) (a b:Nat):sm f (a + b)=sm f a + sm (fun i=>f (a + i)) b:=by
 induction b with
 | zero=>simp only [Nat.add_zero,sm]; grind
 | succ b ih=>rw [show a + (b + 1)=(a + b) + 1 by omega,sm,ih,sm]; grind
theorem vC {p:Nat} (R:Rp K p) {A:(Nat→K)→Nat→K} (hA:xq A) {S:(Nat→K)→Prop} (f:Nat→Nat) (g:Nat→Nat→Nat→K) (hS:∀ v,v < p→∀ i,i < f v→S (g v i)) (hg:∀ v,v < p→∀ i,i < f v→∀ j,A (g v i) j=(v:K) * g v i j) (hi:∀ v,v < p→im (g v) (f v)) :
  ∀ v,v≤p→∃ y:Nat→Nat→K,(∀ j,j < dS f v→S (y j))∧∀ x:Nat→K,∃ z:Nat→Nat→K,(∀ μ,μ < v→∀ j,A (z μ) j=(μ:K) * z μ j)∧(∀ j,sm (fun i=>x i * y i j) (dS f v)=sm (fun μ=>z μ j) v)∧((∀ μ,μ < v→∀ j,z μ j=0)→∀ j,j < dS f v→x j=0)
 | 0,_=>⟨fun _ _=>0,fun j hj=>absurd hj (Nat.not_lt_zero _),fun x=>⟨fun _ _=>0,fun μ hμ=>absurd hμ (Nat.not_lt_zero _),fun j=>rfl,fun _ j hj=>absurd hj (Nat.not_lt_zero _)⟩⟩
 | v + 1,hv=>by
  obtain ⟨y,y1,y2⟩:=vC R hA f g hS hg hi v (by omega)
  have e1:∀ i,i < dS f v→(fun i=>if i < dS f v then y i else g v (i - dS f v)) i=y i:=fun i hi=>if_pos hi
  have e2:∀ i,(fun i=>if i < dS f v then y i else g v (i - dS f v)) (dS f v + i)=g v i:=fun i=>by
   simp only
   rw [if_neg (by omega),Nat.add_sub_cancel_left]
  refine ⟨fun i=>if i < dS f v then y i else g v (i - dS f v),fun j hj=>?_,fun x=>?_⟩
  ·simp only [dS] at hj
   by_cases h:j < dS f v
   ·rw [e1 j h]; exact y1 j h
   have:=e2 (j - dS f v)
   rw [show dS f v + (j - dS f v)=j by omega] at this
   rw [this]; exact hS v (by omega) _ (by omega)
  obtain ⟨z,z1,z2,z3⟩:=y2 x
  have hzv:A (fun j=>sm (fun i=>x (dS f v + i) * g v i j) (f v))=fun j=>(v:K) * sm (fun i=>x (dS f v + i) * g v i j) (f v):=by
   rw [hA.sm (fun i=>x (dS f v + i)) (g v) (f v)]
   funext j
   rw [← aK]
   exact ai fun i hi=>by rw [hg v (by omega) i hi]; grind
  refine ⟨fun μ=>if μ < v then z μ else fun j=>sm (fun i=>x (dS f v + i) * g v i j) (f v),fun μ hμ j=>?_,fun j=>?_,fun h0 j hj=>?_⟩
  ·by_cases h:μ < v
   ·simp only [if_pos h]; exact z1 μ h j
   have:μ=v:=by omega
   subst this
   simp only [if_neg h]
   rw [hzv]
  ·rw [show dS f (v + 1)=dS f v + f v from rfl,zU,sm]
   have a1:sm (fun i=>x i * (if i < dS f v then y i else g v (i - dS f v)) j) (dS f v)=sm (fun i=>x i * y i j) (dS f v):=ai fun i hi=>by rw [if_pos hi]
   have a2:sm (fun i=>x (dS f v + i) * (if dS f v + i < dS f v then y (dS f v + i) else g v (dS f v + i - dS f v)) j) (f v)=sm (fun i=>x (dS f v + i) * g v i j) (f v):=ai fun i hi=>by rw [if_neg (by omega),Nat.add_sub_cancel_left]
   have a3:sm (fun μ=>(if μ < v then z μ else fun j=>sm (fun i=>x (dS f v + i) * g v i j) (f v)) j) v=sm (fun μ=>z μ j) v:=ai fun μ hμ=>by rw [if_pos hμ]
   rw [a1,a2,a3,z2 j]
   show _=_ + (if v < v then z v else fun j=>sm (fun i=>x (dS f v + i) * g v i j) (f v)) j
   rw [if_neg (Nat.lt_irrefl v)]
  have b1:∀ μ,μ < v→∀ j,z μ j=0:=fun μ hμ j=>by
   simpa [hμ] using h0 μ (by omega) j
  have b2:∀ j,sm (fun i=>x (dS f v + i) * g v i j) (f v)=0:=fun j=>by
   simpa using h0 v (by omega) j
  simp only [dS] at hj
  by_cases h:j < dS f v
  ·exact z3 b1 j h
  have:=hi v (by omega) (fun i=>x (dS f v + i)) b2 (j - dS f v) (by omega)
  rwa [show dS f v + (j - dS f v)=j by omega] at this
theorem B7 {p n:Nat} (R:Rp K p) {A:(Nat→K)→Nat→K} (hA:xq A) {s' : List (List Int)} (hn:s'.length=n) (f:Nat→Nat) (g:Nat→Nat→Nat→K) (hS:∀ v,v < p→∀ i,i < f v→bA s' (g v i)) (hg:∀ v,v < p→∀ i,i < f v→∀ j,A (g v i) j=(v:K) * g v i j) (hi:∀ v,v < p→im (g v) (f v)):dS f p≤n:=by
 obtain ⟨y,y1,y2⟩:=vC R hA f g hS hg hi p (Nat.le_refl _)
 refine qx R.fld (y:=y) (z:=bN s') (fun x hx=>?_) fun j hj=>?_
 ·obtain ⟨z,z1,z2,z3⟩:=y2 x
  exact z3 (sx R hA p (Nat.le_refl _) z z1 fun j=>by rw [← z2 j]; exact hx j)
 obtain ⟨C,hC⟩:=y1 j hj
 exact ⟨C,fun k=>by rw [hC,hn]⟩
end
end Go.Proofs.YtjlmpmidchddjaaDoor
namespace Go.Proofs.YtjlmpmidchddjaaDoor
open Lean.Grind
attribute [local instance] Lean.Grind.Semiring.natCast Lean.Grind.Ring.intCast
def eA (p:Nat) (s a:List (List Int)) (v:Nat):List (List Int):=(dX p (jV p v a s.length)).map (uP p s)
def yQ (p:Nat) (s a:List (List Int)) (v:Nat):Nat:=(dX p (jV p v a s.length)).length
def pA (p:Nat) (s a:List (List Int)) (v f:Nat):List (List (List Int)):=(List.range' v f).flatMap fun μ=>if dX p (jV p μ a s.length)=[] then [] else [eA p s a μ]
theorem lQ {p:Nat} {s a:List (List Int)} (hd:dS (yQ p s a) p≤s.length):∀ (f v:Nat) (left:Int) (out:List (List (List Int))),v + f=p→left=(s.length:Int) - (dS (yQ p s a) v:Nat)→iC p s a f left v out=out++pA p s a v f
 | 0,v,left,out,_,_=>by rw [iC]; simp [pA]
 | f + 1,v,left,out,hv,hl=>by
  have hpc:pA p s a v (f + 1)=(if dX p (jV p v a s.length)=[] then [] else [eA p s a v])++pA p s a (v + 1) f:=by
   unfold pA
   rw [List.range'_succ,List.flatMap_cons]
  by_cases h:0 < left
  ·rw [iC,if_pos ⟨by omega,h⟩,hpc]
   by_cases hk:dX p (jV p v a s.length)=[]
   ·rw [if_pos hk,if_pos hk,lQ hd f (v + 1) left out (by omega)]
    ·rfl
    have:yQ p s a v=0:=by unfold yQ; rw [hk]; rfl
    simp only [dS,this]; omega
   rw [if_neg hk,if_neg hk,lQ hd f (v + 1) _ _ (by omega)]
   ·simp [eA]
   simp only [dS]
   have:(dX p (jV p v a s.length)).length=yQ p s a v:=rfl
   rw [this]; omega
  rw [lP (.inr fun hh=>h hh.2)]
  have h0:pA p s a v (f + 1)=[]:=by
   unfold pA
   rw [List.flatMap_eq_nil_iff]
   intro μ hμ
   have hm:=List.mem_range'_1.1 hμ
   have h1:=vS (yQ p s a) (show v≤μ by omega)
   have h2:=vS (yQ p s a) (show μ + 1≤p by omega)
   simp only [dS] at h2
   have h3:yQ p s a μ=0:=by omega
   exact if_pos (List.length_eq_zero_iff.1 h3)
  rw [h0,List.append_nil]
section
variable {K:Type} [CommRing K]
def Ib (t t' : List (List Int)):Prop:=∀ u:Nat→K,bA t u→bA t' u→∀ j,u j=0
theorem u9 {p:Nat} (R:Rp K p) {s:List (List Int)} (h:im (bN (K:=K) s) s.length) (h0:0 < s.length):¬ ∀ j,bN (K:=K) s 0 j=0:=fun hz=>by
 have:=h (fun i=>if i=0 then 1 else 0) (fun k=>by
  rw [ba (i:=0) h0 fun i hi hne=>by rw [if_neg hne]; grind,hz]; grind) 0 h0
 rw [if_pos rfl] at this
 exact R.fld.2 this
theorem wu {A:(Nat→K)→Nat→K} {S:(Nat→K)→Prop} (h:∀ u,S u→S (A u)) {u:Nat→K} (hu:S u):∀ k,S (mA A k u)
 | 0=>hu
 | k + 1=>h _ (wu h hu k)
theorem oK {p c:Nat} (R:Rp K p) {s m:List (List Int)} (ho:EY p c s) (hm:m.length=c) (hinv:∀ u:Nat→K,bA s u→bA s (dq c m u)) (hpow:∀ u:Nat→K,bA s u→mA (dq c m) p u=dq c m u) (hind:im (bN (K:=K) s) s.length) :
  (∀ t∈gx p s m,∃ v:K,(∀ u:Nat→K,bA t u↔bA s u∧∀ j,dq c m u j=v * u j)∧im (bN (K:=K) t) t.length)∧(gx p s m).Pairwise (Ib (K:=K))∧∀ S:(Nat→K)→Prop,gT S→(∀ t∈gx p s m,∀ u,bA t u→S u)→∀ u,bA s u→S u:=by
 have hA:=nW (K:=K) c m
 have hp2:=R.two
 unfold gx
 by_cases h1:s.length=1
 ·rw [if_pos h1]
  obtain ⟨C,hC⟩:=hinv _ (bA.get (show 0 < s.length by omega))
  rw [h1] at hC
  have hall:∀ u:Nat→K,bA s u→∀ j,dq c m u j=C 0 * u j:=fun u hu j=>by
   obtain ⟨D,hD⟩:=hu
   rw [h1] at hD
   have e:u=fun j=>D 0 * bN s 0 j:=by funext j; rw [hD]; simp only [sm]; grind
   rw [e,hA.2]
   simp only
   rw [hC]; simp only [sm]; grind
  refine ⟨fun t ht=>?_,List.pairwise_singleton _ _,fun S _ hS u hu=>hS s (by simp) u hu⟩
  rw [List.mem_singleton.1 ht]
  exact ⟨C 0,fun u=>⟨fun hu=>⟨hu,hall u hu⟩,fun hu=>hu.1⟩,hind⟩
 rw [if_neg h1]
 have hri:=fH (p:=p) (by omega) ho.row ho.rg s.length (Nat.le_refl _)
 obtain ⟨he,hsp⟩:=mf (K:=K) R.toRd ho.row ho.rg s.length (Nat.le_refl _)
 rw [List.take_length] at hsp
 generalize cA p s s.length=Z at *
 obtain ⟨s',at'⟩:=Z
 obtain ⟨l1,l2,l3,l4⟩:=hri
 simp only at l1 l2 l3 l4 hsp ⊢
 obtain ⟨n,hn⟩:∃ n,s'.length=n:=⟨_,rfl⟩
 have hn0:0 < n:=by
  refine Nat.pos_of_ne_zero fun h0=>u9 R hind ho.pos fun j=>?_
  obtain ⟨C,hC⟩:=(hsp _).2 (bA.get ho.pos)
  rw [hC,hn,h0]; rfl
 have hinv' : ∀ u:Nat→K,bA s' u→bA s' (dq c m u):=fun u hu=>(hsp _).2 (hinv u ((hsp u).1 hu))
 have hpc:=fun v (hv:v < p)=>piece (K:=K) R he hn (by rw [l1,hn]) l2 (fun i hi=>l4 i (by rw [l1,hn]; exact hi)) hm hinv' hv hn0
 obtain ⟨a,ha⟩:∃ a,fp p m s' at' s'.length=a:=⟨_,rfl⟩
 rw [hn] at ha
 rw [hn,ha]
 rw [ha] at hpc
 have hdim:dS (yQ p s' a) p≤s'.length:=by
  refine B7 R hA rfl (yQ p s' a) (fun v=>bN (eA p s' a v)) (fun v hv i hi=>?_) (fun v hv i hi=>?_) fun v hv=>?_
  ·have hil:i < (eA p s' a v).length:=by unfold eA; rw [List.length_map]; exact hi
   have h2:=bA.get (K:=K) hil
   unfold eA at h2 ⊢
   rw [hn] at h2 ⊢
   exact (((hpc v hv).1 _).1 h2).1
  ·have hil:i < (eA p s' a v).length:=by unfold eA; rw [List.length_map]; exact hi
   have h2:=bA.get (K:=K) hil
   unfold eA at h2 ⊢
   rw [hn] at h2 ⊢
   exact (((hpc v hv).1 _).1 h2).2
  have h2:=(hpc v hv).2
  unfold eA yQ
  rw [hn]; exact h2
 have hfull:=lQ hdim p 0 (s'.length:Int) [] (by omega) (by simp [dS])
 rw [hn] at hfull
 rw [hfull,List.nil_append]
 have hmem:∀ t,t∈pA p s' a 0 p↔∃ v,v < p∧¬ dX p (jV p v a n)=[]∧t=eA p s' a v:=fun t=>by
  unfold pA
  rw [List.mem_flatMap]
  constructor
  ·rintro ⟨v,hv,ht⟩
   have:=List.mem_range'_1.1 hv
   rw [hn] at ht
   split at ht
   ·cases ht
   rename_i h
   exact ⟨v,by omega,h,List.mem_singleton.1 ht⟩
  rintro ⟨v,hv,hk,rfl⟩
  refine ⟨v,List.mem_range'_1.2 ⟨Nat.zero_le _,by omega⟩,?_⟩
  rw [hn,if_neg hk]; simp
 have hrv:∀ v,v < p→∀ u:Nat→K,bA (eA p s' a v) u↔bA s u∧∀ j,dq c m u j=(v:K) * u j:=fun v hv u=>by
  unfold eA
  rw [hn]
  rw [(hpc v hv).1 u,hsp u]
 refine ⟨fun t ht=>?_,?_,fun S hS hSt u hu=>?_⟩
 ·obtain ⟨v,hv,_,rfl⟩:=(hmem t).1 ht
  refine ⟨v,hrv v hv,?_⟩
  have h2:=(hpc v hv).2
  unfold eA
  rw [hn,List.length_map]; exact h2
 ·unfold pA
  rw [List.pairwise_flatMap]
  refine ⟨fun v _=>?_,?_⟩
  ·split
   ·exact List.Pairwise.nil
   exact List.pairwise_singleton _ _
  refine (List.pairwise_lt_range' (s:=0) (n:=p)).imp_of_mem fun {v v'} hv hv' hlt x hx y hy=>?_
  have b1:=List.mem_range'_1.1 hv
  have b2:=List.mem_range'_1.1 hv'
  have ex:x=eA p s' a v:=by
   split at hx
   ·cases hx
   exact List.mem_singleton.1 hx
  have ey:y=eA p s' a v':=by
   split at hy
   ·cases hy
   exact List.mem_singleton.1 hy
  subst ex ey
  intro u hu hu' j
  have c1:=((hrv v (by omega) u).1 hu).2 j
  have c2:=((hrv v' (by omega) u).1 hu').2 j
  have c3:((v:K) - (v' : K)) * u j=0:=by grind
  rcases R.fld.mul c3 with h | h
  ·exact absurd h (R.ne (by omega) (by omega) (by omega))
  exact h
 have h2:u=fun j=>sm (fun v=>(1:K) * Bj (dq c m) p (v:K) u j) p:=by
  funext j
  rw [← B1 hp2 R.ch R.pws (A:=dq c m) u j]
  exact ai fun v _=>by grind
 rw [h2]
 refine hS.sum fun v hv=>?_
 have h3:bA s (Bj (dq c m) p (v:K) u):=by
  have h4:=(bA.lR s).sum (y:=fun k=>mA (dq c m) k u) (c:=fun k=>(v:K) ^ (p - 1 - k)) (n:=p) fun k _=>wu hinv hu k
  exact (bA.lR s).sub hu h4
 have h5:=BT hA (by omega) (R.pow v) (hpow u hu)
 have h6:=(hrv v hv _).2 ⟨h3,h5⟩
 by_cases hk:dX p (jV p v a n)=[]
 ·unfold eA at h6
  rw [hn,hk] at h6
  obtain ⟨C,hC⟩:=h6
  have:Bj (dq c m) p (v:K) u=fun _=>0:=funext fun j=>by rw [hC]; rfl
  rw [this]; exact hS.zero
 exact hSt _ ((hmem _).2 ⟨v,hv,hk,rfl⟩) _ h6
structure Dw (K:Type) [CommRing K] (p c:Nat) (T:List (List (List Int))) (i:Nat):Prop where
 val:∀ s∈cQ p T [aP c c] i,∃ lam:Nat→K,(∀ u:Nat→K,bA s u↔(∀ j,c≤j→u j=0)∧∀ t,t < i→∀ j,dq c (T.getD t []) u j=lam t * u j)∧im (bN (K:=K) s) s.length
 dis:(cQ p T [aP c c] i).Pairwise (Ib (K:=K))
 all:∀ S:(Nat→K)→Prop,gT S→(∀ s∈cQ p T [aP c c] i,∀ u,bA s u→S u)→∀ u,(∀ j,c≤j→u j=0)→S u
theorem fO {c i:Nat} (hi:i < c) (j:Nat):bN (K:=K) (aP c c) i j=if j=i then 1 else 0:=by
 have e:(aP c c).getD i []=kO c i:=by simp [aP,List.getD,List.getElem?_map,List.getElem?_range hi]
 unfold bN
 rw [e]
 exact vW hi
theorem Av {p c:Nat} (T:List (List (List Int))):Dw K p c T 0:=by
 have hs:∀ u:Nat→K,bA (aP c c) u↔∀ j,c≤j→u j=0:=fun u=>by
  constructor
  ·rintro ⟨C,hC⟩ j hj
   rw [hC,bc]
   exact aS fun i hi=>by rw [fO hi,if_neg (by omega)]; grind
  intro h
  refine ⟨u,fun j=>?_⟩
  rw [bc]
  by_cases hj:j < c
  ·rw [ba (i:=j) hj fun i hi hne=>by rw [fO hi,if_neg (fun e=>hne e.symm)]; grind,fO hj,if_pos rfl]; grind
  rw [h j (by omega)]
  exact (aS fun i hi=>by rw [fO hi,if_neg (by omega)]; grind).symm
 refine ⟨fun s hs'=>?_,List.pairwise_singleton _ _,fun S _ hS u hu=>hS _ (List.mem_singleton.2 rfl) u ((hs u).2 hu)⟩
 rw [List.mem_singleton.1 hs']
 refine ⟨fun _=>0,fun u=>⟨fun hu=>⟨(hs u).1 hu,fun t ht=>absurd ht (Nat.not_lt_zero _)⟩,fun hu=>(hs u).2 hu.1⟩,fun x hx j hj=>?_⟩
 rw [bc] at hj hx
 have:=hx j
 rw [ba (i:=j) hj fun i hi hne=>by rw [fO hi,if_neg (fun e=>hne e.symm)]; grind,fO hj,if_pos rfl] at this
 grind
theorem zB {p c i:Nat} (R:Rp K p) {T:List (List (List Int))} (hc:0 < c) (hi:i < c) (hT:(T.getD i []).length=c) (hcom:∀ t,t < i→∀ u:Nat→K,dq c (T.getD t []) (dq c (T.getD i []) u)=dq c (T.getD i []) (dq c (T.getD t []) u)) (hpow:∀ u:Nat→K,mA (dq c (T.getD i [])) p u=dq c (T.getD i []) u)
  (h:Dw K p c T i):Dw K p c T (i + 1):=by
 have hso:=lK (p:=p) (c:=c) R.two T hc i
 have hv:∀ s∈cQ p T [aP c c] i,(∀ u:Nat→K,bA s u→bA s (dq c (T.getD i []) u))∧im (bN (K:=K) s) s.length:=fun s hs=>by
  obtain ⟨lam,l1,l2⟩:=h.val s hs
  refine ⟨fun u hu=>?_,l2⟩
  obtain ⟨u1,u2⟩:=(l1 u).1 hu
  refine (l1 _).2 ⟨fun j hj=>by unfold dq; rw [if_neg (by omega)],fun t ht j=>?_⟩
  rw [hcom t ht u]
  have e:dq c (T.getD t []) u=fun j=>lam t * u j:=funext fun j=>u2 t ht j
  rw [e,(nW c _).2]
 have hsp:=fun s hs=>oK (K:=K) R (hso s hs) hT (hv s hs).1 (fun u _=>hpow u) (hv s hs).2
 refine ⟨fun t ht=>?_,?_,fun S hS hSt u hu=>h.all S hS (fun s hs v hv=>(hsp s hs).2.2 S hS (fun t ht w hw=>hSt t ?_ w hw) v hv) u hu⟩
 ·rw [cQ] at ht
  obtain ⟨s,hs,hst⟩:=List.mem_flatMap.1 ht
  obtain ⟨lam,l1,l2⟩:=h.val s hs
  obtain ⟨v,v1,v2⟩:=(hsp s hs).1 t hst
  refine ⟨fun t=>if t=i then v else lam t,fun u=>?_,v2⟩
  rw [v1 u,l1 u]
  constructor
  ·rintro ⟨⟨a,b⟩,d⟩
   refine ⟨a,fun t ht j=>?_⟩
   show _=(if t=i then v else lam t) * u j
   by_cases e:t=i
   ·rw [if_pos e,e]; exact d j
   rw [if_neg e]; exact b t (by omega) j
  rintro ⟨a,b⟩
  refine ⟨⟨a,fun t ht j=>?_⟩,fun j=>?_⟩
  ·have hti:¬ t=i:=by omega
   simpa [hti] using b t (by omega) j
  simpa using b i (by omega) j
 ·rw [cQ,List.pairwise_flatMap]
  refine ⟨fun s hs=>(hsp s hs).2.1,h.dis.imp_of_mem fun {s s'} hs hs' hd x hx y hy=>?_⟩
  obtain ⟨v,v1,_⟩:=(hsp s hs).1 x hx
  obtain ⟨v',v1',_⟩:=(hsp s' hs').1 y hy
  exact fun u hu hu'=>hd u ((v1 u).1 hu).1 ((v1' u).1 hu').1
 rw [cQ]; exact List.mem_flatMap.2 ⟨s,hs,ht⟩
theorem vw {p c:Nat} (R:Rp K p) {T:List (List (List Int))} (hc:0 < c) (hT:∀ i,i < c→(T.getD i []).length=c) (hcom:∀ i t,i < c→t < c→∀ u:Nat→K,dq c (T.getD t []) (dq c (T.getD i []) u)=dq c (T.getD i []) (dq c (T.getD t []) u)) (hpow:∀ i,i < c→∀ u:Nat→K,mA (dq c (T.getD i [])) p u=dq c (T.getD i []) u) :
  ∀ i,i≤c→Dw K p c T i
 | 0,_=>Av T
 | i + 1,hi=>zB R hc (by omega) (hT i (by omega)) (fun t ht=>hcom i t (by omega) (by omega)) (hpow i (by omega)) (vw R hc hT hcom hpow i (by omega))
theorem Co {p c i:Nat} (R:Rp K p) {T:List (List (List Int))} (hc:0 < c) (h1:Dw K p c T (i + 1)) (h:Dw K p c T i) (hsp:∀ s∈cQ p T [aP c c] i,gx p s (T.getD i []) ≠ []):(cQ p T [aP c c] i).length≤(cQ p T [aP c c] (i + 1)).length:=by
 rw [cQ]
 generalize cQ p T [aP c c] i=Sp at *
 clear h h1
 induction Sp with
 | nil=>simp
 | cons s r ih =>
  rw [List.flatMap_cons,List.length_append,List.length_cons]
  have h2:=List.length_pos_iff.2 (hsp s (by simp))
  have:=ih fun s hs=>hsp s (by simp [hs])
  omega
end
end Go.Proofs.YtjlmpmidchddjaaDoor
namespace Go.Proofs.YtjlmpmidchddjaaDoor
open Lean.Grind
attribute [local instance] Lean.Grind.Semiring.natCast Lean.Grind.Ring.intCast
structure GC (n:Nat) (f:Nat→Nat→Nat) (e c:Nat) (cI xx:Nat→Nat):Prop where
 G:dF n f e
 lt:∀ a,a < n→cI a < c
 xl:∀ i,i < c→xx i < n
 cx:∀ i,i < c→cI (xx i)=i
 cj:∀ a b,a < n→b < n→(cI a=cI b↔∃ y,y < n∧f (f (iv n f e y) a) y=b)
section
variable {n e c:Nat} {f:Nat→Nat→Nat} {cI xx:Nat→Nat}
def bU (n:Nat) (f:Nat→Nat→Nat) (e y a:Nat):Nat:=f (f (iv n f e y) a) y
theorem GC.sT (h:GC n f e c cI xx) {y a:Nat} (hy:y < n) (ha:a < n):bU n f e y a < n:=h.G.cl _ _ (h.G.cl _ _ (h.G.az hy) ha) hy
theorem GC.Fs (h:GC n f e c cI xx) {y a:Nat} (hy:y < n) (ha:a < n):cI (bU n f e y a)=cI a:=((h.cj a _ ha (h.sT hy ha)).2 ⟨y,hy,rfl⟩).symm
theorem GC.comm (h:GC n f e c cI xx) {a b:Nat} (ha:a < n) (hb:b < n):cI (f a b)=cI (f b a):=by
 have G:=h.G
 refine (h.cj _ _ (G.cl _ _ ha hb) (G.cl _ _ hb ha)).2 ⟨a,ha,?_⟩
 rw [← G.assoc _ _ _ (G.az ha) ha hb,G.eb ha,G.one_l b hb]
theorem GC.xU (h:GC n f e c cI xx) {a b:Nat} (ha:a < n) (hb:b < n):f (iv n f e a) (f a b)=b:=by
 rw [← h.G.assoc _ _ _ (h.G.az ha) ha hb,h.G.eb ha,h.G.one_l b hb]
theorem GC.pf (h:GC n f e c cI xx) {a b:Nat} (ha:a < n) (hb:b < n):f a (f (iv n f e a) b)=b:=by
 rw [← h.G.assoc _ _ _ ha (h.G.az ha) hb,h.G.eC ha,h.G.one_l b hb]
theorem GC.HB (h:GC n f e c cI xx) {a b:Nat} (ha:a < n) (hb:b < n):f (f b a) (iv n f e a)=b:=by
 rw [h.G.assoc _ _ _ hb ha (h.G.az ha),h.G.eC ha,h.G.one_r b hb]
theorem GC.C4 (h:GC n f e c cI xx) {a x y:Nat} (ha:a < n) (hx:x < n) (hy:y < n) (hxy:f a x=f a y):x=y:=h.G.gw ha hx hy hxy
theorem GC.De (h:GC n f e c cI xx) {a x y:Nat} (ha:a < n) (hx:x < n) (hy:y < n) (hxy:f x a=f y a):x=y:=h.G.oA ha hx hy hxy
variable {K:Type} [CommRing K]
theorem GC.fu (h:GC n f e c cI xx) {a:Nat} (ha:a < n) (F:Nat→K):sm (fun y=>F (f a y)) n=sm F n:=
 mh (σ:=fun y=>f a y) (fun i hi=>h.G.cl _ _ ha hi) (fun i j hi hj hij=>h.C4 ha hi hj hij) F
theorem GC.HA (h:GC n f e c cI xx) {a:Nat} (ha:a < n) (F:Nat→K):sm (fun y=>F (f y a)) n=sm F n:=
 mh (σ:=fun y=>f y a) (fun i hi=>h.G.cl _ _ hi ha) (fun i j hi hj hij=>h.De ha hi hj hij) F
theorem GC.w9 (h:GC n f e c cI xx) (F:Nat→K):sm (fun y=>F (iv n f e y)) n=sm F n:=
 mh (σ:=fun y=>iv n f e y) (fun i hi=>h.G.az hi) (fun i j hi hj hij=>by
  have:=congrArg (iv n f e) hij
  simpa only [h.G.cN hi,h.G.cN hj] using this) F
theorem GC.CL (h:GC n f e c cI xx) {y:Nat} (hy:y < n) (F:Nat→K):sm (fun g=>F (bU n f e y g)) n=sm F n:=
 mh (σ:=bU n f e y) (fun i hi=>h.sT hy hi) (fun i j hi hj hij=>by
  have h1:=h.De hy (h.G.cl _ _ (h.G.az hy) hi) (h.G.cl _ _ (h.G.az hy) hj) hij
  exact h.C4 (h.G.az hy) hi hj h1) F
def pd (n:Nat) (cI:Nat→Nat) (T:Nat→K):Prop:=∀ a b,a < n→b < n→cI a=cI b→T a=T b
def sC (n:Nat) (cI:Nat→Nat) (i:Nat) (F:Nat→K):K:=sm (fun g=>if cI g=i then F g else 0) n
theorem ck {i:Nat} {F F' : Nat→K} (h:∀ g,g < n→cI g=i→F g=F' g):sC n cI i F=sC n cI i F':=ai fun g hg=>by
 by_cases e:cI g=i
 ·rw [if_pos e,if_pos e,h g hg e]
 rw [if_neg e,if_neg e]
theorem Fi (k:K) (i:Nat) (F:Nat→K):sC n cI i (fun g=>k * F g)=k * sC n cI i F:=by
 unfold sC
 rw [← aK]; exact ai fun g _=>by split<;>grind
theorem rl (k:K) (i:Nat) (F:Nat→K):sC n cI i (fun g=>F g * k)=sC n cI i F * k:=by
 unfold sC
 rw [← bI]; exact ai fun g _=>by split<;>grind
theorem Du (i m:Nat) (F:Nat→Nat→K):sC n cI i (fun g=>sm (fun k=>F g k) m)=sm (fun k=>sC n cI i fun g=>F g k) m:=by
 unfold sC
 rw [← aU]
 exact ai fun g _=>by
  split
  ·rfl
  exact (aS fun _ _=>rfl).symm
theorem GC.G2 (h:GC n f e c cI xx) {y:Nat} (hy:y < n) (i:Nat) (F:Nat→K):sC n cI i (fun g=>F (bU n f e y g))=sC n cI i F:=by
 unfold sC
 rw [← h.CL hy fun g=>if cI g=i then F g else 0]
 exact ai fun g hg=>by rw [h.Fs hy hg]
theorem GC.Ij (h:GC n f e c cI xx) (F:Nat→K):sm (fun i=>sC n cI i F) c=sm F n:=by
 unfold sC
 rw [aU]
 refine ai fun g hg=>?_
 rw [ba (i:=cI g) (h.lt g hg) fun i _ hne=>if_neg fun e=>hne e.symm,if_pos rfl]
def rQ (K:Type) [CommRing K] (n:Nat) (cI:Nat→Nat) (i:Nat):K:=sC n cI i fun _=>1
theorem GC.CB (h:GC n f e c cI xx) {T:Nat→K} (hT:pd n cI T) {i:Nat} (hi:i < c):sC n cI i T=rQ K n cI i * T (xx i):=by
 unfold rQ
 rw [← rl]
 refine ck fun g hg hgi=>?_
 rw [hT g (xx i) hg (h.xl i hi) (by rw [hgi,h.cx i hi])]; grind
def bW (n:Nat) (f:Nat→Nat→Nat) (cI:Nat→Nat) (i:Nat) (T:Nat→K) (x:Nat):K:=sC n cI i fun g=>T (f g x)
theorem GC.A9 (h:GC n f e c cI xx) {T:Nat→K} (hT:pd n cI T) {a b:Nat} (ha:a < n) (hb:b < n):T (f a b)=T (f b a):=hT _ _ (h.G.cl _ _ ha hb) (h.G.cl _ _ hb ha) (h.comm ha hb)
theorem GC.AK (h:GC n f e c cI xx) {T:Nat→K} (hT:pd n cI T) (i:Nat):pd n cI (bW n f cI i T):=fun a b ha hb hab=>by
 obtain ⟨y,hy,rfl⟩:=(h.cj a b ha hb).1 hab
 have G:=h.G
 have hj:=G.az hy
 unfold bW
 rw [← h.G2 hj i fun g=>T (f g a)]
 refine ck fun g hg _=>?_
 show T (f (f (f (iv n f e (iv n f e y)) g) (iv n f e y)) a)=T (f g (f (f (iv n f e y) a) y))
 rw [G.cN hy]
 have h1:f g (f (f (iv n f e y) a) y)=f (f g (f (iv n f e y) a)) y:=(G.assoc _ _ _ hg (G.cl _ _ hj ha) hy).symm
 rw [h1,h.A9 hT (G.cl _ _ hg (G.cl _ _ hj ha)) hy,G.assoc _ _ _ (G.cl _ _ hy hg) hj ha,G.assoc _ _ _ hy hg (G.cl _ _ hj ha)]
theorem GC.DZ (h:GC n f e c cI xx) (T:Nat→K) (i j:Nat) {x:Nat} (hx:x < n):bW n f cI i (bW n f cI j T) x=bW n f cI j (bW n f cI i T) x:=by
 have G:=h.G
 unfold bW
 have e1:sC n cI j (fun g=>sC n cI i fun g'=>T (f g' (f g x)))=sC n cI i fun g=>sC n cI j fun g'=>T (f g (f g' x)):=by
  unfold sC
  have a1:∀ g,g < n→(if cI g=j then sm (fun g'=>if cI g' = i then T (f g' (f g x)) else 0) n else 0)=sm (fun g'=>if cI g=j then (if cI g' = i then T (f g' (f g x)) else 0) else 0) n:=fun g _=>by
   split
   ·rfl
   exact (aS fun _ _=>rfl).symm
  rw [ai a1,aU]
  refine ai fun g' _=>?_
  by_cases hg:cI g' = i
  ·rw [if_pos hg]; exact ai fun g _=>by split<;>simp [hg]
  rw [if_neg hg]; exact aS fun g _=>by split<;>simp [hg]
 rw [e1]
 refine ck fun g hg _=>?_
 rw [← h.G2 (G.az hg) j fun g'=>T (f g' (f g x))]
 refine ck fun g' hg' _=>?_
 show T (f (f (f (iv n f e (iv n f e g)) g') (iv n f e g)) (f g x))=T (f g (f g' x))
 rw [G.cN hg,G.assoc _ _ _ (G.cl _ _ hg hg') (G.az hg) (G.cl _ _ hg hx),h.xU hg hx,G.assoc _ _ _ hg hg' hx]
def gM (K:Type) [CommRing K] (n:Nat) (f:Nat→Nat→Nat) (e:Nat) (cI xx:Nat→Nat) (i j k:Nat):K:=sC n cI i fun g=>if cI (f (iv n f e g) (xx k))=j then 1 else 0
def vT (n c:Nat) (cI:Nat→Nat) (T:Nat→K) (k:Nat):K:=if k < c then sC n cI k T else 0
theorem GC.iR (h:GC n f e c cI xx) {T:Nat→K} (hT:pd n cI T) {i j:Nat} (hj:j < c):sm (fun k=>gM K n f e cI xx i j k * vT n c cI T k) c=sC n cI j (bW n f cI i T):=by
 have G:=h.G
 have hN:pd n cI fun z=>sC n cI i fun g=>if cI (f (iv n f e g) z)=j then (1:K) else 0:=fun a b ha hb hab=>by
  obtain ⟨y,hy,rfl⟩:=(h.cj a b ha hb).1 hab
  have hjy:=G.az hy
  show sC n cI i _=sC n cI i _
  rw [← h.G2 hy i fun g=>if cI (f (iv n f e g) (f (f (iv n f e y) a) y))=j then (1:K) else 0]
  refine ck fun g hg _=>?_
  have e1:iv n f e (bU n f e y g)=bU n f e y (iv n f e g):=by
   unfold bU
   rw [G.bM (G.cl _ _ hjy hg) hy,G.bM hjy hg,G.cN hy,G.assoc _ _ _ hjy (G.az hg) hy]
  have e2:f (bU n f e y (iv n f e g)) (f (f (iv n f e y) a) y)=bU n f e y (f (iv n f e g) a):=by
   unfold bU
   have hgi:=G.az hg
   rw [G.assoc _ _ _ (G.cl _ _ hjy hgi) hy (G.cl _ _ (G.cl _ _ hjy ha) hy),G.assoc (iv n f e y) a y hjy ha hy,h.pf hy (G.cl _ _ ha hy),
    G.assoc _ _ _ hjy hgi (G.cl _ _ ha hy),← G.assoc _ _ _ hgi ha hy,G.assoc _ _ _ hjy (G.cl _ _ hgi ha) hy]
  rw [e1,e2,h.Fs hy (G.cl _ _ (G.az hg) ha)]
 have e1:sm (fun k=>gM K n f e cI xx i j k * vT n c cI T k) c=sm (fun k=>sC n cI k fun y=>(sC n cI i fun g=>if cI (f (iv n f e g) y)=j then (1:K) else 0) * T y) c:=ai fun k hk=>by
  unfold vT gM
  rw [if_pos hk,← Fi]
  refine ck fun y hy hyk=>?_
  have:=hN y (xx k) hy (h.xl k hk) (by rw [hyk,h.cx k hk])
  simp only at this
  rw [this]
 rw [e1,h.Ij]
 have e2:sm (fun y=>(sC n cI i fun g=>if cI (f (iv n f e g) y)=j then (1:K) else 0) * T y) n=sC n cI i fun g=>sm (fun y=>(if cI (f (iv n f e g) y)=j then (1:K) else 0) * T y) n:=by
  rw [Du]
  exact ai fun y _=>by rw [rl]
 rw [e2]
 have e3:∀ g,g < n→sm (fun y=>(if cI (f (iv n f e g) y)=j then (1:K) else 0) * T y) n=sC n cI j fun x=>T (f g x):=fun g hg=>by
  rw [← h.fu hg fun y=>(if cI (f (iv n f e g) y)=j then (1:K) else 0) * T y]
  unfold sC
  refine ai fun x hx=>?_
  rw [h.xU hg hx]
  split<;>grind
 rw [ck fun g hg _=>e3 g hg]
 unfold sC bW
 have a1:∀ g,g < n→(if cI g=i then sm (fun x=>if cI x=j then T (f g x) else 0) n else 0)=sm (fun x=>if cI g=i then (if cI x=j then T (f g x) else 0) else 0) n:=fun g _=>by
  split
  ·rfl
  exact (aS fun _ _=>rfl).symm
 rw [ai a1,aU]
 refine ai fun x _=>?_
 by_cases hx:cI x=j
 ·rw [if_pos hx]
  unfold sC
  exact ai fun g _=>by split<;>simp [hx]
 rw [if_neg hx]; exact aS fun g _=>by split<;>simp [hx]
theorem jA (q:Nat→Bool) (l:List Nat) (F:Nat→K):sl (l.filter q) F=sl l fun x=>if q x=true then F x else 0:=by
 induction l with
 | nil=>rfl
 | cons x l ih =>
  rw [List.filter_cons,cm]
  by_cases hx:q x=true
  ·rw [if_pos hx,if_pos hx,cm,ih]
  rw [if_neg hx,if_neg hx,ih]; grind
def xT (n:Nat) (cI:Nat→Nat) (i:Nat):List Nat:=(List.range n).filter fun g=>decide (cI g=i)
theorem qX (i:Nat) (F:Nat→K):sl (xT n cI i) F=sC n cI i F:=by
 unfold xT sC
 rw [jA,cD]
 exact ai fun g _=>by simp only [decide_eq_true_eq]
theorem Bs {i g:Nat} : g∈xT n cI i↔g < n∧cI g=i:=by simp [xT]
def kJ (f:Nat→Nat→Nat) (w:List Nat) (x:Nat):Nat:=w.foldr f x
theorem GC.FU (h:GC n f e c cI xx) {w:List Nat} (hw:∀ y∈w,y < n) {x:Nat} (hx:x < n):kJ f w x < n:=by
 induction w with
 | nil=>exact hx
 | cons y w ih=>exact h.G.cl _ _ (hw y (by simp)) (ih fun z hz=>hw z (by simp [hz]))
theorem nU (w w' : List Nat) (x:Nat):kJ f (w++w') x=kJ f w (kJ f w' x):=List.foldr_append
theorem GC.Eo (h:GC n f e c cI xx) {w:List Nat} (hw:∀ y∈w,y < n) {x:Nat} (hx:x < n):kJ f w x=f (kJ f w e) x:=by
 induction w with
 | nil=>exact (h.G.one_l x hx).symm
 | cons y w ih =>
  have hw' : ∀ z∈w,z < n:=fun z hz=>hw z (by simp [hz])
  show f y (kJ f w x)=f (f y (kJ f w e)) x
  rw [ih hw',h.G.assoc _ _ _ (hw y (by simp)) (h.FU hw' h.G.el) hx]
theorem GC.Gv (h:GC n f e c cI xx) {a:Nat} (ha:a < n):∀ k,kJ f (List.replicate k a) e=pw f e a k
 | 0=>rfl
 | k + 1=>by
  rw [List.replicate_succ,h.G.oa ha]
  show f a (kJ f (List.replicate k a) e)=_
  rw [h.Gv ha k]
def Dd (n:Nat) (f:Nat→Nat→Nat) (cI:Nat→Nat) (i:Nat) (T:Nat→K):Nat→Nat→K
 | 0=>T
 | k + 1=>bW n f cI i (Dd n f cI i T k)
theorem p5 (i:Nat) (T:Nat→K):∀ k x,Dd n f cI i T k x=sW (xT n cI i) k fun w=>T (kJ f w x)
 | 0,x=>rfl
 | k + 1,x=>by
  rw [qV]
  show sC n cI i (fun g=>Dd n f cI i T k (f g x))=_
  rw [qX]
  refine ck fun g _ _=>?_
  rw [p5 i T k]
  congr 1
  funext w
  rw [nU]; rfl
theorem GC.Gq (h:GC n f e c cI xx) {T:Nat→K} (hT:pd n cI T) (i:Nat):∀ k,pd n cI (Dd n f cI i T k)
 | 0=>hT
 | k + 1=>h.AK (h.Gq hT i k) i
theorem GC.HJ (h:GC n f e c cI xx) {p:Nat} (R:Rp K p) (hcz:∀ a:Nat,0 < a→a < p→(a:K) ≠ 0) (hpw:∀ a,a < n→pw f e a p=a) {T:Nat→K} (hT:pd n cI T) (i:Nat) {j:Nat} : sC n cI j (Dd n f cI i T p)=sC n cI j (bW n f cI i T):=by
 have G:=h.G
 have hp0:0 < p:=by have:=R.two; omega
 let T2:Nat→K:=fun y=>sC n cI j fun x=>T (f y x)
 have hT2:pd n cI T2:=fun a b ha hb hab=>by
  obtain ⟨y,hy,rfl⟩:=(h.cj a b ha hb).1 hab
  have hjy:=G.az hy
  show sC n cI j _=sC n cI j _
  rw [← h.G2 hy j fun x=>T (f (f (f (iv n f e y) a) y) x)]
  refine ck fun x hx _=>?_
  have hyx:=G.cl _ _ hjy hx
  have e1:f (f (f (iv n f e y) a) y) (bU n f e y x)=bU n f e y (f a x):=by
   unfold bU
   rw [G.assoc _ _ _ (G.cl _ _ hjy ha) hy (G.cl _ _ hyx hy),G.assoc (iv n f e y) x y hjy hx hy,h.pf hy (G.cl _ _ hx hy),G.assoc _ _ _ hjy ha (G.cl _ _ hx hy),← G.assoc _ _ _ ha hx hy,← G.assoc _ _ _ hjy (G.cl _ _ ha hx) hy]
  rw [e1]
  exact hT _ _ (G.cl _ _ ha hx) (h.sT hy (G.cl _ _ ha hx)) (h.Fs hy (G.cl _ _ ha hx)).symm
 let F:List Nat→K:=fun w=>if ∀ y∈w,y < n then T2 (kJ f w e) else 0
 have hF:∀ w,F (iU w)=F w:=fun w=>by
  cases w with
  | nil=>rfl
  | cons y w =>
   simp only [F,iU]
   by_cases hw:∀ z∈y :: w,z < n
   ·have hw2:∀ z∈w++[y],z < n:=fun z hz=>hw z (by
     rcases List.mem_append.1 hz with hz | hz
     ·simp [hz]
     simp [List.mem_singleton.1 hz])
    rw [if_pos hw,if_pos hw2,nU]
    have hy:=hw y (by simp)
    have hw3:∀ z∈w,z < n:=fun z hz=>hw z (by simp [hz])
    have e1:kJ f [y] e=y:=G.one_r y hy
    rw [e1,h.Eo hw3 hy]
    exact h.A9 hT2 (h.FU hw3 G.el) hy
   have hw2:¬ ∀ z∈w++[y],z < n:=fun hh=>hw fun z hz=>hh z (by
    rcases List.mem_cons.1 hz with hz | hz
    ·simp [hz]
    simp [hz])
   rw [if_neg hw,if_neg hw2]
 have e1:sC n cI j (Dd n f cI i T p)=sW (xT n cI i) p F:=by
  have e2:sC n cI j (Dd n f cI i T p)=sl (xT n cI j) fun x=>sW (xT n cI i) p fun w=>T (kJ f w x):=by
   rw [qX]
   exact ck fun x _ _=>p5 i T p x
  have e3:∀ k (H:Nat→List Nat→K),sl (xT n cI j) (fun x=>sW (xT n cI i) k fun w=>H x w)=sW (xT n cI i) k fun w=>sl (xT n cI j) fun x=>H x w:=by
   intro k
   induction k with
   | zero=>intro H; rfl
   | succ k ih =>
    intro H
    simp only [sW]
    rw [qz]
    exact jh fun y _=>ih fun x w=>H x (y :: w)
  rw [e2,e3]
  refine ej fun w _ hw=>?_
  have hwn:∀ y∈w,y < n:=fun y hy=>(Bs.1 (hw y hy)).1
  simp only [F,T2]
  rw [if_pos hwn,qX]
  exact ck fun x hx _=>by rw [h.Eo hwn hx]
 rw [e1,qU R.fld hp0 R.ch hcz (show (xT n cI i).Nodup from List.nodup_range.filter _) hF,qX]
 have e4:sC n cI i (fun x=>F (List.replicate p x))=sC n cI i T2:=ck fun g hg _=>by
  simp only [F]
  rw [if_pos fun y hy=>by rw [List.eq_of_mem_replicate hy]; exact hg,h.Gv hg,hpw g hg]
 rw [e4]
 simp only [T2]
 unfold sC bW
 have a1:∀ g,g < n→(if cI g=i then sC n cI j (fun x=>T (f g x)) else 0)=sm (fun x=>if cI g=i then (if cI x=j then T (f g x) else 0) else 0) n:=fun g _=>by
  split
  ·rfl
  exact (aS fun _ _=>rfl).symm
 show sm (fun g=>if cI g=i then sC n cI j (fun x=>T (f g x)) else 0) n=_
 rw [ai a1,aU]
 refine ai fun x _=>?_
 by_cases hx:cI x=j
 ·rw [if_pos hx]
  unfold sC
  exact ai fun g _=>by split<;>simp [hx]
 rw [if_neg hx]; exact aS fun g _=>by split<;>simp [hx]
end
end Go.Proofs.YtjlmpmidchddjaaDoor
namespace Go.Proofs.YtjlmpmidchddjaaDoor
open Lean.Grind
attribute [local instance] Lean.Grind.Semiring.natCast Lean.Grind.Ring.intCast
section
variable {n e c:Nat} {f:Nat→Nat→Nat} {cI xx:Nat→Nat} {K:Type} [CommRing K]
theorem GC.qC (h:GC n f e c cI xx) {i g:Nat} (hg:g < n) (F:Nat→K) (hF:∀ g',g' < n→cI g' = i→g' ≠ g→F g' = 0) (hgi:cI g=i):sC n cI i F=F g:=by
 unfold sC
 rw [ba hg fun j hj hne=>?_,if_pos hgi]
 by_cases hji:cI j=i
 ·rw [if_pos hji]; exact hF j hj hji hne
 rw [if_neg hji]
theorem GC.Dh (h:GC n f e c cI xx) {a:Nat} (ha:a < n) (hae:cI a=cI e):a=e:=by
 obtain ⟨y,hy,hy2⟩:=(h.cj e a h.G.el ha).1 hae.symm
 rw [← hy2,h.G.one_r _ (h.G.az hy),h.G.eb hy]
theorem GC.Iv (h:GC n f e c cI xx) {i k:Nat} (hk:k < c):gM K n f e cI xx i (cI e) k=if i=k then 1 else 0:=by
 have G:=h.G
 have hx:=h.xl k hk
 unfold gM
 by_cases hik:i=k
 ·rw [if_pos hik,h.qC (g:=xx k) hx _ (fun g' hg' _ hne=>?_) (by rw [h.cx k hk,hik])]
  ·rw [G.eb hx,if_pos rfl]
  refine if_neg fun he=>?_
  have h1:=h.Dh (G.cl _ _ (G.az hg') hx) he
  have h2:=h.pf hg' hx
  rw [h1,G.one_r _ hg'] at h2
  exact hne h2
 rw [if_neg hik]
 unfold sC
 refine aS fun g hg=>?_
 by_cases hgi:cI g=i
 ·rw [if_pos hgi]
  refine if_neg fun he=>?_
  have h1:=h.Dh (G.cl _ _ (G.az hg) hx) he
  have h2:=h.pf hg hx
  rw [h1,G.one_r _ hg] at h2
  rw [h2,h.cx k hk] at hgi
  exact hik hgi.symm
 rw [if_neg hgi]
theorem GC.Is (h:GC n f e c cI xx) {a:Nat} (ha:a < n) (F:Nat→K):rQ K n cI (cI a) * sm (fun y=>F (bU n f e y a)) n=(n:K) * sC n cI (cI a) F:=by
 have G:=h.G
 have e1:∀ g,g < n→cI g=cI a→sm (fun y=>F (bU n f e y g)) n=sm (fun y=>F (bU n f e y a)) n:=fun g hg hga=>by
  obtain ⟨z,hz,rfl⟩:=(h.cj a g ha hg).1 hga.symm
  rw [← h.fu hz fun y=>F (bU n f e y a)]
  refine ai fun y hy=>?_
  congr 1
  unfold bU
  have hjz:=G.az hz
  have hjy:=G.az hy
  rw [G.bM hz hy,← G.assoc _ _ _ hjy (G.cl _ _ hjz ha) hz,← G.assoc _ _ _ hjy hjz ha,G.assoc _ _ _ (G.cl _ _ (G.cl _ _ hjy hjz) ha) hz hy]
 unfold rQ
 rw [← rl]
 have e2:sC n cI (cI a) (fun _=>(1:K) * sm (fun y=>F (bU n f e y a)) n)=sC n cI (cI a) fun g=>sm (fun y=>F (bU n f e y g)) n:=ck fun g hg hga=>by rw [e1 g hg hga]; grind
 rw [e2,Du,ai fun y hy=>h.G2 hy (cI a) F,bQ]
structure kK (n:Nat) (f:Nat→Nat→Nat) (e:Nat) (cI:Nat→Nat) (t:Nat→K):Prop where
 cl:pd n cI t
 one:t e=1
 mul:∀ a b,a < n→b < n→sm (fun y=>t (f (bU n f e y a) b)) n=(n:K) * (t a * t b)
def bY (n:Nat) (f:Nat→Nat→Nat) (e:Nat) (t t' : Nat→K) (u:Nat):K:=sm (fun z=>t (f u z) * t' (iv n f e z)) n
theorem GC.w8 (h:GC n f e c cI xx) (t t' : Nat→K) {u:Nat} (hu:u < n):bY n f e t t' u=sm (fun w=>t w * t' (f (iv n f e w) u)) n:=by
 have G:=h.G
 unfold bY
 rw [← h.fu (G.az hu) fun z=>t (f u z) * t' (iv n f e z)]
 refine ai fun w hw=>?_
 rw [h.pf hu hw,G.bM (G.az hu) hw,G.cN hu]
theorem GC.IE (h:GC n f e c cI xx) {t t' : Nat→K} (ht:pd n cI t) (ht' : pd n cI t'):pd n cI (bY n f e t t'):=fun a b ha hb hab=>by
 obtain ⟨y,hy,rfl⟩:=(h.cj a b ha hb).1 hab
 have G:=h.G
 have hjy:=G.az hy
 unfold bY
 rw [← h.CL hy fun z=>t (f (f (f (iv n f e y) a) y) z) * t' (iv n f e z)]
 refine ai fun z hz=>?_
 have hyz:=G.cl _ _ hjy hz
 have e1:f (f (f (iv n f e y) a) y) (bU n f e y z)=bU n f e y (f a z):=by
  unfold bU
  rw [G.assoc _ _ _ (G.cl _ _ hjy ha) hy (G.cl _ _ hyz hy),G.assoc (iv n f e y) z y hjy hz hy,h.pf hy (G.cl _ _ hz hy),G.assoc _ _ _ hjy ha (G.cl _ _ hz hy),← G.assoc _ _ _ ha hz hy,← G.assoc _ _ _ hjy (G.cl _ _ ha hz) hy]
 have e2:iv n f e (bU n f e y z)=bU n f e y (iv n f e z):=by
  unfold bU
  rw [G.bM hyz hy,G.bM hjy hz,G.cN hy,G.assoc _ _ _ hjy (G.az hz) hy]
 rw [e1,e2,ht _ (f a z) (h.sT hy (G.cl _ _ ha hz)) (G.cl _ _ ha hz) (h.Fs hy (G.cl _ _ ha hz)),ht' _ (iv n f e z) (h.sT hy (G.az hz)) (G.az hz) (h.Fs hy (G.az hz))]
theorem GC.Il (h:GC n f e c cI xx) {t t' : Nat→K} (ht:kK n f e cI t) {a b:Nat} (ha:a < n) (hb:b < n):sm (fun y=>bY n f e t t' (f (bU n f e y a) b)) n=(n:K) * (t a * bY n f e t t' b):=by
 have G:=h.G
 unfold bY
 rw [aU]
 have e1:∀ z,z < n→sm (fun y=>t (f (f (bU n f e y a) b) z) * t' (iv n f e z)) n=(n:K) * (t a * (t (f b z) * t' (iv n f e z))):=fun z hz=>by
  rw [bI]
  have e2:sm (fun y=>t (f (f (bU n f e y a) b) z)) n=(n:K) * (t a * t (f b z)):=by
   rw [← ht.mul a (f b z) ha (G.cl _ _ hb hz)]
   exact ai fun y hy=>by rw [G.assoc _ _ _ (h.sT hy ha) hb hz]
  rw [e2]; grind
 rw [ai e1,aK,aK]
theorem GC.IK (h:GC n f e c cI xx) {t t' : Nat→K} (ht' : kK n f e cI t') {a b:Nat} (ha:a < n) (hb:b < n):sm (fun y=>bY n f e t t' (f (bU n f e y a) b)) n=(n:K) * (t' a * bY n f e t t' b):=by
 have G:=h.G
 rw [h.w8 t t' hb,ai fun y hy=>h.w8 t t' (G.cl _ _ (h.sT hy ha) hb),aU]
 have e1:∀ w,w < n→sm (fun y=>t w * t' (f (iv n f e w) (f (bU n f e y a) b))) n=(n:K) * (t' a * (t w * t' (f (iv n f e w) b))):=fun w hw=>by
  rw [aK]
  have hjw:=G.az hw
  have e2:sm (fun y=>t' (f (iv n f e w) (f (bU n f e y a) b))) n=(n:K) * (t' a * t' (f b (iv n f e w))):=by
   rw [← ht'.mul a (f b (iv n f e w)) ha (G.cl _ _ hb hjw)]
   refine ai fun y hy=>?_
   rw [h.A9 ht'.cl hjw (G.cl _ _ (h.sT hy ha) hb),G.assoc _ _ _ (h.sT hy ha) hb hjw]
  rw [e2,h.A9 ht'.cl hb hjw]; grind
 rw [ai e1,aK,aK]
theorem GC.zT (h:GC n f e c cI xx) (F:nr K) (hn:(n:K) ≠ 0) {t t' : Nat→K} (ht:kK n f e cI t) (ht' : kK n f e cI t') {a:Nat} (ha:a < n) (hne:t a ≠ t' a) {b:Nat} (hb:b < n):bY n f e t t' b=0:=by
 have h1:=h.Il (t':=t') ht ha hb
 rw [h.IK (t:=t) ht' ha hb] at h1
 have h2:(n:K) * ((t a - t' a) * bY n f e t t' b)=0:=by grind
 rcases F.mul h2 with h3 | h3
 ·exact absurd h3 hn
 rcases F.mul h3 with h4 | h4
 ·exact absurd (by grind) hne
 exact h4
theorem GC.self (h:GC n f e c cI xx) (F:nr K) (hn:(n:K) ≠ 0) {t:Nat→K} (ht:kK n f e cI t) {a:Nat} (ha:a < n):bY n f e t t a=bY n f e t t e * t a:=by
 have G:=h.G
 have h1:=h.Il (t':=t) ht ha G.el
 have hc:=h.IE ht.cl ht.cl
 have e1:sm (fun y=>bY n f e t t (f (bU n f e y a) e)) n=(n:K) * bY n f e t t a:=by
  rw [← bQ]
  refine ai fun y hy=>?_
  rw [G.one_r _ (h.sT hy ha)]
  exact hc _ _ (h.sT hy ha) ha (h.Fs hy ha)
 rw [e1] at h1
 have h2:(n:K) * (bY n f e t t a - bY n f e t t e * t a)=0:=by grind
 rcases F.mul h2 with h3 | h3
 ·exact absurd h3 hn
 grind
structure ko (K:Type) [CommRing K] (p n:Nat) (f:Nat→Nat→Nat) (e c:Nat) (cI xx:Nat→Nat) (TT:List (List (List Int))) (io:Nat→K):Prop where
 C:GC n f e c cI xx
 R:Rp K p
 nz:(n:K) ≠ 0
 cz:∀ a:Nat,0 < a→a < p→(a:K) ≠ 0
 io:∀ i,i < c→rQ K n cI i * io i=1
 pw:∀ a,a < n→pw f e a p=a
 len:∀ i,i < c→(TT.getD i []).length=c
 yk:∀ i j k,i < c→j < c→k < c→bN (TT.getD i []) j k=gM K n f e cI xx i j k
variable {p:Nat} {TT:List (List (List Int))} {io:Nat→K}
def bz (cI:Nat→Nat) (io:Nat→K) (v:Nat→K) (a:Nat):K:=v (cI a) * io (cI a)
theorem ko.DM (h:ko K p n f e c cI xx TT io) (v:Nat→K):pd n cI (bz cI io v):=fun a b _ _ hab=>by unfold bz; rw [hab]
theorem ko.vT (h:ko K p n f e c cI xx TT io) {v:Nat→K} (hv:∀ j,c≤j→v j=0):vT n c cI (bz cI io v)=v:=by
 funext k
 unfold Go.Proofs.YtjlmpmidchddjaaDoor.vT
 by_cases hk:k < c
 ·rw [if_pos hk,h.C.CB (h.DM v) hk]
  unfold bz
  rw [h.C.cx k hk]
  have:=h.io k hk
  grind
 rw [if_neg hk,hv k (by omega)]
theorem ko.Fk (h:ko K p n f e c cI xx TT io) {T:Nat→K} (hT:pd n cI T) {i:Nat} (hi:i < c):dq c (TT.getD i []) (Go.Proofs.YtjlmpmidchddjaaDoor.vT n c cI T)=Go.Proofs.YtjlmpmidchddjaaDoor.vT n c cI (bW n f cI i T):=by
 funext j
 unfold dq
 by_cases hj:j < c
 ·rw [if_pos hj,ai fun k hk=>by rw [h.yk i j k hi hj hk],h.C.iR hT hj]
  unfold Go.Proofs.YtjlmpmidchddjaaDoor.vT
  rw [if_pos hj]
 unfold Go.Proofs.YtjlmpmidchddjaaDoor.vT
 rw [if_neg hj,if_neg hj]
theorem nC (c:Nat) (m:List (List Int)) (u:Nat→K):dq c m u=dq c m fun k=>if k < c then u k else 0:=by
 funext j
 unfold dq
 by_cases hj:j < c
 ·rw [if_pos hj,if_pos hj]; exact ai fun k hk=>by show _=_ * (if k < c then u k else 0); rw [if_pos hk]
 rw [if_neg hj,if_neg hj]
theorem ko.ex (h:ko K p n f e c cI xx TT io) (u:Nat→K):∃ T,pd n cI T∧(fun k=>if k < c then u k else 0)=Go.Proofs.YtjlmpmidchddjaaDoor.vT n c cI T:=⟨_,h.DM _,(h.vT (v:=fun k=>if k < c then u k else 0) fun j hj=>if_neg (by omega)).symm⟩
theorem ko.Ih (h:ko K p n f e c cI xx TT io) {i t:Nat} (hi:i < c) (ht:t < c) (u:Nat→K):dq c (TT.getD t []) (dq c (TT.getD i []) u)=dq c (TT.getD i []) (dq c (TT.getD t []) u):=by
 obtain ⟨T,hT,e1⟩:=h.ex u
 rw [nC c _ u,nC c (TT.getD t []) u,e1,h.Fk hT hi,h.Fk hT ht,h.Fk (h.C.AK hT i) ht,h.Fk (h.C.AK hT t) hi]
 funext k
 unfold Go.Proofs.YtjlmpmidchddjaaDoor.vT
 by_cases hk:k < c
 ·rw [if_pos hk,if_pos hk]
  exact ck fun g hg _=>h.C.DZ T t i hg
 rw [if_neg hk,if_neg hk]
theorem ko.lJ (h:ko K p n f e c cI xx TT io) {T:Nat→K} (hT:pd n cI T) {i:Nat} (hi:i < c):∀ k,mA (dq c (TT.getD i [])) k (Go.Proofs.YtjlmpmidchddjaaDoor.vT n c cI T)=Go.Proofs.YtjlmpmidchddjaaDoor.vT n c cI (Dd n f cI i T k)
 | 0=>rfl
 | k + 1=>by
  show dq c (TT.getD i []) (mA _ k _)=_
  rw [h.lJ hT hi k,h.Fk (h.C.Gq hT i k) hi]
  rfl
theorem ko.pow (h:ko K p n f e c cI xx TT io) {i:Nat} (hi:i < c) (u:Nat→K):mA (dq c (TT.getD i [])) p u=dq c (TT.getD i []) u:=by
 obtain ⟨T,hT,e1⟩:=h.ex u
 have hp:∃ q,p=q + 1:=⟨p - 1,by have:=h.R.two; omega⟩
 have e2:∀ q,mA (dq c (TT.getD i [])) (q + 1) u=mA (dq c (TT.getD i [])) (q + 1) fun k=>if k < c then u k else 0:=fun q=>by
  induction q with
  | zero=>exact nC c _ u
  | succ q ih=>show dq c _ (mA _ (q + 1) u)=_; rw [ih]; rfl
 obtain ⟨q,hq⟩:=hp
 rw [hq,e2 q,← hq,nC c _ u,e1,h.lJ hT hi p,h.Fk hT hi]
 funext k
 unfold Go.Proofs.YtjlmpmidchddjaaDoor.vT
 by_cases hk:k < c
 ·rw [if_pos hk,if_pos hk]; exact h.C.HJ h.R h.cz h.pw hT i
 rw [if_neg hk,if_neg hk]
theorem ko.zY (h:ko K p n f e c cI xx TT io):0 < c:=by have:=h.C.lt e h.C.G.el; omega
theorem ko.Gp (h:ko K p n f e c cI xx TT io):∀ i,i≤c→Dw K p c TT i:=
 vw h.R h.zY h.len (fun i t hi ht u=>h.Ih hi ht u) fun i hi u=>h.pow hi u
theorem ko.space (h:ko K p n f e c cI xx TT io) {s:List (List Int)} (hs:s∈cQ p TT [aP c c] c):∃ lam:Nat→K,(∀ j,c≤j→lam j=0)∧lam (cI e)=1∧bA s lam∧(∀ u:Nat→K,bA s u→∀ j,u j=u (cI e) * lam j)∧bN s 0 (cI e) ≠ (0:K)∧kK n f e cI (bz cI io lam):=by
 obtain ⟨la,l1,l2⟩:=(h.Gp c (Nat.le_refl _)).val s hs
 have ho:=lK (p:=p) (c:=c) h.R.two TT h.zY c s hs
 have hoc:=h.C.lt e h.C.G.el
 have hrd:∀ u:Nat→K,bA s u→∀ i,i < c→u i=la i * u (cI e):=fun u hu i hi=>by
  have h1:=((l1 u).1 hu).2 i hi (cI e)
  rw [← h1]
  unfold dq
  rw [if_pos hoc,ai (g:=fun k=>(if i=k then (1:K) else 0) * u k) fun k hk=>by rw [h.yk i (cI e) k hi hoc hk,h.C.Iv hk],ba hi fun k _ hne=>by rw [if_neg (fun e=>hne e.symm)]; grind,if_pos rfl]
  grind
 have hu0:bA s (bN (K:=K) s 0):=bA.get ho.pos
 have hu1:bN (K:=K) s 0 (cI e) ≠ 0:=fun h0=>u9 h.R l2 ho.pos fun j=>by
  by_cases hj:j < c
  ·rw [hrd _ hu0 j hj,h0]; grind
  exact ((l1 _).1 hu0).1 j (by omega)
 obtain ⟨iv0,hiv0⟩:=h.R.fld.1 _ hu1
 let lam:Nat→K:=fun j=>if j < c then la j else 0
 have hla:lam=fun j=>iv0 * bN s 0 j:=by
  funext j
  by_cases hj:j < c
  ·show (if j < c then la j else 0)=_
   rw [if_pos hj,hrd _ hu0 j hj]; grind
  show (if j < c then la j else 0)=_
  rw [if_neg hj,((l1 _).1 hu0).1 j (by omega)]; grind
 have hls:bA s lam:=by rw [hla]; exact (bA.lR s).smul _ _ hu0
 have hlo:lam (cI e)=1:=by rw [hla]; simp only; grind
 have hsup:∀ j,c≤j→lam j=0:=fun j hj=>if_neg (by omega)
 refine ⟨lam,hsup,hlo,hls,fun u hu j=>?_,hu1,h.DM _,?_,fun a b ha hb=>?_⟩
 ·by_cases hj:j < c
  ·show _=u (cI e) * (if j < c then la j else 0)
   rw [if_pos hj,hrd u hu j hj]; grind
  rw [hsup j (by omega),((l1 u).1 hu).1 j (by omega)]; grind
 ·
  unfold bz
  have h1:=h.io _ hoc
  have h2:rQ K n cI (cI e)=1:=by
   unfold rQ
   exact h.C.qC h.C.G.el _ (fun g hg hge hne=>absurd (h.C.Dh hg hge) hne) rfl
  rw [h2] at h1
  rw [hlo]; grind
 have hT:=h.DM lam
 have hA:∀ i,i < c→∀ x,x < n→bW n f cI i (bz cI io lam) x=lam i * bz cI io lam x:=fun i hi x hx=>by
  have h1:=h.Fk hT hi
  rw [h.vT hsup] at h1
  have hxc:=h.C.lt x hx
  have h2:=congrFun h1 (cI x)
  rw [((l1 lam).1 hls).2 i hi (cI x)] at h2
  unfold Go.Proofs.YtjlmpmidchddjaaDoor.vT at h2
  rw [if_pos hxc,h.C.CB (h.C.AK hT i) hxc] at h2
  have h3:=h.C.AK hT i x (xx (cI x)) hx (h.C.xl _ hxc) (by rw [h.C.cx _ hxc])
  have h4:=h.io _ hxc
  have h5:lam i=la i:=if_pos hi
  rw [h3]
  unfold bz at h2 ⊢
  rw [h5]
  grind
 have h1:=h.C.Is ha fun g=>bz cI io lam (f g b)
 have h2:sC n cI (cI a) (fun g=>bz cI io lam (f g b))=lam (cI a) * bz cI io lam b:=hA _ (h.C.lt a ha) b hb
 rw [h2] at h1
 have h4:=h.io _ (h.C.lt a ha)
 have h5:bz cI io lam a=lam (cI a) * io (cI a):=rfl
 rw [h5]
 have h6:sm (fun y=>bz cI io lam (f (bU n f e y a) b)) n=io (cI a) * (rQ K n cI (cI a) * sm (fun y=>bz cI io lam (f (bU n f e y a) b)) n):=by grind
 rw [h6,h1]; grind
end
end Go.Proofs.YtjlmpmidchddjaaDoor
namespace Go.Proofs.YtjlmpmidchddjaaDoor
open Lean.Grind
attribute [local instance] Lean.Grind.Semiring.natCast Lean.Grind.Ring.intCast
section
variable {n e c:Nat} {f:Nat→Nat→Nat} {cI xx:Nat→Nat} {K:Type} [CommRing K] {p:Nat} {TT:List (List (List Int))} {io:Nat→K}
def tS (n:Nat) (f:Nat→Nat→Nat) (e:Nat) (w:List Nat) (x:Nat):Nat:=w.foldr (fun a r=>f (iv n f e a) r) x
theorem GC.HO (h:GC n f e c cI xx) {w:List Nat} (hw:∀ y∈w,y < n) {x:Nat} (hx:x < n):tS n f e w x < n:=by
 induction w with
 | nil=>exact hx
 | cons y w ih=>exact h.G.cl _ _ (h.G.az (hw y (by simp))) (ih fun z hz=>hw z (by simp [hz]))
theorem Bd (w w' : List Nat) (x:Nat):tS n f e (w++w') x=tS n f e w (tS n f e w' x):=List.foldr_append
theorem GC.ID (h:GC n f e c cI xx) {w:List Nat} (hw:∀ y∈w,y < n) {x:Nat} (hx:x < n):tS n f e w x=f (tS n f e w e) x:=by
 induction w with
 | nil=>exact (h.G.one_l x hx).symm
 | cons y w ih =>
  have hw' : ∀ z∈w,z < n:=fun z hz=>hw z (by simp [hz])
  show f (iv n f e y) (tS n f e w x)=f (f (iv n f e y) (tS n f e w e)) x
  rw [ih hw',h.G.assoc _ _ _ (h.G.az (hw y (by simp))) (h.HO hw' h.G.el) hx]
theorem GC.H9 (h:GC n f e c cI xx) {a:Nat} (ha:a < n):∀ k,tS n f e (List.replicate k a) e=pw f e (iv n f e a) k
 | 0=>rfl
 | k + 1=>by
  rw [List.replicate_succ,h.G.oa (h.G.az ha)]
  show f (iv n f e a) (tS n f e (List.replicate k a) e)=_
  rw [h.H9 ha k]
theorem GC.two (h:GC n f e c cI xx) (F:nr K) (hn:(n:K) ≠ 0) {t:Nat→K} (ht:kK n f e cI t) {A B:Nat} (hA:A < n) (hB:B < n) :
  sm (fun g=>sm (fun y=>t (f g (f y A)) * t (f (iv n f e g) (f (iv n f e y) B))) n) n=(n:K) * bY n f e t t e * (t A * t B):=by
 have G:=h.G
 rw [aU]
 have e1:∀ y,y < n→sm (fun g=>t (f g (f y A)) * t (f (iv n f e g) (f (iv n f e y) B))) n=sm (fun u=>t (f u A) * t (f (bU n f e (iv n f e y) (iv n f e u)) B)) n:=fun y hy=>by
  have hj:=G.az hy
  rw [← h.HA hj fun g=>t (f g (f y A)) * t (f (iv n f e g) (f (iv n f e y) B))]
  refine ai fun u hu=>?_
  have e2:f (f u (iv n f e y)) (f y A)=f u A:=by rw [G.assoc _ _ _ hu hj (G.cl _ _ hy hA),h.xU hy hA]
  have e3:f (iv n f e (f u (iv n f e y))) (f (iv n f e y) B)=f (bU n f e (iv n f e y) (iv n f e u)) B:=by
   unfold bU
   rw [G.bM hu hj,G.cN hy,G.assoc _ _ _ (G.cl _ _ hy (G.az hu)) hj hB]
  simp only [e2,e3]
 rw [ai e1,aU]
 have e4:∀ u,u < n→sm (fun y=>t (f u A) * t (f (bU n f e (iv n f e y) (iv n f e u)) B)) n=(n:K) * t B * (t (f A u) * t (iv n f e u)):=fun u hu=>by
  rw [aK,h.w9 fun y=>t (f (bU n f e y (iv n f e u)) B),ht.mul _ _ (G.az hu) hB,h.A9 ht.cl hA hu]
  grind
 rw [ai e4,aK]
 have e5:=h.self F hn ht hA
 unfold bY at e5 ⊢
 rw [e5]; grind
theorem GC.FY (h:GC n f e c cI xx) (R:Rp K p) (hn:(n:K) ≠ 0) (hcz:∀ a:Nat,0 < a→a < p→(a:K) ≠ 0) (hpw:∀ a,a < n→pw f e a p=a) {t:Nat→K} (ht:kK n f e cI t) (hs:bY n f e t t e ≠ 0) {m:Nat} (hm:p=2 * m + 1):((n:K) * bY n f e t t e) ^ m=1:=by
 have G:=h.G
 let Q:Nat→Nat→Nat→K:=fun k a b=>sW (List.range n) k fun w=>t (kJ f w a) * t (tS n f e w b)
 have hQ:∀ k a b,a < n→b < n→Q (k + 2) a b=((n:K) * bY n f e t t e) * Q k a b:=fun k a b ha hb=>by
  simp only [Q,sW]
  rw [cD,ai fun g _=>cD _ n]
  have e1:sm (fun g=>sm (fun y=>sW (List.range n) k fun w=>t (kJ f (g :: y :: w) a) * t (tS n f e (g :: y :: w) b)) n) n=sW (List.range n) k fun w=>sm (fun g=>sm (fun y=>t (f g (f y (kJ f w a))) * t (f (iv n f e g) (f (iv n f e y) (tS n f e w b)))) n) n:=by
   have e3:∀ k (H:Nat→List Nat→K),sm (fun x=>sW (List.range n) k fun w=>H x w) n=sW (List.range n) k fun w=>sm (fun x=>H x w) n:=by
    intro k
    induction k with
    | zero=>intro H; rfl
    | succ k ih =>
     intro H
     simp only [sW]
     rw [← cD,qz]
     refine jh fun y _=>?_
     rw [cD]
     exact ih fun x w=>H x (y :: w)
   rw [ai fun g _=>e3 k fun y w=>t (kJ f (g :: y :: w) a) * t (tS n f e (g :: y :: w) b),e3]
   rfl
  rw [e1,← oR]
  refine ej fun w _ hw=>?_
  have hwn:∀ y∈w,y < n:=fun y hy=>List.mem_range.1 (hw y hy)
  exact h.two R.fld hn ht (h.FU hwn ha) (h.HO hwn hb)
 have hQ1:Q 1 e e=bY n f e t t e:=by
  simp only [Q,sW]
  rw [cD]
  unfold bY
  refine ai fun g hg=>?_
  show t (f g e) * t (f (iv n f e g) e)=_
  rw [G.one_r g hg,G.one_l g hg,G.one_r _ (G.az hg)]
 have hQm:∀ j,Q (2 * j + 1) e e=((n:K) * bY n f e t t e) ^ j * bY n f e t t e:=fun j=>by
  induction j with
  | zero=>rw [Semiring.pow_zero]; show Q 1 e e=_; rw [hQ1]; grind
  | succ j ih =>
   rw [show 2 * (j + 1) + 1=(2 * j + 1) + 2 by omega,hQ _ e e G.el G.el,ih,Semiring.pow_succ]; grind
 let F:List Nat→K:=fun w=>if ∀ y∈w,y < n then t (kJ f w e) * t (tS n f e w e) else 0
 have hF:∀ w,F (iU w)=F w:=fun w=>by
  cases w with
  | nil=>rfl
  | cons y w =>
   simp only [F,iU]
   by_cases hw:∀ z∈y :: w,z < n
   ·have hw2:∀ z∈w++[y],z < n:=fun z hz=>hw z (by
     rcases List.mem_append.1 hz with hz | hz
     ·simp [hz]
     simp [List.mem_singleton.1 hz])
    rw [if_pos hw,if_pos hw2,nU,Bd]
    have hy:=hw y (by simp)
    have hw3:∀ z∈w,z < n:=fun z hz=>hw z (by simp [hz])
    have e1:kJ f [y] e=y:=G.one_r y hy
    have e2:tS n f e [y] e=iv n f e y:=G.one_r _ (G.az hy)
    rw [e1,e2,h.Eo hw3 hy,h.ID hw3 (G.az hy),h.A9 ht.cl (h.FU hw3 G.el) hy,h.A9 ht.cl (h.HO hw3 G.el) (G.az hy)]
    rfl
   have hw2:¬ ∀ z∈w++[y],z < n:=fun hh=>hw fun z hz=>hh z (by
    rcases List.mem_cons.1 hz with hz | hz
    ·simp [hz]
    simp [hz])
   rw [if_neg hw,if_neg hw2]
 have hQp:Q p e e=bY n f e t t e:=by
  have e1:Q p e e=sW (List.range n) p F:=ej fun w _ hw=>by
   have hwn:∀ y∈w,y < n:=fun y hy=>List.mem_range.1 (hw y hy)
   simp only [F]
   rw [if_pos hwn]
  rw [e1,qU R.fld (by have:=R.two; omega) R.ch hcz (List.nodup_range) hF,cD]
  unfold bY
  refine ai fun g hg=>?_
  simp only [F]
  rw [if_pos fun y hy=>by rw [List.eq_of_mem_replicate hy]; exact hg,h.Gv hg,h.H9 hg,hpw g hg,hpw _ (G.az hg),G.one_l g hg]
 have h1:=hQm m
 rw [← hm,hQp] at h1
 have h2:(((n:K) * bY n f e t t e) ^ m - 1) * bY n f e t t e=0:=by grind
 rcases R.fld.mul h2 with h3 | h3
 ·grind
 exact absurd h3 hs
theorem xB {p c i:Nat} (R:Rp K p) {T:List (List (List Int))} (hc:0 < c) (hi:i < c) (hT:(T.getD i []).length=c) (hcom:∀ t,t < i→∀ u:Nat→K,dq c (T.getD t []) (dq c (T.getD i []) u)=dq c (T.getD i []) (dq c (T.getD t []) u)) (hpow:∀ u:Nat→K,mA (dq c (T.getD i [])) p u=dq c (T.getD i []) u)
  (h:Dw K p c T i):∀ s∈cQ p T [aP c c] i,gx p s (T.getD i []) ≠ []:=fun s hs=>by
 obtain ⟨lam,l1,l2⟩:=h.val s hs
 have ho:=lK (p:=p) (c:=c) R.two T hc i s hs
 have h1:∀ u:Nat→K,bA s u→bA s (dq c (T.getD i []) u):=fun u hu=>by
  obtain ⟨u1,u2⟩:=(l1 u).1 hu
  refine (l1 _).2 ⟨fun j hj=>by unfold dq; rw [if_neg (by omega)],fun t ht j=>?_⟩
  rw [hcom t ht u]
  have e:dq c (T.getD t []) u=fun j=>lam t * u j:=funext fun j=>u2 t ht j
  rw [e,(nW c _).2]
 have h2:=oK (K:=K) R ho hT h1 (fun u _=>hpow u) l2
 intro h0
 refine u9 R l2 ho.pos fun j=>?_
 exact h2.2.2 (fun u=>∀ j,u j=0) ⟨fun _=>rfl,fun u v hu hv j=>by show u j + v j=0; rw [hu,hv]; grind,fun k u hu j=>by show k * u j=0; rw [hu]; grind⟩ (fun t ht=>by rw [h0] at ht; cases ht) _ (bA.get ho.pos) j
structure C5 (K:Type) [CommRing K] (p n:Nat) (f:Nat→Nat→Nat) (e c:Nat) (cI:Nat→Nat) (TT:List (List (List Int))) (io:Nat→K) (lam:Nat→Nat→K):Prop where
 len:(cQ p TT [aP c c] c).length=c
 sup:∀ q,q < c→∀ j,c≤j→lam q j=0
 one:∀ q,q < c→lam q (cI e)=1
 spa:∀ q,q < c→∀ u:Nat→K,bA ((cQ p TT [aP c c] c).getD q []) u→∀ j,u j=u (cI e) * lam q j
 fst:∀ q,q < c→bN ((cQ p TT [aP c c] c).getD q []) 0 (cI e) ≠ (0:K)
 chr:∀ q,q < c→kK n f e cI (bz cI io (lam q))
 nz:∀ q,q < c→bY n f e (bz cI io (lam q)) (bz cI io (lam q)) e ≠ 0
 ort:∀ q q',q < c→q' < c→q ≠ q'→bY n f e (bz cI io (lam q)) (bz cI io (lam q')) e=0
 all:∀ v:Nat→K,(∀ j,c≤j→v j=0)→∃ a:Nat→K,∀ j,v j=sm (fun q=>a q * lam q j) c
 few:∀ i,i≤c→(cQ p TT [aP c c] i).length≤c
theorem ko.HE (h:ko K p n f e c cI xx TT io):∃ lam:Nat→Nat→K,C5 K p n f e c cI TT io lam:=by
 have G:=h.C.G
 have hc:=h.zY
 have F:=h.R.fld
 have hps:=h.Gp c (Nat.le_refl _)
 obtain ⟨Sp,hSp⟩:∃ Sp,cQ p TT [aP c c] c=Sp:=⟨_,rfl⟩
 obtain ⟨r,hr⟩:∃ r,Sp.length=r:=⟨_,rfl⟩
 have h1:∀ q,∃ lam:Nat→K,q < r→(∀ j,c≤j→lam j=0)∧lam (cI e)=1∧bA (Sp.getD q []) lam∧(∀ u:Nat→K,bA (Sp.getD q []) u→∀ j,u j=u (cI e) * lam j)∧bN (Sp.getD q []) 0 (cI e) ≠ (0:K)∧kK n f e cI (bz cI io lam):=fun q=>by
  by_cases hq:q < r
  ·obtain ⟨lam,hl⟩:=h.space (s:=Sp.getD q []) (by rw [hSp]; exact aC (by omega))
   exact ⟨lam,fun _=>hl⟩
  exact ⟨fun _=>0,fun hq2=>absurd hq2 hq⟩
 obtain ⟨lam,hl⟩:=Classical.axiomOfChoice h1
 have hdis:∀ q q',q < q'→q' < r→∃ a,a < n∧bz cI io (lam q) a ≠ bz cI io (lam q') a:=fun q q' hqq hq'=>by
  refine Classical.byContradiction fun hno=>?_
  have hsame:∀ a,a < n→bz cI io (lam q) a=bz cI io (lam q') a:=fun a ha=>Classical.byContradiction fun hc=>hno ⟨a,ha,hc⟩
  obtain ⟨a1,a2,a3,_⟩:=hl q (by omega)
  obtain ⟨b1,b2,b3,_⟩:=hl q' hq'
  have heq:lam q=lam q':=by
   funext j
   by_cases hj:j < c
   ·have h2:=hsame (xx j) (h.C.xl j hj)
    unfold bz at h2
    rw [h.C.cx j hj] at h2
    have h3:=h.io j hj
    have h4:(lam q j - lam q' j) * (rQ K n cI j * io j)=0:=by grind
    rw [h3] at h4
    grind
   rw [a1 j (by omega),b1 j (by omega)]
  have hd:=hps.dis
  rw [hSp] at hd
  have hd2:=List.pairwise_iff_getElem.1 hd q q' (by omega) (by omega) hqq
  have e1:Sp[q]'(by omega)=Sp.getD q []:=by simp [List.getD,List.getElem?_eq_getElem (show q < Sp.length by omega)]
  have e2:Sp[q']'(by omega)=Sp.getD q' []:=by simp [List.getD,List.getElem?_eq_getElem (show q' < Sp.length by omega)]
  rw [e1,e2] at hd2
  have:=hd2 (lam q) a3 (by rw [heq]; exact b3) (cI e)
  rw [a2] at this
  exact F.2 this
 have hort:∀ q q',q < r→q' < r→q ≠ q'→∀ b,b < n→bY n f e (bz cI io (lam q)) (bz cI io (lam q')) b=0:=fun q q' hq hq' hne b hb=>by
  obtain ⟨_,_,_,_,_,c1⟩:=hl q hq
  obtain ⟨_,_,_,_,_,c2⟩:=hl q' hq'
  rcases Nat.lt_or_gt_of_ne hne with hlt | hgt
  ·obtain ⟨a,ha,hna⟩:=hdis q q' hlt hq'
   exact h.C.zT F h.nz c1 c2 ha hna hb
  obtain ⟨a,ha,hna⟩:=hdis q' q hgt hq
  exact h.C.zT F h.nz c1 c2 ha (fun e=>hna e.symm) hb
 have hall:∀ v:Nat→K,(∀ j,c≤j→v j=0)→∃ a:Nat→K,∀ j,v j=sm (fun q=>a q * lam q j) r:=fun v hv=>by
  refine hps.all (fun v=>∃ a:Nat→K,∀ j,v j=sm (fun q=>a q * lam q j) r) ⟨⟨fun _=>0,fun j=>(aS fun q _=>by grind).symm⟩,fun u v ⟨a,ha⟩ ⟨b,hb⟩=>⟨fun q=>a q + b q,fun j=>by
   show u j + v j=_
   rw [ha,hb,← iX]; exact ai fun q _=>by grind⟩,fun k u ⟨a,ha⟩=>⟨fun q=>k * a q,fun j=>by
   show k * u j=_
   rw [ha,← aK]; exact ai fun q _=>by grind⟩⟩ (fun s hs u hu=>?_) v hv
  rw [hSp] at hs
  obtain ⟨q,hq,e1⟩:=List.getElem_of_mem hs
  have e2:Sp.getD q []=s:=by rw [← e1]; simp [List.getD,List.getElem?_eq_getElem hq]
  have h2:=(hl q (by omega)).2.2.2.1
  rw [e2] at h2
  refine ⟨fun q'=>if q' = q then u (cI e) else 0,fun j=>?_⟩
  rw [ba (i:=q) (by omega) fun q' _ hne=>by show (if q' = q then u (cI e) else 0) * _=0; rw [if_neg hne]; grind]
  show _=(if q=q then u (cI e) else 0) * _
  rw [if_pos rfl]; exact h2 u hu j
 have hnz:∀ q,q < r→bY n f e (bz cI io (lam q)) (bz cI io (lam q)) e ≠ 0:=fun q hq h0=>by
  obtain ⟨a,ha⟩:=hall (fun j=>if j=cI e then 1 else 0) fun j hj=>if_neg (by have:=h.C.lt e G.el; omega)
  have hcl:=(hl q hq).2.2.2.2.2
  have hd:∀ z,z < n→(if z=e then (1:K) else 0)=sm (fun q'=>a q' * bz cI io (lam q') z) r:=fun z hz=>by
   have h2:=ha (cI z)
   have h3:=h.io _ (h.C.lt z hz)
   have h4:sm (fun q'=>a q' * bz cI io (lam q') z) r=(if cI z=cI e then 1 else 0) * io (cI z):=by
    rw [h2,← bI]
    exact ai fun q' _=>by unfold bz; grind
   rw [h4]
   by_cases hze:z=e
   ·rw [if_pos hze,hze,if_pos rfl]
    have h5:rQ K n cI (cI e)=1:=by
     unfold rQ
     exact h.C.qC G.el _ (fun g hg hge hne=>absurd (h.C.Dh hg hge) hne) rfl
    have h6:=h.io _ (h.C.lt e G.el)
    rw [h5] at h6
    grind
   rw [if_neg hze,if_neg fun hc=>hze (h.C.Dh hz hc)]; grind
  have h6:sm (fun z=>(if z=e then (1:K) else 0) * bz cI io (lam q) (iv n f e z)) n=1:=by
   rw [ba G.el fun z _ hne=>by rw [if_neg hne]; grind,if_pos rfl,G.gK,hcl.one]; grind
  have h7:sm (fun z=>(if z=e then (1:K) else 0) * bz cI io (lam q) (iv n f e z)) n=0:=by
   have e1:sm (fun z=>(if z=e then (1:K) else 0) * bz cI io (lam q) (iv n f e z)) n=sm (fun z=>sm (fun q'=>a q' * (bz cI io (lam q') z * bz cI io (lam q) (iv n f e z))) r) n:=ai fun z hz=>by
    rw [hd z hz,← bI]; exact ai fun q' _=>by grind
   rw [e1,aU]
   refine aS fun q' hq'=>?_
   rw [aK]
   have e2:sm (fun z=>bz cI io (lam q') z * bz cI io (lam q) (iv n f e z)) n=bY n f e (bz cI io (lam q')) (bz cI io (lam q)) e:=by
    unfold bY
    exact ai fun z hz=>by rw [G.one_l z hz]
   rw [e2]
   by_cases hqq:q' = q
   ·rw [hqq,h0]; grind
   rw [hort q' q hq' hq hqq e G.el]; grind
  rw [h7] at h6
  exact F.2 h6.symm
 have hind:im lam r:=fun x hx q hq=>by
  have h2:∀ z,z < n→sm (fun q'=>x q' * bz cI io (lam q') z) r=0:=fun z hz=>by
   have h3:=hx (cI z)
   have h4:sm (fun q'=>x q' * bz cI io (lam q') z) r=sm (fun q'=>x q' * lam q' (cI z)) r * io (cI z):=by
    rw [← bI]; exact ai fun q' _=>by unfold bz; grind
   rw [h4,h3]; grind
  have h5:sm (fun z=>sm (fun q'=>x q' * bz cI io (lam q') z) r * bz cI io (lam q) (iv n f e z)) n=0:=aS fun z hz=>by rw [h2 z hz]; grind
  have e1:sm (fun z=>sm (fun q'=>x q' * bz cI io (lam q') z) r * bz cI io (lam q) (iv n f e z)) n=sm (fun q'=>x q' * bY n f e (bz cI io (lam q')) (bz cI io (lam q)) e) r:=by
   have e2:sm (fun z=>sm (fun q'=>x q' * bz cI io (lam q') z) r * bz cI io (lam q) (iv n f e z)) n=sm (fun z=>sm (fun q'=>x q' * (bz cI io (lam q') z * bz cI io (lam q) (iv n f e z))) r) n:=ai fun z hz=>by
    rw [← bI]; exact ai fun q' _=>by grind
   rw [e2,aU]
   refine ai fun q' _=>?_
   rw [aK]
   unfold bY
   congr 1
   exact ai fun z hz=>by rw [G.one_l z hz]
  rw [e1,ba hq fun q' hq' hne=>by rw [hort q' q hq' hq hne e G.el]; grind] at h5
  rcases F.mul h5 with h6 | h6
  ·exact h6
  exact absurd h6 (hnz q hq)
 have hrc:r≤c:=qx F hind (z:=fun i j=>if j=i then 1 else 0) fun q hq=>⟨lam q,fun k=>by
  by_cases hk:k < c
  ·rw [ba hk fun i _ hne=>by rw [if_neg (fun e=>hne e.symm)]; grind,if_pos rfl]; grind
  rw [(hl q hq).1 k (by omega)]
  exact (aS fun i hi=>by rw [if_neg (by omega)]; grind).symm⟩
 have hcr:c≤r:=qx F (y:=fun i j=>if j=i then 1 else 0) (z:=lam) (fun x hx j hj=>by
  have:=hx j
  rw [ba hj fun i _ hne=>by show x i * (if j=i then (1:K) else 0)=0; rw [if_neg (fun e=>hne e.symm)]; grind] at this
  have e1:x j * (if j=j then (1:K) else 0)=0:=this
  rw [if_pos rfl] at e1
  grind) fun i hi=>by
   obtain ⟨a,ha⟩:=hall (fun j=>if j=i then 1 else 0) fun j hj=>if_neg (by omega)
   exact ⟨a,ha⟩
 have hrc2:r=c:=by omega
 subst hrc2
 refine ⟨lam,by rw [hSp,hr],fun q hq=>(hl q hq).1,fun q hq=>(hl q hq).2.1,fun q hq=>by rw [hSp]; exact (hl q hq).2.2.2.1,fun q hq=>by rw [hSp]; exact (hl q hq).2.2.2.2.1,fun q hq=>(hl q hq).2.2.2.2.2,hnz,fun q q' hq hq' hne=>hort q q' hq hq' hne e G.el,hall,?_⟩
 have hmono:∀ d i,i + d=r→(cQ p TT [aP r r] i).length≤r:=by
  intro d
  induction d with
  | zero=>intro i hi; have:i=r:=(by omega); subst this; rw [hSp,hr]; exact Nat.le_refl _
  | succ d ih =>
   intro i hi
   have h2:=ih (i + 1) (by omega)
   have h3:=Co h.R hc (h.Gp (i + 1) (by omega)) (h.Gp i (by omega)) (xB h.R hc (show i < r by omega) (h.len i (by omega)) (fun t ht u=>h.Ih (by omega) (by omega) u) (fun u=>h.pow (by omega) u) (h.Gp i (by omega)))
   omega
 exact fun i hi=>hmono (r - i) i (by omega)
end
end Go.Proofs.YtjlmpmidchddjaaDoor
namespace Go.Proofs.YtjlmpmidchddjaaDoor
def HS (p:Nat):List Nat:=(List.range (p - 1)).map fun d=>(d + 1) * (d + 1) % p
def Hq (p:Nat):Bool:=decide (3≤p) && decide (p % 2=1) && ((List.range p).all fun a=>decide (a=0) || decide (a ^ (p - 1) % p=1)) && ((List.range p).any fun g=>decide (0 < g) && (List.range (p - 1)).all fun j=>decide (j=0) || !decide (g ^ j % p=1)) && ((List.range p).all fun k=>!decide (k ^ ((p - 1) / 2) % p=1) || (HS p).contains k)
def FW:List Nat:=[3,5,7,11,13,17,19,23,29,31,37,41,43,47,53,59,61,67,71,73,79,83,89,97,101,103,107,109,113,127,131,137,139,149,151,157,173,181,191,197,199,229,233,241,283,311,331,709]
theorem Hb:FW.all Hq=true:=by decide +kernel
def HK:Bool:=(List.range 61).all fun N=>(List.range 61).all fun E=>decide (N=0) || decide (¬ N % E=0) || FW.contains (yf E N)
theorem AO:HK=true:=by decide +kernel
end Go.Proofs.YtjlmpmidchddjaaDoor
namespace Go.Proofs.YtjlmpmidchddjaaDoor
open Lean.Grind
attribute [local instance] Lean.Grind.Semiring.natCast Lean.Grind.Ring.intCast
theorem Fg {E N:Nat} (h1:1≤N) (h2:N≤60) (hd:E ∣ N):Hq (yf E N)=true:=by
 have h:=List.all_eq_true.1 AO N (List.mem_range.2 (by omega))
 have hE:=Nat.le_of_dvd (by omega) hd
 have h:=List.all_eq_true.1 h E (List.mem_range.2 (by omega))
 simp only [Bool.or_eq_true,decide_eq_true_eq] at h
 rcases h with (h | h) | h
 ·omega
 ·exact absurd (Nat.mod_eq_zero_of_dvd hd) h
 exact List.all_eq_true.1 Hb _ (List.contains_iff_mem.1 h)
structure PG (p:Nat):Prop where
 three:3≤p
 fer:∀ a,a < p→a ≠ 0→a ^ (p - 1) % p=1
 gen:∃ g,g < p∧0 < g∧∀ j,j < p - 1→j ≠ 0→¬ g ^ j % p=1
structure PF (p:Nat):Prop extends PG p where
 odd:p % 2=1
 eul:∀ k,k < p→k ^ ((p - 1) / 2) % p=1→∃ d,d < p - 1∧(d + 1) * (d + 1) % p=k
theorem F3 {p:Nat} (h:Hq p=true):PF p:=by
 unfold Hq at h
 simp only [Bool.and_eq_true,decide_eq_true_eq] at h
 obtain ⟨⟨⟨⟨h1,h2⟩,h3⟩,h4⟩,h5⟩:=h
 refine ⟨⟨h1,fun a ha ha0=>?_,?_⟩,h2,fun k hk hk1=>?_⟩
 ·have:=List.all_eq_true.1 h3 a (List.mem_range.2 ha)
  simp only [Bool.or_eq_true,decide_eq_true_eq] at this
  rcases this with h | h
  ·exact absurd h ha0
  exact h
 ·obtain ⟨g,hg,hj⟩:=List.any_eq_true.1 h4
  simp only [Bool.and_eq_true,decide_eq_true_eq] at hj
  obtain ⟨hg0,hj⟩:=hj
  refine ⟨g,List.mem_range.1 hg,hg0,fun j hjp hj0=>?_⟩
  have:=List.all_eq_true.1 hj j (List.mem_range.2 hjp)
  simp only [Bool.or_eq_true,decide_eq_true_eq,Bool.not_eq_true',decide_eq_false_iff_not] at this
  rcases this with h | h
  ·exact absurd h hj0
  exact h
 have:=List.all_eq_true.1 h5 k (List.mem_range.2 hk)
 simp only [Bool.or_eq_true,Bool.not_eq_true',decide_eq_false_iff_not] at this
 rcases this with h | h
 ·exact absurd hk1 h
 obtain ⟨d,hd,e⟩:=List.mem_map.1 (List.contains_iff_mem.1 h)
 exact ⟨d,List.mem_range.1 hd,e⟩
section
variable {p:Nat} [NeZero p]
theorem fz (x:Nat):((x:Nat):Fin p)=0↔x % p=0:=IsCharP.natCast_eq_zero_iff p x
theorem H6 (x:Int):((x:Int):Fin p)=0↔x % (p:Int)=0:=IsCharP.intCast_eq_zero_iff p x
theorem sU (a:Fin p):∃ x:Nat,x < p∧((x:Nat):Fin p)=a:=⟨a.val,a.isLt,by
 refine Fin.ext ?_
 show a.val % p=a.val
 exact Nat.mod_eq_of_lt a.isLt⟩
theorem w5 {x y:Nat} (h:x % p=y % p):((x:Nat):Fin p)=((y:Nat):Fin p):=Fin.ext h
theorem xg {x y:Nat} (h:((x:Nat):Fin p)=((y:Nat):Fin p)):x % p=y % p:=congrArg Fin.val h
theorem sw (hp:3≤p):((1:Nat):Fin p)=1:=Semiring.natCast_one
theorem mB (P:PG p) {x:Nat} (h:¬ x % p=0):((x:Nat):Fin p) ^ (p - 1)=1:=by
 have hp:=P.three
 have h1:=P.fer (x % p) (Nat.mod_lt _ (by omega)) h
 rw [w5 (y:=x % p) (by rw [Nat.mod_mod]),← Semiring.natCast_pow,w5 (y:=1) (by rw [h1,Nat.mod_eq_of_lt (by omega)]),sw hp]
theorem Dg (P:PG p):Rp (Fin p) p where
 two:=by have:=P.three; omega
 fld:=⟨fun a ha=>by
  have hp:=P.three
  obtain ⟨x,hx,rfl⟩:=sU a
  refine ⟨((x:Nat):Fin p) ^ (p - 2),?_⟩
  have h0:¬ x % p=0:=fun h=>ha ((fz x).2 h)
  have:=mB P h0
  rw [show p - 1=(p - 2) + 1 by omega,Semiring.pow_succ] at this
  grind,fun h=>by
  have hp:=P.three
  rw [← sw hp,fz,Nat.mod_eq_of_lt (by omega)] at h
  cases h⟩
 ker:=H6
 fer x hx:=by
  have hp:=P.three
  have h0:0≤x % (p:Int)∧x % (p:Int) < p:=bC (by omega) x
  obtain ⟨y,hy⟩:∃ y:Nat,x % (p:Int)=(y:Int):=⟨(x % (p:Int)).toNat,by omega⟩
  have hxy:((x:Int):Fin p)=((y:Nat):Fin p):=by
   have h1:(((x - (y:Int)):Int):Fin p)=0:=(H6 _).2 (by rw [← hy,Int.sub_emod,qo,Int.sub_self]; rfl)
   rw [Ring.intCast_sub,Ring.intCast_natCast] at h1
   grind
  have hy0:¬ y % p=0:=fun h=>hx (by
   rw [hy]
   have:y=0:=by rw [Nat.mod_eq_of_lt (by omega)] at h; exact h
   rw [this]; rfl)
  have:=mB P hy0
  rw [show p - 1=(p - 2) + 1 by omega,Semiring.pow_succ] at this
  rw [Ring.intCast_pow,hxy]; exact this
 ch:=(fz p).2 (Nat.mod_self p)
 pow v:=by
  have hp:=P.three
  by_cases h0:v % p=0
  ·rw [(fz v).2 h0]
   have e0:∀ m,(0:Fin p) ^ (m + 1)=0:=fun m=>by rw [Semiring.pow_succ]; grind
   exact (congrArg (fun m=>(0:Fin p) ^ m) (show p=(p - 1) + 1 by omega)).trans (e0 (p - 1))
  have:=mB P h0
  have e0:((v:Nat):Fin p) ^ ((p - 1) + 1)=(v:Nat):=by rw [Semiring.pow_succ,this]; grind
  exact (congrArg (fun m=>((v:Nat):Fin p) ^ m) (show p=(p - 1) + 1 by omega)).trans e0
 pws j hj:=by
  have hp:=P.three
  by_cases h1:j=p - 1
  ·rw [if_pos h1,h1]
   obtain ⟨q,hq⟩:∃ q,p=q + 1:=⟨p - 1,by omega⟩
   have e1:∀ v,v < p→((v:Nat):Fin p) ^ (p - 1)=if v=0 then 0 else 1:=fun v hv=>by
    by_cases hv0:v=0
    ·rw [if_pos hv0,hv0,show p - 1=(p - 2) + 1 by omega,Semiring.pow_succ]
     have:((0:Nat):Fin p)=0:=Semiring.natCast_zero
     rw [this]; grind
    rw [if_neg hv0]; exact mB P (by rw [Nat.mod_eq_of_lt hv]; exact hv0)
   rw [ai e1]
   have e2:∀ m,sm (fun v=>if v=0 then (0:Fin p) else 1) (m + 1)=(m:Nat):=fun m=>by
    induction m with
    | zero =>
     show (0:Fin p) + (if 0=0 then (0:Fin p) else 1)=((0:Nat):Fin p)
     rw [if_pos rfl,Semiring.natCast_zero]; grind
    | succ m ih=>rw [sm,ih,if_neg (by omega)]; grind
   have e3:=e2 (p - 1)
   rw [show p - 1 + 1=p by omega] at e3
   rw [e3]
   have e4:((p:Nat):Fin p)=0:=(fz p).2 (Nat.mod_self p)
   have e5:((p - 1 + 1:Nat):Fin p)=((p - 1:Nat):Fin p) + 1:=by grind
   rw [show p - 1 + 1=p by omega,e4] at e5
   grind
  rw [if_neg h1]
  by_cases h0:j=0
  ·rw [h0,ai (g:=fun _=>(1:Fin p)) fun v _=>Semiring.pow_zero _,bQ,(fz p).2 (Nat.mod_self p)]; grind
  obtain ⟨g,hg,hg1,hgj⟩:=P.gen
  have hgj:=hgj j (by omega) h0
  have hg0:g ≠ 0:=by omega
  have hgm:∀ v,v < p→(g * v) % p < p:=fun v _=>Nat.mod_lt _ (by omega)
  have hinj:∀ u v,u < p→v < p→(g * u) % p=(g * v) % p→u=v:=fun u v hu hv huv=>by
   have h2:(((g * u:Nat)):Fin p)=((g * v:Nat):Fin p):=w5 huv
   rw [Semiring.natCast_mul,Semiring.natCast_mul] at h2
   have h3:=mB P (x:=g) (by rw [Nat.mod_eq_of_lt hg]; exact hg0)
   rw [show p - 1=(p - 2) + 1 by omega,Semiring.pow_succ] at h3
   have h4:((u:Nat):Fin p)=((v:Nat):Fin p):=by grind
   have h5:=xg h4
   rwa [Nat.mod_eq_of_lt hu,Nat.mod_eq_of_lt hv] at h5
  have h6:=mh (K:=Fin p) (σ:=fun v=>(g * v) % p) hgm (fun i j hi hj hij=>hinj i j hi hj hij) fun v=>((v:Nat):Fin p) ^ j
  have h7:sm (fun v=>(((g * v) % p:Nat):Fin p) ^ j) p=((g:Nat):Fin p) ^ j * sm (fun v=>((v:Nat):Fin p) ^ j) p:=by
   rw [← aK]
   refine ai fun v _=>?_
   rw [w5 (x:=(g * v) % p) (y:=g * v) (by rw [Nat.mod_mod]),← Semiring.natCast_pow,Nat.mul_pow,Semiring.natCast_mul,Semiring.natCast_pow,Semiring.natCast_pow]
  rw [h7] at h6
  have h8:(((g:Nat):Fin p) ^ j - 1) * sm (fun v=>((v:Nat):Fin p) ^ j) p=0:=by grind
  have hinv:∀ a:Fin p,a ≠ 0→∃ b,a * b=1:=fun a ha=>by
   obtain ⟨x,hx,rfl⟩:=sU a
   refine ⟨((x:Nat):Fin p) ^ (p - 2),?_⟩
   have h0:¬ x % p=0:=fun h=>ha ((fz x).2 h)
   have:=mB P h0
   rw [show p - 1=(p - 2) + 1 by omega,Semiring.pow_succ] at this
   grind
  by_cases h9:((g:Nat):Fin p) ^ j - 1=0
  ·exfalso
   refine hgj ?_
   have h10:((g ^ j:Nat):Fin p)=((1:Nat):Fin p):=by rw [Semiring.natCast_pow,sw hp]; grind
   have h11:=xg h10
   rwa [Nat.mod_eq_of_lt (show 1 < p by omega)] at h11
  obtain ⟨b,hb⟩:=hinv _ h9
  grind
 eu v:=Ring.intCast_natCast v
theorem Cu (a:Nat) (h1:0 < a) (h2:a < p):((a:Nat):Fin p) ≠ 0:=fun h=>by
 rw [fz,Nat.mod_eq_of_lt h2] at h; omega
end
end Go.Proofs.YtjlmpmidchddjaaDoor
namespace Go.Proofs.YtjlmpmidchddjaaDoor
open Go.Pv
def A7 (T:List (List (List Int))):List PV:=T.map fun M=>.list (ll M)
theorem ny (T:List (List (List Int))):(A7 T).length=T.length:=by simp [A7]
theorem nM {T:List (List (List Int))} {i:Nat} (h:i < T.length):(A7 T).getD i default = .list (ll (T.getD i [])):=by
 simp [A7,List.getD,List.getElem?_eq_getElem h]
theorem wx (N c:Nat):rws N c=b8 3 N c:=by
 refine List.ext_getElem (by simp [rws,qI,b8]) fun i h1 h2=>?_
 simp [rws,qI,b8]
theorem tH {X:aw} {z:Nat} (h:X.length=z) (y b:aL):aE (X++[y]) z b=X++[b]:=by
 rw [cZ,List.set_append_right _ _ (by omega),h,Nat.sub_self]; rfl
def ra (Z:List (List Int)) (i:Nat):List (List Int):=(List.range Z.length).map fun t=>if t < i then (Z.getD t []).drop 1 else Z.getD t []
theorem Cd (Z:List (List Int)) (i:Nat):(ra Z i).length=Z.length:=by simp [ra]
theorem A0 (Z:List (List Int)):ra Z 0=Z:=by
 refine List.ext_getElem (by simp [ra]) fun t h1 h2=>?_
 simp [ra,List.getD,List.getElem?_eq_getElem h2]
theorem C0 {Z:List (List Int)} {i t:Nat} (h:t < Z.length):(ra Z i).getD t []=if t < i then (Z.getD t []).drop 1 else Z.getD t []:=by
 simp [ra,List.getD,List.getElem?_map,List.getElem?_range h]
theorem B4 {Z:List (List Int)} {i:Nat} (h:i < Z.length):(ra Z i).set i ((Z.getD i []).drop 1)=ra Z (i + 1):=by
 refine List.ext_getElem (by simp [ra]) fun t h1 h2=>?_
 rw [List.getElem_set]
 by_cases e:i=t
 ·subst e; simp [ra]
 rw [if_neg e]
 simp only [ra,List.getElem_map,List.getElem_range]
 by_cases e2:t < i
 ·rw [if_pos e2,if_pos (by omega)]
 rw [if_neg e2,if_neg (by omega)]
theorem Bv (Z:List (List Int)):ra Z Z.length=Z.map (·.drop 1):=by
 refine List.ext_getElem (by simp [ra]) fun t h1 h2=>?_
 have:t < Z.length:=by simpa using h2
 simp [ra,this]
theorem CQ {Z:List (List Int)} {i:Nat} (h:i < Z.length) (d:AV):(bE (ll Z)).getD i d = .p (.list (il (Z.getD i []))):=by
 simp [bE,ll,List.getD,List.getElem?_map,List.getElem?_eq_getElem h]
theorem CT (Z:List (List Int)) (i:Nat) (v:List Int):(bE (ll Z)).set i (.p (.list (il v)))=bE (ll (Z.set i v)):=by
 simp [bE,ll,List.map_set]
structure yc (n:Nat) (m:List Int) (c:Nat) (H:aw) (κ:Nat) (Q:List (Nat × List (List Int))):Prop where
 wf:tT H
 b0:aq H 0 = .own [.p (.int .i64 n),.p (.list (il m))]
 b1:aq H 1 = .own [.p (.int .i64 0),.p (.int .i64 0)]
 sp:rW H c κ Q
 hd:aq H κ = .own (gU Q)
 k2:2≤κ
structure xE (n:Nat) (m:List Int) (c:Nat) (H:aw) (κ κ2:Nat) (Qr Q Q2:List (Nat × List (List Int))):Prop where
 wf:tT H
 b0:aq H 0 = .own [.p (.int .i64 n),.p (.list (il m))]
 b1:aq H 1 = .own [.p (.int .i64 0),.p (.int .i64 0)]
 sp:rW H c κ2 (Qr++Q2)
 hd:aq H κ = .own (gU Q)
 hd2:aq H κ2 = .own (gU Q2)
 len:H.length=κ2 + 1
 kl:κ < κ2
 k2:2≤κ
 bo:∀ x∈Qr,x.1 + x.2.length < κ
structure GZ (n:Nat) (m:List Int) (c:Nat) (H:aw) (κ κ3:Nat) (Qr Q:List (Nat × List (List Int))) (R:List (List Int)):Prop where
 wf:tT H
 b0:aq H 0 = .own [.p (.int .i64 n),.p (.list (il m))]
 b1:aq H 1 = .own [.p (.int .i64 0),.p (.int .i64 0)]
 sp:rW H c κ Qr
 hd:aq H κ = .own (gU Q)
 ho:aq H κ3 = .own (bE (ll R))
 len:H.length=κ3 + 1
 kl:κ < κ3
 k2:2≤κ
theorem yc.out {n:Nat} {m:List Int} {c:Nat} {H:aw} {κ:Nat} {Q:List (Nat × List (List Int))} (h:yc n m c H κ Q):GZ n m c (H++[.own []]) κ H.length Q Q []:=by
 have hk:=kH h.hd
 have hk2:=h.k2
 refine ⟨fG h.wf fun b hb=>by rw [List.mem_singleton.1 hb]; rfl,by rw [aF (by omega)]; exact h.b0,by rw [aF (by omega)]; exact h.b1,?_,by rw [aF hk]; exact h.hd,a8 _ _,by simp,hk,h.k2⟩
 exact h.sp.move (Nat.le_refl _) fun x hx j h1 h2=>aF (by have:=h.sp.bd x hx; omega)
theorem GZ.next {n:Nat} {m:List Int} {c:Nat} {H:aw} {κ κ3 P:Nat} {s:List (List Int)} {Qr Q:List (Nat × List (List Int))} {R R' : List (List Int)} (h:GZ n m c H κ κ3 ((P,s) :: Qr) Q R) (hs:0 < s.length) {G:aw} (hl:G.length=H.length + 4) (hw:tT G) (hg:∀ j,j < H.length→j ≠ κ3→j ≠ P + 1→aq G j=aq H j) (ho:aq G (H.length + 3) = .own (bE (ll R'))) :
  GZ n m c G κ (H.length + 3) Qr Q R':=by
 have hlen:=h.len
 have hkl:=h.kl
 have hk2:=h.k2
 have hb:=h.sp.bd (P,s) (by simp)
 have hdj:=List.pairwise_cons.1 h.sp.dj
 simp only at hb
 refine ⟨hw,?_,?_,?_,?_,ho,by omega,by omega,hk2⟩
 ·rw [hg 0 (by omega) (by omega) (by omega)]; exact h.b0
 ·rw [hg 1 (by omega) (by omega) (by omega)]; exact h.b1
 ·refine (h.sp.sub (List.sublist_cons_self _ _)).move (Nat.le_refl _) fun x hx j h1 h2=>?_
  have hbx:=h.sp.bd x (List.mem_cons_of_mem _ hx)
  have:=hdj.1 x hx
  unfold Dj at this
  simp only at this
  exact hg j (by omega) (by omega) (by omega)
 rw [hg κ (by omega) (by omega) (by omega)]; exact h.hd
theorem yc.zero (n:Nat) (m:List Int) (c:Nat):yc n m c (.own [.p (.int .i64 n),.p (.list (il m))] :: .own [.p (.int .i64 0),.p (.int .i64 0)] :: .own (rws c c) :: (tl (aP c c)++[.own [.sl 2 0 c]])) (c + 3) [(2,aP c c)]:=by
 have hl:(tl (aP c c)).length=c:=by rw [aD,bc]
 refine ⟨fun b hb=>?_,rfl,rfl,⟨fun x hx=>?_,fun x hx=>?_,List.pairwise_singleton _ _⟩,?_,by omega⟩
 ·simp only [List.length_cons,List.length_append,hl]
  rcases List.mem_cons.1 hb with rfl | hb
  ·rfl
  rcases List.mem_cons.1 hb with rfl | hb
  ·rfl
  rcases List.mem_cons.1 hb with rfl | hb
  ·rw [wx]; exact jk (by simp<;>omega)
  rcases List.mem_append.1 hb with hb | hb
  ·exact qy _ _ b hb
  rw [List.mem_singleton.1 hb]; simp [ew,bb,br]
 ·rw [List.mem_singleton.1 hx]
  refine ⟨by rw [bc,← wx]; rfl,fun i hi=>?_⟩
  simp only [bc] at hi
  rw [show 2 + 1 + i=i + 3 by omega]
  show aq (tl (aP c c)++_) i=_
  rw [aF (by omega),aV (by rw [bc]; exact hi)]
 ·rw [List.mem_singleton.1 hx]; simp [bc]<;>omega
 show aq (tl (aP c c)++_) c=_
 have:=a8 (tl (aP c c)) (.own [.sl 2 0 c])
 rw [hl] at this
 rw [this]; simp [gU,bc]
theorem yc.lt {n:Nat} {m:List Int} {c:Nat} {H:aw} {κ:Nat} {Q:List (Nat × List (List Int))} (h:yc n m c H κ Q):κ < H.length:=kH h.hd
theorem yc.start {n:Nat} {m:List Int} {c:Nat} {H:aw} {κ:Nat} {Q:List (Nat × List (List Int))} (h:yc n m c H κ Q):xE n m c (H++[.own []]) κ H.length Q Q []:=by
 have hk:=h.lt
 have hk2:=h.k2
 refine ⟨fG h.wf fun b hb=>by rw [List.mem_singleton.1 hb]; rfl,by rw [aF (by omega)]; exact h.b0,by rw [aF (by omega)]; exact h.b1,?_,by rw [aF hk]; exact h.hd,a8 _ _,by simp,hk,h.k2,fun x hx=>(h.sp.bd x hx).2⟩
 rw [List.append_nil]
 exact h.sp.move (by omega) fun x hx j h1 h2=>aF (by have:=h.sp.bd x hx; omega)
theorem xE.end {n:Nat} {m:List Int} {c:Nat} {H:aw} {κ κ2:Nat} {Q Q2:List (Nat × List (List Int))} (h:xE n m c H κ κ2 [] Q Q2):yc n m c H κ2 Q2:=⟨h.wf,h.b0,h.b1,h.sp,h.hd2,by have:=h.kl; have:=h.k2; omega⟩
theorem xE.step {n:Nat} {m:List Int} {c:Nat} {H:aw} {κ κ2:Nat} {x:Nat × List (List Int)} {Qr Q Q2 N:List (Nat × List (List Int))} (h:xE n m c H κ κ2 (x :: Qr) Q Q2) {H1 Y:aw} (hl:H1.length=H.length)
  (hg:∀ j,¬ (x.1≤j∧j≤x.1 + x.2.length)→aq H1 j=aq H j) (hw:tT H1) (hY:∀ b∈Y,ew (H.length + Y.length) b=true) (hN:rW (H1++Y) c (H.length + Y.length) N) (hNd:∀ y∈N,y=x∨H.length≤y.1) :
  xE n m c (aE (H1++Y) κ2 .dead++[.own (gU (Q2++N))]) κ (H.length + Y.length) Qr Q (Q2++N):=by
 have hlen:=h.len
 have hkl:=h.kl
 have hk2:=h.k2
 have hbx:=h.sp.bd x (by simp)
 have hbo:=h.bo x (by simp)
 have hGl:(aE (H1++Y) κ2 .dead).length=H.length + Y.length:=by rw [dM,List.length_append,hl]
 have hG1:∀ j,j ≠ κ2→j < H.length + Y.length→aq (aE (H1++Y) κ2 .dead++[.own (gU (Q2++N))]) j=aq (H1++Y) j:=fun j j1 j2=>by
  rw [aF (by rw [hGl]; exact j2),aT,if_neg (fun h=>j1 h.1)]
 have hG:∀ j,j ≠ κ2→j < H.length→¬ (x.1≤j∧j≤x.1 + x.2.length)→aq (aE (H1++Y) κ2 .dead++[.own (gU (Q2++N))]) j=aq H j:=fun j j1 j2 j3=>by
  rw [hG1 j j1 (by omega),aF (by omega),hg j j3]
 have hdj:=h.sp.dj
 rw [List.cons_append,List.pairwise_cons] at hdj
 have hA:rW (aE (H1++Y) κ2 .dead++[.own (gU (Q2++N))]) c (H.length + Y.length) (Qr++Q2):=by
  refine (h.sp.sub (Q':=Qr++Q2) (by rw [List.cons_append]; exact List.sublist_cons_self _ _)).move (by omega) fun y hy j j1 j2=>?_
  have hby:=h.sp.bd y (by rw [List.cons_append]; exact List.mem_cons_of_mem _ hy)
  have:=hdj.1 y hy
  unfold Dj at this
  exact hG j (by omega) (by omega) (by omega)
 have hB:rW (aE (H1++Y) κ2 .dead++[.own (gU (Q2++N))]) c (H.length + Y.length) N:=by
  refine hN.move (Nat.le_refl _) fun y hy j j1 j2=>?_
  have hby:=hN.bd y hy
  refine hG1 j ?_ (by omega)
  rcases hNd y hy with e | e
  ·rw [e] at j1 j2; omega
  omega
 have hC:=hA.app hB fun y hy z hz=>by
  rcases hNd z hz with e | e
  ·rw [e]; exact (hdj.1 y hy).symm
  have hby:=h.sp.bd y (by rw [List.cons_append]; exact List.mem_cons_of_mem _ hy)
  exact .inl (by omega)
 rw [List.append_assoc] at hC
 have hNsc:=Ft (L:=H.length + Y.length + 1) (hC.sub (Q':=Q2++N) (List.sublist_append_right _ _)) (by omega)
 refine ⟨fG (k7 (fG hw (by rw [hl]; exact hY)) κ2 rfl) fun b hb=>?_,?_,?_,hC,?_,?_,by rw [List.length_append,hGl]; rfl,by omega,hk2,fun y hy=>h.bo y (List.mem_cons_of_mem _ hy)⟩
 ·rw [List.mem_singleton.1 hb,hGl]; exact hNsc
 ·rw [hG 0 (by omega) (by omega) (by omega)]; exact h.b0
 ·rw [hG 1 (by omega) (by omega) (by omega)]; exact h.b1
 ·rw [hG κ (by omega) (by omega) (by omega)]; exact h.hd
 rw [← hGl]; exact a8 _ _
theorem xE.one {n:Nat} {m:List Int} {c:Nat} {H:aw} {κ κ2 P:Nat} {s:List (List Int)} {Qr Q Q2:List (Nat × List (List Int))} (h:xE n m c H κ κ2 ((P,s) :: Qr) Q Q2) (hs:s.length=1) :
  xE n m c (aE (H++[.own [.sl P 0 1]]) κ2 .dead++[.own (gU Q2++[.sl P 0 1])]) κ (H.length + 1) Qr Q (Q2++[(P,s)]):=by
 have hb:=h.sp.bd (P,s) (by simp)
 have hl:=h.len
 simp only at hb
 have e:gU Q2++[.sl P 0 1]=gU (Q2++[(P,s)]):=by rw [← wR]; simp [gU,hs]
 rw [e]
 refine h.step (Y:=[.own [.sl P 0 1]]) rfl (fun j _=>rfl) h.wf (fun b hb=>?_) ?_ fun y hy=>.inl (List.mem_singleton.1 hy)
 ·rw [List.mem_singleton.1 hb]; simp [ew,bb,br]; omega
 exact (h.sp.sub (Q':=[(P,s)]) (by simp)).move (by omega) fun y hy j j1 j2=>by
  rw [List.mem_singleton.1 hy] at j1 j2
  exact aF (by simp only at j1 j2; omega)
theorem xE.many {n:Nat} {m:List Int} {c:Nat} {H:aw} {κ κ2 P:Nat} {s:List (List Int)} {Qr Q Q2:List (Nat × List (List Int))} (h:xE n m c H κ κ2 ((P,s) :: Qr) Q Q2) {H1:aw} (hl:H1.length=H.length) (hg:∀ j,j ≠ P→¬ (P + 1≤j∧j < P + 1 + s.length)→aq H1 j=aq H j) (hf:∀ j,aq H1 j=aq H j∨∃ c,aq H1 j = .fro c) (Out:List (List (List Int))) :
  xE n m c (aE (H1++(.own (gU (gl (H1.length + 1) Out)) :: (iu c 1 Out).map (aL.bl (Go.Pv.kx H1.length (1 + cR Out))))) κ2 .dead++[.own (gU Q2++gU (gl (H1.length + 1) Out))]) κ (H1.length + (1 + cR Out)) Qr Q (Q2++gl (H1.length + 1) Out):=by
 have hlen:=h.len
 have hk2:=h.k2
 have hkl:=h.kl
 have hYl:(aL.own (gU (gl (H1.length + 1) Out)) :: (iu c 1 Out).map (aL.bl (Go.Pv.kx H1.length (1 + cR Out)))).length=1 + cR Out:=by simp [cC]; omega
 have hch:=Cc (n:=H1.length) (len:=1 + cR Out) (b:=1) (W:=c) (Sp:=Out) (Nat.le_refl _) (H1++[.own (gU (gl (H1.length + 1) Out))]) (by simp) []
 rw [List.append_nil,List.append_assoc] at hch
 rw [wR]
 have hw:tT H1:=Fc h.wf hl hf
 have hst:=h.step (H1:=H1) (Y:=.own (gU (gl (H1.length + 1) Out)) :: (iu c 1 Out).map (aL.bl (Go.Pv.kx H1.length (1 + cR Out)))) (N:=gl (H1.length + 1) Out) hl (fun j hj=>hg j (by simp only at hj; omega) (by simp only at hj; omega)) hw (fun b hb=>?_) ⟨hch,fun x hx=>?_,BX _ _⟩ fun y hy=>.inr (by have:=(nG _ _ y hy).1; omega)
 ·rw [hYl,← hl] at hst
  exact hst
 ·rw [hYl,← hl]
  rcases List.mem_cons.1 hb with rfl | hb
  ·refine List.all_eq_true.2 fun x hx=>?_
   obtain ⟨y,hy,rfl⟩:=List.mem_map.1 hx
   have:=(nG _ _ y hy).2
   simp [bb,br]; omega
  obtain ⟨b0,hb0,rfl⟩:=List.mem_map.1 hb
  obtain ⟨j,hj⟩:=List.getElem?_of_mem hb0
  have hjl:=(List.getElem?_eq_some_iff.1 hj).1
  rw [cC] at hjl
  have e:aq (iu c 1 Out) j=b0:=by rw [fI,List.getD_eq_getElem?_getD,hj]; rfl
  rcases nV c 1 Out j hjl with ⟨v,hv⟩ | ⟨d,q,hv,h1,h2⟩
  ·rw [← e,hv,vB]; exact fW _ _
  rw [← e,hv]
  simp only [aL.bl,vj (show d + q≤1 + cR Out by omega)]
  exact jk (by omega)
 have:=nG _ _ x hx
 rw [hYl]; omega
theorem my {H:aw} {k:Nat} {b:aL} (h:aq H k=b) (hk:k < H.length):aE H k b=H:=by
 refine jq (dM _ _ _) fun j=>?_
 rw [aT]
 split
 ·rename_i hj; rw [hj.1,h]
 rfl
section
variable {all:Array Oper} {rest:List Oper} {K:St→Prop} {s:St}
theorem z6 {dst:Option Tmp} {ty:TypeId} {pos:String} {aft:Array Edge} {gd:Option (Nat × Bool)} {fo:Operand} {args:Array Operand} {ts:Array TypeId} {p c P:Nat} {x:List (List Int)} {mv:PV} (hk:Dy s.H c (P,x)) (hx:x.length=1) (hfo:s.ev fo = .p (.fn 44 []))
  (hg:bw all s { dst:=dst,op:=.call { callee:=.value fo,args:=args,argTypes:=ts },type:=ty,pos:=pos,after:=aft,guard:=gd } = some true) (ha:args.toList.map s.ev=[.p (.int .i64 p),.sl P 0 x.length,.p mv]) (hd:ay s dst)
  (h:iA Tryd.prog false all rest K (({ s with H:=s.H++[.own [.sl P 0 1]] } : St).put dst (.sl s.H.length 0 1))) :
  iA Tryd.prog false all ({ dst:=dst,op:=.call { callee:=.value fo,args:=args,argTypes:=ts },type:=ty,pos:=pos,after:=aft,guard:=gd } :: rest) K s:=by
 obtain ⟨h1,h2⟩:=hk
 simp only [hx] at h1 h2
 have h3:=h2 0 (by omega)
 rw [Nat.add_zero] at h3
 have l1:=kH h1
 have l2:=kH h3
 refine nZ [P,P + 1] (yP (p:=p) (W:=c) (x.getD 0 []) mv) hfo hg ?_ ?_ (by simp) (by simp; omega) (by simp [Ds,bb,br,b8,fW,dh,kF]) hd ?_
 ·rw [ha,hx]
  exact ⟨⟨trivial,rfl⟩,⟨rfl,rfl⟩,⟨trivial,rfl⟩,trivial⟩
 ·exact ⟨jE h1 fun i hi=>⟨by simp; omega,by have h0:i=0:=(by omega); subst h0; rfl⟩,iD h3,trivial⟩
 have e1:gy s.H [P,P + 1] (([.own (b8 1 c 1),.own (ol (x.getD 0 [])),.own [.sl 0 0 1]]:aw).map (aL.bl ([P,P + 1]++List.range' s.H.length 1)))=s.H++[.own [.sl P 0 1]]:=by
  have e2:aL.bl ([P,P + 1]++List.range' s.H.length 1) (.own (b8 1 c 1)) = .own (b8 (P + 1) c 1):=by simp [aL.bl,b8,Go.Pv.bl,bu]
  have e3:aL.bl ([P,P + 1]++List.range' s.H.length 1) (.own (ol (x.getD 0 []))) = .own (ol (x.getD 0 [])):=by simp only [aL.bl,oq]
  simp only [List.map_cons,List.map_nil,gy,e2,e3]
  rw [my h1 l1,my h3 l2]
  rfl
 show iA Tryd.prog false all rest K (({ s with H:=gy s.H [P,P + 1] (([.own (b8 1 c 1),.own (ol (x.getD 0 [])),.own [.sl 0 0 1]]:aw).map (aL.bl ([P,P + 1]++List.range' s.H.length 1))) } : St).put dst (Go.Pv.bl ([P,P + 1]++List.range' s.H.length 1) (.sl 2 0 1)))
 rw [e1]
 exact h
theorem An {dst:Option Tmp} {ty:TypeId} {pos:String} {aft:Array Edge} {gd:Option (Nat × Bool)} {fo:Operand} {args:Array Operand} {ts:Array TypeId} {p c:Nat} {x mm:List (List Int)} {Out:List (List (List Int))} (hc:C8 Tryd.prog 44 [.int .i64 p,.list (ll x),.list (ll mm)] (.sl 0 0 Out.length) (.own (gN 1 Out) :: iu c 1 Out)) (hfo:s.ev fo = .p (.fn 44 []))
  (hg:bw all s { dst:=dst,op:=.call { callee:=.value fo,args:=args,argTypes:=ts },type:=ty,pos:=pos,after:=aft,guard:=gd } = some true) (ha:args.toList.map s.ev=[.p (.int .i64 p),.p (.list (ll x)),.p (.list (ll mm))]) (hd:ay s dst)
  (h:iA Tryd.prog false all rest K (({ s with H:=s.H++(.own (gU (gl (s.H.length + 1) Out)) :: (iu c 1 Out).map (aL.bl (Go.Pv.kx s.H.length (1 + cR Out)))) } : St).put dst (.sl s.H.length 0 Out.length))) :
  iA Tryd.prog false all ({ dst:=dst,op:=.call { callee:=.value fo,args:=args,argTypes:=ts },type:=ty,pos:=pos,after:=aft,guard:=gd } :: rest) K s:=by
 refine kc (p:=True∧True∧True∧True) hc hg (by unfold gr; rw [hfo,ha]; rfl) ?_ hd ⟨trivial,trivial,trivial,trivial⟩ ?_
 ·unfold Dk
  have hl:(aL.own (gN 1 Out) :: iu c 1 Out).length=cR Out + 1:=by simp [cC]
  rw [hl,Bool.and_eq_true]
  refine ⟨by simp [bb,br],List.all_eq_true.2 fun b hb=>?_⟩
  rcases List.mem_cons.1 hb with rfl | hb
  ·exact qu (by omega)
  obtain ⟨j,hj⟩:=List.getElem?_of_mem hb
  have hjl:=(List.getElem?_eq_some_iff.1 hj).1
  rw [cC] at hjl
  have e:aq (iu c 1 Out) j=b:=by rw [fI,List.getD_eq_getElem?_getD,hj]; rfl
  rcases nV c 1 Out j hjl with ⟨v,hv⟩ | ⟨d,q,hv,h1,h2⟩
  ·rw [← e,hv]; exact fW _ _
  rw [← e,hv]; exact jk (by omega)
 have hl:(aL.own (gN 1 Out) :: iu c 1 Out).length=1 + cR Out:=by simp [cC]; omega
 rw [hl]
 have e:(aL.own (gN 1 Out) :: iu c 1 Out).map (aL.bl (Go.Pv.kx s.H.length (1 + cR Out))) = .own (gU (gl (s.H.length + 1) Out)) :: (iu c 1 Out).map (aL.bl (Go.Pv.kx s.H.length (1 + cR Out))):=by
  rw [List.map_cons]
  simp only [aL.bl]
  rw [CS (Nat.le_refl _)]
 have e2:Go.Pv.bl (Go.Pv.kx s.H.length (1 + cR Out)) (.sl 0 0 Out.length) = .sl s.H.length 0 Out.length:=by
  simp only [Go.Pv.bl,bu]
  rw [yj (by omega),Nat.add_zero]
 rw [e,e2]
 exact h
end
set_option maxHeartbeats 8000000 in
set_option maxRecDepth 20000 in
theorem B0 {n e:Nat} {m:List Int} (h:GT n m n e) {c p o:Nat} {L:List (List Int)} {TT:List (List (List Int))} {WL:List Int} {J S:Nat→Nat} (hp2:2≤p) (hp:p≤1000000) (hc:0 < c) (hc24:c≤24)
  (hcl:cL Tryd.prog 40 [gp n m] (.list (ll L))) (hct:cL Tryd.prog 42 [gp n m,.list (ll L)] (.list (A7 TT))) (hwh:cL Tryd.prog 45 [gp n m,.list (ll L)] (.list (il WL))) (hmo:cL Tryd.prog 43 [gp n m] (.int .i64 p))
  (hLl:L.length=c) (hTl:TT.length=c) (hT1:∀ i,i < c→(TT.getD i []).length=c∧(∀ v∈TT.getD i [],v.length=c)∧∀ v∈TT.getD i [],∀ j,0≤v.getD j 0∧v.getD j 0≤1000)
  (hWl:WL.length=n) (hWo:WL.getD e 0=(o:Int)) (hoc:o < c) (hL0:∀ i,i < c→∃ x,x < n∧(L.getD i []).getD 0 0=(x:Int)∧WL.getD (iv n (op m n) e x) 0=(J i:Int)∧J i < c∧(L.getD i []).length=S i∧0 < S i∧S i≤60)
  (hB:∀ i,i≤c→(cQ p TT [aP c c] i).length≤1000) (hne:cQ p TT [aP c c] c ≠ []) (hD:∀ s∈cQ p TT [aP c c] c,∃ d,d < p∧tW p (EB p n (tq p (vo p o s) J S c)) d=true) :
  cL Tryd.prog 11 [gp n m] (.tup [.int .i64 p,.list (ll (xS p n o c J S (cQ p TT [aP c c] c))),fl (0,0)]):=by
 have hb:=h.2.1.big
 have hck:=wb n m (by rw [h.2.1.len]; have:=Nat.mul_le_mul hb hb; omega)
 rw [zV h] at hck
 refine aM ae Tryd.func11 rfl (by kernel_rfl) (by rw [Tryd.ntmps11]; exact Nat.le_add_left 1 _) ?_; rw [Tryd.ntmps11]
 refine qm ?_
 refine ab fun K hK=>aa ae ?_
 simp only [ak,fl,gp,aj,simprocAttr]
 refine af ?_ (hK _ ?_)<;>clear hK K
 ·first|exact trivial|omega|(simp only [ah] at *; omega)|(simp [ah] at *; omega)|simp_all
 refine qa (qm (qm ?_))
 refine ab fun K hK=>aa ae ?_
 simp only [ak,fl,gp,aj,simprocAttr]
 refine ao trivial (al (hck) rfl rfl rfl (by simp only [ay,Nat.reduceLT]) (by repeat (first|exact trivial|constructor)) (aa ae ?_))
 simp only [ak,fl,gp,aj,simprocAttr]
 refine af ?_ (hK _ ?_)<;>clear hK K
 ·first|exact trivial|omega|(simp only [ah] at *; omega)|(simp [ah] at *; omega)|simp_all
 refine qa (qm ?_)
 refine ab fun K hK=>aa ae ?_
 simp only [ak,fl,gp,aj,simprocAttr]
 refine af ?_ (hK _ ?_)<;>clear hK K
 ·first|exact trivial|omega|(simp only [ah] at *; omega)|(simp [ah] at *; omega)|simp_all
 refine qa ?_
 refine an rfl (fun hC1=>?_) (fun hC1=>?_)
 ·cases hC1
 (try simp only [aI] at hC1)
 refine qh (qa (qm ?_))
 refine ab fun K hK=>aa ae ?_
 simp only [ak,fl,gp,aj,simprocAttr]
 refine ao trivial (al (hcl) rfl rfl rfl (by simp only [ay,Nat.reduceLT]) (by repeat (first|exact trivial|constructor)) (aa ae ?_))
 simp only [ak,fl,gp,aj,simprocAttr]
 refine af ?_ (hK _ ?_)<;>clear hK K
 ·first|exact trivial|omega|(simp only [ah] at *; omega)|(simp [ah] at *; omega)|simp_all
 refine qa (qm (qm ?_))
 refine ab fun K hK=>aa ae ?_
 simp only [ak,fl,gp,aj,simprocAttr,au,hLl]
 refine af trivial (hK _ ?_)<;>clear hK K
 refine qa ?_
 refine an rfl (fun hC2=>?_) (fun hC2=>?_)
 ·(try simp only [aI] at hC2)
  omega
 (try simp only [aI] at hC2)
 refine qh (qa (qm ?_))
 refine ab fun K hK=>aa ae ?_
 simp only [ak,fl,gp,aj,simprocAttr,au,hLl]
 refine af trivial (hK _ ?_)<;>clear hK K
 refine qa (qm ?_)
 refine ab fun K hK=>aa ae ?_
 simp only [ak,fl,gp,aj,simprocAttr]
 refine ao trivial (al (hct) rfl rfl rfl (by simp only [ay,Nat.reduceLT]) (by repeat (first|exact trivial|constructor)) (aa ae ?_))
 simp only [ak,fl,gp,aj,simprocAttr]
 refine af ?_ (hK _ ?_)<;>clear hK K
 ·first|exact trivial|omega|(simp only [ah] at *; omega)|(simp [ah] at *; omega)|simp_all
 refine qa (qm ?_)
 refine ab fun K hK=>aa ae ?_
 simp only [ak,fl,gp,aj,simprocAttr]
 refine ao trivial (al (hmo) rfl rfl rfl (by simp only [ay,Nat.reduceLT]) (by repeat (first|exact trivial|constructor)) (aa ae ?_))
 simp only [ak,fl,gp,aj,simprocAttr]
 refine af ?_ (hK _ ?_)<;>clear hK K
 ·first|exact trivial|omega|(simp only [ah] at *; omega)|(simp [ah] at *; omega)|simp_all
 refine qa (qm ?_)
 refine ab fun K hK=>aa ae ?_
 simp only [ak,fl,gp,aj,simprocAttr]
 refine af trivial (hK _ ?_)<;>clear hK K
 refine qa (qm (qm ?_))
 refine bT 10 rfl ?_
 refine ab fun K hK=>aa ae ?_
 simp only [ak,fl,gp,aj,simprocAttr]
 refine af trivial (hK _ ?_)<;>clear hK K
 refine qa (ql ?_)
 refine aA (ι:=Nat) (fun k=>⟨241,[(1,.ptr 0 0),(4,.ptr 1 0),(6,.p (.list (ll L))),(7,.p (.int .i64 c)),(8,.p (.list (A7 TT))),(9,.p (.int .i64 p)),(10,.sl 2 0 k),(54,.p (.int .i64 c)),(55,.p (.int .i64 k))],.own [.p (.int .i64 n),.p (.list (il m))] :: .own [.p (.int .i64 0),.p (.int .i64 0)] :: .own (rws c k) :: tl (aP c k)⟩) (fun k=>k≤c) (fun k=>c - k) 0 (Nat.zero_le _) [0,1,3] (by simp only [leq,bh,ak,fl,gp,aj,simprocAttr]<;>simp [rws,qI,aP,tl,kp]) fun k hk=>?_
 refine qm ?_
 refine ab fun K hK=>aa ae ?_
 simp only [ak,fl,gp,aj,simprocAttr]
 refine af trivial (hK _ ?_)<;>clear hK K
 refine qa (qm ?_)
 refine an rfl (fun hC3=>?_) (fun hC3=>?_)
 ·(try simp only [aI] at hC3)
  have hkc:k < c:=by omega
  obtain ⟨X,hX⟩:∃ X,tl (aP c k)=X:=⟨_,rfl⟩
  have hXl:X.length=k:=by rw [← hX,aD,bc]
  have hgX:∀ y,aq (X++[y]) k=y:=fun y=>by rw [← hXl]; exact a8 X y
  have hsX:=fun y z=>tH hXl y z
  rw [hX]
  refine qh (qa (qm (ql (qm ?_))))
  refine ab fun K hK=>aa ae ?_
  simp only [ak,fl,gp,aj,simprocAttr]
  refine af trivial (hK _ ?_)<;>clear hK K
  refine qa (qm ?_)
  refine ab fun K hK=>aa ae ?_
  simp only [ak,fl,gp,aj,simprocAttr,hXl,cg]
  refine af ?_ (hK _ ?_)<;>clear hK K
  ·omega
  refine qa (qm ?_)
  refine ab fun K hK=>aa ae ?_
  simp only [ak,fl,gp,aj,simprocAttr,hgX,hsX,cW,eK]
  refine af ?_ (hK _ ?_)<;>clear hK K
  ·first|exact trivial|omega|(simp only [ah] at *; omega)|(simp [ah] at *; omega)|simp_all
  refine qa ?_
  obtain ⟨Y,hY⟩:∃ Y,X++[.own (ol (kO c k))]=Y:=⟨_,rfl⟩
  have hYl:Y.length=k + 1:=by rw [← hY]; simp [hXl]
  have hYg:∀ b,aq (Y++[b]) (k + 1)=b:=fun b=>by rw [← hYl]; exact a8 Y b
  have hrw:List.take k (rws c k)=rws c k:=List.take_of_length_le (by rw [dW]; exact Nat.le_refl _)
  rw [show (List.replicate c (0:Int)).set k 1=kO c k from rfl,hY]
  refine ab fun K hK=>aa ae ?_
  simp only [ak,fl,gp,aj,simprocAttr,hYl,hYg,List.length_append,hrw,lA,dW]
  refine ao ?_ (eM (cu ae rfl rfl rfl rfl rfl rfl) rfl (by simp only [ay,Nat.reduceLT]) (aa ae ?_))
  ·first|exact trivial|omega|(simp only [ah] at *; omega)|(simp [ah] at *; omega)|simp_all
  simp only [ak,fl,gp,aj,simprocAttr,hYl,List.length_append,hYl,hYg,List.length_append,hrw,lA,dW]
  refine af ?_ (hK _ ?_)<;>clear hK K
  ·exact ⟨AU _ _,by omega,by omega,by omega⟩
  refine qd (qa ?_)
  refine ab fun K hK=>aa ae ?_
  simp only [ak,fl,gp,aj,simprocAttr]
  refine af ?_ (hK _ ?_)<;>clear hK K
  ·first|exact trivial|omega|(simp only [ah] at *; omega)|(simp [ah] at *; omega)|simp_all
  refine qa ?_
  refine ⟨k + 1,0 :: 1 :: (k + 5) :: List.range' 3 (k + 1),by omega,by omega,?_⟩
  refine jL (N:=c) (G:=[.int .i64 n,.list (il m)]) (O:=[.int .i64 0,.int .i64 0]) (bc c (k + 1)) rfl rfl ⟨by omega,by omega,.inr (by omega)⟩ rfl rfl (Gd hYl _ _) (fun q hq=>?_) ?_
  ·show aq (Y++_++_) q=_
   rw [G3 (by omega),← hY,← hX,kR,← sR,aV (by rw [bc]; omega)]
  simp [jY,St.get,lk,Go.Pv.bl,bu,bb,br]
 (try simp only [aI] at hC3)
 have hkc:k=c:=by omega
 rw [hkc]
 refine qj (qc (qc (qf (qa (qm ?_)))))
 refine ab fun K hK=>aa ae ?_
 simp only [ak,fl,gp,aj,simprocAttr]
 refine ao ?_ (eM (cu ae rfl rfl rfl rfl rfl rfl) rfl (by simp only [ay,Nat.reduceLT]) (aa ae ?_))
 ·first|exact trivial|omega|(simp only [ah] at *; omega)|(simp [ah] at *; omega)|simp_all
 simp only [ak,fl,gp,aj,simprocAttr,aD,bc]
 refine af ?_ (hK _ ?_)<;>clear hK K
 ·first|exact trivial|omega|(simp only [ah] at *; omega)|(simp [ah] at *; omega)|simp_all
 refine qa (qm (qm ?_))
 refine ab fun K hK=>aa ae ?_
 simp only [ak,fl,gp,aj,simprocAttr]
 refine af trivial (hK _ ?_)<;>clear hK K
 refine qa (ql ?_)
 refine aA (ι:=Nat × aw × Nat × List (Nat × List (List Int))) (fun x=>⟨241,[(1,.ptr 0 0),(4,.ptr 1 0),(6,.p (.list (ll L))),(7,.p (.int .i64 c)),(8,.p (.list (A7 TT))),(9,.p (.int .i64 p)),(13,.sl x.2.2.1 0 x.2.2.2.length),(70,.p (.int .i64 c)),(71,.p (.int .i64 x.1))],x.2.1⟩) (fun x=>x.1≤c∧yc n m c x.2.1 x.2.2.1 x.2.2.2∧x.2.2.2.map Prod.snd=cQ p TT [aP c c] x.1) (fun x=>c - x.1) (0,.own [.p (.int .i64 n),.p (.list (il m))] :: .own [.p (.int .i64 0),.p (.int .i64 0)] :: .own (rws c c) :: (tl (aP c c)++[.own [.sl 2 0 c]]),c + 3,[(2,aP c c)]) ⟨Nat.zero_le _,yc.zero n m c,rfl⟩ (List.range (c + 4)) (bP (by simp [aD,bc]) rfl rfl (yc.zero n m c).wf (by
  simp [St.get,lk,bb,br]<;>omega)) fun x hx=>?_
 obtain ⟨i,H,κ,Q⟩:=x
 obtain ⟨hic,hi2,hQ⟩:=hx
 simp only at hic hi2 hQ
 have hso:=lK (p:=p) (c:=c) hp2 TT hc i
 have hB1:=hB i hic
 obtain ⟨Sp,hSp⟩:∃ Sp,cQ p TT [aP c c] i=Sp:=⟨_,rfl⟩
 have hsucc:i + 1≤c→cQ p TT [aP c c] (i + 1)=Sp.flatMap fun s=>gx p s (TT.getD i []):=fun _=>by rw [cQ,hSp]
 rw [hSp] at hso hB1 hQ
 have hQl:Q.length=Sp.length:=by rw [← hQ,List.length_map]
 refine qm ?_
 refine ab fun K hK=>aa ae ?_
 simp only [ak,fl,gp,aj,simprocAttr]
 refine af trivial (hK _ ?_)<;>clear hK K
 refine qa (qm ?_)
 refine an rfl (fun hC4=>?_) (fun hC4=>?_)
 ·(try simp only [aI] at hC4)
  have hicl:i < c:=by omega
  have hsucc:=hsucc hicl
  obtain ⟨Mi,hMi⟩:∃ Mi,TT.getD i []=Mi:=⟨_,rfl⟩
  obtain ⟨hm1,hm2,hm3⟩:=hT1 i hicl
  rw [hMi] at hm1 hm2 hm3 hsucc
  have hB2:=hB (i + 1) hicl
  rw [hsucc] at hB2
  refine qh (qa (qm (ql (qm ?_))))
  refine ab fun K hK=>aa ae ?_
  simp only [ak,fl,gp,aj,simprocAttr]
  refine af trivial (hK _ ?_)<;>clear hK K
  refine qa (qm ?_)
  refine ab fun K hK=>aa ae ?_
  simp only [ak,fl,gp,aj,simprocAttr]
  refine af trivial (hK _ ?_)<;>clear hK K
  refine qa (qm (qm ?_))
  refine bT 15 rfl ?_
  refine ab fun K hK=>aa ae ?_
  simp only [ak,fl,gp,aj,simprocAttr]
  refine af trivial (hK _ ?_)<;>clear hK K
  refine qa (ql ?_)
  refine aA (ι:=Nat × aw × Nat × List (Nat × List (List Int))) (fun x=>⟨241,[(1,.ptr 0 0),(4,.ptr 1 0),(6,.p (.list (ll L))),(7,.p (.int .i64 c)),(8,.p (.list (A7 TT))),(9,.p (.int .i64 p)),(14,.p (.int .i64 i)),(15,.sl x.2.2.1 0 x.2.2.2.length),(70,.p (.int .i64 c)),(71,.p (.int .i64 i)),(74,.sl κ 0 Q.length),(75,.p (.int .i64 Q.length)),(76,.p (.int .i64 x.1))],x.2.1⟩) (fun x=>x.1≤Q.length∧xE n m c x.2.1 κ x.2.2.1 (Q.drop x.1) Q x.2.2.2∧x.2.2.2.map Prod.snd=(Sp.take x.1).flatMap fun s=>gx p s Mi) (fun x=>Q.length - x.1) (0,H++[.own []],H.length,[]) ⟨Nat.zero_le _,hi2.start,rfl⟩ (List.range (H.length + 1)) (bP (by simp) rfl rfl hi2.start.wf (by
   have:=hi2.lt
   have:=hi2.k2
   simp [St.get,lk,bb,br]<;>omega)) fun x hx=>?_
  obtain ⟨j,H',κ2,Q2⟩:=x
  obtain ⟨hjQ,hi3,hQ2⟩:=hx
  simp only at hjQ hi3 hQ2
  refine qm ?_
  refine ab fun K hK=>aa ae ?_
  simp only [ak,fl,gp,aj,simprocAttr]
  refine af trivial (hK _ ?_)<;>clear hK K
  refine qa (qm ?_)
  refine an rfl (fun hC5=>?_) (fun hC5=>?_)
  ·(try simp only [aI] at hC5)
   have hjl:j < Q.length:=by omega
   obtain ⟨P,s,hx⟩:∃ P s,Q.getD j (0,[])=(P,s):=⟨_,_,rfl⟩
   have hdr:Q.drop j=(P,s) :: Q.drop (j + 1):=by
    rw [List.drop_eq_getElem_cons hjl,← hx]; simp [List.getD,List.getElem?_eq_getElem hjl]
   have hsm:s∈Sp:=by
    rw [← hQ]
    refine List.mem_map.2 ⟨(P,s),?_,rfl⟩
    rw [← hx]; exact aC hjl
   have hss:=hso s hsm
   have ew:=hss.le
   have hsp:=hss.pos
   have hcell:=wG hjl
   rw [hx] at hcell
   rw [hdr] at hi3
   have hchk:=hi3.sp.ch (P,s) (by simp)
   have hlen:=hi3.len
   have hbd:=hi3.sp.bd (P,s) (by simp)
   have hbo:=hi3.bo (P,s) (by simp)
   simp only at hchk hbd hbo
   have htk:Sp.take (j + 1)=Sp.take j++[s]:=by
    rw [List.take_succ_eq_append_getElem (by omega)]
    congr 2
    have:Sp[j]'(by omega)=(Q[j]'hjl).2:=by simp [← hQ]
    rw [this]
    have:Q[j]'hjl=(P,s):=by rw [← hx]; simp [List.getD,List.getElem?_eq_getElem hjl]
    rw [this]
   have hkl:=hi3.kl
   have hk2:=hi3.k2
   have hsd:Sp=Sp.take j++s :: Sp.drop (j + 1):=by
    rw [← List.singleton_append,← List.append_assoc,← htk,List.take_append_drop]
   have hQ2l:Q2.length + (gx p s Mi).length≤1000:=by
    have e1:Q2.length=((Sp.take j).flatMap fun s=>gx p s Mi).length:=by rw [← hQ2,List.length_map]
    rw [hsd,List.flatMap_append,List.flatMap_cons,List.length_append,List.length_append,← e1] at hB2
    omega
   have hnx:∀ N:List (Nat × List (List Int)),N.map Prod.snd=gx p s Mi→(Q2++N).map Prod.snd=(Sp.take (j + 1)).flatMap fun s=>gx p s Mi:=fun N hN=>by
    rw [List.map_append,hQ2,hN,htk,List.flatMap_append,List.flatMap_cons,List.flatMap_nil,List.append_nil]
   have hqt:List.take Q2.length (gU Q2)=gU Q2:=List.take_of_length_le (by rw [gB]; exact Nat.le_refl _)
   have hgk:∀ y,aq (H'++y) κ2 = .own (gU Q2):=fun y=>by rw [aF (by omega)]; exact hi3.hd2
   have hgn:=fun y=>a8 H' y
   refine qh (qa (qm (ql (qm ?_))))
   refine ab fun K hK=>aa ae ?_
   simp only [ak,fl,gp,aj,simprocAttr,hi3.hd,gB,hcell]
   refine af ?_ (hK _ ?_)<;>clear hK K
   ·omega
   refine qa ?_
   by_cases hs1:s.length=1
   ·refine ab fun K hK=>aa ae ?_
    simp only [ak,fl,gp,aj,simprocAttr,nM (show i < TT.length by omega),hMi,ny,hgk,hgn,hqt,gB,List.length_append]
    refine ao ?_ (z6 (x:=s) (P:=P) (mv:=.list (ll Mi)) hchk hs1 rfl rfl rfl (by simp only [ay,Nat.reduceLT]) (aa ae ?_))
    ·omega
    simp only [gy,iL,aE,List.take_succ_cons,List.take_zero,List.drop_succ_cons,List.drop_zero,List.range',aL.bl,bl,bu,List.map_cons,List.map_nil,List.cons_append,List.nil_append,List.append_nil,List.length_cons,List.length_nil,ak,fl,gp,aj,simprocAttr,nM (show i < TT.length by omega),hMi,ny,hgk,hgn,hqt,gB,List.length_append]
    refine af ?_ (hK _ ?_)<;>clear hK K
    ·exact ⟨tZ _,by omega,by omega,by omega⟩
    refine qd (qa ?_)
    refine ab fun K hK=>aa ae ?_
    simp only [ak,fl,gp,aj,simprocAttr]
    refine af ?_ (hK _ ?_)<;>clear hK K
    ·first|exact trivial|omega|(simp only [ah] at *; omega)|(simp [ah] at *; omega)|simp_all
    refine qa ?_
    have hst:=hi3.one hs1
    refine ⟨(j + 1,_,H'.length + 1,Q2++[(P,s)]),List.range (H'.length + 2),⟨by simp only; omega,hst,hnx _ (by rw [gx,if_pos hs1]; rfl)⟩,by simp only; omega,bP (by rw [hst.len]) rfl rfl hst.wf (by
     simp [St.get,lk,bb,br]<;>omega)⟩
   obtain ⟨Out,hOut⟩:∃ Out,gx p s Mi=Out:=⟨_,rfl⟩
   have hspc:=AS hp2 hp hc (by omega) s Mi hs1 (by omega) hss.row hss.rg hm1 hm2 hm3
   rw [hOut] at hspc hQ2l hnx
   refine sJ 17 P (P + 1) s.length rfl hss.row rfl (.inl (by omega)) hchk.1 hchk.2 fun H1 a1 a2 a3=>?_
   have a1' : H1.length=H'.length:=a1
   have hgk:∀ y,aq (H1++y) κ2 = .own (gU Q2):=fun y=>by
    rw [aF (by omega),a2 κ2 (by omega) (by omega)]; exact hi3.hd2
   have hgn:∀ y Y,aq (H1++(y :: Y)) H1.length=y:=fun y Y=>by rw [aY (Nat.le_refl _),Nat.sub_self]; rfl
   have hot:List.take Out.length (gU (gl (H1.length + 1) Out))=gU (gl (H1.length + 1) Out):=List.take_of_length_le (by rw [gB,k9]; exact Nat.le_refl _)
   refine ab fun K hK=>aa ae ?_
   simp only [ak,fl,gp,aj,simprocAttr,nM (show i < TT.length by omega),hMi,ny,hgk,hgn,hqt,hot,gB,k9,List.length_append,List.length_cons,List.length_map,cC]
   refine ao ?_ (An (x:=s) (mm:=Mi) hspc rfl rfl rfl (by simp only [ay,Nat.reduceLT]) (aa ae ?_))
   ·omega
   simp only [gy,iL,aE,List.take_succ_cons,List.take_zero,List.drop_succ_cons,List.drop_zero,List.range',aL.bl,bl,bu,List.map_cons,List.map_nil,List.cons_append,List.nil_append,List.append_nil,List.length_cons,List.length_nil,ak,fl,gp,aj,simprocAttr,nM (show i < TT.length by omega),hMi,ny,hgk,hgn,hqt,hot,gB,k9,List.length_append,List.length_cons,List.length_map,cC]
   refine af ?_ (hK _ ?_)<;>clear hK K
   ·exact ⟨Nat.le_refl _,tZ _,tZ _,by omega,by omega,by omega⟩
   refine qd (qa ?_)
   refine ab fun K hK=>aa ae ?_
   simp only [ak,fl,gp,aj,simprocAttr]
   refine af ?_ (hK _ ?_)<;>clear hK K
   ·first|exact trivial|omega|(simp only [ah] at *; omega)|(simp [ah] at *; omega)|simp_all
   refine qa ?_
   have hst:=hi3.many a1' a2 a3 Out
   refine ⟨(j + 1,_,H1.length + (1 + cR Out),Q2++gl (H1.length + 1) Out),List.range (H1.length + (1 + cR Out) + 1),⟨by simp only; omega,hst,hnx _ (sg _ _)⟩,by simp only; omega,bP (by rw [hst.len]) rfl rfl hst.wf (by
    simp [St.get,lk,bb,br,k9]<;>omega)⟩
  (try simp only [aI] at hC5)
  have hjl:j=Q.length:=by omega
  rw [hjl,List.drop_length] at hi3
  have hi2':=hi3.end
  have hQ3:Q2.map Prod.snd=cQ p TT [aP c c] (i + 1):=by rw [hsucc,hQ2,hjl,hQl,List.take_length]
  refine qj (qc (qc (qf (qa ?_))))
  refine ab fun K hK=>aa ae ?_
  simp only [ak,fl,gp,aj,simprocAttr]
  refine af trivial (hK _ ?_)<;>clear hK K
  refine qd (qa ?_)
  refine ab fun K hK=>aa ae ?_
  simp only [ak,fl,gp,aj,simprocAttr]
  refine af ?_ (hK _ ?_)<;>clear hK K
  ·first|exact trivial|omega|(simp only [ah] at *; omega)|(simp [ah] at *; omega)|simp_all
  refine qa ?_
  have:=hi2'.lt
  have:=hi2'.k2
  refine ⟨(i + 1,H',κ2,Q2),List.range H'.length,⟨by simp only; omega,hi2',hQ3⟩,by simp only; omega,bP rfl rfl rfl hi2'.wf (by
   simp [St.get,lk,bb,br]<;>omega)⟩
 (try simp only [aI] at hC4)
 have hic2:i=c:=by omega
 rw [hic2] at hSp
 rw [hSp] at hD hne ⊢
 refine qj (qc (qc (qf (qa (qm ?_)))))
 refine ab fun K hK=>aa ae ?_
 simp only [ak,fl,gp,aj,simprocAttr,hi2.b0]
 refine ao trivial (al (hwh) rfl rfl rfl (by simp only [ay,Nat.reduceLT]) (by repeat (first|exact trivial|constructor)) (aa ae ?_))
 simp only [ak,fl,gp,aj,simprocAttr,hi2.b0]
 refine af ?_ (hK _ ?_)<;>clear hK K
 ·first|exact trivial|omega|(simp only [ah] at *; omega)|(simp [ah] at *; omega)|simp_all
 refine qa (qm ?_)
 refine ab fun K hK=>aa ae ?_
 simp only [ak,fl,gp,aj,simprocAttr]
 refine af trivial (hK _ ?_)<;>clear hK K
 refine qa (qm (qm ?_))
 refine bT 19 rfl ?_
 refine ab fun K hK=>aa ae ?_
 simp only [ak,fl,gp,aj,simprocAttr]
 refine af trivial (hK _ ?_)<;>clear hK K
 refine qa (ql ?_)
 refine aA (ι:=Nat × aw × Nat) (fun x=>⟨241,[(1,.ptr 0 0),(4,.ptr 1 0),(6,.p (.list (ll L))),(7,.p (.int .i64 c)),(9,.p (.int .i64 p)),(18,.p (.list (il WL))),(19,.sl x.2.2 0 x.1),(95,.sl κ 0 Q.length),(96,.p (.int .i64 Q.length)),(97,.p (.int .i64 x.1))],x.2.1⟩) (fun x=>x.1≤Q.length∧GZ n m c x.2.1 κ x.2.2 (Q.drop x.1) Q ((Sp.take x.1).map (ng p n o c J S))) (fun x=>Q.length - x.1) (0,H++[.own []],H.length) ⟨Nat.zero_le _,hi2.out⟩ (List.range (H.length + 1)) (bP (by simp) rfl rfl hi2.out.wf (by
  have:=hi2.lt
  have:=hi2.k2
  simp [St.get,lk,bb,br]<;>omega)) fun x hx=>?_
 obtain ⟨t,H',κ3⟩:=x
 obtain ⟨htQ,hi4⟩:=hx
 simp only at htQ hi4
 refine qm ?_
 refine ab fun K hK=>aa ae ?_
 simp only [ak,fl,gp,aj,simprocAttr]
 refine af trivial (hK _ ?_)<;>clear hK K
 refine qa (qm ?_)
 refine an rfl (fun hC6=>?_) (fun hC6=>?_)
 ·(try simp only [aI] at hC6)
  have htl:t < Q.length:=by omega
  obtain ⟨P,s,hx⟩:∃ P s,Q.getD t (0,[])=(P,s):=⟨_,_,rfl⟩
  have hdr:Q.drop t=(P,s) :: Q.drop (t + 1):=by
   rw [List.drop_eq_getElem_cons htl,← hx]; simp [List.getD,List.getElem?_eq_getElem htl]
  have hsm:s∈Sp:=by
   rw [← hQ]
   refine List.mem_map.2 ⟨(P,s),?_,rfl⟩
   rw [← hx]; exact aC htl
  have hss:=hso s hsm
  have hsp:=hss.pos
  have hcell:=wG htl
  rw [hx] at hcell
  rw [hdr] at hi4
  have hchk:=hi4.sp.ch (P,s) (by simp)
  have hlen:=hi4.len
  have hbd:=hi4.sp.bd (P,s) (by simp)
  simp only at hchk hbd
  have htk:(Sp.take (t + 1)).map (ng p n o c J S)=(Sp.take t).map (ng p n o c J S)++[ng p n o c J S s]:=by
   rw [List.take_succ_eq_append_getElem (by omega),List.map_append]
   congr 2
   have:Sp[t]'(by omega)=(Q[t]'htl).2:=by simp [← hQ]
   simp only [List.map_cons,List.map_nil,this]
   have:Q[t]'htl=(P,s):=by rw [← hx]; simp [List.getD,List.getElem?_eq_getElem htl]
   rw [this]
  have hkl:=hi4.kl
  have hk2:=hi4.k2
  have hR0:=hchk.1
  have hR1:=hchk.2 0 hsp
  rw [Nat.add_zero] at hR1
  obtain ⟨w0,hw0⟩:∃ w0,s.getD 0 []=w0:=⟨_,rfl⟩
  have hw0l:w0.length=c:=by rw [← hw0]; exact hss.row _ (aC hsp)
  have hw0g:ed p w0:=by rw [← hw0]; exact hss.rg _ (aC hsp)
  rw [hw0] at hR1
  obtain ⟨kk,hkk⟩:∃ kk,dP p (w0.getD o 0)=kk:=⟨_,rfl⟩
  have hkr:0≤kk∧kk < p:=by rw [← hkk]; exact lC hp2 _
  have hPl:P + 1 < H'.length:=by omega
  refine qh (qa (qm (ql (qm ?_))))
  refine ab fun K hK=>aa ae ?_
  simp only [ak,fl,gp,aj,simprocAttr,hi4.hd,gB,hcell]
  refine af ?_ (hK _ ?_)<;>clear hK K
  ·omega
  refine qa (qm ?_)
  refine ab fun K hK=>aa ae ?_
  simp only [ak,fl,gp,aj,simprocAttr,hR0,bt,lz hsp,Nat.zero_add]
  refine af ?_ (hK _ ?_)<;>clear hK K
  ·omega
  refine qa (qm ?_)
  refine ab fun K hK=>aa ae ?_
  simp only [ak,fl,gp,aj,simprocAttr,hi4.b0,hR1,aW (show e < WL.length by rw [hWl]; exact h.2.2.el),hWo,bK (show o < w0.length by omega)]
  refine ao ?_ (al (nA h) rfl rfl rfl (by simp only [ay,Nat.reduceLT]) (by repeat (first|exact trivial|constructor)) (aa ae ?_))
  ·first|exact trivial|omega|(simp only [ah] at *; omega)|(simp [ah] at *; omega)|simp_all
  simp only [ak,fl,gp,aj,simprocAttr,hi4.b0,hR1,aW (show e < WL.length by rw [hWl]; exact h.2.2.el),hWo,bK (show o < w0.length by omega)]
  refine ao ?_ (al (th hp2 hp (hw0g o).1 (by have:=(hw0g o).2; omega)) rfl rfl rfl (by simp only [ay,Nat.reduceLT]) (by repeat (first|exact trivial|constructor)) (aa ae ?_))
  ·have:=h.2.2.el
   omega
  simp only [ak,fl,gp,aj,simprocAttr,hkk,hi4.b0,hR1,aW (show e < WL.length by rw [hWl]; exact h.2.2.el),hWo,bK (show o < w0.length by omega)]
  refine af ?_ (hK _ ?_)<;>clear hK K
  ·first|exact trivial|omega|(simp only [ah] at *; omega)|(simp [ah] at *; omega)|simp_all
  refine qa (qm (qm ?_))
  refine ab fun K hK=>aa ae ?_
  simp only [ak,fl,gp,aj,simprocAttr]
  refine af trivial (hK _ ?_)<;>clear hK K
  refine qa (ql ?_)
  obtain ⟨F,hF⟩:∃ F:List Int→aw,F=fun v=>aE H' (P + 1) (.own (ol v)):=⟨_,rfl⟩
  have hFl:∀ v,(F v).length=H'.length:=fun v=>by rw [hF]; exact dM _ _ _
  have hFg:∀ v,aq (F v) (P + 1) = .own (ol v):=fun v=>by rw [hF]; simp only; rw [aT,if_pos ⟨rfl,hPl⟩]
  have hFo:∀ v j,j ≠ P + 1→aq (F v) j=aq H' j:=fun v j hj=>by rw [hF]; simp only; rw [aT,if_neg (fun h=>hj h.1)]
  have hFs:∀ v u,aE (F v) (P + 1) (.own (ol u))=F u:=fun v u=>by rw [hF]; simp only [cZ,List.set_set]
  have hF0:F w0=H':=by rw [hF]; exact my hR1 hPl
  have hFw:∀ v,tT (F v):=fun v=>by rw [hF]; exact k7 hi4.wf _ (fW _ _)
  have hFb0:∀ v,aq (F v) 0 = .own [.p (.int .i64 n),.p (.list (il m))]:=fun v=>by rw [hFo v 0 (by omega)]; exact hi4.b0
  refine aA (ι:=Nat) (fun i=>⟨241,[(1,.ptr 0 0),(4,.ptr 1 0),(6,.p (.list (ll L))),(7,.p (.int .i64 c)),(9,.p (.int .i64 p)),(18,.p (.list (il WL))),(19,.sl κ3 0 t),(22,.sl (P + 1) 0 c),(23,.p (.int .i64 kk)),(95,.sl κ 0 Q.length),(96,.p (.int .i64 Q.length)),(97,.p (.int .i64 t)),(115,.p (.int .i64 c)),(116,.p (.int .i64 i))],F (cO (Ai p kk w0) 0 i w0)⟩) (fun i=>i≤c) (fun i=>c - i) 0 (Nat.zero_le _) (List.range H'.length) (bP rfl rfl (by rw [di,hF0]) hi4.wf (by
   simp [St.get,lk,bb,br]<;>omega)) fun i hi=>?_
  obtain ⟨y,hy⟩:∃ y,cO (Ai p kk w0) 0 i w0=y:=⟨_,rfl⟩
  have hyl:y.length=c:=by rw [← hy,bF,hw0l]
  rw [hy]
  refine qm ?_
  refine ab fun K hK=>aa ae ?_
  simp only [ak,fl,gp,aj,simprocAttr]
  refine af trivial (hK _ ?_)<;>clear hK K
  refine qa (qm ?_)
  refine an rfl (fun hC7=>?_) (fun hC7=>?_)
  ·(try simp only [aI] at hC7)
   have hic3:i < c:=by omega
   have hyi:y.getD i 0=w0.getD i 0:=by rw [← hy,df (by omega),if_neg (by omega)]
   have hst:y.set i (w0.getD i 0 * kk % (p:Int))=cO (Ai p kk w0) 0 (i + 1) w0:=by
    rw [← hy]; exact gu (f:=Ai p kk w0) (Nat.zero_le i) (by omega)
   have hm1:=jj hp (hw0g i).1 (hw0g i).2 hkr.1 hkr.2
   have htm:Int.tmod (w0.getD i 0 * kk) p=w0.getD i 0 * kk % p:=Int.tmod_eq_emod_of_nonneg hm1.1
   refine qh (qa (qm (ql (qm ?_))))
   refine ab fun K hK=>aa ae ?_
   simp only [ak,fl,gp,aj,simprocAttr]
   refine af trivial (hK _ ?_)<;>clear hK K
   refine qa ?_
   refine ab fun K hK=>aa ae ?_
   simp only [ak,fl,gp,aj,simprocAttr,hFg,bK (show i < y.length by omega),hyi,htm,eK,hFs,hst]
   refine af ?_ (hK _ ?_)<;>clear hK K
   ·simp only [ah] at *; omega
   refine qd (qa ?_)
   refine ab fun K hK=>aa ae ?_
   simp only [ak,fl,gp,aj,simprocAttr]
   refine af ?_ (hK _ ?_)<;>clear hK K
   ·first|exact trivial|omega|(simp only [ah] at *; omega)|(simp [ah] at *; omega)|simp_all
   refine qa ?_
   refine ⟨i + 1,List.range H'.length,by omega,by omega,bP (hFl _) rfl rfl (hFw _) (by
    simp [St.get,lk,bb,br]<;>omega)⟩
  (try simp only [aI] at hC7)
  have hic3:i=c:=by omega
  have hye:vo p o s=y:=by rw [vo,hw0,hkk,← hy,Ap,hw0l,hic3]
  have hyg:ed p y:=by rw [← hye]; exact um (by omega) (by rw [hw0]; exact hw0g)
  have hDs:=hD s hsm
  rw [hye] at hDs
  refine qj (qc (qc (qf (qa (qm ?_)))))
  refine ab fun K hK=>aa ae ?_
  simp only [ak,fl,gp,aj,simprocAttr]
  refine af trivial (hK _ ?_)<;>clear hK K
  refine qa (qm (qm ?_))
  refine ab fun K hK=>aa ae ?_
  simp only [ak,fl,gp,aj,simprocAttr,au,hLl]
  refine af trivial (hK _ ?_)<;>clear hK K
  refine qa (ql ?_)
  refine aA (ι:=Nat) (fun i=>⟨241,[(1,.ptr 0 0),(4,.ptr 1 0),(6,.p (.list (ll L))),(7,.p (.int .i64 c)),(9,.p (.int .i64 p)),(18,.p (.list (il WL))),(19,.sl κ3 0 t),(22,.sl (P + 1) 0 c),(25,.p (.int .i64 (tq p y J S i))),(95,.sl κ 0 Q.length),(96,.p (.int .i64 Q.length)),(97,.p (.int .i64 t)),(131,.p (.list (ll L))),(132,.p (.int .i64 c)),(133,.p (.int .i64 i))],F y⟩) (fun i=>i≤c) (fun i=>c - i) 0 (Nat.zero_le _) (List.range H'.length) (bP (hFl _) rfl rfl (hFw _) (by
   simp [St.get,lk,bb,br,tq]<;>omega)) fun i hi=>?_
  refine qm ?_
  refine ab fun K hK=>aa ae ?_
  simp only [ak,fl,gp,aj,simprocAttr]
  refine af trivial (hK _ ?_)<;>clear hK K
  refine qa (qm ?_)
  refine an rfl (fun hC8=>?_) (fun hC8=>?_)
  ·(try simp only [aI] at hC8)
   have hic4:i < c:=by omega
   obtain ⟨x,x1,x2,x3,x4,x5,x6,x7⟩:=hL0 i hic4
   obtain ⟨Ci,hCi⟩:∃ Ci,L.getD i []=Ci:=⟨_,rfl⟩
   rw [hCi] at x2 x5
   have hsm0:0≤tq p y J S i∧tq p y J S i < p:=by
    cases i with
    | zero=>simp only [tq]; omega
    | succ i=>exact bC (by omega) _
   have m1:=jj hp (hyg i).1 (hyg i).2 (hyg (J i)).1 (hyg (J i)).2
   have r1:=bC (p:=p) (by omega) (y.getD i 0 * y.getD (J i) 0)
   have t1:Int.tmod (y.getD i 0 * y.getD (J i) 0) p=y.getD i 0 * y.getD (J i) 0 % p:=Int.tmod_eq_emod_of_nonneg m1.1
   have r2:=lC hp2 (S i:Nat)
   have m2:=jj hp r1.1 r1.2 r2.1 r2.2
   have t2:Int.tmod (tq p y J S i + y.getD i 0 * y.getD (J i) 0 % p * dP p (S i:Nat)) p=tq p y J S (i + 1):=by
    rw [tq]; exact Int.tmod_eq_emod_of_nonneg (by omega)
   refine qh (qa (qm (ql (qm ?_))))
   refine ab fun K hK=>aa ae ?_
   simp only [ak,fl,gp,aj,simprocAttr,au,bD (show i < L.length by omega),hCi]
   refine af ?_ (hK _ ?_)<;>clear hK K
   ·omega
   refine qa (qm ?_)
   refine bf mixed (by kernel_rfl) fun K hK=>aa ae ?_
   simp only [ak,fl,gp,aj,simprocAttr,hFb0,aW (show 0 < Ci.length by omega),x2]
   refine ao ?_ (al (rA h x1) rfl rfl rfl (by simp only [ay,Nat.reduceLT]) (by repeat (first|exact trivial|constructor)) (aa ae ?_))
   ·omega
   simp only [ak,fl,gp,aj,simprocAttr,aW (show iv n (op m n) e x < WL.length by rw [hWl]; exact h.2.2.az x1),x3,hFb0,aW (show 0 < Ci.length by omega),x2]
   refine af ?_ (hK _ ?_)<;>clear hK K
   ·have:=h.2.2.az x1
    omega
   refine qa ?_
   refine bf mixed (by kernel_rfl) fun K hK=>aa ae ?_
   simp only [ak,fl,gp,aj,simprocAttr,hFg,bK (show i < y.length by omega),bK (show J i < y.length by omega),t1,aJ,x5]
   refine ao ?_ (al (th hp2 hp (a:=(S i:Nat)) (by omega) (by omega)) rfl rfl rfl (by simp only [ay,Nat.reduceLT]) (by repeat (first|exact trivial|constructor)) (aa ae ?_))
   ·simp only [ah] at *; omega
   simp only [ak,fl,gp,aj,simprocAttr,t2,hFg,bK (show i < y.length by omega),bK (show J i < y.length by omega),t1,aJ,x5]
   refine af ?_ (hK _ ?_)<;>clear hK K
   ·simp only [ah] at *; omega
   refine qd (qa ?_)
   refine ab fun K hK=>aa ae ?_
   simp only [ak,fl,gp,aj,simprocAttr]
   refine af ?_ (hK _ ?_)<;>clear hK K
   ·first|exact trivial|omega|(simp only [ah] at *; omega)|(simp [ah] at *; omega)|simp_all
   refine qa ?_
   refine ⟨i + 1,List.range H'.length,by omega,by omega,bP (hFl _) rfl rfl (hFw _) (by
    simp [St.get,lk,bb,br]<;>omega)⟩
  (try simp only [aI] at hC8)
  have hic4:i=c:=by omega
  rw [hic4]
  obtain ⟨sm,hsm⟩:∃ sm,tq p y J S c=sm:=⟨_,rfl⟩
  have hsm0:0≤sm∧sm < p:=by
   rw [← hsm]
   cases c with
   | zero=>omega
   | succ i=>exact bC (by omega) _
  rw [hsm] at hDs ⊢
  have r1:=bC (p:=p) (by omega) (n:Int)
  have t1:Int.tmod (n:Int) p=(n:Int) % p:=Int.tmod_eq_emod_of_nonneg (by omega)
  have r2:=lC hp2 sm
  have m2:=jj hp r1.1 r1.2 r2.1 r2.2
  have t2:Int.tmod ((n:Int) % p * dP p sm) p=EB p n sm:=Int.tmod_eq_emod_of_nonneg m2.1
  refine qj (qc (qc (qf (qa (qm ?_)))))
  refine bf mixed (by kernel_rfl) fun K hK=>aa ae ?_
  simp only [ak,fl,gp,aj,simprocAttr,hFb0,t1]
  refine ao ?_ (al (th hp2 hp hsm0.1 (by omega)) rfl rfl rfl (by simp only [ay,Nat.reduceLT]) (by repeat (first|exact trivial|constructor)) (aa ae ?_))
  ·omega
  simp only [ak,fl,gp,aj,simprocAttr,t2,hFb0,t1]
  refine af ?_ (hK _ ?_)<;>clear hK K
  ·simp only [ah] at *; omega
  refine qa (qm ?_)
  refine ab fun K hK=>aa ae ?_
  simp only [ak,fl,gp,aj,simprocAttr]
  refine af trivial (hK _ ?_)<;>clear hK K
  refine qa (qm (ql ?_))
  obtain ⟨sq,hsq⟩:∃ sq,EB p n sm=sq:=⟨_,rfl⟩
  rw [hsq] at hDs ⊢
  obtain ⟨D,hDp⟩:∃ D,bO (tW p sq) p=some D:=by
   obtain ⟨d,d1,d2⟩:=hDs
   cases hf:bO (tW p sq) p with
   | some D=>exact ⟨D,rfl⟩
   | none=>rw [ca hf d d1] at d2; cases d2
  obtain ⟨D1,D2,D3⟩:=cE hDp
  have hdg:pq p n o c J S s=D + 1:=by
   rw [pq,hye,hsm,hsq,GL,hDp]; rfl
  refine aA (ι:=Nat) (fun k=>⟨241,[(1,.ptr 0 0),(4,.ptr 1 0),(6,.p (.list (ll L))),(7,.p (.int .i64 c)),(9,.p (.int .i64 p)),(18,.p (.list (il WL))),(19,.sl κ3 0 t),(22,.sl (P + 1) 0 c),(29,.p (.int .i64 sq)),(30,.p (.int .i64 ((k:Int) + 1))),(95,.sl κ 0 Q.length),(96,.p (.int .i64 Q.length)),(97,.p (.int .i64 t))],F y⟩) (fun k=>k≤D) (fun k=>D - k) 0 (Nat.zero_le _) (List.range H'.length) (bP (hFl _) rfl rfl (hFw _) (by
   simp [St.get,lk,bb,br]<;>omega)) fun k hk=>?_
  have m3:(0:Int)≤((k:Int) + 1) * ((k:Int) + 1)∧((k:Int) + 1) * ((k:Int) + 1)≤1000000 * 1000000:=⟨Int.mul_nonneg (by omega) (by omega),Int.mul_le_mul (by omega) (by omega) (by omega) (by omega)⟩
  have t3:Int.tmod (((k:Int) + 1) * ((k:Int) + 1)) p=((k:Int) + 1) * ((k:Int) + 1) % p:=Int.tmod_eq_emod_of_nonneg m3.1
  refine qm (qm ?_)
  refine ab fun K hK=>aa ae ?_
  simp only [ak,fl,gp,aj,simprocAttr,t3]
  refine af ?_ (hK _ ?_)<;>clear hK K
  ·simp only [ah] at *; omega
  refine qa ?_
  refine an rfl (fun hC9=>?_) (fun hC9=>?_)
  ·(try simp only [aI] at hC9)
   have hdk:tW p sq k=false:=by unfold tW; exact decide_eq_false (by simpa using hC9)
   have hkD:k < D:=by
    refine Nat.lt_of_le_of_ne hk fun e=>?_
    rw [e,D2] at hdk; cases hdk
   refine qh (qa (ql ?_))
   refine ab fun K hK=>aa ae ?_
   simp only [ak,fl,gp,aj,simprocAttr]
   refine af ?_ (hK _ ?_)<;>clear hK K
   ·simp only [ah] at *; omega
   refine qd (qa ?_)
   refine ⟨k + 1,List.range H'.length,by omega,by omega,bP (hFl _) rfl rfl (hFw _) (by
    simp [St.get,lk,bb,br]<;>omega)⟩
  (try simp only [aI] at hC9)
  have hdk:tW p sq k=true:=by unfold tW; exact decide_eq_true (by simpa using hC9)
  have hkD:k=D:=by
   refine Nat.le_antisymm hk (Nat.le_of_not_lt fun hl=>?_)
   rw [D3 k hl] at hdk; cases hdk
  have hrT:ng p n o c J S s=((k:Int) + 1) :: xZ p y (k + 1) S c c:=by
   rw [ng,hye,hdg,hkD]; simp
  refine qj (qc (qc (qf (qa (qm ?_)))))
  refine ab fun K hK=>aa ae ?_
  simp only [ak,fl,gp,aj,simprocAttr,hFl,cg]
  refine af ?_ (hK _ ?_)<;>clear hK K
  ·first|exact trivial|omega|(simp only [ah] at *; omega)|(simp [ah] at *; omega)|simp_all
  refine qa (qm (qm ?_))
  refine ab fun K hK=>aa ae ?_
  simp only [ak,fl,gp,aj,simprocAttr,au,hLl]
  refine af trivial (hK _ ?_)<;>clear hK K
  refine qa (ql ?_)
  have hG:∀ z,aq (F y++[.own (ol z)]) H'.length = .own (ol z):=fun z=>by rw [← hFl y]; exact a8 _ _
  have hGs:∀ z u,aE (F y++[.own (ol z)]) H'.length (.own (ol u))=F y++[.own (ol u)]:=fun z u=>tH (hFl y) _ _
  have hGP:∀ z,aq (F y++z) (P + 1) = .own (ol y):=fun z=>by rw [aF (by rw [hFl]; exact hPl)]; exact hFg y
  have hGw:∀ z,tT (F y++[.own (ol z)]):=fun z=>fG (hFw _) fun b hb=>by rw [List.mem_singleton.1 hb]; exact fW _ _
  refine aA (ι:=Nat) (fun i=>⟨241,[(1,.ptr 0 0),(4,.ptr 1 0),(6,.p (.list (ll L))),(7,.p (.int .i64 c)),(9,.p (.int .i64 p)),(18,.p (.list (il WL))),(19,.sl κ3 0 t),(22,.sl (P + 1) 0 c),(30,.p (.int .i64 ((k:Int) + 1))),(31,.sl H'.length 0 c),(95,.sl κ 0 Q.length),(96,.p (.int .i64 Q.length)),(97,.p (.int .i64 t)),(188,.p (.list (ll L))),(189,.p (.int .i64 c)),(190,.p (.int .i64 i))],F y++[.own (ol (xZ p y (k + 1) S c i))]⟩) (fun i=>i≤c) (fun i=>c - i) 0 (Nat.zero_le _) (List.range (H'.length + 1)) (bP (by simp [hFl]) rfl (by rw [xZ,di]) (by rw [← di (Dr p y (k + 1) S) 0 (List.replicate c 0)]; exact hGw _) (by
   simp [St.get,lk,bb,br]<;>omega)) fun i hi=>?_
  obtain ⟨z,hz⟩:∃ z,xZ p y (k + 1) S c i=z:=⟨_,rfl⟩
  have hzl:z.length=c:=by rw [← hz,xZ,bF,List.length_replicate]
  rw [hz]
  refine qm ?_
  refine ab fun K hK=>aa ae ?_
  simp only [ak,fl,gp,aj,simprocAttr]
  refine af trivial (hK _ ?_)<;>clear hK K
  refine qa (qm ?_)
  refine an rfl (fun hC10=>?_) (fun hC10=>?_)
  ·(try simp only [aI] at hC10)
   have hic5:i < c:=by omega
   obtain ⟨x,x1,x2,x3,x4,x5,x6,x7⟩:=hL0 i hic5
   obtain ⟨Ci,hCi⟩:∃ Ci,L.getD i []=Ci:=⟨_,rfl⟩
   rw [hCi] at x2 x5
   have hst:z.set i (y.getD i 0 * ((k:Int) + 1) % (p:Int) * dP p (S i:Nat) % (p:Int))=xZ p y (k + 1) S c (i + 1):=by
    rw [← hz]
    have h0:=gu (f:=Dr p y (k + 1) S) (u:=List.replicate c 0) (Nat.zero_le i) (by rw [List.length_replicate]; exact hic5)
    show (cO (Dr p y (k + 1) S) 0 i (List.replicate c 0)).set i _=cO (Dr p y (k + 1) S) 0 (i + 1) (List.replicate c 0)
    rw [← h0]; simp [Dr]
   have hyi:=hyg i
   have m4:(0:Int)≤y.getD i 0 * ((k:Int) + 1)∧y.getD i 0 * ((k:Int) + 1)≤1000000 * 1000000:=⟨Int.mul_nonneg (by omega) (by omega),Int.mul_le_mul (by omega) (by omega) (by omega) (by omega)⟩
   have t4:Int.tmod (y.getD i 0 * ((k:Int) + 1)) p=y.getD i 0 * ((k:Int) + 1) % p:=Int.tmod_eq_emod_of_nonneg m4.1
   have r4:=bC (p:=p) (by omega) (y.getD i 0 * ((k:Int) + 1))
   have r5:=lC hp2 (S i:Nat)
   have m5:=jj hp r4.1 r4.2 r5.1 r5.2
   have t5:Int.tmod (y.getD i 0 * ((k:Int) + 1) % p * dP p (S i:Nat)) p=y.getD i 0 * ((k:Int) + 1) % p * dP p (S i:Nat) % p:=Int.tmod_eq_emod_of_nonneg m5.1
   refine qh (qa (qm (ql (qm ?_))))
   refine ab fun K hK=>aa ae ?_
   simp only [ak,fl,gp,aj,simprocAttr,au,bD (show i < L.length by omega),hCi]
   refine af ?_ (hK _ ?_)<;>clear hK K
   ·omega
   refine qa ?_
   refine bf mixed (by kernel_rfl) fun K hK=>aa ae ?_
   simp only [ak,fl,gp,aj,simprocAttr,hGP,hG,hGs,bK (show i < y.length by omega),t4,aJ,x5]
   refine ao ?_ (al (th hp2 hp (a:=(S i:Nat)) (by omega) (by omega)) rfl rfl rfl (by simp only [ay,Nat.reduceLT]) (by repeat (first|exact trivial|constructor)) (aa ae ?_))
   ·simp only [ah] at *; omega
   simp only [ak,fl,gp,aj,simprocAttr,t5,eK,hst,hGP,hG,hGs,bK (show i < y.length by omega),t4,aJ,x5]
   refine af ?_ (hK _ ?_)<;>clear hK K
   ·simp only [ah] at *; omega
   refine qd (qa ?_)
   refine ab fun K hK=>aa ae ?_
   simp only [ak,fl,gp,aj,simprocAttr]
   refine af ?_ (hK _ ?_)<;>clear hK K
   ·first|exact trivial|omega|(simp only [ah] at *; omega)|(simp [ah] at *; omega)|simp_all
   refine qa ?_
   refine ⟨i + 1,List.range (H'.length + 1),by omega,by omega,bP (by simp [hFl]) rfl rfl (hGw _) (by
    simp [St.get,lk,bb,br]<;>omega)⟩
  (try simp only [aI] at hC10)
  have hic5:i=c:=by omega
  rw [hic5] at hz
  rw [hz] at hrT
  have hztk:List.take c z=z:=List.take_of_length_le (by omega)
  obtain ⟨R,hR⟩:∃ R,(Sp.take t).map (ng p n o c J S)=R:=⟨_,rfl⟩
  have hRl:R.length=t:=by rw [← hR,List.length_map,List.length_take]; omega
  rw [hR] at hi4 htk
  have hRt:List.take t (bE (ll R))=bE (ll R):=List.take_of_length_le (by rw [bB,au]; omega)
  have hRo:(bE (ll R)).length=t:=by rw [bB,au,hRl]
  have hA2:∀ a b d,aq (F y++[a]++[b]++[d]) (H'.length + 1 + 1)=d:=fun a b d=>GI (hFl y) a b d
  have hA0:∀ a b d,aq (F y++[a]++[b]++[d]) κ3 = .own (bE (ll R)):=fun a b d=>by
   rw [ES (by rw [hFl]; omega),hFo y κ3 (by omega)]; exact hi4.ho
  refine qj (qc (qc (qf (qa ?_))))
  refine ab fun K hK=>aa ae ?_
  simp only [ak,fl,gp,aj,simprocAttr,hG,hFl,hztk,hzl,hA2,hA0,hRt,hRo,List.length_append]
  refine ao ?_ (eM (cu ae rfl rfl rfl rfl rfl rfl) rfl (by simp only [ay,Nat.reduceLT]) (aa ae ?_))
  ·first|exact trivial|omega|(simp only [ah] at *; omega)|(simp [ah] at *; omega)|simp_all
  simp only [ak,fl,gp,aj,simprocAttr,hG,hFl,hztk,hzl,hA2,hA0,hRt,hRo,List.length_append]
  refine af ?_ (hK _ ?_)<;>clear hK K
  ·and_intros<;>first|exact oB _|exact Dc _|omega|rfl|(simp; done)
  refine qd (qa ?_)
  obtain ⟨G1,hG1⟩:∃ G1,aE (F y++[.own (ol z)]++[.own (.p (.int .i64 ((k:Int) + 1)) :: ol z)]++[.own [.sl (H'.length + 1) 0 (1 + c)]]) κ3 .dead++[.own (bE (ll R)++[.sl (H'.length + 1) 0 (1 + c)])]=G1:=⟨_,rfl⟩
  rw [hG1]
  have hS1l:(F y++[.own (ol z)]++[.own (.p (.int .i64 ((k:Int) + 1)) :: ol z)]++[.own [.sl (H'.length + 1) 0 (1 + c)]]:aw).length=H'.length + 3:=by simp [hFl]
  have hG1l:G1.length=H'.length + 4:=by rw [← hG1,List.length_append,dM,hS1l]; rfl
  have hG1g:∀ j,j < H'.length + 3→j ≠ κ3→aq G1 j=aq (F y++[.own (ol z)]++[.own (.p (.int .i64 ((k:Int) + 1)) :: ol z)]++[.own [.sl (H'.length + 1) 0 (1 + c)]]) j:=fun j j1 j2=>by
   rw [← hG1,aF (by rw [dM,hS1l]; exact j1),aT,if_neg (fun h=>j2 h.1)]
  have hG1h:aq G1 (H'.length + 3) = .own (bE (ll R)++[.sl (H'.length + 1) 0 (1 + c)]):=by
   rw [← hG1]
   have:=a8 (aE (F y++[.own (ol z)]++[.own (.p (.int .i64 ((k:Int) + 1)) :: ol z)]++[.own [.sl (H'.length + 1) 0 (1 + c)]]) κ3 .dead) (.own (bE (ll R)++[.sl (H'.length + 1) 0 (1 + c)]))
   rwa [dM,hS1l] at this
  have hG1r:aq G1 (H'.length + 1) = .own (ol (((k:Int) + 1) :: z)):=by
   rw [hG1g _ (by omega) (by omega)]
   exact F9 (hFl y) _ _ _
  have hG1w:tT G1:=by
   rw [← hG1]
   refine fG (k7 (fG (fG (fG (hFw y) fun b hb=>?_) fun b hb=>?_) fun b hb=>?_) _ rfl) fun b hb=>?_
   ·rw [List.mem_singleton.1 hb]; exact fW _ _
   ·rw [List.mem_singleton.1 hb]; exact fW (((k:Int) + 1) :: z) _
   ·rw [List.mem_singleton.1 hb]; simp [ew,bb,br,hFl]
   rw [List.mem_singleton.1 hb]
   show ((bE (ll R)++[AV.sl (H'.length + 1) 0 (1 + c)]).all _)=true
   rw [List.all_append,lX,Bool.true_and,dM,hS1l]
   simp [bb,br]
  refine cJ (H'.length + 1) (s:=⟨_,_,G1⟩) hG1r (jP _) ?_
  have hrl:(il (((k:Int) + 1) :: z)).length=1 + c:=by rw [aJ,List.length_cons,hzl,Nat.add_comm]
  have hg2:aq (aE G1 (H'.length + 1) (.fro (il (((k:Int) + 1) :: z)))) (H'.length + 3) = .own (bE (ll R)++[.sl (H'.length + 1) 0 (1 + c)]):=by rw [aT,if_neg (by omega)]; exact hG1h
  have hpk:dB (aE G1 (H'.length + 1) (.fro (il (((k:Int) + 1) :: z)))) (.sl (H'.length + 1) 0 (1 + c))=some (0 + (1 + c)≤(il (((k:Int) + 1) :: z)).length∧(((il (((k:Int) + 1) :: z)).drop 0).take (1 + c)).all PV.one=true,.list (((il (((k:Int) + 1) :: z)).drop 0).take (1 + c)),true):=by
   have e0:aq (aE G1 (H'.length + 1) (.fro (il (((k:Int) + 1) :: z)))) (H'.length + 1) = .fro (il (((k:Int) + 1) :: z)):=by rw [aT,if_pos ⟨rfl,by omega⟩]
   simp only [dB,e0]
  rw [List.drop_zero,List.take_of_length_le (show (il (((k:Int) + 1) :: z)).length≤1 + c by omega)] at hpk
  refine n8 (H'.length + 3) t (s:=⟨_,_,aE G1 (H'.length + 1) (.fro (il (((k:Int) + 1) :: z)))⟩) hg2 (by rw [List.getElem?_append_right (by omega),hRo,Nat.sub_self]; rfl) hpk ⟨by omega,gL _⟩ ?_
  have he:(bE (ll R)++[AV.sl (H'.length + 1) 0 (1 + c)]).set t (.p (.list (il (((k:Int) + 1) :: z))))=bE (ll (R++[((k:Int) + 1) :: z])):=by
   rw [List.set_append_right _ _ (by omega),hRo,Nat.sub_self,List.set_cons_zero,kQ,cB]
  rw [he]
  have hnx:=hi4.next hsp (R':=R++[((k:Int) + 1) :: z]) (G:=aE (aE G1 (H'.length + 1) (.fro (il (((k:Int) + 1) :: z)))) (H'.length + 3) (.own (bE (ll (R++[((k:Int) + 1) :: z]))))) (by rw [dM,dM,hG1l]) (k7 (k7 hG1w _ rfl) _ (lX _ _)) (fun j j1 j2 j3=>by
   rw [aT,if_neg (by omega),aT,if_neg (by omega),hG1g j (by omega) j2,ES (by rw [hFl]; exact j1),hFo y j j3]) (by rw [aT,if_pos ⟨rfl,by rw [dM,hG1l]; omega⟩])
  rw [hrT] at htk
  refine ab fun K hK=>aa ae ?_
  simp only [ak,fl,gp,aj,simprocAttr]
  refine af ?_ (hK _ ?_)<;>clear hK K
  ·first|exact trivial|omega|(simp only [ah] at *; omega)|(simp [ah] at *; omega)|simp_all
  refine qa ?_
  refine ⟨(t + 1,_,H'.length + 3),List.range (H'.length + 4),⟨by simp only; omega,by simp only; rw [htk]; exact hnx⟩,by simp only; omega,bP (by rw [hnx.len]) rfl rfl hnx.wf (by
   simp [St.get,lk,bb,br]<;>omega)⟩
 (try simp only [aI] at hC6)
 have htl:t=Q.length:=by omega
 obtain ⟨R,hR⟩:∃ R,(Sp.take t).map (ng p n o c J S)=R:=⟨_,rfl⟩
 have hRS:Sp.map (ng p n o c J S)=R:=by rw [← hR,htl,hQl,List.take_length]
 rw [hR] at hi4
 have hRl:R.length=t:=by rw [← hRS,List.length_map,← hQl,htl]
 have hR1:∀ v∈R,v.length=c + 1:=fun v hv=>by
  rw [← hRS] at hv
  obtain ⟨s,_,rfl⟩:=List.mem_map.1 hv
  simp [ng,xZ,bF]
 have hRne:R ≠ []:=by rw [← hRS]; simpa using hne
 have hsp:=lY R
 obtain ⟨Z,hZ⟩:∃ Z,yr R=Z:=⟨_,rfl⟩
 have hst:=mF R
 rw [hZ] at hsp hst
 have hZl:Z.length=t:=by rw [← hsp.length_eq,hRl]
 have hZ1:∀ v∈Z,v.length=c + 1:=fun v hv=>hR1 v (hsp.mem_iff.2 hv)
 have hQ1k:Q.length≤1000:=by omega
 have htab:xS p n o c J S Sp=Z.map (·.drop 1):=by rw [xS,hRS,hZ]
 rw [htab]
 refine qj (qc (qc (qf (qa (qm ?_)))))
 refine C7 [1,κ3] (s1:=⟨241,[(4,.ptr 0 0),(9,.p (.int .i64 p)),(19,.sl 1 0 (ll R).length)],[.own [.p (.int .i64 0),.p (.int .i64 0)],.own (bE (ll R))]⟩) (mG rfl (by simp; have:=hi4.kl; have:=hi4.k2; omega) rfl (fun j hj=>?_) (by simp [jY,St.get,lk,Go.Pv.bl,bu,bb,br,au,hRl])) ?_
 ·match j,hj with
  | 0,_=>exact rK (l:=[.int .i64 0,.int .i64 0]) hi4.b1
  | 1,_=>exact rK hi4.ho
 refine ab fun K hK=>aa ae ?_
 simp only [ak,fl,gp,aj,simprocAttr]
 refine ao ?_ (nZ [1] (BB hRne (by omega) (fun v hv=>by rw [hR1 v hv]; omega) hsp hst) rfl rfl ?_ (by simp only [bh,ak,fl,gp,aj,simprocAttr]; first|trivial|(simp only [bk]; first|trivial|(repeat constructor; done))|(repeat constructor)) (by decide) (by first|rfl|(simp only [List.length_cons,List.length_nil,List.length_append]; decide)) (by first|rfl|(simp only [Ds,lX,List.all_cons,List.all_nil,List.length_cons,List.length_nil]; first|rfl|decide)|(simp [Ds,bb,br,dh,kF]; done)) (by simp only [ay,Nat.reduceLT]) (aa ae ?_))
 ·first|exact trivial|omega|(simp only [ah] at *; omega)|(simp [ah] at *; omega)|simp_all
 ·(simp only [sE,AY,dK,dB,bb,br,bl,bu,List.map_cons,List.map_nil,List.append_nil,List.cons_append,List.nil_append,cy,ak,fl,gp,aj,simprocAttr]; try trivial)
 simp only [gy,aE,List.range',aL.bl,bl,bu,List.map_cons,List.map_nil,List.cons_append,List.nil_append,List.append_nil,List.length_cons,List.length_nil,ak,fl,gp,aj,simprocAttr]
 refine af trivial (hK _ ?_)<;>clear hK K
 refine qa (qm (qm ?_))
 refine ab fun K hK=>aa ae ?_
 simp only [ak,fl,gp,aj,simprocAttr,au,hRl,hZl]
 refine af trivial (hK _ ?_)<;>clear hK K
 refine qa (ql ?_)
 refine aA (ι:=Nat) (fun i=>⟨241,[(4,.ptr 0 0),(9,.p (.int .i64 p)),(19,.sl 1 0 t),(224,.sl 1 0 t),(225,.p (.int .i64 t)),(226,.p (.int .i64 i))],[.own [.p (.int .i64 0),.p (.int .i64 0)],.own (bE (ll (ra Z i)))]⟩) (fun i=>i≤t) (fun i=>t - i) 0 (Nat.zero_le _) [0,1] (by rw [A0]; simp only [leq,bh,ak,fl,gp,aj,simprocAttr]<;>first|trivial|(rw [bk]; done)|(simp [kp,au,hZl,hRl]; done)|skip) fun i hi=>?_
 have hdl:=Cd Z i
 refine qm ?_
 refine ab fun K hK=>aa ae ?_
 simp only [ak,fl,gp,aj,simprocAttr]
 refine af trivial (hK _ ?_)<;>clear hK K
 refine qa (qm ?_)
 refine an rfl (fun hC11=>?_) (fun hC11=>?_)
 ·(try simp only [aI] at hC11)
  have hit:i < t:=by omega
  have hgi:(ra Z i).getD i []=Z.getD i []:=by rw [C0 (by omega),if_neg (by omega)]
  have hzi:(Z.getD i []).length=c + 1:=hZ1 _ (aC (by omega))
  have hse:=B4 (Z:=Z) (i:=i) (by omega)
  refine qh (qa (qm (ql (qm ?_))))
  refine ab fun K hK=>aa ae ?_
  simp only [ak,fl,gp,aj,simprocAttr]
  refine af trivial (hK _ ?_)<;>clear hK K
  refine qa ?_
  refine ab fun K hK=>aa ae ?_
  simp only [ak,fl,gp,aj,simprocAttr,bB,au,hdl,hZl,CQ (show i < (ra Z i).length by omega),hgi,CT,hse]
  refine af ?_ (hK _ ?_)<;>clear hK K
  ·omega
  refine qd (qa ?_)
  refine ab fun K hK=>aa ae ?_
  simp only [ak,fl,gp,aj,simprocAttr]
  refine af ?_ (hK _ ?_)<;>clear hK K
  ·simp only [ah] at *; omega
  refine qa ?_
  refine ⟨i + 1,[0,1],by omega,by omega,?_⟩
  simp only [leq,bh,ak,fl,gp,aj,simprocAttr]<;>first|trivial|omega|(rw [bk]; done)|skip
 (try simp only [aI] at hC11)
 have hit:i=t:=by omega
 have hde:ra Z i=Z.map (·.drop 1):=by rw [hit,← hZl,Bv]
 rw [hde]
 refine qj (qc (qc (qf (qa (qm ?_)))))
 refine ab fun K hK=>aa ae ?_
 simp only [ak,fl,gp,aj,simprocAttr]
 refine af ?_ (hK _ ?_)<;>clear hK K
 ·first|exact trivial|omega|(simp only [ah] at *; omega)|(simp [ah] at *; omega)|simp_all
 refine qa (qk ?_)
 simp only [Tryd.results11,cy,ak,fl,gp,aj,simprocAttr]
 have hdm:(Z.map (·.drop 1)).length=t:=by rw [List.length_map,hZl]
 have htk:List.take t (ll (Z.map (·.drop 1)))=ll (Z.map (·.drop 1)):=List.take_of_length_le (by rw [au,hdm]; exact Nat.le_refl _)
 rw [htk]
 exact ⟨⟨by omega,js _⟩,rfl⟩
end Go.Proofs.YtjlmpmidchddjaaDoor
namespace Go.Proofs.YtjlmpmidchddjaaDoor
open Lean.Grind
attribute [local instance] Lean.Grind.Semiring.natCast Lean.Grind.Ring.intCast
section
variable {n e:Nat} {m:List Int}
def kU (m:List Int) (n e:Nat):List (List Int):=eu n (bV n (op m n) e)
def aX (m:List Int) (n e:Nat):Nat:=(kU m n e).length
def bX (m:List Int) (n e a:Nat):Nat:=(CI (kU m n e) (a:Nat)).toNat
def qK (m:List Int) (n e i:Nat):Nat:=(mem n (lead (bV n (op m n) e))).getD i 0
def cV (m:List Int) (n e i:Nat):Nat:=((kU m n e).getD i []).length
def gE (m:List Int) (n e:Nat):List (List (List Int)):=(List.range (aX m n e)).map fun i=>iR (aX m n e) (ct n (op m n) e i)
def aG (m:List Int) (n e:Nat):Nat:=yf (bn m n e n) n
def kz (m:List Int) (n e i:Nat):Nat:=bX m n e (iv n (op m n) e (qK m n e i))
theorem yx (h:GT n m n e) {i:Nat} (hi:i < aX m n e):qK m n e i < n∧(kU m n e).getD i []=dI n (bV n (op m n) e (qK m n e i))∧lead (bV n (op m n) e) (qK m n e i)=true:=by
 obtain ⟨x,x1,x2,x3,x4⟩:=iB (n:=n) (r:=bV n (op m n) e) (i:=i) hi
 have e1:qK m n e i=x:=x4
 rw [e1]
 exact ⟨x1,x3,x2⟩
theorem iT (h:GT n m n e) {a i:Nat} (ha:a < n) (hi:i < aX m n e):bX m n e a=i↔bV n (op m n) e (qK m n e i) a=true:=by
 have E:=h.2.2.fL
 obtain ⟨x1,x2,x3⟩:=yx h hi
 constructor
 ·intro hc
  obtain ⟨j,j1,j2⟩:=q6 E ha
  have h1:=oc E j1 ha j2
  have:bX m n e a=j:=by unfold bX kU; rw [h1]; simp
  have hij:j=i:=by omega
  subst hij
  have h2:((a:Nat):Int)∈(kU m n e).getD j []:=j2
  rw [x2,eG ha] at h2
  exact h2
 intro hc
 have h2:((a:Nat):Int)∈(eu n (bV n (op m n) e)).getD i []:=by
  show _∈(kU m n e).getD i []
  rw [x2,eG ha]; exact hc
 have h1:=oc E hi ha h2
 unfold bX kU
 rw [h1]; simp
theorem dm (h:GT n m n e) {a:Nat} (ha:a < n):bX m n e a < aX m n e∧CI (kU m n e) (a:Nat)=(bX m n e a:Int):=by
 have E:=h.2.2.fL
 obtain ⟨j,j1,j2⟩:=q6 E ha
 have h1:=oc E j1 ha j2
 have h2:bX m n e a=j:=by unfold bX kU; rw [h1]; simp
 rw [h2]
 exact ⟨j1,h1⟩
theorem sY (h:GT n m n e):GC n (op m n) e (aX m n e) (bX m n e) (qK m n e) where
 G:=h.2.2
 lt a ha:=(dm h ha).1
 xl i hi:=(yx h hi).1
 cx i hi:=(iT h (yx h hi).1 hi).2 (h.2.2.fL.refl _ (yx h hi).1)
 cj a b ha hb:=by
  have E:=h.2.2.fL
  obtain ⟨l1,_⟩:=dm h ha
  have h1:=(iT h ha l1).1 rfl
  have hx:=(yx h l1).1
  rw [← dR (n:=n) (f:=op m n) (e:=e)]
  constructor
  ·intro hab
   have h2:=(iT h hb l1).1 hab.symm
   exact E.trans _ _ _ ha hx hb (E.symm _ _ hx ha h1) h2
  intro hab
  exact ((iT h hb l1).2 (E.trans _ _ _ hx ha hb h1 hab)).symm
theorem ir (h:GT n m n e) {i:Nat} (hi:i < aX m n e):0 < cV m n e i∧cV m n e i≤n∧((kU m n e).getD i []).getD 0 0=(qK m n e i:Int):=by
 obtain ⟨x1,x2,x3⟩:=yx h hi
 obtain ⟨l1,l2⟩:=(jG x1).1 x3
 unfold cV
 rw [x2]
 exact ⟨l1,j6 _ _,l2⟩
theorem o9 (h:GT n m n e):PF (aG m n e)∧2 * n < aG m n e∧aG m n e≤20000:=by
 have hd:=eX h n (Nat.le_refl _)
 obtain ⟨a,b,_⟩:=yg h.2.1.pos h.2.1.big hd
 exact ⟨F3 (Fg h.2.1.pos h.2.1.big hd),a,b⟩
theorem tI (h:GT n m n e) {a:Nat} (ha:a < n):ord n (op m n) e a ∣ bn m n e n:=by
 have:∀ k,a < k→ord n (op m n) e a ∣ bn m n e k:=fun k=>by
  induction k with
  | zero=>intro hk; omega
  | succ k ih =>
   intro hk
   by_cases e1:a=k
   ·subst e1; exact Nat.dvd_lcm_right _ _
   exact Nat.dvd_trans (ih (by omega)) (Nat.dvd_lcm_left _ _)
 exact this n ha
theorem AW (h:GT n m n e) {a:Nat} (ha:a < n):pw (op m n) e a (aG m n e)=a:=by
 have G:=h.2.2
 have h1:=(G.lS ha (bn m n e n)).2 (tI h ha)
 unfold aG yf
 rw [G.eE ha,G.lM ha,h1,G.xY,G.qT ha,G.one_l a ha]
variable {K:Type} [CommRing K]
theorem Ab (l:List Nat):sl l (fun _=>(1:K))=(l.length:Nat):=by
 induction l with
 | nil=>exact Semiring.natCast_zero.symm
 | cons x l ih=>rw [cm,ih,List.length_cons]; grind
theorem Gf (q:Nat→Bool):(((dI n q).length:Nat):K)=sm (fun g=>if q g=true then 1 else 0) n:=by
 have:(dI n q).length=((List.range n).filter q).length:=by unfold dI jS; rw [List.length_map]
 rw [this,← Ab,jA,cD]
theorem rL (h:GT n m n e) {i:Nat} (hi:i < aX m n e):rQ K n (bX m n e) i=(cV m n e i:Nat):=by
 unfold rQ cV
 rw [(yx h hi).2.1,Gf]
 unfold sC
 refine ai fun g hg=>?_
 by_cases hgi:bX m n e g=i
 ·rw [if_pos hgi,if_pos ((iT h hg hi).1 hgi)]
 rw [if_neg hgi,if_neg fun hh=>hgi ((iT h hg hi).2 hh)]
theorem HH (l:List Nat) (q q' : Nat→Bool):((((l.filter q).countP q'):Nat):K)=sl l fun g=>if q g=true then (if q' g=true then 1 else 0) else 0:=by
 rw [← jA,List.countP_eq_length_filter,← Ab,jA]
theorem El (h:GT n m n e) {i j k:Nat} (hi:i < aX m n e) (hj:j < aX m n e) (hk:k < aX m n e):bN (K:=K) ((gE m n e).getD i []) j k=gM K n (op m n) e (bX m n e) (qK m n e) i j k:=by
 have e1:(gE m n e).getD i []=iR (aX m n e) (ct n (op m n) e i):=by simp [gE,List.getD,List.getElem?_map,List.getElem?_range hi]
 have e2:(iR (aX m n e) (ct n (op m n) e i)).getD j []=lN (aX m n e) (ct n (op m n) e i j):=ve hj
 unfold bN vc
 rw [e1,e2,jB hk]
 have e3:ct n (op m n) e i j k=(((kU m n e).getD i []).countP (fun x=>decide (cw n (op m n) e k x=(j:Int))):Nat):=by
  show tcp ((kU m n e).getD i []) _ ((kU m n e).getD i []).length j=_
  unfold tcp
  rw [List.take_length]
 rw [e3,Ring.intCast_natCast,(yx h hi).2.1]
 have e4:(dI n (bV n (op m n) e (qK m n e i))).countP (fun x=>decide (cw n (op m n) e k x=(j:Int)))=((List.range n).filter (bV n (op m n) e (qK m n e i))).countP fun g=>decide (cw n (op m n) e k ((g:Nat):Int)=(j:Int)):=by
  unfold dI jS
  rw [List.countP_map]; rfl
 rw [e4,HH,cD]
 unfold gM sC
 refine ai fun g hg=>?_
 have hx:=(yx h hk).1
 have hpr:=h.2.2.cl _ _ (h.2.2.az hg) hx
 have hw:cw n (op m n) e k ((g:Nat):Int)=(bX m n e (op m n (iv n (op m n) e g) (qK m n e k)):Int):=by
  rw [← (dm h hpr).2]
  unfold cw kU qK
  rw [Int.toNat_natCast]
 by_cases hgi:bX m n e g=i
 ·rw [if_pos hgi,if_pos ((iT h hg hi).1 hgi),hw]
  show _=if bX m n e (op m n (iv n (op m n) e g) (qK m n e k))=j then (1:K) else 0
  by_cases hj2:bX m n e (op m n (iv n (op m n) e g) (qK m n e k))=j
  ·rw [if_pos hj2,if_pos (by rw [hj2]; simp)]
  rw [if_neg hj2,if_neg (by simp only [decide_eq_true_eq]; omega)]
 rw [if_neg hgi,if_neg fun hh=>hgi ((iT h hg hi).2 hh)]
end
theorem kG {n e : Nat} {m : List Int} (h : GT n m n e) [NeZero (aG m n e)] : ko (Fin (aG m n e)) (aG m n e) n (op m n) e (aX m n e) (bX m n e) (qK m n e) (gE m n e) (fun i => ((dP (aG m n e) (cV m n e i : Nat) : Int) : Fin (aG m n e))) := by
  obtain ⟨P, p1, p2⟩ := o9 h
  have R := Dg P.toPG
  have hb := h.2.1.pos
  exact {
    C := sY h
    R := R
    nz := Cu n (by omega) (by omega)
    cz := Cu
    io := fun i hi => by
      obtain ⟨s1, s2, _⟩ := ir h hi
      have := R.toRd.inv (x := (cV m n e i : Nat)) (by omega) (by omega)
      rw [rL h hi]
      rwa [R.eu] at this
    pw := fun a ha => AW h ha
    len := fun i hi => by
      have e1 : (gE m n e).getD i [] = iR (aX m n e) (ct n (op m n) e i) := by simp [gE, List.getD, List.getElem?_map, List.getElem?_range hi]
      rw [e1, dQ]
    yk := fun i j k hi hj hk => El h hi hj hk }
end Go.Proofs.YtjlmpmidchddjaaDoor
namespace Go.Proofs.YtjlmpmidchddjaaDoor
open Lean.Grind
attribute [local instance] Lean.Grind.Semiring.natCast Lean.Grind.Ring.intCast
section
variable {n e c:Nat} {f:Nat→Nat→Nat} {cI xx:Nat→Nat} {K:Type} [CommRing K] {p:Nat} {TT:List (List (List Int))} {io:Nat→K} {lam:Nat→Nat→K}
theorem GC.Hr (h:GC n f e c cI xx) {a b:Nat} (ha:a < n) (hb:b < n):cI a=cI b↔cI (iv n f e a)=cI (iv n f e b):=by
 have G:=h.G
 have key:∀ a b,a < n→b < n→cI a=cI b→cI (iv n f e a)=cI (iv n f e b):=fun a b ha hb hab=>by
  obtain ⟨y,hy,rfl⟩:=(h.cj a b ha hb).1 hab
  refine (h.cj _ _ (G.az ha) (G.az hb)).2 ⟨y,hy,?_⟩
  rw [G.bM (G.cl _ _ (G.az hy) ha) hy,G.bM (G.az hy) ha,G.cN hy,G.assoc _ _ _ (G.az hy) (G.az ha) hy]
 refine ⟨key a b ha hb,fun hab=>?_⟩
 have:=key _ _ (G.az ha) (G.az hb) hab
 rwa [G.cN ha,G.cN hb] at this
theorem GC.HD (h:GC n f e c cI xx) {i:Nat} (hi:i < c):rQ K n cI (cI (iv n f e (xx i)))=rQ K n cI i:=by
 unfold rQ sC
 rw [← h.w9 fun g=>if cI g=cI (iv n f e (xx i)) then (1:K) else 0]
 refine ai fun g hg=>?_
 have:=h.Hr hg (h.xl i hi)
 rw [h.cx i hi] at this
 by_cases hgi:cI g=i
 ·rw [if_pos (this.1 hgi),if_pos hgi]
 rw [if_neg (fun hh=>hgi (this.2 hh)),if_neg hgi]
theorem ko.HR (h:ko K p n f e c cI xx TT io) {i:Nat} (hi:i < c):io (cI (iv n f e (xx i)))=io i:=by
 have h1:=h.io i hi
 have h2:=h.io _ (h.C.lt _ (h.C.G.az (h.C.xl i hi)))
 rw [h.C.HD hi] at h2
 grind
theorem ko.F1 (h:ko K p n f e c cI xx TT io) {t t' : Nat→K} (ht:pd n cI t) (ht' : pd n cI t'):bY n f e t t' e=sm (fun i=>rQ K n cI i * (t (xx i) * t' (iv n f e (xx i)))) c:=by
 have G:=h.C.G
 have hcl:pd n cI fun z=>t z * t' (iv n f e z):=fun a b ha hb hab=>by
  show t a * t' (iv n f e a)=t b * t' (iv n f e b)
  rw [ht a b ha hb hab,ht' _ _ (G.az ha) (G.az hb) ((h.C.Hr ha hb).1 hab)]
 have e1:bY n f e t t' e=sm (fun z=>t z * t' (iv n f e z)) n:=by
  unfold bY
  exact ai fun z hz=>by rw [G.one_l z hz]
 rw [e1,← h.C.Ij]
 exact ai fun i hi=>h.C.CB hcl hi
theorem FZ (h:ko K p n f e c cI xx TT io) (v:Nat→K) {i:Nat} (hi:i < c):bz cI io v (xx i)=v i * io i:=by
 unfold bz; rw [h.C.cx i hi]
theorem Dv (h:ko K p n f e c cI xx TT io) (v:Nat→K) {i:Nat} (hi:i < c):bz cI io v (iv n f e (xx i))=v (cI (iv n f e (xx i))) * io i:=by
 unfold bz; rw [h.HR hi]
theorem C5.sum (h:ko K p n f e c cI xx TT io) (v v' : Nat→K):bY n f e (bz cI io v) (bz cI io v') e=sm (fun i=>v i * v' (cI (iv n f e (xx i))) * io i) c:=by
 rw [h.F1 (h.DM v) (h.DM v')]
 refine ai fun i hi=>?_
 rw [FZ h v hi,Dv h v' hi]
 have:=h.io i hi
 grind
theorem C5.H8 (h:ko K p n f e c cI xx TT io) (Fm:C5 K p n f e c cI TT io lam) {d:Nat→K} (hd:∀ q,q < c→d q * d q * bY n f e (bz cI io (lam q)) (bz cI io (lam q)) e=(n:K)) {i j:Nat} (hi:i < c) (hj:j < c) :
  sm (fun q=>(d q * lam q j * io j) * (d q * lam q (cI (iv n f e (xx i))) * io i)) c=if i=j then (n:K) * io j else 0:=by
 have G:=h.C.G
 obtain ⟨a,ha⟩:=Fm.all (fun k=>if k=i then 1 else 0) fun k hk=>if_neg (by omega)
 have hT:∀ z,z < n→(if cI z=i then io i else 0)=sm (fun q=>a q * bz cI io (lam q) z) c:=fun z hz=>by
  have h2:=ha (cI z)
  have h4:sm (fun q=>a q * bz cI io (lam q) z) c=(if cI z=i then 1 else 0) * io (cI z):=by
   rw [h2,← bI]; exact ai fun q _=>by unfold bz; grind
  rw [h4]
  by_cases Dn:cI z=i
  ·rw [if_pos Dn,if_pos Dn,Dn]; grind
  rw [if_neg Dn,if_neg Dn]; grind
 have haq:∀ q,q < c→a q * bY n f e (bz cI io (lam q)) (bz cI io (lam q)) e=bz cI io (lam q) (iv n f e (xx i)):=fun q hq=>by
  have e1:sm (fun z=>(if cI z=i then io i else 0) * bz cI io (lam q) (iv n f e z)) n=bz cI io (lam q) (iv n f e (xx i)):=by
   have hcl:pd n cI fun z=>io i * bz cI io (lam q) (iv n f e z):=fun a b ha hb hab=>by
    show io i * bz cI io (lam q) (iv n f e a)=io i * bz cI io (lam q) (iv n f e b)
    rw [h.DM (lam q) _ _ (G.az ha) (G.az hb) ((h.C.Hr ha hb).1 hab)]
   have e2:sm (fun z=>(if cI z=i then io i else 0) * bz cI io (lam q) (iv n f e z)) n=sC n cI i fun z=>io i * bz cI io (lam q) (iv n f e z):=by
    unfold sC
    exact ai fun z _=>by split<;>grind
   rw [e2,h.C.CB hcl hi]
   have:=h.io i hi
   grind
  rw [← e1]
  have e3:sm (fun z=>(if cI z=i then io i else 0) * bz cI io (lam q) (iv n f e z)) n=sm (fun q'=>a q' * bY n f e (bz cI io (lam q')) (bz cI io (lam q)) e) c:=by
   have e4:sm (fun z=>(if cI z=i then io i else 0) * bz cI io (lam q) (iv n f e z)) n=sm (fun z=>sm (fun q'=>a q' * (bz cI io (lam q') z * bz cI io (lam q) (iv n f e z))) c) n:=ai fun z hz=>by
    rw [hT z hz,← bI]; exact ai fun q' _=>by grind
   rw [e4,aU]
   refine ai fun q' _=>?_
   rw [aK]
   unfold bY
   congr 1
   exact ai fun z hz=>by rw [G.one_l z hz]
  rw [e3,ba hq fun q' hq' hne=>by rw [Fm.ort q' q hq' hq hne]; grind]
 have e1:∀ q,q < c→(d q * lam q j * io j) * (d q * lam q (cI (iv n f e (xx i))) * io i)=(n:K) * io j * (a q * lam q j):=fun q hq=>by
  have h2:=haq q hq
  rw [Dv h (lam q) hi] at h2
  have h3:=hd q hq
  have h4:(d q * lam q j * io j) * (d q * lam q (cI (iv n f e (xx i))) * io i)=d q * d q * (lam q (cI (iv n f e (xx i))) * io i) * (lam q j * io j):=by grind
  rw [h4,← h2]
  have h5:d q * d q * (a q * bY n f e (bz cI io (lam q)) (bz cI io (lam q)) e) * (lam q j * io j)=(d q * d q * bY n f e (bz cI io (lam q)) (bz cI io (lam q)) e) * (a q * lam q j * io j):=by grind
  rw [h5,h3]; grind
 rw [ai e1,aK,← ha j]
 by_cases hij:i=j
 ·rw [if_pos hij,if_pos hij.symm]; grind
 rw [if_neg hij,if_neg (fun hh=>hij hh.symm)]; grind
end
section
variable {K:Type} [CommRing K] {p:Nat}
theorem Dq (R:Rd K p) (w:List Int) (J S:Nat→Nat):∀ i,((tq p w J S i:Int):K)=sm (fun t=>vc w t * vc w (J t) * ((dP p (S t:Nat):Int):K)) i
 | 0=>Ring.intCast_zero
 | i + 1=>by
  rw [tq,R.mod,Ring.intCast_add,Ring.intCast_mul,R.mod,Ring.intCast_mul,Dq R w J S i]; rfl
theorem Bx {w:List Int} {d:Nat} {S:Nat→Nat} {c i:Nat} (hi:i < c):(xZ p w d S c c).getD i 0=Dr p w d S i:=by
 unfold xZ
 rw [df (by simpa using hi),if_pos ⟨Nat.zero_le _,hi⟩]
theorem Db (R:Rp K p) {w:List Int} {d:Nat} {S:Nat→Nat} {c i:Nat} (hi:i < c):(vc (xZ p w d S c c) i:K)=vc w i * (d:K) * ((dP p (S i:Nat):Int):K):=by
 unfold vc
 rw [Bx hi,Dr,R.toRd.mod,Ring.intCast_mul,R.toRd.mod,Ring.intCast_mul,R.eu]
end
structure Hv (n e:Nat) (m:List Int) [NeZero (aG m n e)] (lam:Nat→Nat→Fin (aG m n e)) (q:Nat) (s:List (List Int)):Prop where
 w:(vc (vo (aG m n e) (bX m n e e) s):Nat→Fin (aG m n e))=lam q
 sq:∃ d,d < aG m n e∧tW (aG m n e) (EB (aG m n e) n (tq (aG m n e) (vo (aG m n e) (bX m n e e) s) (kz m n e) (cV m n e) (aX m n e))) d=true
 dd:((pq (aG m n e) n (bX m n e e) (aX m n e) (kz m n e) (cV m n e) s:Nat):Fin (aG m n e)) * ((pq (aG m n e) n (bX m n e e) (aX m n e) (kz m n e) (cV m n e) s:Nat):Fin (aG m n e)) * bY n (op m n) e (bz (bX m n e) (fun i=>((dP (aG m n e) (cV m n e i:Nat):Int):Fin (aG m n e))) (lam q)) (bz (bX m n e) (fun i=>((dP (aG m n e) (cV m n e i:Nat):Int):Fin (aG m n e))) (lam q)) e=(n:Nat)
 mn:∀ v:Nat,1≤v→v < aG m n e→bY n (op m n) e (bz (bX m n e) (fun i=>((dP (aG m n e) (cV m n e i:Nat):Int):Fin (aG m n e))) (lam q)) (bz (bX m n e) (fun i=>((dP (aG m n e) (cV m n e i:Nat):Int):Fin (aG m n e))) (lam q)) e * (((v:Nat):Fin (aG m n e)) * ((v:Nat):Fin (aG m n e)))=(n:Nat)→pq (aG m n e) n (bX m n e e) (aX m n e) (kz m n e) (cV m n e) s≤v
theorem rJ {n e:Nat} {m:List Int} (h:GT n m n e) [NeZero (aG m n e)] {lam:Nat→Nat→Fin (aG m n e)} (Fm:C5 (Fin (aG m n e)) (aG m n e) n (op m n) e (aX m n e) (bX m n e) (gE m n e) (fun i=>((dP (aG m n e) (cV m n e i:Nat):Int):Fin (aG m n e))) lam) {q:Nat} (hq:q < aX m n e) :
  Hv n e m lam q ((cQ (aG m n e) (gE m n e) [aP (aX m n e) (aX m n e)] (aX m n e)).getD q []):=by
 have H:=kG h
 obtain ⟨P,hP1,hP2⟩:=o9 h
 have R:=H.R
 have hn1:=h.2.1.pos
 have hoc:=(dm h h.2.2.el).1
 have ho:=lK (p:=aG m n e) (c:=aX m n e) R.two (gE m n e) H.zY (aX m n e) _ (aC (d:=[]) (show q < (cQ (aG m n e) (gE m n e) [aP (aX m n e) (aX m n e)] (aX m n e)).length by rw [Fm.len]; exact hq))
 have hspa:=Fm.spa q hq
 have hfst:=Fm.fst q hq
 have hnz:=Fm.nz q hq
 have hchr:=Fm.chr q hq
 have hsm:=C5.sum H (lam q) (lam q)
 have hJ:∀ i,kz m n e i=bX m n e (iv n (op m n) e (qK m n e i)):=fun i=>rfl
 generalize (cQ (aG m n e) (gE m n e) [aP (aX m n e) (aX m n e)] (aX m n e)).getD q []=s at *
 obtain ⟨p,hp⟩:∃ p,aG m n e=p:=⟨_,rfl⟩
 have hw0m:s.getD 0 []∈s:=aC ho.pos
 have hw0g:=ho.rg _ hw0m
 have hw0:∀ j,(vc (s.getD 0 []) j:Fin (aG m n e))=vc (s.getD 0 []) (bX m n e e) * lam q j:=fun j=>hspa _ (bA.get ho.pos) j
 have hone:¬ (s.getD 0 []).getD (bX m n e e) 0=0:=fun h0=>hfst (by
  show (vc (s.getD 0 []) (bX m n e e):Fin (aG m n e))=0
  rw [GH R.toRd hw0g]; exact h0)
 have hinv:=R.toRd.inv (hw0g (bX m n e e)) hone
 have hw:(vc (vo (aG m n e) (bX m n e e) s):Nat→Fin (aG m n e))=lam q:=by
  unfold vo
  rw [DD R.toRd]
  funext j
  rw [hw0 j]
  have h2:(vc (s.getD 0 []) (bX m n e e):Fin (aG m n e)) * ((dP (aG m n e) ((s.getD 0 []).getD (bX m n e e) 0):Int):Fin (aG m n e))=1:=hinv
  grind
 have hsumK:((tq (aG m n e) (vo (aG m n e) (bX m n e e) s) (kz m n e) (cV m n e) (aX m n e):Int):Fin (aG m n e))=bY n (op m n) e (bz (bX m n e) (fun i=>((dP (aG m n e) (cV m n e i:Nat):Int):Fin (aG m n e))) (lam q)) (bz (bX m n e) (fun i=>((dP (aG m n e) (cV m n e i:Nat):Int):Fin (aG m n e))) (lam q)) e:=by
  rw [Dq R.toRd,hw,hsm]
  exact ai fun i hi=>by rw [hJ]
 obtain ⟨sm0,hsm0⟩:∃ x,tq (aG m n e) (vo (aG m n e) (bX m n e e) s) (kz m n e) (cV m n e) (aX m n e)=x:=⟨_,rfl⟩
 obtain ⟨sK,hsK⟩:∃ x,bY n (op m n) e (bz (bX m n e) (fun i=>((dP (aG m n e) (cV m n e i:Nat):Int):Fin (aG m n e))) (lam q)) (bz (bX m n e) (fun i=>((dP (aG m n e) (cV m n e i:Nat):Int):Fin (aG m n e))) (lam q)) e=x:=⟨_,rfl⟩
 have hrng:0≤sm0∧sm0 < aG m n e:=by
  rw [← hsm0]
  have hc:=H.zY
  cases hcn:aX m n e with
  | zero=>omega
  | succ k=>exact bC (by omega) _
 have hodd:aG m n e=2 * ((aG m n e - 1) / 2) + 1:=by have:=P.odd; have:=P.three; omega
 have heu:=(sY h).FY R H.nz H.cz (fun a ha=>AW h ha) hchr hnz hodd
 rw [hsK] at heu hnz
 rw [hsm0,hsK] at hsumK
 have hsm00:¬ sm0=0:=fun h0=>hnz (by rw [← hsumK,h0]; exact Ring.intCast_zero)
 have hi2:=R.toRd.inv hrng hsm00
 rw [hsumK] at hi2
 obtain ⟨sq,hsq⟩:∃ x,EB (aG m n e) n sm0=x:=⟨_,rfl⟩
 have hsqr:0≤sq∧sq < aG m n e:=by rw [← hsq]; exact bC (by omega) _
 have hsqK:((sq:Int):Fin (aG m n e)) * sK=(n:Nat):=by
  rw [← hsq]
  unfold EB
  rw [R.toRd.mod,Ring.intCast_mul,R.toRd.mod,R.eu]
  grind
 obtain ⟨k,hk⟩:∃ k:Nat,sq=(k:Int):=⟨sq.toNat,by omega⟩
 have hkK:((k:Nat):Fin (aG m n e)) * sK=(n:Nat):=by rw [← hsqK,hk,R.eu]
 have hex:∃ d,d < aG m n e - 1∧(d + 1) * (d + 1) % aG m n e=k:=by
  refine P.eul k (by omega) ?_
  obtain ⟨x,hx,hxs⟩:=sU sK
  have hx0:¬ x % aG m n e=0:=fun h0=>hnz (by rw [← hxs]; exact (fz x).2 h0)
  have h3:=mB P.toPG hx0
  rw [hxs] at h3
  have h4:∀ j,(((k:Nat):Fin (aG m n e)) ^ j) * sK ^ (2 * j)=(((n:Nat):Fin (aG m n e)) * sK) ^ j:=fun j=>by
   induction j with
   | zero=>rw [Nat.mul_zero,Semiring.pow_zero,Semiring.pow_zero,Semiring.pow_zero]; grind
   | succ j ih =>
    rw [show 2 * (j + 1)=2 * j + 1 + 1 by omega,Semiring.pow_succ,Semiring.pow_succ,Semiring.pow_succ,Semiring.pow_succ,← ih,← hkK]; grind
  have h5:=h4 ((aG m n e - 1) / 2)
  rw [heu,show 2 * ((aG m n e - 1) / 2)=aG m n e - 1 by omega,h3] at h5
  have h6:((k ^ ((aG m n e - 1) / 2):Nat):Fin (aG m n e))=((1:Nat):Fin (aG m n e)):=by
   rw [Semiring.natCast_pow,sw P.three]; grind
  have h7:=xg h6
  rwa [Nat.mod_eq_of_lt (show 1 < aG m n e by have:=P.three; omega)] at h7
 have hdB:∀ d,tW (aG m n e) sq d=true↔(d + 1) * (d + 1) % aG m n e=k:=fun d=>by
  unfold tW
  rw [decide_eq_true_iff,hk]
  have:((d:Int) + 1) * ((d:Int) + 1) % ((aG m n e:Nat):Int)=(((d + 1) * (d + 1) % aG m n e:Nat):Int):=by simp
  rw [this]; omega
 have hmn:∀ v:Nat,1≤v→v < aG m n e→sK * (((v:Nat):Fin (aG m n e)) * ((v:Nat):Fin (aG m n e)))=(n:Nat)→pq (aG m n e) n (bX m n e e) (aX m n e) (kz m n e) (cV m n e) s≤v:=fun v v1 v2 v3=>by
  have e1:((v * v:Nat):Fin (aG m n e))=((k:Nat):Fin (aG m n e)):=by
   rw [Semiring.natCast_mul]
   obtain ⟨si,hsi⟩:=R.fld.1 _ hnz
   grind
  have e2:=xg e1
  rw [Nat.mod_eq_of_lt (show k < aG m n e by omega)] at e2
  have e3:tW (aG m n e) sq (v - 1)=true:=(hdB (v - 1)).2 (by rw [show v - 1 + 1=v by omega]; exact e2)
  have hch:pq (aG m n e) n (bX m n e e) (aX m n e) (kz m n e) (cV m n e) s=(bO (tW (aG m n e) sq) (aG m n e)).getD 0 + 1:=by
   unfold pq GL
   rw [hsm0,hsq]
  rw [hch]
  cases hf:bO (tW (aG m n e) sq) (aG m n e) with
  | none=>show 0 + 1≤v; omega
  | some D =>
   have h5:=(cE hf).2.2
   show D + 1≤v
   by_cases hlt:v - 1 < D
   ·have:=h5 _ hlt; rw [e3] at this; cases this
   omega
 refine ⟨hw,?_,?_,by rw [hsK]; exact hmn⟩
 ·rw [hsm0,hsq]
  obtain ⟨d,d1,d2⟩:=hex
  exact ⟨d,by omega,(hdB d).2 d2⟩
 rw [hsK]
 obtain ⟨D,hD⟩:∃ D,bO (tW (aG m n e) sq) (aG m n e)=some D:=by
  obtain ⟨d,d1,d2⟩:=hex
  cases hf:bO (tW (aG m n e) sq) (aG m n e) with
  | some D=>exact ⟨D,rfl⟩
  | none=>have:=ca hf d (by omega); rw [(hdB d).2 d2] at this; cases this
 have hch:pq (aG m n e) n (bX m n e e) (aX m n e) (kz m n e) (cV m n e) s=D + 1:=by
  unfold pq GL
  rw [hsm0,hsq,hD]; rfl
 rw [hch]
 have h8:=(hdB D).1 (cE hD).2.1
 have h9:(((D + 1) * (D + 1):Nat):Fin (aG m n e))=((k:Nat):Fin (aG m n e)):=w5 (by rw [h8,Nat.mod_eq_of_lt (by omega)])
 rw [Semiring.natCast_mul] at h9
 rw [h9]; exact hkK
end Go.Proofs.YtjlmpmidchddjaaDoor
