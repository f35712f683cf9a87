/-
  Texts of this proof, one behind the other: what each says stands at its head. Conditions: none.
-/
import Derived.Test.YtpobnnfkeekiaaaDoorB6
import Derived.Test.YtpobnnfkeekiaaaDoorB5
import Derived.Test.YtpobnnfkeekiaaaDoorB4
import Derived.Test.YtpobnnfkeekiaaaDoorB3
import Derived.Shelf.SlSortCmp.Whole1
import Derived.Test.YtpobnnfkeekiaaaDoorProg
set_option linter.all false
namespace Go.Proofs.YtpobnnfkeekiaaaDoor
open Go.Pv
def nE (e x:Nat):Bool:=decide (x=e)
def sM (n:Nat) (f:Nat→Nat→Nat) (p q:Nat→Bool) (a b:Nat):Bool:=decide (∃ x,x < n∧p x=true∧∃ y,y < n∧q y=true∧f (f x a) y=b)
theorem xX {n:Nat} {P Q:Nat→Bool} (g:Nat→Nat) (h1:∀ x,x < n→P x=true→g x < n∧Q (g x)=true) (hi:∀ x y,x < n→y < n→P x=true→P y=true→g x=g y→x=y) (h2:∀ y,y < n→Q y=true→∃ x,x < n∧P x=true∧g x=y):(mem n P).length=(mem n Q).length:=by
 rw [← List.length_map (f:=g) («as»:=mem n P)]
 refine ml (kC (List.nodup_range.filter _) fun x hx y hy he=>hi x y (bh.1 hx).1 (bh.1 hy).1 (bh.1 hx).2 (bh.1 hy).2 he) (List.nodup_range.filter _) fun y=>?_
 rw [List.mem_map,bh]
 constructor
 ·rintro ⟨x,hx,rfl⟩
  exact h1 x (bh.1 hx).1 (bh.1 hx).2
 rintro ⟨y1,y2⟩
 obtain ⟨x,x1,x2,x3⟩:=h2 y y1 y2
 exact ⟨x,bh.2 ⟨x1,x2⟩,x3⟩
theorem mem_congr {n:Nat} {P Q:Nat→Bool} (h:∀ a,a < n→P a=Q a):mem n P=mem n Q:=List.filter_congr fun a ha=>h a (List.mem_range.1 ha)
section
variable {n:Nat} {f:Nat→Nat→Nat} {e:Nat} {p q:Nat→Bool}
theorem fT {a b:Nat} : sM n f p q a b=true↔∃ x y,x < n∧y < n∧p x=true∧q y=true∧f (f x a) y=b:=by
 unfold sM; rw [decide_eq_true_iff]
 exact ⟨fun ⟨x,h1,h2,y,h3,h4,h5⟩=>⟨x,y,h1,h3,h2,h4,h5⟩,fun ⟨x,y,h1,h3,h2,h4,h5⟩=>⟨x,h1,h2,y,h3,h4,h5⟩⟩
theorem fY {x:Nat} : nE e x=true↔x=e:=by unfold nE; exact decide_eq_true_iff
theorem ba.fW (G:ba n f e):Sub n f e (nE e):=
 lr G (fY.2 rfl) fun a b ha hb h1 h2=>by
  rw [fY] at *; subst h1; subst h2; exact G.one_l _ ha
theorem ba.oM (G:ba n f e) (hp:Sub n f e p) (hq:Sub n f e q):rZ n (sM n f p q) where
 refl a ha:=fT.2 ⟨e,e,G.el,G.el,hp.one,hq.one,by rw [G.one_l a ha,G.one_r a ha]⟩
 symm a b ha hb h:=by
  obtain ⟨x,y,x1,y1,x2,y2,rfl⟩:=fT.1 h
  have ix:=G.aS x1
  have iy:=G.aS y1
  have hxa:=G.cl _ _ x1 ha
  refine fT.2 ⟨iv n f e x,iv n f e y,ix,iy,hp.inv x x1 x2,hq.inv y y1 y2,?_⟩
  rw [← G.assoc _ _ y ix hxa y1,← G.assoc _ x a ix x1 ha,G.eO x1,G.one_l a ha,G.assoc a y _ ha y1 iy,G.cr y1,G.one_r a ha]
 trans a b c ha hb hc h1 h2:=by
  obtain ⟨x,y,x1,y1,x2,y2,rfl⟩:=fT.1 h1
  obtain ⟨u,v,u1,v1,u2,v2,rfl⟩:=fT.1 h2
  have hxa:=G.cl _ _ x1 ha
  refine fT.2 ⟨f u x,f y v,G.cl _ _ u1 x1,G.cl _ _ y1 v1,hp.mul _ _ u1 x1 u2 x2,hq.mul _ _ y1 v1 y2 v2,?_⟩
  rw [G.assoc u x a u1 x1 ha,← G.assoc _ y v (G.cl _ _ u1 hxa) y1 v1,G.assoc u (f x a) y u1 hxa y1]
theorem ba.mQ (G:ba n f e) {a b:Nat} (ha:a < n) (hb:b < n):sM n f p (nE e) a b=p (f b (iv n f e a)):=by
 rw [Bool.eq_iff_iff,fT]
 constructor
 ·rintro ⟨x,y,x1,y1,x2,y2,rfl⟩
  rw [fY.1 y2,G.one_r _ (G.cl _ _ x1 ha),G.assoc x a _ x1 ha (G.aS ha),G.cr ha,G.one_r x x1]; exact x2
 intro h
 refine ⟨f b (iv n f e a),e,G.cl _ _ hb (G.aS ha),G.el,h,fY.2 rfl,?_⟩
 rw [G.assoc b _ a hb (G.aS ha) ha,G.eO ha,G.one_r b hb,G.one_r b hb]
theorem ba.Dl (G:ba n f e) {a:Nat} (ha:a < n):(mem n (sM n f p (nE e) a)).length=(mem n p).length:=by
 refine (xX (fun x=>f x a) (fun x hx h=>⟨G.cl _ _ hx ha,fT.2 ⟨x,e,hx,G.el,h,fY.2 rfl,G.one_r _ (G.cl _ _ hx ha)⟩⟩) (fun x y hx hy _ _ h=>G.uI ha hx hy h) fun y hy h=>?_).symm
 obtain ⟨x,z,x1,z1,x2,z2,rfl⟩:=fT.1 h
 exact ⟨x,x1,x2,by rw [fY.1 z2,G.one_r _ (G.cl _ _ x1 ha)]⟩
theorem tV {α:Type} {g:α→Nat} {k:Nat} : ∀ {l:List α},(∀ x∈l,g x=k)→(l.map g).sum=l.length * k
 | [],_=>by simp
 | a :: l,h=>by
  rw [List.map_cons,List.sum_cons,tV (l:=l) fun x hx=>h x (by simp [hx]),h a (by simp),List.length_cons,Nat.add_mul,Nat.one_mul,Nat.add_comm]
theorem ba.yB (G:ba n f e) (hp:Sub n f e p):(mem n (lead (sM n f p (nE e)))).length * (mem n p).length=n:=by
 have h:=(G.oM hp G.fW).sum
 rwa [tV fun x hx=>G.Dl (bh.1 hx).1] at h
theorem Sub.pos (hp:Sub n f e p) (he:e < n):0 < (mem n p).length:=List.length_pos_of_mem (bh.2 ⟨he,hp.one⟩)
theorem ba.C1 (G:ba n f e) {a:Nat} (ha:a < n):(mem n (nO n f e p a)).length=(mem n p).length:=by
 refine (xX (fun x=>fR n f e x a) (fun x hx h=>⟨G.gz hx ha,tu.2 ⟨x,hx,h,rfl⟩⟩) (fun x y hx hy _ _ h=>?_) fun y hy h=>?_).symm
 ·have:=congrArg (fun z=>fR n f e z (iv n f e a)) h
  simp only [G.BX hx ha,G.BX hy ha] at this
  exact this
 obtain ⟨x,x1,x2,x3⟩:=tu.1 h
 exact ⟨x,x1,x2,x3⟩
theorem rZ.part {r:Nat→Nat→Bool} (h:rZ n r) {K:Nat→Bool} (hK:∀ x y,x < n→y < n→r x y=true→K x=true→K y=true):((mem n fun x=>lead r x && K x).map fun x=>(mem n (r x)).length).sum=(mem n K).length:=by
 have h1:=lB (fun x y=>r x y) (mem n fun x=>lead r x && K x) (List.range n)
 have h2:∀ y,y∈List.range n→((mem n fun x=>lead r x && K x).filter fun x=>r x y).length=if K y=true then 1 else 0:=fun y hy=>by
  have y1:=List.mem_range.1 hy
  by_cases hk:K y=true
  ·rw [if_pos hk,← h.one y1]
   congr 1
   unfold mem
   rw [List.filter_filter,List.filter_filter]
   refine List.filter_congr fun x hx=>?_
   have x1:=List.mem_range.1 hx
   cases hr:r x y with
   | false=>simp
   | true=>rw [hK y x y1 x1 (h.symm x y x1 y1 hr) hk]; simp
  rw [if_neg hk,List.length_eq_zero_iff,List.filter_eq_nil_iff]
  intro x hx hr
  obtain ⟨x1,x2⟩:=bh.1 hx
  rw [Bool.and_eq_true] at x2
  exact hk (hK x y x1 y1 hr x2.2)
 have h3:((List.range n).map fun y=>((mem n fun x=>lead r x && K x).filter fun x=>r x y).length).sum=(mem n K).length:=by
  rw [List.map_congr_left h2]
  unfold mem
  generalize List.range n=L
  induction L with
  | nil=>rfl
  | cons a L ih=>rw [List.map_cons,List.sum_cons,ih,List.filter_cons]; by_cases hk:K a=true<;>simp [hk,Nat.add_comm]
 exact h1.trans h3
end
open Go.Pv
def Ht (n:Nat) (f:Nat→Nat→Nat) (e:Nat) (p:Nat→Bool) (a:Nat):Bool:=decide (∀ b,b < n→p (su n f e a b)=true)
def IW (nx:(Nat→Bool)→Nat→Bool) (p:Nat→Bool):Nat→Nat→Bool
 | 0=>p
 | k + 1=>nx (IW nx p k)
structure Jk (n:Nat) (T:Nat→Nat→Bool) (K:Nat):Prop where
 eq:∀ a,a < n→T (K + 1) a=T K a
 ne:∀ j,j < K→¬ ∀ a,a < n→T (j + 1) a=T j a
theorem sa {n:Nat} {p q:Nat→Bool} (h:∀ a,a < n→q a=true→p a=true) (hne:¬ ∀ a,a < n→q a=p a):(mem n q).length < (mem n p).length:=by
 have h1:mem n q=(mem n p).filter q:=by
  unfold mem
  rw [List.filter_filter]
  refine List.filter_congr fun a ha=>?_
  have:=h a (List.mem_range.1 ha)
  cases hq:q a with
  | false=>simp
  | true=>simp [this hq]
 have h2:(mem n q).Sublist (mem n p):=by rw [h1]; exact List.filter_sublist
 rcases Nat.lt_or_eq_of_le h2.length_le with h3 | h3
 ·exact h3
 exfalso
 have h4:=h2.eq_of_length h3
 refine hne fun a ha=>?_
 rw [Bool.eq_iff_iff]
 have:a∈mem n q↔a∈mem n p:=by rw [h4]
 rw [bh,bh] at this
 exact ⟨fun h=>(this.1 ⟨ha,h⟩).2,fun h=>(this.2 ⟨ha,h⟩).2⟩
section
variable {n:Nat} {f:Nat→Nat→Nat} {e:Nat}
theorem ku {p:Nat→Bool} {a:Nat} : Ht n f e p a=true↔∀ b,b < n→p (su n f e a b)=true:=by unfold Ht; exact decide_eq_true_iff
theorem ba.xS (G:ba n f e):Sub n f e fun _=>true:=lr G rfl fun _ _ _ _ _ _=>rfl
theorem ba.DY (G:ba n f e):ye n f e (nE e):=fun a ha x hx h=>by
 rw [fY] at *
 rw [h,G.xx ha]
theorem ba.Az (G:ba n f e) {p:Nat→Bool} (hs:Sub n f e p) (hn:ye n f e p) {x b:Nat} (hx:x < n) (hb:b < n) (h:p x=true):p (su n f e x b)=true:=by
 rw [G.oE hx hb]
 exact hs.mul _ _ (G.aS hx) (G.gz hx hb) (hs.inv x hx h) (hn b hb x hx h)
section
variable {nx:(Nat→Bool)→Nat→Bool}
end
theorem ba.FK (G:ba n f e) {p:Nat→Bool} (hs:Sub n f e p) (hn:ye n f e p) {x:Nat} (hx:x < n) (h:p x=true):Ht n f e p x=true:=ku.2 fun b hb=>G.Az hs hn hx hb h
theorem ba.D1 (G:ba n f e) {p:Nat→Bool} (hs:Sub n f e p) (hn:ye n f e p):Sub n f e (Ht n f e p):=by
 refine lr G (G.FK hs hn G.el hs.one) fun x y hx hy h1 h2=>ku.2 fun b hb=>?_
 have ix:=G.aS hx
 have iy:=G.aS hy
 have hxb:=G.gz hx hb
 have hyb:=G.gz hy hb
 have hcx:=G.wF hx hb
 have h3:=hs.mul _ _ (G.gz hcx hy) (G.wF hy hb) (hn y hy _ hcx (ku.1 h1 b hb)) (ku.1 h2 b hb)
 have:su n f e (f x y) b=f (fR n f e (su n f e x b) y) (su n f e y b):=by
  have e1:fR n f e (su n f e x b) y=f (f (iv n f e y) (su n f e x b)) y:=rfl
  rw [G.oE (G.cl _ _ hx hy) hb,G.sG hx hy,G.l8 hx hy hb,e1,G.oE hy hb,G.assoc (f (iv n f e y) (su n f e x b)) y _ (G.cl _ _ iy hcx) hy (G.cl _ _ iy hyb),← G.assoc y (iv n f e y) _ hy iy hyb,G.cr hy,G.one_l _ hyb,G.oE hx hb,G.assoc (iv n f e y) (iv n f e x) _ iy ix (G.cl _ _ hxb hyb),← G.assoc (iv n f e x) _ _ ix hxb hyb,← G.assoc (iv n f e y) _ _ iy (G.cl _ _ ix hxb) hyb]
 rw [this]; exact h3
theorem ba.D9 (G:ba n f e) {p:Nat→Bool} (hn:ye n f e p):ye n f e (Ht n f e p):=fun c hc x hx h=>ku.2 fun b hb=>by
 have ic:=G.aS hc
 have hbc:=G.gz hb ic
 have h1:=hn c hc _ (G.wF hx hbc) (ku.1 h _ hbc)
 rwa [G.CQ hx hbc hc,G.Fm hb hc] at h1
theorem ba.yZ (G:ba n f e):∀ k,Sub n f e (IW (Ht n f e) (nE e) k)∧ye n f e (IW (Ht n f e) (nE e) k)
 | 0=>⟨G.fW,G.DY⟩
 | k + 1=>⟨G.D1 (G.yZ k).1 (G.yZ k).2,G.D9 (G.yZ k).2⟩
end
open Go.Pv
section
variable {n e:Nat} {m:List Int}
end
open Go.Pv
theorem sS (n:Nat) (r:Nat→Nat→Bool):(nv n r).length=(mem n (lead r)).length:=by
 unfold nv GA mem
 rw [List.length_map]
def IE (l:List (List Int)) (x:Int):Int:=match cE (fun i=>decide (x∈l.getD i [])) l.length with | some i=>(i:Int) | none=>-1
def mq (n:Nat) (g:Nat→Int):List Int:=(List.range n).map g
theorem fj (n:Nat) (g:Nat→Int):(mq n g).length=n:=by simp [mq]
theorem kL {n:Nat} {g g' : Nat→Int} (h:∀ a,a < n→g a=g' a):mq n g=mq n g':=List.map_congr_left fun a ha=>h a (List.mem_range.1 ha)
theorem sU (n:Nat) (g:Nat→Int) (c:Nat) (x:Int):(mq n g).set c x=mq n fun a=>if a=c then x else g a:=by
 refine List.ext_getElem (by simp [mq]) fun i h1 h2=>?_
 rw [List.getElem_set]
 by_cases e:c=i
 ·subst e; simp [mq]
 rw [if_neg e]
 simp [mq,Ne.symm e]
theorem rY (n:Nat):List.replicate n (AV.p (.int .i64 0))=ol (mq n fun _=>0):=by
 refine List.ext_getElem (by simp [ol,il,mq]) fun i h1 h2=>?_
 simp [ol,il,mq]
theorem rz {n:Nat} {r:Nat→Nat→Bool} (h:rZ n r) {i j a:Nat} (hi:i < (nv n r).length) (hj:j < (nv n r).length) (ha:a < n) (h1:((a:Nat):Int)∈(nv n r).getD i []) (h2:((a:Nat):Int)∈(nv n r).getD j []):i=j:=by
 obtain ⟨x,x1,x2,x3,x4⟩:=my hi
 obtain ⟨y,y1,y2,y3,y4⟩:=my hj
 rw [x3,fe ha] at h1
 rw [y3,fe ha] at h2
 have hxy:x=y:=h.tq x1 y1 x2 y2 (h.trans x a y x1 ha y1 h1 (h.symm y a y1 ha h2))
 subst hxy
 have hn:(mem n (lead r)).Nodup:=List.nodup_range.filter _
 have hl:=sS n r
 exact AN hn (by omega) (by omega) (x4.trans y4.symm)
theorem GD {n:Nat} {r:Nat→Nat→Bool} (h:rZ n r) {a:Nat} (ha:a < n):∃ i,i < (nv n r).length∧((a:Nat):Int)∈(nv n r).getD i []:=by
 obtain ⟨x,x1,x2,x3⟩:=h.least ha
 obtain ⟨i,hi,e⟩:=List.getElem_of_mem (bh.2 ⟨x1,x2⟩:x∈mem n (lead r))
 have hl:=sS n r
 refine ⟨i,by omega,?_⟩
 obtain ⟨y,y1,y2,y3,y4⟩:=my (n:=n) (r:=r) (i:=i) (by omega)
 rw [y3,fe ha]
 have:y=x:=by rw [← y4]; simp [List.getD,List.getElem?_eq_getElem hi,e]
 rw [this]; exact x3
theorem BZ {n:Nat} {r:Nat→Nat→Bool} (h:rZ n r) {i a:Nat} (hi:i < (nv n r).length) (ha:a < n) (h1:((a:Nat):Int)∈(nv n r).getD i []):IE (nv n r) a=(i:Int):=by
 have e:cE (fun k=>decide (((a:Nat):Int)∈(nv n r).getD k [])) (nv n r).length=some i:=dG hi (decide_eq_true h1) fun j hj=>decide_eq_false fun h2=>by
  have:=rz h hi (by omega) ha h1 h2
  omega
 simp only [IE,e]
structure Qm (n:Nat) (f:Nat→Nat→Nat) (k:Nat) (cl rep:Nat→Nat):Prop where
 lt:∀ a,a < n→cl a < k
 mw:∀ i,i < k→rep i < n
 at_:∀ i,i < k→cl (rep i)=i
 DA:∀ a b c d,a < n→b < n→c < n→d < n→cl a=cl b→cl c=cl d→cl (f a c)=cl (f b d)
section
variable {n:Nat} {f:Nat→Nat→Nat} {e:Nat} {p:Nat→Bool}
def Fu (f:Nat→Nat→Nat) (cl rep:Nat→Nat) (i j:Nat):Nat:=cl (f (rep i) (rep j))
theorem Qm.op {k:Nat} {cl rep:Nat→Nat} (Q:Qm n f k cl rep) {a b:Nat} (ha:a < n) (hb:b < n):Fu f cl rep (cl a) (cl b)=cl (f a b):=
 Q.DA _ _ _ _ (Q.mw _ (Q.lt a ha)) ha (Q.mw _ (Q.lt b hb)) hb (Q.at_ _ (Q.lt a ha)) (Q.at_ _ (Q.lt b hb))
theorem Qm.zk {k:Nat} {cl rep:Nat→Nat} (Q:Qm n f k cl rep) (G:ba n f e):ba k (Fu f cl rep) (cl e) where
 pos:=Nat.lt_of_le_of_lt (Nat.zero_le _) (Q.lt e G.el)
 cl i j hi hj:=Q.lt _ (G.cl _ _ (Q.mw i hi) (Q.mw j hj))
 el:=Q.lt e G.el
 one_l i hi:=by
  have h1:=Q.mw i hi
  have h2:=Q.op G.el h1
  rw [Q.at_ i hi,G.one_l _ h1,Q.at_ i hi] at h2; exact h2
 one_r i hi:=by
  have h1:=Q.mw i hi
  have h2:=Q.op h1 G.el
  rw [Q.at_ i hi,G.one_r _ h1,Q.at_ i hi] at h2; exact h2
 assoc i j l hi hj hl:=by
  have h1:=Q.mw i hi
  have h2:=Q.mw j hj
  have h3:=Q.mw l hl
  have e1:=Q.op (G.cl _ _ h1 h2) h3
  have e2:=Q.op h1 (G.cl _ _ h2 h3)
  rw [Q.at_ l hl] at e1
  rw [Q.at_ i hi] at e2
  have e3:Fu f cl rep i j=cl (f (rep i) (rep j)):=rfl
  have e4:Fu f cl rep j l=cl (f (rep j) (rep l)):=rfl
  rw [e3,e4,e1,e2,G.assoc _ _ _ h1 h2 h3]
 inv i hi:=by
  have h1:=Q.mw i hi
  have h2:=G.aS h1
  have e1:=Q.op h1 h2
  have e2:=Q.op h2 h1
  rw [Q.at_ i hi] at e1 e2
  exact ⟨_,Q.lt _ h2,by rw [e1,G.cr h1],by rw [e2,G.eO h1]⟩
theorem ba.A9 (G:ba n f e) (hp:Sub n f e p) (hn:ye n f e p) {a b c d:Nat} (ha:a < n) (hb:b < n) (hc:c < n) (hd:d < n) (h1:sM n f p (nE e) a b=true) (h2:sM n f p (nE e) c d=true):sM n f p (nE e) (f a c) (f b d)=true:=by
 have ia:=G.aS ha
 have ic:=G.aS hc
 have h3:=G.cl _ _ hb ia
 have h4:=G.cl _ _ hd ic
 rw [G.mQ ha hb] at h1
 rw [G.mQ hc hd] at h2
 rw [G.mQ (G.cl _ _ ha hc) (G.cl _ _ hb hd),G.sG ha hc]
 have h5:=hn _ ia _ h4 h2
 unfold fR at h5
 rw [G.Av ha] at h5
 have h6:=hp.mul _ _ h3 (G.cl _ _ (G.cl _ _ ha h4) ia) h1 h5
 have e1:f (f b (iv n f e a)) (f (f a (f d (iv n f e c))) (iv n f e a))=f (f b d) (f (iv n f e c) (iv n f e a)):=by
  rw [G.assoc b _ _ hb ia (G.cl _ _ (G.cl _ _ ha h4) ia),G.assoc a _ _ ha h4 ia,← G.assoc _ a _ ia ha (G.cl _ _ h4 ia),G.eO ha,G.one_l _ (G.cl _ _ h4 ia),G.assoc d _ _ hd ic ia,← G.assoc b d _ hb hd (G.cl _ _ ic ia)]
 rw [← e1]; exact h6
end
open Go.Pv
theorem ba.EA {n:Nat} {f f' : Nat→Nat→Nat} {e:Nat} (G:ba n f e) (h:∀ a b,a < n→b < n→f' a b=f a b):ba n f' e:=by
 refine ⟨G.pos,fun a b ha hb=>by rw [h a b ha hb]; exact G.cl a b ha hb,G.el,fun a ha=>by rw [h e a G.el ha]; exact G.one_l a ha,fun a ha=>by rw [h a e ha G.el]; exact G.one_r a ha,fun a b c ha hb hc=>?_,fun a ha=>?_⟩
 ·rw [h a b ha hb,h _ c (G.cl a b ha hb) hc,h b c hb hc,h a _ ha (G.cl b c hb hc)]
  exact G.assoc a b c ha hb hc
 obtain ⟨b,hb,h1,h2⟩:=G.inv a ha
 exact ⟨b,hb,by rw [h a b ha hb]; exact h1,by rw [h b a hb ha]; exact h2⟩
def GV (n:Nat) (r:Nat→Nat→Bool) (i:Nat):Nat:=(mem n (lead r)).getD i 0
def vZ (n:Nat) (r:Nat→Nat→Bool) (a:Nat):Nat:=(IE (nv n r) a).toNat
section
variable {n:Nat} {r:Nat→Nat→Bool}
theorem wc (E:rZ n r) {a:Nat} (ha:a < n):vZ n r a < (nv n r).length∧IE (nv n r) a=(vZ n r a:Int)∧((a:Nat):Int)∈(nv n r).getD (vZ n r a) []:=by
 obtain ⟨i,i1,i2⟩:=GD E ha
 have h1:=BZ E i1 ha i2
 have h2:vZ n r a=i:=by unfold vZ; rw [h1]; rfl
 rw [h2]
 exact ⟨i1,h1,i2⟩
theorem oH (E:rZ n r) {a b:Nat} (ha:a < n) (hb:b < n):vZ n r a=vZ n r b↔r a b=true:=by
 obtain ⟨a1,a2,a3⟩:=wc E ha
 obtain ⟨b1,b2,b3⟩:=wc E hb
 obtain ⟨x,x1,x2,x3,x4⟩:=my a1
 rw [x3,fe ha] at a3
 constructor
 ·intro he
  rw [← he,x3,fe hb] at b3
  exact E.trans a x b ha x1 hb (E.symm x a x1 ha a3) b3
 intro hr
 have:((b:Nat):Int)∈(nv n r).getD (vZ n r a) []:=by rw [x3,fe hb]; exact E.trans x a b x1 ha hb a3 hr
 exact rz E a1 b1 hb this b3
theorem Cc (E:rZ n r) {i:Nat} (hi:i < (nv n r).length):GV n r i < n∧vZ n r (GV n r i)=i∧(nv n r).getD i []=ck n (r (GV n r i))∧lead r (GV n r i)=true:=by
 obtain ⟨x,x1,x2,x3,x4⟩:=my hi
 have h1:GV n r i=x:=x4
 rw [h1]
 have h2:((x:Nat):Int)∈(nv n r).getD i []:=by rw [x3,fe x1]; exact E.refl x x1
 have h3:=BZ E hi x1 h2
 exact ⟨x1,by unfold vZ; rw [h3]; rfl,x3,x2⟩
theorem Hk {f:Nat→Nat→Nat} {e:Nat} (G:ba n f e) (E:rZ n r) (hc:∀ a b c d,a < n→b < n→c < n→d < n→r a b=true→r c d=true→r (f a c) (f b d)=true):Qm n f (nv n r).length (vZ n r) (GV n r) where
 lt a ha:=(wc E ha).1
 mw i hi:=(Cc E hi).1
 at_ i hi:=(Cc E hi).2.1
 DA a b c d ha hb hc' hd h1 h2:=(oH E (G.cl _ _ ha hc') (G.cl _ _ hb hd)).2 (hc a b c d ha hb hc' hd ((oH E ha hb).1 h1) ((oH E hc' hd).1 h2))
end
open Go.Pv
def jw (p:Nat→Bool) (x:Nat):Nat:=(ck x p).length
theorem zi (n x:Nat) (p:Nat→Bool) (hx:x < n) (hp:p x=true):∃ r,ck n p=ck x p++(x:Int) :: r:=by
 induction n with
 | zero=>omega
 | succ n ih =>
  rw [eN]
  by_cases h:x=n
  ·subst h
   rw [if_pos hp]; exact ⟨[],rfl⟩
  obtain ⟨r,hr⟩:=ih (by omega)
  rw [hr]
  exact ⟨r++(if p n=true then [(n:Int)] else []),by simp⟩
theorem kd {n x:Nat} {p:Nat→Bool} (hx:x < n) (hp:p x=true):jw p x < (ck n p).length∧(ck n p).getD (jw p x) 0=(x:Int):=by
 obtain ⟨r,hr⟩:=zi n x p hx hp
 unfold jw
 rw [hr]
 constructor
 ·simp
 simp [List.getD]
theorem Dj {n i x:Nat} {p:Nat→Bool} (hi:i < (ck n p).length) (hx:x < n) (hp:p x=true) (h:(ck n p).getD i 0=(x:Int)):jw p x=i:=by
 obtain ⟨h1,h2⟩:=kd hx hp
 rcases Nat.lt_trichotomy (jw p x) i with h3 | h3 | h3
 ·have:=n7 h3 hi; omega
 ·exact h3
 have:=n7 h3 h1; omega
def iL (n:Nat) (p:Nat→Bool) (i:Nat):Nat:=((ck n p).getD i 0).toNat
theorem dR {n i:Nat} {p:Nat→Bool} (hi:i < (ck n p).length):iL n p i < n∧p (iL n p i)=true∧(ck n p).getD i 0=(iL n p i:Int)∧jw p (iL n p i)=i:=by
 obtain ⟨x,x1,x2,x3⟩:=Dd hi
 have:iL n p i=x:=by unfold iL; rw [x3]; rfl
 rw [this]
 exact ⟨x1,x2,x3,Dj hi x1 x2 x3⟩
def pop (n:Nat) (f:Nat→Nat→Nat) (p:Nat→Bool) (i j:Nat):Nat:=jw p (f (iL n p i) (iL n p j))
theorem tK {n e:Nat} {f:Nat→Nat→Nat} {p:Nat→Bool} (G:ba n f e) (hs:Sub n f e p) {i j:Nat} (hi:i < (ck n p).length) (hj:j < (ck n p).length):pop n f p i j < (ck n p).length∧iL n p (pop n f p i j)=f (iL n p i) (iL n p j):=by
 obtain ⟨x1,x2,_,_⟩:=dR hi
 obtain ⟨y1,y2,_,_⟩:=dR hj
 obtain ⟨h1,h2⟩:=kd (G.cl _ _ x1 y1) (hs.mul _ _ x1 y1 x2 y2)
 exact ⟨h1,by unfold pop iL at *; rw [h2]; rfl⟩
theorem xE {n e:Nat} {f:Nat→Nat→Nat} {p:Nat→Bool} (G:ba n f e) (hs:Sub n f e p):ba (ck n p).length (pop n f p) (jw p e):=by
 have le:=kd G.el hs.one
 have hat:∀ {i},i < (ck n p).length→jw p (iL n p i)=i:=fun hi=>(dR hi).2.2.2
 have hle:iL n p (jw p e)=e:=by unfold iL; rw [le.2]; rfl
 refine ⟨by omega,fun i j hi hj=>(tK G hs hi hj).1,le.1,fun i hi=>?_,fun i hi=>?_,fun i j k hi hj hk=>?_,fun i hi=>?_⟩
 ·unfold pop; rw [hle,G.one_l _ (dR hi).1,hat hi]
 ·unfold pop; rw [hle,G.one_r _ (dR hi).1,hat hi]
 ·have h1:=tK G hs hi hj
  have h2:=tK G hs hj hk
  show jw p (f (iL n p (pop n f p i j)) (iL n p k))=jw p (f (iL n p i) (iL n p (pop n f p j k)))
  rw [h1.2,h2.2,G.assoc _ _ _ (dR hi).1 (dR hj).1 (dR hk).1]
 obtain ⟨x1,x2,_,_⟩:=dR hi
 have h1:=kd (G.aS x1) (hs.inv _ x1 x2)
 have h2:iL n p (jw p (iv n f e (iL n p i)))=iv n f e (iL n p i):=by
  show ((ck n p).getD (jw p (iv n f e (iL n p i))) 0).toNat=_
  rw [h1.2]; rfl
 refine ⟨_,h1.1,?_,?_⟩
 ·show jw p (f (iL n p i) (iL n p (jw p (iv n f e (iL n p i)))))=_
  rw [h2,G.cr x1]
 show jw p (f (iL n p (jw p (iv n f e (iL n p i)))) (iL n p i))=_
 rw [h2,G.eO x1]
section
variable {n e:Nat} {f g:Nat→Nat→Nat} {p:Nat→Bool}
theorem DT (G:ba n f e) (h:∀ a b,a < n→b < n→g a b=f a b) {a:Nat} (ha:a < n):iv n g e a=iv n f e a:=by
 have G':=G.EA h
 refine (G'.di ha (G.aS ha) (.inl ?_)).symm
 rw [h _ _ ha (G.aS ha),G.cr ha]
theorem pK (G:ba n f e) (h:∀ a b,a < n→b < n→g a b=f a b) {x a:Nat} (hx:x < n) (ha:a < n):fR n g e x a=fR n f e x a:=by
 unfold fR
 rw [DT G h ha,h _ _ (G.aS ha) hx,h _ _ (G.cl _ _ (G.aS ha) hx) ha]
theorem BA (G:ba n f e) (h:∀ a b,a < n→b < n→g a b=f a b) (y:Nat):HH n g e p y=HH n f e p y:=by
 rw [Bool.eq_iff_iff,yE,yE]
 constructor
 ·rintro ⟨x,a,hx,ha,h1,h2⟩
  exact ⟨x,a,hx,ha,h1,by rw [← pK G h hx ha]; exact h2⟩
 rintro ⟨x,a,hx,ha,h1,h2⟩
 exact ⟨x,a,hx,ha,h1,by rw [pK G h hx ha]; exact h2⟩
theorem dC.iY (G:ba n f e) (h:∀ a b,a < n→b < n→g a b=f a b) {a:Nat} (hg:dC n g e p a):dC n f e p a:=by
 have G':=G.EA h
 induction hg with
 | one=>exact .one
 | step a b ha hb hp ih=>rw [h a b (ih.lt G) hb]; exact .step a b ih hb hp
theorem Sub.iY (G:ba n f e) (h:∀ a b,a < n→b < n→g a b=f a b) (hs:Sub n g e p):Sub n f e p:=
 lr G hs.one fun a b ha hb h1 h2=>by rw [← h a b ha hb]; exact hs.mul a b ha hb h1 h2
theorem ye.iY (G:ba n f e) (h:∀ a b,a < n→b < n→g a b=f a b) (hs:ye n g e p):ye n f e p:=fun a ha x hx hp=>by
 rw [← pK G h hx ha]; exact hs a ha x hx hp
end
open Go.Pv
def AS (p q:Nat→Bool) (x:Nat):Bool:=p x && q (jw p x)
theorem gW {n x:Nat} {p:Nat→Bool} (hx:x < n) (hp:p x=true):iL n p (jw p x)=x:=by
 have:=(kd hx hp).2
 unfold iL; rw [this]; rfl
theorem Ei {n i:Nat} {p:Nat→Bool} (hi:i < (ck n p).length):iL (n + 1) p i=iL n p i:=by
 unfold iL
 rw [eN,List.getD_eq_getElem?_getD,List.getElem?_append_left hi,← List.getD_eq_getElem?_getD]
theorem xU (p q:Nat→Bool):∀ n,(ck (ck n p).length q).map (fun z=>((iL n p z.toNat:Nat):Int))=ck n (AS p q)
 | 0=>rfl
 | n + 1=>by
  have ih:=xU p q n
  have hc:(ck (ck n p).length q).map (fun z=>((iL (n + 1) p z.toNat:Nat):Int))=ck n (AS p q):=by
   rw [← ih]
   refine List.map_congr_left fun z hz=>?_
   obtain ⟨i,i1,_,rfl⟩:=fZ.1 hz
   rw [Int.toNat_natCast,Ei i1]
  rw [eN n (AS p q)]
  by_cases hp:p n=true
  ·have hl:(ck (n + 1) p).length=(ck n p).length + 1:=by rw [eN,if_pos hp]; simp
   have ha:iL (n + 1) p (ck n p).length=n:=by
    unfold iL
    rw [eN,if_pos hp]; simp [List.getD]
   rw [hl,eN,List.map_append,hc]
   have hv:AS p q n=q (ck n p).length:=by unfold AS jw; rw [hp]; rfl
   rw [hv]
   by_cases hq:q (ck n p).length=true
   ·rw [if_pos hq,if_pos hq]; simp [ha]
   rw [if_neg hq,if_neg hq]; rfl
  have hl:ck (n + 1) p=ck n p:=by rw [eN,if_neg hp]; simp
  have hv:AS p q n=false:=by unfold AS; rw [Bool.not_eq_true] at hp; rw [hp]; rfl
  rw [hl,hv,if_neg (by simp),List.append_nil]
  exact hc
section
variable {n e:Nat} {f:Nat→Nat→Nat} {p q:Nat→Bool}
theorem Et (hs:Sub n f e p) {a b:Nat} (ha:a < n) (hb:b < n) (pa:p a=true) (pb:p b=true):pop n f p (jw p a) (jw p b)=jw p (f a b):=by
 unfold pop; rw [gW ha pa,gW hb pb]
theorem xh (G:ba n f e) (hs:Sub n f e p) {x a:Nat} (hx:x < n) (ha:a < n) (px:p x=true) (pa:p a=true):p (fR n f e x a)=true:=by
 have hi:=G.aS ha
 have pi:=hs.inv _ ha pa
 exact hs.mul _ _ (G.cl _ _ hi hx) ha (hs.mul _ _ hi hx pi px) pa
structure xf (n:Nat) (f:Nat→Nat→Nat) (e:Nat) (p p' : Nat→Bool):Prop where
 sub:Sub n f e p'
 le:∀ x,x < n→p' x=true→p x=true
 nml:∀ a x,a < n→x < n→p a=true→p' x=true→p' (fR n f e x a)=true
 ne:∃ x,x < n∧p x=true∧p' x=false
 mx:∀ x,x < n→p x=true→p' x=false→∀ t:Nat→Bool,Sub n f e t→(∀ y,y < n→p' y=true→t y=true)→(∀ b,b < n→p b=true→t (fR n f e x b)=true)→∀ y,y < n→p y=true→t y=true
def JA (q:Nat→Bool) (a x:Nat):Bool:=q x || decide (x=a)
structure IJ (n:Nat) (f:Nat→Nat→Nat) (e:Nat) (q:Nat→Bool):Prop where
 sub:Sub n f e q
 nml:ye n f e q
 ne:∃ x,x < n∧q x=false
 mx:∀ a,a < n→q a=false→∀ y,y < n→dC n f e (HH n f e (JA q a)) y
end
section
variable {n e:Nat} {f:Nat→Nat→Nat}
end
theorem IJ.DA {n e:Nat} {f g:Nat→Nat→Nat} {q:Nat→Bool} (G:ba n f e) (h:∀ a b,a < n→b < n→g a b=f a b) (hq:IJ n g e q):IJ n f e q:=
 ⟨hq.sub.iY G h,hq.nml.iY G h,hq.ne,fun a ha hqa y hy=>(dC.mono (fun b _ hb=>by rwa [BA G h] at hb) (hq.mx a ha hqa y hy)).iY G h⟩
section
variable {n e:Nat} {m:List Int}
structure JD (n:Nat) (f:Nat→Nat→Nat) (e:Nat) (T:Nat→Nat→Bool) (K:Nat):Prop where
 all:T 0=fun _=>true
 sub:∀ k,k≤K→Sub n f e (T k)
 mxn:∀ k,k < K→xf n f e (T k) (T (k + 1))
 last:(ck n (T K)).length=1
 short:K≤5
end
section
variable {n e:Nat} {f:Nat→Nat→Nat} {p q:Nat→Bool}
end
open Go.Pv
section
variable {n:Nat} {f:Nat→Nat→Nat} {e:Nat}
def sm (n:Nat) (f:Nat→Nat→Nat) (e y x z:Nat):Prop:=∃ j,j < ord n f e y∧z=f x (pw f e y j)
instance (n:Nat) (f:Nat→Nat→Nat) (e y x z:Nat):Decidable (sm n f e y x z):=by unfold sm; infer_instance
def rp (n:Nat) (f:Nat→Nat→Nat) (e y x:Nat):Nat:=(cE (fun z=>decide (sm n f e y x z)) n).getD 0
def quo (n:Nat) (f:Nat→Nat→Nat) (e y:Nat):List Nat:=mem n fun x=>Jy f y x && decide (rp n f e y x=x)
end
open Go.Pv
section
variable {n:Nat} {f:Nat→Nat→Nat} {e:Nat}
end
open Go.Pv
section
variable {n:Nat} {f:Nat→Nat→Nat} {e:Nat}
end
open Go.Pv
section
variable {n:Nat} {f:Nat→Nat→Nat} {e:Nat} {p q s:Nat→Bool} {P:Nat}
theorem oc.pos (hP:oc P) (k:Nat):0 < P ^ k:=Nat.pow_pos (by have:=hP.1; omega)
theorem oc.le_of_dvd (hP:oc P) {i j:Nat} (h:P ^ i ∣ P ^ j):i≤j:=by
 have h1:=Nat.le_of_dvd (hP.pos j) h
 exact (Nat.pow_le_pow_iff_right hP.1).1 h1
theorem ba.FH (G:ba n f e) (hp:Sub n f e p) {a:Nat} (ha:a < n) (h:∀ y,y < n→nO n f e p a y=true→p y=true):Iy n f e p a=true:=by
 have h1:=G.C1 (p:=p) ha
 refine DZ.2 fun y hy=>?_
 by_cases hy2:nO n f e p a y=p y
 ·exact hy2
 exfalso
 have:=sa (n:=n) h (fun hh=>hy2 (hh y hy))
 omega
structure I6 (n:Nat) (f:Nat→Nat→Nat) (e P:Nat) (s:Nat→Bool) (j t:Nat):Prop where
 sub:Sub n f e s
 len:(mem n s).length=P ^ j
 num:n=P ^ j * t
 non:¬ P ∣ t
end
open Go.Pv
noncomputable def gn (n:Nat) (f:Nat→Nat→Nat) (e:Nat) (p:Nat→Bool):Nat→Bool:=Classical.choose (qu n f e p)
section
variable {n:Nat} {f:Nat→Nat→Nat} {e:Nat} {p q s:Nat→Bool} {P:Nat}
end
section
variable {n e:Nat} {f:Nat→Nat→Nat} {p q a b:Nat→Bool}
theorem xf.nz (G:ba n f e) (h:xf n f e p q) {c:Nat} (hc:c < n) (pc:p c=true):Iy n f e q c=true:=
 G.FH h.sub hc fun y hy hh=>by
  obtain ⟨x,x1,x2,rfl⟩:=tu.1 hh
  exact h.nml c x hc x1 pc x2
theorem xf.DL {p' : Nat→Bool} (h:xf n f e p q) (hp:∀ x,x < n→p' x=p x):xf n f e p' q where
 sub:=h.sub
 le x hx hq:=by rw [hp x hx]; exact h.le x hx hq
 nml c x hc hx pc:=h.nml c x hc hx (by rw [← hp c hc]; exact pc)
 ne:=by obtain ⟨x,x1,x2,x3⟩:=h.ne; exact ⟨x,x1,by rw [hp x x1]; exact x2,x3⟩
 mx x hx px qx t ht h1 h2 y hy py:=h.mx x hx (by rwa [← hp x hx]) qx t ht h1 (fun c hc pc=>h2 c hc (by rwa [hp c hc])) y hy (by rwa [← hp y hy])
theorem xf.D0 {q' : Nat→Bool} (G:ba n f e) (h:xf n f e p q) (hs:Sub n f e q') (hq:∀ x,x < n→q' x=q x):xf n f e p q' where
 sub:=hs
 le x hx hh:=h.le x hx (by rwa [← hq x hx])
 nml c x hc hx pc hh:=by
  rw [hq _ (G.gz hx hc)]
  exact h.nml c x hc hx pc (by rwa [← hq x hx])
 ne:=by obtain ⟨x,x1,x2,x3⟩:=h.ne; exact ⟨x,x1,x2,by rw [hq x x1]; exact x3⟩
 mx x hx px qx t ht h1 h2 y hy py:=h.mx x hx px (by rwa [← hq x hx]) t ht (fun y hy hh=>h1 y hy (by rwa [hq y hy])) h2 y hy py
def IC (n:Nat) (f:Nat→Nat→Nat) (e:Nat):(Nat→Bool)→List (Nat→Bool)→Prop
 | p,[]=>∀ x,x < n→p x=true→x=e
 | p,q :: l=>xf n f e p q∧IC n f e q l
end
structure Hm (n:Nat) (f:Nat→Nat→Nat) (e:Nat) (p:Nat→Bool) (k:Nat) (g:Nat→Nat→Nat) (d:Nat) (φ:Nat→Nat):Prop where
 zk:ba k g d
 sub:Sub n f e p
 lt:∀ x,x < n→p x=true→φ x < k
 mul:∀ x y,x < n→y < n→p x=true→p y=true→φ (f x y)=g (φ x) (φ y)
 onto:∀ i,i < k→∃ x,x < n∧p x=true∧φ x=i
section
variable {n e k d:Nat} {f g:Nat→Nat→Nat} {p:Nat→Bool} {φ:Nat→Nat}
theorem Hm.one (H:Hm n f e p k g d φ) (G:ba n f e):φ e=d:=by
 have h1:=H.mul e e G.el G.el H.sub.one H.sub.one
 have hl:=H.lt e G.el H.sub.one
 rw [G.one_l e G.el] at h1
 have h2:g (φ e) d=g (φ e) (φ e):=by rw [← h1,H.zk.one_r _ hl]
 exact (H.zk.kf hl H.zk.el hl h2).symm
theorem Hm.iv (H:Hm n f e p k g d φ) (G:ba n f e) {x:Nat} (hx:x < n) (px:p x=true):φ (Go.Proofs.YtpobnnfkeekiaaaDoor.iv n f e x)=Go.Proofs.YtpobnnfkeekiaaaDoor.iv k g d (φ x):=by
 have ix:=G.aS hx
 have jw:=H.sub.inv x hx px
 refine H.zk.di (H.lt x hx px) (H.lt _ ix jw) (.inl ?_)
 rw [← H.mul _ _ hx ix px jw,G.cr hx,H.one G]
theorem Hm.fR (H:Hm n f e p k g d φ) (G:ba n f e) {x c:Nat} (hx:x < n) (hc:c < n) (px:p x=true) (pc:p c=true):φ (Go.Proofs.YtpobnnfkeekiaaaDoor.fR n f e x c)=Go.Proofs.YtpobnnfkeekiaaaDoor.fR k g d (φ x) (φ c):=by
 have ic:=G.aS hc
 have pi:=H.sub.inv c hc pc
 show φ (f (f _ _) _)=g (g _ _) _
 rw [H.mul _ _ (G.cl _ _ ic hx) hc (H.sub.mul _ _ ic hx pi px) pc,H.mul _ _ ic hx pi px,H.iv G hc pc]
theorem Hm.su (H:Hm n f e p k g d φ) (G:ba n f e) {x c:Nat} (hx:x < n) (hc:c < n) (px:p x=true) (pc:p c=true):φ (Go.Proofs.YtpobnnfkeekiaaaDoor.su n f e x c)=Go.Proofs.YtpobnnfkeekiaaaDoor.su k g d (φ x) (φ c):=by
 have ic:=G.aS hc
 have ix:=G.aS hx
 have pic:=H.sub.inv c hc pc
 have jw:=H.sub.inv x hx px
 show φ (f (f _ _) (f _ _))=g (g _ _) (g _ _)
 rw [H.mul _ _ (G.cl _ _ ix ic) (G.cl _ _ hx hc) (H.sub.mul _ _ ix ic jw pic) (H.sub.mul _ _ hx hc px pc),H.mul _ _ ix ic jw pic,H.mul _ _ hx hc px pc,H.iv G hc pc,H.iv G hx px]
theorem Az {q:Nat→Bool} (G:ba n f e) (hq:Sub n f e q) {x c:Nat} (hx:x < n) (hc:c < n) (px:q x=true) (pc:q c=true):q (su n f e x c)=true:=
 hq.mul _ _ (G.cl _ _ (G.aS hx) (G.aS hc)) (G.cl _ _ hx hc) (hq.mul _ _ (G.aS hx) (G.aS hc) (hq.inv _ hx px) (hq.inv _ hc pc)) (hq.mul _ _ hx hc px pc)
def pre (p:Nat→Bool) (φ:Nat→Nat) (b:Nat→Bool) (x:Nat):Bool:=p x && b (φ x)
theorem cn {b:Nat→Bool} {x:Nat} : pre p φ b x=true↔p x=true∧b (φ x)=true:=by unfold pre; rw [Bool.and_eq_true]
theorem Hm.yD (H:Hm n f e p k g d φ) (G:ba n f e) {b:Nat→Bool} (hb:Sub k g d b):Sub n f e (pre p φ b):=
 lr G (cn.2 ⟨H.sub.one,by rw [H.one G]; exact hb.one⟩) fun x y hx hy h1 h2=>by
  obtain ⟨h1,h3⟩:=cn.1 h1
  obtain ⟨h2,h4⟩:=cn.1 h2
  exact cn.2 ⟨H.sub.mul x y hx hy h1 h2,by rw [H.mul x y hx hy h1 h2]; exact hb.mul _ _ (H.lt x hx h1) (H.lt y hy h2) h3 h4⟩
theorem Hm.Fy (H:Hm n f e p k g d φ) (G:ba n f e) {a b:Nat→Bool} (hb:Sub k g d b) (h:xf n f e (pre p φ a) (pre p φ b)):xf k g d a b where
 sub:=hb
 le i hi bi:=by
  obtain ⟨x,x1,x2,rfl⟩:=H.onto i hi
  exact (cn.1 (h.le x x1 (cn.2 ⟨x2,bi⟩))).2
 nml c i hc hi ac bi:=by
  obtain ⟨x,x1,x2,rfl⟩:=H.onto i hi
  obtain ⟨y,y1,y2,rfl⟩:=H.onto c hc
  have:=(cn.1 (h.nml y x y1 x1 (cn.2 ⟨y2,ac⟩) (cn.2 ⟨x2,bi⟩))).2
  rwa [H.fR G x1 y1 x2 y2] at this
 ne:=by
  obtain ⟨x,x1,x2,x3⟩:=h.ne
  obtain ⟨px,ax⟩:=cn.1 x2
  unfold pre at x3
  rw [px,Bool.true_and] at x3
  exact ⟨_,H.lt x x1 px,ax,x3⟩
 mx i hi ai bi t ht h1 h2 j hj aj:=by
  obtain ⟨x,x1,x2,rfl⟩:=H.onto i hi
  obtain ⟨y,y1,y2,rfl⟩:=H.onto j hj
  refine (cn.1 (h.mx x x1 (cn.2 ⟨x2,ai⟩) (by unfold pre; rw [bi,Bool.and_false]) (pre p φ t) (H.yD G ht) (fun z hz hh=>?_) (fun c hc hh=>?_) y y1 (cn.2 ⟨y2,aj⟩))).2
  ·obtain ⟨pz,bz⟩:=cn.1 hh
   exact cn.2 ⟨pz,h1 _ (H.lt z hz pz) bz⟩
  obtain ⟨pc,ac⟩:=cn.1 hh
  exact cn.2 ⟨xh G H.sub x1 hc x2 pc,by rw [H.fR G x1 hc x2 pc]; exact h2 _ (H.lt c hc pc) ac⟩
theorem IC.bb (G:ba n f e):∀ {l:List (Nat→Bool)} {p:Nat→Bool},IC n f e p l→∀ q∈l,Sub n f e q
 | [],_,_,q,hq=>by simp at hq
 | r :: l,p,h,q,hq=>by
  rcases List.mem_cons.1 hq with rfl | hq
  ·exact h.1.sub
  exact IC.bb G h.2 q hq
end
open Go.Pv
section
variable {n e P:Nat} {f:Nat→Nat→Nat} {q s:Nat→Bool}
theorem I6.DA {f g:Nat→Nat→Nat} {j t:Nat} (hY:I6 n g e P s j t) (G:ba n f e) (h:∀ a b,a < n→b < n→g a b=f a b):I6 n f e P s j t:=
 ⟨hY.sub.iY G h,hY.len,hY.num,hY.non⟩
end
open Go.Pv
section
variable {n:Nat} {f:Nat→Nat→Nat} {e:Nat}
theorem Qm.iv {k:Nat} {cl rep:Nat→Nat} (Q:Qm n f k cl rep) (G:ba n f e) {a:Nat} (ha:a < n):iv k (Fu f cl rep) (cl e) (cl a)=cl (Go.Proofs.YtpobnnfkeekiaaaDoor.iv n f e a):=
 ((Q.zk G).di (Q.lt a ha) (Q.lt _ (G.aS ha)) (.inl (by rw [Q.op ha (G.aS ha),G.cr ha]))).symm
theorem Qm.Cs {k:Nat} {cl rep:Nat→Nat} (Q:Qm n f k cl rep) (G:ba n f e) {x y:Nat} (hx:x < n) (hy:y < n) (h:Cs n f e x y=true):Cs k (Fu f cl rep) (cl e) (cl x) (cl y)=true:=by
 obtain ⟨a,ha,rfl⟩:=fg.1 h
 have ia:=G.aS ha
 refine fg.2 ⟨cl a,Q.lt a ha,?_⟩
 rw [Q.iv G ha,Q.op ia hx,Q.op (G.cl _ _ ia hx) ha]
end
open Go.Pv
section
variable {n e P:Nat} {f:Nat→Nat→Nat} {p q s:Nat→Bool}
section
variable {nl:(Nat→Bool)→Nat→Bool}
theorem Jk.le {T:Nat→Nat→Bool} {K k:Nat} (h:Jk n T K) (he:∀ a,a < n→T (k + 1) a=T k a):K≤k:=
 Nat.le_of_not_lt fun hh=>h.ne k hh he
end
end
section
variable {n e:Nat} {f:Nat→Nat→Nat} {p q:Nat→Bool}
theorem Dt (G:ba n f e) (hq:Sub n f e q) (hN:ye n f e q):Hm n f e (fun _=>true) (nv n (sM n f q (nE e))).length (Fu f (vZ n (sM n f q (nE e))) (GV n (sM n f q (nE e)))) (vZ n (sM n f q (nE e)) e) (vZ n (sM n f q (nE e))):=by
 have E:=G.oM hq G.fW
 have Q:=Hk G E fun a b c d ha hb hc hd h1 h2=>G.A9 hq hN ha hb hc hd h1 h2
 exact ⟨Q.zk G,G.xS,fun x hx _=>Q.lt x hx,fun x y hx hy _ _=>(Q.op hx hy).symm,fun i hi=>⟨_,Q.mw i hi,rfl,Q.at_ i hi⟩⟩
theorem Bf (G:ba n f e) (hq:Sub n f e q) {x:Nat} (hx:x < n):vZ n (sM n f q (nE e)) x=vZ n (sM n f q (nE e)) e↔q x=true:=by
 have E:=G.oM hq G.fW
 rw [oH E hx G.el,G.mQ hx G.el,G.one_l _ (G.aS hx)]
 exact ⟨fun h=>by have:=hq.inv _ (G.aS hx) h; rwa [G.Av hx] at this,fun h=>hq.inv x hx h⟩
theorem B9 (G:ba n f e) (hq:Sub n f e q):(nv n (sM n f q (nE e))).length * (mem n q).length=n:=by
 rw [sS]; exact G.yB hq
theorem xH (G:ba n f e) (hp:Sub n f e p):Hm n f e p (ck n p).length (pop n f p) (jw p e) (jw p):=
 ⟨xE G hp,hp,fun x hx px=>(kd hx px).1,fun x y hx hy px py=>(Et hp hx hy px py).symm,fun i hi=>⟨iL n p i,(dR hi).1,(dR hi).2.1,(dR hi).2.2.2⟩⟩
variable {k k2 d d2:Nat} {g g2:Nat→Nat→Nat} {φ ψ:Nat→Nat}
theorem Hm.comp (H:Hm n f e p k g d φ) (K:Hm k g d (fun _=>true) k2 g2 d2 ψ):Hm n f e p k2 g2 d2 fun x=>ψ (φ x) where
 zk:=K.zk
 sub:=H.sub
 lt x hx px:=K.lt _ (H.lt x hx px) rfl
 mul x y hx hy px py:=by
  show ψ (φ (f x y))=_
  rw [H.mul x y hx hy px py,K.mul _ _ (H.lt x hx px) (H.lt y hy py) rfl rfl]
 onto i hi:=by
  obtain ⟨y,y1,_,rfl⟩:=K.onto i hi
  obtain ⟨x,x1,x2,rfl⟩:=H.onto y y1
  exact ⟨x,x1,x2,rfl⟩
theorem Hm.iY (H:Hm n f e p k g d φ) (h:∀ a b,a < k→b < k→g2 a b=g a b) (G2:ba k g2 d):Hm n f e p k g2 d φ:=
 ⟨G2,H.sub,H.lt,fun x y hx hy px py=>by rw [H.mul x y hx hy px py,h _ _ (H.lt x hx px) (H.lt y hy py)],H.onto⟩
def vX (n:Nat) (p q:Nat→Bool) (i:Nat):Bool:=q (iL n p i)
theorem D3 (hle:∀ x,x < n→q x=true→p x=true):∀ x,x < n→AS p (vX n p q) x=q x:=fun x hx=>by
 unfold AS vX
 cases px:p x with
 | false =>
  cases qx:q x with
  | false=>rfl
  | true=>rw [hle x hx qx] at px; cases px
 | true=>rw [gW hx px]; rfl
theorem DC (G:ba n f e) (hp:Sub n f e p) (hq:Sub n f e q):Sub (ck n p).length (pop n f p) (jw p e) (vX n p q):=
 lr (xE G hp) (by unfold vX; rw [gW G.el hp.one]; exact hq.one) fun i j hi hj h1 h2=>by
  unfold vX at h1 h2 ⊢
  rw [(tK G hp hi hj).2]
  exact hq.mul _ _ (dR hi).1 (dR hj).1 h1 h2
theorem D6 (G:ba n f e) (hp:Sub n f e p):ye (ck n p).length (pop n f p) (jw p e) (vX n p q)↔∀ a x,a < n→x < n→p a=true→p x=true→q x=true→q (fR n f e x a)=true:=by
 have H:=xH G hp
 constructor
 ·intro h a x ha hx pa px qx
  have:=h (jw p a) (kd ha pa).1 (jw p x) (kd hx px).1 (by unfold vX; rw [gW hx px]; exact qx)
  rw [← H.fR G hx ha px pa] at this
  unfold vX at this
  rwa [gW (G.gz hx ha) (xh G hp hx ha px pa)] at this
 intro h i hi j hj hd
 obtain ⟨a1,a2,_,a4⟩:=dR hi
 obtain ⟨b1,b2,_,b4⟩:=dR hj
 have:=h _ _ a1 b1 a2 b2 hd
 rw [← a4,← b4,← H.fR G b1 a1 b2 a2]
 unfold vX
 rwa [gW (G.gz b1 a1) (xh G hp b1 a1 b2 a2)]
theorem DS (hle:∀ x,x < n→q x=true→p x=true):(mem (ck n p).length (vX n p q)).length=(mem n q).length:=by
 have h1:=congrArg List.length (xU p (vX n p q) n)
 rw [List.length_map] at h1
 have e1:(ck (ck n p).length (vX n p q)).length=(mem (ck n p).length (vX n p q)).length:=fS _ _
 have e2:(ck n (AS p (vX n p q))).length=(mem n (AS p (vX n p q))).length:=fS _ _
 rw [← e1,h1,e2,mem_congr (D3 hle)]
theorem DD (G:ba n f e) (hp:Sub n f e p) (hq:Sub n f e q) (hle:∀ x,x < n→q x=true→p x=true) (hN:∀ a x,a < n→x < n→p a=true→p x=true→q x=true→q (fR n f e x a)=true) :
  ∃ k g d φ,Hm n f e p k g d φ∧(∀ x,x < n→pre p φ (nE d) x=q x)∧k * (mem n q).length=(mem n p).length:=by
 have H:=xH G hp
 have P:=H.zk
 have ds:=DC G hp hq
 have K:=Dt P ds ((D6 G hp).2 hN)
 refine ⟨_,_,_,_,H.comp K,fun x hx=>?_,?_⟩
 ·unfold pre
  cases px:p x with
  | false =>
   cases qx:q x with
   | false=>rfl
   | true=>rw [hle x hx qx] at px; cases px
  | true =>
   rw [Bool.true_and,Bool.eq_iff_iff,fY,Bf P ds (H.lt x hx px)]
   unfold vX
   rw [gW hx px]
 have:=B9 P ds
 rw [DS hle] at this
 have e1:(ck n p).length=(mem n p).length:=fS _ _
 rw [← e1]; exact this
theorem xf.hm (G:ba n f e) (hp:Sub n f e p) (h:xf n f e p q):∃ k g d φ,Hm n f e p k g d φ∧(∀ x,x < n→pre p φ (nE d) x=q x)∧k * (mem n q).length=(mem n p).length∧xf k g d (fun _=>true) (nE d):=by
 obtain ⟨k,g,d,φ,H,h1,h2⟩:=DD G hp h.sub h.le fun a x ha hx pa _ qx=>h.nml a x ha hx pa qx
 refine ⟨k,g,d,φ,H,h1,h2,H.Fy G H.zk.fW ?_⟩
 refine (h.D0 G (H.yD G H.zk.fW) h1).DL fun x hx=>?_
 show (p x && true)=p x
 rw [Bool.and_true]
end
structure Ev (n:Nat) (f:Nat→Nat→Nat) (N:Nat) (g:Nat→Nat→Nat) (φ:Nat→Nat):Prop where
 lt:∀ a,a < n→φ a < N
 mul:∀ a b,a < n→b < n→φ (f a b)=g (φ a) (φ b)
def Ext (n:Nat) (f:Nat→Nat→Nat) (N:Nat) (g:Nat→Nat→Nat) (F T:List Nat) (φ:Nat→Nat):Prop:=Ev n f N g φ∧∀ i,i < F.length→φ (F.getD i 0)=T.getD i 0
inductive EN (f:Nat→Nat→Nat) (e:Nat) (g:Nat→Nat→Nat) (d:Nat) (F T:List Nat):Nat→Nat→Prop
 | one:EN f e g d F T e d
 | step {a y:Nat} (i:Nat) (hi:i < F.length) (h:EN f e g d F T a y):EN f e g d F T (f a (F.getD i 0)) (g y (T.getD i 0))
def cu (n:Nat) (S:Nat→Bool) (ψ:Nat→Nat):List Int:=(List.range n).map fun a=>if S a then ((ψ a:Nat):Int) else -1
def xr (n:Nat) (φ:Nat→Nat):List Int:=(List.range n).map fun a=>((φ a:Nat):Int)
def dV (S:Nat→Bool) (b:Nat):Nat→Bool:=fun x=>S x || decide (x=b)
def jA (ψ:Nat→Nat) (b y:Nat):Nat→Nat:=fun x=>if x=b then y else ψ x
theorem bp (n:Nat) (S:Nat→Bool) (ψ:Nat→Nat):(cu n S ψ).length=n:=by simp [cu]
theorem oy (n:Nat) (φ:Nat→Nat):(xr n φ).length=n:=by simp [xr]
theorem iC {n:Nat} {S:Nat→Bool} {ψ:Nat→Nat} {a:Nat} (ha:a < n):(cu n S ψ).getD a 0=if S a then ((ψ a:Nat):Int) else -1:=by
 simp [cu,List.getD,ha]
theorem dc {n:Nat} {S:Nat→Bool} {ψ:Nat→Nat} {b y:Nat} (hb:b < n) (hS:S b=false):(cu n S ψ).set b ((y:Nat):Int)=cu n (dV S b) (jA ψ b y):=by
 refine List.ext_getElem (by simp [cu]) fun i h1 h2=>?_
 rw [List.getElem_set]
 by_cases e:b=i
 ·subst e
  simp [cu,dV,jA]
 rw [if_neg e]
 simp [cu,dV,jA,Ne.symm e]
theorem tY {n:Nat} {S:Nat→Bool} {ψ φ:Nat→Nat} (h:∀ a,a < n→S a=true∧ψ a=φ a):cu n S ψ=xr n φ:=by
 refine List.map_congr_left fun a ha=>?_
 obtain ⟨h1,h2⟩:=h a (List.mem_range.1 ha)
 rw [h1,h2]; rfl
theorem cj {S:Nat→Bool} {b x:Nat} : dV S b x=true↔S x=true∨x=b:=by simp [dV]
theorem hZ {ψ:Nat→Nat} {b y x:Nat} (h:x ≠ b):jA ψ b y x=ψ x:=by simp [jA,h]
theorem eJ {ψ:Nat→Nat} {b y:Nat} : jA ψ b y b=y:=by simp [jA]
def outs (n:Nat) (S:Nat→Bool):Nat:=(mem n fun a=>!S a).length
theorem oS {n:Nat} {S:Nat→Bool} {b:Nat} (hb:b < n) (hS:S b=false):outs n (dV S b) + 1=outs n S:=by
 unfold outs mem
 induction n with
 | zero=>omega
 | succ n ih =>
  rw [List.range_succ,List.filter_append,List.filter_append,List.length_append,List.length_append]
  by_cases e:b=n
  ·subst e
   have h0:(List.range b).filter (fun a=>!dV S b a)=(List.range b).filter (fun a=>!S a):=List.filter_congr fun x hx=>by
    have:=List.mem_range.1 hx
    simp [dV,show x ≠ b by omega]
   rw [h0]
   simp [dV,hS]
  have:=ih (by omega)
  have h1:dV S b n=S n:=by simp [dV,Ne.symm e]
  simp only [List.filter_cons,h1,List.filter_nil]
  omega
section
variable {n N e d:Nat} {f g:Nat→Nat→Nat} {F T:List Nat} {φ:Nat→Nat}
theorem Ev.one (G:ba n f e) (K:ba N g d) (h:Ev n f N g φ):φ e=d:=by
 have h1:=h.mul e e G.el G.el
 rw [G.one_l e G.el] at h1
 have h2:=h.lt e G.el
 have h3:=K.assoc (iv N g d (φ e)) (φ e) (φ e) (K.aS h2) h2 h2
 rw [K.eO h2,← h1,K.eO h2,K.one_l _ h2] at h3
 exact h3
theorem EN.F4 (G:ba n f e) (K:ba N g d) (hF:∀ i,i < F.length→F.getD i 0 < n) (h:Ext n f N g F T φ) {a y:Nat} (hr:EN f e g d F T a y):a < n∧φ a=y:=by
 induction hr with
 | one=>exact ⟨G.el,h.1.one G K⟩
 | step i hi _ ih =>
  obtain ⟨h1,h2⟩:=ih
  exact ⟨G.cl _ _ h1 (hF i hi),by rw [h.1.mul _ _ h1 (hF i hi),h2,h.2 i hi]⟩
structure qK (n:Nat) (f:Nat→Nat→Nat) (e N:Nat) (g:Nat→Nat→Nat) (d:Nat) (F T:List Nat) (S:Nat→Bool) (ψ:Nat→Nat) (W:List Nat):Prop where
 one:S e=true∧ψ e=d
 lt:∀ a,a < n→S a=true→ψ a < N
 rch:∀ a,a < n→S a=true→EN f e g d F T a (ψ a)
 wt:∀ a∈W,a < n∧S a=true
 cl:∀ a,a < n→S a=true→a ∉ W→∀ i,i < F.length→S (f a (F.getD i 0))=true∧ψ (f a (F.getD i 0))=g (ψ a) (T.getD i 0)
structure jF (n:Nat) (f:Nat→Nat→Nat) (e N:Nat) (g:Nat→Nat→Nat) (d:Nat) (F T:List Nat) (a0 i0:Nat) (S:Nat→Bool) (ψ:Nat→Nat) (W:List Nat):Prop where
 one:S e=true∧ψ e=d
 lt:∀ a,a < n→S a=true→ψ a < N
 rch:∀ a,a < n→S a=true→EN f e g d F T a (ψ a)
 wt:∀ a∈W,a < n∧S a=true
 ha:a0 < n∧S a0=true
 cl:∀ a,a < n→S a=true→a ∉ W→∀ i,i < F.length→(a=a0→i < i0)→S (f a (F.getD i 0))=true∧ψ (f a (F.getD i 0))=g (ψ a) (T.getD i 0)
theorem qK.begin (G:ba n f e) (K:ba N g d):qK n f e N g d F T (dV (fun _=>false) e) (jA (fun _=>0) e d) [e] where
 one:=⟨by simp [dV],eJ⟩
 lt a ha h:=by
  have:a=e:=by simpa [dV] using h
  rw [this,eJ]; exact K.el
 rch a ha h:=by
  have:a=e:=by simpa [dV] using h
  rw [this,eJ]; exact .one
 wt a ha:=by
  have:a=e:=by simpa using ha
  rw [this]; exact ⟨G.el,by simp [dV]⟩
 cl a ha h hw:=by
  have:a=e:=by simpa [dV] using h
  exact absurd (by simp [this]) hw
theorem qK.pop {S:Nat→Bool} {ψ:Nat→Nat} {a:Nat} {W:List Nat} (h:qK n f e N g d F T S ψ (a :: W)):jF n f e N g d F T a 0 S ψ W where
 one:=h.one
 lt:=h.lt
 rch:=h.rch
 wt x hx:=h.wt x (by simp [hx])
 ha:=h.wt a (by simp)
 cl x hx hS hW i hi hai:=by
  by_cases e:x=a
  ·have:=hai e; omega
  exact h.cl x hx hS (by simp [e,hW]) i hi
theorem jF.done {S:Nat→Bool} {ψ:Nat→Nat} {a:Nat} {W:List Nat} (h:jF n f e N g d F T a F.length S ψ W):qK n f e N g d F T S ψ W where
 one:=h.one
 lt:=h.lt
 rch:=h.rch
 wt:=h.wt
 cl x hx hS hW i hi:=h.cl x hx hS hW i hi fun _=>hi
theorem jF.push (G:ba n f e) (K:ba N g d) (hF:∀ i,i < F.length→F.getD i 0 < n) (hT:∀ i,i < F.length→T.getD i 0 < N) {S:Nat→Bool} {ψ:Nat→Nat} {a i:Nat} {W:List Nat} (h:jF n f e N g d F T a i S ψ W) (hi:i < F.length) (hb:S (f a (F.getD i 0))=false) :
  jF n f e N g d F T a (i + 1) (dV S (f a (F.getD i 0))) (jA ψ (f a (F.getD i 0)) (g (ψ a) (T.getD i 0))) (W++[f a (F.getD i 0)]):=by
 have hbn:=G.cl _ _ h.ha.1 (hF i hi)
 have hne:∀ x,S x=true→x ≠ f a (F.getD i 0):=fun x hx e=>by rw [e,hb] at hx; cases hx
 refine ⟨⟨cj.2 (.inl h.one.1),by rw [hZ (hne _ h.one.1)]; exact h.one.2⟩,fun x hx hS=>?_,fun x hx hS=>?_,fun x hx=>?_,⟨h.ha.1,cj.2 (.inl h.ha.2)⟩,fun x hx hS hW j hj hji=>?_⟩
 ·rcases cj.1 hS with h1 | rfl
  ·rw [hZ (hne _ h1)]; exact h.lt x hx h1
  rw [eJ]; exact K.cl _ _ (h.lt a h.ha.1 h.ha.2) (hT i hi)
 ·rcases cj.1 hS with h1 | rfl
  ·rw [hZ (hne _ h1)]; exact h.rch x hx h1
  rw [eJ]; exact .step i hi (h.rch a h.ha.1 h.ha.2)
 ·rcases List.mem_append.1 hx with hx | hx
  ·obtain ⟨h1,h2⟩:=h.wt x hx
   exact ⟨h1,cj.2 (.inl h2)⟩
  have:x=f a (F.getD i 0):=by simpa using hx
  rw [this]; exact ⟨hbn,cj.2 (.inr rfl)⟩
 have hW1:x ∉ W:=fun hh=>hW (by simp [hh])
 have hxb:x ≠ f a (F.getD i 0):=fun hh=>hW (by simp [hh])
 have hSx:S x=true:=(cj.1 hS).resolve_right hxb
 rw [hZ hxb]
 by_cases e:x=a∧j=i
 ·obtain ⟨rfl,rfl⟩:=e
  exact ⟨cj.2 (.inr rfl),eJ⟩
 obtain ⟨k1,k2⟩:=h.cl x hx hSx hW1 j hj fun ea=>by
  have:=hji ea
  have:j ≠ i:=fun ej=>e ⟨ea,ej⟩
  omega
 exact ⟨cj.2 (.inl k1),by rw [hZ (hne _ k1)]; exact k2⟩
theorem jF.aI {S:Nat→Bool} {ψ:Nat→Nat} {a i:Nat} {W:List Nat} (h:jF n f e N g d F T a i S ψ W) (hb:S (f a (F.getD i 0))=true) (hv:ψ (f a (F.getD i 0))=g (ψ a) (T.getD i 0)) :
  jF n f e N g d F T a (i + 1) S ψ W:=
 ⟨h.one,h.lt,h.rch,h.wt,h.ha,fun x hx hS hW j hj hji=>by
  by_cases e:x=a∧j=i
  ·obtain ⟨rfl,rfl⟩:=e
   exact ⟨hb,hv⟩
  exact h.cl x hx hS hW j hj fun ea=>by
   have:=hji ea
   have:j ≠ i:=fun ej=>e ⟨ea,ej⟩
   omega⟩
theorem qK.fin (G:ba n f e) (K:ba N g d) (hF:∀ i,i < F.length→F.getD i 0 < n) (hT:∀ i,i < F.length→T.getD i 0 < N) (hgen:∀ a,a < n→dC n f e (fun x=>decide (x∈F)) a) {S:Nat→Bool} {ψ:Nat→Nat} (h:qK n f e N g d F T S ψ []) :
  (∀ a,a < n→S a=true)∧Ext n f N g F T ψ:=by
 have hall:∀ a,a < n→S a=true:=fun a ha=>dC.least (H:=fun a=>S a=true) h.one.1 (fun a b hga hb hp hSa=>by
  have hp:b∈F:=by simpa using hp
  obtain ⟨i,hi,rfl⟩:=List.getElem_of_mem hp
  have e1:F[i]=F.getD i 0:=by simp [List.getD,List.getElem?_eq_getElem hi]
  rw [e1]
  exact (h.cl a (hga.lt G) hSa (by simp) i hi).1) (hgen a ha)
 have hmul:∀ a,a < n→∀ b,b < n→ψ (f a b)=g (ψ a) (ψ b):=fun a ha b hb=>by
  refine dC.least (H:=fun b=>ψ (f a b)=g (ψ a) (ψ b)) ?_ (fun c x hgc hx hp ih=>?_) (hgen b hb)
  ·rw [G.one_r a ha,h.one.2,K.one_r _ (h.lt a ha (hall a ha))]
  have hp:x∈F:=by simpa using hp
  obtain ⟨i,hi,rfl⟩:=List.getElem_of_mem hp
  have e1:F[i]=F.getD i 0:=by simp [List.getD,List.getElem?_eq_getElem hi]
  rw [e1]
  have hc:=hgc.lt G
  have hac:=G.cl a c ha hc
  rw [← G.assoc a c _ ha hc (hF i hi),(h.cl _ hac (hall _ hac) (by simp) i hi).2,(h.cl c hc (hall c hc) (by simp) i hi).2,ih,K.assoc _ _ _ (h.lt a ha (hall a ha)) (h.lt c hc (hall c hc)) (hT i hi)]
 refine ⟨hall,⟨fun a ha=>h.lt a ha (hall a ha),fun a b ha hb=>hmul a ha b hb⟩,fun i hi=>?_⟩
 have h1:=(h.cl e G.el h.one.1 (by simp) i hi).2
 rw [G.one_l _ (hF i hi),h.one.2,K.one_l _ (hT i hi)] at h1
 exact h1
end
open Go.Pv
def p1 (M x:Nat):Nat:=(x / 2 &&& M) + (x &&& M)
def p2 (M x:Nat):Nat:=(x / 4 &&& M) + (x &&& M)
def p3 (M x:Nat):Nat:=(x / 16 + x) &&& M
theorem dv {a B q:Nat} (h:a < B):(a + B * q) / B=q:=by
 rw [Nat.add_mul_div_left _ _ (Nat.lt_of_le_of_lt (Nat.zero_le _) h),Nat.div_eq_of_lt h,Nat.zero_add]
theorem l3 {E0 E1 E2 E3:Nat} (h0:E0≤5000) (h1:E1≤5000) (h2:E2≤5000) (h3:E3≤5000) :
  let y4:=E0 + 65536 * (E1 + 65536 * (E2 + 65536 * E3))
  let y5:=y4 + y4 / 65536
  (y5 + y5 / 4294967296) % 128=(E0 + E1 + E2 + E3) % 128:=by
 intro y4 y5
 have a1:y4 / 65536=E1 + 65536 * (E2 + 65536 * E3):=dv (by omega)
 have a2:y5=((E0 + E1) + 65536 * (E1 + E2)) + 4294967296 * ((E2 + E3) + 65536 * E3):=by
  show y4 + y4 / 65536=_
  rw [a1]; show E0 + 65536 * (E1 + 65536 * (E2 + 65536 * E3)) + _=_
  omega
 have a3:y5 / 4294967296=(E2 + E3) + 65536 * E3:=by rw [a2]; exact dv (by omega)
 rw [a3,a2]
 omega
theorem l1 {d0 d1 d2 d3 d4 d5 d6 d7:Nat} : d0 + 256 * (d1 + 256 * (d2 + 256 * (d3 + 256 * (d4 + 256 * (d5 + 256 * (d6 + 256 * d7)))))) + (d1 + 256 * (d2 + 256 * (d3 + 256 * (d4 + 256 * (d5 + 256 * (d6 + 256 * d7)))))) =
  (d0 + d1 + 256 * (d1 + d2)) + 65536 * ((d2 + d3 + 256 * (d3 + d4)) + 65536 * ((d4 + d5 + 256 * (d5 + d6)) + 65536 * (d6 + d7 + 256 * d7))):=by
 omega
def zd (x y:Int):Int:=if x < y then -1 else if y < x then 1 else 0
def Aa:List Int→List Int→Int
 | [],[]=>0
 | [],_ :: _=>-1
 | _ :: _,[]=>1
 | x :: v,y :: w=>if zd x y=0 then Aa v w else zd x y
theorem CA {x y:Int} : zd x y=0↔x=y:=by
 unfold zd
 by_cases h1:x < y
 ·simp [h1]; omega
 by_cases h2:y < x
 ·simp [h1,h2]; omega
 simp [h1,h2]; omega
theorem mX:∀ v:List Int,Aa v v=0
 | []=>rfl
 | x :: v=>by show (if zd x x=0 then Aa v v else zd x x)=0; rw [if_pos (CA.2 rfl)]; exact mX v
def Ak (a b:List Int):Int:=if (a.length:Int) - (b.length:Int)=0 then Aa a b else (a.length:Int) - (b.length:Int)
theorem yi {a b:List Int} : Ak a b < 0↔a.length < b.length∨a.length=b.length∧Aa a b < 0:=by
 unfold Ak
 by_cases h:(a.length:Int) - (b.length:Int)=0
 ·rw [if_pos h]; constructor
  ·exact fun h2=>.inr ⟨by omega,h2⟩
  rintro (h2 | h2)
  ·omega
  exact h2.2
 rw [if_neg h]; omega
theorem rj (v:List Int):¬ Ak v v < 0:=by
 rw [yi,mX]; omega
def Hw (p:Nat→Bool) (a x:Nat):Bool:=p x || decide (x=a)
section
variable {n e:Nat} {f:Nat→Nat→Nat}
def Dn (n:Nat) (f:Nat→Nat→Nat) (e x a:Nat) (L:List Nat):Prop:=∀ q:Nat→Bool,(∀ y,y < n→(q y=true↔dC n f e (Hw x.testBit a) y))→bo n q∈L
structure Fx (n:Nat) (f:Nat→Nat→Nat) (e:Nat) (L:List Nat):Prop where
 nodup:L.Nodup
 bb:∀ x∈L,∃ p,Sub n f e p∧x=bo n p
 one:bo n (nE e)∈L
theorem Fx.all {L:List Nat} (G:ba n f e) (h:Fx n f e L) (hd:∀ x∈L,∀ a,a < n→Dn n f e x a L):∀ p,Sub n f e p→bo n p∈L:=by
 intro q hq
 have go:∀ c (p:Nat→Bool),Sub n f e p→bo n p∈L→(∀ y,y < n→p y=true→q y=true)→(mem n q).length - (mem n p).length≤c→bo n q∈L:=by
  intro c
  induction c with
  | zero =>
   intro p hp hL hle hc
   have hall:∀ y,y < n→q y=p y:=by
    refine Classical.byContradiction fun hh=>?_
    have:=sa (p:=q) (q:=p) hle (fun h2=>hh fun y hy=>(h2 y hy).symm)
    omega
   rw [mR hall]; exact hL
  | succ c ih =>
   intro p hp hL hle hc
   by_cases hall:∀ y,y < n→q y=p y
   ·rw [mR hall]; exact hL
   have hex:∃ a,a < n∧q a=true∧p a=false:=by
    refine Classical.byContradiction fun hh=>hall fun y hy=>?_
    cases hpy:p y with
    | true=>exact hle y hy hpy
    | false =>
     cases hqy:q y with
     | false=>rfl
     | true=>exact absurd ⟨y,hy,hqy,hpy⟩ hh
   obtain ⟨a,ha,qa,pa⟩:=hex
   obtain ⟨r,hr⟩:=qu n f e (Hw (bo n p).testBit a)
   have hrL:=hd _ hL a ha r hr
   have hin:∀ b,b < n→Hw (bo n p).testBit a b=true→q b=true:=fun b hb hw=>by
    unfold Hw at hw
    rw [iu,Bool.or_eq_true,Bool.and_eq_true,decide_eq_true_eq,decide_eq_true_eq] at hw
    rcases hw with hw | hw
    ·exact hle b hb hw.2
    rw [hw]; exact qa
   have hrq:∀ y,y < n→r y=true→q y=true:=fun y hy h1=>((hr y hy).1 h1).sub G hq hin
   have hpr:∀ y,y < n→p y=true→r y=true:=fun y hy h1=>(hr y hy).2 (dC.mem G hy (by unfold Hw; rw [iu]; simp [hy,h1]))
   have hra:r a=true:=(hr a ha).2 (dC.mem G ha (by unfold Hw; simp))
   have hlt:=sa (p:=r) (q:=p) hpr (fun h2=>by have:=h2 a ha; rw [pa,hra] at this; cases this)
   exact ih r (Dc G hr) hrL hrq (by omega)
 exact go _ (nE e) G.fW h.one (fun y hy h1=>by rw [fY] at h1; rw [h1]; exact hq.one) (Nat.le_refl _)
structure qV (n:Nat) (f:Nat→Nat→Nat) (e:Nat) (L:List Nat):Prop where
 bb:∀ x∈L,∃ p,Sub n f e p∧x=bo n p
 all:∀ p,Sub n f e p→bo n p∈L
 yZ:L.Pairwise fun x y=>Ak (qv x) (qv y) < 0
theorem qV.nodup {L:List Nat} (h:qV n f e L):L.Nodup:=h.yZ.imp fun {x y} hxy he=>by
 subst he; exact rj _ hxy
end
open Go.Pv
def tg (N:Int) (m:List Int) (N' : Int) (m' : List Int):Int × Int:=if (gf N m).1=0 then gf N' m' else gf N m
theorem CC {N N' : Int} {m m' : List Int} (h:(tg N m N' m').1=0):(gf N m).1=0∧(gf N' m').1=0:=by
 unfold tg at h
 by_cases h1:(gf N m).1=0
 ·rw [if_pos h1] at h; exact ⟨h1,h⟩
 rw [if_neg h1] at h; exact absurd h h1
theorem zH (N:Int) (m:List Int) (N' : Int) (m' : List Int) (hm:m.length≤1000000000000000) (hm' : m'.length≤1000000000000000):ct Tryd.prog 31 [gp N m,gp N' m'] (fl (tg N m N' m')):=by
 refine aV ae Tryd.func31 rfl (by kernel_rfl) (by rw [Tryd.ntmps31]; exact Nat.le_add_left 2 _) ?_; rw [Tryd.ntmps31]
 refine qm ?_
 refine ab fun K hK=>aa ae ?_
 simp only [an,fl,gp,ak,simprocAttr]
 refine af ?_ (hK _ ?_)<;>clear hK K
 ·first|exact trivial|omega|(simp only [ah] at *; omega)|(simp [ah] at *; omega)|simp_all
 refine qa (qm (qm ?_))
 refine ab fun K hK=>aa ae ?_
 simp only [an,fl,gp,ak,simprocAttr]
 refine ao trivial (au (mF N m hm) rfl rfl rfl (by simp only [ay,Nat.reduceLT]) (by repeat (first|exact trivial|constructor)) (aa ae ?_))
 simp only [an,fl,gp,ak,simprocAttr]
 refine af ?_ (hK _ ?_)<;>clear hK K
 ·first|exact trivial|omega|(simp only [ah] at *; omega)|(simp [ah] at *; omega)|simp_all
 refine qa (qm ?_)
 refine ab fun K hK=>aa ae ?_
 simp only [an,fl,gp,ak,simprocAttr]
 refine af ?_ (hK _ ?_)<;>clear hK K
 ·first|exact trivial|omega|(simp only [ah] at *; omega)|(simp [ah] at *; omega)|simp_all
 refine qa ?_
 refine aq rfl (fun hC1=>?_) (fun hC1=>?_)
 ·(try simp only [aE] at hC1)
  refine qm ?_
  refine ab fun K hK=>aa ae ?_
  simp only [an,fl,gp,ak,simprocAttr]
  refine af ?_ (hK _ ?_)<;>clear hK K
  ·first|exact trivial|omega|(simp only [ah] at *; omega)|(simp [ah] at *; omega)|simp_all
  refine qa (qk (qb ?_))
  simp only [Tryd.results31,bT,an,fl,gp,ak,simprocAttr]
  all_goals (unfold tg; rw [if_neg hC1]; simp)
 (try simp only [aE] at hC1)
 refine qh (qa (qm ?_))
 refine ab fun K hK=>aa ae ?_
 simp only [an,fl,gp,ak,simprocAttr]
 refine ao trivial (au (mF N' m' hm') rfl rfl rfl (by simp only [ay,Nat.reduceLT]) (by repeat (first|exact trivial|constructor)) (aa ae ?_))
 simp only [an,fl,gp,ak,simprocAttr]
 refine af ?_ (hK _ ?_)<;>clear hK K
 ·first|exact trivial|omega|(simp only [ah] at *; omega)|(simp [ah] at *; omega)|simp_all
 refine qa (qk ?_)
 simp only [Tryd.results31,bT,an,fl,gp,ak,simprocAttr]
 all_goals (unfold tg; rw [if_pos hC1]; simp)
theorem fF (c a:Int):ct Tryd.prog 32 [.int .i64 c,.int .i64 a] (fl (c,a)):=by
 refine aV ae Tryd.func32 rfl (by kernel_rfl) (by rw [Tryd.ntmps32]; exact Nat.le_add_left 2 _) ?_; rw [Tryd.ntmps32]
 refine qm ?_
 refine ab fun K hK=>aa ae ?_
 simp only [an,fl,gp,ak,simprocAttr]
 refine af ?_ (hK _ ?_)<;>clear hK K
 ·first|exact trivial|omega|(simp only [ah] at *; omega)|(simp [ah] at *; omega)|simp_all
 refine qa (qm ?_)
 refine ab fun K hK=>aa ae ?_
 simp only [an,fl,gp,ak,simprocAttr]
 refine af ?_ (hK _ ?_)<;>clear hK K
 ·first|exact trivial|omega|(simp only [ah] at *; omega)|(simp [ah] at *; omega)|simp_all
 refine qa (qk ?_)
 simp only [Tryd.results32,bT,an,fl,gp,ak,simprocAttr]
 all_goals (rfl)
def hv (l:List Int) (a:Nat):Nat:=(l.getD a 0).toNat
def pJ (m m' l:List Int) (n n' a:Nat):Prop:=∀ b,b < n→op m' n' (hv l a) (hv l b)=hv l (op m n a b)
instance (m m' l:List Int) (n n' a:Nat):Decidable (pJ m m' l n n' a):=by unfold pJ; infer_instance
def nl (L:List Nat):List Int:=L.map fun x=>((x:Nat):Int)
theorem ei (L:List Nat):(nl L).length=L.length:=by simp [nl]
theorem fL {L:List Nat} {i:Nat} (hi:i < L.length):(nl L).getD i 0=((L.getD i 0:Nat):Int):=by
 simp [nl,List.getD,List.getElem?_eq_getElem hi]
theorem yh (L:List Nat) (x:Nat):nl (L++[x])=nl L++[((x:Nat):Int)]:=by simp [nl]
section
variable (n:Nat) (f:Nat→Nat→Nat) (e:Nat)
end
section
variable {n e:Nat} {m:List Int}
end
open Go.Pv
theorem oD (a:Nat) (W:List Nat):nl (a :: W)=((a:Nat):Int) :: nl W:=rfl
theorem tj (n:Nat):mq n (fun a=>if a < n then -1 else 0)=cu n (fun _=>false) (fun _=>0):=by
 unfold mq cu
 exact List.map_congr_left fun a ha=>by simp [List.mem_range.1 ha]
theorem yj (n:Nat) (S:Nat→Bool):outs n S≤n:=by
 unfold outs mem
 exact Nat.le_trans (List.length_filter_le _ _) (by simp)
section
variable {n e N d:Nat} {m M:List Int}
set_option maxHeartbeats 4000000 in
theorem wU (h:GT n m n e) (h' : GT N M N d) (F T:List Nat) (hFT:F.length=T.length) (hFl:F.length≤1000000) (hF:∀ i,i < F.length→F.getD i 0 < n) (hT:∀ i,i < F.length→T.getD i 0 < N) (hgen:∀ a,a < n→dC n (op m n) e (fun x=>decide (x∈F)) a) {φ:Nat→Nat} (hφ:Ext n (op m n) N (op M N) F T φ):wz Tryd.prog 35 [gp n m,gp N M,.list (il (nl F)),.list (il (nl T))] (.sl 0 0 (il (xr n φ)).length) [.own (bq (il (xr n φ)))]:=by
 have G:=h.2.2
 have K:=h'.2.2
 have Tb:=h.2.1
 have Tb':=h'.2.1
 have hb:=Tb.big
 have hb':=Tb'.big
 have hlF:=ei F
 have hlT:=ei T
 have hel:=G.el
 have hr0:=fj n (fun a=>if a < n then -1 else 0)
 refine nc ae Tryd.func35 rfl (by kernel_rfl) (by rw [Tryd.ntmps35]; exact Nat.le_add_left 4 _) ?_; rw [Tryd.ntmps35]
 refine qm ?_
 refine ab fun K hK=>aa ae ?_
 simp only [an,fl,gp,ak,simprocAttr]
 refine af ?_ (hK _ ?_)<;>clear hK K
 ·first|exact trivial|omega|(simp only [ah] at *; omega)|(simp [ah] at *; omega)|simp_all
 refine qa (qm ?_)
 refine ab fun K hK=>aa ae ?_
 simp only [an,fl,gp,ak,simprocAttr,cq.eq_def,rY]
 refine af ?_ (hK _ ?_)<;>clear hK K
 ·omega
 refine qa (qm (qm ?_))
 refine ab fun K hK=>aa ae ?_
 simp only [an,fl,gp,ak,simprocAttr]
 refine af trivial (hK _ ?_)<;>clear hK K
 refine qa (ql ?_)
 refine aD (ι:=Nat) (fun i=>⟨88,[(2,.p (.list (il (nl F)))),(3,.p (.list (il (nl T)))),(4,.ptr 0 0),(5,.ptr 1 0),(9,.sl 2 0 n),(21,.p (.int .i64 n)),(22,.p (.int .i64 i))],[.own [.p (.int .i64 n),.p (.list (il m))],.own [.p (.int .i64 N),.p (.list (il M))],.own (ol (mq n fun a=>if a < i then -1 else 0))]⟩) (fun i=>i≤n) (fun i=>n - i) 0 (Nat.zero_le _) [0,1,2] (by simp only [leq,bx,an,fl,gp,ak,simprocAttr]<;>first|trivial|(simp [mq]; done)|(simp [mq,List.take_of_length_le]; done)) fun i hi=>?_
 have hr:=fj n (fun a=>if a < i then -1 else 0)
 refine qm ?_
 refine ab fun K hK=>aa ae ?_
 simp only [an,fl,gp,ak,simprocAttr]
 refine af trivial (hK _ ?_)<;>clear hK K
 refine qa (qm ?_)
 refine aq rfl (fun hC1=>?_) (fun hC1=>?_)
 ·(try simp only [aE] at hC1)
  have hlt:i < n:=by omega
  have hse:(mq n fun a=>if a < i then -1 else 0).set i (-1)=mq n fun a=>if a < i + 1 then -1 else 0:=by
   rw [sU]
   exact kL fun a ha=>by
    by_cases e:a=i
    ·simp [e]
    by_cases e2:a < i
    ·simp [e,e2,show a < i + 1 by omega]
    simp [e,e2,show ¬ a < i + 1 by omega]
  refine qh (qa (qm (ql (qm ?_))))
  refine ab fun K hK=>aa ae ?_
  simp only [an,fl,gp,ak,simprocAttr]
  refine af trivial (hK _ ?_)<;>clear hK K
  refine qa ?_
  refine ab fun K hK=>aa ae ?_
  simp only [an,fl,gp,ak,simprocAttr,cH,hse]
  refine af ?_ (hK _ ?_)<;>clear hK K
  ·first|exact trivial|omega|(simp only [ah] at *; omega)|(simp [ah] at *; omega)|simp_all
  refine qd (qa ?_)
  refine ab fun K hK=>aa ae ?_
  simp only [an,fl,gp,ak,simprocAttr]
  refine af ?_ (hK _ ?_)<;>clear hK K
  ·first|exact trivial|omega|(simp only [ah] at *; omega)|(simp [ah] at *; omega)|simp_all
  refine qa ?_
  refine ⟨i + 1,[0,1,2],by omega,by omega,?_⟩
  simp only [leq,bx,an,fl,gp,ak,simprocAttr]<;>first|trivial|omega|(simp [dg,fj]; done)
 (try simp only [aE] at hC1)
 obtain rfl:i=n:=by omega
 rw [tj]
 have hp0:=bp i (fun _=>false) (fun _=>0)
 refine qj (qc (qc (qf (qa (qm ?_)))))
 refine cZ mixed fun K hK=>aM ae ?_
 simp only [lP,an,fl,gp,ak,simprocAttr,cH,dc (S:=fun _=>false) (ψ:=fun _=>0) hel rfl]
 refine bw trivial (bJ (ff h) rfl rfl rfl rfl (by simp only [ay,Nat.reduceLT]) (by repeat (first|exact trivial|constructor)) (aM ae ?_))
 simp only [lP,an,fl,gp,ak,simprocAttr,cH,dc (S:=fun _=>false) (ψ:=fun _=>0) hel rfl]
 refine bw trivial (bJ (ff h') rfl rfl rfl rfl (by simp only [ay,Nat.reduceLT]) (by repeat (first|exact trivial|constructor)) (aM ae ?_))
 simp only [lP,an,fl,gp,ak,simprocAttr,cH,dc (S:=fun _=>false) (ψ:=fun _=>0) hel rfl]
 refine db ?_ (hK _ _ (by first|kernel_rfl|rfl) ?_)<;>clear hK K
 ·first|exact trivial|omega|(simp only [ah] at *; omega)|(simp [ah] at *; omega)|simp_all
 refine qa (qm ?_)
 refine ab fun K hK=>aa ae ?_
 simp only [an,fl,gp,ak,simprocAttr]
 refine ao trivial (au (ff h) rfl rfl rfl (by simp only [ay,Nat.reduceLT]) (by repeat (first|exact trivial|constructor)) (cB (iB (n:=1) (l:=[.int .i64 ((e:Nat):Int)]) ae rfl rfl rfl rfl rfl rfl rfl ⟨⟨rfl,rfl,rfl⟩,trivial⟩ rfl (by decide) rfl) rfl (show (37:Nat) < 88 by decide) (aa ae ?_)))
 simp only [an,fl,gp,ak,simprocAttr]
 refine af ?_ (hK _ ?_)<;>clear hK K
 ·trivial
 refine qa (qm (ql ?_))
 refine aD (ι:=(Nat→Bool) × (Nat→Nat) × List Int × List Nat) (fun p=>⟨88,[(2,.p (.list (il (nl F)))),(3,.p (.list (il (nl T)))),(4,.ptr 0 0),(5,.ptr 1 0),(9,.sl 2 0 (cu i p.1 p.2.1).length),(11,.sl 3 p.2.2.1.length (nl p.2.2.2).length)],[.own [.p (.int .i64 i),.p (.list (il m))],.own [.p (.int .i64 N),.p (.list (il M))],.own (ol (cu i p.1 p.2.1)),.own (ol (p.2.2.1++nl p.2.2.2))]⟩) (fun p=>qK i (op m i) e N (op M N) d F T p.1 p.2.1 p.2.2.2∧2 * outs i p.1 + p.2.2.2.length≤200) (fun p=>2 * outs i p.1 + p.2.2.2.length) (dV (fun _=>false) e,jA (fun _=>0) e d,[],[e]) ⟨qK.begin G K,by have:=yj i (dV (fun _=>false) e); simp only [List.length_cons,List.length_nil]; omega⟩ [0,1,2,3] (by simp only [leq,bx,an,fl,gp,ak,simprocAttr]<;>first|trivial|exact ⟨rfl,rfl⟩|rfl|(simp [bp]; done)|(simp [ol,bq,il,nl,bp]; done)|(simp [bp,List.take_of_length_le]; done)) fun p hp=>?_
 obtain ⟨S,ψ,J,W⟩:=p
 obtain ⟨hp,hbd⟩:=hp
 simp only at hp hbd
 have hpl:=bp i S ψ
 have hnW:=ei W
 refine qm (qm ?_)
 refine ab fun K hK=>aa ae ?_
 simp only [an,fl,gp,ak,simprocAttr]
 refine af trivial (hK _ ?_)<;>clear hK K
 refine qa ?_
 refine aq rfl (fun hC2=>?_) (fun hC2=>?_)
 ·(try simp only [aE] at hC2)
  obtain ⟨a,W',rfl⟩:∃ a W',W=a :: W':=by
   cases W with
   | nil=>simp [nl] at hC2
   | cons x w'=>exact ⟨x,w',rfl⟩
  have hnc:=oD a W'
  have hnW':=ei W'
  have hP2:=hp.pop
  simp only [List.length_cons] at hbd
  obtain ⟨ha,hSa⟩:=hP2.ha
  refine qh (qa (ql (qm ?_)))
  refine ab fun K hK=>aa ae ?_
  simp only [an,fl,gp,ak,simprocAttr,hnc,wT,Nat.add_zero]
  refine af ?_ (hK _ ?_)<;>clear hK K
  ·simp only [List.length_append,List.length_cons]; omega
  refine qa (qm ?_)
  refine ab fun K hK=>aa ae ?_
  simp only [an,fl,gp,ak,simprocAttr]
  refine af ?_ (hK _ ?_)<;>clear hK K
  ·first|exact trivial|omega|(simp only [ah] at *; omega)|(simp [ah] at *; omega)|simp_all
  refine qa (qm ?_)
  refine ab fun K hK=>aa ae ?_
  simp only [an,fl,gp,ak,simprocAttr]
  refine af trivial (hK _ ?_)<;>clear hK K
  refine qa (ql ?_)
  refine aD (ι:=Nat × (Nat→Bool) × (Nat→Nat) × List Int × List Nat) (fun p=>⟨88,[(2,.p (.list (il (nl F)))),(3,.p (.list (il (nl T)))),(4,.ptr 0 0),(5,.ptr 1 0),(9,.sl 2 0 (cu i p.2.1 p.2.2.1).length),(11,.sl 3 p.2.2.2.1.length (nl p.2.2.2.2).length),(12,.p (.int .i64 a)),(46,.p (.list (il (nl F)))),(47,.p (.int .i64 F.length)),(48,.p (.int .i64 p.1))],[.own [.p (.int .i64 i),.p (.list (il m))],.own [.p (.int .i64 N),.p (.list (il M))],.own (ol (cu i p.2.1 p.2.2.1)),.own (ol (p.2.2.2.1++nl p.2.2.2.2))]⟩) (fun p=>p.1≤F.length∧jF i (op m i) e N (op M N) d F T a p.1 p.2.1 p.2.2.1 p.2.2.2.2∧2 * outs i p.2.1 + p.2.2.2.2.length≤2 * outs i S + W'.length) (fun p=>F.length - p.1) (0,S,ψ,J++[((a:Nat):Int)],W') ⟨Nat.zero_le _,hP2,Nat.le_refl _⟩ [0,1,2,3] (by simp only [leq,bx,an,fl,gp,ak,simprocAttr,hnc]<;>first|trivial|exact ⟨rfl,rfl⟩|rfl|(simp [nl]; done)|(simp [ei,aw]; done)|omega|(rw [List.take_of_length_le (by simp only [List.length_append,List.length_cons]; omega)]; done)|exact congrArg ol (List.take_of_length_le (by simp only [List.length_append,List.length_cons]; omega)).symm|exact ⟨by rw [List.take_of_length_le (by simp only [List.length_append,List.length_cons]; omega),List.append_assoc]; rfl,by omega⟩|trace_state) fun p hp'=>?_
  obtain ⟨j,S2,ψ2,J2,W2⟩:=p
  obtain ⟨q1,q2,q3⟩:=hp'
  simp only at q1 q2 q3
  have hpl2:=bp i S2 ψ2
  have hnW2:=ei W2
  refine qm ?_
  refine ab fun K hK=>aa ae ?_
  simp only [an,fl,gp,ak,simprocAttr]
  refine af trivial (hK _ ?_)<;>clear hK K
  refine qa (qm ?_)
  refine aq rfl (fun hC3=>?_) (fun hC3=>?_)
  ·(try simp only [aE] at hC3)
   have hjl:j < F.length:=by omega
   have hFj:=hF j hjl
   have hTj:=hT j hjl
   obtain ⟨_,hSa2⟩:=q2.ha
   have hψa:=q2.lt a ha hSa2
   have hbl:=G.cl _ _ ha hFj
   have pa:=iC (S:=S2) (ψ:=ψ2) ha
   rw [hSa2,if_pos rfl] at pa
   have pb:=iC (S:=S2) (ψ:=ψ2) hbl
   refine qh (qa (qm (ql (qm ?_))))
   refine ab fun K hK=>aa ae ?_
   simp only [an,fl,gp,ak,simprocAttr,aL (show j < (nl F).length by omega),fL hjl]
   refine af ?_ (hK _ ?_)<;>clear hK K
   ·first|exact trivial|omega|(simp only [ah] at *; omega)|(simp [ah] at *; omega)|simp_all
   refine qa (qm ?_)
   refine cZ mixed fun K hK=>aM ae ?_
   simp only [lP,an,fl,gp,ak,simprocAttr,aL (show j < (nl T).length by omega),fL (show j < T.length by omega),bt (show a < (cu i S2 ψ2).length by omega),pa]
   refine bw trivial (bJ (lG Tb ha hFj) rfl rfl rfl rfl (by simp only [ay,Nat.reduceLT]) (by repeat (first|exact trivial|constructor)) (aM ae ?_))
   simp only [lP,an,fl,gp,ak,simprocAttr,aL (show j < (nl T).length by omega),fL (show j < T.length by omega),bt (show a < (cu i S2 ψ2).length by omega),pa]
   refine bw ?_ (bJ (lG Tb' hψa hTj) rfl rfl rfl rfl (by simp only [ay,Nat.reduceLT]) (by repeat (first|exact trivial|constructor)) (aM ae ?_))
   ·first|exact trivial|omega|(simp only [ah] at *; omega)|(simp [ah] at *; omega)|simp_all
   simp only [lP,an,fl,gp,ak,simprocAttr,aL (show j < (nl T).length by omega),fL (show j < T.length by omega),bt (show a < (cu i S2 ψ2).length by omega),pa]
   refine db ?_ (hK _ _ (by first|kernel_rfl|rfl) ?_)<;>clear hK K
   ·first|exact trivial|omega|(simp only [ah] at *; omega)|(simp [ah] at *; omega)|simp_all
   refine qa (qm ?_)
   rcases Bool.eq_false_or_eq_true (S2 (op m i a (F.getD j 0))) with hSb | hSb<;>simp only [hSb,if_true,if_false,Bool.false_eq_true] at pb
   ·refine ab fun K hK=>aa ae ?_
    simp only [an,fl,gp,ak,simprocAttr,bt (show op m i a (F.getD j 0) < (cu i S2 ψ2).length by omega),pb,if_true,if_false,Bool.false_eq_true]
    refine af ?_ (hK _ ?_)<;>clear hK K
    ·first|exact trivial|omega|(simp only [ah] at *; omega)|(simp [ah] at *; omega)|simp_all
    refine qa ?_
    refine aq rfl (fun hC4=>?_) (fun hC4=>?_)
    ·(try simp only [aE] at hC4)
     simp at hC4
     omega
    (try simp only [aE] at hC4)
    have hdum:True:=trivial
    refine qm ?_
    refine ab fun K hK=>aa ae ?_
    simp only [an,fl,gp,ak,simprocAttr,bt (show op m i a (F.getD j 0) < (cu i S2 ψ2).length by omega),pb,if_true]
    refine af ?_ (hK _ ?_)<;>clear hK K
    ·first|exact trivial|omega|(simp only [ah] at *; omega)|(simp [ah] at *; omega)|simp_all
    refine qa ?_
    refine aq rfl (fun hC5=>?_) (fun hC5=>?_)
    ·(try simp only [aE] at hC5)
     have h1:=((q2.rch _ hbl hSb).F4 G K hF hφ).2
     have h2:=((EN.step j hjl (q2.rch a ha hSa2)).F4 G K hF hφ).2
     omega
    (try simp only [aE] at hC5)
    refine qh (qd (qa ?_))
    refine ab fun K hK=>aa ae ?_
    simp only [an,fl,gp,ak,simprocAttr]
    refine af ?_ (hK _ ?_)<;>clear hK K
    ·first|exact trivial|omega|(simp only [ah] at *; omega)|(simp [ah] at *; omega)|simp_all
    refine qa ?_
    have hv:ψ2 (op m i a (F.getD j 0))=op M N (ψ2 a) (T.getD j 0):=by omega
    refine ⟨(j + 1,S2,ψ2,J2,W2),[0,1,2,3],⟨by simp only; omega,q2.aI hSb hv,q3⟩,by simp only; omega,?_⟩
    simp only [leq,bx,an,fl,gp,ak,simprocAttr]<;>first|trivial|omega
   refine ab fun K hK=>aa ae ?_
   simp only [an,fl,gp,ak,simprocAttr,bt (show op m i a (F.getD j 0) < (cu i S2 ψ2).length by omega),pb,if_true,if_false,Bool.false_eq_true]
   refine af ?_ (hK _ ?_)<;>clear hK K
   ·first|exact trivial|omega|(simp only [ah] at *; omega)|(simp [ah] at *; omega)|simp_all
   refine qa ?_
   refine aq rfl (fun hC4=>?_) (fun hC4=>?_)
   ·(try simp only [aE] at hC4)
    refine qm ?_
    refine ab fun K hK=>aa ae ?_
    simp only [an,fl,gp,ak,simprocAttr,cH,dc hbl hSb]
    refine af ?_ (hK _ ?_)<;>clear hK K
    ·first|exact trivial|omega|(simp only [ah] at *; omega)|(simp [ah] at *; omega)|simp_all
    refine qa ?_
    refine ab fun K hK=>aa ae ?_
    simp only [an,fl,gp,ak,simprocAttr]
    refine af ?_ (hK _ ?_)<;>clear hK K
    ·simp only [List.length_append]; omega
    refine qd (qa ?_)
    refine ab fun K hK=>aa ae ?_
    simp only [an,fl,gp,ak,simprocAttr]
    refine af ?_ (hK _ ?_)<;>clear hK K
    ·first|exact trivial|omega|(simp only [ah] at *; omega)|(simp [ah] at *; omega)|simp_all
    refine qa ?_
    have ho:=oS hbl hSb
    refine ⟨(j + 1,dV S2 (op m i a (F.getD j 0)),jA ψ2 (op m i a (F.getD j 0)) (op M N (ψ2 a) (T.getD j 0)),[],W2++[op m i a (F.getD j 0)]),[0,1,2,4],⟨by simp only; omega,q2.push G K hF hT hjl hSb,by simp only [List.length_append,List.length_cons,List.length_nil]; omega⟩,by simp only; omega,?_⟩
    simp only [yh]
    simp only [leq,bx,an,fl,gp,ak,simprocAttr]<;>first|trivial|omega|(simp [bp]; done)|exact ⟨by rw [List.drop_left,List.take_length,List.take_of_length_le (by simp)],by rw [bp,bp]⟩|trace_state
   (try simp only [aE] at hC4)
   simp at hC4
  (try simp only [aE] at hC3)
  obtain rfl:j=F.length:=by omega
  refine qj (qc (qc (qf (qd (qa ?_)))))
  refine ⟨(S2,ψ2,J2,W2),[0,1,2,3],⟨q2.done,by simp only; omega⟩,by simp only [List.length_cons]; omega,?_⟩
  simp only [leq,bx,an,fl,gp,ak,simprocAttr]<;>first|trivial|omega
 (try simp only [aE] at hC2)
 obtain rfl:W=[]:=by
  cases W with
  | nil=>rfl
  | cons x w=>simp [nl] at hC2
 obtain ⟨hall,hext⟩:=hp.fin G K hF hT hgen
 have hφe:∀ a,a < i→S a=true∧ψ a=φ a:=fun a ha=>⟨hall a ha,((hp.rch a ha (hall a ha)).F4 G K hF hφ).2.symm⟩
 have htl:=oy i φ
 rw [tY hφe]
 refine qj (qc (qc (qf (qa (qm ?_)))))
 refine ab fun K hK=>aa ae ?_
 simp only [an,fl,gp,ak,simprocAttr]
 refine af trivial (hK _ ?_)<;>clear hK K
 refine qa (qk ?_)
 simp only [Tryd.results35,eR,gq,dk,kR,bY,an,fl,gp,ak,simprocAttr]
 all_goals (exact ⟨[2],rfl,rfl,rfl,by simp,⟨⟨by rw [show bq (il (xr i φ))=ol (xr i φ) from rfl,nC,dX],jY _ _⟩,trivial⟩,trivial⟩)
set_option maxHeartbeats 4000000 in
theorem yW (h:GT n m n e) (h' : GT N M N d) (F T:List Nat) (hFT:F.length=T.length) (hFl:F.length≤1000000) (hF:∀ i,i < F.length→F.getD i 0 < n) (hT:∀ i,i < F.length→T.getD i 0 < N) (hgen:∀ a,a < n→dC n (op m n) e (fun x=>decide (x∈F)) a) (hφ:∀ φ,¬ Ext n (op m n) N (op M N) F T φ):wz Tryd.prog 35 [gp n m,gp N M,.list (il (nl F)),.list (il (nl T))] (.p .nil) []:=by
 have G:=h.2.2
 have K:=h'.2.2
 have Tb:=h.2.1
 have Tb':=h'.2.1
 have hb:=Tb.big
 have hb':=Tb'.big
 have hlF:=ei F
 have hlT:=ei T
 have hel:=G.el
 have hr0:=fj n (fun a=>if a < n then -1 else 0)
 refine nc ae Tryd.func35 rfl (by kernel_rfl) (by rw [Tryd.ntmps35]; exact Nat.le_add_left 4 _) ?_; rw [Tryd.ntmps35]
 refine qm ?_
 refine ab fun K hK=>aa ae ?_
 simp only [an,fl,gp,ak,simprocAttr]
 refine af ?_ (hK _ ?_)<;>clear hK K
 ·first|exact trivial|omega|(simp only [ah] at *; omega)|(simp [ah] at *; omega)|simp_all
 refine qa (qm ?_)
 refine ab fun K hK=>aa ae ?_
 simp only [an,fl,gp,ak,simprocAttr,cq.eq_def,rY]
 refine af ?_ (hK _ ?_)<;>clear hK K
 ·omega
 refine qa (qm (qm ?_))
 refine ab fun K hK=>aa ae ?_
 simp only [an,fl,gp,ak,simprocAttr]
 refine af trivial (hK _ ?_)<;>clear hK K
 refine qa (ql ?_)
 refine aD (ι:=Nat) (fun i=>⟨88,[(2,.p (.list (il (nl F)))),(3,.p (.list (il (nl T)))),(4,.ptr 0 0),(5,.ptr 1 0),(9,.sl 2 0 n),(21,.p (.int .i64 n)),(22,.p (.int .i64 i))],[.own [.p (.int .i64 n),.p (.list (il m))],.own [.p (.int .i64 N),.p (.list (il M))],.own (ol (mq n fun a=>if a < i then -1 else 0))]⟩) (fun i=>i≤n) (fun i=>n - i) 0 (Nat.zero_le _) [0,1,2] (by simp only [leq,bx,an,fl,gp,ak,simprocAttr]<;>first|trivial|(simp [mq]; done)|(simp [mq,List.take_of_length_le]; done)) fun i hi=>?_
 have hr:=fj n (fun a=>if a < i then -1 else 0)
 refine qm ?_
 refine ab fun K hK=>aa ae ?_
 simp only [an,fl,gp,ak,simprocAttr]
 refine af trivial (hK _ ?_)<;>clear hK K
 refine qa (qm ?_)
 refine aq rfl (fun hC1=>?_) (fun hC1=>?_)
 ·(try simp only [aE] at hC1)
  have hlt:i < n:=by omega
  have hse:(mq n fun a=>if a < i then -1 else 0).set i (-1)=mq n fun a=>if a < i + 1 then -1 else 0:=by
   rw [sU]
   exact kL fun a ha=>by
    by_cases e:a=i
    ·simp [e]
    by_cases e2:a < i
    ·simp [e,e2,show a < i + 1 by omega]
    simp [e,e2,show ¬ a < i + 1 by omega]
  refine qh (qa (qm (ql (qm ?_))))
  refine ab fun K hK=>aa ae ?_
  simp only [an,fl,gp,ak,simprocAttr]
  refine af trivial (hK _ ?_)<;>clear hK K
  refine qa ?_
  refine ab fun K hK=>aa ae ?_
  simp only [an,fl,gp,ak,simprocAttr,cH,hse]
  refine af ?_ (hK _ ?_)<;>clear hK K
  ·first|exact trivial|omega|(simp only [ah] at *; omega)|(simp [ah] at *; omega)|simp_all
  refine qd (qa ?_)
  refine ab fun K hK=>aa ae ?_
  simp only [an,fl,gp,ak,simprocAttr]
  refine af ?_ (hK _ ?_)<;>clear hK K
  ·first|exact trivial|omega|(simp only [ah] at *; omega)|(simp [ah] at *; omega)|simp_all
  refine qa ?_
  refine ⟨i + 1,[0,1,2],by omega,by omega,?_⟩
  simp only [leq,bx,an,fl,gp,ak,simprocAttr]<;>first|trivial|omega|(simp [dg,fj]; done)
 (try simp only [aE] at hC1)
 obtain rfl:i=n:=by omega
 rw [tj]
 have hp0:=bp i (fun _=>false) (fun _=>0)
 refine qj (qc (qc (qf (qa (qm ?_)))))
 refine cZ mixed fun K hK=>aM ae ?_
 simp only [lP,an,fl,gp,ak,simprocAttr,cH,dc (S:=fun _=>false) (ψ:=fun _=>0) hel rfl]
 refine bw trivial (bJ (ff h) rfl rfl rfl rfl (by simp only [ay,Nat.reduceLT]) (by repeat (first|exact trivial|constructor)) (aM ae ?_))
 simp only [lP,an,fl,gp,ak,simprocAttr,cH,dc (S:=fun _=>false) (ψ:=fun _=>0) hel rfl]
 refine bw trivial (bJ (ff h') rfl rfl rfl rfl (by simp only [ay,Nat.reduceLT]) (by repeat (first|exact trivial|constructor)) (aM ae ?_))
 simp only [lP,an,fl,gp,ak,simprocAttr,cH,dc (S:=fun _=>false) (ψ:=fun _=>0) hel rfl]
 refine db ?_ (hK _ _ (by first|kernel_rfl|rfl) ?_)<;>clear hK K
 ·first|exact trivial|omega|(simp only [ah] at *; omega)|(simp [ah] at *; omega)|simp_all
 refine qa (qm ?_)
 refine ab fun K hK=>aa ae ?_
 simp only [an,fl,gp,ak,simprocAttr]
 refine ao trivial (au (ff h) rfl rfl rfl (by simp only [ay,Nat.reduceLT]) (by repeat (first|exact trivial|constructor)) (cB (iB (n:=1) (l:=[.int .i64 ((e:Nat):Int)]) ae rfl rfl rfl rfl rfl rfl rfl ⟨⟨rfl,rfl,rfl⟩,trivial⟩ rfl (by decide) rfl) rfl (show (37:Nat) < 88 by decide) (aa ae ?_)))
 simp only [an,fl,gp,ak,simprocAttr]
 refine af ?_ (hK _ ?_)<;>clear hK K
 ·trivial
 refine qa (qm (ql ?_))
 refine aD (ι:=(Nat→Bool) × (Nat→Nat) × List Int × List Nat) (fun p=>⟨88,[(2,.p (.list (il (nl F)))),(3,.p (.list (il (nl T)))),(4,.ptr 0 0),(5,.ptr 1 0),(9,.sl 2 0 (cu i p.1 p.2.1).length),(11,.sl 3 p.2.2.1.length (nl p.2.2.2).length)],[.own [.p (.int .i64 i),.p (.list (il m))],.own [.p (.int .i64 N),.p (.list (il M))],.own (ol (cu i p.1 p.2.1)),.own (ol (p.2.2.1++nl p.2.2.2))]⟩) (fun p=>qK i (op m i) e N (op M N) d F T p.1 p.2.1 p.2.2.2∧2 * outs i p.1 + p.2.2.2.length≤200) (fun p=>2 * outs i p.1 + p.2.2.2.length) (dV (fun _=>false) e,jA (fun _=>0) e d,[],[e]) ⟨qK.begin G K,by have:=yj i (dV (fun _=>false) e); simp only [List.length_cons,List.length_nil]; omega⟩ [0,1,2,3] (by simp only [leq,bx,an,fl,gp,ak,simprocAttr]<;>first|trivial|exact ⟨rfl,rfl⟩|rfl|(simp [bp]; done)|(simp [ol,bq,il,nl,bp]; done)|(simp [bp,List.take_of_length_le]; done)) fun p hp=>?_
 obtain ⟨S,ψ,J,W⟩:=p
 obtain ⟨hp,hbd⟩:=hp
 simp only at hp hbd
 have hpl:=bp i S ψ
 have hnW:=ei W
 refine qm (qm ?_)
 refine ab fun K hK=>aa ae ?_
 simp only [an,fl,gp,ak,simprocAttr]
 refine af trivial (hK _ ?_)<;>clear hK K
 refine qa ?_
 refine aq rfl (fun hC2=>?_) (fun hC2=>?_)
 ·(try simp only [aE] at hC2)
  obtain ⟨a,W',rfl⟩:∃ a W',W=a :: W':=by
   cases W with
   | nil=>simp [nl] at hC2
   | cons x w'=>exact ⟨x,w',rfl⟩
  have hnc:=oD a W'
  have hnW':=ei W'
  have hP2:=hp.pop
  simp only [List.length_cons] at hbd
  obtain ⟨ha,hSa⟩:=hP2.ha
  refine qh (qa (ql (qm ?_)))
  refine ab fun K hK=>aa ae ?_
  simp only [an,fl,gp,ak,simprocAttr,hnc,wT,Nat.add_zero]
  refine af ?_ (hK _ ?_)<;>clear hK K
  ·simp only [List.length_append,List.length_cons]; omega
  refine qa (qm ?_)
  refine ab fun K hK=>aa ae ?_
  simp only [an,fl,gp,ak,simprocAttr]
  refine af ?_ (hK _ ?_)<;>clear hK K
  ·first|exact trivial|omega|(simp only [ah] at *; omega)|(simp [ah] at *; omega)|simp_all
  refine qa (qm ?_)
  refine ab fun K hK=>aa ae ?_
  simp only [an,fl,gp,ak,simprocAttr]
  refine af trivial (hK _ ?_)<;>clear hK K
  refine qa (ql ?_)
  refine aD (ι:=Nat × (Nat→Bool) × (Nat→Nat) × List Int × List Nat) (fun p=>⟨88,[(2,.p (.list (il (nl F)))),(3,.p (.list (il (nl T)))),(4,.ptr 0 0),(5,.ptr 1 0),(9,.sl 2 0 (cu i p.2.1 p.2.2.1).length),(11,.sl 3 p.2.2.2.1.length (nl p.2.2.2.2).length),(12,.p (.int .i64 a)),(46,.p (.list (il (nl F)))),(47,.p (.int .i64 F.length)),(48,.p (.int .i64 p.1))],[.own [.p (.int .i64 i),.p (.list (il m))],.own [.p (.int .i64 N),.p (.list (il M))],.own (ol (cu i p.2.1 p.2.2.1)),.own (ol (p.2.2.2.1++nl p.2.2.2.2))]⟩) (fun p=>p.1≤F.length∧jF i (op m i) e N (op M N) d F T a p.1 p.2.1 p.2.2.1 p.2.2.2.2∧2 * outs i p.2.1 + p.2.2.2.2.length≤2 * outs i S + W'.length) (fun p=>F.length - p.1) (0,S,ψ,J++[((a:Nat):Int)],W') ⟨Nat.zero_le _,hP2,Nat.le_refl _⟩ [0,1,2,3] (by simp only [leq,bx,an,fl,gp,ak,simprocAttr,hnc]<;>first|trivial|exact ⟨rfl,rfl⟩|rfl|(simp [nl]; done)|(simp [ei,aw]; done)|omega|(rw [List.take_of_length_le (by simp only [List.length_append,List.length_cons]; omega)]; done)|exact congrArg ol (List.take_of_length_le (by simp only [List.length_append,List.length_cons]; omega)).symm|exact ⟨by rw [List.take_of_length_le (by simp only [List.length_append,List.length_cons]; omega),List.append_assoc]; rfl,by omega⟩|trace_state) fun p hp'=>?_
  obtain ⟨j,S2,ψ2,J2,W2⟩:=p
  obtain ⟨q1,q2,q3⟩:=hp'
  simp only at q1 q2 q3
  have hpl2:=bp i S2 ψ2
  have hnW2:=ei W2
  refine qm ?_
  refine ab fun K hK=>aa ae ?_
  simp only [an,fl,gp,ak,simprocAttr]
  refine af trivial (hK _ ?_)<;>clear hK K
  refine qa (qm ?_)
  refine aq rfl (fun hC3=>?_) (fun hC3=>?_)
  ·(try simp only [aE] at hC3)
   have hjl:j < F.length:=by omega
   have hFj:=hF j hjl
   have hTj:=hT j hjl
   obtain ⟨_,hSa2⟩:=q2.ha
   have hψa:=q2.lt a ha hSa2
   have hbl:=G.cl _ _ ha hFj
   have pa:=iC (S:=S2) (ψ:=ψ2) ha
   rw [hSa2,if_pos rfl] at pa
   have pb:=iC (S:=S2) (ψ:=ψ2) hbl
   refine qh (qa (qm (ql (qm ?_))))
   refine ab fun K hK=>aa ae ?_
   simp only [an,fl,gp,ak,simprocAttr,aL (show j < (nl F).length by omega),fL hjl]
   refine af ?_ (hK _ ?_)<;>clear hK K
   ·first|exact trivial|omega|(simp only [ah] at *; omega)|(simp [ah] at *; omega)|simp_all
   refine qa (qm ?_)
   refine cZ mixed fun K hK=>aM ae ?_
   simp only [lP,an,fl,gp,ak,simprocAttr,aL (show j < (nl T).length by omega),fL (show j < T.length by omega),bt (show a < (cu i S2 ψ2).length by omega),pa]
   refine bw trivial (bJ (lG Tb ha hFj) rfl rfl rfl rfl (by simp only [ay,Nat.reduceLT]) (by repeat (first|exact trivial|constructor)) (aM ae ?_))
   simp only [lP,an,fl,gp,ak,simprocAttr,aL (show j < (nl T).length by omega),fL (show j < T.length by omega),bt (show a < (cu i S2 ψ2).length by omega),pa]
   refine bw ?_ (bJ (lG Tb' hψa hTj) rfl rfl rfl rfl (by simp only [ay,Nat.reduceLT]) (by repeat (first|exact trivial|constructor)) (aM ae ?_))
   ·first|exact trivial|omega|(simp only [ah] at *; omega)|(simp [ah] at *; omega)|simp_all
   simp only [lP,an,fl,gp,ak,simprocAttr,aL (show j < (nl T).length by omega),fL (show j < T.length by omega),bt (show a < (cu i S2 ψ2).length by omega),pa]
   refine db ?_ (hK _ _ (by first|kernel_rfl|rfl) ?_)<;>clear hK K
   ·first|exact trivial|omega|(simp only [ah] at *; omega)|(simp [ah] at *; omega)|simp_all
   refine qa (qm ?_)
   rcases Bool.eq_false_or_eq_true (S2 (op m i a (F.getD j 0))) with hSb | hSb<;>simp only [hSb,if_true,if_false,Bool.false_eq_true] at pb
   ·refine ab fun K hK=>aa ae ?_
    simp only [an,fl,gp,ak,simprocAttr,bt (show op m i a (F.getD j 0) < (cu i S2 ψ2).length by omega),pb,if_true,if_false,Bool.false_eq_true]
    refine af ?_ (hK _ ?_)<;>clear hK K
    ·first|exact trivial|omega|(simp only [ah] at *; omega)|(simp [ah] at *; omega)|simp_all
    refine qa ?_
    refine aq rfl (fun hC4=>?_) (fun hC4=>?_)
    ·(try simp only [aE] at hC4)
     simp at hC4
     omega
    (try simp only [aE] at hC4)
    have hdum:True:=trivial
    refine qm ?_
    refine ab fun K hK=>aa ae ?_
    simp only [an,fl,gp,ak,simprocAttr,bt (show op m i a (F.getD j 0) < (cu i S2 ψ2).length by omega),pb,if_true]
    refine af ?_ (hK _ ?_)<;>clear hK K
    ·first|exact trivial|omega|(simp only [ah] at *; omega)|(simp [ah] at *; omega)|simp_all
    refine qa ?_
    refine aq rfl (fun hC5=>?_) (fun hC5=>?_)
    ·(try simp only [aE] at hC5)
     refine qm ?_
     refine ab fun K hK=>aa ae ?_
     simp only [an,fl,gp,ak,simprocAttr]
     refine af trivial (hK _ ?_)<;>clear hK K
     refine qa (qk (qe (qb (qb (qe (qe (qb (qe (qb ?_)))))))))
     simp only [Tryd.results35,eR,gq,dk,kR,bY,an,fl,gp,ak,simprocAttr]
     all_goals (exact ⟨[],rfl,rfl,by simp only [leq,bx,an,fl,gp,ak,simprocAttr]<;>first|trivial|omega⟩)
    (try simp only [aE] at hC5)
    refine qh (qd (qa ?_))
    refine ab fun K hK=>aa ae ?_
    simp only [an,fl,gp,ak,simprocAttr]
    refine af ?_ (hK _ ?_)<;>clear hK K
    ·first|exact trivial|omega|(simp only [ah] at *; omega)|(simp [ah] at *; omega)|simp_all
    refine qa ?_
    have hv:ψ2 (op m i a (F.getD j 0))=op M N (ψ2 a) (T.getD j 0):=by omega
    refine ⟨(j + 1,S2,ψ2,J2,W2),[0,1,2,3],⟨by simp only; omega,q2.aI hSb hv,q3⟩,by simp only; omega,?_⟩
    simp only [leq,bx,an,fl,gp,ak,simprocAttr]<;>first|trivial|omega
   refine ab fun K hK=>aa ae ?_
   simp only [an,fl,gp,ak,simprocAttr,bt (show op m i a (F.getD j 0) < (cu i S2 ψ2).length by omega),pb,if_true,if_false,Bool.false_eq_true]
   refine af ?_ (hK _ ?_)<;>clear hK K
   ·first|exact trivial|omega|(simp only [ah] at *; omega)|(simp [ah] at *; omega)|simp_all
   refine qa ?_
   refine aq rfl (fun hC4=>?_) (fun hC4=>?_)
   ·(try simp only [aE] at hC4)
    refine qm ?_
    refine ab fun K hK=>aa ae ?_
    simp only [an,fl,gp,ak,simprocAttr,cH,dc hbl hSb]
    refine af ?_ (hK _ ?_)<;>clear hK K
    ·first|exact trivial|omega|(simp only [ah] at *; omega)|(simp [ah] at *; omega)|simp_all
    refine qa ?_
    refine ab fun K hK=>aa ae ?_
    simp only [an,fl,gp,ak,simprocAttr]
    refine af ?_ (hK _ ?_)<;>clear hK K
    ·simp only [List.length_append]; omega
    refine qd (qa ?_)
    refine ab fun K hK=>aa ae ?_
    simp only [an,fl,gp,ak,simprocAttr]
    refine af ?_ (hK _ ?_)<;>clear hK K
    ·first|exact trivial|omega|(simp only [ah] at *; omega)|(simp [ah] at *; omega)|simp_all
    refine qa ?_
    have ho:=oS hbl hSb
    refine ⟨(j + 1,dV S2 (op m i a (F.getD j 0)),jA ψ2 (op m i a (F.getD j 0)) (op M N (ψ2 a) (T.getD j 0)),[],W2++[op m i a (F.getD j 0)]),[0,1,2,4],⟨by simp only; omega,q2.push G K hF hT hjl hSb,by simp only [List.length_append,List.length_cons,List.length_nil]; omega⟩,by simp only; omega,?_⟩
    simp only [yh]
    simp only [leq,bx,an,fl,gp,ak,simprocAttr]<;>first|trivial|omega|(simp [bp]; done)|exact ⟨by rw [List.drop_left,List.take_length,List.take_of_length_le (by simp)],by rw [bp,bp]⟩|trace_state
   (try simp only [aE] at hC4)
   simp at hC4
  (try simp only [aE] at hC3)
  obtain rfl:j=F.length:=by omega
  refine qj (qc (qc (qf (qd (qa ?_)))))
  refine ⟨(S2,ψ2,J2,W2),[0,1,2,3],⟨q2.done,by simp only; omega⟩,by simp only [List.length_cons]; omega,?_⟩
  simp only [leq,bx,an,fl,gp,ak,simprocAttr]<;>first|trivial|omega
 (try simp only [aE] at hC2)
 obtain rfl:W=[]:=by
  cases W with
  | nil=>rfl
  | cons x w=>simp [nl] at hC2
 obtain ⟨hall,hext⟩:=hp.fin G K hF hT hgen
 exact absurd hext (hφ ψ)
end
open Go.Pv
section
variable {n N e d:Nat} {f g:Nat→Nat→Nat} {F T:List Nat} {φ:Nat→Nat}
structure za (n:Nat) (f:Nat→Nat→Nat) (e N:Nat) (g:Nat→Nat→Nat) (d:Nat) (F T:List Nat) (S:Nat→Bool) (ψ:Nat→Nat):Prop where
 one:S e=true∧ψ e=d
 lt:∀ a,a < n→S a=true→ψ a < N
 ref:∀ φ,Ext n f N g F T φ→∀ a,a < n→S a=true→ψ a=φ a
def HJ (f g:Nat→Nat→Nat) (F T:List Nat) (S:Nat→Bool) (ψ:Nat→Nat) (a j:Nat):Prop:=S a=true→∀ i,i < j→S (f (F.getD i 0) a)=true∧ψ (f (F.getD i 0) a)=g (T.getD i 0) (ψ a)
theorem za.begin (G:ba n f e) (K:ba N g d):za n f e N g d F T (dV (fun _=>false) e) (jA (fun _=>0) e d) where
 one:=⟨by simp [dV],eJ⟩
 lt a ha h:=by
  have:a=e:=by simpa [dV] using h
  rw [this,eJ]; exact K.el
 ref φ hφ a ha h:=by
  have:a=e:=by simpa [dV] using h
  rw [this,eJ,hφ.1.one G K]
theorem za.val (G:ba n f e) (hF:∀ i,i < F.length→F.getD i 0 < n) {S:Nat→Bool} {ψ:Nat→Nat} (h:za n f e N g d F T S ψ) (hφ:Ext n f N g F T φ) {a i:Nat} (ha:a < n) (hS:S a=true) (hi:i < F.length):φ (f (F.getD i 0) a)=g (T.getD i 0) (ψ a):=by
 rw [hφ.1.mul _ _ (hF i hi) ha,hφ.2 i hi,h.ref φ hφ a ha hS]
theorem za.push (G:ba n f e) (K:ba N g d) (hF:∀ i,i < F.length→F.getD i 0 < n) (hT:∀ i,i < F.length→T.getD i 0 < N) {S:Nat→Bool} {ψ:Nat→Nat} (h:za n f e N g d F T S ψ) {a i:Nat} (ha:a < n) (hS:S a=true) (hi:i < F.length) (hb:S (f (F.getD i 0) a)=false) :
  za n f e N g d F T (dV S (f (F.getD i 0) a)) (jA ψ (f (F.getD i 0) a) (g (T.getD i 0) (ψ a))):=by
 have hne:∀ x,S x=true→x ≠ f (F.getD i 0) a:=fun x hx e=>by rw [e,hb] at hx; cases hx
 refine ⟨⟨cj.2 (.inl h.one.1),by rw [hZ (hne _ h.one.1)]; exact h.one.2⟩,fun x hx hx2=>?_,fun φ hφ x hx hx2=>?_⟩
 ·rcases cj.1 hx2 with h1 | rfl
  ·rw [hZ (hne _ h1)]; exact h.lt x hx h1
  rw [eJ]; exact K.cl _ _ (hT i hi) (h.lt a ha hS)
 rcases cj.1 hx2 with h1 | rfl
 ·rw [hZ (hne _ h1)]; exact h.ref φ hφ x hx h1
 rw [eJ,← h.val G hF hφ ha hS hi]
theorem za.fin (G:ba n f e) (K:ba N g d) (hF:∀ i,i < F.length→F.getD i 0 < n) (hT:∀ i,i < F.length→T.getD i 0 < N) (hgen:∀ a,a < n→dC n f e (fun x=>decide (x∈F)) a) {S:Nat→Bool} {ψ:Nat→Nat} (h:za n f e N g d F T S ψ) (hc:∀ a,a < n→HJ f g F T S ψ a F.length) :
  (∀ a,a < n→S a=true)∧Ext n f N g F T ψ:=by
 have hFx:∀ x,x∈F→∃ i,i < F.length∧F.getD i 0=x:=fun x hx=>by
  obtain ⟨i,hi,rfl⟩:=List.getElem_of_mem hx
  exact ⟨i,hi,by simp [List.getD,List.getElem?_eq_getElem hi]⟩
 have hall:∀ a,a < n→S a=true:=fun a ha=>by
  have key:a < n∧∀ b,b < n→S b=true→S (f a b)=true:=dC.least (H:=fun a=>a < n∧∀ b,b < n→S b=true→S (f a b)=true) ⟨G.el,fun b hb hS=>by rw [G.one_l b hb]; exact hS⟩ (fun c x _ hx hp ih=>⟨G.cl _ _ ih.1 hx,fun b hb hS=>by
   obtain ⟨i,hi,rfl⟩:=hFx x (by simpa using hp)
   rw [G.assoc _ _ _ ih.1 hx hb]
   exact ih.2 _ (G.cl _ _ hx hb) (hc b hb hS i hi).1⟩) (hgen a ha)
  have:=key.2 e G.el h.one.1
  rwa [G.one_r a ha] at this
 have hx1:∀ i,i < F.length→ψ (F.getD i 0)=T.getD i 0:=fun i hi=>by
  have:=(hc e G.el h.one.1 i hi).2
  rwa [G.one_r _ (hF i hi),h.one.2,K.one_r _ (hT i hi)] at this
 refine ⟨hall,⟨fun a ha=>h.lt a ha (hall a ha),fun a b ha hb=>?_⟩,hx1⟩
 have key:a < n∧∀ b,b < n→ψ (f a b)=g (ψ a) (ψ b):=dC.least (H:=fun a=>a < n∧∀ b,b < n→ψ (f a b)=g (ψ a) (ψ b)) ⟨G.el,fun b hb=>by rw [G.one_l b hb,h.one.2,K.one_l _ (h.lt b hb (hall b hb))]⟩ (fun c x _ hx hp ih=>⟨G.cl _ _ ih.1 hx,fun b hb=>by
  obtain ⟨i,hi,rfl⟩:=hFx x (by simpa using hp)
  have h1:=h.lt _ ih.1 (hall _ ih.1)
  have h2:=h.lt b hb (hall b hb)
  rw [G.assoc _ _ _ ih.1 hx hb,ih.2 _ (G.cl _ _ hx hb),(hc b hb (hall b hb) i hi).2,ih.2 _ hx,hx1 i hi,K.assoc _ _ _ h1 (hT i hi) h2]⟩) (hgen a ha)
 exact key.2 b hb
theorem H6 (p q:Prop):¬ p∨(p∧q)∨(p∧¬ q):=by
 by_cases hp:p
 ·by_cases hq:q
  ·exact .inr (.inl ⟨hp,hq⟩)
  exact .inr (.inr ⟨hp,hq⟩)
 exact .inl hp
theorem DW {S:Nat→Bool} {b:Nat} (hb:b < n) (hS:S b=false):outs n (dV S b) < outs n S:=by
 have:=oS hb hS
 omega
end
section
variable {n e N d:Nat} {m M:List Int}
set_option maxHeartbeats 4000000 in
theorem vK (h:GT n m n e) (h' : GT N M N d) (F T:List Nat) (hFT:F.length=T.length) (hFl:F.length≤1000000) (hF:∀ i,i < F.length→F.getD i 0 < n) (hT:∀ i,i < F.length→T.getD i 0 < N) (hgen:∀ a,a < n→dC n (op m n) e (fun x=>decide (x∈F)) a) {φ:Nat→Nat} (hφ:Ext n (op m n) N (op M N) F T φ):wz Tryd.prog 17 [gp n m,gp N M,.list (il (nl F)),.list (il (nl T))] (.sl 0 0 (il (xr n φ)).length) [.own (bq (il (xr n φ)))]:=by
 have G:=h.2.2
 have GG:=h'.2.2
 have Tb:=h.2.1
 have Tb':=h'.2.1
 have hb:=Tb.big
 have hb':=Tb'.big
 have hlF:=ei F
 have hlT:=ei T
 have hel:=G.el
 have hde:=GG.el
 have he1:=h.eI
 have he2:=h'.eI
 have hrz:(mq n fun a=>if a < 0 then (-1:Int) else 0)=mq n fun _=>0:=kL fun a ha=>by simp
 refine nc ae Tryd.func17 rfl (by kernel_rfl) (by rw [Tryd.ntmps17]; exact Nat.le_add_left 4 _) ?_; rw [Tryd.ntmps17]
 refine qm ?_
 refine ab fun K hK=>aa ae ?_
 simp only [an,fl,gp,ak,simprocAttr]
 refine af ?_ (hK _ ?_)<;>clear hK K
 ·first|exact trivial|omega|(simp only [ah] at *; omega)|(simp [ah] at *; omega)|simp_all
 refine qa (qm ?_)
 refine ab fun K hK=>aa ae ?_
 simp only [an,fl,gp,ak,simprocAttr,cq.eq_def,rY]
 refine af ?_ (hK _ ?_)<;>clear hK K
 ·omega
 refine qa (qm (qm ?_))
 refine ab fun K hK=>aa ae ?_
 simp only [an,fl,gp,ak,simprocAttr]
 refine af trivial (hK _ ?_)<;>clear hK K
 refine qa (ql ?_)
 refine aD (ι:=Nat) (fun i=>⟨87,[(2,.p (.list (il (nl F)))),(3,.p (.list (il (nl T)))),(4,.ptr 0 0),(5,.ptr 1 0),(9,.sl 2 0 n),(10,.p (.int .i64 i))],[.own [.p (.int .i64 n),.p (.list (il m))],.own [.p (.int .i64 N),.p (.list (il M))],.own (ol (mq n fun a=>if a < i then -1 else 0))]⟩) (fun i=>i≤n) (fun i=>n - i) 0 (Nat.zero_le _) [0,1,2] (by simp only [leq,bx,an,fl,gp,ak,simprocAttr]<;>first|trivial|exact ⟨rfl,rfl⟩|(rw [hrz,List.take_of_length_le (by rw [fj]; exact Nat.le_refl _)]; done)|(simp [fj]; done)|trace_state) fun i hi=>?_
 have hr:=fj n (fun a=>if a < i then -1 else 0)
 refine qm (qm ?_)
 refine ab fun K hK=>aa ae ?_
 simp only [an,fl,gp,ak,simprocAttr]
 refine af ?_ (hK _ ?_)<;>clear hK K
 ·first|exact trivial|omega|(simp only [ah] at *; omega)|(simp [ah] at *; omega)|simp_all
 refine qa ?_
 refine aq rfl (fun hC1=>?_) (fun hC1=>?_)
 ·(try simp only [aE] at hC1)
  have hlt:i < n:=by omega
  have hse:(mq n fun a=>if a < i then -1 else 0).set i (-1)=mq n fun a=>if a < i + 1 then -1 else 0:=by
   rw [sU]
   exact kL fun a ha=>by
    by_cases e:a=i
    ·simp [e]
    by_cases e2:a < i
    ·simp [e,e2,show a < i + 1 by omega]
    simp [e,e2,show ¬ a < i + 1 by omega]
  refine qh (qa (qm (ql ?_)))
  refine ab fun K hK=>aa ae ?_
  simp only [an,fl,gp,ak,simprocAttr,cH,hse]
  refine af ?_ (hK _ ?_)<;>clear hK K
  ·first|exact trivial|omega|(simp only [ah] at *; omega)|(simp [ah] at *; omega)|simp_all
  refine qd (qa ?_)
  refine ab fun K hK=>aa ae ?_
  simp only [an,fl,gp,ak,simprocAttr]
  refine af ?_ (hK _ ?_)<;>clear hK K
  ·first|exact trivial|omega|(simp only [ah] at *; omega)|(simp [ah] at *; omega)|simp_all
  refine qa ?_
  refine ⟨i + 1,[0,1,2],by omega,by omega,?_⟩
  simp only [leq,bx,an,fl,gp,ak,simprocAttr]<;>first|trivial|omega|(simp [dg,fj]; done)
 (try simp only [aE] at hC1)
 obtain rfl:i=n:=by omega
 rw [tj]
 have hp0:=bp i (fun _=>false) (fun _=>0)
 refine qj (qc (qc (qf (qa (qm ?_)))))
 refine cZ mixed fun K hK=>aM ae ?_
 simp only [lP,an,fl,gp,ak,simprocAttr,he1,he2,cH,dc (S:=fun _=>false) (ψ:=fun _=>0) hel rfl]
 refine bw trivial (bJ (FB Tb) rfl rfl rfl rfl (by simp only [ay,Nat.reduceLT]) (by repeat (first|exact trivial|constructor)) (aM ae ?_))
 simp only [lP,an,fl,gp,ak,simprocAttr,he1,he2,cH,dc (S:=fun _=>false) (ψ:=fun _=>0) hel rfl]
 refine bw trivial (bJ (FB Tb') rfl rfl rfl rfl (by simp only [ay,Nat.reduceLT]) (by repeat (first|exact trivial|constructor)) (aM ae ?_))
 simp only [lP,an,fl,gp,ak,simprocAttr,he1,he2,cH,dc (S:=fun _=>false) (ψ:=fun _=>0) hel rfl]
 refine db ?_ (hK _ _ (by first|kernel_rfl|rfl) ?_)<;>clear hK K
 ·first|exact trivial|omega|(simp only [ah] at *; omega)|(simp [ah] at *; omega)|simp_all
 refine qa (qm (qm ?_))
 refine ab fun K hK=>aa ae ?_
 simp only [an,fl,gp,ak,simprocAttr]
 refine af trivial (hK _ ?_)<;>clear hK K
 refine qa (ql ?_)
 refine aD (ι:=(Nat→Bool) × (Nat→Nat) × Bool) (fun p=>⟨87,[(2,.p (.list (il (nl F)))),(3,.p (.list (il (nl T)))),(4,.ptr 0 0),(5,.ptr 1 0),(9,.sl 2 0 i),(11,.p (.bool p.2.2))],[.own [.p (.int .i64 i),.p (.list (il m))],.own [.p (.int .i64 N),.p (.list (il M))],.own (ol (cu i p.1 p.2.1))]⟩) (fun p=>za i (op m i) e N (op M N) d F T p.1 p.2.1∧(p.2.2=false→∀ a,a < i→HJ (op m i) (op M N) F T p.1 p.2.1 a F.length)) (fun p=>2 * outs i p.1 + p.2.2.toNat) (dV (fun _=>false) e,jA (fun _=>0) e d,true) ⟨za.begin G GG,fun h=>by cases h⟩ [0,1,2] (by simp only [leq,bx,an,fl,gp,ak,simprocAttr]<;>first|trivial|exact ⟨rfl,rfl⟩|(simp [bp]; done)|trace_state) fun p hp=>?_
 obtain ⟨S0,ψ0,ag⟩:=p
 obtain ⟨hp,hag⟩:=hp
 simp only at hp hag
 refine qm (qm ?_)
 refine ab fun K hK=>aa ae ?_
 simp only [an,fl,gp,ak,simprocAttr]
 refine af trivial (hK _ ?_)<;>clear hK K
 refine qa ?_
 refine aq rfl (fun hC2=>?_) (fun hC2=>?_)
 ·(try simp only [aE] at hC2)
  subst hC2
  refine qh (qa (ql (qm ?_)))
  refine ab fun K hK=>aa ae ?_
  simp only [an,fl,gp,ak,simprocAttr]
  refine af trivial (hK _ ?_)<;>clear hK K
  refine qa (qm ?_)
  refine ab fun K hK=>aa ae ?_
  simp only [an,fl,gp,ak,simprocAttr]
  refine af trivial (hK _ ?_)<;>clear hK K
  refine qa (ql ?_)
  refine aD (ι:=Nat × (Nat→Bool) × (Nat→Nat) × Bool) (fun p=>⟨87,[(2,.p (.list (il (nl F)))),(3,.p (.list (il (nl T)))),(4,.ptr 0 0),(5,.ptr 1 0),(9,.sl 2 0 i),(11,.p (.bool p.2.2.2)),(12,.p (.int .i64 p.1))],[.own [.p (.int .i64 i),.p (.list (il m))],.own [.p (.int .i64 N),.p (.list (il M))],.own (ol (cu i p.2.1 p.2.2.1))]⟩) (fun p=>p.1≤i∧za i (op m i) e N (op M N) d F T p.2.1 p.2.2.1∧outs i p.2.1≤outs i S0∧(p.2.2.2=true→outs i p.2.1 < outs i S0)∧(p.2.2.2=false→∀ a,a < p.1→HJ (op m i) (op M N) F T p.2.1 p.2.2.1 a F.length)) (fun p=>i - p.1) (0,S0,ψ0,false) ⟨Nat.zero_le _,hp,Nat.le_refl _,fun h=>(by cases h),fun _ a ha=>absurd ha (Nat.not_lt_zero _)⟩ [0,1,2] (by simp only [leq,bx,an,fl,gp,ak,simprocAttr]<;>first|trivial|exact ⟨rfl,rfl⟩|trace_state) fun p hp3=>?_
  obtain ⟨a,S1,ψ1,ag1⟩:=p
  obtain ⟨q1,q2,q3,q4,q5⟩:=hp3
  simp only at q1 q2 q3 q4 q5
  refine qm (qm ?_)
  refine ab fun K hK=>aa ae ?_
  simp only [an,fl,gp,ak,simprocAttr]
  refine af ?_ (hK _ ?_)<;>clear hK K
  ·first|exact trivial|omega|(simp only [ah] at *; omega)|(simp [ah] at *; omega)|simp_all
  refine qa ?_
  refine aq rfl (fun hC3=>?_) (fun hC3=>?_)
  ·(try simp only [aE] at hC3)
   have hal:a < i:=by omega
   refine qh (qa (qm (ql (qm ?_))))
   refine ab fun K hK=>aa ae ?_
   simp only [an,fl,gp,ak,simprocAttr]
   refine af trivial (hK _ ?_)<;>clear hK K
   refine qa (ql ?_)
   refine aD (ι:=Nat × (Nat→Bool) × (Nat→Nat) × Bool) (fun p=>⟨87,[(2,.p (.list (il (nl F)))),(3,.p (.list (il (nl T)))),(4,.ptr 0 0),(5,.ptr 1 0),(9,.sl 2 0 i),(11,.p (.bool p.2.2.2)),(12,.p (.int .i64 a)),(13,.p (.int .i64 p.1))],[.own [.p (.int .i64 i),.p (.list (il m))],.own [.p (.int .i64 N),.p (.list (il M))],.own (ol (cu i p.2.1 p.2.2.1))]⟩) (fun p=>p.1≤F.length∧za i (op m i) e N (op M N) d F T p.2.1 p.2.2.1∧outs i p.2.1≤outs i S0∧(p.2.2.2=true→outs i p.2.1 < outs i S0)∧(p.2.2.2=false→(∀ b,b < a→HJ (op m i) (op M N) F T p.2.1 p.2.2.1 b F.length)∧HJ (op m i) (op M N) F T p.2.1 p.2.2.1 a p.1)) (fun p=>F.length - p.1) (0,S1,ψ1,ag1) ⟨Nat.zero_le _,q2,q3,q4,fun h=>⟨q5 h,fun _ j hj=>absurd hj (Nat.not_lt_zero _)⟩⟩ [0,1,2] (by simp only [leq,bx,an,fl,gp,ak,simprocAttr]<;>first|trivial|exact ⟨rfl,rfl⟩|trace_state) fun p hp4=>?_
   obtain ⟨j,S,ψ,ag2⟩:=p
   obtain ⟨r1,r2,r3,r4,r5⟩:=hp4
   simp only at r1 r2 r3 r4 r5
   have hpl:=bp i S ψ
   have pa:=iC (S:=S) (ψ:=ψ) hal
   refine qm (qm ?_)
   rcases H6 (j < F.length) (S a=true) with k1 | ⟨k1,k2⟩ | ⟨k1,k2⟩
   ·refine ab fun K hK=>aa ae ?_
    simp only [an,fl,gp,ak,simprocAttr,aw,decide_eq_false (show ¬ ((j:Nat):Int) < ((nl F).length:Nat) by omega)]
    refine af trivial (hK _ ?_)<;>clear hK K
    refine qa ?_
    refine aq rfl (fun hC4=>?_) (fun hC4=>?_)
    ·cases hC4
    refine qj (qc (qc (qf (qd (qa ?_)))))
    refine ab fun K hK=>aa ae ?_
    simp only [an,fl,gp,ak,simprocAttr]
    refine af ?_ (hK _ ?_)<;>clear hK K
    ·first|exact trivial|omega|(simp only [ah] at *; omega)|(simp [ah] at *; omega)|simp_all
    refine qa ?_
    refine ⟨(a + 1,S,ψ,ag2),[0,1,2],⟨by simp only; omega,r2,r3,r4,fun h b hb2=>?_⟩,by simp only; omega,?_⟩
    ·by_cases hba:b=a
     ·rw [hba,show F.length=j by omega]; exact (r5 h).2
     exact (r5 h).1 b (by simp only at hb2; omega)
    simp only [leq,bx,an,fl,gp,ak,simprocAttr]<;>first|trivial|omega
   ·rw [k2,if_pos rfl] at pa
    refine ab fun K hK=>aa ae ?_
    simp only [an,fl,gp,ak,simprocAttr,aw,decide_eq_true (show ((j:Nat):Int) < ((nl F).length:Nat) by omega),bt (show a < (cu i S ψ).length by omega),pa]
    refine af ?_ (hK _ ?_)<;>clear hK K
    ·first|exact trivial|omega|(simp only [ah] at *; omega)|(simp [ah] at *; omega)|simp_all
    refine qa ?_
    refine aq rfl (fun hC4=>?_) (fun hC4=>?_)
    ·(try simp only [aE] at hC4)
     have hjl:=k1
     have hFj:=hF j hjl
     have hTj:=hT j hjl
     have hψa:=r2.lt a hal k2
     have hbl:=G.cl _ _ hFj hal
     have pb:=iC (S:=S) (ψ:=ψ) hbl
     refine qh (qa (qm (ql (qm ?_))))
     refine aO mixed (by kernel_rfl) fun K hK=>aa ae ?_
     simp only [an,fl,gp,ak,simprocAttr,aL (show j < (nl F).length by omega),fL hjl]
     refine ao ?_ (au (vV Tb hFj hal) rfl rfl rfl (by simp only [ay,Nat.reduceLT]) (by repeat (first|exact trivial|constructor)) (aa ae ?_))
     ·exact ⟨by omega,by omega⟩
     simp only [an,fl,gp,ak,simprocAttr,aL (show j < (nl F).length by omega),fL hjl]
     refine af ?_ (hK _ ?_)<;>clear hK K
     ·first|exact trivial|omega|(simp only [ah] at *; omega)|(simp [ah] at *; omega)|simp_all
     refine qa (qm ?_)
     refine aO mixed (by kernel_rfl) fun K hK=>aa ae ?_
     simp only [an,fl,gp,ak,simprocAttr,aL (show j < (nl T).length by omega),fL (show j < T.length by omega),bt (show a < (cu i S ψ).length by omega),pa]
     refine ao ?_ (au (vV Tb' hTj hψa) rfl rfl rfl (by simp only [ay,Nat.reduceLT]) (by repeat (first|exact trivial|constructor)) (aa ae ?_))
     ·exact ⟨⟨⟨by omega,by omega⟩,by omega,by omega⟩,by omega⟩
     simp only [an,fl,gp,ak,simprocAttr,aL (show j < (nl T).length by omega),fL (show j < T.length by omega),bt (show a < (cu i S ψ).length by omega),pa]
     refine af ?_ (hK _ ?_)<;>clear hK K
     ·first|exact trivial|omega|(simp only [ah] at *; omega)|(simp [ah] at *; omega)|simp_all
     refine qa (qm ?_)
     rcases Bool.eq_false_or_eq_true (S (op m i (F.getD j 0) a)) with hSb | hSb<;>simp only [hSb,if_true,if_false,Bool.false_eq_true] at pb
     ·refine ab fun K hK=>aa ae ?_
      simp only [an,fl,gp,ak,simprocAttr,bt (show op m i (F.getD j 0) a < (cu i S ψ).length by omega),pb]
      refine af ?_ (hK _ ?_)<;>clear hK K
      ·first|exact trivial|omega|(simp only [ah] at *; omega)|(simp [ah] at *; omega)|simp_all
      refine qa ?_
      refine aq rfl (fun hC5=>?_) (fun hC5=>?_)
      ·(try simp only [aE] at hC5)
       simp at hC5
       omega
      (try simp only [aE] at hC5)
      refine qm ?_
      refine ab fun K hK=>aa ae ?_
      simp only [an,fl,gp,ak,simprocAttr,bt (show op m i (F.getD j 0) a < (cu i S ψ).length by omega),pb]
      refine af ?_ (hK _ ?_)<;>clear hK K
      ·first|exact trivial|omega|(simp only [ah] at *; omega)|(simp [ah] at *; omega)|simp_all
      refine qa ?_
      refine aq rfl (fun hC6=>?_) (fun hC6=>?_)
      ·(try simp only [aE] at hC6)
       have h1:=r2.val G hF hφ hal k2 hjl
       have h2:=r2.ref φ hφ _ hbl hSb
       omega
      (try simp only [aE] at hC6)
      have hv:ψ (op m i (F.getD j 0) a)=op M N (T.getD j 0) (ψ a):=by omega
      refine qh (qd (qa ?_))
      refine ab fun K hK=>aa ae ?_
      simp only [an,fl,gp,ak,simprocAttr]
      refine af ?_ (hK _ ?_)<;>clear hK K
      ·first|exact trivial|omega|(simp only [ah] at *; omega)|(simp [ah] at *; omega)|simp_all
      refine qa ?_
      refine ⟨(j + 1,S,ψ,ag2),[0,1,2],⟨by simp only; omega,r2,r3,r4,fun h=>⟨(r5 h).1,fun _ y hy=>?_⟩⟩,by simp only; omega,?_⟩
      ·by_cases hyj:y=j
       ·rw [hyj]; exact ⟨hSb,hv⟩
       exact (r5 h).2 k2 y (by omega)
      simp only [leq,bx,an,fl,gp,ak,simprocAttr]<;>first|trivial|omega
     refine ab fun K hK=>aa ae ?_
     simp only [an,fl,gp,ak,simprocAttr,bt (show op m i (F.getD j 0) a < (cu i S ψ).length by omega),pb]
     refine af ?_ (hK _ ?_)<;>clear hK K
     ·first|exact trivial|omega|(simp only [ah] at *; omega)|(simp [ah] at *; omega)|simp_all
     refine qa ?_
     refine aq rfl (fun hC5=>?_) (fun hC5=>?_)
     ·(try simp only [aE] at hC5)
      refine qm ?_
      refine ab fun K hK=>aa ae ?_
      simp only [an,fl,gp,ak,simprocAttr,cH,dc hbl hSb]
      refine af ?_ (hK _ ?_)<;>clear hK K
      ·first|exact trivial|omega|(simp only [ah] at *; omega)|(simp [ah] at *; omega)|simp_all
      refine qa ?_
      refine ab fun K hK=>aa ae ?_
      simp only [an,fl,gp,ak,simprocAttr]
      refine af trivial (hK _ ?_)<;>clear hK K
      refine qd (qa ?_)
      refine ab fun K hK=>aa ae ?_
      simp only [an,fl,gp,ak,simprocAttr]
      refine af ?_ (hK _ ?_)<;>clear hK K
      ·first|exact trivial|omega|(simp only [ah] at *; omega)|(simp [ah] at *; omega)|simp_all
      refine qa ?_
      have ho:=DW hbl hSb
      refine ⟨(j + 1,dV S (op m i (F.getD j 0) a),jA ψ (op m i (F.getD j 0) a) (op M N (T.getD j 0) (ψ a)),true),[0,1,2],⟨by simp only; omega,r2.push G GG hF hT hal k2 hjl hSb,by simp only; omega,fun _=>by simp only; omega,fun h=>by cases h⟩,by simp only; omega,?_⟩
      simp only [leq,bx,an,fl,gp,ak,simprocAttr]<;>first|trivial|omega|(simp [bp]; done)|trace_state
     (try simp only [aE] at hC5)
     simp at hC5
    (try simp only [aE] at hC4)
    first|omega|(simp at hC4; done)|(simp at hC4; omega)
   rw [if_neg k2] at pa
   refine ab fun K hK=>aa ae ?_
   simp only [an,fl,gp,ak,simprocAttr,aw,decide_eq_true (show ((j:Nat):Int) < ((nl F).length:Nat) by omega),bt (show a < (cu i S ψ).length by omega),pa]
   refine af ?_ (hK _ ?_)<;>clear hK K
   ·first|exact trivial|omega|(simp only [ah] at *; omega)|(simp [ah] at *; omega)|simp_all
   refine qa ?_
   refine aq rfl (fun hC4=>?_) (fun hC4=>?_)
   ·(try simp only [aE] at hC4)
    first|omega|(simp at hC4; done)|(simp at hC4; omega)
   (try simp only [aE] at hC4)
   refine qj (qc (qc (qf (qd (qa ?_)))))
   refine ab fun K hK=>aa ae ?_
   simp only [an,fl,gp,ak,simprocAttr]
   refine af ?_ (hK _ ?_)<;>clear hK K
   ·first|exact trivial|omega|(simp only [ah] at *; omega)|(simp [ah] at *; omega)|simp_all
   refine qa ?_
   refine ⟨(a + 1,S,ψ,ag2),[0,1,2],⟨by simp only; omega,r2,r3,r4,fun h b hb2=>?_⟩,by simp only; omega,?_⟩
   ·by_cases hba:b=a
    ·rw [hba]; exact fun hh=>absurd hh k2
    exact (r5 h).1 b (by simp only at hb2; omega)
   simp only [leq,bx,an,fl,gp,ak,simprocAttr]<;>first|trivial|omega
  (try simp only [aE] at hC3)
  obtain rfl:a=i:=by omega
  refine qj (qc (qc (qf (qd (qa ?_)))))
  refine ⟨(S1,ψ1,ag1),[0,1,2],⟨q2,fun h=>q5 h⟩,?_,?_⟩
  ·cases ag1 with
   | false=>simp only [Bool.toNat_false,Bool.toNat_true]; omega
   | true=>have:=q4 rfl; simp only [Bool.toNat_true]; omega
  simp only [leq,bx,an,fl,gp,ak,simprocAttr]<;>first|trivial|omega
 (try simp only [aE] at hC2)
 subst hC2
 obtain ⟨hall,hext⟩:=hp.fin G GG hF hT hgen (hag rfl)
 rw [tY fun a ha=>⟨hall a ha,hp.ref φ hφ a ha (hall a ha)⟩]
 refine qj (qc (qc (qf (qa (qm ?_)))))
 refine ab fun K hK=>aa ae ?_
 simp only [an,fl,gp,ak,simprocAttr]
 refine af trivial (hK _ ?_)<;>clear hK K
 refine qa (qk ?_)
 simp only [Tryd.results17,eR,gq,dk,kR,bY,an,fl,gp,ak,simprocAttr]
 have htl:=oy i φ
 exact ⟨[2],by simp only [aw,htl]; rfl,rfl,by simp only [leq,bx,an,fl,gp,ak,simprocAttr]<;>first|trivial|exact ⟨rfl,rfl⟩|(refine ⟨?_,jY _ _⟩; rw [List.take_of_length_le (by rw [htl])]; rfl)|trace_state⟩
end
end Go.Proofs.YtpobnnfkeekiaaaDoor
namespace Go.Pv
open Go.RowKit
section
variable {P:Program} {s:St}
def Iw (P:Program) (f:FuncId) (args:List PV) (r:PV):Prop:=
 Fj P f∧∀ (okA:Nat→Prop) (w:World) (vals:Array Value),nJ okA w→vals.size=args.length→(∀ i (h:i < args.length),Reads okA w args[i] (vals.getD i undef)) →
  Calls P f vals w fun e w'=>∃ v,e = .returned v∧Go.Pv.Below w.heap.size w w'∧Reads (fun b=>w.heap.size≤b∧b < w'.heap.size) w' r v
def PV.sc:PV→Bool
 | .int _ _=>true
 | .bool _=>true
 | .str _=>true
 | _=>false
theorem BO {ok ok' : Nat→Prop} {w:World} {p:PV} {v:Value} (h:Reads ok w p v) (hs:p.sc=true):Reads ok' w p v:=by
 cases h<;>simp [PV.sc] at hs
 ·exact .int _ _
 ·exact .bool _
 exact .str _
theorem sN {f:FuncId} {args l:List PV} (h:wz P f args (.sl 0 0 l.length) [.own (bq l)]) (bD:l.all PV.sc=true):Iw P f args (.list l):=by
 have hone:l.all PV.one=true:=List.all_eq_true.2 fun x hx=>by
  have:=(List.all_eq_true.1 bD) x hx
  cases x<;>simp [PV.sc] at this<;>rfl
 refine ⟨h.1,fun okA w vals h1 h2 h3=>(h.2 okA w vals h1 h2 h3).mono fun e w' ⟨v,m',he,hbl,ho⟩=>⟨v,he,hbl,?_⟩⟩
 cases ho.val with
 | sl _ _ _ _ hk hs =>
  rcases hs with ⟨h0,ad,rfl⟩ | ⟨lc,cap,hm,rfl,hc1,hc2⟩
  ·have:l=[]:=List.eq_nil_of_length_eq_zero h0
   subst this
   exact .list0 _ _ fun _=>rfl
  rcases ho.blk 0 (bq l) rfl with ⟨hn,_⟩ | ⟨l',cur,e',hm2,hB,hh,hs1,hs3,hs2,hcells⟩
  ·have:l=[]:=List.map_eq_nil_iff.1 hn
   subst this
   exact .list0 _ _ fun h=>by cases h
  rw [hm] at hm2; cases hm2
  rw [aJ] at hs2
  refine kx rfl hone ⟨hB,(Array.getElem?_eq_some_iff.1 hh).1⟩ hc1 (fun j=>cur.getD (lc.o + j) undef) (fun j hj=>?_) fun j hj=>?_
  ·have:lc.o + 0 + j=lc.o + j:=by omega
   rw [this]; exact cell_of hh (by omega)
  have:=hcells j (by rw [aJ]; exact hj)
  have e2:(bq l)[j]'(by rw [aJ]; exact hj) = .p l[j]:=by simp [bq]
  rw [e2] at this
  exact BO this.aN ((List.all_eq_true.1 bD) _ (List.getElem_mem hj))
theorem pn {o:Oper} {fo:Operand} {args:Array Operand} {ts:Array TypeId} (ho:o.op = .call { callee:=.value fo,args:=args,argTypes:=ts }) {g:FuncId} {avs:List PV} {p:Prop} {b:Bool} {r:PV}
  (hc:Iw P g avs r) (hcall:da s fo args=some (g,avs,p,b)) (hp:p):bu P o s (.p r) s.H:=by
 intro C m a w K Q R hK
 unfold da at hcall
 split at hcall
 ·rename_i g' cap hf
  split at hcall<;>simp only [Option.some.injEq,Prod.mk.injEq,reduceCtorEq] at hcall
  rename_i p' pvs b' hpl
  obtain ⟨rfl,rfl,rfl,rfl⟩:=hcall
  have hfv:=R.ev fo
  rw [hf] at hfv
  generalize hfe:a.eval fo=fv at hfv
  have hfv:=hfv.aN
  cases hfv with
  | fn _ _ vs hcl hcr =>
   obtain ⟨⟨fn,hfn,hnm,hbd⟩,hcalls⟩:=hc
   obtain ⟨e1,e2,e3⟩:=cP (C:=C) (m:=m) (w:=w) (H:=s.H) (fun {x v p pv b} (hx:aG (Reads (OK C m s.H w) w) m s.H x v) h hp=>fb R hx h hp) (args.toList.map s.ev) (fun c=>(args.toList.map a.eval).getD c undef) (fun c hc=>by
    simp only [List.length_map] at hc
    have:=R.ev (args.toList[c])
    simpa [List.getD,List.getElem?_map,List.getElem?_eq_getElem hc] using this) hpl hp
   simp only [List.length_map] at e1
   have hvals:∀ i (h:i < (pvs++cap).length),(args.map a.eval++vs).getD i undef=if i < pvs.length then (args.toList.map a.eval).getD i undef else vs.getD (i - pvs.length) undef:=by
    intro i hi
    simp only [Array.getD_eq_getD_getElem?]
    by_cases hip:i < pvs.length
    ·rw [if_pos hip,Array.getElem?_append_left (by simp at e1 ⊢; omega)]
     simp [List.getD]
    rw [if_neg hip,Array.getElem?_append_right (by simp at e1 ⊢; omega)]
    congr 2
    simp at e1 ⊢; omega
   have hrun:(execOp a.eval o).run P w = .ok (.enter g' (args.map a.eval++vs)) w:=by
    have hnm' : ¬ fn.name = "runtime.NumGoroutine":=by simpa using hnm
    have hbd' : ¬ fn.body=none:=by intro e; rw [e] at hbd; simp at hbd
    simp [execOp,ho,resolve,hfe,Deferred.ofValue,invoke,callFunc,hfn,hnm',hbd']
   refine aW (by first|rfl|(rw [ho]; rfl)) ?_
   unfold Oper.wp
   rw [hrun]
   simp only [Oper.upon]
   have hsz:(args.map a.eval++vs).size=(pvs++cap).length:=by simp at e1 ⊢; omega
   refine (hcalls (fun b=>b < w.heap.size) w _ R.Ap hsz fun i hi=>?_).mono fun e w' ⟨v,he,hbl,hv⟩=>?_
   ·rw [hvals i hi]
    by_cases hip:i < pvs.length
    ·rw [if_pos hip,List.getElem_append_left hip]; exact (e2 i hip).mono fun b hb=>hb.2
    rw [if_neg hip,List.getElem_append_right (by omega)]; exact (hcr _ (by simp at hi; omega)).mono fun b hb=>hb.2.1
   subst he
   refine hK v m w' (R.later hbl) (.p _ _ (hv.mono fun b hb=>⟨.inr (R.base _ hb.1),hb.2,fun k c l hk hl e'=>?_⟩))
   have:=(R.qZ hk rfl hl).2
   have:=hb.1
   omega
 cases hcall
theorem zF {o:Oper} {fo:Operand} {args:Array Operand} {ts:Array TypeId} (ho:o.op = .call { callee:=.value fo,args:=args,argTypes:=ts }) {g:FuncId} {avs:List PV} {p:Prop} {b:Bool} {r:PV}
  (hc:Iw P g avs r) (hcall:da s fo args=some (g,avs,p,b)) (hp:p):vg P o s (.p r) s.H:=by
 refine ⟨fun s2 hn ha hH=>?_,fun hf=>?_,fun _=>rfl⟩
 ·have:=n5 (ts:=ts) (s:=s) (s2:=s2) (fo:=fo) (args:=args) (by rw [← ho]; exact ha) hH
  rw [hcall] at this
  rw [← hH]
  exact pn ho hc this hp
 rw [ho] at hf; simp [jU] at hf
theorem lL {draw:Bool} {all:Array Oper} {rest:List Oper} {K:St→Prop} {dst:Option Tmp} {ty:TypeId} {pos:String} {aft:Array Edge} {gd:Option (Nat × Bool)} {fo:Operand} {args:Array Operand} {ts:Array TypeId} {g:FuncId} {avs:List PV} {p:Prop} {b:Bool} {r:PV}
  (hc:Iw P g avs r) (hg:a8 all s { dst:=dst,op:=.call { callee:=.value fo,args:=args,argTypes:=ts },type:=ty,pos:=pos,after:=aft,guard:=gd } = some true)
  (hcall:da s fo args=some (g,avs,p,b)) (hd:ay s dst) (hp:p) (h:dL P draw all rest K (s.put dst (.p r))) :
  dL P draw all ({ dst:=dst,op:=.call { callee:=.value fo,args:=args,argTypes:=ts },type:=ty,pos:=pos,after:=aft,guard:=gd } :: rest) K s:=by
 obtain ⟨s',hr,hK⟩:=h
 exact ⟨s',.cons (.op s (.p r) s.H hg (bC hd) (pn rfl hc hcall hp) fun _=>zF rfl hc hcall hp) hr,hK⟩
end
end Go.Pv
namespace Go.Proofs.YtpobnnfkeekiaaaDoor
open Go.Pv
end Go.Proofs.YtpobnnfkeekiaaaDoor
namespace Go.Pv
open Go.RowKit
section
variable {P:Program} {T:TypeId→Option TI} {C:Ctx} {m:Map} {s:St} {tmps:Array Value} {w:World}
theorem B3 {A B:az} {κ:Nat} {b:aH} (h:κ < A.length):aF (A++B) κ b=aF A κ b++B:=by
 refine List.ext_getElem? fun j=>?_
 have h2:κ < (A++B).length:=by simp; omega
 by_cases hj:j < A.length
 ·have e1:(aF A κ b++B)[j]? = (aF A κ b)[j]?:=List.getElem?_append_left (by rw [aB]; exact hj)
  have e2:(A++B)[j]? = A[j]?:=List.getElem?_append_left hj
  rw [e1,bF,bF,e2]
  by_cases e:j=κ
  ·rw [if_pos ⟨e,h2⟩,if_pos ⟨e,h⟩]
  rw [if_neg (by simp [e]),if_neg (by simp [e])]
 have e1:(aF A κ b++B)[j]? = B[j - A.length]?:=by rw [List.getElem?_append_right (by rw [aB]; omega),aB]
 have e2:(A++B)[j]? = B[j - A.length]?:=List.getElem?_append_right (by omega)
 rw [e1,bF,e2,if_neg (by omega)]
structure vo (κ:Nat) (Hf:aH→az):Prop where
 at_:∀ b,(Hf b)[κ]? = some b
 set_:∀ b b',aF (Hf b) κ b' = Hf b'
theorem vo.lt {κ:Nat} {Hf:aH→az} (h:vo κ Hf) (b:aH):κ < (Hf b).length:=(List.getElem?_eq_some_iff.1 (h.at_ b)).1
theorem vo.app {κ:Nat} {Hf:aH→az} (h:vo κ Hf) (B:az):vo κ fun b=>Hf b++B:=
 ⟨fun b=>by rw [List.getElem?_append_left (h.lt b)]; exact h.at_ b,fun b b'=>by show aF (Hf b++B) κ b' = Hf b'++B; rw [B3 (h.lt b),h.set_]⟩
structure Jh (rec:Loop) (n pp:Nat) (assign body:Code):Prop where
 params:rec.params = #[pp]
 assign:rec.assign=assign
 body:rec.body=body
 state:rec.state = .ready
 pending:rec.pending=none
 size:rec.tmps.size=n
variable {Q:Exit→St→Prop}
end
open Go.RowKit
theorem B7 {P:Program} {f:FuncId} {args:List PV} {pv:PV} (h:wz P f args (.p pv) []) (hf:pv.fz=true):ct P f args pv:=
 ⟨h.1,fun okA w vals h1 h2 h3=>(h.2 okA w vals h1 h2 h3).mono fun e w' ⟨v,m',he,hbl,ho⟩=>⟨v,he,hbl,jK ho.val.aN hf⟩⟩
structure Js (σ:Type) where
 c4:σ→PV
 c51:σ→PV
 c52:σ→PV
 R:σ→List PV
 go:σ→PV→Bool
 nx:σ→PV→σ
 ok:σ→Prop
 okx:PV→Prop
 ok_nx:∀ i x,ok i→okx x→go i x=true→ok (nx i x)
 IP:∀ i,ok i→(R i).all PV.one=true
variable {σ:Type}
end Go.Pv
namespace Go.Proofs.YtpobnnfkeekiaaaDoor
open Go.Pv
section
variable {n e N d:Nat} {m M:List Int}
open Classical in
noncomputable def Jm (n:Nat) (f:Nat→Nat→Nat) (N:Nat) (g:Nat→Nat→Nat) (L T:List Nat):List (List Int):=if h:∃ φ,Ext n f N g L T φ then [xr n (Classical.choose h)] else []
noncomputable def Hz (n:Nat) (f:Nat→Nat→Nat) (e N:Nat) (g:Nat→Nat→Nat) (d:Nat) (L:List Nat):List Nat→List Nat→List (List Int)
 | [],t=>Jm n f N g L t
 | x :: r,t=>((List.range N).filter fun y=>decide (ord n f e x % ord N g d y=0)).flatMap fun y=>Hz n f e N g d L r (t++[y])
variable {σ:Type}
end
end Go.Proofs.YtpobnnfkeekiaaaDoor
namespace Go.Pv
open Go.RowKit
section
variable {P:Program} {ρ:Go.Shelf.Ren}
end
end Go.Pv
namespace Go.Proofs.YtpobnnfkeekiaaaDoor
open Go.Pv
def kl (L:List Nat):List Int:=L.map fun (x:Nat)=>(x:Int)
def tt:Int→PV:=fun _=>.bool true
theorem dh {L:List Nat} {j:Nat} (hj:j < L.length):L.getD j 0∈L:=by
 rw [List.getD_eq_getElem?_getD,List.getElem?_eq_getElem hj]; exact List.getElem_mem hj
theorem rB {L:List Nat} {x:Nat} (hx:x∈L):∃ j,j < L.length∧L.getD j 0=x:=by
 obtain ⟨j,hj,rfl⟩:=List.getElem_of_mem hx
 exact ⟨j,hj,by rw [List.getD_eq_getElem?_getD,List.getElem?_eq_getElem hj]; rfl⟩
section
variable {n e:Nat} {m:List Int}
structure Jp (n:Nat) (f:Nat→Nat→Nat) (e:Nat) (i:Nat) (L:List Nat):Prop where
 inv:Fx n f e L
 done:∀ j,j < i→∀ a,a < n→Dn n f e (L.getD j 0) a L
end
open Go.Pv
section
variable {n e:Nat} {m:List Int}
end
open Go.Pv
def D2 (a b:Nat):Nat:=(BitVec.ofInt 64 (a:Int) &&& ~~~(BitVec.ofInt 64 (b:Int))).toNat
theorem yV {a b:Nat} (ha:a < 2 ^ 64) (hb:b < 2 ^ 64):D2 a b=0↔∀ i,a.testBit i=true→b.testBit i=true:=by
 have key:∀ i,i < 64→(D2 a b).testBit i=(a.testBit i && !b.testBit i):=fun i hi=>by
  unfold D2
  rw [BitVec.testBit_toNat,BitVec.getLsbD_and,BitVec.getLsbD_not,← BitVec.testBit_toNat,← BitVec.testBit_toNat,kq ha,kq hb]
  simp [hi]
 constructor
 ·intro h i hi
  have hl:=Af ha hi
  have:=key i hl
  rw [h,Nat.zero_testBit,hi] at this
  simpa using this
 intro h
 refine Nat.eq_of_testBit_eq fun i=>?_
 rw [Nat.zero_testBit]
 by_cases hl:i < 64
 ·rw [key i hl]
  cases ha' : a.testBit i with
  | false=>rfl
  | true=>rw [h i ha']; rfl
 exact Nat.testBit_lt_two_pow (Nat.lt_of_lt_of_le (BitVec.isLt _) (Nat.pow_le_pow_right (by omega) (Nat.le_of_not_lt hl)))
def IH (s t:Nat):Bool:=decide (¬ s=t) && decide (D2 s t=0)
def Ix (SL:List Nat) (i:Nat):Bool:=!decide (∃ j,j < SL.length - 1∧(i < j∧IH (SL.getD i 0) (SL.getD j 0)=true))
section
variable {n e:Nat} {m:List Int}
end
open Go.Pv
section
variable {n e:Nat} {m:List Int}
end
open Go.Pv
theorem qV.pos {n e:Nat} {f:Nat→Nat→Nat} {SL:List Nat} (G:ba n f e) (h:qV n f e SL):0 < SL.length:=List.length_pos_of_mem (h.all _ G.fW)
theorem qV.pair {n e:Nat} {f:Nat→Nat→Nat} {SL:List Nat} (h:qV n f e SL) {i j:Nat} (hij:i < j) (hj:j < SL.length):Ak (qv (SL.getD i 0)) (qv (SL.getD j 0)) < 0:=by
 have:=(List.pairwise_iff_getElem.1 h.yZ) i j (by omega) hj hij
 simpa [List.getD,List.getElem?_eq_getElem hj,List.getElem?_eq_getElem (show i < SL.length by omega)] using this
theorem D4 (n:Nat):(ck n fun _=>true).length=n:=by rw [fS]; unfold kW; rw [List.filter_eq_self.2 fun _ _=>rfl,List.length_range]
theorem DP {n:Nat} {p:Nat→Bool} (h:¬ (ck n p).length < n):∀ y,y < n→p y=true:=by
 intro y hy
 cases hp:p y with
 | true=>rfl
 | false =>
  exfalso
  have:=sa (n:=n) (p:=fun _=>true) (q:=p) (fun _ _ _=>rfl) (fun hh=>by have:=hh y hy; rw [hp] at this; cases this)
  have e1:(ck n p).length=(mem n p).length:=fS _ _
  have e2:(mem n fun _=>true).length=n:=by unfold mem; rw [List.filter_eq_self.2 fun _ _=>rfl,List.length_range]
  omega
theorem qV.last {n e:Nat} {f:Nat→Nat→Nat} {SL:List Nat} (G:ba n f e) (h:qV n f e SL) (hn:n≤60):SL.getD (SL.length - 1) 0=bo n fun _=>true:=by
 have hpos:=h.pos G
 obtain ⟨t,ht,hx⟩:=rB (h.all _ G.xS)
 by_cases htl:t=SL.length - 1
 ·rw [← htl]; exact hx
 exfalso
 have hp:=h.pair (i:=t) (j:=SL.length - 1) (by omega) (by omega)
 obtain ⟨p,_,hpl⟩:=h.bb _ (dh (show SL.length - 1 < SL.length by omega))
 rw [hx,hpl,xi hn,xi hn,yi,D4] at hp
 have:=p9 n p
 rcases hp with hp | ⟨hp,hp2⟩
 ·omega
 have:ck n p=ck n fun _=>true:=ng fun y hy=>DP (by omega) y hy
 rw [this,mX] at hp2; omega
theorem Gv {n:Nat} (hn:n≤60) (p q:Nat→Bool):IH (bo n p) (bo n q)=true↔(¬ ∀ a,a < n→p a=q a)∧∀ a,a < n→p a=true→q a=true:=by
 unfold IH
 rw [Bool.and_eq_true,decide_eq_true_eq,decide_eq_true_eq,yV (lZ hn p) (lZ hn q)]
 refine and_congr (not_congr ⟨fun h a ha=>v7 h ha,fun h=>mR h⟩) ⟨fun h a ha hp=>?_,fun h i hi=>?_⟩
 ·have:=h a (by rw [iu]; simp [ha,hp])
  rw [iu] at this; simpa [ha] using this
 rw [iu,Bool.and_eq_true,decide_eq_true_eq] at hi ⊢
 exact ⟨hi.1,h i hi.1 hi.2⟩
section
variable {n e:Nat} {m:List Int}
theorem qV.max {f:Nat→Nat→Nat} {SL:List Nat} (G:ba n f e) (h:qV n f e SL) (hn:n≤60) {r:Nat→Bool} (hr:Sub n f e r) (hne:¬ ∀ a,a < n→r a=true) :
  ∃ i p,i < SL.length - 1∧SL.getD i 0=bo n p∧Sub n f e p∧Ix SL i=true∧(∀ a,a < n→r a=true→p a=true)∧¬ ∀ a,a < n→p a=true:=by
 have hpos:=h.pos G
 have hlast:=h.last G hn
 have notlast:∀ i p,i < SL.length→SL.getD i 0=bo n p→(¬ ∀ a,a < n→p a=true)→i < SL.length - 1:=fun i p hi hx hp=>by
  by_cases hil:i=SL.length - 1
  ·exfalso
   rw [hil,hlast] at hx
   exact hp fun a ha=>(v7 hx ha).symm
  omega
 have go:∀ c i p,SL.length - i≤c→i < SL.length→SL.getD i 0=bo n p→Sub n f e p→(∀ a,a < n→r a=true→p a=true)→(¬ ∀ a,a < n→p a=true) →
   ∃ i p,i < SL.length - 1∧SL.getD i 0=bo n p∧Sub n f e p∧Ix SL i=true∧(∀ a,a < n→r a=true→p a=true)∧¬ ∀ a,a < n→p a=true:=by
  intro c
  induction c with
  | zero=>intro i p hc hi; omega
  | succ c ih =>
   intro i p hc hi hx hp hrp hpn
   cases hm:Ix SL i with
   | true=>exact ⟨i,p,notlast i p hi hx hpn,hx,hp,hm,hrp,hpn⟩
   | false =>
    unfold Ix at hm
    rw [Bool.not_eq_false',decide_eq_true_eq] at hm
    obtain ⟨j,j1,j2,j3⟩:=hm
    obtain ⟨q,hq,hqx⟩:=h.bb _ (dh (show j < SL.length by omega))
    rw [hx,hqx,Gv hn] at j3
    refine ih j q (by omega) (by omega) hqx hq (fun a ha h1=>j3.2 a ha (hrp a ha h1)) fun hall=>?_
    have:j=SL.length - 1:=by
     by_cases hjl:j < SL.length - 1
     ·exfalso
      have hpq:=h.pair (i:=j) (j:=SL.length - 1) hjl (by omega)
      rw [hlast,hqx,mR (q:=fun _=>true) (fun a ha=>hall a ha)] at hpq
      exact rj _ hpq
     omega
    omega
 obtain ⟨i,hi,hx⟩:=rB (h.all r hr)
 exact go _ i r (Nat.le_refl _) hi hx hr (fun a _ h=>h) hne
end
open Go.Pv
section
variable {n N e d:Nat} {m M:List Int}
theorem Ik (h:GT n m n e) (h' : GT N M N d):tg n m N M=(0,0):=by
 unfold tg
 rw [uT h,uT h']; rfl
end
def tn (l:List Int):List Nat:=l.map Int.toNat
theorem lD (l:List Int):(tn l).length=l.length:=by simp [tn]
theorem jh {l:List Int} {i:Nat} (hi:i < l.length):(tn l).getD i 0=(l.getD i 0).toNat:=by
 simp [tn,List.getD,List.getElem?_eq_getElem hi]
theorem xV {l:List Int} (h:∀ i,i < l.length→0≤l.getD i 0):nl (tn l)=l:=by
 refine List.ext_getElem (by rw [ei,lD]) fun i h1 h2=>?_
 have:=h i h2
 simp only [List.getD,List.getElem?_eq_getElem h2,Option.getD_some] at this
 simp [nl,tn]
 omega
def ue (N N' : Int) (F T:List Int) (i:Nat):Bool:=decide (F.getD i 0 < 0∨F.getD i 0 ≥ N∨T.getD i 0 < 0∨T.getD i 0 ≥ N')
def uu (n:Nat) (m:List Int) (e:Nat) (F:List Nat):Prop:=∀ a,a < n→dC n (op m n) e (fun x=>decide (x∈F)) a
open Classical in
noncomputable def tc (n:Nat) (m:List Int) (e N:Nat) (M:List Int) (d:Nat) (F T:List Nat):(Int × Int) × List Int:=
 if ¬ uu n m e F then ((4,0),[]) else if h:∃ φ,Ext n (op m n) N (op M N) F T φ then ((0,0),xr n (Classical.choose h)) else ((6,0),[])
noncomputable def Cb (N:Int) (m:List Int) (N' : Int) (m' F T:List Int):(Int × Int) × List Int:=
 if ¬ (tg N m N' m').1=0 then (tg N m N' m',[])
 else if ¬ F.length=T.length∨(F.length:Int) > N then ((8,0),[])
 else match cE (ue N N' F T) F.length with
  | some i=>((3,(i:Int)),[])
  | none=>tc N.toNat m (eI m N.toNat).toNat N'.toNat m' (eI m' N'.toNat).toNat (tn F) (tn T)
section
variable {N N' : Int} {m m' F T:List Int}
theorem FR (h:¬ (tg N m N' m').1=0):Cb N m N' m' F T=(tg N m N' m',[]):=by unfold Cb; rw [if_pos h]
theorem EU (h:(tg N m N' m').1=0) (h2:¬ F.length=T.length∨(F.length:Int) > N):Cb N m N' m' F T=((8,0),[]):=by unfold Cb; rw [if_neg (by simpa using h),if_pos h2]
theorem yd (h:(tg N m N' m').1=0) (h2:F.length=T.length) (h3:(F.length:Int)≤N) {i:Nat} (hi:i < F.length) (hb:ue N N' F T i=true) (hj:∀ j,j < i→ue N N' F T j=false):Cb N m N' m' F T=((3,(i:Int)),[]):=by
 unfold Cb; rw [if_neg (by simpa using h),if_neg (by omega),dG hi hb hj]
end
section
variable {n e n' e' : Nat} {m m' F T:List Int}
theorem ET (h:GT n m n e) (h' : GT n' m' n' e') (h2:F.length=T.length) (h3:(F.length:Int)≤n) (hj:∀ j,j < F.length→ue n n' F T j=false):Cb n m n' m' F T=tc n m e n' m' e' (tn F) (tn T):=by
 unfold Cb; rw [if_neg (by rw [Ik h h']; simp),if_neg (by omega),eK hj]
 show tc n m (eI m n).toNat n' m' (eI m' n').toNat _ _=_
 rw [h.eI,h'.eI]; rfl
theorem Fq {F T:List Nat} (h:¬ uu n m e F):tc n m e n' m' e' F T=((4,0),[]):=by unfold tc; rw [if_pos h]
theorem Gt {F T:List Nat} (h:uu n m e F) (h2:¬ ∃ φ,Ext n (op m n) n' (op m' n') F T φ):tc n m e n' m' e' F T=((6,0),[]):=by unfold tc; rw [if_neg (by simpa using h),dif_neg h2]
theorem Ac {F T:List Nat} (h:uu n m e F) (h2:∃ φ,Ext n (op m n) n' (op m' n') F T φ):tc n m e n' m' e' F T=((0,0),xr n (Classical.choose h2)):=by unfold tc; rw [if_neg (by simpa using h),dif_pos h2]
theorem td {i:Nat} (h:ue n n' F T i=false):(F.getD i 0=((F.getD i 0).toNat:Nat)∧(F.getD i 0).toNat < n)∧T.getD i 0=((T.getD i 0).toNat:Nat)∧(T.getD i 0).toNat < n':=by
 have:=of_decide_eq_false h
 omega
end
theorem B8 (n:Nat) (q:Nat→Bool):(∀ a,a < n→q a=true)↔(ck n q).length=n:=by
 constructor
 ·intro h
  rw [fS]
  unfold kW
  rw [List.filter_eq_self.2 fun a ha=>h a (List.mem_range.1 ha),List.length_range]
 intro h a ha
 rw [fS] at h
 unfold kW at h
 refine Classical.byContradiction fun hq=>?_
 have:=List.length_filter_lt_length_iff_exists.2 ⟨a,List.mem_range.2 ha,hq⟩
 rw [List.length_range] at this
 omega
set_option maxHeartbeats 4000000 in
theorem Bb (N:Int) (m:List Int) (N' : Int) (m' F T:List Int) (hm:m.length≤1000000000000000) (hm' : m'.length≤1000000000000000) (hF:F.length≤1000000000000000) (hT:T.length≤1000000000000000) :
  ct Tryd.prog 16 [gp N m,gp N' m',.list (il F),.list (il T)] (.tup [.list (il (Cb N m N' m' F T).2),fl (Cb N m N' m' F T).1]):=by
 refine aV ae Tryd.func16 rfl (by kernel_rfl) (by rw [Tryd.ntmps16]; exact Nat.le_add_left 4 _) ?_; rw [Tryd.ntmps16]
 refine qm ?_
 refine ab fun K hK=>aa ae ?_
 simp only [an,fl,gp,ak,simprocAttr]
 refine af ?_ (hK _ ?_)<;>clear hK K
 ·first|exact trivial|omega|(simp only [ah] at *; omega)|(simp [ah] at *; omega)|simp_all
 refine qa (qm (qm ?_))
 refine ab fun K hK=>aa ae ?_
 simp only [an,fl,gp,ak,simprocAttr]
 refine ao trivial (au (zH N m N' m' hm hm') rfl rfl rfl (by simp only [ay,Nat.reduceLT]) (by repeat (first|exact trivial|constructor)) (aa ae ?_))
 simp only [an,fl,gp,ak,simprocAttr]
 refine af ?_ (hK _ ?_)<;>clear hK K
 ·first|exact trivial|omega|(simp only [ah] at *; omega)|(simp [ah] at *; omega)|simp_all
 refine qa (qm ?_)
 refine ab fun K hK=>aa ae ?_
 simp only [an,fl,gp,ak,simprocAttr]
 refine af ?_ (hK _ ?_)<;>clear hK K
 ·first|exact trivial|omega|(simp only [ah] at *; omega)|(simp [ah] at *; omega)|simp_all
 refine qa ?_
 refine aq rfl (fun hC1=>?_) (fun hC1=>?_)
 ·(try simp only [aE] at hC1)
  refine qm ?_
  refine aO mixed (by kernel_rfl) fun K hK=>aa ae ?_
  simp only [an,fl,gp,ak,simprocAttr]
  refine af ?_ (hK _ ?_)<;>clear hK K
  ·first|exact trivial|omega|(simp only [ah] at *; omega)|(simp [ah] at *; omega)|simp_all
  refine qa (qk (qb ?_))
  simp only [Tryd.results16,bT,an,fl,gp,ak,simprocAttr]
  all_goals (rw [FR hC1]; exact ⟨rfl,rfl,rfl⟩)
 (try simp only [aE] at hC1)
 obtain ⟨z1,z2⟩:=CC hC1
 obtain ⟨n,e,h,_⟩:=yg z1
 obtain ⟨n',e',h',_⟩:=yg z2
 obtain rfl:=h.1
 obtain rfl:=h'.1
 have hb:=h.2.1.big
 have hb':=h'.2.1.big
 refine qh (qa (qm (qm ?_)))
 rcases H6 (F.length=T.length) (F.length≤n) with k1 | ⟨k1,k2⟩ | ⟨k1,k2⟩
 ·refine ab fun K hK=>aa ae ?_
  simp only [an,fl,gp,ak,simprocAttr,aw,decide_eq_false (show ¬ ((F.length:Nat):Int)=((T.length:Nat):Int) by omega),Bool.not_false]
  refine af trivial (hK _ ?_)<;>clear hK K
  refine qa ?_
  refine aq rfl (fun hC2=>?_) (fun hC2=>?_)
  ·refine qm ?_
   refine ab fun K hK=>aa ae ?_
   simp only [an,fl,gp,ak,simprocAttr]
   refine ao trivial (au (fF 8 0) rfl rfl rfl (by simp only [ay,Nat.reduceLT]) (by repeat (first|exact trivial|constructor)) (aa ae ?_))
   simp only [an,fl,gp,ak,simprocAttr]
   refine af ?_ (hK _ ?_)<;>clear hK K
   ·first|exact trivial|omega|(simp only [ah] at *; omega)|(simp [ah] at *; omega)|simp_all
   refine qa (qk (qb ?_))
   simp only [Tryd.results16,bT,an,fl,gp,ak,simprocAttr]
   all_goals (rw [EU hC1 (.inl k1)]; exact ⟨rfl,rfl,rfl⟩)
  cases hC2
 ·refine ab fun K hK=>aa ae ?_
  simp only [an,fl,gp,ak,simprocAttr,aw,decide_eq_true (show ((F.length:Nat):Int)=((T.length:Nat):Int) by omega),Bool.not_true,decide_eq_false (show ¬ ((F.length:Nat):Int) > (n:Nat) by omega)]
  refine af ?_ (hK _ ?_)<;>clear hK K
  ·first|exact trivial|omega|(simp only [ah] at *; omega)|(simp [ah] at *; omega)|simp_all
  refine qa ?_
  refine aq rfl (fun hC2=>?_) (fun hC2=>?_)
  ·cases hC2
  (try simp only [aE] at hC2)
  refine qh (qa (qm ?_))
  refine ab fun K hK=>aa ae ?_
  simp only [an,fl,gp,ak,simprocAttr]
  refine af trivial (hK _ ?_)<;>clear hK K
  refine qa (qm (qm ?_))
  refine ab fun K hK=>aa ae ?_
  simp only [an,fl,gp,ak,simprocAttr,aw]
  refine af trivial (hK _ ?_)<;>clear hK K
  refine qa (ql ?_)
  refine aD (ι:=Nat) (fun i=>⟨98,[(2,.p (.list (il F))),(3,.p (.list (il T))),(4,.ptr 0 0),(5,.ptr 1 0),(9,.ptr 2 0),(11,.p (.int .u64 (xQ (F.take i)))),(35,.p (.int .i64 F.length)),(36,.p (.int .i64 i))],[.own [.p (.int .i64 n),.p (.list (il m))],.own [.p (.int .i64 n'),.p (.list (il m'))],.own [.p (.int .i64 0),.p (.int .i64 0)]]⟩) (fun i=>i≤F.length∧∀ j,j < i→ue n n' F T j=false) (fun i=>F.length - i) 0 ⟨Nat.zero_le _,fun j hj=>absurd hj (Nat.not_lt_zero _)⟩ [0,1,2] (by simp only [leq,bx,an,fl,gp,ak,simprocAttr]<;>first|trivial|exact ⟨rfl,rfl⟩|trace_state) fun i hi=>?_
  obtain ⟨hi1,hi2⟩:=hi
  refine qm ?_
  refine ab fun K hK=>aa ae ?_
  simp only [an,fl,gp,ak,simprocAttr]
  refine af trivial (hK _ ?_)<;>clear hK K
  refine qa (qm ?_)
  refine aq rfl (fun hC3=>?_) (fun hC3=>?_)
  ·(try simp only [aE] at hC3)
   have hil:i < F.length:=by omega
   refine qh (qa (qm (ql (qm ?_))))
   refine ab fun K hK=>aa ae ?_
   simp only [an,fl,gp,ak,simprocAttr]
   refine af trivial (hK _ ?_)<;>clear hK K
   refine qa (qm (qm ?_))
   by_cases g10a:F.getD i 0 < 0
   ·refine aO mixed (by kernel_rfl) fun K hK=>aa ae ?_
    simp only [an,fl,gp,ak,simprocAttr,aL hil,aL (show i < T.length by omega),decide_eq_true g10a]
    refine af ?_ (hK _ ?_)<;>clear hK K
    ·first|exact trivial|omega|(simp only [ah] at *; omega)|(simp [ah] at *; omega)|simp_all
    refine qa ?_
    refine aq rfl (fun hC4=>?_) (fun hC4=>?_)
    ·refine qm ?_
     refine ab fun K hK=>aa ae ?_
     simp only [an,fl,gp,ak,simprocAttr]
     refine ao trivial (au (fF 3 i) rfl rfl rfl (by simp only [ay,Nat.reduceLT]) (by repeat (first|exact trivial|constructor)) (aa ae ?_))
     simp only [an,fl,gp,ak,simprocAttr]
     refine af ?_ (hK _ ?_)<;>clear hK K
     ·first|exact trivial|omega|(simp only [ah] at *; omega)|(simp [ah] at *; omega)|simp_all
     refine qa (qk (qb (qe (qb (qb (qe (qb ?_)))))))
     simp only [Tryd.results16,bT,an,fl,gp,ak,simprocAttr]
     all_goals (rw [yd hC1 k1 (by omega) hil (decide_eq_true (.inl g10a)) hi2]; exact ⟨rfl,rfl,rfl⟩)
    cases hC4
   by_cases g10b:F.getD i 0 ≥ (n:Int)
   ·refine aO mixed (by kernel_rfl) fun K hK=>aa ae ?_
    simp only [an,fl,gp,ak,simprocAttr,aL hil,aL (show i < T.length by omega),decide_eq_false g10a,decide_eq_true g10b]
    refine af ?_ (hK _ ?_)<;>clear hK K
    ·first|exact trivial|omega|(simp only [ah] at *; omega)|(simp [ah] at *; omega)|simp_all
    refine qa ?_
    refine aq rfl (fun hC4=>?_) (fun hC4=>?_)
    ·refine qm ?_
     refine ab fun K hK=>aa ae ?_
     simp only [an,fl,gp,ak,simprocAttr]
     refine ao trivial (au (fF 3 i) rfl rfl rfl (by simp only [ay,Nat.reduceLT]) (by repeat (first|exact trivial|constructor)) (aa ae ?_))
     simp only [an,fl,gp,ak,simprocAttr]
     refine af ?_ (hK _ ?_)<;>clear hK K
     ·first|exact trivial|omega|(simp only [ah] at *; omega)|(simp [ah] at *; omega)|simp_all
     refine qa (qk (qb (qe (qb (qb (qe (qb ?_)))))))
     simp only [Tryd.results16,bT,an,fl,gp,ak,simprocAttr]
     all_goals (rw [yd hC1 k1 (by omega) hil (decide_eq_true (.inr (.inl g10b))) hi2]; exact ⟨rfl,rfl,rfl⟩)
    cases hC4
   by_cases g10c:T.getD i 0 < 0
   ·refine aO mixed (by kernel_rfl) fun K hK=>aa ae ?_
    simp only [an,fl,gp,ak,simprocAttr,aL hil,aL (show i < T.length by omega),decide_eq_false g10a,decide_eq_false g10b,decide_eq_true g10c]
    refine af ?_ (hK _ ?_)<;>clear hK K
    ·first|exact trivial|omega|(simp only [ah] at *; omega)|(simp [ah] at *; omega)|simp_all
    refine qa ?_
    refine aq rfl (fun hC4=>?_) (fun hC4=>?_)
    ·refine qm ?_
     refine ab fun K hK=>aa ae ?_
     simp only [an,fl,gp,ak,simprocAttr]
     refine ao trivial (au (fF 3 i) rfl rfl rfl (by simp only [ay,Nat.reduceLT]) (by repeat (first|exact trivial|constructor)) (aa ae ?_))
     simp only [an,fl,gp,ak,simprocAttr]
     refine af ?_ (hK _ ?_)<;>clear hK K
     ·first|exact trivial|omega|(simp only [ah] at *; omega)|(simp [ah] at *; omega)|simp_all
     refine qa (qk (qb (qe (qb (qb (qe (qb ?_)))))))
     simp only [Tryd.results16,bT,an,fl,gp,ak,simprocAttr]
     all_goals (rw [yd hC1 k1 (by omega) hil (decide_eq_true (.inr (.inr (.inl g10c)))) hi2]; exact ⟨rfl,rfl,rfl⟩)
    cases hC4
   refine aO mixed (by kernel_rfl) fun K hK=>aa ae ?_
   simp only [an,fl,gp,ak,simprocAttr,aL hil,aL (show i < T.length by omega),decide_eq_false g10a,decide_eq_false g10b,decide_eq_false g10c]
   refine af ?_ (hK _ ?_)<;>clear hK K
   ·first|exact trivial|omega|(simp only [ah] at *; omega)|(simp [ah] at *; omega)|simp_all
   refine qa ?_
   refine aq rfl (fun hC4=>?_) (fun hC4=>?_)
   ·(try simp only [aE] at hC4)
    refine qm ?_
    refine ab fun K hK=>aa ae ?_
    simp only [an,fl,gp,ak,simprocAttr]
    refine ao trivial (au (fF 3 i) rfl rfl rfl (by simp only [ay,Nat.reduceLT]) (by repeat (first|exact trivial|constructor)) (aa ae ?_))
    simp only [an,fl,gp,ak,simprocAttr]
    refine af ?_ (hK _ ?_)<;>clear hK K
    ·first|exact trivial|omega|(simp only [ah] at *; omega)|(simp [ah] at *; omega)|simp_all
    refine qa (qk (qb (qe (qb (qb (qe (qb ?_)))))))
    simp only [Tryd.results16,bT,an,fl,gp,ak,simprocAttr]
    all_goals (rw [yd hC1 k1 (by omega) hil (decide_eq_true (.inr (.inr (.inr hC4)))) hi2]; exact ⟨rfl,rfl,rfl⟩)
   (try simp only [aE] at hC4)
   have pJ:ue n n' F T i=false:=decide_eq_false (by omega)
   obtain ⟨⟨ha,ha2⟩,hb1,hb2⟩:=td pJ
   generalize (F.getD i 0).toNat=a at ha ha2
   have ha64:a < 64:=by omega
   have hmk:xQ (F.take i) < 2 ^ 64:=xe fun x hx=>by
    obtain ⟨j,hj,rfl⟩:=List.getElem_of_mem hx
    have hj2:j < i:=by rw [List.length_take] at hj; omega
    have:=(td (hi2 j hj2)).1.2
    rw [List.getElem_take]
    have e1:F.getD j 0=F[j]'(by omega):=by simp [List.getD,List.getElem?_eq_getElem (show j < F.length by omega)]
    rw [e1] at this
    omega
   have hp:2 ^ a < 2 ^ 64:=Nat.pow_lt_pow_right (by omega) ha64
   have hs:xQ (F.take (i + 1))=xQ (F.take i) ||| 2 ^ a:=by
    rw [List.take_succ_eq_append_getElem hil,Al]
    have:F[i]=(a:Int):=by rw [← ha]; simp [List.getD,List.getElem?_eq_getElem hil]
    rw [this]; rfl
   refine qh (qa ?_)
   refine ab fun K hK=>aa ae ?_
   simp only [an,fl,gp,ak,simprocAttr,aL hil,ha,ss ha64,EL hmk hp]
   refine af ?_ (hK _ ?_)<;>clear hK K
   ·first|exact trivial|omega|(simp only [ah] at *; omega)|(simp [ah] at *; omega)|simp_all
   refine qd (qa ?_)
   refine ab fun K hK=>aa ae ?_
   simp only [an,fl,gp,ak,simprocAttr]
   refine af ?_ (hK _ ?_)<;>clear hK K
   ·first|exact trivial|omega|(simp only [ah] at *; omega)|(simp [ah] at *; omega)|simp_all
   refine qa ?_
   refine ⟨i + 1,[0,1,2],⟨by omega,fun j hj=>?_⟩,by omega,?_⟩
   ·by_cases hji:j=i
    ·rw [hji]; exact pJ
    exact hi2 j (by omega)
   rw [hs]
   simp only [leq,bx,an,fl,gp,ak,simprocAttr]<;>first|trivial|omega
  (try simp only [aE] at hC3)
  obtain rfl:i=F.length:=by omega
  rw [List.take_length]
  have hrng:∀ j,j < F.length→(F.getD j 0=((F.getD j 0).toNat:Nat)∧(F.getD j 0).toNat < n)∧T.getD j 0=((T.getD j 0).toNat:Nat)∧(T.getD j 0).toNat < n':=fun j hj=>td (hi2 j hj)
  have hnF:nl (tn F)=F:=xV fun j hj=>by have:=(hrng j hj).1.1; omega
  have hnT:nl (tn T)=T:=xV fun j hj=>by have:=(hrng j (by omega)).2.1; omega
  have hlF:=lD F
  have hlT:=lD T
  have hF1:∀ i,i < (tn F).length→(tn F).getD i 0 < n:=fun j hj=>by rw [jh (by omega)]; exact (hrng j (by omega)).1.2
  have hT1:∀ i,i < (tn F).length→(tn T).getD i 0 < n':=fun j hj=>by rw [jh (by omega)]; exact (hrng j (by omega)).2.2
  have hmb:(xQ F).testBit=fun x=>decide (x∈tn F):=funext fun x=>by
   rw [sg]
   exact decide_eq_decide.2 (by simp [tn])
  have hms:xQ F < 2 ^ n:=xe fun x hx=>by
   obtain ⟨j,hj,rfl⟩:=List.getElem_of_mem hx
   have:=(hrng j hj).1.2
   rwa [show F.getD j 0=F[j] by simp [List.getD,List.getElem?_eq_getElem hj]] at this
  obtain ⟨q,hq⟩:=qu n (op m n) e fun x=>decide (x∈tn F)
  have hgp:uu n m e (tn F)↔∀ a,a < n→q a=true:=⟨fun hh a ha=>(hq a ha).2 (hh a ha),fun hh a ha=>(hq a ha).1 (hh a ha)⟩
  have hsb:=xi (n:=n) hb q
  have htf:=B8 n q
  have htl:=p9 n q
  have hbq:bo n q < 2 ^ 64:=lZ hb q
  have hx2:=ET h h' k1 (by omega) hi2
  refine qj (qc (qc (qf (qa (qm (qm ?_))))))
  refine cZ mixed fun K hK=>aM ae ?_
  simp only [lP,an,fl,gp,ak,simprocAttr,hsb,aw]
  refine bw trivial (bJ (Fc h (xQ F) hms q (fun a ha=>by rw [hmb]; exact hq a ha)) rfl rfl rfl rfl (by simp only [ay,Nat.reduceLT]) (by repeat (first|exact trivial|constructor)) (aM ae ?_))
  simp only [lP,an,fl,gp,ak,simprocAttr,hsb,aw]
  refine bw trivial (bJ (Gx (bo n q) hbq) rfl rfl rfl rfl (by simp only [ay,Nat.reduceLT]) (by repeat (first|exact trivial|constructor)) (aM ae ?_))
  simp only [lP,an,fl,gp,ak,simprocAttr,hsb,aw]
  refine db ?_ (hK _ _ (by first|kernel_rfl|rfl) ?_)<;>clear hK K
  ·first|exact trivial|omega|(simp only [ah] at *; omega)|(simp [ah] at *; omega)|simp_all
  refine qa ?_
  refine aq rfl (fun hC5=>?_) (fun hC5=>?_)
  ·(try simp only [aE] at hC5)
   have hng:¬ uu n m e (tn F):=fun hh=>by
    have:=htf.1 (hgp.1 hh)
    omega
   refine qm ?_
   refine ab fun K hK=>aa ae ?_
   simp only [an,fl,gp,ak,simprocAttr]
   refine ao trivial (au (fF 4 0) rfl rfl rfl (by simp only [ay,Nat.reduceLT]) (by repeat (first|exact trivial|constructor)) (aa ae ?_))
   simp only [an,fl,gp,ak,simprocAttr]
   refine af ?_ (hK _ ?_)<;>clear hK K
   ·first|exact trivial|omega|(simp only [ah] at *; omega)|(simp [ah] at *; omega)|simp_all
   refine qa (qk (qb ?_))
   simp only [Tryd.results16,bT,an,fl,gp,ak,simprocAttr]
   all_goals (rw [hx2,Fq hng]; exact ⟨rfl,rfl,rfl⟩)
  (try simp only [aE] at hC5)
  have hg:uu n m e (tn F):=hgp.2 (htf.2 (by omega))
  refine qh (qa (qm ?_))
  by_cases hex:∃ φ,Ext n (op m n) n' (op m' n') (tn F) (tn T) φ
  ·have hsp:=wU h h' (tn F) (tn T) (by omega) (by omega) hF1 hT1 hg (Classical.choose_spec hex)
   rw [hnF,hnT] at hsp
   have hx3:=Ac (m:=m) (m':=m') (e':=e') hg hex
   generalize Classical.choose hex=φ at hsp hx3
   have htb:=oy n φ
   have hne:il (xr n φ) ≠ []:=by
    intro hh
    have h1:=congrArg List.length hh
    rw [aw,htb] at h1
    have h2:=h.2.1.pos
    simp only [List.length_nil] at h1
    omega
   refine ab fun K hK=>aa ae ?_
   simp only [an,fl,gp,ak,simprocAttr]
   refine ao ?_ (lL (sN hsp (by simp [il,PV.sc])) rfl (by simp only [da,aU,bH,cg,List.map_cons,List.map_nil,List.append_nil,bT,an,fl,gp,ak,simprocAttr,List.drop_zero,oO,oG,dX,jg,ij,aw]; rfl) (by simp only [ay,Nat.reduceLT]) ?_ (aa ae ?_))
   ·first|exact trivial|omega|(simp only [ah] at *; omega)|(simp [ah] at *; omega)|simp_all
   ·first|exact trivial|omega|(simp only [ah] at *; omega)|(simp [ah] at *; omega)|simp_all
   simp only [an,fl,gp,ak,simprocAttr]
   refine af ?_ (hK _ ?_)<;>clear hK K
   ·first|exact trivial|omega|(simp only [ah] at *; omega)|(simp [ah] at *; omega)|simp_all
   refine qa (qm (qm ?_))
   refine ab fun K hK=>aa ae ?_
   simp only [an,fl,gp,ak,simprocAttr,cR.eq_def,Option.map_some]
   refine af ?_ (hK _ ?_)<;>clear hK K
   ·first|exact hne|trivial
   refine qa ?_
   refine aq rfl (fun hC6=>?_) (fun hC6=>?_)
   ·cases hC6
   (try simp only [aE] at hC6)
   refine qh (qa (qm ?_))
   refine ab fun K hK=>aa ae ?_
   simp only [an,fl,gp,ak,simprocAttr]
   refine af ?_ (hK _ ?_)<;>clear hK K
   ·first|exact trivial|omega|(simp only [ah] at *; omega)|(simp [ah] at *; omega)|simp_all
   refine qa (qk ?_)
   simp only [Tryd.results16,bT,an,fl,gp,ak,simprocAttr]
   all_goals (rw [hx2,hx3]; exact ⟨rfl,rfl,rfl⟩)
  have hsp:=B7 (yW h h' (tn F) (tn T) (by omega) (by omega) hF1 hT1 hg fun φ hφ=>hex ⟨φ,hφ⟩) rfl
  rw [hnF,hnT] at hsp
  refine ab fun K hK=>aa ae ?_
  simp only [an,fl,gp,ak,simprocAttr]
  refine ao trivial (au (hsp) rfl rfl rfl (by simp only [ay,Nat.reduceLT]) (by repeat (first|exact trivial|constructor)) (aa ae ?_))
  simp only [an,fl,gp,ak,simprocAttr]
  refine af ?_ (hK _ ?_)<;>clear hK K
  ·first|exact trivial|omega|(simp only [ah] at *; omega)|(simp [ah] at *; omega)|simp_all
  refine qa (qm (qm ?_))
  refine ab fun K hK=>aa ae ?_
  simp only [an,fl,gp,ak,simprocAttr,cR.eq_def,Option.map_some]
  refine af ?_ (hK _ ?_)<;>clear hK K
  ·first|exact hne|trivial
  refine qa ?_
  refine aq rfl (fun hC6=>?_) (fun hC6=>?_)
  ·(try simp only [aE] at hC6)
   refine qm ?_
   refine ab fun K hK=>aa ae ?_
   simp only [an,fl,gp,ak,simprocAttr]
   refine ao trivial (au (fF 6 0) rfl rfl rfl (by simp only [ay,Nat.reduceLT]) (by repeat (first|exact trivial|constructor)) (aa ae ?_))
   simp only [an,fl,gp,ak,simprocAttr]
   refine af ?_ (hK _ ?_)<;>clear hK K
   ·first|exact trivial|omega|(simp only [ah] at *; omega)|(simp [ah] at *; omega)|simp_all
   refine qa (qk (qb ?_))
   simp only [Tryd.results16,bT,an,fl,gp,ak,simprocAttr]
   all_goals (rw [hx2,Gt hg hex]; exact ⟨rfl,rfl,rfl⟩)
  cases hC6
 refine ab fun K hK=>aa ae ?_
 simp only [an,fl,gp,ak,simprocAttr,aw,decide_eq_true (show ((F.length:Nat):Int)=((T.length:Nat):Int) by omega),Bool.not_true,decide_eq_true (show ((F.length:Nat):Int) > (n:Nat) by omega)]
 refine af ?_ (hK _ ?_)<;>clear hK K
 ·first|exact trivial|omega|(simp only [ah] at *; omega)|(simp [ah] at *; omega)|simp_all
 refine qa ?_
 refine aq rfl (fun hC2=>?_) (fun hC2=>?_)
 ·(try simp only [aE] at hC2)
  refine qm ?_
  refine ab fun K hK=>aa ae ?_
  simp only [an,fl,gp,ak,simprocAttr]
  refine ao trivial (au (fF 8 0) rfl rfl rfl (by simp only [ay,Nat.reduceLT]) (by repeat (first|exact trivial|constructor)) (aa ae ?_))
  simp only [an,fl,gp,ak,simprocAttr]
  refine af ?_ (hK _ ?_)<;>clear hK K
  ·first|exact trivial|omega|(simp only [ah] at *; omega)|(simp [ah] at *; omega)|simp_all
  refine qa (qk (qb ?_))
  simp only [Tryd.results16,bT,an,fl,gp,ak,simprocAttr]
  all_goals (rw [EU hC1 (.inr (by omega))]; exact ⟨rfl,rfl,rfl⟩)
 cases hC2
open Go.Pv
section
variable {n e N d:Nat} {f g:Nat→Nat→Nat} {φ:Nat→Nat}
theorem Ev.Jv (G:ba n f e) (K:ba N g d) (h:Ev n f N g φ) {a:Nat} (ha:a < n):φ (iv n f e a)=iv N g d (φ a):=by
 have h1:=h.lt a ha
 have h2:=h.lt _ (G.aS ha)
 have h3:=h.mul a _ ha (G.aS ha)
 rw [G.cr ha,h.one G K] at h3
 refine K.kf h1 h2 (K.aS h1) ?_
 rw [← h3,K.cr h1]
theorem ur (G:ba n f e) (K:ba N g d) (h:Ev n f N g φ):Sub n f e fun a=>decide (φ a=d):=by
 refine lr G (by simpa using h.one G K) fun a b ha hb h1 h2=>?_
 simp only [decide_eq_true_eq] at h1 h2 ⊢
 rw [h.mul a b ha hb,h1,h2,K.one_l _ K.el]
theorem yp (G:ba n f e) (K:ba N g d) (h:Ev n f N g φ) {a b:Nat} (ha:a < n) (hb:b < n):sM n f (fun a=>decide (φ a=d)) (nE e) a b=true↔φ a=φ b:=by
 rw [G.mQ ha hb,decide_eq_true_eq,h.mul _ _ hb (G.aS ha),h.Jv G K ha]
 have h1:=h.lt a ha
 have h2:=h.lt b hb
 have hi:=K.aS h1
 constructor
 ·intro hh
  have:g (g (φ b) (iv N g d (φ a))) (φ a)=g d (φ a):=by rw [hh]
  rw [K.assoc _ _ _ h2 hi h1,K.eO h1,K.one_r _ h2,K.one_l _ h1] at this
  exact this.symm
 intro hh
 rw [hh,K.cr h2]
theorem AA (G:ba n f e) (K:ba N g d) (h:Ev n f N g φ) (q:Nat→Bool) (hq:∀ b,b < N→(q b=true↔∃ a,a < n∧φ a=b)):(mem N q).length ∣ n:=by
 have E:=G.oM (ur G K h) G.fW
 have hm:∀ {k:Nat} {p:Nat→Bool} {x:Nat},x∈mem k p↔x < k∧p x=true:=fun {k p x}=>by unfold mem; rw [List.mem_filter,List.mem_range]
 have hnd:∀ {k:Nat} {p:Nat→Bool},(mem k p).Nodup:=fun {k p}=>List.Pairwise.filter _ List.nodup_range
 have e1:(mem n (lead (sM n f (fun a=>decide (φ a=d)) (nE e)))).length=(mem N q).length:=by
  rw [← List.length_map (f:=φ)]
  refine ((List.perm_ext_iff_of_nodup ?_ hnd).2 fun b=>?_).length_eq
  ·refine kC hnd fun x hx y hy hxy=>?_
   rw [hm] at hx hy
   exact E.tq hx.1 hy.1 hx.2 hy.2 ((yp G K h hx.1 hy.1).2 hxy)
  rw [List.mem_map,hm]
  constructor
  ·rintro ⟨x,hx,rfl⟩
   rw [hm] at hx
   exact ⟨h.lt x hx.1,(hq _ (h.lt x hx.1)).2 ⟨x,hx.1,rfl⟩⟩
  rintro ⟨hb,h1⟩
  obtain ⟨a,ha,rfl⟩:=(hq b hb).1 h1
  obtain ⟨x,hx,hl,hr⟩:=E.least ha
  exact ⟨x,hm.2 ⟨hx,hl⟩,(yp G K h hx ha).1 hr⟩
 rw [← e1]
 exact ⟨_,(G.yB (ur G K h)).symm⟩
end
section
variable {m n e:Nat} {rels T:List (List Int)} {mm F:List Int}
theorem vq (T ws:List (List Int)):(Pr.gK T ws).length=T.length * T.length:=by simp [Pr.gK]
theorem xI (T ws:List (List Int)) {a b:Nat} (ha:a < T.length) (hb:b < T.length):(Pr.gK T ws).getD (a * T.length + b) 0=(Pr.GR T ws a b:Int):=by
 have h1:=vp ha hb
 unfold Pr.gK
 rw [List.getD_eq_getElem?_getD,List.getElem?_map,List.getElem?_range h1]
 have e1:(a * T.length + b) / T.length=a:=by rw [Nat.mul_comm,Nat.mul_add_div (by omega),Nat.div_eq_of_lt hb]; omega
 have e2:(a * T.length + b) % T.length=b:=by rw [Nat.mul_comm,Nat.mul_add_mod,Nat.mod_eq_of_lt hb]
 simp only [Option.map_some,Option.getD_some,e1,e2]
 rfl
theorem sA (T ws:List (List Int)) {a b:Nat} (ha:a < T.length) (hb:b < T.length):op (Pr.gK T ws) T.length a b=Pr.GR T ws a b:=by
 unfold op
 rw [xI T ws ha hb]; simp
theorem se (hm:m≤26) (ho:Pr.oK m rels [] 60=some T) (tk:Pr.eX m T rels []) (t0:0 < T.length) (t60:T.length≤60):GT T.length (Pr.gK T (Pr.dj T m)) T.length 0:=by
 have G:=Pr.A4 hm ho tk t0
 have hop:=fun {a b:Nat} (ha:a < T.length) (hb:b < T.length)=>sA T (Pr.dj T m) ha hb
 refine ⟨rfl,⟨t0,t60,vq _ _,fun i hi=>?_⟩,t0,fun a b ha hb=>by rw [hop ha hb]; exact G.cl a b ha hb,t0,fun a ha=>by rw [hop t0 ha]; exact G.one_l a ha,fun a ha=>by rw [hop ha t0]; exact G.one_r a ha,fun a b c ha hb hc=>?_,fun a ha=>?_⟩
 ·have h1:i / T.length < T.length:=Nat.div_lt_of_lt_mul hi
  have h2:i % T.length < T.length:=Nat.mod_lt _ t0
  have e:i=(i / T.length) * T.length + i % T.length:=by rw [Nat.mul_comm]; exact (Nat.div_add_mod i T.length).symm
  have:=xI T (Pr.dj T m) h1 h2
  rw [← e] at this
  rw [this]
  have:=G.cl _ _ h1 h2
  omega
 ·rw [hop ha hb,hop hb hc,hop (G.cl a b ha hb) hc,hop ha (G.cl b c hb hc)]
  exact G.assoc a b c ha hb hc
 obtain ⟨b,hb,h1,h2⟩:=G.inv a ha
 exact ⟨b,hb,by rw [hop ha hb]; exact h1,by rw [hop hb ha]; exact h2⟩
def oC (n:Nat) (f:Nat→Nat→Nat) (e:Nat) (F:List Int) (x:Int):Nat:=if 0 < x then (F.getD (x - 1).toNat 0).toNat else iv n f e (F.getD (-x - 1).toNat 0).toNat
def rf (n:Nat) (f:Nat→Nat→Nat) (e:Nat) (F:List Int) (w:List Int):Nat:=w.foldl (fun v x=>f v (oC n f e F x)) e
def DV (n:Nat) (f:Nat→Nat→Nat) (e:Nat) (F:List Int) (c:Nat) (x:Int):Nat:=if c < n then f c (oC n f e F x) else c
def Cr (m n:Nat) (F:List Int):Prop:=F.length=m∧∀ i,i < m→0≤F.getD i 0∧F.getD i 0 < n
theorem Bk {f:Nat→Nat→Nat} (G:ba n f e) (hF:Cr m n F) {x:Int} (h0:x ≠ 0) (h1 : -(m:Int)≤x) (h2:x≤m):oC n f e F x < n:=by
 unfold oC
 split
 ·have:=hF.2 (x - 1).toNat (by omega); omega
 have:=hF.2 (-x - 1).toNat (by omega); exact G.aS (by omega)
theorem Hg {f:Nat→Nat→Nat} (G:ba n f e) (hF:Cr m n F) {x:Int} (h0:x ≠ 0) (h1 : -(m:Int)≤x) (h2:x≤m):oC n f e F (-x)=iv n f e (oC n f e F x):=by
 unfold oC
 by_cases h:0 < x
 ·rw [if_neg (by omega),if_pos h,Int.neg_neg]
 rw [if_pos (by omega),if_neg h,G.Av]
 have:=hF.2 (-x - 1).toNat (by omega); omega
theorem Gc {f:Nat→Nat→Nat} (G:ba n f e) (hF:Cr m n F):Pr.o7 m (DV n f e F):=by
 intro c x h0 h1 h2
 unfold DV
 have hl:=Bk G hF h0 h1 h2
 by_cases hc:c < n
 ·rw [if_pos hc,if_pos (G.cl _ _ hc hl),Hg G hF h0 h1 h2,G.assoc _ _ _ hc hl (G.aS hl),G.cr hl,G.one_r _ hc]
 rw [if_neg hc,if_neg hc]
theorem qy {f:Nat→Nat→Nat} (G:ba n f e) (hF:Cr m n F):∀ (w:List Int) (c:Nat),Pr.Lt m w→c < n→w.foldl (fun v x=>f v (oC n f e F x)) c < n∧w.foldl (DV n f e F) c=w.foldl (fun v x=>f v (oC n f e F x)) c
 | [],c,_,hc=>⟨hc,rfl⟩
 | x :: w,c,hw,hc=>by
  have hx:=hw x (by simp)
  have hl:=Bk G hF hx.1 hx.2.1 hx.2.2
  rw [List.foldl_cons,List.foldl_cons]
  have e1:DV n f e F c x=f c (oC n f e F x):=by unfold DV; rw [if_pos hc]
  rw [e1]
  exact qy G hF w _ (fun y hy=>hw y (by simp [hy])) (G.cl _ _ hc hl)
theorem wJ {f:Nat→Nat→Nat} (G:ba n f e) (hF:Cr m n F):∀ (w:List Int) (c a:Nat),Pr.Lt m w→c < n→a < n→w.foldl (fun v x=>f v (oC n f e F x)) (f c a)=f c (w.foldl (fun v x=>f v (oC n f e F x)) a)
 | [],c,a,_,_,_=>rfl
 | x :: w,c,a,hw,hc,ha=>by
  have hx:=hw x (by simp)
  have hl:=Bk G hF hx.1 hx.2.1 hx.2.2
  rw [List.foldl_cons,List.foldl_cons,G.assoc _ _ _ hc ha hl]
  exact wJ G hF w c _ (fun y hy=>hw y (by simp [hy])) hc (G.cl _ _ ha hl)
theorem ew (T:List (List Int)) (m:Nat):(Pr.kV T m).length=m:=by simp [Pr.kV]
theorem wC (T:List (List Int)) {m i:Nat} (hi:i < m):(Pr.kV T m).getD i 0=(Pr.jv T 0 ((i + 1:Nat):Int):Int):=by
 unfold Pr.kV
 rw [List.getD_eq_getElem?_getD,List.getElem?_map,List.getElem?_range hi]; rfl
theorem IK (hm:m≤26) (ho:Pr.oK m rels [] 60=some T) (tk:Pr.eX m T rels []) (t0:0 < T.length) (h:GT n mm n e) (hF:Cr m n F) (hrel:∀ w∈rels,rf n (op mm n) e F w=e) :
  ∃ φ,Ext T.length (op (Pr.gK T (Pr.dj T m)) T.length) n (op mm n) (tn (Pr.kV T m)) (tn F) φ∧∀ (w:List Int) a,Pr.Lt m w→a < T.length→φ (Pr.cb T a w)=w.foldl (fun v x=>op mm n v (oC n (op mm n) e F x)) (φ a):=by
 have G:=h.2.2
 obtain ⟨κ,k1,k2⟩:=Pr.yl hm tk.rl ho (Gc G hF) (fun c w hw=>by
  by_cases hc:c < n
  ·rw [(qy G hF w c (tk.rl w hw) hc).2]
   have:=wJ G hF w c e (tk.rl w hw) hc G.el
   rw [G.one_r _ hc] at this
   rw [this]
   have h2:=hrel w hw
   unfold rf at h2
   rw [h2,G.one_r _ hc]
  have:∀ (w:List Int),w.foldl (DV n (op mm n) e F) c=c:=by
   intro w
   induction w with
   | nil=>rfl
   | cons x w ih =>
    rw [List.foldl_cons]
    have e1:DV n (op mm n) e F c x=c:=by unfold DV; rw [if_neg hc]
    rw [e1]; exact ih
  exact this w) e
 have hled:=Pr.oF tk k2
 obtain ⟨w1,w2⟩:=Pr.oA tk t0
 have hwd:∀ j,j < T.length→Pr.Lt m ((Pr.dj T m).getD j [])∧Pr.cb T 0 ((Pr.dj T m).getD j [])=j:=fun j hj=>by
  obtain ⟨a,b,_⟩:=w1.wd j (by omega)
  exact ⟨a,b⟩
 have hlt:∀ a,a < T.length→κ a < n:=fun a ha=>by
  obtain ⟨c1,c2⟩:=hwd a ha
  have:=hled _ 0 c1 t0
  rw [c2,k1,(qy G hF _ e c1 G.el).2] at this
  rw [this]
  exact (qy G hF _ e c1 G.el).1
 have hev:∀ (w:List Int) a,Pr.Lt m w→a < T.length→κ (Pr.cb T a w)=w.foldl (fun v x=>op mm n v (oC n (op mm n) e F x)) (κ a):=fun w a hw ha=>by
  rw [hled w a hw ha,(qy G hF w _ hw (hlt a ha)).2]
 refine ⟨κ,⟨⟨hlt,fun a b ha hb=>?_⟩,fun i hi=>?_⟩,hev⟩
 ·rw [sA T _ ha hb]
  obtain ⟨c1,c2⟩:=hwd b hb
  show κ (Pr.cb T a ((Pr.dj T m).getD b []))=_
  rw [hev _ a c1 ha]
  have h1:=wJ G hF _ (κ a) e c1 (hlt a ha) G.el
  rw [G.one_r _ (hlt a ha)] at h1
  rw [h1]
  have h2:=hev _ 0 c1 t0
  rw [c2,k1] at h2
  rw [h2]
 rw [lD,ew] at hi
 rw [jh (by rw [ew]; exact hi),wC T hi,Int.toNat_natCast,jh (by rw [hF.1]; exact hi)]
 rw [k2 0 t0 ((i + 1:Nat):Int) (by omega) (by omega) (by omega),k1]
 unfold DV oC
 rw [if_pos G.el,if_pos (by omega)]
 have e1:(((i + 1:Nat):Int) - 1).toNat=i:=by omega
 rw [e1]
 have:=hF.2 i hi
 exact G.one_l _ (by omega)
theorem Bc {n:Nat} {f:Nat→Nat→Nat} {e:Nat} (G:ba n f e) {p:Nat→Bool} {a b:Nat} (ha:dC n f e p a) (hal:a < n) (hb:b < n) (hp:p b=true):∀ k,dC n f e p (f a (pw f e b k))
 | 0=>by
  have:f a (pw f e b 0)=a:=G.one_r _ hal
  rw [this]; exact ha
 | k + 1=>by
  have h1:pw f e b (k + 1)=f (pw f e b k) b:=rfl
  rw [h1,← G.assoc _ _ _ hal (G.jH hb k) hb]
  exact .step _ _ (Bc G ha hal hb hp k) hb hp
theorem B2 (hm:m≤26) (ho:Pr.oK m rels [] 60=some T) (tk:Pr.eX m T rels []) (t0:0 < T.length) (t60:T.length≤60):uu T.length (Pr.gK T (Pr.dj T m)) 0 (tn (Pr.kV T m)):=by
 have hG:=se hm ho tk t0 t60
 have G:=hG.2.2
 have M:=Pr.A4 hm ho tk t0
 have hop:=fun {a b:Nat} (ha:a < T.length) (hb:b < T.length)=>sA T (Pr.dj T m) ha hb
 have hk:∀ x:Int,0 < x→x≤m→Pr.jv T 0 x∈tn (Pr.kV T m):=fun x h1 h2=>by
  have hi:(x - 1).toNat < m:=by omega
  have e1:=wC T hi
  rw [show (((x - 1).toNat + 1:Nat):Int)=x by omega] at e1
  have e2:=jh (l:=Pr.kV T m) (i:=(x - 1).toNat) (by rw [ew]; exact hi)
  rw [e1,Int.toNat_natCast] at e2
  rw [← e2,List.getD_eq_getElem?_getD,List.getElem?_eq_getElem (by rw [lD,ew]; exact hi)]
  exact List.getElem_mem _
 have step:∀ (w:List Int) (a:Nat),Pr.Lt m w→a < T.length→dC T.length (op (Pr.gK T (Pr.dj T m)) T.length) 0 (fun x=>decide (x∈tn (Pr.kV T m))) a→dC T.length (op (Pr.gK T (Pr.dj T m)) T.length) 0 (fun x=>decide (x∈tn (Pr.kV T m))) (Pr.cb T a w):=by
  intro w
  induction w with
  | nil=>intro a _ _ h; exact h
  | cons x w ih =>
   intro a hw ha hg
   have hx:=hw x (by simp)
   refine ih _ (fun y hy=>hw y (by simp [hy])) (tk.tb.st ha hx).2 ?_
   rw [M.let_ a ha x hx.1 hx.2.1 hx.2.2]
   have hs0:=(tk.tb.st t0 hx).2
   rw [← hop ha hs0]
   by_cases hpos:0 < x
   ·exact .step _ _ hg hs0 (by simpa using hk x hpos hx.2.2)
   have hx2 : -x ≠ 0∧-(m:Int)≤-x∧-x≤m:=⟨by omega,by omega,by omega⟩
   have hs1:=(tk.tb.st t0 hx2).2
   have hu:=tk.und 0 t0 (-x) hx2.1 hx2.2.1 hx2.2.2
   rw [Int.neg_neg,M.let_ _ hs1 x hx.1 hx.2.1 hx.2.2,← hop hs1 hs0] at hu
   have hiv:=G.di hs1 hs0 (.inl hu)
   rw [hiv,G.B4 hs1]
   exact Bc G hg ha hs1 (by simpa using hk (-x) (by omega) (by omega)) _
 intro a ha
 obtain ⟨w1,w2⟩:=Pr.oA tk t0
 obtain ⟨c1,c2,_⟩:=w1.wd a (by omega)
 have:=step _ 0 c1 t0 .one
 rw [c2] at this
 exact this
end
open Go.Pv
def GX (l:List (List Int)):Prop:=l.length≤1000000000∧∀ w∈l,w.length≤1000000000
theorem E7 {l:List (List Int)} (h:GX l):Pr.ID [l]:=⟨by simp,fun x hx=>by
 simp only [List.mem_cons,List.not_mem_nil,or_false] at hx
 rw [hx]; exact h⟩
theorem DN (n:Int) (l:List (List Int)) (h:GX l):ct Tryd.prog 20 [.int .i64 n,.nn [.list (ll l)]] (fl (Pr.fH n [l])):=ct.vm (Pr.AO n [l] (E7 h)) ⟨pr.rfl,pr.nn,trivial⟩
theorem wX (n:Int) (l:List (List Int)) (h:GX l):ct Tryd.prog 11 [.int .i64 n,.nn [.list (ll l)]] (fl (Pr.fH n [l])):=ct.vm (Pr.uE n [l] (E7 h)) ⟨pr.rfl,pr.nn,trivial⟩
theorem EM (c a:Int):ct Tryd.prog 21 [.int .i64 c,.int .i64 a] (fl (c,a)):=Pr.ez c a
def Cp (N:Int) (F:List Int) (i:Nat):Bool:=decide (F.getD i 0 < 0∨F.getD i 0 ≥ N)
def xF (N:Int) (mm F:List Int) (rels:List (List Int)):Bool × (Int × Int):=
 if ¬ (gf N mm).1=0 then (false,gf N mm)
 else if ¬ (Pr.fH F.length [rels]).1=0 then (false,Pr.fH F.length [rels])
 else match cE (Cp N F) F.length with
  | some i=>(false,(8,(i:Int)))
  | none=>(rels.all fun w=>decide (rf N.toNat (op mm N.toNat) (eI mm N.toNat).toNat F w=(eI mm N.toNat).toNat),(0,0))
section
variable {N:Int} {mm F:List Int} {rels:List (List Int)}
theorem HN (h:¬ (gf N mm).1=0):xF N mm F rels=(false,gf N mm):=by unfold xF; rw [if_pos h]
theorem Ip (h:(gf N mm).1=0) (h2:¬ (Pr.fH F.length [rels]).1=0):xF N mm F rels=(false,Pr.fH F.length [rels]):=by unfold xF; rw [if_neg (by simpa using h),if_pos h2]
theorem GB (h:(gf N mm).1=0) (h2:(Pr.fH F.length [rels]).1=0) {i:Nat} (hi:i < F.length) (hb:Cp N F i=true) (hj:∀ j,j < i→Cp N F j=false):xF N mm F rels=(false,(8,(i:Int))):=by
 unfold xF; rw [if_neg (by simpa using h),if_neg (by simpa using h2),dG hi hb hj]
theorem E8 {n e:Nat} (h:GT n mm n e) (h2:(Pr.fH F.length [rels]).1=0) (hj:∀ j,j < F.length→Cp n F j=false):xF n mm F rels=(rels.all fun w=>decide (rf n (op mm n) e F w=e),(0,0)):=by
 unfold xF; rw [if_neg (by rw [uT h]; simp),if_neg (by simpa using h2),eK hj]
 simp only [Int.toNat_natCast,h.eI]
end
theorem uQ {n e:Nat} {f:Nat→Nat→Nat} {F w:List Int} {i:Nat} (hi:i < w.length):rf n f e F (w.take (i + 1))=f (rf n f e F (w.take i)) (oC n f e F (w.getD i 0)):=by
 unfold rf
 rw [List.take_succ_eq_append_getElem hi,List.foldl_append]
 simp [List.getD,List.getElem?_eq_getElem hi]
theorem x7 {m:Nat} {w:List Int} (h:Pr.Lt m w) (i:Nat):Pr.Lt m (w.take i):=fun x hx=>h x (List.mem_of_mem_take hx)
theorem get_mem {w:List Int} {i:Nat} (hi:i < w.length):w.getD i 0∈w:=by
 simp [List.getD,List.getElem?_eq_getElem hi]
set_option maxHeartbeats 4000000 in
theorem uR {n e:Nat} {mm F w:List Int} (h:GT n mm n e) (hF:Cr F.length n F) (hw:Pr.Lt F.length w) (hm:F.length≤1000000) (hl:w.length≤1000000000):ct Tryd.prog 13 [gp n mm,.list (il F),.list (il w)] (.int .i64 (rf n (op mm n) e F w:Nat)):=by
 refine aV ae Tryd.func13 rfl (by kernel_rfl) (by rw [Tryd.ntmps13]; exact Nat.le_add_left 3 _) ?_; rw [Tryd.ntmps13]
 have G:=h.2.2
 have hb:=h.2.1.big
 refine qm ?_
 refine ab fun K hK=>aa ae ?_
 simp only [an,fl,gp,ak,simprocAttr]
 refine af ?_ (hK _ ?_)<;>clear hK K
 ·first|exact trivial|omega|(simp only [ah] at *; omega)|(simp [ah] at *; omega)|simp_all
 refine qa (qm ?_)
 have he:=h.eI
 refine ab fun K hK=>aa ae ?_
 simp only [an,fl,gp,ak,simprocAttr,he]
 refine ao trivial (au (FB h.2.1) rfl rfl rfl (by simp only [ay,Nat.reduceLT]) (by repeat (first|exact trivial|constructor)) (aa ae ?_))
 simp only [an,fl,gp,ak,simprocAttr,he]
 refine af ?_ (hK _ ?_)<;>clear hK K
 ·first|exact trivial|omega|(simp only [ah] at *; omega)|(simp [ah] at *; omega)|simp_all
 refine qa (qm (qm ?_))
 refine ab fun K hK=>aa ae ?_
 simp only [an,fl,gp,ak,simprocAttr]
 refine af trivial (hK _ ?_)<;>clear hK K
 refine qa (ql ?_)
 refine aD (ι:=Nat) (fun i=>⟨48,[(1,.p (.list (il F))),(2,.p (.list (il w))),(3,.ptr 0 0),(7,.p (.int .i64 (rf n (op mm n) e F (w.take i):Nat))),(8,.p (.int .i64 (i:Nat)))],[.own [.p (.int .i64 n),.p (.list (il mm))]]⟩) (fun i=>i≤w.length) (fun i=>w.length - i) 0 (Nat.zero_le _) [0] (by simp only [leq,bx,an,fl,gp,ak,simprocAttr]<;>trivial) fun i hi=>?_
 refine qm (qm ?_)
 refine ab fun K hK=>aa ae ?_
 simp only [an,fl,gp,ak,simprocAttr,aw]
 refine af trivial (hK _ ?_)<;>clear hK K
 refine qa ?_
 refine aq rfl (fun hC1=>?_) (fun hC1=>?_)
 ·(try simp only [aE] at hC1)
  have hil:i < w.length:=by omega
  have hx:=hw _ (get_mem hil)
  have hs:=uQ (n:=n) (f:=op mm n) (e:=e) (F:=F) hil
  have hv:=(qy G hF (w.take i) e (x7 hw i) G.el).1
  change rf n (op mm n) e F (w.take i) < n at hv
  generalize rf n (op mm n) e F (w.take i)=v at hv hs
  generalize hxx:w.getD i 0=x at hx hs
  refine qh (qa (qm (ql (qm ?_))))
  refine ab fun K hK=>aa ae ?_
  simp only [an,fl,gp,ak,simprocAttr,aw,aL hil,hxx]
  refine af ?_ (hK _ ?_)<;>clear hK K
  ·first|exact trivial|omega|(simp only [ah] at *; omega)|(simp [ah] at *; omega)|simp_all
  refine qa ?_
  refine aq rfl (fun hC2=>?_) (fun hC2=>?_)
  ·(try simp only [aE] at hC2)
   have hfr:=hF.2 (x - 1).toNat (by omega)
   have hx0:oC n (op mm n) e F x=(F.getD (x - 1).toNat 0).toNat:=by unfold oC; rw [if_pos (by omega)]
   obtain ⟨k,hk⟩:∃ k:Nat,(x - 1)=(k:Int):=⟨(x - 1).toNat,by omega⟩
   rw [hk,Int.toNat_natCast] at hfr hx0
   obtain ⟨a,ha⟩:∃ a:Nat,F.getD k 0=(a:Int):=⟨(F.getD k 0).toNat,by omega⟩
   rw [ha,Int.toNat_natCast] at hx0
   have hkl:k < F.length:=by omega
   have hal:a < n:=by omega
   refine aO mixed (by kernel_rfl) fun K hK=>aa ae ?_
   simp only [an,fl,gp,ak,simprocAttr,aw,aL hil,hxx,hk,aL hkl,ha]
   refine ao ?_ (au (vV h.2.1 hv hal) rfl rfl rfl (by simp only [ay,Nat.reduceLT]) (by repeat (first|exact trivial|constructor)) (aa ae ?_))
   ·(repeat (first|trivial|omega|(simp only [ah]; omega)|constructor))
   simp only [an,fl,gp,ak,simprocAttr,aw,aL hil,hxx,hk,aL hkl,ha]
   refine af ?_ (hK _ ?_)<;>clear hK K
   ·first|exact trivial|omega|(simp only [ah] at *; omega)|(simp [ah] at *; omega)|simp_all
   refine qd (qa ?_)
   refine ab fun K hK=>aa ae ?_
   simp only [an,fl,gp,ak,simprocAttr]
   refine af ?_ (hK _ ?_)<;>clear hK K
   ·first|exact trivial|omega|(simp only [ah] at *; omega)|(simp [ah] at *; omega)|simp_all
   refine qa ?_
   refine ⟨i + 1,[0],by omega,by omega,?_⟩
   rw [hs,hx0]
   simp only [leq,bx,an,fl,gp,ak,simprocAttr]<;>first|trivial|trace_state
  (try simp only [aE] at hC2)
  have hfr:=hF.2 (-x - 1).toNat (by omega)
  have hx0:oC n (op mm n) e F x=iv n (op mm n) e (F.getD (-x - 1).toNat 0).toNat:=by unfold oC; rw [if_neg (by omega)]
  obtain ⟨k,hk⟩:∃ k:Nat,(-x - 1)=(k:Int):=⟨(-x - 1).toNat,by omega⟩
  rw [hk,Int.toNat_natCast] at hfr hx0
  obtain ⟨a,ha⟩:∃ a:Nat,F.getD k 0=(a:Int):=⟨(F.getD k 0).toNat,by omega⟩
  rw [ha,Int.toNat_natCast] at hx0
  have hkl:k < F.length:=by omega
  have hal:a < n:=by omega
  have hiI:=h.iI hal
  have hic:=Jg h.2.1 hal
  rw [hiI] at hic
  refine aO mixed (by kernel_rfl) fun K hK=>aa ae ?_
  simp only [an,fl,gp,ak,simprocAttr,aw,aL hil,hxx,hk,aL hkl,ha]
  refine ao ?_ (au (hic) rfl rfl rfl (by simp only [ay,Nat.reduceLT]) (by repeat (first|exact trivial|constructor)) (aa ae ?_))
  ·(repeat (first|trivial|omega|(simp only [ah]; omega)|constructor))
  simp only [an,fl,gp,ak,simprocAttr,aw,aL hil,hxx,hk,aL hkl,ha]
  refine ao trivial (au (vV h.2.1 hv (G.aS hal)) rfl rfl rfl (by simp only [ay,Nat.reduceLT]) (by repeat (first|exact trivial|constructor)) (aa ae ?_))
  simp only [an,fl,gp,ak,simprocAttr,aw,aL hil,hxx,hk,aL hkl,ha]
  refine af ?_ (hK _ ?_)<;>clear hK K
  ·first|exact trivial|omega|(simp only [ah] at *; omega)|(simp [ah] at *; omega)|simp_all
  refine qd (qa ?_)
  refine ab fun K hK=>aa ae ?_
  simp only [an,fl,gp,ak,simprocAttr]
  refine af ?_ (hK _ ?_)<;>clear hK K
  ·first|exact trivial|omega|(simp only [ah] at *; omega)|(simp [ah] at *; omega)|simp_all
  refine qa ?_
  refine ⟨i + 1,[0],by omega,by omega,?_⟩
  rw [hs,hx0]
  simp only [leq,bx,an,fl,gp,ak,simprocAttr]<;>first|trivial|trace_state
 (try simp only [aE] at hC1)
 have hie:i=w.length:=by omega
 rw [hie,List.take_length]
 refine qj (qc (qc (qf (qa (qm ?_)))))
 refine ab fun K hK=>aa ae ?_
 simp only [an,fl,gp,ak,simprocAttr]
 refine af trivial (hK _ ?_)<;>clear hK K
 refine qa (qk ?_)
 simp only [Tryd.results13,bT,an,fl,gp,ak,simprocAttr]
 all_goals ((first|exact rfl|exact ⟨rfl,rfl⟩|exact ⟨rfl,rfl,rfl⟩|exact ⟨trivial,rfl⟩|exact ⟨Nat.le_refl _,rfl⟩|trivial|(simp; done)))
theorem Fg {f:List Int→Nat} {e:Nat} {rels:List (List Int)} {w:List Int} (h:w∈rels) (h2:f w ≠ e):(rels.all fun w=>decide (f w=e))=false:=by
 rw [List.all_eq_false]
 exact ⟨w,h,by simpa using h2⟩
theorem DB {f:List Int→Nat} {e:Nat} {rels:List (List Int)} (h:∀ j,j < rels.length→f (rels.getD j [])=e):(rels.all fun w=>decide (f w=e))=true:=by
 rw [List.all_eq_true]
 intro w hw
 obtain ⟨j,hj,rfl⟩:=List.getElem_of_mem hw
 have:=h j hj
 simp only [List.getD,List.getElem?_eq_getElem hj,Option.getD_some] at this
 simpa using this
set_option maxHeartbeats 8000000 in
theorem uc (N:Int) (mm F:List Int) (rels:List (List Int)) (hm:mm.length≤1000000000000000) (hF:F.length≤1000000000) (hr:GX rels):ct Tryd.prog 6 [gp N mm,.list (il F),.list (ll rels)] (.tup [.bool (xF N mm F rels).1,fl (xF N mm F rels).2]):=by
 refine aV ae Tryd.func6 rfl (by kernel_rfl) (by rw [Tryd.ntmps6]; exact Nat.le_add_left 3 _) ?_; rw [Tryd.ntmps6]
 refine qm ?_
 refine ab fun K hK=>aa ae ?_
 simp only [an,fl,gp,ak,simprocAttr]
 refine af ?_ (hK _ ?_)<;>clear hK K
 ·first|exact trivial|omega|(simp only [ah] at *; omega)|(simp [ah] at *; omega)|simp_all
 refine qa (qm (qm ?_))
 refine ab fun K hK=>aa ae ?_
 simp only [an,fl,gp,ak,simprocAttr]
 refine ao trivial (au (mF N mm hm) rfl rfl rfl (by simp only [ay,Nat.reduceLT]) (by repeat (first|exact trivial|constructor)) (aa ae ?_))
 simp only [an,fl,gp,ak,simprocAttr]
 refine af ?_ (hK _ ?_)<;>clear hK K
 ·first|exact trivial|omega|(simp only [ah] at *; omega)|(simp [ah] at *; omega)|simp_all
 refine qa (qm ?_)
 refine ab fun K hK=>aa ae ?_
 simp only [an,fl,gp,ak,simprocAttr]
 refine af ?_ (hK _ ?_)<;>clear hK K
 ·first|exact trivial|omega|(simp only [ah] at *; omega)|(simp [ah] at *; omega)|simp_all
 refine qa ?_
 refine aq rfl (fun hC1=>?_) (fun hC1=>?_)
 ·(try simp only [aE] at hC1)
  refine qm ?_
  refine aO mixed (by kernel_rfl) fun K hK=>aa ae ?_
  simp only [an,fl,gp,ak,simprocAttr]
  refine af ?_ (hK _ ?_)<;>clear hK K
  ·first|exact trivial|omega|(simp only [ah] at *; omega)|(simp [ah] at *; omega)|simp_all
  refine qa (qk (qb ?_))
  simp only [Tryd.results6,bT,an,fl,gp,ak,simprocAttr]
  all_goals (rw [HN hC1]; exact ⟨rfl,rfl,rfl⟩)
 (try simp only [aE] at hC1)
 obtain ⟨n,e,h,_⟩:=yg hC1
 have z1:(gf N mm).1=0:=hC1
 obtain rfl:=h.1
 have hb:=h.2.1.big
 have G:=h.2.2
 refine qh (qa (qm (qm ?_)))
 refine ab fun K hK=>aa ae ?_
 simp only [an,fl,gp,ak,simprocAttr,aw]
 refine ao trivial (au (DN F.length rels hr) rfl rfl rfl (by simp only [ay,Nat.reduceLT]) (by repeat (first|exact trivial|constructor)) (aa ae ?_))
 simp only [an,fl,gp,ak,simprocAttr,aw]
 refine af ?_ (hK _ ?_)<;>clear hK K
 ·first|exact trivial|omega|(simp only [ah] at *; omega)|(simp [ah] at *; omega)|simp_all
 refine qa (qm ?_)
 refine ab fun K hK=>aa ae ?_
 simp only [an,fl,gp,ak,simprocAttr]
 refine af ?_ (hK _ ?_)<;>clear hK K
 ·first|exact trivial|omega|(simp only [ah] at *; omega)|(simp [ah] at *; omega)|simp_all
 refine qa ?_
 refine aq rfl (fun hC2=>?_) (fun hC2=>?_)
 ·(try simp only [aE] at hC2)
  refine qm ?_
  refine aO mixed (by kernel_rfl) fun K hK=>aa ae ?_
  simp only [an,fl,gp,ak,simprocAttr]
  refine af ?_ (hK _ ?_)<;>clear hK K
  ·first|exact trivial|omega|(simp only [ah] at *; omega)|(simp [ah] at *; omega)|simp_all
  refine qa (qk (qb ?_))
  simp only [Tryd.results6,bT,an,fl,gp,ak,simprocAttr]
  all_goals (rw [Ip z1 hC2]; exact ⟨rfl,rfl,rfl⟩)
 (try simp only [aE] at hC2)
 have z2:(Pr.fH F.length [rels]).1=0:=hC2
 obtain ⟨hn,hlk,hok⟩:=Pr.ka z2
 have hr2:=hok rels (by simp)
 rw [Int.toNat_natCast] at hr2
 refine qh (qa (qm (qm ?_)))
 refine ab fun K hK=>aa ae ?_
 simp only [an,fl,gp,ak,simprocAttr,aw]
 refine af trivial (hK _ ?_)<;>clear hK K
 refine qa (ql ?_)
 refine aD (ι:=Nat) (fun i=>⟨90,[(1,.p (.list (il F))),(2,.p (.list (ll rels))),(3,.ptr 0 0),(7,.ptr 1 0),(33,.p (.list (il F))),(34,.p (.int .i64 F.length)),(35,.p (.int .i64 i))],[.own [.p (.int .i64 n),.p (.list (il mm))],.own [.p (.int .i64 0),.p (.int .i64 0)]]⟩) (fun i=>i≤F.length∧∀ j,j < i→Cp n F j=false) (fun i=>F.length - i) 0 ⟨Nat.zero_le _,fun j hj=>by omega⟩ [0,1] (by simp only [leq,bx,an,fl,gp,ak,simprocAttr]<;>trivial) fun i hi=>?_
 obtain ⟨hi1,hi2⟩:=hi
 refine qm ?_
 refine ab fun K hK=>aa ae ?_
 simp only [an,fl,gp,ak,simprocAttr]
 refine af trivial (hK _ ?_)<;>clear hK K
 refine qa (qm ?_)
 refine aq rfl (fun hC3=>?_) (fun hC3=>?_)
 ·(try simp only [aE] at hC3)
  have hil:i < F.length:=by omega
  refine qh (qa (qm (ql (qm ?_))))
  refine ab fun K hK=>aa ae ?_
  simp only [an,fl,gp,ak,simprocAttr,aL hil,aw]
  refine af ?_ (hK _ ?_)<;>clear hK K
  ·first|exact trivial|omega|(simp only [ah] at *; omega)|(simp [ah] at *; omega)|simp_all
  refine qa (qm ?_)
  by_cases g10a:F.getD i 0 < 0
  ·refine ab fun K hK=>aa ae ?_
   simp only [an,fl,gp,ak,simprocAttr,decide_eq_true g10a]
   refine af trivial (hK _ ?_)<;>clear hK K
   refine qa ?_
   refine aq rfl (fun hC4=>?_) (fun hC4=>?_)
   ·refine qm ?_
    refine ab fun K hK=>aa ae ?_
    simp only [an,fl,gp,ak,simprocAttr]
    refine ao trivial (au (EM 8 i) rfl rfl rfl (by simp only [ay,Nat.reduceLT]) (by repeat (first|exact trivial|constructor)) (aa ae ?_))
    simp only [an,fl,gp,ak,simprocAttr]
    refine af ?_ (hK _ ?_)<;>clear hK K
    ·first|exact trivial|omega|(simp only [ah] at *; omega)|(simp [ah] at *; omega)|simp_all
    refine qa (qk (qe (qb (qb (qe (qb ?_))))))
    simp only [Tryd.results6,bT,an,fl,gp,ak,simprocAttr]
    all_goals (rw [GB z1 z2 hil (decide_eq_true (.inl g10a)) hi2]; exact ⟨rfl,rfl,rfl⟩)
   cases hC4
  refine ab fun K hK=>aa ae ?_
  simp only [an,fl,gp,ak,simprocAttr,decide_eq_false g10a]
  refine af ?_ (hK _ ?_)<;>clear hK K
  ·first|exact trivial|omega|(simp only [ah] at *; omega)|(simp [ah] at *; omega)|simp_all
  refine qa ?_
  refine aq rfl (fun hC4=>?_) (fun hC4=>?_)
  ·(try simp only [aE] at hC4)
   refine qm ?_
   refine ab fun K hK=>aa ae ?_
   simp only [an,fl,gp,ak,simprocAttr]
   refine ao trivial (au (EM 8 i) rfl rfl rfl (by simp only [ay,Nat.reduceLT]) (by repeat (first|exact trivial|constructor)) (aa ae ?_))
   simp only [an,fl,gp,ak,simprocAttr]
   refine af ?_ (hK _ ?_)<;>clear hK K
   ·first|exact trivial|omega|(simp only [ah] at *; omega)|(simp [ah] at *; omega)|simp_all
   refine qa (qk (qe (qb (qb (qe (qb ?_))))))
   simp only [Tryd.results6,bT,an,fl,gp,ak,simprocAttr]
   all_goals (rw [GB z1 z2 hil (decide_eq_true (.inr hC4)) hi2]; exact ⟨rfl,rfl,rfl⟩)
  (try simp only [aE] at hC4)
  have pJ:Cp n F i=false:=decide_eq_false (by omega)
  refine qh (qd (qa ?_))
  refine ab fun K hK=>aa ae ?_
  simp only [an,fl,gp,ak,simprocAttr]
  refine af ?_ (hK _ ?_)<;>clear hK K
  ·first|exact trivial|omega|(simp only [ah] at *; omega)|(simp [ah] at *; omega)|simp_all
  refine qa ?_
  refine ⟨i + 1,[0,1],⟨by omega,fun j hj=>?_⟩,by omega,?_⟩
  ·by_cases hji:j=i
   ·rw [hji]; exact pJ
   exact hi2 j (by omega)
  simp only [leq,bx,an,fl,gp,ak,simprocAttr]<;>first|trivial|omega
 (try simp only [aE] at hC3)
 obtain rfl:i=F.length:=by omega
 have hFk:Cr F.length n F:=⟨rfl,fun j hj=>by have:=of_decide_eq_false (hi2 j hj); omega⟩
 refine qj (qc (qc (qf (qa (qm (qm ?_))))))
 refine ab fun K hK=>aa ae ?_
 simp only [an,fl,gp,ak,simprocAttr,aC]
 refine af trivial (hK _ ?_)<;>clear hK K
 refine qa (ql ?_)
 refine aD (ι:=Nat) (fun i=>⟨90,[(1,.p (.list (il F))),(3,.ptr 0 0),(7,.ptr 1 0),(51,.p (.list (ll rels))),(52,.p (.int .i64 rels.length)),(53,.p (.int .i64 i))],[.own [.p (.int .i64 n),.p (.list (il mm))],.own [.p (.int .i64 0),.p (.int .i64 0)]]⟩) (fun i=>i≤rels.length∧∀ j,j < i→rf n (op mm n) e F (rels.getD j [])=e) (fun i=>rels.length - i) 0 ⟨Nat.zero_le _,fun j hj=>by omega⟩ [0,1] (by simp only [leq,bx,an,fl,gp,ak,simprocAttr]<;>trivial) fun k hk=>?_
 obtain ⟨hk1,hk2⟩:=hk
 refine qm ?_
 refine ab fun K hK=>aa ae ?_
 simp only [an,fl,gp,ak,simprocAttr]
 refine af trivial (hK _ ?_)<;>clear hK K
 refine qa (qm ?_)
 refine aq rfl (fun hC5=>?_) (fun hC5=>?_)
 ·(try simp only [aE] at hC5)
  have hkl:k < rels.length:=by omega
  have hwm:rels.getD k []∈rels:=by simp [List.getD,List.getElem?_eq_getElem hkl]
  generalize hww:rels.getD k []=w at hwm
  obtain ⟨hw,_,hwl⟩:=hr2.2.2 w hwm
  refine qh (qa (qm (ql (qm ?_))))
  refine ab fun K hK=>aa ae ?_
  simp only [an,fl,gp,ak,simprocAttr,b8 hkl,hww,aC]
  refine af ?_ (hK _ ?_)<;>clear hK K
  ·first|exact trivial|omega|(simp only [ah] at *; omega)|(simp [ah] at *; omega)|simp_all
  refine qa (qm ?_)
  refine ab fun K hK=>aa ae ?_
  simp only [an,fl,gp,ak,simprocAttr]
  refine ao trivial (au (ff h) rfl rfl rfl (by simp only [ay,Nat.reduceLT]) (by repeat (first|exact trivial|constructor)) (aa ae ?_))
  simp only [an,fl,gp,ak,simprocAttr]
  refine af ?_ (hK _ ?_)<;>clear hK K
  ·first|exact trivial|omega|(simp only [ah] at *; omega)|(simp [ah] at *; omega)|simp_all
  refine qa (qm (qm ?_))
  refine ab fun K hK=>aa ae ?_
  simp only [an,fl,gp,ak,simprocAttr,aw]
  refine af trivial (hK _ ?_)<;>clear hK K
  refine qa (ql ?_)
  refine aD (ι:=Nat) (fun i=>⟨90,[(1,.p (.list (il F))),(3,.ptr 0 0),(7,.ptr 1 0),(14,.p (.int .i64 (rf n (op mm n) e F (w.take i):Nat))),(51,.p (.list (ll rels))),(52,.p (.int .i64 rels.length)),(53,.p (.int .i64 k)),(59,.p (.list (il w))),(60,.p (.int .i64 w.length)),(61,.p (.int .i64 i))],[.own [.p (.int .i64 n),.p (.list (il mm))],.own [.p (.int .i64 0),.p (.int .i64 0)]]⟩) (fun i=>i≤w.length) (fun i=>w.length - i) 0 (Nat.zero_le _) [0,1] (by simp only [leq,bx,an,fl,gp,ak,simprocAttr]<;>trivial) fun i hi=>?_
  refine qm ?_
  refine ab fun K hK=>aa ae ?_
  simp only [an,fl,gp,ak,simprocAttr]
  refine af trivial (hK _ ?_)<;>clear hK K
  refine qa (qm ?_)
  refine aq rfl (fun hC6=>?_) (fun hC6=>?_)
  ·(try simp only [aE] at hC6)
   have hil:i < w.length:=by omega
   have hx:=hw _ (get_mem hil)
   have hs:=uQ (n:=n) (f:=op mm n) (e:=e) (F:=F) hil
   have hv:=(qy G hFk (w.take i) e (x7 hw i) G.el).1
   change rf n (op mm n) e F (w.take i) < n at hv
   generalize rf n (op mm n) e F (w.take i)=v at hv hs
   generalize hxx:w.getD i 0=x at hx hs
   obtain ⟨k',hk'⟩:∃ k' : Nat,(if -x > x then -x else x)=(k' : Int) + 1:=⟨((if -x > x then -x else x) - 1).toNat,by split<;>omega⟩
   have hk3:(k' : Int) + 1 - 1=(k' : Int):=by omega
   have hkl' : k' < F.length:=by split at hk'<;>omega
   have hfr:=hFk.2 k' hkl'
   obtain ⟨a,ha⟩:∃ a:Nat,F.getD k' 0=(a:Int):=⟨(F.getD k' 0).toNat,by omega⟩
   have hal:a < n:=by omega
   refine qh (qa (qm (ql (qm ?_))))
   refine ab fun K hK=>aa ae ?_
   simp only [an,fl,gp,ak,simprocAttr,aw,aL hil,hxx]
   refine af ?_ (hK _ ?_)<;>clear hK K
   ·first|exact trivial|omega|(simp only [ah] at *; omega)|(simp [ah] at *; omega)|simp_all
   refine qa (qm ?_)
   refine ab fun K hK=>aa ae ?_
   simp only [an,fl,gp,ak,simprocAttr,hk',hk3,aw,aL hkl',ha]
   refine af ?_ (hK _ ?_)<;>clear hK K
   ·(repeat (first|trivial|omega|(simp only [ah]; omega)|constructor))
   refine qa (qm (qm ?_))
   refine ab fun K hK=>aa ae ?_
   simp only [an,fl,gp,ak,simprocAttr]
   refine af trivial (hK _ ?_)<;>clear hK K
   refine qa ?_
   refine aq rfl (fun hC7=>?_) (fun hC7=>?_)
   ·(try simp only [aE] at hC7)
    have hx0:oC n (op mm n) e F x=iv n (op mm n) e a:=by
     unfold oC
     have e1:(-x - 1).toNat=k':=by split at hk'<;>omega
     rw [if_neg (by omega),e1,ha,Int.toNat_natCast]
    refine ab fun K hK=>aa ae ?_
    simp only [an,fl,gp,ak,simprocAttr]
    refine ao trivial (au (Er h hal) rfl rfl rfl (by simp only [ay,Nat.reduceLT]) (by repeat (first|exact trivial|constructor)) (aa ae ?_))
    simp only [an,fl,gp,ak,simprocAttr]
    refine af ?_ (hK _ ?_)<;>clear hK K
    ·first|exact trivial|omega|(simp only [ah] at *; omega)|(simp [ah] at *; omega)|simp_all
    refine qa ?_
    refine ab fun K hK=>aa ae ?_
    simp only [an,fl,gp,ak,simprocAttr]
    refine ao trivial (au (lG h.2.1 hv (G.aS hal)) rfl rfl rfl (by simp only [ay,Nat.reduceLT]) (by repeat (first|exact trivial|constructor)) (aa ae ?_))
    simp only [an,fl,gp,ak,simprocAttr]
    refine af ?_ (hK _ ?_)<;>clear hK K
    ·first|exact trivial|omega|(simp only [ah] at *; omega)|(simp [ah] at *; omega)|simp_all
    refine qd (qa ?_)
    refine ab fun K hK=>aa ae ?_
    simp only [an,fl,gp,ak,simprocAttr]
    refine af ?_ (hK _ ?_)<;>clear hK K
    ·first|exact trivial|omega|(simp only [ah] at *; omega)|(simp [ah] at *; omega)|simp_all
    refine qa ?_
    refine ⟨i + 1,[0,1],by omega,by omega,?_⟩
    rw [hs,hx0]
    simp only [leq,bx,an,fl,gp,ak,simprocAttr]<;>first|trivial|trace_state
   (try simp only [aE] at hC7)
   have hx0:oC n (op mm n) e F x=a:=by
    unfold oC
    have e1:(x - 1).toNat=k':=by split at hk'<;>omega
    rw [if_pos (by omega),e1,ha,Int.toNat_natCast]
   refine qh (qa ?_)
   refine ab fun K hK=>aa ae ?_
   simp only [an,fl,gp,ak,simprocAttr]
   refine ao trivial (au (lG h.2.1 hv hal) rfl rfl rfl (by simp only [ay,Nat.reduceLT]) (by repeat (first|exact trivial|constructor)) (aa ae ?_))
   simp only [an,fl,gp,ak,simprocAttr]
   refine af ?_ (hK _ ?_)<;>clear hK K
   ·first|exact trivial|omega|(simp only [ah] at *; omega)|(simp [ah] at *; omega)|simp_all
   refine qd (qa ?_)
   refine ab fun K hK=>aa ae ?_
   simp only [an,fl,gp,ak,simprocAttr]
   refine af ?_ (hK _ ?_)<;>clear hK K
   ·first|exact trivial|omega|(simp only [ah] at *; omega)|(simp [ah] at *; omega)|simp_all
   refine qa ?_
   refine ⟨i + 1,[0,1],by omega,by omega,?_⟩
   rw [hs,hx0]
   simp only [leq,bx,an,fl,gp,ak,simprocAttr]<;>first|trivial|trace_state
  (try simp only [aE] at hC6)
  have hie:i=w.length:=by omega
  rw [hie,List.take_length]
  refine qj (qc (qc (qf (qa (qm ?_)))))
  refine ab fun K hK=>aa ae ?_
  simp only [an,fl,gp,ak,simprocAttr]
  refine ao trivial (au (ff h) rfl rfl rfl (by simp only [ay,Nat.reduceLT]) (by repeat (first|exact trivial|constructor)) (aa ae ?_))
  simp only [an,fl,gp,ak,simprocAttr]
  refine af ?_ (hK _ ?_)<;>clear hK K
  ·first|exact trivial|omega|(simp only [ah] at *; omega)|(simp [ah] at *; omega)|simp_all
  refine qa ?_
  refine aq rfl (fun hC8=>?_) (fun hC8=>?_)
  ·(try simp only [aE] at hC8)
   refine qm ?_
   refine ab fun K hK=>aa ae ?_
   simp only [an,fl,gp,ak,simprocAttr]
   refine af ?_ (hK _ ?_)<;>clear hK K
   ·first|exact trivial|omega|(simp only [ah] at *; omega)|(simp [ah] at *; omega)|simp_all
   refine qa (qk (qe (qb (qb (qe (qb ?_))))))
   simp only [Tryd.results6,bT,an,fl,gp,ak,simprocAttr]
   all_goals (rw [E8 h z2 hi2,Fg hwm (by omega)]; exact ⟨rfl,rfl,rfl⟩)
  (try simp only [aE] at hC8)
  have hev:rf n (op mm n) e F w=e:=by omega
  refine qh (qd (qa ?_))
  refine ab fun K hK=>aa ae ?_
  simp only [an,fl,gp,ak,simprocAttr]
  refine af ?_ (hK _ ?_)<;>clear hK K
  ·first|exact trivial|omega|(simp only [ah] at *; omega)|(simp [ah] at *; omega)|simp_all
  refine qa ?_
  refine ⟨k + 1,[0,1],⟨by omega,fun j hj=>?_⟩,by omega,?_⟩
  ·by_cases hji:j=k
   ·rw [hji,hww]; exact hev
   exact hk2 j (by omega)
  simp only [leq,bx,an,fl,gp,ak,simprocAttr]<;>first|trivial|omega
 (try simp only [aE] at hC5)
 obtain rfl:k=rels.length:=by omega
 refine qj (qc (qc (qf (qa (qm ?_)))))
 refine ab fun K hK=>aa ae ?_
 simp only [an,fl,gp,ak,simprocAttr]
 refine af ?_ (hK _ ?_)<;>clear hK K
 ·first|exact trivial|omega|(simp only [ah] at *; omega)|(simp [ah] at *; omega)|simp_all
 refine qa (qk ?_)
 simp only [Tryd.results6,bT,an,fl,gp,ak,simprocAttr]
 all_goals (rw [E8 h z2 hi2,DB hk2]; exact ⟨rfl,rfl,rfl⟩)
open Go.Pv
section
variable {m n e:Nat} {rels T:List (List Int)} {mm F:List Int}
theorem xq (tk:Pr.eX m T rels []) (t0:0 < T.length) {i:Nat} (hi:i < m):0≤(Pr.kV T m).getD i 0∧(Pr.kV T m).getD i 0 < T.length:=by
 have h:=(tk.tb.st t0 (x:=((i + 1:Nat):Int)) ⟨by omega,by omega,by omega⟩).2
 rw [wC T hi]
 omega
theorem pack (hm:m≤26) (ho:Pr.oK m rels [] 60=some T) (tk:Pr.eX m T rels []) (t0:0 < T.length) (t60:T.length≤60) (h:GT n mm n e) (hF:Cr m n F) (hall:∀ w∈rels,rf n (op mm n) e F w=e) :
  (m≤T.length→∃ X,Cb T.length (Pr.gK T (Pr.dj T m)) n mm (Pr.kV T m) F=((0,0),X)) ∧
  (∃ X:List Int,X.length=T.length∧wz Tryd.prog 17 [gp T.length (Pr.gK T (Pr.dj T m)),gp n mm,.list (il (Pr.kV T m)),.list (il F)] (.sl 0 0 (il X).length) [.own (bq (il X))]) ∧
  ∀ q:Nat→Bool,(∀ a,a < n→(q a=true↔dC n (op mm n) e (tR F) a))→(ck n q).length ∣ T.length:=by
 have hg:=se hm ho tk t0 t60
 have hgen:=B2 hm ho tk t0 t60
 obtain ⟨φ,hφ,_⟩:=IK hm ho tk t0 h hF hall
 have hlF:=lD F
 have hlK:=lD (Pr.kV T m)
 rw [ew] at hlK
 rw [hF.1] at hlF
 have hK:=fun {i:Nat} (hi:i < m)=>xq tk t0 hi
 have hbad:∀ j,j < (Pr.kV T m).length→ue T.length n (Pr.kV T m) F j=false:=fun j hj=>by
  rw [ew] at hj
  have h1:=hK hj
  have h2:=hF.2 j hj
  exact decide_eq_false (by omega)
 have hnK:nl (tn (Pr.kV T m))=Pr.kV T m:=xV fun j hj=>by rw [ew] at hj; exact (hK hj).1
 have hnF:nl (tn F)=F:=xV fun j hj=>by rw [hF.1] at hj; exact (hF.2 j hj).1
 have hK1:∀ i,i < (tn (Pr.kV T m)).length→(tn (Pr.kV T m)).getD i 0 < T.length:=fun i hi=>by
  rw [hlK] at hi
  rw [jh (by rw [ew]; exact hi)]
  have:=hK hi
  omega
 have hF1:∀ i,i < (tn (Pr.kV T m)).length→(tn F).getD i 0 < n:=fun i hi=>by
  rw [hlK] at hi
  rw [jh (by rw [hF.1]; exact hi)]
  have:=hF.2 i hi
  omega
 refine ⟨fun hml=>?_,⟨xr T.length φ,oy _ _,?_⟩,fun q hq=>?_⟩
 ·exact ⟨_,(ET hg h (by rw [ew,hF.1]) (by rw [ew]; omega) hbad).trans (Ac hgen ⟨φ,hφ⟩)⟩
 ·have:=vK hg h (tn (Pr.kV T m)) (tn F) (by omega) (by omega) hK1 hF1 hgen hφ
  rw [hnK,hnF] at this
  exact this
 obtain ⟨hh,hi⟩:=hφ
 rw [fS]
 refine AA hg.2.2 h.2.2 hh q fun b hb=>?_
 rw [hq b hb]
 have htF:∀ {y:Nat},y < n→(tR F y=true↔∃ i,i < m∧(tn F).getD i 0=y):=fun {y} hy=>by
  unfold tR
  rw [decide_eq_true_eq]
  constructor
  ·intro hyF
   obtain ⟨i,hil,he⟩:=List.getElem_of_mem hyF
   refine ⟨i,by rw [← hF.1]; exact hil,?_⟩
   rw [jh hil,List.getD_eq_getElem?_getD,List.getElem?_eq_getElem hil,Option.getD_some,he]
   exact Int.toNat_natCast y
  rintro ⟨i,him,he⟩
  have hil:i < F.length:=by rw [hF.1]; exact him
  rw [jh hil] at he
  have h2:=hF.2 i him
  have e1:F.getD i 0=(y:Int):=by omega
  rw [← e1,List.getD_eq_getElem?_getD,List.getElem?_eq_getElem hil]
  exact List.getElem_mem _
 constructor
 ·intro hb2
  have:∃ a,a < T.length∧φ a=b:=by
   clear hb
   induction hb2 with
   | one=>exact ⟨0,t0,hh.one hg.2.2 h.2.2⟩
   | step v y _ hy hp ih =>
    obtain ⟨a,ha,rfl⟩:=ih
    obtain ⟨i,him,rfl⟩:=(htF hy).1 hp
    have hk:=hK1 i (by omega)
    refine ⟨_,hg.2.2.cl a _ ha hk,?_⟩
    rw [hh.mul a _ ha hk,hi i (by omega)]
  exact this
 rintro ⟨a,ha,rfl⟩
 have hga:=hgen a ha
 have:a < T.length→dC n (op mm n) e (tR F) (φ a):=by
  clear ha hb
  induction hga with
  | one=>intro _; rw [hh.one hg.2.2 h.2.2]; exact .one
  | step v y hv hy hp ih =>
   intro _
   have hvl:v < T.length:=dC.lt hg.2.2 hv
   have hyK:=of_decide_eq_true hp
   obtain ⟨i,hil,he⟩:=List.getElem_of_mem hyK
   have him:i < m:=by omega
   have e1:(tn (Pr.kV T m)).getD i 0=y:=by rw [List.getD_eq_getElem?_getD,List.getElem?_eq_getElem hil,Option.getD_some,he]
   have h2:=hi i (by omega)
   rw [e1] at h2
   rw [hh.mul v y hvl hy,h2]
   exact .step _ _ (ih hvl) (hF1 i (by omega)) ((htF (hF1 i (by omega))).2 ⟨i,him,rfl⟩)
 exact this ha
end
end Go.Proofs.YtpobnnfkeekiaaaDoor
