/-
  Texts of this proof, one behind the other: what each says stands at its head. Conditions: none.
-/
import Derived.Test.YtjlmpmidchddjaaDoorB4
import Derived.Test.YtjlmpmidchddjaaDoorB3
import Derived.Shelf.SlSortCmp.Whole1
import Derived.Test.YtjlmpmidchddjaaDoorProg
import Derived.Shelf.SlLaysF
set_option linter.all false
namespace Go.Proofs.YtjlmpmidchddjaaDoor
open Go.Pv
def gB (n:Nat) (f:Nat→Nat→Nat) (e x a:Nat):Nat:=f (f (iv n f e a) x) a
def tI (n:Nat) (f:Nat→Nat→Nat) (e a b:Nat):Nat:=f (f (iv n f e a) (iv n f e b)) (f a b)
def gT (n:Nat) (f:Nat→Nat→Nat) (e:Nat) (p:Nat→Bool) (a y:Nat):Bool:=decide (∃ x,x < n∧p x=true∧gB n f e x a=y)
def Bh (n:Nat) (f:Nat→Nat→Nat) (e:Nat) (p:Nat→Bool) (a:Nat):Bool:=decide (∀ y,y < n→gT n f e p a y=p y)
def vN (n:Nat) (f:Nat→Nat→Nat) (e:Nat) (p:Nat→Bool):Prop:=∀ a,a < n→∀ x,x < n→p x=true→p (gB n f e x a)=true
section
variable {n:Nat} {f:Nat→Nat→Nat} {e:Nat}
theorem ya {p:Nat→Bool} {a y:Nat} : gT n f e p a y=true↔∃ x,x < n∧p x=true∧gB n f e x a=y:=by unfold gT; exact decide_eq_true_iff
theorem rO {p:Nat→Bool} {a:Nat} : Bh n f e p a=true↔∀ y,y < n→gT n f e p a y=p y:=by unfold Bh; exact decide_eq_true_iff
theorem bB.ed (G:bB n f e) {x a:Nat} (hx:x < n) (ha:a < n):gB n f e x a < n:=G.cl _ _ (G.cl _ _ (G.az ha) hx) ha
theorem bB.xH (G:bB n f e) {x a b:Nat} (hx:x < n) (ha:a < n) (hb:b < n):gB n f e (gB n f e x a) b=gB n f e x (f a b):=G.sI hx ha hb
theorem bB.Fh (G:bB n f e) {x:Nat} (hx:x < n):gB n f e x e=x:=by
 unfold gB; rw [G.eJ,G.one_l x hx,G.one_r x hx]
theorem bB.BP (G:bB n f e) {x a:Nat} (hx:x < n) (ha:a < n):gB n f e (gB n f e x a) (iv n f e a)=x:=by
 rw [G.xH hx ha (G.az ha),G.cR ha,G.Fh hx]
theorem bB.BB (G:bB n f e) {x a:Nat} (hx:x < n) (ha:a < n):gB n f e (gB n f e x (iv n f e a)) a=x:=by
 rw [G.xH hx (G.az ha) ha,G.cV ha,G.Fh hx]
theorem bB.l7 (G:bB n f e) {x y a:Nat} (hx:x < n) (hy:y < n) (ha:a < n):gB n f e (f x y) a=f (gB n f e x a) (gB n f e y a):=by
 have ia:=G.az ha
 have h1:=G.cl _ _ ia hx
 have h2:=G.cl _ _ ia hy
 have h3:=G.cl _ _ h2 ha
 unfold gB
 rw [G.assoc (f (iv n f e a) x) a _ h1 ha h3,G.assoc (iv n f e a) y a ia hy ha,← G.assoc a (iv n f e a) (f y a) ha ia (G.cl _ _ hy ha),G.cR ha,G.one_l _ (G.cl _ _ hy ha),← G.assoc _ y a h1 hy ha,G.assoc _ x y ia hx hy]
theorem bB.xh (G:bB n f e) {a:Nat} (ha:a < n):gB n f e e a=e:=by
 unfold gB; rw [G.one_r _ (G.az ha),G.cV ha]
theorem bB.Ai (G:bB n f e) {x a:Nat} (hx:x < n) (ha:a < n):iv n f e (gB n f e x a)=gB n f e (iv n f e x) a:=
 (G.ef (G.ed hx ha) (G.ed (G.az hx) ha) (.inl (by rw [← G.l7 hx (G.az hx) ha,G.cR hx,G.xh ha]))).symm
theorem bB.sx (G:bB n f e) {a b:Nat} (ha:a < n) (hb:b < n):tI n f e a b < n:=G.cl _ _ (G.cl _ _ (G.az ha) (G.az hb)) (G.cl _ _ ha hb)
theorem bB.Ey (G:bB n f e) {x y a:Nat} (hx:x < n) (hy:y < n) (ha:a < n):gB n f e (tI n f e x y) a=tI n f e (gB n f e x a) (gB n f e y a):=by
 have ix:=G.az hx
 have iy:=G.az hy
 unfold tI
 rw [G.l7 (G.cl _ _ ix iy) (G.cl _ _ hx hy) ha,G.l7 ix iy ha,G.l7 hx hy ha,G.Ai hx ha,G.Ai hy ha]
theorem bB.CJ (G:bB n f e) {x a:Nat} (hx:x < n) (ha:a < n):f (iv n f e a) (f x a)=gB n f e x a:=(G.assoc _ _ _ (G.az ha) hx ha).symm
theorem bB.Dp (G:bB n f e) {a b:Nat} (ha:a < n) (hb:b < n):f (iv n f e a) (gB n f e a b)=tI n f e a b:=by
 have ia:=G.az ha
 have ib:=G.az hb
 unfold gB tI
 rw [G.assoc _ _ _ ia ib (G.cl _ _ ha hb),G.assoc _ a b ib ha hb]
theorem bB.ur (G:bB n f e) {p:Nat→Bool} {a y:Nat} (ha:a < n) (hy:y < n):gT n f e p a y=p (gB n f e y (iv n f e a)):=by
 rw [Bool.eq_iff_iff,ya]
 constructor
 ·rintro ⟨x,x1,x2,rfl⟩; rwa [G.BP x1 ha]
 intro h; exact ⟨_,G.ed hy (G.az ha),h,G.BB hy ha⟩
theorem bB.DY (G:bB n f e) {p:Nat→Bool} : vN n f e p↔∀ a,a < n→Bh n f e p a=true:=by
 constructor
 ·intro h a ha
  rw [rO]
  intro y hy
  rw [G.ur ha hy,Bool.eq_iff_iff]
  refine ⟨fun h1=>?_,fun h1=>h _ (G.az ha) y hy h1⟩
  have:=h a ha _ (G.ed hy (G.az ha)) h1
  rwa [G.BB hy ha] at this
 intro h a ha x hx hp
 have h1:=rO.1 (h a ha) _ (G.ed hx ha)
 rw [G.ur ha (G.ed hx ha),G.BP hx ha,hp] at h1
 exact h1.symm
theorem bB.DI (G:bB n f e) {p q:Nat→Bool} (hp:vN n f e p) (hq:∀ a,a < n→(q a=true↔eh n f e p a)):vN n f e q:=fun a ha x hx h=>by
 have key:∀ y,eh n f e p y→eh n f e p (gB n f e y a):=fun y hy=>by
  have h1:∀ z,eh n f e p z→z < n∧eh n f e p (gB n f e z a):=by
   intro z hz
   refine ⟨hz.lt G,?_⟩
   refine eh.least (H:=fun z=>eh n f e p (gB n f e z a)) (by rw [G.xh ha]; exact .one) (fun u v gu hv pv hu=>?_) hz
   rw [G.l7 (gu.lt G) hv ha]
   exact .step _ _ hu (G.ed hv ha) (hp a ha v hv pv)
  exact (h1 y hy).2
 rw [hq _ (G.ed hx ha)]
 exact key x ((hq x hx).1 h)
end
open Go.Pv
theorem gk {n:Nat} {p:Nat→Bool} : ∀ x∈aS n p,∃ a,a < n∧x=((a:Nat):Int):=fun x hx=>by
 obtain ⟨a,h1,_,h3⟩:=cD.1 hx
 exact ⟨a,h1,h3⟩
theorem vM {n e:Nat} {m:List Int} (h:GT n m n e) {x a:Nat} (hx:x < n) (ha:a < n):bR Tryd.prog 74 [gp n m,.int .i64 x,.int .i64 a] (.int .i64 (gB n (op m n) e x a:Nat)):=by
 have G:=h.2.2
 have ia:=G.az ha
 refine aI ae Tryd.func74 rfl (by kernel_rfl) (by rw [Tryd.ntmps74]; exact Nat.le_add_left 3 _) ?_; rw [Tryd.ntmps74]
 refine qm ?_
 refine ab fun K hK=>aa ae ?_
 simp only [aj,fl,gp,ai,simprocAttr]
 refine af ?_ (hK _ ?_)<;>clear hK K
 ·first|exact trivial|omega|(simp only [ah] at *; omega)|(simp [ah] at *; omega)|simp_all
 refine qa (qm ?_)
 refine aT mixed (by kernel_rfl) fun K hK=>aa ae ?_
 simp only [aj,fl,gp,ai,simprocAttr]
 refine an trivial (ak (oa h ha) rfl rfl rfl (by simp only [au,Nat.reduceLT]) (by repeat (first|exact trivial|constructor)) (aa ae ?_))
 simp only [aj,fl,gp,ai,simprocAttr]
 refine an trivial (ak (jt h.2.1 ia hx) rfl rfl rfl (by simp only [au,Nat.reduceLT]) (by repeat (first|exact trivial|constructor)) (aa ae ?_))
 simp only [aj,fl,gp,ai,simprocAttr]
 refine an trivial (ak (jt h.2.1 (G.cl _ _ ia hx) ha) rfl rfl rfl (by simp only [au,Nat.reduceLT]) (by repeat (first|exact trivial|constructor)) (aa ae ?_))
 simp only [aj,fl,gp,ai,simprocAttr]
 refine af ?_ (hK _ ?_)<;>clear hK K
 ·first|exact trivial|omega|(simp only [ah] at *; omega)|(simp [ah] at *; omega)|simp_all
 refine qa (qk ?_)
 simp only [Tryd.results74,bG,aj,fl,gp,ai,simprocAttr]
 all_goals (rfl)
theorem Ka {n e:Nat} {m:List Int} (h:GT n m n e) {x a:Nat} (hx:x < n) (ha:a < n):bR Tryd.prog 87 [gp n m,.int .i64 x,.int .i64 a] (.int .i64 (gB n (op m n) e x a:Nat)):=by
 have G:=h.2.2
 have ia:=G.az ha
 refine aI ae Tryd.func87 rfl (by kernel_rfl) (by rw [Tryd.ntmps87]; exact Nat.le_add_left 3 _) ?_; rw [Tryd.ntmps87]
 refine qm ?_
 refine ab fun K hK=>aa ae ?_
 simp only [aj,fl,gp,ai,simprocAttr]
 refine af ?_ (hK _ ?_)<;>clear hK K
 ·first|exact trivial|omega|(simp only [ah] at *; omega)|(simp [ah] at *; omega)|simp_all
 refine qa (qm ?_)
 refine aT mixed (by kernel_rfl) fun K hK=>aa ae ?_
 simp only [aj,fl,gp,ai,simprocAttr]
 refine an trivial (ak (JI h.2.1 ha) rfl rfl rfl (by simp only [au,Nat.reduceLT]) (by repeat (first|exact trivial|constructor)) (aa ae ?_))
 simp only [aj,fl,gp,ai,simprocAttr,h.iI ha]
 refine an trivial (ak (zi h.2.1 hx ha) rfl rfl rfl (by simp only [au,Nat.reduceLT]) (by repeat (first|exact trivial|constructor)) (aa ae ?_))
 simp only [aj,fl,gp,ai,simprocAttr]
 refine an trivial (ak (zi h.2.1 ia (G.cl _ _ hx ha)) rfl rfl rfl (by simp only [au,Nat.reduceLT]) (by repeat (first|exact trivial|constructor)) (aa ae ?_))
 simp only [aj,fl,gp,ai,simprocAttr]
 refine af ?_ (hK _ ?_)<;>clear hK K
 ·first|exact trivial|omega|(simp only [ah] at *; omega)|(simp [ah] at *; omega)|simp_all
 refine qa (qk ?_)
 simp only [Tryd.results87,bG,aj,fl,gp,ai,simprocAttr]
 all_goals (rw [G.CJ hx ha])
theorem AD {n e:Nat} {m:List Int} (h:GT n m n e) {a b:Nat} (ha:a < n) (hb:b < n):bR Tryd.prog 116 [gp n m,.int .i64 a,.int .i64 b] (.int .i64 (tI n (op m n) e a b:Nat)):=by
 have G:=h.2.2
 refine aI ae Tryd.func116 rfl (by kernel_rfl) (by rw [Tryd.ntmps116]; exact Nat.le_add_left 3 _) ?_; rw [Tryd.ntmps116]
 refine qm ?_
 refine ab fun K hK=>aa ae ?_
 simp only [aj,fl,gp,ai,simprocAttr]
 refine af ?_ (hK _ ?_)<;>clear hK K
 ·first|exact trivial|omega|(simp only [ah] at *; omega)|(simp [ah] at *; omega)|simp_all
 refine qa (qm ?_)
 refine aT mixed (by kernel_rfl) fun K hK=>aa ae ?_
 simp only [aj,fl,gp,ai,simprocAttr]
 refine an trivial (ak (oa h ha) rfl rfl rfl (by simp only [au,Nat.reduceLT]) (by repeat (first|exact trivial|constructor)) (aa ae ?_))
 simp only [aj,fl,gp,ai,simprocAttr]
 refine an trivial (ak (vM h ha hb) rfl rfl rfl (by simp only [au,Nat.reduceLT]) (by repeat (first|exact trivial|constructor)) (aa ae ?_))
 simp only [aj,fl,gp,ai,simprocAttr]
 refine an trivial (ak (jt h.2.1 (G.az ha) (G.ed ha hb)) rfl rfl rfl (by simp only [au,Nat.reduceLT]) (by repeat (first|exact trivial|constructor)) (aa ae ?_))
 simp only [aj,fl,gp,ai,simprocAttr]
 refine af ?_ (hK _ ?_)<;>clear hK K
 ·first|exact trivial|omega|(simp only [ah] at *; omega)|(simp [ah] at *; omega)|simp_all
 refine qa (qk ?_)
 simp only [Tryd.results116,bG,aj,fl,gp,ai,simprocAttr]
 all_goals (rw [G.Dp ha hb])
def DM (n:Nat) (f:Nat→Nat→Nat) (e:Nat) (a:Int) (lb:List Int):List Int:=lb.map fun b=>((tI n f e a.toNat b.toNat:Nat):Int)
def wO (n:Nat) (f:Nat→Nat→Nat) (e:Nat) (la lb:List Int):List Int:=la.flatMap fun a=>DM n f e a lb
theorem z8 (n:Nat) (f:Nat→Nat→Nat) (e:Nat) {la:List Int} (lb:List Int) {i:Nat} (hi:i < la.length):wO n f e (la.take (i + 1)) lb=wO n f e (la.take i) lb++DM n f e (la.getD i 0) lb:=by
 unfold wO
 rw [List.take_succ_eq_append_getElem hi,List.flatMap_append]
 congr 1
 have:la[i]=la.getD i 0:=by simp [List.getD,List.getElem?_eq_getElem hi]
 rw [this]; simp
theorem Co (n:Nat) (f:Nat→Nat→Nat) (e:Nat) (a:Int) {lb:List Int} {j:Nat} (hj:j < lb.length):DM n f e a (lb.take (j + 1))=DM n f e a (lb.take j)++[((tI n f e a.toNat (lb.getD j 0).toNat:Nat):Int)]:=by
 unfold DM
 rw [List.take_succ_eq_append_getElem hj,List.map_append]
 have:lb[j]=lb.getD j 0:=by simp [List.getD,List.getElem?_eq_getElem hj]
 rw [this]; rfl
theorem wM {n e:Nat} {f:Nat→Nat→Nat} {p r:Nat→Bool} {x:Int} : x∈wO n f e (aS n p) (aS n r)↔∃ a b,a < n∧b < n∧p a=true∧r b=true∧x=((tI n f e a b:Nat):Int):=by
 unfold wO DM
 rw [List.mem_flatMap]
 constructor
 ·rintro ⟨y,hy,hx⟩
  obtain ⟨z,hz,rfl⟩:=List.mem_map.1 hx
  obtain ⟨a,a1,a2,rfl⟩:=cD.1 hy
  obtain ⟨b,b1,b2,rfl⟩:=cD.1 hz
  exact ⟨a,b,a1,b1,a2,b2,by simp⟩
 rintro ⟨a,b,a1,b1,a2,b2,rfl⟩
 exact ⟨(a:Int),(bm a1).2 a2,List.mem_map.2 ⟨(b:Int),(bm b1).2 b2,by simp⟩⟩
theorem xy {n e:Nat} {f:Nat→Nat→Nat} (G:bB n f e) {p r:Nat→Bool} : ∀ x∈wO n f e (aS n p) (aS n r),∃ a,a < n∧x=((a:Nat):Int):=fun x hx=>by
 obtain ⟨a,b,a1,b1,_,_,rfl⟩:=wM.1 hx
 exact ⟨_,G.sx a1 b1,rfl⟩
theorem DL {n e:Nat} {f:Nat→Nat→Nat} {l:List Int} (hl:∀ x∈l,∃ a,a < n∧x=((a:Nat):Int)) {a:Nat} : eh n f e (mc l).testBit a↔eh n f e (EP l) a:=by
 have key:∀ b,(mc l).testBit b=EP l b:=fun b=>by
  rw [mb]
  unfold EP
  refine decide_eq_decide.2 ⟨?_,fun h=>⟨_,h,by simp⟩⟩
  rintro ⟨x,hx,rfl⟩
  obtain ⟨c,_,rfl⟩:=hl x hx
  simpa using hx
 have:(mc l).testBit=EP l:=funext key
 rw [this]
theorem BT {n e:Nat} {m:List Int} (h:GT n m n e) (p r q:Nat→Bool) (hq:∀ a,a < n→(q a=true↔eh n (op m n) e (EP (wO n (op m n) e (aS n p) (aS n r))) a)) :
  bR Tryd.prog 90 [gp n m,.int .u64 (bo n p),.int .u64 (bo n r)] (.int .u64 (bo n q)):=by
 have G:=h.2.2
 have hb:=h.2.1.big
 have hlp:=b9 n p
 have hlr:=b9 n r
 refine aI ae Tryd.func90 rfl (by kernel_rfl) (by rw [Tryd.ntmps90]; exact Nat.le_add_left 3 _) ?_; rw [Tryd.ntmps90]
 refine qm ?_
 refine ab fun K hK=>aa ae ?_
 simp only [aj,fl,gp,ai,simprocAttr]
 refine af ?_ (hK _ ?_)<;>clear hK K
 ·first|exact trivial|omega|(simp only [ah] at *; omega)|(simp [ah] at *; omega)|simp_all
 refine qa (qm ?_)
 refine ab fun K hK=>aa ae ?_
 simp only [aj,fl,gp,ai,simprocAttr]
 refine af trivial (hK _ ?_)<;>clear hK K
 refine qa (qm (qm ?_))
 refine ab fun K hK=>aa ae ?_
 simp only [aj,fl,gp,ai,simprocAttr]
 refine an trivial (ak (mD (bo n p) (eR hb p)) rfl rfl rfl (by simp only [au,Nat.reduceLT]) (by repeat (first|exact trivial|constructor)) (aa ae ?_))
 simp only [aj,fl,gp,ai,simprocAttr,mY hb,aH]
 refine af trivial (hK _ ?_)<;>clear hK K
 refine qa (ql ?_)
 refine aA (ι:=Nat) (fun i=>⟨38,[(2,.p (.int .u64 (bo n r))),(3,.ptr 0 0),(7,.p (.int .u64 (mc (wO n (op m n) e ((aS n p).take i) (aS n r))))),(13,.p (.list (il (aS n p)))),(14,.p (.int .i64 (aS n p).length)),(15,.p (.int .i64 i))],[.own [.p (.int .i64 n),.p (.list (il m))]]⟩) (fun i=>i≤(aS n p).length) (fun i=>(aS n p).length - i) 0 (Nat.zero_le _) [0] (by simp only [leq,bf,aj,fl,gp,ai,simprocAttr]<;>first|trivial|simp [wO,mc]) fun i hi=>?_
 refine qm ?_
 refine ab fun K hK=>aa ae ?_
 simp only [aj,fl,gp,ai,simprocAttr]
 refine af trivial (hK _ ?_)<;>clear hK K
 refine qa (qm ?_)
 refine ao rfl (fun hC1=>?_) (fun hC1=>?_)
 ·(try simp only [aG] at hC1)
  have hlt:i < (aS n p).length:=by omega
  obtain ⟨x,x1,x2,x3⟩:=eQ hlt
  refine qh (qa (qm (ql (qm ?_))))
  refine ab fun K hK=>aa ae ?_
  simp only [aj,fl,gp,ai,simprocAttr,aL hlt,x3]
  refine af ?_ (hK _ ?_)<;>clear hK K
  ·first|exact trivial|omega|(simp only [ah] at *; omega)|(simp [ah] at *; omega)|simp_all
  refine qa (qm ?_)
  refine ab fun K hK=>aa ae ?_
  simp only [aj,fl,gp,ai,simprocAttr]
  refine an trivial (ak (mD (bo n r) (eR hb r)) rfl rfl rfl (by simp only [au,Nat.reduceLT]) (by repeat (first|exact trivial|constructor)) (aa ae ?_))
  simp only [aj,fl,gp,ai,simprocAttr,mY hb,aH]
  refine af trivial (hK _ ?_)<;>clear hK K
  refine qa (ql ?_)
  refine aA (ι:=Nat) (fun j=>⟨38,[(2,.p (.int .u64 (bo n r))),(3,.ptr 0 0),(7,.p (.int .u64 (mc (wO n (op m n) e ((aS n p).take i) (aS n r)++DM n (op m n) e x ((aS n r).take j))))),(9,.p (.int .i64 x)),(13,.p (.list (il (aS n p)))),(14,.p (.int .i64 (aS n p).length)),(15,.p (.int .i64 i)),(20,.p (.list (il (aS n r)))),(21,.p (.int .i64 (aS n r).length)),(22,.p (.int .i64 j))],[.own [.p (.int .i64 n),.p (.list (il m))]]⟩) (fun j=>j≤(aS n r).length) (fun j=>(aS n r).length - j) 0 (Nat.zero_le _) [0] (by simp only [leq,bf,aj,fl,gp,ai,simprocAttr]<;>first|trivial|simp [DM]) fun j hj=>?_
  refine qm ?_
  refine ab fun K hK=>aa ae ?_
  simp only [aj,fl,gp,ai,simprocAttr]
  refine af trivial (hK _ ?_)<;>clear hK K
  refine qa (qm ?_)
  refine ao rfl (fun hC2=>?_) (fun hC2=>?_)
  ·(try simp only [aG] at hC2)
   have hjl:j < (aS n r).length:=by omega
   obtain ⟨y,y1,y2,y3⟩:=eQ hjl
   have hc:=G.sx x1 y1
   have hp:=hU (b:=tI n (op m n) e x y) (by omega)
   have hall:∀ z∈wO n (op m n) e ((aS n p).take i) (aS n r)++DM n (op m n) e x ((aS n r).take j),z.toNat < n:=fun z hz=>by
    rcases List.mem_append.1 hz with hz | hz
    ·obtain ⟨u,hu,hv⟩:=List.mem_flatMap.1 hz
     obtain ⟨w,hw,rfl⟩:=List.mem_map.1 hv
     obtain ⟨u',u1,u2⟩:=gk u (List.mem_of_mem_take hu)
     obtain ⟨w',w1,w2⟩:=gk w hw
     subst u2; subst w2
     exact G.sx u1 w1
    obtain ⟨w,hw,rfl⟩:=List.mem_map.1 hz
    obtain ⟨w',w1,w2⟩:=gk w (List.mem_of_mem_take hw)
    subst w2
    exact G.sx x1 w1
   have hm:=uT hb (mT hall)
   refine qh (qa (qm (ql (qm ?_))))
   refine ab fun K hK=>aa ae ?_
   simp only [aj,fl,gp,ai,simprocAttr,aL hjl,y3]
   refine af ?_ (hK _ ?_)<;>clear hK K
   ·first|exact trivial|omega|(simp only [ah] at *; omega)|(simp [ah] at *; omega)|simp_all
   refine qa ?_
   refine ab fun K hK=>aa ae ?_
   simp only [aj,fl,gp,ai,simprocAttr]
   refine an trivial (ak (AD h x1 y1) rfl rfl rfl (by simp only [au,Nat.reduceLT]) (by repeat (first|exact trivial|constructor)) (aa ae ?_))
   simp only [aj,fl,gp,ai,simprocAttr,iN (show tI n (op m n) e x y < 64 by omega),nP hm hp]
   refine af ?_ (hK _ ?_)<;>clear hK K
   ·first|exact trivial|omega|(simp only [ah] at *; omega)|(simp [ah] at *; omega)|simp_all
   refine qd (qa ?_)
   refine ab fun K hK=>aa ae ?_
   simp only [aj,fl,gp,ai,simprocAttr]
   refine af ?_ (hK _ ?_)<;>clear hK K
   ·first|exact trivial|omega|(simp only [ah] at *; omega)|(simp [ah] at *; omega)|simp_all
   refine qa ?_
   refine ⟨j + 1,[0],by omega,by omega,?_⟩
   rw [Co n (op m n) e x hjl,← List.append_assoc,lS,y3]
   simp only [leq,bf,aj,fl,gp,ai,simprocAttr]<;>first|trivial|omega
  (try simp only [aG] at hC2)
  have hjn:j=(aS n r).length:=by omega
  rw [hjn,List.take_length]
  refine qj (qc (qc (qf (qd (qa ?_)))))
  refine ab fun K hK=>aa ae ?_
  simp only [aj,fl,gp,ai,simprocAttr]
  refine af ?_ (hK _ ?_)<;>clear hK K
  ·first|exact trivial|omega|(simp only [ah] at *; omega)|(simp [ah] at *; omega)|simp_all
  refine qa ?_
  refine ⟨i + 1,[0],by omega,by omega,?_⟩
  rw [z8 n (op m n) e (aS n r) hlt,x3]
  simp only [leq,bf,aj,fl,gp,ai,simprocAttr]<;>first|trivial|omega
 (try simp only [aG] at hC1)
 have hin:i=(aS n p).length:=by omega
 rw [hin,List.take_length]
 refine qj (qc (qc (qf (qa (qm ?_)))))
 refine ab fun K hK=>aa ae ?_
 simp only [aj,fl,gp,ai,simprocAttr]
 refine an trivial (ak (Bm h (mc (wO n (op m n) e (aS n p) (aS n r))) (mT fun z hz=>by obtain ⟨a,a1,rfl⟩:=xy G z hz; simpa using a1) q (fun a ha=>by rw [DL (xy G)]; exact hq a ha)) rfl rfl rfl (by simp only [au,Nat.reduceLT]) (by repeat (first|exact trivial|constructor)) (aa ae ?_))
 simp only [aj,fl,gp,ai,simprocAttr]
 refine af ?_ (hK _ ?_)<;>clear hK K
 ·first|exact trivial|omega|(simp only [ah] at *; omega)|(simp [ah] at *; omega)|simp_all
 refine qa (qk ?_)
 simp only [Tryd.results90,bG,aj,fl,gp,ai,simprocAttr]
 all_goals (rfl)
theorem Di {n e:Nat} {m:List Int} (h:GT n m n e) (p r q:Nat→Bool) (hq:∀ a,a < n→(q a=true↔eh n (op m n) e (EP (wO n (op m n) e (aS n p) (aS n r))) a)) :
  bR Tryd.prog 59 [gp n m,.list (il (aS n p)),.list (il (aS n r))] (.tup [.list (il (aS n q)),fl (0,0)]):=by
 have hb:=h.2.1.big
 have hlp:=b9 n p
 have hlr:=b9 n r
 have hml:=h.2.1.len
 have hsq:=kq hb
 refine aI ae Tryd.func59 rfl (by kernel_rfl) (by rw [Tryd.ntmps59]; exact Nat.le_add_left 3 _) ?_; rw [Tryd.ntmps59]
 refine qm ?_
 refine ab fun K hK=>aa ae ?_
 simp only [aj,fl,gp,ai,simprocAttr]
 refine af ?_ (hK _ ?_)<;>clear hK K
 ·first|exact trivial|omega|(simp only [ah] at *; omega)|(simp [ah] at *; omega)|simp_all
 refine qa (qm (qm ?_))
 refine ab fun K hK=>aa ae ?_
 simp only [aj,fl,gp,ai,simprocAttr]
 refine an trivial (ak (wg n m (aS n p) (by omega) (by omega)) rfl rfl rfl (by simp only [au,Nat.reduceLT]) (by repeat (first|exact trivial|constructor)) (aa ae ?_))
 simp only [aj,fl,gp,ai,simprocAttr,vp h]
 refine af ?_ (hK _ ?_)<;>clear hK K
 ·first|exact trivial|omega|(simp only [ah] at *; omega)|(simp [ah] at *; omega)|simp_all
 refine qa (qm ?_)
 refine ab fun K hK=>aa ae ?_
 simp only [aj,fl,gp,ai,simprocAttr]
 refine af ?_ (hK _ ?_)<;>clear hK K
 ·first|exact trivial|omega|(simp only [ah] at *; omega)|(simp [ah] at *; omega)|simp_all
 refine qa ?_
 refine ao rfl (fun hC1=>?_) (fun hC1=>?_)
 ·cases hC1
 (try simp only [aG] at hC1)
 refine qh (qa (qm (qm ?_)))
 refine ab fun K hK=>aa ae ?_
 simp only [aj,fl,gp,ai,simprocAttr]
 refine an trivial (ak (wg n m (aS n r) (by omega) (by omega)) rfl rfl rfl (by simp only [au,Nat.reduceLT]) (by repeat (first|exact trivial|constructor)) (aa ae ?_))
 simp only [aj,fl,gp,ai,simprocAttr,vp h]
 refine af ?_ (hK _ ?_)<;>clear hK K
 ·first|exact trivial|omega|(simp only [ah] at *; omega)|(simp [ah] at *; omega)|simp_all
 refine qa (qm ?_)
 refine ab fun K hK=>aa ae ?_
 simp only [aj,fl,gp,ai,simprocAttr]
 refine af ?_ (hK _ ?_)<;>clear hK K
 ·first|exact trivial|omega|(simp only [ah] at *; omega)|(simp [ah] at *; omega)|simp_all
 refine qa ?_
 refine ao rfl (fun hC2=>?_) (fun hC2=>?_)
 ·cases hC2
 (try simp only [aG] at hC2)
 refine qh (qa (qm ?_))
 refine aT mixed (by kernel_rfl) fun K hK=>aa ae ?_
 simp only [aj,fl,gp,ai,simprocAttr]
 refine an trivial (ak (zd (aS n p) (by omega) (kd hb p)) rfl rfl rfl (by simp only [au,Nat.reduceLT]) (by repeat (first|exact trivial|constructor)) (aa ae ?_))
 simp only [aj,fl,gp,ai,simprocAttr,lq]
 refine an trivial (ak (zd (aS n r) (by omega) (kd hb r)) rfl rfl rfl (by simp only [au,Nat.reduceLT]) (by repeat (first|exact trivial|constructor)) (aa ae ?_))
 simp only [aj,fl,gp,ai,simprocAttr,lq]
 refine an trivial (ak (BT h p r q hq) rfl rfl rfl (by simp only [au,Nat.reduceLT]) (by repeat (first|exact trivial|constructor)) (aa ae ?_))
 simp only [aj,fl,gp,ai,simprocAttr]
 refine an trivial (ak (mD (bo n q) (eR hb q)) rfl rfl rfl (by simp only [au,Nat.reduceLT]) (by repeat (first|exact trivial|constructor)) (aa ae ?_))
 simp only [aj,fl,gp,ai,simprocAttr,mY hb]
 refine af ?_ (hK _ ?_)<;>clear hK K
 ·first|exact trivial|omega|(simp only [ah] at *; omega)|(simp [ah] at *; omega)|simp_all
 refine qa (qk ?_)
 simp only [Tryd.results59,bG,aj,fl,gp,ai,simprocAttr]
 all_goals ((first|exact rfl|exact ⟨rfl,rfl⟩|exact ⟨rfl,rfl,rfl⟩|exact ⟨trivial,rfl⟩|exact ⟨Nat.le_refl _,rfl⟩|trivial|(simp; done)))
def eE (n:Nat) (r:Nat→Nat→Bool) (a:Nat):List (List Int):=((List.range a).filter (lead r)).map fun x=>aS n (r x)
def bA (n:Nat) (r:Nat→Nat→Bool):List (List Int):=eE n r n
theorem mV (n:Nat) (r:Nat→Nat→Bool) (a:Nat):eE n r (a + 1)=eE n r a++if lead r a=true then [aS n (r a)] else []:=by
 unfold eE
 rw [List.range_succ,List.filter_append,List.map_append]
 congr 1
 cases h:lead r a<;>simp [h]
theorem fi (n:Nat) (r:Nat→Nat→Bool) (a:Nat):(eE n r a).length≤a:=by
 unfold eE
 rw [List.length_map]
 have:=List.length_filter_le (lead r) (List.range a)
 rwa [List.length_range] at this
theorem eY {n:Nat} {r:Nat→Nat→Bool} {i:Nat} (hi:i < (bA n r).length):∃ x,x < n∧lead r x=true∧(bA n r).getD i []=aS n (r x)∧(mem n (lead r)).getD i 0=x:=by
 unfold bA eE at hi ⊢
 rw [List.length_map] at hi
 have hm:=List.getElem_mem hi
 obtain ⟨h1,h2⟩:=List.mem_filter.1 hm
 refine ⟨_,List.mem_range.1 h1,h2,?_,?_⟩
 ·simp [List.getD,List.getElem?_eq_getElem hi]
 unfold mem
 simp [List.getD,List.getElem?_eq_getElem hi]
theorem Cq {n:Nat} {p:Nat→Bool} {a:Nat} (ha:a < n) (h1:p a=true) (h2:∀ b,b < a→p b=false):0 < (aS n p).length∧(aS n p).getD 0 0=(a:Int):=by
 have:aS n p=(a:Int) :: (gC n fun i=>p i && !decide (i=a)).map (fun (a:Nat)=>(a:Int)):=by
  unfold aS
  rw [q9 ha h1 h2]; rfl
 rw [this]
 exact ⟨by simp,rfl⟩
theorem Aq {n:Nat} {p:Nat→Bool} {a:Nat} (ha:a < n) (h0:0 < (aS n p).length) (h:(aS n p).getD 0 0=(a:Int)):p a=true∧∀ b,b < a→p b=false:=by
 obtain ⟨x,x1,x2,x3⟩:=eQ h0
 have:x=a:=by omega
 subst this
 refine ⟨x2,fun b hb=>?_⟩
 cases hpb:p b with
 | false=>rfl
 | true =>
  exfalso
  obtain ⟨i,i1,i2⟩:=r8 (n:=n) (p:=p) (show b < n by omega) hpb
  rcases Nat.eq_zero_or_pos i with h' | h'
  ·subst h'; omega
  have:=nO (n:=n) (p:=p) h' i1
  omega
theorem fR {n:Nat} {r:Nat→Nat→Bool} {a:Nat} (ha:a < n):lead r a=true↔0 < (aS n (r a)).length∧(aS n (r a)).getD 0 0=(a:Int):=by
 rw [fZ]
 exact ⟨fun h=>Cq ha h.1 h.2,fun h=>Aq ha h.1 h.2⟩
theorem yW (F:FuncId) (caps:List PV) (a b:Nat) (v:Bool) (hF:bR Tryd.prog F (.int .i64 a :: .int .i64 b :: caps) (.bool v)):bR Tryd.prog 115 [.int .i64 b,.ptr [.fn F caps],.ptr [.int .i64 a]] (.bool v):=by
 refine aI ae Tryd.func115 rfl (by kernel_rfl) (by rw [Tryd.ntmps115]; exact Nat.le_add_left 3 _) ?_; rw [Tryd.ntmps115]
 refine qm ?_
 refine ab fun K hK=>aa ae ?_
 simp only [aj,fl,gp,ai,simprocAttr]
 refine af trivial (hK _ ?_)<;>clear hK K
 refine qa (qm ?_)
 refine ab fun K hK=>aa ae ?_
 simp only [aj,fl,gp,ai,simprocAttr]
 refine an trivial (ak (hF) rfl rfl rfl (by simp only [au,Nat.reduceLT]) (by repeat (first|exact trivial|constructor)) (aa ae ?_))
 simp only [aj,fl,gp,ai,simprocAttr]
 refine af ?_ (hK _ ?_)<;>clear hK K
 ·first|exact trivial|omega|(simp only [ah] at *; omega)|(simp [ah] at *; omega)|simp_all
 refine qa (qk ?_)
 simp only [Tryd.results115,bG,aj,fl,gp,ai,simprocAttr]
 all_goals (rfl)
theorem IK {n:Nat} {r:Nat→Nat→Bool} {a:Nat} (ha:a < n):lead r a=true∨(lead r a=false∧(aS n (r a)).length=0)∨(lead r a=false∧0 < (aS n (r a)).length∧¬ (aS n (r a)).getD 0 0=(a:Int)):=by
 cases h:lead r a with
 | true=>exact .inl rfl
 | false =>
  right
  rcases Nat.eq_zero_or_pos (aS n (r a)).length with h0 | h0
  ·exact .inl ⟨rfl,h0⟩
  refine .inr ⟨rfl,h0,fun he=>?_⟩
  have:=(fR ha).2 ⟨h0,he⟩
  rw [h] at this; cases this
theorem Ar (n:Nat) (m:List Int) (F:FuncId) (caps:List PV) (r:Nat→Nat→Bool) (hn:n≤1000000) (hF:∀ a b,a < n→b < n→bR Tryd.prog F (.int .i64 a :: .int .i64 b :: caps) (.bool (r a b))):bR Tryd.prog 85 [gp n m,.fn F caps] (.list (ll (bA n r))):=by
 refine aI ae Tryd.func85 rfl (by kernel_rfl) (by rw [Tryd.ntmps85]; exact Nat.le_add_left 2 _) ?_; rw [Tryd.ntmps85]
 refine qm ?_
 refine ab fun K hK=>aa ae ?_
 simp only [aj,fl,gp,ai,simprocAttr]
 refine af ?_ (hK _ ?_)<;>clear hK K
 ·first|exact trivial|omega|(simp only [ah] at *; omega)|(simp [ah] at *; omega)|simp_all
 refine qa (qm ?_)
 refine ab fun K hK=>aa ae ?_
 simp only [aj,fl,gp,ai,simprocAttr]
 refine af trivial (hK _ ?_)<;>clear hK K
 refine qa (qm (qm ?_))
 refine bO 1 rfl rfl ?_
 simp only [aE]
 refine bN 5 rfl ?_
 refine ab fun K hK=>aa ae ?_
 simp only [aj,fl,gp,ai,simprocAttr]
 refine af ?_ (hK _ ?_)<;>clear hK K
 ·first|exact trivial|omega|(simp only [ah] at *; omega)|(simp [ah] at *; omega)|simp_all
 refine qa (ql ?_)
 refine aA (ι:=Nat) (fun a=>⟨33,[(2,.ptr 0 0),(3,.ptr 1 0),(5,.sl 2 0 (eE n r a).length),(6,.ptr 3 0)],[.own [.p (.int .i64 n),.p (.list (il m))],.fro [.fn F caps],.own (bF (ll (eE n r a))),.own [.p (.int .i64 a)]]⟩) (fun a=>a≤n) (fun a=>n - a) 0 (Nat.zero_le _) [0,1,2,3] (by simp only [leq,bf,aj,fl,gp,ai,simprocAttr,aY,bL,cX]<;>first|trivial|(simp [eE,ll,bF]; done)) fun a ha=>?_
 have hlen:=fi n r a
 have hll:=aw (eE n r a)
 refine qm (qm ?_)
 refine ab fun K hK=>aa ae ?_
 simp only [aj,fl,gp,ai,simprocAttr]
 refine af ?_ (hK _ ?_)<;>clear hK K
 ·first|exact trivial|omega|(simp only [ah] at *; omega)|(simp [ah] at *; omega)|simp_all
 refine qa ?_
 refine ao rfl (fun hC1=>?_) (fun hC1=>?_)
 ·(try simp only [aG] at hC1)
  have hlt:a < n:=by omega
  have hs:=mV n r a
  have htl:=b9 n (r a)
  refine qh (qa (qm (ql (qm ?_))))
  refine bO 3 rfl rfl ?_
  simp only [aE]
  refine ab fun K hK=>aa ae ?_
  simp only [aj,fl,gp,ai,simprocAttr]
  refine an trivial (ak (Ee n m _ _ (r a) hn (fun b hb=>yW F caps a b (r a b) (hF a b hlt hb))) rfl rfl rfl (by simp only [au,Nat.reduceLT]) (by repeat (first|exact trivial|constructor)) (aa ae ?_))
  simp only [aj,fl,gp,ai,simprocAttr]
  refine af ?_ (hK _ ?_)<;>clear hK K
  ·first|exact trivial|omega|(simp only [ah] at *; omega)|(simp [ah] at *; omega)|simp_all
  refine qa (qm ?_)
  rcases IK (r:=r) hlt with hld | ⟨hld,h0⟩ | ⟨hld,h0,h1⟩
  ·rw [if_pos hld] at hs
   obtain ⟨h0,h1⟩:=(fR hlt).1 hld
   refine aT mixed (by kernel_rfl) fun K hK=>aa ae ?_
   simp only [aj,fl,gp,ai,simprocAttr,aH,decide_eq_true (show ((aS n (r a)).length:Int) > 0 by omega),aL h0,h1,decide_eq_true (show ((a:Nat):Int)=(a:Nat) from rfl)]
   refine af ?_ (hK _ ?_)<;>clear hK K
   ·first|exact trivial|omega|(simp only [ah] at *; omega)|(simp [ah] at *; omega)|simp_all
   refine qa ?_
   refine ao rfl (fun hC2=>?_) (fun hC2=>?_)
   ·(try simp only [aG] at hC2)
    refine ab fun K hK=>aa ae ?_
    simp only [aj,fl,gp,ai,simprocAttr,aY,kU,bL]
    refine af ?_ (hK _ ?_)<;>clear hK K
    ·first|exact trivial|omega|(simp only [ah] at *; omega)|(simp [ah] at *; omega)|simp_all
    refine qd (qa (qm (qm ?_)))
    refine ab fun K hK=>aa ae ?_
    simp only [aj,fl,gp,ai,simprocAttr]
    refine af ?_ (hK _ ?_)<;>clear hK K
    ·first|exact trivial|omega|(simp only [ah] at *; omega)|(simp [ah] at *; omega)|simp_all
    refine qa ?_
    refine ab fun K hK=>aa ae ?_
    simp only [aj,fl,gp,ai,simprocAttr]
    refine af ?_ (hK _ ?_)<;>clear hK K
    ·first|exact trivial|omega|(simp only [ah] at *; omega)|(simp [ah] at *; omega)|simp_all
    refine qa ?_
    refine ab fun K hK=>aa ae ?_
    simp only [aj,fl,gp,ai,simprocAttr]
    refine af ?_ (hK _ ?_)<;>clear hK K
    ·first|exact trivial|omega|(simp only [ah] at *; omega)|(simp [ah] at *; omega)|simp_all
    refine qa ?_
    refine ⟨a + 1,[0,1,4,5],by omega,by omega,?_⟩
    rw [hs]
    simp only [leq,bf,aj,fl,gp,ai,simprocAttr,aY,bL,cX]<;>first|trivial|omega|(simp [ll]; done)
   cases hC2
  ·rw [if_neg (by rw [hld]; simp),List.append_nil] at hs
   refine aT mixed (by kernel_rfl) fun K hK=>aa ae ?_
   simp only [aj,fl,gp,ai,simprocAttr,aH,decide_eq_false (show ¬ ((aS n (r a)).length:Int) > 0 by omega)]
   refine af trivial (hK _ ?_)<;>clear hK K
   refine qa ?_
   refine ao rfl (fun hC2=>?_) (fun hC2=>?_)
   ·cases hC2
   refine qh (qd (qa (qm (qm ?_))))
   refine ab fun K hK=>aa ae ?_
   simp only [aj,fl,gp,ai,simprocAttr]
   refine af ?_ (hK _ ?_)<;>clear hK K
   ·first|exact trivial|omega|(simp only [ah] at *; omega)|(simp [ah] at *; omega)|simp_all
   refine qa ?_
   refine ab fun K hK=>aa ae ?_
   simp only [aj,fl,gp,ai,simprocAttr]
   refine af ?_ (hK _ ?_)<;>clear hK K
   ·first|exact trivial|omega|(simp only [ah] at *; omega)|(simp [ah] at *; omega)|simp_all
   refine qa ?_
   refine ab fun K hK=>aa ae ?_
   simp only [aj,fl,gp,ai,simprocAttr]
   refine af ?_ (hK _ ?_)<;>clear hK K
   ·first|exact trivial|omega|(simp only [ah] at *; omega)|(simp [ah] at *; omega)|simp_all
   refine qa ?_
   refine ⟨a + 1,[0,1,2,4],by omega,by omega,?_⟩
   rw [hs]
   simp only [leq,bf,aj,fl,gp,ai,simprocAttr,aY,bL,cX]<;>first|trivial|omega
  rw [if_neg (by rw [hld]; simp),List.append_nil] at hs
  refine aT mixed (by kernel_rfl) fun K hK=>aa ae ?_
  simp only [aj,fl,gp,ai,simprocAttr,aH,decide_eq_true (show ((aS n (r a)).length:Int) > 0 by omega),aL h0,decide_eq_false h1]
  refine af ?_ (hK _ ?_)<;>clear hK K
  ·first|exact trivial|omega|(simp only [ah] at *; omega)|(simp [ah] at *; omega)|simp_all
  refine qa ?_
  refine ao rfl (fun hC2=>?_) (fun hC2=>?_)
  ·cases hC2
  (try simp only [aG] at hC2)
  refine qh (qd (qa (qm (qm ?_))))
  refine ab fun K hK=>aa ae ?_
  simp only [aj,fl,gp,ai,simprocAttr]
  refine af ?_ (hK _ ?_)<;>clear hK K
  ·first|exact trivial|omega|(simp only [ah] at *; omega)|(simp [ah] at *; omega)|simp_all
  refine qa ?_
  refine ab fun K hK=>aa ae ?_
  simp only [aj,fl,gp,ai,simprocAttr]
  refine af ?_ (hK _ ?_)<;>clear hK K
  ·first|exact trivial|omega|(simp only [ah] at *; omega)|(simp [ah] at *; omega)|simp_all
  refine qa ?_
  refine ab fun K hK=>aa ae ?_
  simp only [aj,fl,gp,ai,simprocAttr]
  refine af ?_ (hK _ ?_)<;>clear hK K
  ·first|exact trivial|omega|(simp only [ah] at *; omega)|(simp [ah] at *; omega)|simp_all
  refine qa ?_
  refine ⟨a + 1,[0,1,2,4],by omega,by omega,?_⟩
  rw [hs]
  simp only [leq,bf,aj,fl,gp,ai,simprocAttr,aY,bL,cX]<;>first|trivial|omega
 (try simp only [aG] at hC1)
 have han:a=n:=by omega
 subst han
 rw [← aw (eE a r a)]
 refine lr 5 2 (iz _) rfl rfl ?_
 refine qj (qc (qc (qf (qa (qm ?_)))))
 refine ab fun K hK=>aa ae ?_
 simp only [aj,fl,gp,ai,simprocAttr]
 refine af trivial (hK _ ?_)<;>clear hK K
 refine qa (qk ?_)
 simp only [Tryd.results85,bG,aj,fl,gp,ai,simprocAttr]
 all_goals (rfl)
theorem DN {n x:Nat} (hx:x < n):aS n (fun y=>decide (y=x))=[(x:Int)]:=by
 refine wH (rU _ _) (by simp) fun z=>?_
 rw [cD,List.mem_singleton]
 constructor
 ·rintro ⟨a,_,h2,rfl⟩
  rw [decide_eq_true_eq] at h2
  rw [h2]
 rintro rfl
 exact ⟨x,hx,by simp,rfl⟩
theorem Ca {n e:Nat} {m:List Int} (h:GT n m n e) {a b:Nat} (ha:a < n) (hb' : b < n):bR Tryd.prog 86 [.int .i64 a,.int .i64 b,.ptr [.int .i64 n,.list (il m)]] (.bool (bY n (op m n) e a b)):=by
 have hb:=h.2.1.big
 refine aI ae Tryd.func86 rfl (by kernel_rfl) (by rw [Tryd.ntmps86]; exact Nat.le_add_left 3 _) ?_; rw [Tryd.ntmps86]
 refine qm ?_
 refine ab fun K hK=>aa ae ?_
 simp only [aj,fl,gp,ai,simprocAttr]
 refine af trivial (hK _ ?_)<;>clear hK K
 refine qa (qm (qm ?_))
 refine ab fun K hK=>aa ae ?_
 simp only [aj,fl,gp,ai,simprocAttr]
 refine af trivial (hK _ ?_)<;>clear hK K
 refine qa (ql ?_)
 refine aA (ι:=Nat) (fun x=>⟨19,[(0,.p (.int .i64 a)),(1,.p (.int .i64 b)),(2,.p (.ptr [.int .i64 n,.list (il m)])),(6,.p (.int .i64 x))],[]⟩) (fun x=>x≤n∧∀ c,c < x→¬ gB n (op m n) e a c=b) (fun x=>n - x) 0 ⟨Nat.zero_le _,fun j hj=>by omega⟩ [] (by simp only [leq,bf,aj,fl,gp,ai,simprocAttr]<;>trivial) fun x hx=>?_
 obtain ⟨hx1,hx2⟩:=hx
 refine qm (qm ?_)
 refine ab fun K hK=>aa ae ?_
 simp only [aj,fl,gp,ai,simprocAttr]
 refine af ?_ (hK _ ?_)<;>clear hK K
 ·first|exact trivial|omega|(simp only [ah] at *; omega)|(simp [ah] at *; omega)|simp_all
 refine qa ?_
 refine ao rfl (fun hC1=>?_) (fun hC1=>?_)
 ·(try simp only [aG] at hC1)
  have hlt:x < n:=by omega
  refine qh (qa (qm (ql (qm ?_))))
  refine ab fun K hK=>aa ae ?_
  simp only [aj,fl,gp,ai,simprocAttr]
  refine an trivial (ak (Ka h ha hlt) rfl rfl rfl (by simp only [au,Nat.reduceLT]) (by repeat (first|exact trivial|constructor)) (aa ae ?_))
  simp only [aj,fl,gp,ai,simprocAttr]
  refine af ?_ (hK _ ?_)<;>clear hK K
  ·first|exact trivial|omega|(simp only [ah] at *; omega)|(simp [ah] at *; omega)|simp_all
  refine qa ?_
  refine ao rfl (fun hC2=>?_) (fun hC2=>?_)
  ·(try simp only [aG] at hC2)
   refine qm ?_
   refine ab fun K hK=>aa ae ?_
   simp only [aj,fl,gp,ai,simprocAttr]
   refine af trivial (hK _ ?_)<;>clear hK K
   refine qa (qk (qe (qb (qb (qe (qb ?_))))))
   simp only [Tryd.results86,bG,aj,fl,gp,ai,simprocAttr]
   all_goals (rw [eq_comm,dV]; exact ⟨x,hlt,(show gB n (op m n) e a x=b by omega)⟩)
  (try simp only [aG] at hC2)
  refine qh (qd (qa ?_))
  refine ab fun K hK=>aa ae ?_
  simp only [aj,fl,gp,ai,simprocAttr]
  refine af ?_ (hK _ ?_)<;>clear hK K
  ·first|exact trivial|omega|(simp only [ah] at *; omega)|(simp [ah] at *; omega)|simp_all
  refine qa ?_
  refine ⟨x + 1,[],⟨by omega,fun j hj=>?_⟩,by omega,?_⟩
  ·by_cases hj2:j=x
   ·subst hj2; omega
   exact hx2 j (by omega)
  simp only [leq,bf,aj,fl,gp,ai,simprocAttr]<;>omega
 (try simp only [aG] at hC1)
 refine qj (qc (qc (qf (qa (qm ?_)))))
 refine ab fun K hK=>aa ae ?_
 simp only [aj,fl,gp,ai,simprocAttr]
 refine af trivial (hK _ ?_)<;>clear hK K
 refine qa (qk ?_)
 simp only [Tryd.results86,bG,aj,fl,gp,ai,simprocAttr]
 rw [eq_comm]
 cases hv:bY n (op m n) e a b with
 | false=>rfl
 | true =>
  obtain ⟨c,c1,c2⟩:=dV.1 hv
  exact absurd c2 (hx2 c (by omega))
theorem tK {n e:Nat} {m:List Int} (h:GT n m n e):bR Tryd.prog 53 [gp n m] (.list (ll (bA n (bY n (op m n) e)))):=by
 have hb:=h.2.1.big
 refine aI ae Tryd.func53 rfl (by kernel_rfl) (by rw [Tryd.ntmps53]; exact Nat.le_add_left 1 _) ?_; rw [Tryd.ntmps53]
 refine qm ?_
 refine ab fun K hK=>aa ae ?_
 simp only [aj,fl,gp,ai,simprocAttr]
 refine af ?_ (hK _ ?_)<;>clear hK K
 ·first|exact trivial|omega|(simp only [ah] at *; omega)|(simp [ah] at *; omega)|simp_all
 refine qa (qm ?_)
 refine bO 0 rfl rfl ?_
 simp only [aE]
 refine ab fun K hK=>aa ae ?_
 simp only [aj,fl,gp,ai,simprocAttr]
 refine an trivial (ak (Ar n m _ _ (bY n (op m n) e) (by omega) (fun a b ha hb'=>Ca h ha hb')) rfl rfl rfl (by simp only [au,Nat.reduceLT]) (by repeat (first|exact trivial|constructor)) (aa ae ?_))
 simp only [aj,fl,gp,ai,simprocAttr]
 refine af ?_ (hK _ ?_)<;>clear hK K
 ·first|exact trivial|omega|(simp only [ah] at *; omega)|(simp [ah] at *; omega)|simp_all
 refine qa (qk ?_)
 simp only [Tryd.results53,bG,aj,fl,gp,ai,simprocAttr]
 all_goals (rfl)
theorem EM (n:Nat) (p q:Nat→Bool):bo n p ||| bo n q=bo n fun a=>p a || q a:=by
 refine Nat.eq_of_testBit_eq fun i=>?_
 rw [Nat.testBit_or,dK,dK,dK]
 cases decide (i < n)<;>simp
theorem GA {n:Nat} {p:Nat→Bool} {c:Nat} (hc:c < n):bo n p ||| 2 ^ c=bo n (I3 p c):=by
 refine Nat.eq_of_testBit_eq fun i=>?_
 rw [iT,dK,dK]
 unfold I3
 by_cases hi:i=c
 ·subst hi; simp [hc]
 have h1:decide (c=i)=false:=by simp; omega
 have h2:decide (i=c)=false:=by simpa using hi
 rw [h1,h2]; simp
def dJ (r:Nat→Nat→Bool) (x y:Nat):Bool:=decide (∃ z,z < x∧r z y=true)
def sp (n:Nat) (f:Nat→Nat→Nat) (e x a y:Nat):Bool:=decide (∃ b,b < a∧gB n f e x b=y)
theorem Es (n:Nat) (f:Nat→Nat→Nat) (e x a:Nat):sp n f e x (a + 1)=I3 (sp n f e x a) (gB n f e x a):=by
 funext y
 unfold sp I3
 rw [← Bool.decide_or]
 refine decide_eq_decide.2 ⟨?_,?_⟩
 ·rintro ⟨b,hb,rfl⟩
  by_cases h:b=a
  ·subst h; exact .inr rfl
  exact .inl ⟨b,by omega,rfl⟩
 rintro (⟨b,hb,rfl⟩ | rfl)
 ·exact ⟨b,by omega,rfl⟩
 exact ⟨a,by omega,rfl⟩
theorem sj (n:Nat):bo n (fun _=>false)=0:=by
 refine Nat.eq_of_testBit_eq fun i=>?_
 rw [dK]; simp
set_option maxHeartbeats 2000000 in
theorem mI {n e:Nat} {m:List Int} (h:GT n m n e):bR Tryd.prog 40 [gp n m] (.list (ll (bA n (bY n (op m n) e)))):=by
 have G:=h.2.2
 have hb:=h.2.1.big
 have E:=G.fO
 have hz:bo n (dJ (bY n (op m n) e) 0)=0:=by
  have h1:bo n (dJ (bY n (op m n) e) 0)=bo n fun _=>false:=dh fun a _=>by simp [dJ]
  rw [h1,sj]
 have hsp0:∀ x,bo n (sp n (op m n) e x 0)=0:=fun x=>by
  have h1:bo n (sp n (op m n) e x 0)=bo n fun _=>false:=dh fun a _=>by simp [sp]
  rw [h1,sj]
 have hlead:∀ x,x < n→lead (bY n (op m n) e) x = !dJ (bY n (op m n) e) x x:=by
  intro x hx
  rw [Bool.eq_iff_iff,fZ,Bool.not_eq_true']
  unfold dJ
  rw [decide_eq_false_iff_not]
  constructor
  ·rintro ⟨_,h2⟩ ⟨z,z1,z2⟩
   have:=E.symm z x (by omega) hx z2
   rw [h2 z z1] at this; cases this
  intro h1
  refine ⟨E.refl x hx,fun b hb'=>?_⟩
  cases hv:bY n (op m n) e x b with
  | false=>rfl
  | true=>exact absurd ⟨b,hb',E.symm x b hx (by omega) hv⟩ h1
 refine aI ae Tryd.func40 rfl (by kernel_rfl) (by rw [Tryd.ntmps40]; exact Nat.le_add_left 1 _) ?_; rw [Tryd.ntmps40]
 refine qm ?_
 refine ab fun K hK=>aa ae ?_
 simp only [aj,fl,gp,ai,simprocAttr]
 refine af ?_ (hK _ ?_)<;>clear hK K
 ·first|exact trivial|omega|(simp only [ah] at *; omega)|(simp [ah] at *; omega)|simp_all
 refine qa (qm ?_)
 refine ab fun K hK=>aa ae ?_
 simp only [aj,fl,gp,ai,simprocAttr]
 refine af trivial (hK _ ?_)<;>clear hK K
 refine qa (qm ?_)
 refine bN 3 rfl ?_
 refine ab fun K hK=>aa ae ?_
 simp only [aj,fl,gp,ai,simprocAttr]
 refine af trivial (hK _ ?_)<;>clear hK K
 refine qa (qm (qm ?_))
 refine ab fun K hK=>aa ae ?_
 simp only [aj,fl,gp,ai,simprocAttr]
 refine af ?_ (hK _ ?_)<;>clear hK K
 ·first|exact trivial|omega|(simp only [ah] at *; omega)|(simp [ah] at *; omega)|simp_all
 refine qa (ql ?_)
 refine aA (ι:=Nat) (fun x=>⟨39,[(1,.ptr 0 0),(3,.sl 1 0 (eE n (bY n (op m n) e) x).length),(4,.p (.int .u64 (bo n (dJ (bY n (op m n) e) x)))),(9,.p (.int .i64 n)),(10,.p (.int .i64 x))],[.own [.p (.int .i64 n),.p (.list (il m))],.own (bF (ll (eE n (bY n (op m n) e) x)))]⟩) (fun x=>x≤n) (fun x=>n - x) 0 (Nat.zero_le _) [0,1] (by simp only [leq,bf,aj,fl,gp,ai,simprocAttr,aY,bL,cX]<;>first|trivial|(simp [eE,ll,bF,hz]; done)|(simp [eE,ll,bF]; done)) fun x hx=>?_
 have hlen:=fi n (bY n (op m n) e) x
 have hll:=aw (eE n (bY n (op m n) e) x)
 refine qm ?_
 refine ab fun K hK=>aa ae ?_
 simp only [aj,fl,gp,ai,simprocAttr]
 refine af trivial (hK _ ?_)<;>clear hK K
 refine qa (qm ?_)
 refine ao rfl (fun hC1=>?_) (fun hC1=>?_)
 ·(try simp only [aG] at hC1)
  have hlt:x < n:=by omega
  have hs:=mV n (bY n (op m n) e) x
  have hhb:(bo n (dJ (bY n (op m n) e) x)).testBit x=dJ (bY n (op m n) e) x x:=by rw [dK]; simp [hlt]
  refine qh (qa (qm (ql (qm ?_))))
  refine ab fun K hK=>aa ae ?_
  simp only [aj,fl,gp,ai,simprocAttr]
  refine af trivial (hK _ ?_)<;>clear hK K
  refine qa (qm (qm ?_))
  refine ab fun K hK=>aa ae ?_
  simp only [aj,fl,gp,ai,simprocAttr]
  refine an trivial (ak (B9 (bo n (dJ (bY n (op m n) e) x)) x (eR hb _) (by omega)) rfl rfl rfl (by simp only [au,Nat.reduceLT]) (by repeat (first|exact trivial|constructor)) (aa ae ?_))
  simp only [aj,fl,gp,ai,simprocAttr,hhb]
  refine af trivial (hK _ ?_)<;>clear hK K
  refine qa ?_
  refine ao rfl (fun hC2=>?_) (fun hC2=>?_)
  ·(try simp only [aG] at hC2)
   have hld:lead (bY n (op m n) e) x=false:=by rw [hlead x hlt,hC2]; rfl
   rw [if_neg (by rw [hld]; simp),List.append_nil] at hs
   have hh:bo n (dJ (bY n (op m n) e) (x + 1))=bo n (dJ (bY n (op m n) e) x):=dh fun y hy=>by
    unfold dJ at hC2 ⊢
    rw [decide_eq_true_eq] at hC2
    refine decide_eq_decide.2 ⟨?_,fun ⟨z,z1,z2⟩=>⟨z,by omega,z2⟩⟩
    rintro ⟨z,z1,z2⟩
    by_cases hzx:z=x
    ·subst hzx
     obtain ⟨w,w1,w2⟩:=hC2
     exact ⟨w,w1,E.trans w z y (by omega) hlt hy w2 z2⟩
    exact ⟨z,by omega,z2⟩
   refine qj (qc (qf (qa ?_)))
   refine ab fun K hK=>aa ae ?_
   simp only [aj,fl,gp,ai,simprocAttr]
   refine af ?_ (hK _ ?_)<;>clear hK K
   ·first|exact trivial|omega|(simp only [ah] at *; omega)|(simp [ah] at *; omega)|simp_all
   refine qa ?_
   refine ⟨x + 1,[0,1],by omega,by omega,?_⟩
   rw [hs,hh]
   simp only [leq,bf,aj,fl,gp,ai,simprocAttr,aY,bL,cX]<;>first|trivial|omega
  (try simp only [aG] at hC2)
  have hld:lead (bY n (op m n) e) x=true:=by rw [hlead x hlt,hC2]; rfl
  rw [if_pos hld] at hs
  refine qh (qa (qm ?_))
  refine ab fun K hK=>aa ae ?_
  simp only [aj,fl,gp,ai,simprocAttr]
  refine af trivial (hK _ ?_)<;>clear hK K
  refine qa (qm (qm ?_))
  refine ab fun K hK=>aa ae ?_
  simp only [aj,fl,gp,ai,simprocAttr]
  refine af ?_ (hK _ ?_)<;>clear hK K
  ·first|exact trivial|omega|(simp only [ah] at *; omega)|(simp [ah] at *; omega)|simp_all
  refine qa (ql ?_)
  refine aA (ι:=Nat) (fun a=>⟨39,[(1,.ptr 0 0),(3,.sl 1 0 (eE n (bY n (op m n) e) x).length),(4,.p (.int .u64 (bo n (dJ (bY n (op m n) e) x)))),(5,.p (.int .i64 x)),(6,.p (.int .u64 (bo n (sp n (op m n) e x a)))),(9,.p (.int .i64 n)),(10,.p (.int .i64 x)),(17,.p (.int .i64 n)),(18,.p (.int .i64 a))],[.own [.p (.int .i64 n),.p (.list (il m))],.own (bF (ll (eE n (bY n (op m n) e) x)))]⟩) (fun a=>a≤n) (fun a=>n - a) 0 (Nat.zero_le _) [0,1] (by simp only [leq,bf,aj,fl,gp,ai,simprocAttr,aY,bL,cX]<;>first|trivial|exact (congrArg (fun t:Nat=>(t:Int)) (hsp0 x)).symm) fun a ha=>?_
  refine qm ?_
  refine ab fun K hK=>aa ae ?_
  simp only [aj,fl,gp,ai,simprocAttr]
  refine af trivial (hK _ ?_)<;>clear hK K
  refine qa (qm ?_)
  refine ao rfl (fun hC3=>?_) (fun hC3=>?_)
  ·(try simp only [aG] at hC3)
   have hal:a < n:=by omega
   have hc:=G.ed hlt hal
   have hp:=hU (b:=gB n (op m n) e x a) (by omega)
   have hsb:=eR hb (sp n (op m n) e x a)
   refine qh (qa (qm (ql (qm ?_))))
   refine ab fun K hK=>aa ae ?_
   simp only [aj,fl,gp,ai,simprocAttr]
   refine af trivial (hK _ ?_)<;>clear hK K
   refine qa ?_
   refine ab fun K hK=>aa ae ?_
   simp only [aj,fl,gp,ai,simprocAttr]
   refine an trivial (ak (vM h hlt hal) rfl rfl rfl (by simp only [au,Nat.reduceLT]) (by repeat (first|exact trivial|constructor)) (aa ae ?_))
   simp only [aj,fl,gp,ai,simprocAttr,iN (show gB n (op m n) e x a < 64 by omega),nP hsb hp,GA hc]
   refine af ?_ (hK _ ?_)<;>clear hK K
   ·first|exact trivial|omega|(simp only [ah] at *; omega)|(simp [ah] at *; omega)|simp_all
   refine qd (qa ?_)
   refine ab fun K hK=>aa ae ?_
   simp only [aj,fl,gp,ai,simprocAttr]
   refine af ?_ (hK _ ?_)<;>clear hK K
   ·first|exact trivial|omega|(simp only [ah] at *; omega)|(simp [ah] at *; omega)|simp_all
   refine qa ?_
   refine ⟨a + 1,[0,1],by omega,by omega,?_⟩
   rw [Es]
   simp only [leq,bf,aj,fl,gp,ai,simprocAttr,aY,bL,cX]<;>first|trivial|omega
  (try simp only [aG] at hC3)
  have han:a=n:=by omega
  have hfull:bo n (sp n (op m n) e x a)=bo n (bY n (op m n) e x):=by rw [han]; rfl
  rw [hfull]
  have hb1:=eR hb (dJ (bY n (op m n) e) x)
  have hb2:=eR hb (bY n (op m n) e x)
  have hh:bo n (dJ (bY n (op m n) e) (x + 1))=bo n (fun y=>dJ (bY n (op m n) e) x y || bY n (op m n) e x y):=dh fun y hy=>by
   unfold dJ
   rw [Bool.eq_iff_iff,Bool.or_eq_true,decide_eq_true_eq,decide_eq_true_eq]
   constructor
   ·rintro ⟨z,z1,z2⟩
    by_cases hzx:z=x
    ·subst hzx; exact .inr z2
    exact .inl ⟨z,by omega,z2⟩
   rintro (⟨z,z1,z2⟩ | h')
   ·exact ⟨z,by omega,z2⟩
   exact ⟨x,by omega,h'⟩
  refine qj (qc (qc (qf (qa (qm ?_)))))
  refine ab fun K hK=>aa ae ?_
  simp only [aj,fl,gp,ai,simprocAttr,nP hb1 hb2,EM]
  refine af ?_ (hK _ ?_)<;>clear hK K
  ·first|exact trivial|omega|(simp only [ah] at *; omega)|(simp [ah] at *; omega)|simp_all
  refine qa ?_
  refine ab fun K hK=>aa ae ?_
  simp only [aj,fl,gp,ai,simprocAttr,aY,kU,bL]
  refine an trivial (ak (mD (bo n (bY n (op m n) e x)) hb2) rfl rfl rfl (by simp only [au,Nat.reduceLT]) (by repeat (first|exact trivial|constructor)) (aa ae ?_))
  simp only [aj,fl,gp,ai,simprocAttr,mY hb,aY,kU,bL]
  refine af ?_ (hK _ ?_)<;>clear hK K
  ·first|exact trivial|omega|(simp only [ah] at *; omega)|(simp [ah] at *; omega)|simp_all
  refine qd (qa ?_)
  refine ab fun K hK=>aa ae ?_
  simp only [aj,fl,gp,ai,simprocAttr]
  refine af ?_ (hK _ ?_)<;>clear hK K
  ·first|exact trivial|omega|(simp only [ah] at *; omega)|(simp [ah] at *; omega)|simp_all
  refine qa ?_
  refine ⟨x + 1,[0,2],by omega,by omega,?_⟩
  rw [hs,hh]
  simp only [leq,bf,aj,fl,gp,ai,simprocAttr,aY,bL,cX]<;>first|trivial|omega|(simp [ll]; done)
 (try simp only [aG] at hC1)
 have hxn:x=n:=by omega
 subst hxn
 rw [← aw (eE x (bY x (op m x) e) x)]
 refine lr 3 1 (iz _) rfl rfl ?_
 refine qj (qc (qc (qf (qa (qm ?_)))))
 refine ab fun K hK=>aa ae ?_
 simp only [aj,fl,gp,ai,simprocAttr]
 refine af trivial (hK _ ?_)<;>clear hK K
 refine qa (qk ?_)
 simp only [Tryd.results40,bG,aj,fl,gp,ai,simprocAttr]
 all_goals (rfl)
theorem xR (n:Nat) (r:Nat→Nat→Bool):(bA n r).length=(mem n (lead r)).length:=by
 unfold bA eE mem
 rw [List.length_map]
def Fe (l:List (List Int)) (x:Int):Int:=match bQ (fun i=>decide (x∈l.getD i [])) l.length with | some i=>(i:Int) | none=>-1
def kp (n:Nat) (g:Nat→Int):List Int:=(List.range n).map g
theorem er (n:Nat) (g:Nat→Int):(kp n g).length=n:=by simp [kp]
theorem iq {n:Nat} {g:Nat→Int} {a:Nat} (ha:a < n):(kp n g).getD a 0=g a:=by
 simp [kp,List.getD,List.getElem?_map,List.getElem?_range ha]
theorem gV {n:Nat} {g g' : Nat→Int} (h:∀ a,a < n→g a=g' a):kp n g=kp n g':=List.map_congr_left fun a ha=>h a (List.mem_range.1 ha)
theorem r6 (n:Nat) (g:Nat→Int) (c:Nat) (x:Int):(kp n g).set c x=kp n fun a=>if a=c then x else g a:=by
 refine List.ext_getElem (by simp [kp]) fun i h1 h2=>?_
 rw [List.getElem_set]
 by_cases e:c=i
 ·subst e; simp [kp]
 rw [if_neg e]
 simp [kp,Ne.symm e]
theorem xn (n:Nat):List.replicate n (AV.p (.int .i64 0))=ol (kp n fun _=>0):=by
 refine List.ext_getElem (by simp [ol,il,kp]) fun i h1 h2=>?_
 simp [ol,il,kp]
def k6 (n:Nat) (r:Nat→Nat→Bool):List Int:=kp n fun a=>Fe (bA n r) a
theorem jY {n:Nat} {r:Nat→Nat→Bool} (h:p9 n r) {i j a:Nat} (hi:i < (bA n r).length) (hj:j < (bA n r).length) (ha:a < n) (h1:((a:Nat):Int)∈(bA n r).getD i []) (h2:((a:Nat):Int)∈(bA n r).getD j []):i=j:=by
 obtain ⟨x,x1,x2,x3,x4⟩:=eY hi
 obtain ⟨y,y1,y2,y3,y4⟩:=eY hj
 rw [x3,bm ha] at h1
 rw [y3,bm ha] at h2
 have hxy:x=y:=h.yd x1 y1 x2 y2 (h.trans x a y x1 ha y1 h1 (h.symm y a y1 ha h2))
 subst hxy
 have hn:(mem n (lead r)).Nodup:=List.nodup_range.filter _
 have hl:=xR n r
 exact z7 hn (by omega) (by omega) (x4.trans y4.symm)
theorem mj {n:Nat} {r:Nat→Nat→Bool} (h:p9 n r) {a:Nat} (ha:a < n):∃ i,i < (bA n r).length∧((a:Nat):Int)∈(bA n r).getD i []:=by
 obtain ⟨x,x1,x2,x3⟩:=h.least ha
 obtain ⟨i,hi,e⟩:=List.getElem_of_mem (aR.2 ⟨x1,x2⟩:x∈mem n (lead r))
 have hl:=xR n r
 refine ⟨i,by omega,?_⟩
 obtain ⟨y,y1,y2,y3,y4⟩:=eY (n:=n) (r:=r) (i:=i) (by omega)
 rw [y3,bm ha]
 have:y=x:=by rw [← y4]; simp [List.getD,List.getElem?_eq_getElem hi,e]
 rw [this]; exact x3
theorem jG {n:Nat} {r:Nat→Nat→Bool} (h:p9 n r) {i a:Nat} (hi:i < (bA n r).length) (ha:a < n) (h1:((a:Nat):Int)∈(bA n r).getD i []):Fe (bA n r) a=(i:Int):=by
 have e:bQ (fun k=>decide (((a:Nat):Int)∈(bA n r).getD k [])) (bA n r).length=some i:=du hi (decide_eq_true h1) fun j hj=>decide_eq_false fun h2=>by
  have:=jY h hi (by omega) ha h1 h2
  omega
 simp only [Fe,e]
theorem rN {n:Nat} (m:List Int) (hn:n≤60) {r:Nat→Nat→Bool} (h:p9 n r):bR Tryd.prog 45 [gp n m,.list (ll (bA n r))] (.list (il (k6 n r))):=by
 have hcl:(bA n r).length≤n:=fi _ _ _
 refine aI ae Tryd.func45 rfl (by kernel_rfl) (by rw [Tryd.ntmps45]; exact Nat.le_add_left 2 _) ?_; rw [Tryd.ntmps45]
 refine qm ?_
 refine ab fun K hK=>aa ae ?_
 simp only [aj,fl,gp,ai,simprocAttr]
 refine af ?_ (hK _ ?_)<;>clear hK K
 ·first|exact trivial|omega|(simp only [ah] at *; omega)|(simp [ah] at *; omega)|simp_all
 refine qa (qm ?_)
 refine ab fun K hK=>aa ae ?_
 simp only [aj,fl,gp,ai,simprocAttr,eM.eq_def,xn]
 refine af ?_ (hK _ ?_)<;>clear hK K
 ·omega
 refine qa (qm (qm ?_))
 refine ab fun K hK=>aa ae ?_
 simp only [aj,fl,gp,ai,simprocAttr]
 refine af trivial (hK _ ?_)<;>clear hK K
 refine qa (ql ?_)
 refine aA (ι:=Nat × (Nat→Int)) (fun p=>⟨33,[(5,.sl 1 0 n),(13,.p (.list (ll (bA n r)))),(14,.p (.int .i64 (bA n r).length)),(15,.p (.int .i64 p.1))],[.own [.p (.int .i64 n),.p (.list (il m))],.own (ol (kp n p.2))]⟩) (fun p=>p.1≤(bA n r).length∧∀ a,a < n→∀ k,k < p.1→((a:Nat):Int)∈(bA n r).getD k []→p.2 a=(k:Int)) (fun p=>(bA n r).length - p.1) (0,fun _=>0) ⟨Nat.zero_le _,fun a _ k hk=>by simp only at hk; omega⟩ [0,1] (by simp only [leq,bf,aj,fl,gp,ai,simprocAttr,aw]<;>first|trivial|(simp; done)) fun p hp=>?_
 obtain ⟨i,g⟩:=p
 obtain ⟨hi1,hi2⟩:=hp
 simp only at hi1 hi2
 refine qm ?_
 refine ab fun K hK=>aa ae ?_
 simp only [aj,fl,gp,ai,simprocAttr]
 refine af trivial (hK _ ?_)<;>clear hK K
 refine qa (qm ?_)
 refine ao rfl (fun hC1=>?_) (fun hC1=>?_)
 ·(try simp only [aG] at hC1)
  have hlt:i < (bA n r).length:=by omega
  obtain ⟨x,x1,x2,x3,x4⟩:=eY hlt
  have l1:=b9 n (r x)
  refine qh (qa (qm (ql (qm ?_))))
  refine ab fun K hK=>aa ae ?_
  simp only [aj,fl,gp,ai,simprocAttr,aw,cQ hlt,x3]
  refine af ?_ (hK _ ?_)<;>clear hK K
  ·first|exact trivial|omega|(simp only [ah] at *; omega)|(simp [ah] at *; omega)|simp_all
  refine qa (qm ?_)
  refine ab fun K hK=>aa ae ?_
  simp only [aj,fl,gp,ai,simprocAttr,aH]
  refine af trivial (hK _ ?_)<;>clear hK K
  refine qa (ql ?_)
  refine aA (ι:=Nat × (Nat→Int)) (fun p=>⟨33,[(5,.sl 1 0 n),(6,.p (.int .i64 i)),(13,.p (.list (ll (bA n r)))),(14,.p (.int .i64 (bA n r).length)),(15,.p (.int .i64 i)),(20,.p (.list (il (aS n (r x))))),(21,.p (.int .i64 (aS n (r x)).length)),(22,.p (.int .i64 p.1))],[.own [.p (.int .i64 n),.p (.list (il m))],.own (ol (kp n p.2))]⟩) (fun p=>p.1≤(aS n (r x)).length∧(∀ a,a < n→∀ k,k < i→((a:Nat):Int)∈(bA n r).getD k []→p.2 a=(k:Int))∧∀ a,a < n→∀ k,k < p.1→(aS n (r x)).getD k 0=(a:Int)→p.2 a=(i:Int)) (fun p=>(aS n (r x)).length - p.1) (0,g) ⟨Nat.zero_le _,hi2,fun a _ k hk=>by simp only at hk; omega⟩ [0,1] (by simp only [leq,bf,aj,fl,gp,ai,simprocAttr]<;>first|trivial|(simp; done)) fun p hp=>?_
  obtain ⟨j,g'⟩:=p
  obtain ⟨hj1,hj2,hj3⟩:=hp
  simp only at hj1 hj2 hj3
  refine qm ?_
  refine ab fun K hK=>aa ae ?_
  simp only [aj,fl,gp,ai,simprocAttr]
  refine af trivial (hK _ ?_)<;>clear hK K
  refine qa (qm ?_)
  refine ao rfl (fun hC2=>?_) (fun hC2=>?_)
  ·(try simp only [aG] at hC2)
   have hjl:j < (aS n (r x)).length:=by omega
   obtain ⟨c,c1,c2,c3⟩:=eQ hjl
   refine qh (qa (qm (ql (qm ?_))))
   refine ab fun K hK=>aa ae ?_
   simp only [aj,fl,gp,ai,simprocAttr,aL hjl,c3]
   refine af ?_ (hK _ ?_)<;>clear hK K
   ·first|exact trivial|omega|(simp only [ah] at *; omega)|(simp [ah] at *; omega)|simp_all
   refine qa ?_
   refine ab fun K hK=>aa ae ?_
   simp only [aj,fl,gp,ai,simprocAttr]
   refine af ?_ (hK _ ?_)<;>clear hK K
   ·rw [er]; omega
   refine qd (qa ?_)
   rw [eB,r6]
   refine ab fun K hK=>aa ae ?_
   simp only [aj,fl,gp,ai,simprocAttr]
   refine af ?_ (hK _ ?_)<;>clear hK K
   ·first|exact trivial|omega|(simp only [ah] at *; omega)|(simp [ah] at *; omega)|simp_all
   refine qa ?_
   refine ⟨(j + 1,fun a=>if a=c then (i:Int) else g' a),[0,1],⟨by simp only; omega,fun a ha k hk hm=>?_,fun a ha k hk hm=>?_⟩,by simp only; omega,?_⟩
   ·have hne:a ≠ c:=by
     intro he
     subst he
     have h3:((a:Nat):Int)∈(bA n r).getD i []:=by rw [x3,bm ha]; exact c2
     have:=jY h hlt (by omega) ha h3 hm
     omega
    simp only [if_neg hne]
    exact hj2 a ha k hk hm
   ·simp only at hk ⊢
    by_cases hac:a=c
    ·rw [if_pos hac]
    rw [if_neg hac]
    have hkj:k ≠ j:=by intro he; rw [he,c3] at hm; omega
    exact hj3 a ha k (by omega) hm
   simp only [leq,bf,aj,fl,gp,ai,simprocAttr]<;>first|trivial|omega|(simp [kp]; done)
  (try simp only [aG] at hC2)
  have hjn:j=(aS n (r x)).length:=by omega
  refine qj (qc (qc (qf (qd (qa ?_)))))
  refine ab fun K hK=>aa ae ?_
  simp only [aj,fl,gp,ai,simprocAttr]
  refine af ?_ (hK _ ?_)<;>clear hK K
  ·first|exact trivial|omega|(simp only [ah] at *; omega)|(simp [ah] at *; omega)|simp_all
  refine qa ?_
  refine ⟨(i + 1,g'),[0,1],⟨by simp only; omega,fun a ha k hk hm=>?_⟩,by simp only; omega,?_⟩
  ·by_cases hki:k=i
   ·subst hki
    rw [x3] at hm
    obtain ⟨q,q1,q2⟩:=r8 (n:=n) (p:=r x) ha ((bm ha).1 hm)
    exact hj3 a ha q (by omega) q2
   exact hj2 a ha k (by simp only at hk; omega) hm
  simp only [leq,bf,aj,fl,gp,ai,simprocAttr]<;>first|trivial|omega|(simp [kp]; done)
 (try simp only [aG] at hC1)
 have hin:i=(bA n r).length:=by omega
 have hfin:kp n g=k6 n r:=gV fun a ha=>by
  obtain ⟨k,k1,k2⟩:=mj h ha
  rw [hi2 a ha k (by omega) k2,jG h k1 ha k2]
 rw [hfin]
 have hwl:(k6 n r).length=n:=er _ _
 refine iA 5 1 (by show AV.sl 1 0 n=AV.sl 1 0 _; rw [hwl]) rfl ?_
 refine qj (qc (qc (qf (qa (qm ?_)))))
 refine ab fun K hK=>aa ae ?_
 simp only [aj,fl,gp,ai,simprocAttr]
 refine af trivial (hK _ ?_)<;>clear hK K
 refine qa (qk ?_)
 simp only [Tryd.results45,bG,aj,fl,gp,ai,simprocAttr]
 all_goals (rfl)
def jc (c:Nat) (f:Nat→Nat→Int):List (List Int):=(List.range c).map fun j=>kp c (f j)
theorem dD (c:Nat) (f:Nat→Nat→Int):(jc c f).length=c:=by simp [jc]
theorem wS {c j:Nat} {f:Nat→Nat→Int} (hj:j < c):(jc c f).getD j []=kp c (f j):=by
 simp [jc,List.getD,List.getElem?_map,List.getElem?_range hj]
theorem xZ {c:Nat} {f:Nat→Nat→Int} : ∀ v∈jc c f,v.length=c:=fun v hv=>by
 simp only [jc,List.mem_map] at hv
 obtain ⟨j,_,rfl⟩:=hv
 exact er _ _
theorem jN {c:Nat} {f f' : Nat→Nat→Int} (h:∀ j,j < c→∀ k,k < c→f j k=f' j k):jc c f=jc c f':=
 List.map_congr_left fun j hj=>gV fun k hk=>h j (List.mem_range.1 hj) k hk
theorem DX (c:Nat) (f:Nat→Nat→Int) (j k:Nat) (x:Int):(jc c f).set j ((kp c (f j)).set k x)=jc c fun j' k'=>if j' = j∧k' = k then x else f j' k':=by
 refine List.ext_getElem (by simp [jc]) fun i h1 h2=>?_
 have hi:i < c:=by simpa [jc] using h2
 rw [List.getElem_set]
 by_cases e:j=i
 ·subst e
  simp only [if_true,jc,List.getElem_map,List.getElem_range,r6]
  exact gV fun a ha=>by by_cases h:a=k<;>simp [h]
 rw [if_neg e]
 simp only [jc,List.getElem_map,List.getElem_range]
 exact gV fun a ha=>by simp [Ne.symm e]
theorem Bz (c:Nat):List.replicate c (List.replicate c (0:Int))=jc c fun _ _=>0:=by
 refine List.ext_getElem (by simp [jc]) fun i h1 h2=>?_
 simp only [jc,List.getElem_replicate,List.getElem_map]
 refine List.ext_getElem (by simp [kp]) fun i h1 h2=>?_
 simp [kp]
def tcp (A:List Int) (W:Int→Int) (t j:Nat):Int:=((A.take t).countP (fun x=>decide (W x=(j:Int))):Nat)
theorem Bx (A:List Int) (W:Int→Int) (j:Nat):tcp A W 0 j=0:=by simp [tcp]
theorem B0 {A:List Int} (W:Int→Int) {t:Nat} (h:t < A.length) (j:Nat):tcp A W (t + 1) j=tcp A W t j + if W (A.getD t 0)=(j:Int) then 1 else 0:=by
 unfold tcp
 rw [List.take_succ_eq_append_getElem h,List.countP_append]
 have:A[t]=A.getD t 0:=by simp [List.getD,List.getElem?_eq_getElem h]
 rw [this]
 rw [List.countP_singleton]
 by_cases e:W (A.getD t 0)=(j:Int)
 ·rw [if_pos (by simpa using e),if_pos e]; omega
 rw [if_neg (by simpa using e),if_neg e]; omega
theorem yc (A:List Int) (W:Int→Int) (t j:Nat):0≤tcp A W t j∧tcp A W t j≤t:=by
 unfold tcp
 have:=List.countP_le_length (p:=fun x=>decide (W x=(j:Int))) (l:=A.take t)
 rw [List.length_take] at this
 omega
def cw (n:Nat) (f:Nat→Nat→Nat) (e:Nat) (k:Nat) (x:Int):Int:=Fe (bA n (bY n f e)) ((f (iv n f e x.toNat) ((mem n (lead (bY n f e))).getD k 0):Nat):Int)
def ct (n:Nat) (f:Nat→Nat→Nat) (e i j k:Nat):Int:=tcp ((bA n (bY n f e)).getD i []) (cw n f e k) ((bA n (bY n f e)).getD i []).length j
def qI (n:Nat) (f:Nat→Nat→Nat) (e i:Nat):PV:=.list (ll (jc (bA n (bY n f e)).length (ct n f e i)))
def zs (c j:Nat):List (List Int):=List.replicate j (List.replicate c 0)
theorem kH (c j:Nat):(zs c j).length=j:=by simp [zs]
theorem Fg (c j:Nat) (x y:aM):aq (tl (zs c j)++[x]++[y]) (j + 1)=y:=by
 have:j + 1=(tl (zs c j)++[x]).length:=by simp [aD,kH]
 rw [this]; exact bc _ _
theorem Kg (c j:Nat) (x y z:aM):aq (tl (zs c j)++[x]++[y]++[z]) (j + 2)=z:=by
 have:j + 2=(tl (zs c j)++[x]++[y]).length:=by simp [aD,kH]
 rw [this]; exact bc _ _
theorem Ds (c j:Nat):zs c (j + 1)=zs c j++[List.replicate c 0]:=by
 simp [zs,List.replicate_succ']
theorem J9 {c j i:Nat} (h:i < j + 1) (y z:aM):aq (tl (zs c j)++[.own (ol (List.replicate c 0))]++[y]++[z]) i = .own (ol ((zs c (j + 1)).getD i [])):=by
 have hl:=kH c (j + 1)
 rw [lU,← Ds,aF (by rw [List.length_append,aD,hl]; simp; omega),aF (by rw [aD,hl]; exact h),aV (by rw [hl]; exact h)]
def f3 (g:Nat→Nat→Int) (k j k' : Nat):Int:=if k' < k then g j k' else 0
def f4 (g:Nat→Nat→Int) (A:List Int) (W:Int→Int) (k t j k' : Nat):Int:=if k' < k then g j k' else if k' = k then tcp A W t j else 0
set_option maxHeartbeats 4000000 in
set_option maxRecDepth 20000 in
theorem Ck {n e:Nat} {m:List Int} (h:GT n m n e):bR Tryd.prog 42 [gp n m,.list (ll (bA n (bY n (op m n) e)))] (.list ((List.range (bA n (bY n (op m n) e)).length).map (qI n (op m n) e))):=by
 have G:=h.2.2
 have T:=h.2.1
 have hb:=h.2.1.big
 have E:=G.fO
 have hcl:(bA n (bY n (op m n) e)).length≤n:=fi _ _ _
 generalize hL:bA n (bY n (op m n) e)=L at *
 generalize hc:L.length=c at *
 refine aI ae Tryd.func42 rfl (by kernel_rfl) (by rw [Tryd.ntmps42]; exact Nat.le_add_left 2 _) ?_; rw [Tryd.ntmps42]
 refine qm ?_
 refine ab fun K hK=>aa ae ?_
 simp only [aj,fl,gp,ai,simprocAttr]
 refine af ?_ (hK _ ?_)<;>clear hK K
 ·first|exact trivial|omega|(simp only [ah] at *; omega)|(simp [ah] at *; omega)|simp_all
 refine qa (qm ?_)
 refine ab fun K hK=>aa ae ?_
 simp only [aj,fl,gp,ai,simprocAttr]
 refine an trivial (ak ((hL ▸ rN m hb E)) rfl rfl rfl (by simp only [au,Nat.reduceLT]) (by repeat (first|exact trivial|constructor)) (aa ae ?_))
 simp only [aj,fl,gp,ai,simprocAttr]
 refine af ?_ (hK _ ?_)<;>clear hK K
 ·first|exact trivial|omega|(simp only [ah] at *; omega)|(simp [ah] at *; omega)|simp_all
 refine qa (qm ?_)
 refine ab fun K hK=>aa ae ?_
 simp only [aj,fl,gp,ai,simprocAttr]
 refine af trivial (hK _ ?_)<;>clear hK K
 refine qa (qm (qm ?_))
 refine bN 6 rfl ?_
 refine ab fun K hK=>aa ae ?_
 simp only [aj,fl,gp,ai,simprocAttr,aw,hc]
 refine af trivial (hK _ ?_)<;>clear hK K
 refine qa (ql ?_)
 refine aA (ι:=Nat) (fun i=>⟨76,[(1,.p (.list (ll L))),(2,.ptr 0 0),(5,.p (.list (il (k6 n (bY n (op m n) e))))),(6,.sl 1 0 i),(18,.p (.list (ll L))),(19,.p (.int .i64 c)),(20,.p (.int .i64 i))],[.own [.p (.int .i64 n),.p (.list (il m))],.own (bF ((List.range i).map (qI n (op m n) e)))]⟩) (fun i=>i≤c) (fun i=>c - i) 0 (Nat.zero_le _) [0,1] (by simp only [leq,bf,aj,fl,gp,ai,simprocAttr]<;>simp [bF]) fun i hi=>?_
 refine qm ?_
 refine ab fun K hK=>aa ae ?_
 simp only [aj,fl,gp,ai,simprocAttr]
 refine af trivial (hK _ ?_)<;>clear hK K
 refine qa (qm ?_)
 refine ao rfl (fun hC1=>?_) (fun hC1=>?_)
 ·(try simp only [aG] at hC1)
  have hlt:i < L.length:=by omega
  refine qh (qa (qm (ql (qm ?_))))
  refine ab fun K hK=>aa ae ?_
  simp only [aj,fl,gp,ai,simprocAttr,aw,cQ hlt]
  refine af ?_ (hK _ ?_)<;>clear hK K
  ·omega
  refine qa (qm ?_)
  refine ab fun K hK=>aa ae ?_
  simp only [aj,fl,gp,ai,simprocAttr]
  refine af trivial (hK _ ?_)<;>clear hK K
  refine qa (qm (qm ?_))
  refine bN 9 rfl ?_
  refine ab fun K hK=>aa ae ?_
  simp only [aj,fl,gp,ai,simprocAttr,aw,hc]
  refine af trivial (hK _ ?_)<;>clear hK K
  refine qa (ql ?_)
  refine aA (ι:=Nat) (fun j=>⟨76,[(1,.p (.list (ll L))),(2,.ptr 0 0),(5,.p (.list (il (k6 n (bY n (op m n) e))))),(6,.sl 1 0 i),(8,.p (.list (il (L.getD i [])))),(9,.sl 2 0 j),(18,.p (.list (ll L))),(19,.p (.int .i64 c)),(20,.p (.int .i64 i)),(25,.p (.int .i64 c)),(26,.p (.int .i64 j))],.own [.p (.int .i64 n),.p (.list (il m))] :: .own (bF ((List.range i).map (qI n (op m n) e))) :: .own (rws c j) :: tl (zs c j)⟩) (fun j=>j≤c) (fun j=>c - j) 0 (Nat.zero_le _) [0,1,2] (by simp only [leq,bf,aj,fl,gp,ai,simprocAttr]<;>simp [rws,s8,zs,tl,ky]) fun j hj=>?_
  refine qm ?_
  refine ab fun K hK=>aa ae ?_
  simp only [aj,fl,gp,ai,simprocAttr]
  refine af trivial (hK _ ?_)<;>clear hK K
  refine qa (qm ?_)
  refine ao rfl (fun hC2=>?_) (fun hC2=>?_)
  ·(try simp only [aG] at hC2)
   have hjl:j < c:=by omega
   refine qh (qa (qm (ql ?_)))
   refine ab fun K hK=>aa ae ?_
   simp only [aj,fl,gp,ai,simprocAttr,aw,hc,bc,uZ,aD,kH,List.length_append,cC,Fg,lC]
   refine an ?_ (eT (cu ae rfl rfl rfl rfl rfl rfl) rfl (by simp only [au,Nat.reduceLT]) (aa ae ?_))
   ·first|exact trivial|omega|(simp only [ah] at *; omega)|(simp [ah] at *; omega)|simp_all
   simp only [aj,fl,gp,ai,simprocAttr,aw,hc,bc,uZ,aD,kH,List.length_append,cC,Fg,lC]
   refine af ?_ (hK _ ?_)<;>clear hK K
   ·rw [eb]; exact ⟨BO _ _,by omega,by omega,by omega⟩
   refine qd (qa ?_)
   refine ab fun K hK=>aa ae ?_
   simp only [aj,fl,gp,ai,simprocAttr]
   refine af ?_ (hK _ ?_)<;>clear hK K
   ·first|exact trivial|omega|(simp only [ah] at *; omega)|(simp [ah] at *; omega)|simp_all
   refine qa ?_
   refine ⟨j + 1,0 :: 1 :: (j + 5) :: List.range' 3 (j + 1),by omega,by omega,?_⟩
   refine kb (N:=c) (G:=[.int .i64 n,.list (il m)]) (O:=(List.range i).map (qI n (op m n) e)) (kH c (j + 1)) rfl rfl ⟨by omega,by omega,.inr (by omega)⟩ rfl rfl (Kg c j _ _ _) (fun q hq=>J9 hq _ _) ?_
   simp [kn,St.get,lk,Go.Pv.bl,bw,bg,bt]
  (try simp only [aG] at hC2)
  have hjc:j=c:=by omega
  subst hjc
  refine qj (qc (qc (qf (qa (qm (qm ?_))))))
  refine ab fun K hK=>aa ae ?_
  simp only [aj,fl,gp,ai,simprocAttr,aw,hc]
  refine af trivial (hK _ ?_)<;>clear hK K
  refine qa (ql ?_)
  refine aA (ι:=Nat) (fun k=>⟨76,[(1,.p (.list (ll L))),(2,.ptr 0 0),(5,.p (.list (il (k6 n (bY n (op m n) e))))),(6,.sl 1 0 i),(8,.p (.list (il (L.getD i [])))),(9,.sl 2 0 j),(18,.p (.list (ll L))),(19,.p (.int .i64 j)),(20,.p (.int .i64 i)),(35,.p (.list (ll L))),(36,.p (.int .i64 j)),(37,.p (.int .i64 k))],.own [.p (.int .i64 n),.p (.list (il m))] :: .own (bF ((List.range i).map (qI n (op m n) e))) :: .own (rws j j) :: tl (jc j (f3 (ct n (op m n) e i) k))⟩) (fun k=>k≤j) (fun k=>j - k) 0 (Nat.zero_le _) (0 :: 1 :: 2 :: List.range' 3 j) (by
   refine kb (N:=j) (G:=[.int .i64 n,.list (il m)]) (O:=(List.range i).map (qI n (op m n) e)) (dD _ _) rfl rfl ⟨by omega,by omega,.inl rfl⟩ rfl rfl rfl (fun q hq=>?_) ?_
   ·show aq (tl (zs j j)) q=_
    rw [aV (by rw [kH]; exact hq)]
    congr 2
    rw [zs,Bz]
    rfl
   simp [kn,St.get,lk,Go.Pv.bl,bw,bg,bt]) fun k hk=>?_
  refine qm ?_
  refine ab fun K hK=>aa ae ?_
  simp only [aj,fl,gp,ai,simprocAttr]
  refine af trivial (hK _ ?_)<;>clear hK K
  refine qa (qm ?_)
  refine ao rfl (fun hC3=>?_) (fun hC3=>?_)
  ·(try simp only [aG] at hC3)
   have hkl:k < L.length:=by omega
   refine qh (qa (qm (ql (qm ?_))))
   refine ab fun K hK=>aa ae ?_
   simp only [aj,fl,gp,ai,simprocAttr,aw,cQ hkl]
   refine af ?_ (hK _ ?_)<;>clear hK K
   ·omega
   refine qa (qm ?_)
   refine ab fun K hK=>aa ae ?_
   simp only [aj,fl,gp,ai,simprocAttr]
   refine af trivial (hK _ ?_)<;>clear hK K
   refine qa (ql ?_)
   refine aA (ι:=Nat) (fun t=>⟨76,[(1,.p (.list (ll L))),(2,.ptr 0 0),(5,.p (.list (il (k6 n (bY n (op m n) e))))),(6,.sl 1 0 i),(8,.p (.list (il (L.getD i [])))),(9,.sl 2 0 j),(10,.p (.int .i64 k)),(11,.p (.list (il (L.getD k [])))),(18,.p (.list (ll L))),(19,.p (.int .i64 j)),(20,.p (.int .i64 i)),(35,.p (.list (ll L))),(36,.p (.int .i64 j)),(37,.p (.int .i64 k)),(42,.p (.list (il (L.getD i [])))),(43,.p (.int .i64 (L.getD i []).length)),(44,.p (.int .i64 t))],.own [.p (.int .i64 n),.p (.list (il m))] :: .own (bF ((List.range i).map (qI n (op m n) e))) :: .own (rws j j) :: tl (jc j (f4 (ct n (op m n) e i) (L.getD i []) (cw n (op m n) e k) k t))⟩) (fun t=>t≤(L.getD i []).length) (fun t=>(L.getD i []).length - t) 0 (Nat.zero_le _) (0 :: 1 :: 2 :: List.range' 3 j) (by
    refine kb (N:=j) (G:=[.int .i64 n,.list (il m)]) (O:=(List.range i).map (qI n (op m n) e)) (dD _ _) rfl rfl ⟨by omega,by omega,.inl rfl⟩ rfl rfl rfl (fun q hq=>?_) ?_
    ·show aq (tl (jc j _)) q=_
     rw [aV (by rw [dD]; exact hq)]
     congr 3
     refine jN fun a _ b _=>?_
     unfold f3 f4
     split
     ·rfl
     split
     ·rw [Bx]
     rfl
    simp [kn,St.get,lk,Go.Pv.bl,bw,bg,bt,aH]) fun t ht=>?_
   refine qm ?_
   refine ab fun K hK=>aa ae ?_
   simp only [aj,fl,gp,ai,simprocAttr]
   refine af trivial (hK _ ?_)<;>clear hK K
   refine qa (qm ?_)
   refine ao rfl (fun hC4=>?_) (fun hC4=>?_)
   ·(try simp only [aG] at hC4)
    have htl:t < (L.getD i []).length:=by omega
    obtain ⟨x,x1,x2,x3,x4⟩:=eY (n:=n) (r:=bY n (op m n) e) (i:=i) (by rw [hL]; exact hlt)
    obtain ⟨y,y1,y2,y3,y4⟩:=eY (n:=n) (r:=bY n (op m n) e) (i:=k) (by rw [hL]; exact hkl)
    rw [hL] at x3 y3
    obtain ⟨a,a1,a2,a3⟩:=eQ (n:=n) (p:=bY n (op m n) e x) (by rw [← x3]; exact htl)
    rw [← x3] at a3
    obtain ⟨hd1,hd2⟩:=(fR y1).1 y2
    rw [← y3] at hd1 hd2
    have hia:=G.az a1
    have hpr:=T.lt hia y1
    obtain ⟨q,q1,q2⟩:=mj E hpr
    have hwq:=jG E q1 hpr q2
    rw [hL] at q1 hwq
    have hcwa:cw n (op m n) e k ((L.getD i []).getD t 0)=(q:Int):=by
     rw [a3]
     unfold cw
     rw [Int.toNat_natCast,y4,hL,hwq]
    have hwl:(k6 n (bY n (op m n) e)).length=n:=er _ _
    have hwg:(k6 n (bY n (op m n) e)).getD (op m n (iv n (op m n) e a) y) 0=(q:Int):=by rw [k6,iq hpr,hL,hwq]
    refine qh (qa (qm (ql (qm ?_))))
    refine ab fun K hK=>aa ae ?_
    simp only [aj,fl,gp,ai,simprocAttr,aL htl,a3]
    refine af ?_ (hK _ ?_)<;>clear hK K
    ·first|exact trivial|omega|(simp only [ah] at *; omega)|(simp [ah] at *; omega)|simp_all
    refine qa (qm ?_)
    refine oM mixed fun K hK=>eP ae ?_
    simp only [Ho,aj,fl,gp,ai,simprocAttr,aL hd1,hd2]
    refine mA ?_ (kA (oa h a1) rfl rfl rfl rfl (by simp only [au,Nat.reduceLT]) (by repeat (first|exact trivial|constructor)) (eP ae ?_))
    ·first|exact trivial|omega|(simp only [ah] at *; omega)|(simp [ah] at *; omega)|simp_all
    simp only [Ho,aj,fl,gp,ai,simprocAttr,aL hd1,hd2]
    refine mA ?_ (kA (jt T hia y1) rfl rfl rfl rfl (by simp only [au,Nat.reduceLT]) (by repeat (first|exact trivial|constructor)) (eP ae ?_))
    ·first|exact trivial|omega|(simp only [ah] at *; omega)|(simp [ah] at *; omega)|simp_all
    simp only [Ho,aj,fl,gp,ai,simprocAttr,aL hd1,hd2]
    refine pW ?_ (hK _ _ (by first|kernel_rfl|rfl) ?_)<;>clear hK K
    ·first|exact trivial|omega|(simp only [ah] at *; omega)|(simp [ah] at *; omega)|simp_all
    refine qa ?_
    refine ab fun K hK=>aa ae ?_
    simp only [aj,fl,gp,ai,simprocAttr,aL (show op m n (iv n (op m n) e a) y < (k6 n (bY n (op m n) e)).length by omega),hwg,CK (show q < j by omega),aV (show q < (jc j (f4 (ct n (op m n) e i) (L.getD i []) (cw n (op m n) e k) k t)).length by rw [dD]; omega),wS (show q < j by omega),bP (show k < (kp j (f4 (ct n (op m n) e i) (L.getD i []) (cw n (op m n) e k) k t q)).length by rw [er]; omega),eB,iO,DX,iq (show k < j by omega)]
    refine af ?_ (hK _ ?_)<;>clear hK K
    ·have hf4:f4 (ct n (op m n) e i) (L.getD i []) (cw n (op m n) e k) k t q k=tcp (L.getD i []) (cw n (op m n) e k) t q:=by unfold f4; rw [if_neg (Nat.lt_irrefl _),if_pos rfl]
     have hr:=yc (L.getD i []) (cw n (op m n) e k) t q
     have hAl:(L.getD i []).length≤n:=by rw [x3]; exact b9 _ _
     rw [hf4,er,eb]
     simp only [ah]
     omega
    refine qd (qa ?_)
    refine ab fun K hK=>aa ae ?_
    simp only [aj,fl,gp,ai,simprocAttr]
    refine af ?_ (hK _ ?_)<;>clear hK K
    ·have hAl:(L.getD i []).length≤n:=by rw [x3]; exact b9 _ _
     simp only [ah]; omega
    refine qa ?_
    refine ⟨t + 1,0 :: 1 :: 2 :: List.range' 3 j,by omega,by omega,?_⟩
    refine kb (N:=j) (G:=[.int .i64 n,.list (il m)]) (O:=(List.range i).map (qI n (op m n) e)) (dD _ _) rfl rfl ⟨by omega,by omega,.inl rfl⟩ rfl rfl rfl (fun q' hq'=>?_) ?_
    ·show aq (tl (jc j _)) q' = _
     rw [aV (by rw [dD]; exact hq')]
     congr 3
     refine jN fun a' _ b' _=>?_
     unfold f4
     by_cases h1:b' < k
     ·rw [if_pos h1,if_pos h1,if_neg (by omega)]
     rw [if_neg h1,if_neg h1]
     by_cases h2:b' = k
     ·subst h2
      rw [if_pos rfl,if_pos rfl,if_neg (Nat.lt_irrefl _),if_pos rfl,B0 _ htl,hcwa]
      by_cases h3:a' = q
      ·subst h3
       rw [if_pos ⟨rfl,rfl⟩,if_pos rfl]
      rw [if_neg (by omega),if_neg (by omega),Int.add_zero]
     rw [if_neg h2,if_neg h2,if_neg (by omega)]
    simp [kn,St.get,lk,Go.Pv.bl,bw,bg,bt]
   (try simp only [aG] at hC4)
   have htl:t=(L.getD i []).length:=by omega
   subst htl
   refine qj (qc (qc (qf (qd (qa ?_)))))
   refine ab fun K hK=>aa ae ?_
   simp only [aj,fl,gp,ai,simprocAttr]
   refine af ?_ (hK _ ?_)<;>clear hK K
   ·first|exact trivial|omega|(simp only [ah] at *; omega)|(simp [ah] at *; omega)|simp_all
   refine qa ?_
   refine ⟨k + 1,0 :: 1 :: 2 :: List.range' 3 j,by omega,by omega,?_⟩
   refine kb (N:=j) (G:=[.int .i64 n,.list (il m)]) (O:=(List.range i).map (qI n (op m n) e)) (dD _ _) rfl rfl ⟨by omega,by omega,.inl rfl⟩ rfl rfl rfl (fun q' hq'=>?_) ?_
   ·show aq (tl (jc j _)) q' = _
    rw [aV (by rw [dD]; exact hq')]
    congr 3
    refine jN fun a' _ b' _=>?_
    unfold f3 f4
    by_cases h1:b' < k
    ·rw [if_pos h1,if_pos (by omega)]
    rw [if_neg h1]
    by_cases h2:b' = k
    ·subst h2
     rw [if_pos rfl,if_pos (by omega),ct,hL]
    rw [if_neg h2,if_neg (by omega)]
   simp [kn,St.get,lk,Go.Pv.bl,bw,bg,bt]
  (try simp only [aG] at hC3)
  refine qj (qc (qc (qf (qa ?_))))
  have hkj:k=j:=by omega
  subst hkj
  refine CE 9 (N:=k) (M:=jc k (f3 (ct n (op m n) e i) k)) xZ (by rw [dD]; rfl) (by rw [dD]) ?_
  have hfin:jc k (f3 (ct n (op m n) e i) k)=jc k (ct n (op m n) e i):=jN fun a _ b hb=>by unfold f3; rw [if_pos hb]
  rw [hfin]
  refine EV (s1:=⟨76,[(1,.p (.list (ll L))),(2,.ptr 0 0),(5,.p (.list (il (k6 n (bY n (op m n) e))))),(6,.sl 1 0 i),(9,.p (.list (ll (jc k (ct n (op m n) e i))))),(18,.p (.list (ll L))),(19,.p (.int .i64 k)),(20,.p (.int .i64 i))],[.own [.p (.int .i64 n),.p (.list (il m))],.own (bF ((List.range i).map (qI n (op m n) e)))]⟩) [0,1] (by simp only [leq,bf,aj,fl,gp,ai,simprocAttr]) ?_
  refine ab fun K hK=>aa ae ?_
  simp only [aj,fl,gp,ai,simprocAttr,lR]
  refine af ?_ (hK _ ?_)<;>clear hK K
  ·refine ⟨?_,by simp,by omega,by omega⟩
   rw [List.take_of_length_le (by simp)]
   exact vO (by simp [PV.one,qI])
  refine qd (qa ?_)
  refine ab fun K hK=>aa ae ?_
  simp only [aj,fl,gp,ai,simprocAttr]
  refine af ?_ (hK _ ?_)<;>clear hK K
  ·first|exact trivial|omega|(simp only [ah] at *; omega)|(simp [ah] at *; omega)|simp_all
  refine qa ?_
  have hsn:(List.range i).map (qI n (op m n) e)++[.list (ll (jc k (ct n (op m n) e i)))]=(List.range (i + 1)).map (qI n (op m n) e):=by
   rw [List.range_succ,List.map_append]
   simp [qI,hL,hc]
  refine ⟨i + 1,[0,2],by omega,by omega,?_⟩
  simp only [leq,bf,aj,fl,gp,ai,simprocAttr]
  rw [List.take_of_length_le (show ((List.range i).map (qI n (op m n) e)).length≤i by simp),hsn,List.take_length]
 (try simp only [aG] at hC1)
 have hic:i=c:=by omega
 subst hic
 refine lr 6 1 (l:=(List.range i).map (qI n (op m n) e)) (by simp [PV.one,qI]) (by simp; rfl) rfl ?_
 refine qj (qc (qc (qf (qa (qm ?_)))))
 refine ab fun K hK=>aa ae ?_
 simp only [aj,fl,gp,ai,simprocAttr]
 refine af trivial (hK _ ?_)<;>clear hK K
 refine qa (qk ?_)
 simp only [Tryd.results42,bG,aj,fl,gp,ai,simprocAttr]
 all_goals (rfl)
def p1 (M x:Nat):Nat:=(x / 2 &&& M) + (x &&& M)
def p2 (M x:Nat):Nat:=(x / 4 &&& M) + (x &&& M)
theorem dv {a B q:Nat} (h:a < B):(a + B * q) / B=q:=by
 rw [Nat.add_mul_div_left _ _ (Nat.lt_of_le_of_lt (Nat.zero_le _) h),Nat.div_eq_of_lt h,Nat.zero_add]
theorem l3 {E0 E1 E2 E3:Nat} (h0:E0≤5000) (h1:E1≤5000) (h2:E2≤5000) (h3:E3≤5000) :
  let y4:=E0 + 65536 * (E1 + 65536 * (E2 + 65536 * E3))
  let y5:=y4 + y4 / 65536
  (y5 + y5 / 4294967296) % 128=(E0 + E1 + E2 + E3) % 128:=by
 intro y4 y5
 have a1:y4 / 65536=E1 + 65536 * (E2 + 65536 * E3):=dv (by omega)
 have a2:y5=((E0 + E1) + 65536 * (E1 + E2)) + 4294967296 * ((E2 + E3) + 65536 * E3):=by
  show y4 + y4 / 65536=_
  rw [a1]; show E0 + 65536 * (E1 + 65536 * (E2 + 65536 * E3)) + _=_
  omega
 have a3:y5 / 4294967296=(E2 + E3) + 65536 * E3:=by rw [a2]; exact dv (by omega)
 rw [a3,a2]
 omega
theorem l1 {d0 d1 d2 d3 d4 d5 d6 d7:Nat} : d0 + 256 * (d1 + 256 * (d2 + 256 * (d3 + 256 * (d4 + 256 * (d5 + 256 * (d6 + 256 * d7)))))) + (d1 + 256 * (d2 + 256 * (d3 + 256 * (d4 + 256 * (d5 + 256 * (d6 + 256 * d7)))))) =
  (d0 + d1 + 256 * (d1 + d2)) + 65536 * ((d2 + d3 + 256 * (d3 + d4)) + 65536 * ((d4 + d5 + 256 * (d5 + d6)) + 65536 * (d6 + d7 + 256 * d7))):=by
 omega
def iU (x y:Int):Int:=if x < y then -1 else if y < x then 1 else 0
def dM:List Int→List Int→Int
 | [],[]=>0
 | [],_ :: _=>-1
 | _ :: _,[]=>1
 | x :: v,y :: w=>if iU x y=0 then dM v w else iU x y
theorem xO (x:Int):bR Tryd.prog 114 [.int .i64 x] (.bool false):=by
 refine aI ae Tryd.func114 rfl (by kernel_rfl) (by rw [Tryd.ntmps114]; exact Nat.le_add_left 1 _) ?_; rw [Tryd.ntmps114]
 refine qm ?_
 refine ab fun K hK=>aa ae ?_
 simp only [aj,fl,gp,ai,simprocAttr]
 refine af trivial (hK _ ?_)<;>clear hK K
 refine qa (qm ?_)
 refine ab fun K hK=>aa ae ?_
 simp only [aj,fl,gp,ai,simprocAttr]
 refine af trivial (hK _ ?_)<;>clear hK K
 refine qa (qk ?_)
 simp only [Tryd.results114,bG,aj,fl,gp,ai,simprocAttr]
 all_goals ((first|exact rfl|exact ⟨rfl,rfl⟩|exact ⟨rfl,rfl,rfl⟩|exact ⟨trivial,rfl⟩|exact ⟨Nat.le_refl _,rfl⟩|trivial|(simp; done)))
theorem y8 (x y:Int):bR Tryd.prog 84 [.int .i64 x,.int .i64 y] (.int .i64 (iU x y)):=by
 refine aI ae Tryd.func84 rfl (by kernel_rfl) (by rw [Tryd.ntmps84]; exact Nat.le_add_left 2 _) ?_; rw [Tryd.ntmps84]
 refine qm ?_
 refine ab fun K hK=>aa ae ?_
 simp only [aj,fl,gp,ai,simprocAttr]
 refine af trivial (hK _ ?_)<;>clear hK K
 refine qa (qm ?_)
 refine ab fun K hK=>aa ae ?_
 simp only [aj,fl,gp,ai,simprocAttr]
 refine an trivial (ak (xO x) rfl rfl rfl (by simp only [au,Nat.reduceLT]) (by repeat (first|exact trivial|constructor)) (aa ae ?_))
 simp only [aj,fl,gp,ai,simprocAttr]
 refine af trivial (hK _ ?_)<;>clear hK K
 refine qa (qm ?_)
 refine ab fun K hK=>aa ae ?_
 simp only [aj,fl,gp,ai,simprocAttr]
 refine an trivial (ak (xO y) rfl rfl rfl (by simp only [au,Nat.reduceLT]) (by repeat (first|exact trivial|constructor)) (aa ae ?_))
 simp only [aj,fl,gp,ai,simprocAttr]
 refine af trivial (hK _ ?_)<;>clear hK K
 refine qa (qm (qm ?_))
 refine ab fun K hK=>aa ae ?_
 simp only [aj,fl,gp,ai,simprocAttr]
 refine af trivial (hK _ ?_)<;>clear hK K
 refine qa ?_
 refine ao rfl (fun hC1=>?_) (fun hC1=>?_)
 ·cases hC1
 (try simp only [aG] at hC1)
 refine qh (qa (qm (qm ?_)))
 refine ab fun K hK=>aa ae ?_
 simp only [aj,fl,gp,ai,simprocAttr]
 refine af trivial (hK _ ?_)<;>clear hK K
 refine qa ?_
 refine ao rfl (fun hC3=>?_) (fun hC3=>?_)
 ·cases hC3
 (try simp only [aG] at hC3)
 refine qh (qa (qm (qm ?_)))
 refine ab fun K hK=>aa ae ?_
 simp only [aj,fl,gp,ai,simprocAttr]
 refine af trivial (hK _ ?_)<;>clear hK K
 refine qa ?_
 refine ao rfl (fun hC4=>?_) (fun hC4=>?_)
 ·(try simp only [aG] at hC4)
  refine qm ?_
  refine ab fun K hK=>aa ae ?_
  simp only [aj,fl,gp,ai,simprocAttr]
  refine af trivial (hK _ ?_)<;>clear hK K
  refine qa (qk (qb ?_))
  simp only [Tryd.results84,bG,aj,fl,gp,ai,simprocAttr]
  all_goals (unfold iU; rw [if_pos hC4])
 (try simp only [aG] at hC4)
 refine qh (qa (qm (qm ?_)))
 refine ab fun K hK=>aa ae ?_
 simp only [aj,fl,gp,ai,simprocAttr]
 refine af trivial (hK _ ?_)<;>clear hK K
 refine qa ?_
 refine ao rfl (fun hC5=>?_) (fun hC5=>?_)
 ·(try simp only [aG] at hC5)
  refine qm ?_
  refine ab fun K hK=>aa ae ?_
  simp only [aj,fl,gp,ai,simprocAttr]
  refine af trivial (hK _ ?_)<;>clear hK K
  refine qa (qk (qb ?_))
  simp only [Tryd.results84,bG,aj,fl,gp,ai,simprocAttr]
  all_goals (unfold iU; rw [if_neg hC4,if_pos hC5])
 (try simp only [aG] at hC5)
 refine qh (qa (qm ?_))
 refine ab fun K hK=>aa ae ?_
 simp only [aj,fl,gp,ai,simprocAttr]
 refine af trivial (hK _ ?_)<;>clear hK K
 refine qa (qk ?_)
 simp only [Tryd.results84,bG,aj,fl,gp,ai,simprocAttr]
 all_goals (unfold iU; rw [if_neg hC4,if_neg hC5])
theorem q6 {v w:List Int} : ∀ {i:Nat},(∀ j,j < i→j < v.length→j < w.length∧iU (v.getD j 0) (w.getD j 0)=0)→i≤v.length→dM v w=dM (v.drop i) (w.drop i)
 | 0,_,_=>rfl
 | i + 1,h,hi=>by
  cases v with
  | nil=>simp at hi
  | cons x v =>
   cases w with
   | nil=>have:=(h 0 (by omega) (by simp)).1; simp at this
   | cons y w =>
    have h0:=(h 0 (by omega) (by simp)).2
    simp at h0
    have ih:=q6 (v:=v) (w:=w) (i:=i) (fun j hj hjv=>by
     have:=h (j + 1) (by omega) (by simpa using hjv)
     simpa using this) (by simpa using hi)
    simp only [List.drop_succ_cons]
    rw [← ih]
    show (if iU x y=0 then dM v w else iU x y)=_
    rw [if_pos h0]
theorem mS {v:List Int} {i:Nat} (h:i < v.length):v.drop i=v.getD i 0 :: v.drop (i + 1):=by
 rw [List.drop_eq_getElem_cons h]
 congr 1
 simp [List.getD,List.getElem?_eq_getElem h]
theorem vL (v w:List Int) (hv:v.length≤1000000000) (hw:w.length≤1000000000):bR Tryd.prog 50 [.list (il v),.list (il w)] (.int .i64 (dM v w)):=by
 refine aI ae Tryd.func50 rfl (by kernel_rfl) (by rw [Tryd.ntmps50]; exact Nat.le_add_left 2 _) ?_; rw [Tryd.ntmps50]
 refine qm ?_
 refine ab fun K hK=>aa ae ?_
 simp only [aj,fl,gp,ai,simprocAttr]
 refine af trivial (hK _ ?_)<;>clear hK K
 refine qa (qm (qm ?_))
 refine ab fun K hK=>aa ae ?_
 simp only [aj,fl,gp,ai,simprocAttr,aH]
 refine af trivial (hK _ ?_)<;>clear hK K
 refine qa (ql ?_)
 refine aA (ι:=Nat) (fun i=>⟨36,[(0,.p (.list (il v))),(1,.p (.list (il w))),(9,.p (.list (il v))),(10,.p (.int .i64 v.length)),(11,.p (.int .i64 i))],[]⟩) (fun i=>i≤v.length∧∀ j,j < i→j < v.length→j < w.length∧iU (v.getD j 0) (w.getD j 0)=0) (fun i=>v.length - i) 0 ⟨Nat.zero_le _,fun j hj=>by omega⟩ [] (by simp only [leq,bf,aj,fl,gp,ai,simprocAttr]<;>trivial) fun i hi=>?_
 obtain ⟨hi1,hi2⟩:=hi
 have hd:=q6 hi2 hi1
 refine qm ?_
 refine ab fun K hK=>aa ae ?_
 simp only [aj,fl,gp,ai,simprocAttr]
 refine af trivial (hK _ ?_)<;>clear hK K
 refine qa (qm ?_)
 refine ao rfl (fun hC1=>?_) (fun hC1=>?_)
 ·(try simp only [aG] at hC1)
  have hlt:i < v.length:=by omega
  have hdv:=mS hlt
  refine qh (qa (qm (ql (qm ?_))))
  refine ab fun K hK=>aa ae ?_
  simp only [aj,fl,gp,ai,simprocAttr,aL hlt]
  refine af ?_ (hK _ ?_)<;>clear hK K
  ·first|exact trivial|omega|(simp only [ah] at *; omega)|(simp [ah] at *; omega)|simp_all
  refine qa (qm (qm ?_))
  refine ab fun K hK=>aa ae ?_
  simp only [aj,fl,gp,ai,simprocAttr,aH]
  refine af trivial (hK _ ?_)<;>clear hK K
  refine qa ?_
  refine ao rfl (fun hC2=>?_) (fun hC2=>?_)
  ·(try simp only [aG] at hC2)
   refine qm ?_
   refine ab fun K hK=>aa ae ?_
   simp only [aj,fl,gp,ai,simprocAttr]
   refine af trivial (hK _ ?_)<;>clear hK K
   refine qa (qk (qb (qe (qb (qb (qe (qb ?_)))))))
   simp only [Tryd.results50,bG,aj,fl,gp,ai,simprocAttr]
   have hdw:w.drop i=[]:=List.drop_eq_nil_of_le (by omega)
   rw [hd,hdv,hdw]; rfl
  (try simp only [aG] at hC2)
  have hlw:i < w.length:=by omega
  have hdw:=mS hlw
  refine qh (qa (qm ?_))
  refine ab fun K hK=>aa ae ?_
  simp only [aj,fl,gp,ai,simprocAttr,aL hlw]
  refine af ?_ (hK _ ?_)<;>clear hK K
  ·first|exact trivial|omega|(simp only [ah] at *; omega)|(simp [ah] at *; omega)|simp_all
  refine qa (qm ?_)
  refine ab fun K hK=>aa ae ?_
  simp only [aj,fl,gp,ai,simprocAttr]
  refine an trivial (ak (y8 (v.getD i 0) (w.getD i 0)) rfl rfl rfl (by simp only [au,Nat.reduceLT]) (by repeat (first|exact trivial|constructor)) (aa ae ?_))
  simp only [aj,fl,gp,ai,simprocAttr]
  refine af trivial (hK _ ?_)<;>clear hK K
  refine qa (qm ?_)
  refine ab fun K hK=>aa ae ?_
  simp only [aj,fl,gp,ai,simprocAttr]
  refine af trivial (hK _ ?_)<;>clear hK K
  refine qa ?_
  refine ao rfl (fun hC3=>?_) (fun hC3=>?_)
  ·(try simp only [aG] at hC3)
   refine qm ?_
   refine ab fun K hK=>aa ae ?_
   simp only [aj,fl,gp,ai,simprocAttr]
   refine af trivial (hK _ ?_)<;>clear hK K
   refine qa (qk (qe (qb (qb (qe (qb ?_))))))
   simp only [Tryd.results50,bG,aj,fl,gp,ai,simprocAttr]
   rw [hd,hdv,hdw]
   show _=if _ then _ else _
   rw [if_neg hC3]
  (try simp only [aG] at hC3)
  refine qh (qd (qa ?_))
  refine ab fun K hK=>aa ae ?_
  simp only [aj,fl,gp,ai,simprocAttr]
  refine af ?_ (hK _ ?_)<;>clear hK K
  ·first|exact trivial|omega|(simp only [ah] at *; omega)|(simp [ah] at *; omega)|simp_all
  refine qa ?_
  refine ⟨i + 1,[],⟨by omega,fun j hj hjv=>?_⟩,by omega,?_⟩
  ·by_cases hji:j=i
   ·rw [hji]; exact ⟨hlw,by simpa using hC3⟩
   exact hi2 j (by omega) hjv
  simp only [leq,bf,aj,fl,gp,ai,simprocAttr]<;>omega
 (try simp only [aG] at hC1)
 have hin:i=v.length:=by omega
 have hdv:v.drop i=[]:=List.drop_eq_nil_of_le (by omega)
 refine qj (qc (qc (qf (qa (qm (qm ?_))))))
 refine ab fun K hK=>aa ae ?_
 simp only [aj,fl,gp,ai,simprocAttr,aH]
 refine af trivial (hK _ ?_)<;>clear hK K
 refine qa ?_
 refine ao rfl (fun hC4=>?_) (fun hC4=>?_)
 ·(try simp only [aG] at hC4)
  refine qm ?_
  refine ab fun K hK=>aa ae ?_
  simp only [aj,fl,gp,ai,simprocAttr]
  refine af trivial (hK _ ?_)<;>clear hK K
  refine qa (qk (qb ?_))
  simp only [Tryd.results50,bG,aj,fl,gp,ai,simprocAttr]
  all_goals (rw [hd,hdv,mS (v:=w) (i:=i) (by omega)]; rfl)
 (try simp only [aG] at hC4)
 refine qh (qa (qm ?_))
 refine ab fun K hK=>aa ae ?_
 simp only [aj,fl,gp,ai,simprocAttr]
 refine af trivial (hK _ ?_)<;>clear hK K
 refine qa (qk ?_)
 simp only [Tryd.results50,bG,aj,fl,gp,ai,simprocAttr]
 have hdw:w.drop i=[]:=by
  refine List.drop_eq_nil_of_le ?_
  omega
 rw [hd,hdv,hdw]; rfl
theorem DT {x y:Int} : iU x y < 0↔x < y:=by
 unfold iU
 by_cases h1:x < y
 ·simp [h1]
 by_cases h2:y < x<;>simp [h1,h2]
theorem sV {x y:Int} : iU x y=0↔x=y:=by
 unfold iU
 by_cases h1:x < y
 ·simp [h1]; omega
 by_cases h2:y < x
 ·simp [h1,h2]; omega
 simp [h1,h2]; omega
theorem nb:∀ v:List Int,dM v v=0
 | []=>rfl
 | x :: v=>by show (if iU x x=0 then dM v v else iU x x)=0; rw [if_pos (sV.2 rfl)]; exact nb v
theorem lj {x y:Int} {v w:List Int} : dM (x :: v) (y :: w) < 0↔x < y∨x=y∧dM v w < 0:=by
 show (if iU x y=0 then dM v w else iU x y) < 0↔_
 by_cases h:iU x y=0
 ·rw [if_pos h]
  have:=sV.1 h
  constructor
  ·exact fun h2=>.inr ⟨this,h2⟩
  rintro (h2 | h2)
  ·omega
  exact h2.2
 rw [if_neg h,DT]
 have:¬ x=y:=fun e=>h (sV.2 e)
 constructor
 ·exact fun h2=>.inl h2
 rintro (h2 | h2)
 ·exact h2
 exact absurd h2.1 this
theorem lu:∀ v w:List Int,¬ dM v w < 0→¬ dM w v < 0→v=w
 | [],[],_,_=>rfl
 | [],_ :: _,h,_=>absurd (show (-1:Int) < 0 by omega) h
 | _ :: _,[],_,h=>absurd (show (-1:Int) < 0 by omega) h
 | x :: v,y :: w,h1,h2=>by
  rw [lj] at h1 h2
  have hxy:x=y:=by omega
  subst hxy
  rw [lu v w (fun h=>h1 (.inr ⟨rfl,h⟩)) (fun h=>h2 (.inr ⟨rfl,h⟩))]
theorem iQ:∀ u v w:List Int,dM u v < 0→dM v w < 0→dM u w < 0
 | [],[],_,h,_=>absurd h (by simp [dM])
 | [],_ :: _,[],_,h=>absurd h (by simp [dM])
 | [],_ :: _,_ :: _,_,_=>by simp [dM]
 | _ :: _,[],_,h,_=>absurd h (by simp [dM])
 | _ :: _,_ :: _,[],_,h=>absurd h (by simp [dM])
 | x :: u,y :: v,z :: w,h1,h2=>by
  rw [lj] at h1 h2 ⊢
  rcases h1 with h1 | ⟨rfl,h1⟩
  ·rcases h2 with h2 | ⟨rfl,h2⟩
   ·exact .inl (by omega)
   exact .inl h1
  rcases h2 with h2 | ⟨rfl,h2⟩
  ·exact .inl h2
  exact .inr ⟨rfl,iQ u v w h1 h2⟩
theorem nr (u v w:List Int) (h1:¬ dM u v < 0) (h2:¬ dM v w < 0):¬ dM u w < 0:=fun h=>by
 by_cases h3:dM v u < 0
 ·exact h2 (iQ _ _ _ h3 h)
 rw [lu _ _ h1 h3] at h; exact h2 h
end Go.Proofs.YtjlmpmidchddjaaDoor
namespace Go.Pv
open Go.RowKit
theorem wm {w w' : World} (h:Below w.heap.size w w'):∃ q os,w' = Go.Sort.grow (w.drewN q) os:=by
 refine ⟨w'.drawn - w.drawn,w'.heap.extract w.heap.size w'.heap.size,?_⟩
 obtain ⟨h1,h2,h3,h4,h5,h6⟩:=h
 cases w with
 | mk heap tape drawn os output =>
  cases w' with
  | mk heap' tape' drawn' os' output' =>
   simp only at h1 h2 h3 h4 h5 h6
   subst h1 h2 h3
   have hh:heap' = heap++heap'.extract heap.size heap'.size:=by
    apply Array.ext_getElem?
    intro k
    by_cases hk:k < heap.size
    ·rw [Array.getElem?_append_left hk]; exact h5 k hk
    rw [Array.getElem?_append_right (by omega),Array.getElem?_extract]
    by_cases hk2:k < heap'.size
    ·rw [if_pos (by simp; omega),show heap.size + (k - heap.size)=k by omega]
    rw [if_neg (by simp; omega),Array.getElem?_eq_none (by omega)]
   have hd:drawn' = drawn + (drawn' - drawn):=by omega
   show World.mk heap' tape' drawn' os' output' = World.mk (heap++heap'.extract heap.size heap'.size) tape' (drawn + (drawn' - drawn)) os' output'
   rw [← hh,← hd]
theorem n8 {α:Type} [Inhabited α] (enc:α→Value) (w:World) (blk off m:Nat) (dk:Array α) (os:Array Obj):∀ b,b ≠ blk→b < w.heap.size→(Go.Proofs.sortWorld enc w blk off m dk os).heap[b]? = w.heap[b]?:=by
 intro b hb hs
 unfold Go.Proofs.sortWorld
 rw [Go.Sort.heap_grow_old _ _ (by simpa using hs)]
 simp only [Go.Sort.putRow,Go.Sort.mapBlock,Array.getElem?_modify]
 rw [if_neg (Ne.symm hb)]
 rfl
theorem fV {lt:PV→PV→Prop} : ∀ (xs ys:List PV),xs.Perm ys→(∀ x∈xs,∀ y∈xs,¬ lt x y→¬ lt y x→x=y)→xs.Pairwise (fun x y=>¬ lt y x)→ys.Pairwise (fun x y=>¬ lt y x)→xs=ys
 | [],ys,h,_,_,_=>by simpa using h.symm.eq_nil.symm
 | x :: r,[],h,_,_,_=>by simpa using h.eq_nil
 | x :: r,y :: s,h,ha,h1,h2=>by
  have hxy:x=y:=by
   have hx:x∈y :: s:=h.mem_iff.1 (by simp)
   have hy:y∈x :: r:=h.mem_iff.2 (by simp)
   rcases List.mem_cons.1 hx with hx | hx
   ·exact hx
   rcases List.mem_cons.1 hy with hy' | hy'
   ·exact hy'.symm
   have a1:=(List.pairwise_cons.1 h1).1 y hy'
   have a2:=(List.pairwise_cons.1 h2).1 x hx
   exact ha x (by simp) y hy a2 a1
  subst hxy
  rw [fV r s (List.Perm.cons_inv h) (fun a ha' b hb'=>ha a (by simp [ha']) b (by simp [hb'])) (List.pairwise_cons.1 h1).2 (List.pairwise_cons.1 h2).2]
section
variable {P:Program} {ρ:Go.Shelf.Ren}
theorem Gj (L:Go.Proofs.SlLaysF.n6 P ρ) {g:FuncId} {cap:List PV} (xs ys:List PV) (cf:PV→PV→Int) (hne:xs ≠ []) (hone:∀ x∈xs,x.one=true)
  (irr:∀ x∈xs,¬ cf x x < 0) (tr:∀ x∈xs,∀ y∈xs,∀ z∈xs,cf x y < 0→cf y z < 0→cf x z < 0) (ntr:∀ x∈xs,∀ y∈xs,∀ z∈xs,¬ cf x y < 0→¬ cf y z < 0→¬ cf x z < 0)
  (anti:∀ x∈xs,∀ y∈xs,¬ cf x y < 0→¬ cf y x < 0→x=y) (hc:∀ x∈xs,∀ y∈xs,bR P g (x :: y :: cap) (.int .i64 (cf x y)))
  (hperm:xs.Perm ys) (hs:ys.Pairwise fun x y=>¬ cf y x < 0) (hlen:xs.length < 4611686018427387904) :
  Hq P (ρ.f 6) [.sl 0 0 xs.length,.p (.fn g cap)] [.own (bF xs)] (.p (.tup [])) [.own (bF ys)]:=by
 have hpos:0 < xs.length:=List.length_pos_iff.2 hne
 refine ⟨?_,fun C m w vals R=>?_⟩
 ·obtain ⟨nm,h1,h2⟩:=L.f6
  exact ⟨_,h2,h1,rfl⟩
 have hsz:vals.size=2:=R.size
 have s0:=R.slot 0
 have s1:=R.slot 1
 simp only [St.get,mL,lk,BEq.rfl,cond_true,show ((0:Nat) == 1)=false from rfl,cond_false] at s0 s1
 generalize hv0:vals.getD 0 undef=v0 at s0
 generalize hv1:vals.getD 1 undef=v1 at s1
 have hvals:vals = #[v0,v1]:=by
  apply Array.ext
  ·simpa using hsz
  intro i h1 h2
  simp only [Array.getD_eq_getD_getElem?] at hv0 hv1
  match i,h2 with
  | 0,_=>rw [Array.getElem?_eq_getElem h1] at hv0; simpa using hv0
  | 1,_=>rw [Array.getElem?_eq_getElem h1] at hv1; simpa using hv1
 subst hvals
 have s1:=s1.aQ
 cases s1 with
 | fn _ _ vs hcl hcr =>
 cases s0 with
 | sl _ _ _ _ hk0 h0 =>
 rcases h0 with ⟨h0,_⟩ | ⟨l,cp,hm,rfl,hle,hlo⟩
 ·omega
 rcases R.blk 0 (bF xs) rfl with ⟨hx,_⟩ | ⟨l',cur,e,hm',hB,hg,hcs,hmx,hol,hcell⟩
 ·exact absurd (show xs=[] by simpa [bF] using hx) hne
 rw [hm] at hm'; cases hm'
 rw [bE] at hol
 generalize hok:OK C m ([.own (bF xs)]++dL 0 [aM.own (bF xs)].length) w=ok at *
 have hokne:∀ b,ok b→b ≠ l.g:=fun b hb=>by
  subst hok
  exact fun e=>hb.2.2 0 _ l rfl hm e.symm
 have hoklt:∀ b,ok b→b < w.heap.size:=fun b hb=>by subst hok; exact hb.2.1
 have hblk:l.g < w.heap.size:=(Array.getElem?_eq_some_iff.1 hg).1
 have hrd:∀ j (h:j < xs.length),Reads ok w xs[j] (cur.getD (l.o + j) undef):=fun j h=>by
  have:=hcell j (by rw [bE]; exact h)
  simp only [bF,List.getElem_map] at this
  subst hok
  exact this.aQ
 let α:={p:PV × Value // p.1∈xs∧Reads ok w p.1 p.2}
 have inh:α:=⟨(xs[0],cur.getD (l.o + 0) undef),List.getElem_mem hpos,hrd 0 hpos⟩
 letI:Inhabited α:=⟨inh⟩
 let enc:α→Value:=fun x=>x.1.2
 let cf' : α→α→Int:=fun x y=>cf x.1.1 y.1.1
 let d:Array α:=Array.ofFn fun j:Fin xs.length=>(⟨(xs[j],cur.getD (l.o + j) undef),List.getElem_mem j.2,hrd j j.2⟩:α)
 have hd:d.size=xs.length:=by simp [d]
 have hdj:∀ j (h:j < xs.length),d[j]! = (⟨(xs[j],cur.getD (l.o + j) undef),List.getElem_mem h,hrd j h⟩:α):=fun j h=>by
  rw [getElem!_pos d j (by omega)]
  simp [d]
 have h1:Go.Proofs.OneCell enc:=fun x=>(Reads.one x.2.2 (hone _ x.2.1)).1
 have hO:Go.Sort.SWO (Go.Proofs.ltOf cf'):=by
  refine ⟨fun x=>?_,fun x y z h1 h2=>?_,fun x y z h1 h2=>?_⟩
  ·exact decide_eq_false (irr _ x.2.1)
  ·exact decide_eq_true (tr _ x.2.1 _ y.2.1 _ z.2.1 (of_decide_eq_true h1) (of_decide_eq_true h2))
  exact decide_eq_false (ntr _ x.2.1 _ y.2.1 _ z.2.1 (of_decide_eq_false h1) (of_decide_eq_false h2))
 have hH:Go.Sort.Holds enc w l.g (l.o + 0) d:=fun j hj=>by
  rw [hd] at hj
  have hjc:l.o + j < cur.size:=by omega
  refine ⟨?_,?_⟩
  ·rw [hdj j hj]
   show w.cell? ⟨l.g,l.o + 0 + j,none⟩=some (cur.getD (l.o + j) undef)
   simp only [World.cell?,hg,Nat.add_zero]
   simp [Array.getD_eq_getD_getElem?,Array.getElem?_eq_getElem hjc]
  simp [World.frozen?,hg]
 have eg:∀ args w,(callFunc g args).run P w = .ok (.enter g args) w:=by
  obtain ⟨fn,f1,f2,f3⟩:=(hc _ (List.getElem_mem hpos) _ (List.getElem_mem hpos)).1
  obtain ⟨c,hcb⟩:=Option.ne_none_iff_exists'.1 (show fn.body ≠ none by intro e; rw [e] at f3; simp at f3)
  exact Go.Proofs.enters_of f1 f2 hcb
 have hcmp:Go.Proofs.CmpLays1 P g vs enc cf' l.g (l.o + 0) d.size w:=fun m1 os dk hs x y=>by
  have hheap:∀ b,ok b→(Go.Proofs.sortWorld enc w l.g (l.o + 0) m1 dk os).heap[b]? = w.heap[b]?:=fun b hb=>n8 enc w l.g _ m1 dk os b (hokne b hb) (hoklt b hb)
  have hsw:w.heap.size≤(Go.Proofs.sortWorld enc w l.g (l.o + 0) m1 dk os).heap.size:=by simp [Go.Proofs.sortWorld]
  refine ((hc _ x.2.1 _ y.2.1).2 ok _ (#[enc x,enc y]++vs) ⟨fun b hb=>Nat.lt_of_lt_of_le (hoklt b hb) hsw,fun gg ll hgg=>?_⟩ (by simp [hcl]; omega) fun i hi=>?_).mono fun e' w2 ⟨v,he,hbl,hv⟩=>?_
  ·have:=R.laid gg ll hgg
   rw [hok] at this
   exact this.ext (fun _ h=>h) hheap
  ·match i,hi with
   | 0,_ =>
    have e0:(#[enc x,enc y]++vs).getD 0 undef=enc x:=by simp [Array.getD_eq_getD_getElem?,Array.getElem?_append]
    rw [e0]
    exact x.2.2.ext (fun _ h=>h) hheap
   | 1,_ =>
    have e0:(#[enc x,enc y]++vs).getD 1 undef=enc y:=by simp [Array.getD_eq_getD_getElem?,Array.getElem?_append]
    rw [e0]
    exact y.2.2.ext (fun _ h=>h) hheap
   | i + 2,hi =>
    have hi' : i < cap.length:=by simpa using hi
    have e2:(#[enc x,enc y]++vs).getD (i + 2) undef=vs.getD i undef:=by
     simp only [Array.getD_eq_getD_getElem?]
     rw [Array.getElem?_append_right (by simp)]
     simp
    rw [e2]
    exact (hcr i hi').ext (fun _ h=>h) hheap
  subst he
  cases hv
  exact ⟨rfl,wm hbl⟩
 have hcall:=Go.Proofs.Any.slices_SortFunc L enc h1 cf' hO g vs l.g (l.o + 0) cp d w eg hcmp hH hblk (by omega)
 rw [hd] at hcall
 refine hcall.mono fun e2 w2 ⟨he,d',n,os,hp,hso,hw⟩=>?_
 subst he
 refine ⟨.tuple #[],m,rfl,?_⟩
 have hs' : d'.size=xs.length:=by rw [hp.1,hd]
 have hdl:d.toList.map (fun x=>x.1.1)=xs:=by
  apply List.ext_getElem
  ·simp [d]
  intro i h1 h2
  simp [d]
 have hperm2:(d'.toList.map fun x=>x.1.1).Perm xs:=by
  have:=hp.2.2
  rw [← hd,Array.extract_size] at this
  have h3:d'.extract 0 d.size=d':=by rw [hd,← hs',Array.extract_size]
  rw [h3] at this
  have h4:=this.map (fun x:α=>x.1.1)
  rwa [hdl] at h4
 have hys:d'.toList.map (fun x=>x.1.1)=ys:=by
  refine fV (lt:=fun x y=>cf x y < 0) _ _ (hperm2.trans hperm) (fun x hx y hy=>anti x (hperm2.mem_iff.1 hx) y (hperm2.mem_iff.1 hy)) ?_ hs
  rw [List.pairwise_iff_getElem]
  intro i j hi hj hij
  simp only [List.length_map,Array.length_toList] at hi hj
  have:=hso i j (Nat.zero_le _) hij (by omega)
  rw [getElem!_pos d' i hi,getElem!_pos d' j hj] at this
  simpa using of_decide_eq_false this
 have hyl:ys.length=xs.length:=hperm.length_eq.symm
 have R1:Rel C m ⟨2,mL 0 [.sl 0 0 xs.length,.p (.fn g cap)],aE ([.own (bF xs)]++dL 0 [aM.own (bF xs)].length) 0 (.own (bF ys))⟩ #[.slice (some ⟨l.g,l.o + 0,none⟩) xs.length cp,.func (.func g) #[] vs] (Go.Sort.putRow enc (Go.Sort.ahead w n) l.g (l.o + 0) d'):=by
  refine R.wy (a:={ tmps:=#[.slice (some ⟨l.g,l.o + 0,none⟩) xs.length cp,.func (.func g) #[] vs],defers:=[] }) (c:=bF xs) rfl hm ⟨rfl,rfl,rfl,by simp,fun k hk=>?_,by simp⟩ (fun b hb=>?_) (cur:=Go.Sort.putCells enc (l.o + 0) d' cur) (e:=e) ?_ (by simp [Go.Sort.putCells,hcs]) (by rw [bE]; omega) fun j hj=>?_
  ·simp only [Go.Sort.putRow,Go.Sort.mapBlock,Array.getElem?_modify]
   rw [if_neg (fun e=>hk (by rw [← e]; exact hB))]; rfl
  ·simp only [Go.Sort.putRow,Go.Sort.mapBlock,Array.getElem?_modify]
   rw [if_neg (Ne.symm hb)]; rfl
  ·simp only [Go.Sort.putRow,Go.Sort.mapBlock,Array.getElem?_modify]
   rw [if_pos trivial]
   show Option.map _ (w.heap[l.g]?)=_
   rw [hg]; rfl
  rw [bE] at hj
  have hjd:j < d'.size:=by omega
  have hjc:l.o + j < cur.size:=by omega
  have e3:(Go.Sort.putCells enc (l.o + 0) d' cur).getD (l.o + j) undef=enc d'[j]:=by
   simp only [Go.Sort.putCells,Array.getD_eq_getD_getElem?,Array.getElem?_mapIdx,Array.getElem?_eq_getElem hjc,Option.map_some,Option.getD_some]
   rw [if_pos ⟨by omega,by omega⟩,show l.o + j - (l.o + 0)=j by omega,getElem!_pos d' j hjd]
  rw [e3]
  have e4:ys[j]=d'[j].1.1:=by
   have:=hys
   subst this
   simp
  have e5:(bF ys)[j]'(by rw [bE]; exact hj) = .p ys[j]:=by simp [bF]
  rw [e5,e4]
  have h6:=d'[j].2.2
  refine .p _ _ ?_
  show Reads (OK C m ([.own (bF xs)]++dL 0 [aM.own (bF xs)].length) w) w _ _
  rw [hok]
  exact h6
 have R2:=R1.later (w':=w2) (by
  rw [hw]
  refine ⟨rfl,rfl,rfl,by simp [Go.Proofs.sortWorld],fun k hk=>?_,Nat.le_refl _⟩
  unfold Go.Proofs.sortWorld
  exact Go.Sort.heap_grow_old _ _ hk)
 exact ⟨R2.laid,R2.below,R2.base,rfl,R2.inj,R2.blk,R2.fro,fun t=>by
  cases t with
  | zero=>exact .p _ _ (.tup [] #[] rfl fun c h=>absurd h (by simp))
  | succ t=>exact .dead _,R2.mp⟩
end
end Go.Pv
namespace Go.Proofs
open Go.Shelf
def Tryd.yo:Go.Shelf.Ren:=⟨fun | 6=>49 | 15=>83 | 14=>82 | 28=>112 | 29=>113 | 20=>104 | 21=>105 | 22=>106 | 23=>107 | 24=>108 | 25=>109 | 26=>110 | 27=>111 | 46=>119 | 47=>120 | 48=>121 | 49=>122 | 50=>123 | 57=>124 | n=>n,fun | 22=>25 | 24=>22 | 25=>71 | 3=>3 | 39=>93 | 0=>0 | 53=>112 | 55=>78 | 4=>4 | 46=>105 | 45=>104 | 50=>109 | 5=>5 | 9=>9 | 66=>114 | 70=>118 | 76=>120 | 77=>121 | n=>n,fun | n=>n⟩
theorem Tryd.Iv : Go.Proofs.SlLaysF.n6 Tryd.prog Tryd.yo := {
  mixed := by kernel_rfl
  f6 := ⟨Tryd.f49.name, by decide, Tryd.func49.trans (congrArg some (by kernel_rfl))⟩
  f14 := ⟨Tryd.f82.name, by decide, Tryd.func82.trans (congrArg some (by kernel_rfl))⟩
  f15 := Tryd.func83.trans (congrArg some (by kernel_rfl))
  f20 := ⟨Tryd.f104.name, by decide, Tryd.func104.trans (congrArg some (by kernel_rfl))⟩
  f21 := ⟨Tryd.f105.name, by decide, Tryd.func105.trans (congrArg some (by kernel_rfl))⟩
  f22 := ⟨Tryd.f106.name, by decide, Tryd.func106.trans (congrArg some (by kernel_rfl))⟩
  f23 := ⟨Tryd.f107.name, by decide, Tryd.func107.trans (congrArg some (by kernel_rfl))⟩
  f24 := ⟨Tryd.f108.name, by decide, Tryd.func108.trans (congrArg some (by kernel_rfl))⟩
  f25 := ⟨Tryd.f109.name, by decide, Tryd.func109.trans (congrArg some (by kernel_rfl))⟩
  f26 := ⟨Tryd.f110.name, by decide, Tryd.func110.trans (congrArg some (by kernel_rfl))⟩
  f27 := ⟨Tryd.f111.name, by decide, Tryd.func111.trans (congrArg some (by kernel_rfl))⟩
  f28 := Tryd.func112.trans (congrArg some (by kernel_rfl))
  f29 := Tryd.func113.trans (congrArg some (by kernel_rfl))
  f46 := ⟨Tryd.f119.name, by decide, Tryd.func119.trans (congrArg some (by kernel_rfl))⟩
  f47 := Tryd.func120.trans (congrArg some (by kernel_rfl))
  f48 := Tryd.func121.trans (congrArg some (by kernel_rfl))
  f49 := ⟨Tryd.f122.name, by decide, Tryd.func122.trans (congrArg some (by kernel_rfl))⟩
  f50 := ⟨Tryd.f123.name, by decide, Tryd.func123.trans (congrArg some (by kernel_rfl))⟩
  f57 := ⟨Tryd.f124.name, by decide, Tryd.func124.trans (congrArg some (by kernel_rfl))⟩
  t0 := Tryd.underlying0
  a0 := Tryd.isAgg0
  z0 := Tryd.sizeOf0
  v0 := Tryd.zeroValue0
  t3 := Tryd.underlying3
  a3 := Tryd.isAgg3
  z3 := Tryd.sizeOf3
  v3 := Tryd.zeroValue3
  t4 := Tryd.underlying4
  a4 := Tryd.isAgg4
  z4 := Tryd.sizeOf4
  v4 := Tryd.zeroValue4
  t5 := Tryd.underlying5
  a5 := Tryd.isAgg5
  z5 := Tryd.sizeOf5
  v5 := Tryd.zeroValue5
  t9 := Tryd.underlying9
  a9 := Tryd.isAgg9
  z9 := Tryd.sizeOf9
  v9 := Tryd.zeroValue9
  t22 := Tryd.underlying25
  a22 := Tryd.isAgg25
  z22 := Tryd.sizeOf25
  v22 := Tryd.zeroValue25
  a24 := Tryd.isAgg22
  z24 := Tryd.sizeOf22
  t25 := Tryd.underlying71
  a25 := Tryd.isAgg71
  z25 := Tryd.sizeOf71
  v25 := Tryd.zeroValue71
  t39 := Tryd.underlying93
  a39 := Tryd.isAgg93
  z39 := Tryd.sizeOf93
  v39 := Tryd.zeroValue93
  t45 := Tryd.underlying104
  a45 := Tryd.isAgg104
  z45 := Tryd.sizeOf104
  v45 := Tryd.zeroValue104
  t46 := Tryd.underlying105
  a46 := Tryd.isAgg105
  z46 := Tryd.sizeOf105
  v46 := Tryd.zeroValue105
  t50 := Tryd.underlying109
  a50 := Tryd.isAgg109
  z50 := Tryd.sizeOf109
  v50 := Tryd.zeroValue109
  t53 := Tryd.underlying112
  a53 := Tryd.isAgg112
  z53 := Tryd.sizeOf112
  v53 := Tryd.zeroValue112
  t55 := Tryd.underlying78
  a55 := Tryd.isAgg78
  z55 := Tryd.sizeOf78
  v55 := Tryd.zeroValue78
  t66 := Tryd.underlying114
  a66 := Tryd.isAgg114
  z66 := Tryd.sizeOf114
  v66 := Tryd.zeroValue114
  t70 := Tryd.underlying118
  a70 := Tryd.isAgg118
  z70 := Tryd.sizeOf118
  v70 := Tryd.zeroValue118
  t76 := Tryd.underlying120
  a76 := Tryd.isAgg120
  z76 := Tryd.sizeOf120
  v76 := Tryd.zeroValue120
  t77 := Tryd.underlying121
  a77 := Tryd.isAgg121
  z77 := Tryd.sizeOf121
  v77 := Tryd.zeroValue121 }
end Go.Proofs
namespace Go.Proofs.YtjlmpmidchddjaaDoor
open Go.Pv
def vb (H:ay):Prop:=∀ b∈H,eD H.length b=true
theorem tP {L L' : Nat} (h:L≤L') {x:AV} (hx:bt L x=true):bt L' x=true:=by
 cases x<;>simp only [bt,decide_eq_true_eq] at hx ⊢<;>omega
theorem BE {L L' : Nat} (h:L≤L') {x:AV} (hx:bg L x=true):bg L' x=true:=by
 have hl:∀ l:List AV,l.all (bt L)=true→l.all (bt L')=true:=fun l hl=>List.all_eq_true.2 fun y hy=>tP h (List.all_eq_true.1 hl y hy)
 cases x with
 | agg l=>exact hl l hx
 | tup l=>exact hl l hx
 | cl f l=>exact hl l hx
 | yv k l vs =>
  simp only [bg,Bool.and_eq_true,decide_eq_true_eq] at hx ⊢
  exact ⟨by omega,hl l hx.2⟩
 | _=>simp only [bg] at hx ⊢; exact tP h hx
theorem BS {L L' : Nat} (h:L≤L') {b:aM} (hb:eD L b=true):eD L' b=true:=by
 cases b with
 | own c=>exact List.all_eq_true.2 fun y hy=>BE h (List.all_eq_true.1 hb y hy)
 | dA i j=>simp only [eD,decide_eq_true_eq] at hb ⊢; omega
 | _=>rfl
theorem fK {H Y:ay} (h:vb H) (hY:∀ b∈Y,eD (H.length + Y.length) b=true):vb (H++Y):=fun b hb=>by
 rw [List.length_append]
 rcases List.mem_append.1 hb with hb | hb
 ·exact BS (Nat.le_add_right _ _) (h b hb)
 exact hY b hb
theorem lH {H:ay} (h:vb H) (k:Nat) {b:aM} (hb:eD H.length b=true):vb (aE H k b):=fun x hx=>by
 rw [df] at hx ⊢
 rw [List.length_set]
 rcases List.mem_or_eq_of_mem_set hx with hx | rfl
 ·exact h x hx
 exact hb
theorem dR (H:ay) (k:Nat) (b:aM):(aE H k b).length=H.length:=by rw [df,List.length_set]
theorem zZ {H:ay} {k:Nat} (h:k < H.length):aq H k∈H:=by
 rw [fG,List.getD_eq_getElem?_getD,List.getElem?_eq_getElem h]
 exact List.getElem_mem h
theorem G8 {H H' : ay} (h:vb H) (hl:H'.length=H.length) (hg:∀ j,aq H' j=aq H j∨∃ c,aq H' j = .fro c):vb H':=fun b hb=>by
 obtain ⟨j,hj⟩:=List.getElem?_of_mem hb
 have hjl:=(List.getElem?_eq_some_iff.1 hj).1
 have e:aq H' j=b:=by rw [fG,List.getD_eq_getElem?_getD,hj]; rfl
 rcases hg j with h1 | ⟨c,h1⟩
 ·rw [← e,h1,hl]; exact h _ (zZ (by omega))
 rw [← e,h1]; rfl
theorem bX {S s:St} {L:Nat} (hL:s.H.length=L) (hn:S.n=s.n) (hH:S.H=s.H) (hs:vb s.H) (hsl:∀ p∈S.sl,s.get p.1=p.2∧bg L p.2=true):Le (List.range L) S s:=by
 subst hL
 exact ob hn hH hs hsl
def Fc (H:ay) (c:Nat) (x:Nat × List (List Int)):Prop:=aq H x.1 = .own (ca (x.1 + 1) c x.2.length)∧∀ i,i < x.2.length→aq H (x.1 + 1 + i) = .own (ol (x.2.getD i []))
def Dj (x y:Nat × List (List Int)):Prop:=x.1 + x.2.length < y.1∨y.1 + y.2.length < x.1
def ie (Q:List (Nat × List (List Int))):List AV:=Q.map fun x=>.sl x.1 0 x.2.length
structure ua (H:ay) (c b:Nat) (Q:List (Nat × List (List Int))):Prop where
 ch:∀ x∈Q,Fc H c x
 bd:∀ x∈Q,2≤x.1∧x.1 + x.2.length < b
 dj:Q.Pairwise Dj
theorem Dj.symm {x y:Nat × List (List Int)} (h:Dj x y):Dj y x:=Or.symm h
theorem ua.sub {H:ay} {c b:Nat} {Q Q' : List (Nat × List (List Int))} (h:ua H c b Q) (hs:Q'.Sublist Q):ua H c b Q':=
 ⟨fun x hx=>h.ch x (hs.subset hx),fun x hx=>h.bd x (hs.subset hx),h.dj.sublist hs⟩
theorem ua.move {H H' : ay} {c b b' : Nat} {Q:List (Nat × List (List Int))} (h:ua H c b Q) (hb:b≤b') (hg:∀ x∈Q,∀ j,x.1≤j→j≤x.1 + x.2.length→aq H' j=aq H j):ua H' c b' Q:=
 ⟨fun x hx=>⟨by rw [hg x hx _ (Nat.le_refl _) (by omega)]; exact (h.ch x hx).1,fun i hi=>by rw [hg x hx _ (by omega) (by omega)]; exact (h.ch x hx).2 i hi⟩,fun x hx=>by have:=h.bd x hx; omega,h.dj⟩
theorem ua.app {H:ay} {c b:Nat} {Q Q' : List (Nat × List (List Int))} (h:ua H c b Q) (h' : ua H c b Q') (hd:∀ x∈Q,∀ y∈Q',Dj x y):ua H c b (Q++Q'):=
 ⟨fun x hx=>(List.mem_append.1 hx).elim (h.ch x) (h'.ch x),fun x hx=>(List.mem_append.1 hx).elim (h.bd x) (h'.bd x),List.pairwise_append.2 ⟨h.dj,h'.dj,hd⟩⟩
theorem gH (Q:List (Nat × List (List Int))):(ie Q).length=Q.length:=by simp [ie]
theorem vy (Q:List (Nat × List (List Int))):(ie Q).all br=true:=by simp [ie,br]
theorem xw (Q Q' : List (Nat × List (List Int))):ie Q++ie Q' = ie (Q++Q'):=by simp [ie]
theorem wL {Q:List (Nat × List (List Int))} {j:Nat} (h:j < Q.length) (d:AV):(ie Q).getD j d = .sl (Q.getD j (0,[])).1 0 (Q.getD j (0,[])).2.length:=by
 simp [ie,List.getD,List.getElem?_map,List.getElem?_eq_getElem h]
theorem FT {H:ay} {c b L:Nat} {Q:List (Nat × List (List Int))} (h:ua H c b Q) (hb:b≤L):(ie Q).all (bg L)=true:=by
 rw [List.all_eq_true]
 intro x hx
 obtain ⟨y,hy,rfl⟩:=List.mem_map.1 hx
 have:=(h.bd y hy).2
 simp [bg,bt]; omega
def fW (b:Nat):List (List (List Int))→List (Nat × List (List Int))
 | []=>[]
 | s :: r=>(b,s) :: fW (b + 1 + s.length) r
theorem tS (b:Nat) (Sp:List (List (List Int))):(fW b Sp).map Prod.snd=Sp:=by
 induction Sp generalizing b with
 | nil=>rfl
 | cons s r ih=>simp [fW,ih]
theorem lI (b:Nat) (Sp:List (List (List Int))):(fW b Sp).length=Sp.length:=by rw [← List.length_map (f:=Prod.snd),tS]
theorem om (b:Nat) (Sp:List (List (List Int))):∀ x∈fW b Sp,b≤x.1∧x.1 + x.2.length < b + c5 Sp:=by
 induction Sp generalizing b with
 | nil=>intro x hx; simp [fW] at hx
 | cons s r ih =>
  intro x hx
  rcases List.mem_cons.1 hx with rfl | hx
  ·simp only [c5]; omega
  have:=ih _ x hx
  simp only [c5]; omega
theorem Ez (b:Nat) (Sp:List (List (List Int))):(fW b Sp).Pairwise Dj:=by
 induction Sp generalizing b with
 | nil=>exact List.Pairwise.nil
 | cons s r ih =>
  refine List.pairwise_cons.2 ⟨fun y hy=>?_,ih _⟩
  have:=(om _ r y hy).1
  exact .inl (by simp only; omega)
theorem BK {n len k:Nat} (h:k < len):(Go.Pv.gT n len).getD k 0=n + k:=Go.Pv.kf h
theorem Da {n len b:Nat} {Sp:List (List (List Int))} (h:b + c5 Sp≤len):(gP b Sp).map (Go.Pv.bl (Go.Pv.gT n len))=ie (fW (n + b) Sp):=by
 induction Sp generalizing b with
 | nil=>rfl
 | cons s r ih =>
  simp only [c5] at h
  simp only [gP,fW,ie,List.map_cons,Go.Pv.bl,bw]
  rw [BK (by omega),ih (by omega),show n + (b + 1 + s.length)=n + b + 1 + s.length by omega]
  rfl
theorem wJ {n len d W q:Nat} (h:d + q≤len):(ca d W q).map (Go.Pv.bl (Go.Pv.gT n len))=ca (n + d) W q:=by
 simp only [ca,List.map_map]
 refine List.map_congr_left fun i hi=>?_
 have:=List.mem_range.1 hi
 simp only [Function.comp,Go.Pv.bl,bw]
 rw [BK (by omega),show n + (i + d)=i + (n + d) by omega]
theorem w6 (n len:Nat) (v:List Int):aM.bl (Go.Pv.gT n len) (.own (ol v)) = .own (ol v):=by simp [aM.bl,pY]
theorem Dw {n len b W:Nat} {Sp:List (List (List Int))} (h:b + c5 Sp≤len):∀ (H:ay),H.length=n + b→∀ Y,∀ x∈fW (n + b) Sp,Fc (H++(ir W b Sp).map (aM.bl (Go.Pv.gT n len))++Y) W x:=by
 induction Sp generalizing b with
 | nil=>intro H hH Y x hx; simp [fW] at hx
 | cons s r ih =>
  intro H hH Y x hx
  simp only [c5] at h
  have e:(ir W b (s :: r)).map (aM.bl (Go.Pv.gT n len))=[.own (ca (n + b + 1) W s.length)]++tl s++(ir W (b + 1 + s.length) r).map (aM.bl (Go.Pv.gT n len)):=by
   simp only [ir,List.map_cons,List.map_append,aM.bl,wJ (show b + 1 + s.length≤len by omega),tl,List.map_map]
   simp only [List.cons_append,List.nil_append,List.cons.injEq]
   refine ⟨rfl,?_⟩
   congr 1
   exact List.map_congr_left fun v _=>w6 _ _ _
  rw [e]
  rcases List.mem_cons.1 hx with rfl | hx
  ·refine ⟨?_,fun i hi=>?_⟩
   ·simp only [← List.append_assoc]
    rw [aF (by simp [hH]),aF (by simp [hH]),aF (by simp [hH]),← hH]
    exact bc H _
   simp only [← List.append_assoc]
   simp only at hi ⊢
   rw [aF (by simp [hH,aD]<;>omega),aF (by simp [hH,aD]<;>omega),a8 (by simp [hH]<;>omega)]
   have:n + b + 1 + i - (H++[aM.own (ca (n + b + 1) W s.length)]).length=i:=by simp [hH]<;>omega
   rw [this,aV hi]
  have:=ih (b:=b + 1 + s.length) (by omega) (H++[.own (ca (n + b + 1) W s.length)]++tl s) (by simp [hH,aD]; omega) Y x (by rw [show n + (b + 1 + s.length)=n + b + 1 + s.length by omega]; exact hx)
  simpa only [List.append_assoc] using this
def lV (c i:Nat):List Int:=(List.replicate c (0:Int)).set i 1
def aP (c k:Nat):List (List Int):=(List.range k).map (lV c)
theorem bh (c k:Nat):(aP c k).length=k:=by simp [aP]
theorem uA (c k:Nat):aP c (k + 1)=aP c k++[lV c k]:=by simp [aP,List.range_succ]
theorem yj (c i:Nat):(lV c i).length=c:=by simp [lV]
theorem A7 {p:Nat} (hp:2≤p) (c i:Nat):eG p (lV c i):=fun j=>by
 unfold lV
 rw [List.getD_eq_getElem?_getD,List.getElem?_set]
 split
 ·split
  ·simp only [Option.getD_some]; omega
  simp only [Option.getD_none]; omega
 rw [List.getElem?_replicate]
 split
 ·simp only [Option.getD_some]; omega
 simp only [Option.getD_none]; omega
structure Gu (p c:Nat) (s:List (List Int)):Prop where
 pos:0 < s.length
 le:s.length≤c
 row:∀ v∈s,v.length=c
 rg:∀ v∈s,eG p v
theorem BA {p c:Nat} (hp:2≤p) (hc:0 < c):Gu p c (aP c c):=
 ⟨by rw [bh]; exact hc,by rw [bh]; exact Nat.le_refl _,fun v hv=>by obtain ⟨i,_,rfl⟩:=List.mem_map.1 hv; exact yj c i,fun v hv=>by obtain ⟨i,_,rfl⟩:=List.mem_map.1 hv; exact A7 hp c i⟩
theorem we {p c n:Nat} (hp:2≤p) {s a:List (List Int)} (hs:s.length=n) (hn:n≤c) (h1:∀ v∈s,v.length=c) (ha:a.length=n) (ha1:∀ v∈a,v.length=n) (ha2:∀ v∈a,eG p v):∀ f left v out,(∀ t∈out,Gu p c t)→∀ t∈im p s a f left v out,Gu p c t
 | 0,_,_,out,h,t,ht=>h t ht
 | f + 1,left,v,out,h,t,ht=>by
  rw [im] at ht
  have hBl:=sY p v a n
  have hBr:∀ y∈kh p v a n,y.length=n∧eG p y:=fun y hy=>by
   obtain ⟨i,hi,rfl⟩:=List.mem_map.1 hy
   have hi:=List.mem_range.1 hi
   exact ⟨by rw [sb]; exact ha1 _ (aC (by omega)),vQ (by omega) (ha2 _ (aC (by omega)))⟩
  have hk:=oJ hp hBl (fun v hv=>(hBr v hv).1) (fun v hv=>(hBr v hv).2)
  rw [hs] at ht
  split at ht
  ·split at ht
   ·exact we hp hs hn h1 ha ha1 ha2 f _ _ _ h t ht
   rename_i hne
   refine we hp hs hn h1 ha ha1 ha2 f _ _ _ (fun u hu=>?_) t ht
   rcases List.mem_append.1 hu with hu | hu
   ·exact h u hu
   rw [List.mem_singleton.1 hu]
   have hk0:0 < (ec p (kh p v a n)).length:=List.length_pos_iff.2 hne
   have hs0:(s.getD 0 []).length=c:=h1 _ (aC (by omega))
   refine ⟨by rw [List.length_map]; exact hk0,by rw [List.length_map]; omega,fun w hw=>?_,fun w hw=>?_⟩
   ·obtain ⟨x,_,rfl⟩:=List.mem_map.1 hw
    rw [vh,oq,hs0]
   obtain ⟨x,_,rfl⟩:=List.mem_map.1 hw
   exact vn (by omega) _ _ _ _
  exact h t ht
theorem Gw {p c:Nat} (hp:2≤p) {s m:List (List Int)} (h:Gu p c s):∀ t∈gE p s m,Gu p c t:=fun t ht=>by
 unfold gE at ht
 split at ht
 ·rw [List.mem_singleton.1 ht]; exact h
 have hri:=fM (p:=p) (by omega) h.row h.rg s.length (Nat.le_refl _)
 have hql:=gU p s s.length
 refine we hp rfl (Nat.le_trans hql h.le) hri.l2 (lK _ _ _ _ _) (fun v hv=>?_) (fun v hv=>?_) _ _ _ _ (fun t ht=>by cases ht) t ht
 ·obtain ⟨i,_,rfl⟩:=List.mem_map.1 hv
  rw [jm,hri.l1]
 obtain ⟨i,_,rfl⟩:=List.mem_map.1 hv
 exact rW (by omega) _ _ _
theorem mr {p c:Nat} (hp:2≤p) (T:List (List (List Int))) (hc:0 < c):∀ i,∀ s∈cZ p T [aP c c] i,Gu p c s
 | 0,s,hs=>by rw [List.mem_singleton.1 hs]; exact BA hp hc
 | i + 1,s,hs=>by
  rw [cZ] at hs
  obtain ⟨t,ht,hst⟩:=List.mem_flatMap.1 hs
  exact Gw hp (mr hp T hc i t ht) s hst
def uR (p:Nat) (w:List Int) (J S:Nat→Nat):Nat→Int
 | 0=>0
 | i + 1=>(uR p w J S i + w.getD i 0 * w.getD (J i) 0 % (p:Int) * dQ p (S i:Nat)) % (p:Int)
def FV (p N:Nat) (sum:Int):Int:=(N:Int) % (p:Int) * dQ p sum % (p:Int)
def u7 (p:Nat) (sq:Int) (d:Nat):Bool:=decide (((d:Int) + 1) * ((d:Int) + 1) % (p:Int)=sq)
def H7 (p:Nat) (sq:Int):Nat:=(bQ (u7 p sq) p).getD 0 + 1
def Fu (p:Nat) (w:List Int) (d:Nat) (S:Nat→Nat) (t:Nat):Int:=w.getD t 0 * (d:Int) % (p:Int) * dQ p (S t:Nat) % (p:Int)
def yA (p:Nat) (w:List Int) (d:Nat) (S:Nat→Nat) (c i:Nat):List Int:=cU (Fu p w d S) 0 i (List.replicate c 0)
def wK (p o:Nat) (s:List (List Int)):List Int:=AL p (dQ p ((s.getD 0 []).getD o 0)) (s.getD 0 [])
def p8 (p N o c:Nat) (J S:Nat→Nat) (s:List (List Int)):Nat:=H7 p (FV p N (uR p (wK p o s) J S c))
def n9 (p N o c:Nat) (J S:Nat→Nat) (s:List (List Int)):List Int:=(p8 p N o c J S s:Int) :: yA p (wK p o s) (p8 p N o c J S s) S c c
def zD (xs:List (List Int)):List (List Int):=xs.mergeSort fun v w=>decide (¬ dM w v < 0)
def zb (p N o c:Nat) (J S:Nat→Nat) (Sp:List (List (List Int))):List (List Int):=(zD (Sp.map (n9 p N o c J S))).map (·.drop 1)
theorem mX (xs:List (List Int)):xs.Perm (zD xs):=(List.mergeSort_perm xs _).symm
theorem nG (xs:List (List Int)):(zD xs).Pairwise fun v w=>¬ dM w v < 0:=by
 have:=List.pairwise_mergeSort (le:=fun v w:List Int=>decide (¬ dM w v < 0)) (fun a b c h1 h2=>by
  simp only [decide_eq_true_eq] at *
  exact nr _ _ _ h2 h1) (fun a b=>by
  simp only [Bool.or_eq_true,decide_eq_true_eq]
  by_cases h:dM b a < 0
  ·right
   intro h2
   have:=iQ _ _ _ h h2
   rw [nb] at this; exact absurd this (by decide)
  exact .inl h) xs
 exact this.imp fun h=>by simpa using h
def HM:PV→Int
 | .int _ x=>x
 | _=>0
theorem Bu (v:List Int):(il v).map HM=v:=by
 unfold il
 rw [List.map_map]
 exact (List.map_congr_left fun _ _=>rfl).trans (List.map_id v)
def J2:PV→PV→Int
 | .list a,.list b=>dM (a.map HM) (b.map HM)
 | _,_=>0
theorem mF (v w:List Int):J2 (.list (il v)) (.list (il w))=dM v w:=by
 show dM ((il v).map HM) ((il w).map HM)=_
 rw [Bu,Bu]
theorem dU {x:PV} {ls:List (List Int)} (h:x∈ll ls):∃ v∈ls,x = .list (il v):=by
 obtain ⟨v,hv,rfl⟩:=List.mem_map.1 h
 exact ⟨v,hv,rfl⟩
theorem Dn {xs ys:List (List Int)} (hne:xs ≠ []) (hl:xs.length≤1000000) (hr:∀ v∈xs,v.length≤1000000) (hperm:xs.Perm ys) (hs:ys.Pairwise fun v w=>¬ dM w v < 0) :
  Hq Tryd.prog 49 [.sl 0 0 (ll xs).length,.p (.fn 50 [])] [.own (bF (ll xs))] (.p (.tup [])) [.own (bF (ll ys))]:=
 Gj Go.Proofs.Tryd.Iv (ll xs) (ll ys) J2 (fun h=>hne (by cases xs with
   | nil=>rfl
   | cons a r=>cases h)) (fun x hx=>by obtain ⟨v,_,rfl⟩:=dU hx; rfl)
  (fun x hx=>by obtain ⟨v,_,rfl⟩:=dU hx; rw [mF,nb]; decide)
  (fun x hx y hy z hz h1 h2=>by
   obtain ⟨u,_,rfl⟩:=dU hx; obtain ⟨v,_,rfl⟩:=dU hy; obtain ⟨w,_,rfl⟩:=dU hz
   rw [mF] at *; exact iQ _ _ _ h1 h2)
  (fun x hx y hy z hz h1 h2=>by
   obtain ⟨u,_,rfl⟩:=dU hx; obtain ⟨v,_,rfl⟩:=dU hy; obtain ⟨w,_,rfl⟩:=dU hz
   rw [mF] at *; exact nr _ _ _ h1 h2)
  (fun x hx y hy h1 h2=>by
   obtain ⟨u,_,rfl⟩:=dU hx; obtain ⟨v,_,rfl⟩:=dU hy
   rw [mF] at *; rw [lu _ _ h1 h2])
  (fun x hx y hy=>by
   obtain ⟨u,hu,rfl⟩:=dU hx; obtain ⟨v,hv,rfl⟩:=dU hy
   rw [mF]; have h1:=hr u hu; have h2:=hr v hv; exact vL u v (by omega) (by omega))
  (hperm.map _) (by
   unfold ll
   rw [List.pairwise_map]
   exact hs.imp fun {x y} hxy h2=>hxy (by rwa [mF] at h2)) (by rw [aw]; omega)
theorem Ao (x y:Int):bR Tryd.prog 41 [.int .i64 x,.int .i64 y] (fl (x,y)):=by
 refine aI ae Tryd.func41 rfl (by kernel_rfl) (by rw [Tryd.ntmps41]; exact Nat.le_add_left 2 _) ?_; rw [Tryd.ntmps41]
 refine qm ?_
 refine ab fun K hK=>aa ae ?_
 simp only [aj,fl,gp,ai,simprocAttr]
 refine af ?_ (hK _ ?_)<;>clear hK K
 ·first|exact trivial|omega|(simp only [ah] at *; omega)|(simp [ah] at *; omega)|simp_all
 refine qa (qm ?_)
 refine ab fun K hK=>aa ae ?_
 simp only [aj,fl,gp,ai,simprocAttr]
 refine af ?_ (hK _ ?_)<;>clear hK K
 ·first|exact trivial|omega|(simp only [ah] at *; omega)|(simp [ah] at *; omega)|simp_all
 refine qa (qk ?_)
 simp only [Tryd.results41,bG,aj,fl,gp,ai,simprocAttr]
 all_goals ((first|exact rfl|exact ⟨rfl,rfl⟩|exact ⟨rfl,rfl,rfl⟩|exact ⟨trivial,rfl⟩|exact ⟨Nat.le_refl _,rfl⟩|trivial|(simp; done)))
theorem zt (N:Int) (m:List Int) (hm:m.length≤1000000000000000) (hf:¬ (gf N m).1=0):bR Tryd.prog 11 [gp N m] (.tup [.int .i64 0,.list [],fl (gf N m)]):=by
 refine aI ae Tryd.func11 rfl (by kernel_rfl) (by rw [Tryd.ntmps11]; exact Nat.le_add_left 1 _) ?_; rw [Tryd.ntmps11]
 refine qm ?_
 refine ab fun K hK=>aa ae ?_
 simp only [aj,fl,gp,ai,simprocAttr]
 refine af ?_ (hK _ ?_)<;>clear hK K
 ·first|exact trivial|omega|(simp only [ah] at *; omega)|(simp [ah] at *; omega)|simp_all
 refine qa (qm (qm ?_))
 refine ab fun K hK=>aa ae ?_
 simp only [aj,fl,gp,ai,simprocAttr]
 refine an trivial (ak (jX N m hm) rfl rfl rfl (by simp only [au,Nat.reduceLT]) (by repeat (first|exact trivial|constructor)) (aa ae ?_))
 simp only [aj,fl,gp,ai,simprocAttr]
 refine af ?_ (hK _ ?_)<;>clear hK K
 ·first|exact trivial|omega|(simp only [ah] at *; omega)|(simp [ah] at *; omega)|simp_all
 refine qa (qm ?_)
 refine ab fun K hK=>aa ae ?_
 simp only [aj,fl,gp,ai,simprocAttr]
 refine af ?_ (hK _ ?_)<;>clear hK K
 ·first|exact trivial|omega|(simp only [ah] at *; omega)|(simp [ah] at *; omega)|simp_all
 refine qa ?_
 refine ao rfl (fun hC1=>?_) (fun hC1=>?_)
 ·(try simp only [aG] at hC1)
  refine qm ?_
  refine aT mixed (by kernel_rfl) fun K hK=>aa ae ?_
  simp only [aj,fl,gp,ai,simprocAttr]
  refine af ?_ (hK _ ?_)<;>clear hK K
  ·first|exact trivial|omega|(simp only [ah] at *; omega)|(simp [ah] at *; omega)|simp_all
  refine qa (qk (qb ?_))
  simp only [Tryd.results11,bG,aj,fl,gp,ai,simprocAttr]
  all_goals ((first|exact rfl|exact ⟨rfl,rfl⟩|exact ⟨rfl,rfl,rfl⟩|exact ⟨trivial,rfl⟩|exact ⟨Nat.le_refl _,rfl⟩|trivial|(simp; done)))
 (try simp only [aG] at hC1)
 exact absurd hC1 hf
theorem wA {n e:Nat} {m:List Int} (h:GT n m n e) (hc:24 < (bA n (bY n (op m n) e)).length):bR Tryd.prog 11 [gp n m] (.tup [.int .i64 0,.list [],fl (2,0)]):=by
 have hcl:(bA n (bY n (op m n) e)).length≤n:=fi _ _ _
 have hb:=h.2.1.big
 have hck:=jX n m (by rw [h.2.1.len]; have:=Nat.mul_le_mul hb hb; omega)
 rw [qX h] at hck
 refine aI ae Tryd.func11 rfl (by kernel_rfl) (by rw [Tryd.ntmps11]; exact Nat.le_add_left 1 _) ?_; rw [Tryd.ntmps11]
 refine qm ?_
 refine ab fun K hK=>aa ae ?_
 simp only [aj,fl,gp,ai,simprocAttr]
 refine af ?_ (hK _ ?_)<;>clear hK K
 ·first|exact trivial|omega|(simp only [ah] at *; omega)|(simp [ah] at *; omega)|simp_all
 refine qa (qm (qm ?_))
 refine ab fun K hK=>aa ae ?_
 simp only [aj,fl,gp,ai,simprocAttr]
 refine an trivial (ak (hck) rfl rfl rfl (by simp only [au,Nat.reduceLT]) (by repeat (first|exact trivial|constructor)) (aa ae ?_))
 simp only [aj,fl,gp,ai,simprocAttr]
 refine af ?_ (hK _ ?_)<;>clear hK K
 ·first|exact trivial|omega|(simp only [ah] at *; omega)|(simp [ah] at *; omega)|simp_all
 refine qa (qm ?_)
 refine ab fun K hK=>aa ae ?_
 simp only [aj,fl,gp,ai,simprocAttr]
 refine af ?_ (hK _ ?_)<;>clear hK K
 ·first|exact trivial|omega|(simp only [ah] at *; omega)|(simp [ah] at *; omega)|simp_all
 refine qa ?_
 refine ao rfl (fun hC1=>?_) (fun hC1=>?_)
 ·cases hC1
 (try simp only [aG] at hC1)
 refine qh (qa (qm ?_))
 refine ab fun K hK=>aa ae ?_
 simp only [aj,fl,gp,ai,simprocAttr]
 refine an trivial (ak (mI h) rfl rfl rfl (by simp only [au,Nat.reduceLT]) (by repeat (first|exact trivial|constructor)) (aa ae ?_))
 simp only [aj,fl,gp,ai,simprocAttr]
 refine af ?_ (hK _ ?_)<;>clear hK K
 ·first|exact trivial|omega|(simp only [ah] at *; omega)|(simp [ah] at *; omega)|simp_all
 refine qa (qm (qm ?_))
 refine ab fun K hK=>aa ae ?_
 simp only [aj,fl,gp,ai,simprocAttr,aw]
 refine af trivial (hK _ ?_)<;>clear hK K
 refine qa ?_
 refine ao rfl (fun hC2=>?_) (fun hC2=>?_)
 ·(try simp only [aG] at hC2)
  refine qm ?_
  refine ab fun K hK=>aa ae ?_
  simp only [aj,fl,gp,ai,simprocAttr]
  refine an trivial (ak (Ao 2 0) rfl rfl rfl (by simp only [au,Nat.reduceLT]) (by repeat (first|exact trivial|constructor)) (aa ae ?_))
  simp only [aj,fl,gp,ai,simprocAttr]
  refine af ?_ (hK _ ?_)<;>clear hK K
  ·first|exact trivial|omega|(simp only [ah] at *; omega)|(simp [ah] at *; omega)|simp_all
  refine qa (qk (qb ?_))
  simp only [Tryd.results11,bG,aj,fl,gp,ai,simprocAttr]
  all_goals ((first|exact rfl|exact ⟨rfl,rfl⟩|exact ⟨rfl,rfl,rfl⟩|exact ⟨trivial,rfl⟩|exact ⟨Nat.le_refl _,rfl⟩|trivial|(simp; done)))
 (try simp only [aG] at hC2)
 omega
end Go.Proofs.YtjlmpmidchddjaaDoor
namespace Go.Proofs.YtjlmpmidchddjaaDoor
open Lean.Grind
attribute [local instance] Lean.Grind.Semiring.natCast Lean.Grind.Ring.intCast
section
variable {K:Type} [CommRing K]
structure Rp (K:Type) [CommRing K] (p:Nat):Prop extends Rd K p where
 ch:(p:K)=0
 pow:∀ v:Nat,(v:K) ^ p=v
 pws:JJ K p
 bA:∀ v:Nat,((v:Int):K)=(v:K)
theorem Rp.ne {p:Nat} (R:Rp K p) {a b:Nat} (ha:a < p) (hb:b < p) (hab:a ≠ b):((a:K) - (b:K)) ≠ 0:=fun h=>by
 rw [← R.bA,← R.bA,← Ring.intCast_sub,R.ker] at h
 have h2:=Int.dvd_of_emod_eq_zero h
 obtain ⟨k,hk⟩:=h2
 have:k=0:=by
  refine Int.le_antisymm (Int.le_of_not_gt fun h=>?_) (Int.le_of_not_gt fun h=>?_)
  ·have:(p:Int) * 1≤(p:Int) * k:=Int.mul_le_mul_of_nonneg_left (by omega) (by omega)
   omega
  have:(p:Int) * k≤(p:Int) * (-1):=Int.mul_le_mul_of_nonneg_left (by omega) (by omega)
  omega
 subst this
 omega
def dt (c:Nat) (m:List (List Int)) (u:Nat→K) (j:Nat):K:=if j < c then sm (fun k=>bV m j k * u k) c else 0
theorem oH (c:Nat) (m:List (List Int)):BR (dt (K:=K) c m):=
 ⟨fun u v=>by
  funext j
  unfold dt
  by_cases h:j < c
  ·rw [if_pos h,if_pos h,if_pos h,← kB]; exact al fun k _=>by grind
  ·rw [if_neg h,if_neg h,if_neg h]; grind,fun k u=>by
  funext j
  unfold dt
  by_cases h:j < c
  ·rw [if_pos h,if_pos h,← aN]; exact al fun k _=>by grind
  rw [if_neg h,if_neg h]; grind⟩
theorem xj {p:Nat} (R:Rd K p) (b w:List Int):∀ k,((iR p b w k:Int):K)=sm (fun t=>vc b t * vc w t) k
 | 0=>Ring.intCast_zero
 | k + 1=>by rw [iR,R.mod,Ring.intCast_add,Ring.intCast_mul,xj R b w k]; rfl
theorem Hj {p c:Nat} (R:Rd K p) {m:List (List Int)} {w:List Int} (hm:m.length=c) (hw:w.length=c) (j:Nat):(vc (r7 p m w) j:K)=dt c m (vc w) j:=by
 unfold dt
 by_cases h:j < c
 ·rw [if_pos h]
  have:(r7 p m w).getD j 0=iR p (m.getD j []) w w.length:=by simp [r7,H3,List.getD,List.getElem?_map,List.getElem?_range (show j < m.length by omega)]
  unfold vc
  rw [this,xj R,hw]; rfl
 rw [if_neg h]; exact gL (by rw [rB]; omega)
theorem Bg {p W:Nat} (R:Rd K p) {s:List (List Int)} (hs:∀ v∈s,v.length=W) (v:List Int):∀ i,(vc (qR p W s v i):Nat→K)=fun j=>sm (fun t=>vc v t * bV s t j) i
 | 0=>by
  funext j
  simp only [qR,sm]
  unfold vc
  rw [List.getD_eq_getElem?_getD,List.getElem?_replicate]
  split
  ·exact Ring.intCast_zero
  exact Ring.intCast_zero
 | i + 1=>by
  have hl:(s.getD i []).length≤(qR p W s v i).length:=by
   rw [oq]
   by_cases h:i < s.length
   ·rw [hs _ (aC h)]; exact Nat.le_refl _
   rw [List.getD_eq_getElem?_getD,List.getElem?_eq_none (by omega)]; simp
  rw [qR,Is R hl,Bg R hs v i]
  rfl
theorem RE.ET {S:List (List Int) × List Int} (h:RE (K:=K) S) {u:Nat→K} (hu:bC S.1 u) (j:Nat):u j=sm (fun q=>u (S.2.getD q 0).toNat * bV S.1 q j) S.1.length:=by
 obtain ⟨C,hC⟩:=hu
 rw [hC]
 refine al fun q hq=>?_
 congr 1
 rw [hC,bj (i:=q) hq fun t ht hne=>by rw [h.at' t q ht hq,if_neg hne]; grind,h.at' q q hq hq,if_pos rfl]
 grind
theorem piece {p c n : Nat} (R : Rp K p) {s' : List (List Int)} {at' : List Int} {m : List (List Int)} (he : RE (K := K) (s', at')) (hn : s'.length = n) (hl : at'.length = n) (h1 : ∀ v ∈ s', v.length = c) (hat : ∀ i, i < n → 0 ≤ at'.getD i 0 ∧ at'.getD i 0 < c) (hm : m.length = c)
    (hinv : ∀ u : Nat → K, bC s' u → bC s' (dt c m u)) {v : Nat} (hv : v < p) (hn0 : 0 < n) :
    (∀ w : Nat → K, bC ((ec p (kh p v (fy p m s' at' n) n)).map (vh p s')) w ↔ bC s' w ∧ ∀ j, dt c m w j = (v : K) * w j) ∧ jd (bV (K := K) ((ec p (kh p v (fy p m s' at' n) n)).map (vh p s'))) (ec p (kh p v (fy p m s' at' n) n)).length := by
  have hp0 : 0 < p := by have := R.two; omega
  have hA := oH (K := K) c m
  have hal := lK p m s' at' n
  have hBl := sY p v (fy p m s' at' n) n
  have hB : ∀ i q, i < n → q < n → bV (K := K) (kh p v (fy p m s' at' n) n) i q = dt c m (bV s' i) (at'.getD q 0).toNat - (if i = q then (v : K) else 0) := fun i q hi hq => by
    have e : (kh p v (fy p m s' at' n) n).getD i [] = zg p v (fy p m s' at' n) i := by simp [kh, List.getD, List.getElem?_map, List.getElem?_range hi]
    have ea : (fy p m s' at' n).getD i [] = je p m at' (s'.getD i []) := po hi
    have eg : ∀ q, q < n → (((je p m at' (s'.getD i [])).getD q 0 : Int) : K) = dt c m (bV s' i) (at'.getD q 0).toNat := fun q hq => by
      have : (je p m at' (s'.getD i [])).getD q 0 = (r7 p m (s'.getD i [])).getD (at'.getD q 0).toNat 0 := by simp [je, List.getD, List.getElem?_map, List.getElem?_eq_getElem (show q < at'.length by omega)]
      rw [this]
      exact Hj R.toRd hm (h1 _ (aC (by omega))) _
    unfold bV
    rw [e]
    unfold zg vc
    rw [ea, List.getD_eq_getElem?_getD, List.getElem?_set]
    by_cases eq : i = q
    · subst eq
      rw [if_pos rfl, if_pos (by rw [jm]; omega), if_pos rfl]
      simp only [Option.getD_some]
      rw [R.mod, Ring.intCast_sub, eg i hi, R.bA]; rfl
    · rw [if_neg eq, if_neg eq, ← List.getD_eq_getElem?_getD, eg q hq]
      show _ = dt c m (bV s' i) _ - 0
      grind
  have hBr : ∀ y ∈ kh p v (fy p m s' at' n) n, y.length = n ∧ eG p y := fun y hy => by
    obtain ⟨t, ht, rfl⟩ := List.mem_map.1 hy
    have ht := List.mem_range.1 ht
    refine ⟨by rw [sb, po ht, jm]; exact hl, vQ hp0 ?_⟩
    rw [po ht]; exact rW hp0 _ _ _
  obtain ⟨k1, k2⟩ := Bo (K := K) R.toRd hBl (fun y hy => (hBr y hy).1) (fun y hy => (hBr y hy).2)
  have hkr := oJ R.two hBl (fun y hy => (hBr y hy).1) (fun y hy => (hBr y hy).2)
  generalize kh p v (fy p m s' at' n) n = B at *
  generalize ec p B = KK at *
  have hs0 : (s'.getD 0 []).length = c := h1 _ (aC (by omega))
  let cb : (Nat → K) → Nat → K := fun u j => sm (fun i => u i * bV s' i j) n
  have hcm : ∀ r, r.length = n → (vc (vh p s' r) : Nat → K) = cb (vc r) := fun r hr => by
    unfold vh
    rw [hs0, Bg R.toRd h1, hr]
  have hcbS : ∀ u, bC s' (cb u) := fun u => ⟨u, fun j => by rw [hn]⟩
  have hcbat : ∀ u q, q < n → cb u (at'.getD q 0).toNat = u q := fun u q hq => by
    show sm (fun i => u i * bV s' i _) n = _
    have ha := fun i hi => he.at' i q (show i < s'.length by omega) (show q < s'.length by omega)
    simp only at ha
    rw [bj (i := q) hq fun i hi hne => by rw [ha i (by omega), if_neg hne]; grind, ha q (by omega), if_pos rfl]; grind
  have hker : ∀ u : Nat → K, vq n B u ↔ (∀ j, n ≤ j → u j = 0) ∧ ∀ j, dt c m (cb u) j = (v : K) * cb u j := fun u => by
    have hAc : dt c m (cb u) = fun j => sm (fun i => u i * dt c m (bV s' i) j) n := hA.sm u (bV s') n
    have hq : ∀ q, q < n → sm (fun i => u i * bV B i q) n = dt c m (cb u) (at'.getD q 0).toNat - (v : K) * u q := fun q hq => by
      have e : sm (fun i => u i * bV B i q) n = sm (fun i => u i * dt c m (bV s' i) (at'.getD q 0).toNat) n - sm (fun i => u i * (if i = q then (v : K) else 0)) n := by
        rw [← kQ]
        exact al fun i hi => by rw [hB i q hi hq]; grind
      have hdl : sm (fun i => u i * (if i = q then (v : K) else 0)) n = u q * (v : K) := by
        rw [bj (i := q) hq fun i hi hne => by rw [if_neg hne]; grind, if_pos rfl]
      rw [e, hAc, hdl]; grind
    constructor
    · rintro ⟨a, b⟩
      refine ⟨a, fun j => ?_⟩
      have h3 := he.ET (hinv _ (hcbS u)) j
      simp only [hn] at h3
      rw [h3]
      show _ = (v : K) * sm (fun i => u i * bV s' i j) n
      rw [← aN]
      refine al fun q hq2 => ?_
      have h4 := b q hq2
      rw [hq q hq2] at h4
      have : dt c m (cb u) (at'.getD q 0).toNat = (v : K) * u q := by grind
      rw [this]; grind
    · rintro ⟨a, b⟩
      refine ⟨a, fun q hq2 => ?_⟩
      rw [hq q hq2, b, hcbat u q hq2]; grind
  refine ⟨fun w => ⟨fun hw => ?_, fun hw => ?_⟩, ?_⟩
  · have hL : iE fun w : Nat → K => bC s' w ∧ ∀ j, dt c m w j = (v : K) * w j :=
      ⟨⟨(bC.mO s').zero, fun j => by rw [hA.zero]; grind⟩,
       fun a b ha hb => ⟨(bC.mO s').add _ _ ha.1 hb.1, fun j => by rw [hA.1]; simp only; rw [ha.2, hb.2]; grind⟩,
       fun k a ha => ⟨(bC.mO s').smul _ _ ha.1, fun j => by rw [hA.2]; simp only; rw [ha.2]; grind⟩⟩
    refine bC.least hL (fun r hr => ?_) hw
    obtain ⟨x, hx, rfl⟩ := List.mem_map.1 hr
    rw [hcm x (hkr.1 x hx).1]
    exact ⟨hcbS _, ((hker _).1 ((k1 _).1 (bC.mem hx))).2⟩
  · obtain ⟨hw1, hw2⟩ := hw
    let u : Nat → K := fun q => if q < n then w (at'.getD q 0).toNat else 0
    have hcu : cb u = w := by
      funext j
      have h3 := he.ET hw1 j
      simp only [hn] at h3
      rw [h3]
      exact al fun q hq => by show (if q < n then w (at'.getD q 0).toNat else 0) * _ = _; rw [if_pos hq]
    have hu : vq n B u := (hker u).2 ⟨fun j hj => if_neg (by omega), fun j => by rw [hcu]; exact hw2 j⟩
    obtain ⟨C, hC⟩ := (k1 u).2 hu
    rw [← hcu]
    have e : cb u = fun j => sm (fun t => C t * cb (bV KK t) j) KK.length := by
      funext j
      show sm (fun i => u i * bV s' i j) n = sm (fun t => C t * sm (fun i => bV KK t i * bV s' i j) n) KK.length
      have : sm (fun t => C t * sm (fun i => bV KK t i * bV s' i j) n) KK.length = sm (fun t => sm (fun i => C t * bV KK t i * bV s' i j) n) KK.length := al fun t _ => by
        rw [← aN]; exact al fun i _ => by grind
      rw [this, aX]
      refine al fun i _ => ?_
      rw [bU, ← hC]
    rw [e]
    refine (bC.mO _).sum fun t ht => ?_
    have hx : KK.getD t [] ∈ KK := aC ht
    have := bC.mem (K := K) (L := KK.map (vh p s')) (List.mem_map.2 ⟨_, hx, rfl⟩)
    rw [hcm _ (hkr.1 _ hx).1] at this
    exact this
  · intro x hx
    refine k2 x fun i => ?_
    have hg : ∀ t, t < KK.length → bV (K := K) (KK.map (vh p s')) t = cb (bV KK t) := fun t ht => by
      have hx : KK.getD t [] ∈ KK := aC ht
      have e : (KK.map (vh p s')).getD t [] = vh p s' (KK.getD t []) := by simp [List.getD, List.getElem?_map, List.getElem?_eq_getElem ht]
      unfold bV
      rw [e, hcm _ (hkr.1 _ hx).1]
    by_cases hi : i < n
    · have h3 := hx (at'.getD i 0).toNat
      rw [al (g := fun t => x t * bV KK t i) fun t ht => by rw [hg t ht, hcbat _ i hi]] at h3
      exact h3
    · refine aW fun t ht => ?_
      have hx : KK.getD t [] ∈ KK := aC ht
      have : bV (K := K) KK t i = 0 := gL (by rw [(hkr.1 _ hx).1]; omega)
      rw [this]; grind
theorem uX {p:Nat} (R:Rp K p) {A:(Nat→K)→Nat→K} (hA:BR A):∀ v,v≤p→∀ y:Nat→Nat→K,(∀ μ,μ < v→∀ j,A (y μ) j=(μ:K) * y μ j)→(∀ j,sm (fun μ=>y μ j) v=0)→∀ μ,μ < v→∀ j,y μ j=0
 | 0,_,_,_,_,μ,hμ,_=>absurd hμ (Nat.not_lt_zero _)
 | v + 1,hv,y,hy,h0,μ,hμ,j=>by
  have h1:∀ j,sm (fun μ=>((μ:K) - (v:K)) * y μ j) v=0:=fun j=>by
   have e1:=hA.sm (fun _=>1) y (v + 1)
   have e2:(fun j=>sm (fun i=>(1:K) * y i j) (v + 1))=fun _=>0:=by
    funext j; rw [← h0 j]; exact al fun i _=>by grind
   rw [e2,hA.zero] at e1
   have e3:=congrFun e1 j
   have e4:sm (fun i=>(1:K) * A (y i) j) (v + 1)=sm (fun i=>(i:K) * y i j) (v + 1):=al fun i hi=>by rw [hy i hi]; grind
   rw [e4] at e3
   have e5:sm (fun μ=>((μ:K) - (v:K)) * y μ j) v=sm (fun i=>(i:K) * y i j) v - (v:K) * sm (fun i=>y i j) v:=by
    rw [← aN,← kQ]; exact al fun i _=>by grind
   have e6:=h0 j
   simp only [sm] at e3 e6
   rw [e5]; grind
  have ih:=uX R hA v (by omega) (fun μ j=>((μ:K) - (v:K)) * y μ j) (fun μ hμ j=>by rw [hA.2]; simp only; rw [hy μ (by omega)]; grind) h1
  have hlt:∀ μ,μ < v→∀ j,y μ j=0:=fun μ hμ j=>by
   rcases R.fld.mul (ih μ hμ j) with h | h
   ·exact absurd h (R.ne (by omega) (by omega) (by omega))
   exact h
  by_cases e:μ=v
  ·subst e
   have:=h0 j
   rw [sm,aW fun i hi=>hlt i hi j] at this
   grind
  exact hlt μ (by omega) j
def dS (f:Nat→Nat):Nat→Nat
 | 0=>0
 | v + 1=>dS f v + f v
theorem w8 (f:Nat→Nat) {a b:Nat} (h:a≤b):dS f a≤dS f b:=by
 induction b with
 | zero=>have:a=0:=(by omega); subst this; exact Nat.le_refl _
 | succ b ih =>
  by_cases e:a=b + 1
  ·subst e; exact Nat.le_refl _
  have:=ih (by omega)
  simp only [dS]; omega
theorem BZ (f:Nat→K) (a b:Nat):sm f (a + b)=sm f a + sm (fun i=>f (a + i)) b:=by
 induction b with
 | zero=>simp only [Nat.add_zero,sm]; grind
 | succ b ih=>rw [show a + (b + 1)=(a + b) + 1 by omega,sm,ih,sm]; grind
theorem xK {p:Nat} (R:Rp K p) {A:(Nat→K)→Nat→K} (hA:BR A) {S:(Nat→K)→Prop} (f:Nat→Nat) (g:Nat→Nat→Nat→K) (hS:∀ v,v < p→∀ i,i < f v→S (g v i)) (hg:∀ v,v < p→∀ i,i < f v→∀ j,A (g v i) j=(v:K) * g v i j) (hi:∀ v,v < p→jd (g v) (f v)) :
  ∀ v,v≤p→∃ y:Nat→Nat→K,(∀ j,j < dS f v→S (y j))∧∀ x:Nat→K,∃ z:Nat→Nat→K,(∀ μ,μ < v→∀ j,A (z μ) j=(μ:K) * z μ j)∧(∀ j,sm (fun i=>x i * y i j) (dS f v)=sm (fun μ=>z μ j) v)∧((∀ μ,μ < v→∀ j,z μ j=0)→∀ j,j < dS f v→x j=0)
 | 0,_=>⟨fun _ _=>0,fun j hj=>absurd hj (Nat.not_lt_zero _),fun x=>⟨fun _ _=>0,fun μ hμ=>absurd hμ (Nat.not_lt_zero _),fun j=>rfl,fun _ j hj=>absurd hj (Nat.not_lt_zero _)⟩⟩
 | v + 1,hv=>by
  obtain ⟨y,y1,y2⟩:=xK R hA f g hS hg hi v (by omega)
  have e1:∀ i,i < dS f v→(fun i=>if i < dS f v then y i else g v (i - dS f v)) i=y i:=fun i hi=>if_pos hi
  have e2:∀ i,(fun i=>if i < dS f v then y i else g v (i - dS f v)) (dS f v + i)=g v i:=fun i=>by
   simp only
   rw [if_neg (by omega),Nat.add_sub_cancel_left]
  refine ⟨fun i=>if i < dS f v then y i else g v (i - dS f v),fun j hj=>?_,fun x=>?_⟩
  ·simp only [dS] at hj
   by_cases h:j < dS f v
   ·rw [e1 j h]; exact y1 j h
   have:=e2 (j - dS f v)
   rw [show dS f v + (j - dS f v)=j by omega] at this
   rw [this]; exact hS v (by omega) _ (by omega)
  obtain ⟨z,z1,z2,z3⟩:=y2 x
  have hzv:A (fun j=>sm (fun i=>x (dS f v + i) * g v i j) (f v))=fun j=>(v:K) * sm (fun i=>x (dS f v + i) * g v i j) (f v):=by
   rw [hA.sm (fun i=>x (dS f v + i)) (g v) (f v)]
   funext j
   rw [← aN]
   exact al fun i hi=>by rw [hg v (by omega) i hi]; grind
  refine ⟨fun μ=>if μ < v then z μ else fun j=>sm (fun i=>x (dS f v + i) * g v i j) (f v),fun μ hμ j=>?_,fun j=>?_,fun h0 j hj=>?_⟩
  ·by_cases h:μ < v
   ·simp only [if_pos h]; exact z1 μ h j
   have:μ=v:=by omega
   subst this
   simp only [if_neg h]
   rw [hzv]
  ·rw [show dS f (v + 1)=dS f v + f v from rfl,BZ,sm]
   have a1:sm (fun i=>x i * (if i < dS f v then y i else g v (i - dS f v)) j) (dS f v)=sm (fun i=>x i * y i j) (dS f v):=al fun i hi=>by rw [if_pos hi]
   have a2:sm (fun i=>x (dS f v + i) * (if dS f v + i < dS f v then y (dS f v + i) else g v (dS f v + i - dS f v)) j) (f v)=sm (fun i=>x (dS f v + i) * g v i j) (f v):=al fun i hi=>by rw [if_neg (by omega),Nat.add_sub_cancel_left]
   have a3:sm (fun μ=>(if μ < v then z μ else fun j=>sm (fun i=>x (dS f v + i) * g v i j) (f v)) j) v=sm (fun μ=>z μ j) v:=al fun μ hμ=>by rw [if_pos hμ]
   rw [a1,a2,a3,z2 j]
   show _=_ + (if v < v then z v else fun j=>sm (fun i=>x (dS f v + i) * g v i j) (f v)) j
   rw [if_neg (Nat.lt_irrefl v)]
  have b1:∀ μ,μ < v→∀ j,z μ j=0:=fun μ hμ j=>by
   simpa [hμ] using h0 μ (by omega) j
  have b2:∀ j,sm (fun i=>x (dS f v + i) * g v i j) (f v)=0:=fun j=>by
   simpa using h0 v (by omega) j
  simp only [dS] at hj
  by_cases h:j < dS f v
  ·exact z3 b1 j h
  have:=hi v (by omega) (fun i=>x (dS f v + i)) b2 (j - dS f v) (by omega)
  rwa [show dS f v + (j - dS f v)=j by omega] at this
theorem CD {p n:Nat} (R:Rp K p) {A:(Nat→K)→Nat→K} (hA:BR A) {s' : List (List Int)} (hn:s'.length=n) (f:Nat→Nat) (g:Nat→Nat→Nat→K) (hS:∀ v,v < p→∀ i,i < f v→bC s' (g v i)) (hg:∀ v,v < p→∀ i,i < f v→∀ j,A (g v i) j=(v:K) * g v i j) (hi:∀ v,v < p→jd (g v) (f v)):dS f p≤n:=by
 obtain ⟨y,y1,y2⟩:=xK R hA f g hS hg hi p (Nat.le_refl _)
 refine sN R.fld (y:=y) (z:=bV s') (fun x hx=>?_) fun j hj=>?_
 ·obtain ⟨z,z1,z2,z3⟩:=y2 x
  exact z3 (uX R hA p (Nat.le_refl _) z z1 fun j=>by rw [← z2 j]; exact hx j)
 obtain ⟨C,hC⟩:=y1 j hj
 exact ⟨C,fun k=>by rw [hC,hn]⟩
end
end Go.Proofs.YtjlmpmidchddjaaDoor
namespace Go.Proofs.YtjlmpmidchddjaaDoor
open Lean.Grind
attribute [local instance] Lean.Grind.Semiring.natCast Lean.Grind.Ring.intCast
def eF (p:Nat) (s a:List (List Int)) (v:Nat):List (List Int):=(ec p (kh p v a s.length)).map (vh p s)
def Aa (p:Nat) (s a:List (List Int)) (v:Nat):Nat:=(ec p (kh p v a s.length)).length
def qp (p:Nat) (s a:List (List Int)) (v f:Nat):List (List (List Int)):=(List.range' v f).flatMap fun μ=>if ec p (kh p μ a s.length)=[] then [] else [eF p s a μ]
theorem my {p:Nat} {s a:List (List Int)} (hd:dS (Aa p s a) p≤s.length):∀ (f v:Nat) (left:Int) (out:List (List (List Int))),v + f=p→left=(s.length:Int) - (dS (Aa p s a) v:Nat)→im p s a f left v out=out++qp p s a v f
 | 0,v,left,out,_,_=>by rw [im]; simp [qp]
 | f + 1,v,left,out,hv,hl=>by
  have hpc:qp p s a v (f + 1)=(if ec p (kh p v a s.length)=[] then [] else [eF p s a v])++qp p s a (v + 1) f:=by
   unfold qp
   rw [List.range'_succ,List.flatMap_cons]
  by_cases h:0 < left
  ·rw [im,if_pos ⟨by omega,h⟩,hpc]
   by_cases hk:ec p (kh p v a s.length)=[]
   ·rw [if_pos hk,if_pos hk,my hd f (v + 1) left out (by omega)]
    ·rfl
    have:Aa p s a v=0:=by unfold Aa; rw [hk]; rfl
    simp only [dS,this]; omega
   rw [if_neg hk,if_neg hk,my hd f (v + 1) _ _ (by omega)]
   ·simp [eF]
   simp only [dS]
   have:(ec p (kh p v a s.length)).length=Aa p s a v:=rfl
   rw [this]; omega
  rw [mB (.inr fun hh=>h hh.2)]
  have h0:qp p s a v (f + 1)=[]:=by
   unfold qp
   rw [List.flatMap_eq_nil_iff]
   intro μ hμ
   have hm:=List.mem_range'_1.1 hμ
   have h1:=w8 (Aa p s a) (show v≤μ by omega)
   have h2:=w8 (Aa p s a) (show μ + 1≤p by omega)
   simp only [dS] at h2
   have h3:Aa p s a μ=0:=by omega
   exact if_pos (List.length_eq_zero_iff.1 h3)
  rw [h0,List.append_nil]
section
variable {K:Type} [CommRing K]
def JW (t t' : List (List Int)):Prop:=∀ u:Nat→K,bC t u→bC t' u→∀ j,u j=0
theorem vW {p:Nat} (R:Rp K p) {s:List (List Int)} (h:jd (bV (K:=K) s) s.length) (h0:0 < s.length):¬ ∀ j,bV (K:=K) s 0 j=0:=fun hz=>by
 have:=h (fun i=>if i=0 then 1 else 0) (fun k=>by
  rw [bj (i:=0) h0 fun i hi hne=>by rw [if_neg hne]; grind,hz]; grind) 0 h0
 rw [if_pos rfl] at this
 exact R.fld.2 this
theorem xI {A:(Nat→K)→Nat→K} {S:(Nat→K)→Prop} (h:∀ u,S u→S (A u)) {u:Nat→K} (hu:S u):∀ k,S (nF A k u)
 | 0=>hu
 | k + 1=>h _ (xI h hu k)
theorem pK {p c:Nat} (R:Rp K p) {s m:List (List Int)} (ho:Gu p c s) (hm:m.length=c) (hinv:∀ u:Nat→K,bC s u→bC s (dt c m u)) (hpow:∀ u:Nat→K,bC s u→nF (dt c m) p u=dt c m u) (hind:jd (bV (K:=K) s) s.length) :
  (∀ t∈gE p s m,∃ v:K,(∀ u:Nat→K,bC t u↔bC s u∧∀ j,dt c m u j=v * u j)∧jd (bV (K:=K) t) t.length)∧(gE p s m).Pairwise (JW (K:=K))∧∀ S:(Nat→K)→Prop,iE S→(∀ t∈gE p s m,∀ u,bC t u→S u)→∀ u,bC s u→S u:=by
 have hA:=oH (K:=K) c m
 have hp2:=R.two
 unfold gE
 by_cases h1:s.length=1
 ·rw [if_pos h1]
  obtain ⟨C,hC⟩:=hinv _ (bC.get (show 0 < s.length by omega))
  rw [h1] at hC
  have hall:∀ u:Nat→K,bC s u→∀ j,dt c m u j=C 0 * u j:=fun u hu j=>by
   obtain ⟨D,hD⟩:=hu
   rw [h1] at hD
   have e:u=fun j=>D 0 * bV s 0 j:=by funext j; rw [hD]; simp only [sm]; grind
   rw [e,hA.2]
   simp only
   rw [hC]; simp only [sm]; grind
  refine ⟨fun t ht=>?_,List.pairwise_singleton _ _,fun S _ hS u hu=>hS s (by simp) u hu⟩
  rw [List.mem_singleton.1 ht]
  exact ⟨C 0,fun u=>⟨fun hu=>⟨hu,hall u hu⟩,fun hu=>hu.1⟩,hind⟩
 rw [if_neg h1]
 have hri:=fM (p:=p) (by omega) ho.row ho.rg s.length (Nat.le_refl _)
 obtain ⟨he,hsp⟩:=mu (K:=K) R.toRd ho.row ho.rg s.length (Nat.le_refl _)
 rw [List.take_length] at hsp
 generalize cE p s s.length=Z at *
 obtain ⟨s',at'⟩:=Z
 obtain ⟨l1,l2,l3,l4⟩:=hri
 simp only at l1 l2 l3 l4 hsp ⊢
 obtain ⟨n,hn⟩:∃ n,s'.length=n:=⟨_,rfl⟩
 have hn0:0 < n:=by
  refine Nat.pos_of_ne_zero fun h0=>vW R hind ho.pos fun j=>?_
  obtain ⟨C,hC⟩:=(hsp _).2 (bC.get ho.pos)
  rw [hC,hn,h0]; rfl
 have hinv' : ∀ u:Nat→K,bC s' u→bC s' (dt c m u):=fun u hu=>(hsp _).2 (hinv u ((hsp u).1 hu))
 have hpc:=fun v (hv:v < p)=>piece (K:=K) R he hn (by rw [l1,hn]) l2 (fun i hi=>l4 i (by rw [l1,hn]; exact hi)) hm hinv' hv hn0
 obtain ⟨a,ha⟩:∃ a,fy p m s' at' s'.length=a:=⟨_,rfl⟩
 rw [hn] at ha
 rw [hn,ha]
 rw [ha] at hpc
 have hdim:dS (Aa p s' a) p≤s'.length:=by
  refine CD R hA rfl (Aa p s' a) (fun v=>bV (eF p s' a v)) (fun v hv i hi=>?_) (fun v hv i hi=>?_) fun v hv=>?_
  ·have hil:i < (eF p s' a v).length:=by unfold eF; rw [List.length_map]; exact hi
   have h2:=bC.get (K:=K) hil
   unfold eF at h2 ⊢
   rw [hn] at h2 ⊢
   exact (((hpc v hv).1 _).1 h2).1
  ·have hil:i < (eF p s' a v).length:=by unfold eF; rw [List.length_map]; exact hi
   have h2:=bC.get (K:=K) hil
   unfold eF at h2 ⊢
   rw [hn] at h2 ⊢
   exact (((hpc v hv).1 _).1 h2).2
  have h2:=(hpc v hv).2
  unfold eF Aa
  rw [hn]; exact h2
 have hfull:=my hdim p 0 (s'.length:Int) [] (by omega) (by simp [dS])
 rw [hn] at hfull
 rw [hfull,List.nil_append]
 have hmem:∀ t,t∈qp p s' a 0 p↔∃ v,v < p∧¬ ec p (kh p v a n)=[]∧t=eF p s' a v:=fun t=>by
  unfold qp
  rw [List.mem_flatMap]
  constructor
  ·rintro ⟨v,hv,ht⟩
   have:=List.mem_range'_1.1 hv
   rw [hn] at ht
   split at ht
   ·cases ht
   rename_i h
   exact ⟨v,by omega,h,List.mem_singleton.1 ht⟩
  rintro ⟨v,hv,hk,rfl⟩
  refine ⟨v,List.mem_range'_1.2 ⟨Nat.zero_le _,by omega⟩,?_⟩
  rw [hn,if_neg hk]; simp
 have hrv:∀ v,v < p→∀ u:Nat→K,bC (eF p s' a v) u↔bC s u∧∀ j,dt c m u j=(v:K) * u j:=fun v hv u=>by
  unfold eF
  rw [hn]
  rw [(hpc v hv).1 u,hsp u]
 refine ⟨fun t ht=>?_,?_,fun S hS hSt u hu=>?_⟩
 ·obtain ⟨v,hv,_,rfl⟩:=(hmem t).1 ht
  refine ⟨v,hrv v hv,?_⟩
  have h2:=(hpc v hv).2
  unfold eF
  rw [hn,List.length_map]; exact h2
 ·unfold qp
  rw [List.pairwise_flatMap]
  refine ⟨fun v _=>?_,?_⟩
  ·split
   ·exact List.Pairwise.nil
   exact List.pairwise_singleton _ _
  refine (List.pairwise_lt_range' (s:=0) (n:=p)).imp_of_mem fun {v v'} hv hv' hlt x hx y hy=>?_
  have b1:=List.mem_range'_1.1 hv
  have b2:=List.mem_range'_1.1 hv'
  have ex:x=eF p s' a v:=by
   split at hx
   ·cases hx
   exact List.mem_singleton.1 hx
  have ey:y=eF p s' a v':=by
   split at hy
   ·cases hy
   exact List.mem_singleton.1 hy
  subst ex ey
  intro u hu hu' j
  have c1:=((hrv v (by omega) u).1 hu).2 j
  have c2:=((hrv v' (by omega) u).1 hu').2 j
  have c3:((v:K) - (v' : K)) * u j=0:=by grind
  rcases R.fld.mul c3 with h | h
  ·exact absurd h (R.ne (by omega) (by omega) (by omega))
  exact h
 have h2:u=fun j=>sm (fun v=>(1:K) * DB (dt c m) p (v:K) u j) p:=by
  funext j
  rw [← CC hp2 R.ch R.pws (A:=dt c m) u j]
  exact al fun v _=>by grind
 rw [h2]
 refine hS.sum fun v hv=>?_
 have h3:bC s (DB (dt c m) p (v:K) u):=by
  have h4:=(bC.mO s).sum (y:=fun k=>nF (dt c m) k u) (c:=fun k=>(v:K) ^ (p - 1 - k)) (n:=p) fun k _=>xI hinv hu k
  exact (bC.mO s).sub hu h4
 have h5:=Dl hA (by omega) (R.pow v) (hpow u hu)
 have h6:=(hrv v hv _).2 ⟨h3,h5⟩
 by_cases hk:ec p (kh p v a n)=[]
 ·unfold eF at h6
  rw [hn,hk] at h6
  obtain ⟨C,hC⟩:=h6
  have:DB (dt c m) p (v:K) u=fun _=>0:=funext fun j=>by rw [hC]; rfl
  rw [this]; exact hS.zero
 exact hSt _ ((hmem _).2 ⟨v,hv,hk,rfl⟩) _ h6
structure EL (K:Type) [CommRing K] (p c:Nat) (T:List (List (List Int))) (i:Nat):Prop where
 val:∀ s∈cZ p T [aP c c] i,∃ lam:Nat→K,(∀ u:Nat→K,bC s u↔(∀ j,c≤j→u j=0)∧∀ t,t < i→∀ j,dt c (T.getD t []) u j=lam t * u j)∧jd (bV (K:=K) s) s.length
 dis:(cZ p T [aP c c] i).Pairwise (JW (K:=K))
 all:∀ S:(Nat→K)→Prop,iE S→(∀ s∈cZ p T [aP c c] i,∀ u,bC s u→S u)→∀ u,(∀ j,c≤j→u j=0)→S u
theorem fQ {c i:Nat} (hi:i < c) (j:Nat):bV (K:=K) (aP c c) i j=if j=i then 1 else 0:=by
 have e:(aP c c).getD i []=lV c i:=by simp [aP,List.getD,List.getElem?_map,List.getElem?_range hi]
 unfold bV
 rw [e]
 exact xV hi
theorem A8 {p c:Nat} (T:List (List (List Int))):EL K p c T 0:=by
 have hs:∀ u:Nat→K,bC (aP c c) u↔∀ j,c≤j→u j=0:=fun u=>by
  constructor
  ·rintro ⟨C,hC⟩ j hj
   rw [hC,bh]
   exact aW fun i hi=>by rw [fQ hi,if_neg (by omega)]; grind
  intro h
  refine ⟨u,fun j=>?_⟩
  rw [bh]
  by_cases hj:j < c
  ·rw [bj (i:=j) hj fun i hi hne=>by rw [fQ hi,if_neg (fun e=>hne e.symm)]; grind,fQ hj,if_pos rfl]; grind
  rw [h j (by omega)]
  exact (aW fun i hi=>by rw [fQ hi,if_neg (by omega)]; grind).symm
 refine ⟨fun s hs'=>?_,List.pairwise_singleton _ _,fun S _ hS u hu=>hS _ (List.mem_singleton.2 rfl) u ((hs u).2 hu)⟩
 rw [List.mem_singleton.1 hs']
 refine ⟨fun _=>0,fun u=>⟨fun hu=>⟨(hs u).1 hu,fun t ht=>absurd ht (Nat.not_lt_zero _)⟩,fun hu=>(hs u).2 hu.1⟩,fun x hx j hj=>?_⟩
 rw [bh] at hj hx
 have:=hx j
 rw [bj (i:=j) hj fun i hi hne=>by rw [fQ hi,if_neg (fun e=>hne e.symm)]; grind,fQ hj,if_pos rfl] at this
 grind
theorem zO {p c i:Nat} (R:Rp K p) {T:List (List (List Int))} (hc:0 < c) (hi:i < c) (hT:(T.getD i []).length=c) (hcom:∀ t,t < i→∀ u:Nat→K,dt c (T.getD t []) (dt c (T.getD i []) u)=dt c (T.getD i []) (dt c (T.getD t []) u)) (hpow:∀ u:Nat→K,nF (dt c (T.getD i [])) p u=dt c (T.getD i []) u)
  (h:EL K p c T i):EL K p c T (i + 1):=by
 have hso:=mr (p:=p) (c:=c) R.two T hc i
 have hv:∀ s∈cZ p T [aP c c] i,(∀ u:Nat→K,bC s u→bC s (dt c (T.getD i []) u))∧jd (bV (K:=K) s) s.length:=fun s hs=>by
  obtain ⟨lam,l1,l2⟩:=h.val s hs
  refine ⟨fun u hu=>?_,l2⟩
  obtain ⟨u1,u2⟩:=(l1 u).1 hu
  refine (l1 _).2 ⟨fun j hj=>by unfold dt; rw [if_neg (by omega)],fun t ht j=>?_⟩
  rw [hcom t ht u]
  have e:dt c (T.getD t []) u=fun j=>lam t * u j:=funext fun j=>u2 t ht j
  rw [e,(oH c _).2]
 have hsp:=fun s hs=>pK (K:=K) R (hso s hs) hT (hv s hs).1 (fun u _=>hpow u) (hv s hs).2
 refine ⟨fun t ht=>?_,?_,fun S hS hSt u hu=>h.all S hS (fun s hs v hv=>(hsp s hs).2.2 S hS (fun t ht w hw=>hSt t ?_ w hw) v hv) u hu⟩
 ·rw [cZ] at ht
  obtain ⟨s,hs,hst⟩:=List.mem_flatMap.1 ht
  obtain ⟨lam,l1,l2⟩:=h.val s hs
  obtain ⟨v,v1,v2⟩:=(hsp s hs).1 t hst
  refine ⟨fun t=>if t=i then v else lam t,fun u=>?_,v2⟩
  rw [v1 u,l1 u]
  constructor
  ·rintro ⟨⟨a,b⟩,d⟩
   refine ⟨a,fun t ht j=>?_⟩
   show _=(if t=i then v else lam t) * u j
   by_cases e:t=i
   ·rw [if_pos e,e]; exact d j
   rw [if_neg e]; exact b t (by omega) j
  rintro ⟨a,b⟩
  refine ⟨⟨a,fun t ht j=>?_⟩,fun j=>?_⟩
  ·have hti:¬ t=i:=by omega
   simpa [hti] using b t (by omega) j
  simpa using b i (by omega) j
 ·rw [cZ,List.pairwise_flatMap]
  refine ⟨fun s hs=>(hsp s hs).2.1,h.dis.imp_of_mem fun {s s'} hs hs' hd x hx y hy=>?_⟩
  obtain ⟨v,v1,_⟩:=(hsp s hs).1 x hx
  obtain ⟨v',v1',_⟩:=(hsp s' hs').1 y hy
  exact fun u hu hu'=>hd u ((v1 u).1 hu).1 ((v1' u).1 hu').1
 rw [cZ]; exact List.mem_flatMap.2 ⟨s,hs,ht⟩
theorem wX {p c:Nat} (R:Rp K p) {T:List (List (List Int))} (hc:0 < c) (hT:∀ i,i < c→(T.getD i []).length=c) (hcom:∀ i t,i < c→t < c→∀ u:Nat→K,dt c (T.getD t []) (dt c (T.getD i []) u)=dt c (T.getD i []) (dt c (T.getD t []) u)) (hpow:∀ i,i < c→∀ u:Nat→K,nF (dt c (T.getD i [])) p u=dt c (T.getD i []) u) :
  ∀ i,i≤c→EL K p c T i
 | 0,_=>A8 T
 | i + 1,hi=>zO R hc (by omega) (hT i (by omega)) (fun t ht=>hcom i t (by omega) (by omega)) (hpow i (by omega)) (wX R hc hT hcom hpow i (by omega))
theorem C1 {p c i:Nat} (R:Rp K p) {T:List (List (List Int))} (hc:0 < c) (h1:EL K p c T (i + 1)) (h:EL K p c T i) (hsp:∀ s∈cZ p T [aP c c] i,gE p s (T.getD i []) ≠ []):(cZ p T [aP c c] i).length≤(cZ p T [aP c c] (i + 1)).length:=by
 rw [cZ]
 generalize cZ p T [aP c c] i=Sp at *
 clear h h1
 induction Sp with
 | nil=>simp
 | cons s r ih =>
  rw [List.flatMap_cons,List.length_append,List.length_cons]
  have h2:=List.length_pos_iff.2 (hsp s (by simp))
  have:=ih fun s hs=>hsp s (by simp [hs])
  omega
end
end Go.Proofs.YtjlmpmidchddjaaDoor
namespace Go.Proofs.YtjlmpmidchddjaaDoor
open Lean.Grind
attribute [local instance] Lean.Grind.Semiring.natCast Lean.Grind.Ring.intCast
structure GC (n:Nat) (f:Nat→Nat→Nat) (e c:Nat) (cI xx:Nat→Nat):Prop where
 G:bB n f e
 lt:∀ a,a < n→cI a < c
 xl:∀ i,i < c→xx i < n
 cx:∀ i,i < c→cI (xx i)=i
 cj:∀ a b,a < n→b < n→(cI a=cI b↔∃ y,y < n∧f (f (iv n f e y) a) y=b)
section
variable {n e c:Nat} {f:Nat→Nat→Nat} {cI xx:Nat→Nat}
def cM (n:Nat) (f:Nat→Nat→Nat) (e y a:Nat):Nat:=f (f (iv n f e y) a) y
theorem GC.mf (h:GC n f e c cI xx) {y a:Nat} (hy:y < n) (ha:a < n):cM n f e y a < n:=h.G.cl _ _ (h.G.cl _ _ (h.G.az hy) ha) hy
theorem GC.Ht (h:GC n f e c cI xx) {y a:Nat} (hy:y < n) (ha:a < n):cI (cM n f e y a)=cI a:=((h.cj a _ ha (h.mf hy ha)).2 ⟨y,hy,rfl⟩).symm
theorem GC.comm (h:GC n f e c cI xx) {a b:Nat} (ha:a < n) (hb:b < n):cI (f a b)=cI (f b a):=by
 have G:=h.G
 refine (h.cj _ _ (G.cl _ _ ha hb) (G.cl _ _ hb ha)).2 ⟨a,ha,?_⟩
 rw [← G.assoc _ _ _ (G.az ha) ha hb,G.cV ha,G.one_l b hb]
theorem GC.By (h:GC n f e c cI xx) {a b:Nat} (ha:a < n) (hb:b < n):f (iv n f e a) (f a b)=b:=by
 rw [← h.G.assoc _ _ _ (h.G.az ha) ha hb,h.G.cV ha,h.G.one_l b hb]
theorem GC.nY (h:GC n f e c cI xx) {a b:Nat} (ha:a < n) (hb:b < n):f a (f (iv n f e a) b)=b:=by
 rw [← h.G.assoc _ _ _ ha (h.G.az ha) hb,h.G.cR ha,h.G.one_l b hb]
theorem GC.F7 (h:GC n f e c cI xx) {a b:Nat} (ha:a < n) (hb:b < n):f (f b a) (iv n f e a)=b:=by
 rw [h.G.assoc _ _ _ hb ha (h.G.az ha),h.G.cR ha,h.G.one_r b hb]
theorem GC.EW (h:GC n f e c cI xx) {a x y:Nat} (ha:a < n) (hx:x < n) (hy:y < n) (hxy:f a x=f a y):x=y:=h.G.gy ha hx hy hxy
theorem GC.E4 (h:GC n f e c cI xx) {a x y:Nat} (ha:a < n) (hx:x < n) (hy:y < n) (hxy:f x a=f y a):x=y:=h.G.lM ha hx hy hxy
variable {K:Type} [CommRing K]
theorem GC.fu (h:GC n f e c cI xx) {a:Nat} (ha:a < n) (F:Nat→K):sm (fun y=>F (f a y)) n=sm F n:=
 pQ (σ:=fun y=>f a y) (fun i hi=>h.G.cl _ _ ha hi) (fun i j hi hj hij=>h.EW ha hi hj hij) F
theorem GC.Iy (h:GC n f e c cI xx) {a:Nat} (ha:a < n) (F:Nat→K):sm (fun y=>F (f y a)) n=sm F n:=
 pQ (σ:=fun y=>f y a) (fun i hi=>h.G.cl _ _ hi ha) (fun i j hi hj hij=>h.E4 ha hi hj hij) F
theorem GC.BN (h:GC n f e c cI xx) (F:Nat→K):sm (fun y=>F (iv n f e y)) n=sm F n:=
 pQ (σ:=fun y=>iv n f e y) (fun i hi=>h.G.az hi) (fun i j hi hj hij=>by
  have:=congrArg (iv n f e) hij
  simpa only [h.G.cO hi,h.G.cO hj] using this) F
theorem GC.CN (h:GC n f e c cI xx) {y:Nat} (hy:y < n) (F:Nat→K):sm (fun g=>F (cM n f e y g)) n=sm F n:=
 pQ (σ:=cM n f e y) (fun i hi=>h.mf hy hi) (fun i j hi hj hij=>by
  have h1:=h.E4 hy (h.G.cl _ _ (h.G.az hy) hi) (h.G.cl _ _ (h.G.az hy) hj) hij
  exact h.EW (h.G.az hy) hi hj h1) F
def oY (n:Nat) (cI:Nat→Nat) (T:Nat→K):Prop:=∀ a b,a < n→b < n→cI a=cI b→T a=T b
def sC (n:Nat) (cI:Nat→Nat) (i:Nat) (F:Nat→K):K:=sm (fun g=>if cI g=i then F g else 0) n
theorem cB {i:Nat} {F F' : Nat→K} (h:∀ g,g < n→cI g=i→F g=F' g):sC n cI i F=sC n cI i F':=al fun g hg=>by
 by_cases e:cI g=i
 ·rw [if_pos e,if_pos e,h g hg e]
 rw [if_neg e,if_neg e]
theorem Gn (k:K) (i:Nat) (F:Nat→K):sC n cI i (fun g=>k * F g)=k * sC n cI i F:=by
 unfold sC
 rw [← aN]; exact al fun g _=>by split<;>grind
theorem sT (k:K) (i:Nat) (F:Nat→K):sC n cI i (fun g=>F g * k)=sC n cI i F * k:=by
 unfold sC
 rw [← bU]; exact al fun g _=>by split<;>grind
theorem ER (i m:Nat) (F:Nat→Nat→K):sC n cI i (fun g=>sm (fun k=>F g k) m)=sm (fun k=>sC n cI i fun g=>F g k) m:=by
 unfold sC
 rw [← aX]
 exact al fun g _=>by
  split
  ·rfl
  exact (aW fun _ _=>rfl).symm
theorem GC.H5 (h:GC n f e c cI xx) {y:Nat} (hy:y < n) (i:Nat) (F:Nat→K):sC n cI i (fun g=>F (cM n f e y g))=sC n cI i F:=by
 unfold sC
 rw [← h.CN hy fun g=>if cI g=i then F g else 0]
 exact al fun g hg=>by rw [h.Ht hy hg]
theorem GC.JS (h:GC n f e c cI xx) (F:Nat→K):sm (fun i=>sC n cI i F) c=sm F n:=by
 unfold sC
 rw [aX]
 refine al fun g hg=>?_
 rw [bj (i:=cI g) (h.lt g hg) fun i _ hne=>if_neg fun e=>hne e.symm,if_pos rfl]
def se (K:Type) [CommRing K] (n:Nat) (cI:Nat→Nat) (i:Nat):K:=sC n cI i fun _=>1
theorem GC.DC (h:GC n f e c cI xx) {T:Nat→K} (hT:oY n cI T) {i:Nat} (hi:i < c):sC n cI i T=se K n cI i * T (xx i):=by
 unfold se
 rw [← sT]
 refine cB fun g hg hgi=>?_
 rw [hT g (xx i) hg (h.xl i hi) (by rw [hgi,h.cx i hi])]; grind
def bZ (n:Nat) (f:Nat→Nat→Nat) (cI:Nat→Nat) (i:Nat) (T:Nat→K) (x:Nat):K:=sC n cI i fun g=>T (f g x)
theorem GC.zr (h:GC n f e c cI xx) {T:Nat→K} (hT:oY n cI T) {a b:Nat} (ha:a < n) (hb:b < n):T (f a b)=T (f b a):=hT _ _ (h.G.cl _ _ ha hb) (h.G.cl _ _ hb ha) (h.comm ha hb)
theorem GC.AN (h:GC n f e c cI xx) {T:Nat→K} (hT:oY n cI T) (i:Nat):oY n cI (bZ n f cI i T):=fun a b ha hb hab=>by
 obtain ⟨y,hy,rfl⟩:=(h.cj a b ha hb).1 hab
 have G:=h.G
 have hj:=G.az hy
 unfold bZ
 rw [← h.H5 hj i fun g=>T (f g a)]
 refine cB fun g hg _=>?_
 show T (f (f (f (iv n f e (iv n f e y)) g) (iv n f e y)) a)=T (f g (f (f (iv n f e y) a) y))
 rw [G.cO hy]
 have h1:f g (f (f (iv n f e y) a) y)=f (f g (f (iv n f e y) a)) y:=(G.assoc _ _ _ hg (G.cl _ _ hj ha) hy).symm
 rw [h1,h.zr hT (G.cl _ _ hg (G.cl _ _ hj ha)) hy,G.assoc _ _ _ (G.cl _ _ hy hg) hj ha,G.assoc _ _ _ hy hg (G.cl _ _ hj ha)]
theorem GC.GO (h:GC n f e c cI xx) (T:Nat→K) (i j:Nat) {x:Nat} (hx:x < n):bZ n f cI i (bZ n f cI j T) x=bZ n f cI j (bZ n f cI i T) x:=by
 have G:=h.G
 unfold bZ
 have e1:sC n cI j (fun g=>sC n cI i fun g'=>T (f g' (f g x)))=sC n cI i fun g=>sC n cI j fun g'=>T (f g (f g' x)):=by
  unfold sC
  have a1:∀ g,g < n→(if cI g=j then sm (fun g'=>if cI g' = i then T (f g' (f g x)) else 0) n else 0)=sm (fun g'=>if cI g=j then (if cI g' = i then T (f g' (f g x)) else 0) else 0) n:=fun g _=>by
   split
   ·rfl
   exact (aW fun _ _=>rfl).symm
  rw [al a1,aX]
  refine al fun g' _=>?_
  by_cases hg:cI g' = i
  ·rw [if_pos hg]; exact al fun g _=>by split<;>simp [hg]
  rw [if_neg hg]; exact aW fun g _=>by split<;>simp [hg]
 rw [e1]
 refine cB fun g hg _=>?_
 rw [← h.H5 (G.az hg) j fun g'=>T (f g' (f g x))]
 refine cB fun g' hg' _=>?_
 show T (f (f (f (iv n f e (iv n f e g)) g') (iv n f e g)) (f g x))=T (f g (f g' x))
 rw [G.cO hg,G.assoc _ _ _ (G.cl _ _ hg hg') (G.az hg) (G.cl _ _ hg hx),h.By hg hx,G.assoc _ _ _ hg hg' hx]
def gM (K:Type) [CommRing K] (n:Nat) (f:Nat→Nat→Nat) (e:Nat) (cI xx:Nat→Nat) (i j k:Nat):K:=sC n cI i fun g=>if cI (f (iv n f e g) (xx k))=j then 1 else 0
def vT (n c:Nat) (cI:Nat→Nat) (T:Nat→K) (k:Nat):K:=if k < c then sC n cI k T else 0
theorem GC.jc (h:GC n f e c cI xx) {T:Nat→K} (hT:oY n cI T) {i j:Nat} (hj:j < c):sm (fun k=>gM K n f e cI xx i j k * vT n c cI T k) c=sC n cI j (bZ n f cI i T):=by
 have G:=h.G
 have hN:oY n cI fun z=>sC n cI i fun g=>if cI (f (iv n f e g) z)=j then (1:K) else 0:=fun a b ha hb hab=>by
  obtain ⟨y,hy,rfl⟩:=(h.cj a b ha hb).1 hab
  have hjy:=G.az hy
  show sC n cI i _=sC n cI i _
  rw [← h.H5 hy i fun g=>if cI (f (iv n f e g) (f (f (iv n f e y) a) y))=j then (1:K) else 0]
  refine cB fun g hg _=>?_
  have e1:iv n f e (cM n f e y g)=cM n f e y (iv n f e g):=by
   unfold cM
   rw [G.cr (G.cl _ _ hjy hg) hy,G.cr hjy hg,G.cO hy,G.assoc _ _ _ hjy (G.az hg) hy]
  have e2:f (cM n f e y (iv n f e g)) (f (f (iv n f e y) a) y)=cM n f e y (f (iv n f e g) a):=by
   unfold cM
   have hgi:=G.az hg
   rw [G.assoc _ _ _ (G.cl _ _ hjy hgi) hy (G.cl _ _ (G.cl _ _ hjy ha) hy),G.assoc (iv n f e y) a y hjy ha hy,h.nY hy (G.cl _ _ ha hy),
    G.assoc _ _ _ hjy hgi (G.cl _ _ ha hy),← G.assoc _ _ _ hgi ha hy,G.assoc _ _ _ hjy (G.cl _ _ hgi ha) hy]
  rw [e1,e2,h.Ht hy (G.cl _ _ (G.az hg) ha)]
 have e1:sm (fun k=>gM K n f e cI xx i j k * vT n c cI T k) c=sm (fun k=>sC n cI k fun y=>(sC n cI i fun g=>if cI (f (iv n f e g) y)=j then (1:K) else 0) * T y) c:=al fun k hk=>by
  unfold vT gM
  rw [if_pos hk,← Gn]
  refine cB fun y hy hyk=>?_
  have:=hN y (xx k) hy (h.xl k hk) (by rw [hyk,h.cx k hk])
  simp only at this
  rw [this]
 rw [e1,h.JS]
 have e2:sm (fun y=>(sC n cI i fun g=>if cI (f (iv n f e g) y)=j then (1:K) else 0) * T y) n=sC n cI i fun g=>sm (fun y=>(if cI (f (iv n f e g) y)=j then (1:K) else 0) * T y) n:=by
  rw [ER]
  exact al fun y _=>by rw [sT]
 rw [e2]
 have e3:∀ g,g < n→sm (fun y=>(if cI (f (iv n f e g) y)=j then (1:K) else 0) * T y) n=sC n cI j fun x=>T (f g x):=fun g hg=>by
  rw [← h.fu hg fun y=>(if cI (f (iv n f e g) y)=j then (1:K) else 0) * T y]
  unfold sC
  refine al fun x hx=>?_
  rw [h.By hg hx]
  split<;>grind
 rw [cB fun g hg _=>e3 g hg]
 unfold sC bZ
 have a1:∀ g,g < n→(if cI g=i then sm (fun x=>if cI x=j then T (f g x) else 0) n else 0)=sm (fun x=>if cI g=i then (if cI x=j then T (f g x) else 0) else 0) n:=fun g _=>by
  split
  ·rfl
  exact (aW fun _ _=>rfl).symm
 rw [al a1,aX]
 refine al fun x _=>?_
 by_cases hx:cI x=j
 ·rw [if_pos hx]
  unfold sC
  exact al fun g _=>by split<;>simp [hx]
 rw [if_neg hx]; exact aW fun g _=>by split<;>simp [hx]
theorem gQ (q:Nat→Bool) (l:List Nat) (F:Nat→K):sl (l.filter q) F=sl l fun x=>if q x=true then F x else 0:=by
 induction l with
 | nil=>rfl
 | cons x l ih =>
  rw [List.filter_cons,cA]
  by_cases hx:q x=true
  ·rw [if_pos hx,if_pos hx,cA,ih]
  rw [if_neg hx,if_neg hx,ih]; grind
def yN (n:Nat) (cI:Nat→Nat) (i:Nat):List Nat:=(List.range n).filter fun g=>decide (cI g=i)
theorem sQ (i:Nat) (F:Nat→K):sl (yN n cI i) F=sC n cI i F:=by
 unfold yN sC
 rw [gQ,cm]
 exact al fun g _=>by simp only [decide_eq_true_eq]
theorem Ew {i g:Nat} : g∈yN n cI i↔g < n∧cI g=i:=by simp [yN]
def k7 (f:Nat→Nat→Nat) (w:List Nat) (x:Nat):Nat:=w.foldr f x
theorem GC.Hs (h:GC n f e c cI xx) {w:List Nat} (hw:∀ y∈w,y < n) {x:Nat} (hx:x < n):k7 f w x < n:=by
 induction w with
 | nil=>exact hx
 | cons y w ih=>exact h.G.cl _ _ (hw y (by simp)) (ih fun z hz=>hw z (by simp [hz]))
theorem ox (w w' : List Nat) (x:Nat):k7 f (w++w') x=k7 f w (k7 f w' x):=List.foldr_append
theorem GC.Hr (h:GC n f e c cI xx) {w:List Nat} (hw:∀ y∈w,y < n) {x:Nat} (hx:x < n):k7 f w x=f (k7 f w e) x:=by
 induction w with
 | nil=>exact (h.G.one_l x hx).symm
 | cons y w ih =>
  have hw' : ∀ z∈w,z < n:=fun z hz=>hw z (by simp [hz])
  show f y (k7 f w x)=f (f y (k7 f w e)) x
  rw [ih hw',h.G.assoc _ _ _ (hw y (by simp)) (h.Hs hw' h.G.el) hx]
theorem GC.IY (h:GC n f e c cI xx) {a:Nat} (ha:a < n):∀ k,k7 f (List.replicate k a) e=pw f e a k
 | 0=>rfl
 | k + 1=>by
  rw [List.replicate_succ,h.G.uK ha]
  show f a (k7 f (List.replicate k a) e)=_
  rw [h.IY ha k]
def EK (n:Nat) (f:Nat→Nat→Nat) (cI:Nat→Nat) (i:Nat) (T:Nat→K):Nat→Nat→K
 | 0=>T
 | k + 1=>bZ n f cI i (EK n f cI i T k)
theorem qM (i:Nat) (T:Nat→K):∀ k x,EK n f cI i T k x=sW (yN n cI i) k fun w=>T (k7 f w x)
 | 0,x=>rfl
 | k + 1,x=>by
  rw [rJ]
  show sC n cI i (fun g=>EK n f cI i T k (f g x))=_
  rw [sQ]
  refine cB fun g _ _=>?_
  rw [qM i T k]
  congr 1
  funext w
  rw [ox]; rfl
theorem GC.H4 (h:GC n f e c cI xx) {T:Nat→K} (hT:oY n cI T) (i:Nat):∀ k,oY n cI (EK n f cI i T k)
 | 0=>hT
 | k + 1=>h.AN (h.H4 hT i k) i
theorem GC.JF (h:GC n f e c cI xx) {p:Nat} (R:Rp K p) (hcz:∀ a:Nat,0 < a→a < p→(a:K) ≠ 0) (hpw:∀ a,a < n→pw f e a p=a) {T:Nat→K} (hT:oY n cI T) (i:Nat) {j:Nat} : sC n cI j (EK n f cI i T p)=sC n cI j (bZ n f cI i T):=by
 have G:=h.G
 have hp0:0 < p:=by have:=R.two; omega
 let T2:Nat→K:=fun y=>sC n cI j fun x=>T (f y x)
 have hT2:oY n cI T2:=fun a b ha hb hab=>by
  obtain ⟨y,hy,rfl⟩:=(h.cj a b ha hb).1 hab
  have hjy:=G.az hy
  show sC n cI j _=sC n cI j _
  rw [← h.H5 hy j fun x=>T (f (f (f (iv n f e y) a) y) x)]
  refine cB fun x hx _=>?_
  have hyx:=G.cl _ _ hjy hx
  have e1:f (f (f (iv n f e y) a) y) (cM n f e y x)=cM n f e y (f a x):=by
   unfold cM
   rw [G.assoc _ _ _ (G.cl _ _ hjy ha) hy (G.cl _ _ hyx hy),G.assoc (iv n f e y) x y hjy hx hy,h.nY hy (G.cl _ _ hx hy),G.assoc _ _ _ hjy ha (G.cl _ _ hx hy),← G.assoc _ _ _ ha hx hy,← G.assoc _ _ _ hjy (G.cl _ _ ha hx) hy]
  rw [e1]
  exact hT _ _ (G.cl _ _ ha hx) (h.mf hy (G.cl _ _ ha hx)) (h.Ht hy (G.cl _ _ ha hx)).symm
 let F:List Nat→K:=fun w=>if ∀ y∈w,y < n then T2 (k7 f w e) else 0
 have hF:∀ w,F (jD w)=F w:=fun w=>by
  cases w with
  | nil=>rfl
  | cons y w =>
   simp only [F,jD]
   by_cases hw:∀ z∈y :: w,z < n
   ·have hw2:∀ z∈w++[y],z < n:=fun z hz=>hw z (by
     rcases List.mem_append.1 hz with hz | hz
     ·simp [hz]
     simp [List.mem_singleton.1 hz])
    rw [if_pos hw,if_pos hw2,ox]
    have hy:=hw y (by simp)
    have hw3:∀ z∈w,z < n:=fun z hz=>hw z (by simp [hz])
    have e1:k7 f [y] e=y:=G.one_r y hy
    rw [e1,h.Hr hw3 hy]
    exact h.zr hT2 (h.Hs hw3 G.el) hy
   have hw2:¬ ∀ z∈w++[y],z < n:=fun hh=>hw fun z hz=>hh z (by
    rcases List.mem_cons.1 hz with hz | hz
    ·simp [hz]
    simp [hz])
   rw [if_neg hw,if_neg hw2]
 have e1:sC n cI j (EK n f cI i T p)=sW (yN n cI i) p F:=by
  have e2:sC n cI j (EK n f cI i T p)=sl (yN n cI j) fun x=>sW (yN n cI i) p fun w=>T (k7 f w x):=by
   rw [sQ]
   exact cB fun x _ _=>qM i T p x
  have e3:∀ k (H:Nat→List Nat→K),sl (yN n cI j) (fun x=>sW (yN n cI i) k fun w=>H x w)=sW (yN n cI i) k fun w=>sl (yN n cI j) fun x=>H x w:=by
   intro k
   induction k with
   | zero=>intro H; rfl
   | succ k ih =>
    intro H
    simp only [sW]
    rw [sy]
    exact jj fun y _=>ih fun x w=>H x (y :: w)
  rw [e2,e3]
  refine eo fun w _ hw=>?_
  have hwn:∀ y∈w,y < n:=fun y hy=>(Ew.1 (hw y hy)).1
  simp only [F,T2]
  rw [if_pos hwn,sQ]
  exact cB fun x hx _=>by rw [h.Hr hwn hx]
 rw [e1,rV R.fld hp0 R.ch hcz (show (yN n cI i).Nodup from List.nodup_range.filter _) hF,sQ]
 have e4:sC n cI i (fun x=>F (List.replicate p x))=sC n cI i T2:=cB fun g hg _=>by
  simp only [F]
  rw [if_pos fun y hy=>by rw [List.eq_of_mem_replicate hy]; exact hg,h.IY hg,hpw g hg]
 rw [e4]
 simp only [T2]
 unfold sC bZ
 have a1:∀ g,g < n→(if cI g=i then sC n cI j (fun x=>T (f g x)) else 0)=sm (fun x=>if cI g=i then (if cI x=j then T (f g x) else 0) else 0) n:=fun g _=>by
  split
  ·rfl
  exact (aW fun _ _=>rfl).symm
 show sm (fun g=>if cI g=i then sC n cI j (fun x=>T (f g x)) else 0) n=_
 rw [al a1,aX]
 refine al fun x _=>?_
 by_cases hx:cI x=j
 ·rw [if_pos hx]
  unfold sC
  exact al fun g _=>by split<;>simp [hx]
 rw [if_neg hx]; exact aW fun g _=>by split<;>simp [hx]
end
end Go.Proofs.YtjlmpmidchddjaaDoor
namespace Go.Proofs.YtjlmpmidchddjaaDoor
open Lean.Grind
attribute [local instance] Lean.Grind.Semiring.natCast Lean.Grind.Ring.intCast
section
variable {n e c:Nat} {f:Nat→Nat→Nat} {cI xx:Nat→Nat} {K:Type} [CommRing K]
theorem GC.pC (h:GC n f e c cI xx) {i g:Nat} (hg:g < n) (F:Nat→K) (hF:∀ g',g' < n→cI g' = i→g' ≠ g→F g' = 0) (hgi:cI g=i):sC n cI i F=F g:=by
 unfold sC
 rw [bj hg fun j hj hne=>?_,if_pos hgi]
 by_cases hji:cI j=i
 ·rw [if_pos hji]; exact hF j hj hji hne
 rw [if_neg hji]
theorem GC.AE (h:GC n f e c cI xx) {a:Nat} (ha:a < n) (hae:cI a=cI e):a=e:=by
 obtain ⟨y,hy,hy2⟩:=(h.cj e a h.G.el ha).1 hae.symm
 rw [← hy2,h.G.one_r _ (h.G.az hy),h.G.cV hy]
theorem GC.Ko (h:GC n f e c cI xx) {i k:Nat} (hk:k < c):gM K n f e cI xx i (cI e) k=if i=k then 1 else 0:=by
 have G:=h.G
 have hx:=h.xl k hk
 unfold gM
 by_cases hik:i=k
 ·rw [if_pos hik,h.pC (g:=xx k) hx _ (fun g' hg' _ hne=>?_) (by rw [h.cx k hk,hik])]
  ·rw [G.cV hx,if_pos rfl]
  refine if_neg fun he=>?_
  have h1:=h.AE (G.cl _ _ (G.az hg') hx) he
  have h2:=h.nY hg' hx
  rw [h1,G.one_r _ hg'] at h2
  exact hne h2
 rw [if_neg hik]
 unfold sC
 refine aW fun g hg=>?_
 by_cases hgi:cI g=i
 ·rw [if_pos hgi]
  refine if_neg fun he=>?_
  have h1:=h.AE (G.cl _ _ (G.az hg) hx) he
  have h2:=h.nY hg hx
  rw [h1,G.one_r _ hg] at h2
  rw [h2,h.cx k hk] at hgi
  exact hik hgi.symm
 rw [if_neg hgi]
theorem GC.Kh (h:GC n f e c cI xx) {a:Nat} (ha:a < n) (F:Nat→K):se K n cI (cI a) * sm (fun y=>F (cM n f e y a)) n=(n:K) * sC n cI (cI a) F:=by
 have G:=h.G
 have e1:∀ g,g < n→cI g=cI a→sm (fun y=>F (cM n f e y g)) n=sm (fun y=>F (cM n f e y a)) n:=fun g hg hga=>by
  obtain ⟨z,hz,rfl⟩:=(h.cj a g ha hg).1 hga.symm
  rw [← h.fu hz fun y=>F (cM n f e y a)]
  refine al fun y hy=>?_
  congr 1
  unfold cM
  have hjz:=G.az hz
  have hjy:=G.az hy
  rw [G.cr hz hy,← G.assoc _ _ _ hjy (G.cl _ _ hjz ha) hz,← G.assoc _ _ _ hjy hjz ha,G.assoc _ _ _ (G.cl _ _ (G.cl _ _ hjy hjz) ha) hz hy]
 unfold se
 rw [← sT]
 have e2:sC n cI (cI a) (fun _=>(1:K) * sm (fun y=>F (cM n f e y a)) n)=sC n cI (cI a) fun g=>sm (fun y=>F (cM n f e y g)) n:=cB fun g hg hga=>by rw [e1 g hg hga]; grind
 rw [e2,ER,al fun y hy=>h.H5 hy (cI a) F,dT]
structure k9 (n:Nat) (f:Nat→Nat→Nat) (e:Nat) (cI:Nat→Nat) (t:Nat→K):Prop where
 cl:oY n cI t
 one:t e=1
 mul:∀ a b,a < n→b < n→sm (fun y=>t (f (cM n f e y a) b)) n=(n:K) * (t a * t b)
def bT (n:Nat) (f:Nat→Nat→Nat) (e:Nat) (t t' : Nat→K) (u:Nat):K:=sm (fun z=>t (f u z) * t' (iv n f e z)) n
theorem GC.wu (h:GC n f e c cI xx) (t t' : Nat→K) {u:Nat} (hu:u < n):bT n f e t t' u=sm (fun w=>t w * t' (f (iv n f e w) u)) n:=by
 have G:=h.G
 unfold bT
 rw [← h.fu (G.az hu) fun z=>t (f u z) * t' (iv n f e z)]
 refine al fun w hw=>?_
 rw [h.nY hu hw,G.cr (G.az hu) hw,G.cO hu]
theorem GC.Ke (h:GC n f e c cI xx) {t t' : Nat→K} (ht:oY n cI t) (ht' : oY n cI t'):oY n cI (bT n f e t t'):=fun a b ha hb hab=>by
 obtain ⟨y,hy,rfl⟩:=(h.cj a b ha hb).1 hab
 have G:=h.G
 have hjy:=G.az hy
 unfold bT
 rw [← h.CN hy fun z=>t (f (f (f (iv n f e y) a) y) z) * t' (iv n f e z)]
 refine al fun z hz=>?_
 have hyz:=G.cl _ _ hjy hz
 have e1:f (f (f (iv n f e y) a) y) (cM n f e y z)=cM n f e y (f a z):=by
  unfold cM
  rw [G.assoc _ _ _ (G.cl _ _ hjy ha) hy (G.cl _ _ hyz hy),G.assoc (iv n f e y) z y hjy hz hy,h.nY hy (G.cl _ _ hz hy),G.assoc _ _ _ hjy ha (G.cl _ _ hz hy),← G.assoc _ _ _ ha hz hy,← G.assoc _ _ _ hjy (G.cl _ _ ha hz) hy]
 have e2:iv n f e (cM n f e y z)=cM n f e y (iv n f e z):=by
  unfold cM
  rw [G.cr hyz hy,G.cr hjy hz,G.cO hy,G.assoc _ _ _ hjy (G.az hz) hy]
 rw [e1,e2,ht _ (f a z) (h.mf hy (G.cl _ _ ha hz)) (G.cl _ _ ha hz) (h.Ht hy (G.cl _ _ ha hz)),ht' _ (iv n f e z) (h.mf hy (G.az hz)) (G.az hz) (h.Ht hy (G.az hz))]
theorem GC.J3 (h:GC n f e c cI xx) {t t' : Nat→K} (ht:k9 n f e cI t) {a b:Nat} (ha:a < n) (hb:b < n):sm (fun y=>bT n f e t t' (f (cM n f e y a) b)) n=(n:K) * (t a * bT n f e t t' b):=by
 have G:=h.G
 unfold bT
 rw [aX]
 have e1:∀ z,z < n→sm (fun y=>t (f (f (cM n f e y a) b) z) * t' (iv n f e z)) n=(n:K) * (t a * (t (f b z) * t' (iv n f e z))):=fun z hz=>by
  rw [bU]
  have e2:sm (fun y=>t (f (f (cM n f e y a) b) z)) n=(n:K) * (t a * t (f b z)):=by
   rw [← ht.mul a (f b z) ha (G.cl _ _ hb hz)]
   exact al fun y hy=>by rw [G.assoc _ _ _ (h.mf hy ha) hb hz]
  rw [e2]; grind
 rw [al e1,aN,aN]
theorem GC.J4 (h:GC n f e c cI xx) {t t' : Nat→K} (ht' : k9 n f e cI t') {a b:Nat} (ha:a < n) (hb:b < n):sm (fun y=>bT n f e t t' (f (cM n f e y a) b)) n=(n:K) * (t' a * bT n f e t t' b):=by
 have G:=h.G
 rw [h.wu t t' hb,al fun y hy=>h.wu t t' (G.cl _ _ (h.mf hy ha) hb),aX]
 have e1:∀ w,w < n→sm (fun y=>t w * t' (f (iv n f e w) (f (cM n f e y a) b))) n=(n:K) * (t' a * (t w * t' (f (iv n f e w) b))):=fun w hw=>by
  rw [aN]
  have hjw:=G.az hw
  have e2:sm (fun y=>t' (f (iv n f e w) (f (cM n f e y a) b))) n=(n:K) * (t' a * t' (f b (iv n f e w))):=by
   rw [← ht'.mul a (f b (iv n f e w)) ha (G.cl _ _ hb hjw)]
   refine al fun y hy=>?_
   rw [h.zr ht'.cl hjw (G.cl _ _ (h.mf hy ha) hb),G.assoc _ _ _ (h.mf hy ha) hb hjw]
  rw [e2,h.zr ht'.cl hb hjw]; grind
 rw [al e1,aN,aN]
theorem GC.yM (h:GC n f e c cI xx) (F:nt K) (hn:(n:K) ≠ 0) {t t' : Nat→K} (ht:k9 n f e cI t) (ht' : k9 n f e cI t') {a:Nat} (ha:a < n) (hne:t a ≠ t' a) {b:Nat} (hb:b < n):bT n f e t t' b=0:=by
 have h1:=h.J3 (t':=t') ht ha hb
 rw [h.J4 (t:=t) ht' ha hb] at h1
 have h2:(n:K) * ((t a - t' a) * bT n f e t t' b)=0:=by grind
 rcases F.mul h2 with h3 | h3
 ·exact absurd h3 hn
 rcases F.mul h3 with h4 | h4
 ·exact absurd (by grind) hne
 exact h4
theorem GC.self (h:GC n f e c cI xx) (F:nt K) (hn:(n:K) ≠ 0) {t:Nat→K} (ht:k9 n f e cI t) {a:Nat} (ha:a < n):bT n f e t t a=bT n f e t t e * t a:=by
 have G:=h.G
 have h1:=h.J3 (t':=t) ht ha G.el
 have hc:=h.Ke ht.cl ht.cl
 have e1:sm (fun y=>bT n f e t t (f (cM n f e y a) e)) n=(n:K) * bT n f e t t a:=by
  rw [← dT]
  refine al fun y hy=>?_
  rw [G.one_r _ (h.mf hy ha)]
  exact hc _ _ (h.mf hy ha) ha (h.Ht hy ha)
 rw [e1] at h1
 have h2:(n:K) * (bT n f e t t a - bT n f e t t e * t a)=0:=by grind
 rcases F.mul h2 with h3 | h3
 ·exact absurd h3 hn
 grind
structure jf (K:Type) [CommRing K] (p n:Nat) (f:Nat→Nat→Nat) (e c:Nat) (cI xx:Nat→Nat) (TT:List (List (List Int))) (io:Nat→K):Prop where
 C:GC n f e c cI xx
 R:Rp K p
 nz:(n:K) ≠ 0
 cz:∀ a:Nat,0 < a→a < p→(a:K) ≠ 0
 io:∀ i,i < c→se K n cI i * io i=1
 pw:∀ a,a < n→pw f e a p=a
 len:∀ i,i < c→(TT.getD i []).length=c
 zl:∀ i j k,i < c→j < c→k < c→bV (TT.getD i []) j k=gM K n f e cI xx i j k
variable {p:Nat} {TT:List (List (List Int))} {io:Nat→K}
def bp (cI:Nat→Nat) (io:Nat→K) (v:Nat→K) (a:Nat):K:=v (cI a) * io (cI a)
theorem jf.Gy (h:jf K p n f e c cI xx TT io) (v:Nat→K):oY n cI (bp cI io v):=fun a b _ _ hab=>by unfold bp; rw [hab]
theorem jf.vT (h:jf K p n f e c cI xx TT io) {v:Nat→K} (hv:∀ j,c≤j→v j=0):vT n c cI (bp cI io v)=v:=by
 funext k
 unfold Go.Proofs.YtjlmpmidchddjaaDoor.vT
 by_cases hk:k < c
 ·rw [if_pos hk,h.C.DC (h.Gy v) hk]
  unfold bp
  rw [h.C.cx k hk]
  have:=h.io k hk
  grind
 rw [if_neg hk,hv k (by omega)]
theorem jf.Gx (h:jf K p n f e c cI xx TT io) {T:Nat→K} (hT:oY n cI T) {i:Nat} (hi:i < c):dt c (TT.getD i []) (Go.Proofs.YtjlmpmidchddjaaDoor.vT n c cI T)=Go.Proofs.YtjlmpmidchddjaaDoor.vT n c cI (bZ n f cI i T):=by
 funext j
 unfold dt
 by_cases hj:j < c
 ·rw [if_pos hj,al fun k hk=>by rw [h.zl i j k hi hj hk],h.C.jc hT hj]
  unfold Go.Proofs.YtjlmpmidchddjaaDoor.vT
  rw [if_pos hj]
 unfold Go.Proofs.YtjlmpmidchddjaaDoor.vT
 rw [if_neg hj,if_neg hj]
theorem oF (c:Nat) (m:List (List Int)) (u:Nat→K):dt c m u=dt c m fun k=>if k < c then u k else 0:=by
 funext j
 unfold dt
 by_cases hj:j < c
 ·rw [if_pos hj,if_pos hj]; exact al fun k hk=>by show _=_ * (if k < c then u k else 0); rw [if_pos hk]
 rw [if_neg hj,if_neg hj]
theorem jf.ex (h:jf K p n f e c cI xx TT io) (u:Nat→K):∃ T,oY n cI T∧(fun k=>if k < c then u k else 0)=Go.Proofs.YtjlmpmidchddjaaDoor.vT n c cI T:=⟨_,h.Gy _,(h.vT (v:=fun k=>if k < c then u k else 0) fun j hj=>if_neg (by omega)).symm⟩
theorem jf.JU (h:jf K p n f e c cI xx TT io) {i t:Nat} (hi:i < c) (ht:t < c) (u:Nat→K):dt c (TT.getD t []) (dt c (TT.getD i []) u)=dt c (TT.getD i []) (dt c (TT.getD t []) u):=by
 obtain ⟨T,hT,e1⟩:=h.ex u
 rw [oF c _ u,oF c (TT.getD t []) u,e1,h.Gx hT hi,h.Gx hT ht,h.Gx (h.C.AN hT i) ht,h.Gx (h.C.AN hT t) hi]
 funext k
 unfold Go.Proofs.YtjlmpmidchddjaaDoor.vT
 by_cases hk:k < c
 ·rw [if_pos hk,if_pos hk]
  exact cB fun g hg _=>h.C.GO T t i hg
 rw [if_neg hk,if_neg hk]
theorem jf.me (h:jf K p n f e c cI xx TT io) {T:Nat→K} (hT:oY n cI T) {i:Nat} (hi:i < c):∀ k,nF (dt c (TT.getD i [])) k (Go.Proofs.YtjlmpmidchddjaaDoor.vT n c cI T)=Go.Proofs.YtjlmpmidchddjaaDoor.vT n c cI (EK n f cI i T k)
 | 0=>rfl
 | k + 1=>by
  show dt c (TT.getD i []) (nF _ k _)=_
  rw [h.me hT hi k,h.Gx (h.C.H4 hT i k) hi]
  rfl
theorem jf.pow (h:jf K p n f e c cI xx TT io) {i:Nat} (hi:i < c) (u:Nat→K):nF (dt c (TT.getD i [])) p u=dt c (TT.getD i []) u:=by
 obtain ⟨T,hT,e1⟩:=h.ex u
 have hp:∃ q,p=q + 1:=⟨p - 1,by have:=h.R.two; omega⟩
 have e2:∀ q,nF (dt c (TT.getD i [])) (q + 1) u=nF (dt c (TT.getD i [])) (q + 1) fun k=>if k < c then u k else 0:=fun q=>by
  induction q with
  | zero=>exact oF c _ u
  | succ q ih=>show dt c _ (nF _ (q + 1) u)=_; rw [ih]; rfl
 obtain ⟨q,hq⟩:=hp
 rw [hq,e2 q,← hq,oF c _ u,e1,h.me hT hi p,h.Gx hT hi]
 funext k
 unfold Go.Proofs.YtjlmpmidchddjaaDoor.vT
 by_cases hk:k < c
 ·rw [if_pos hk,if_pos hk]; exact h.C.JF h.R h.cz h.pw hT i
 rw [if_neg hk,if_neg hk]
theorem jf.BQ (h:jf K p n f e c cI xx TT io):0 < c:=by have:=h.C.lt e h.C.G.el; omega
theorem jf.H9 (h:jf K p n f e c cI xx TT io):∀ i,i≤c→EL K p c TT i:=
 wX h.R h.BQ h.len (fun i t hi ht u=>h.JU hi ht u) fun i hi u=>h.pow hi u
theorem jf.space (h:jf K p n f e c cI xx TT io) {s:List (List Int)} (hs:s∈cZ p TT [aP c c] c):∃ lam:Nat→K,(∀ j,c≤j→lam j=0)∧lam (cI e)=1∧bC s lam∧(∀ u:Nat→K,bC s u→∀ j,u j=u (cI e) * lam j)∧bV s 0 (cI e) ≠ (0:K)∧k9 n f e cI (bp cI io lam):=by
 obtain ⟨la,l1,l2⟩:=(h.H9 c (Nat.le_refl _)).val s hs
 have ho:=mr (p:=p) (c:=c) h.R.two TT h.BQ c s hs
 have hoc:=h.C.lt e h.C.G.el
 have hrd:∀ u:Nat→K,bC s u→∀ i,i < c→u i=la i * u (cI e):=fun u hu i hi=>by
  have h1:=((l1 u).1 hu).2 i hi (cI e)
  rw [← h1]
  unfold dt
  rw [if_pos hoc,al (g:=fun k=>(if i=k then (1:K) else 0) * u k) fun k hk=>by rw [h.zl i (cI e) k hi hoc hk,h.C.Ko hk],bj hi fun k _ hne=>by rw [if_neg (fun e=>hne e.symm)]; grind,if_pos rfl]
  grind
 have hu0:bC s (bV (K:=K) s 0):=bC.get ho.pos
 have hu1:bV (K:=K) s 0 (cI e) ≠ 0:=fun h0=>vW h.R l2 ho.pos fun j=>by
  by_cases hj:j < c
  ·rw [hrd _ hu0 j hj,h0]; grind
  exact ((l1 _).1 hu0).1 j (by omega)
 obtain ⟨iv0,hiv0⟩:=h.R.fld.1 _ hu1
 let lam:Nat→K:=fun j=>if j < c then la j else 0
 have hla:lam=fun j=>iv0 * bV s 0 j:=by
  funext j
  by_cases hj:j < c
  ·show (if j < c then la j else 0)=_
   rw [if_pos hj,hrd _ hu0 j hj]; grind
  show (if j < c then la j else 0)=_
  rw [if_neg hj,((l1 _).1 hu0).1 j (by omega)]; grind
 have hls:bC s lam:=by rw [hla]; exact (bC.mO s).smul _ _ hu0
 have hlo:lam (cI e)=1:=by rw [hla]; simp only; grind
 have hsup:∀ j,c≤j→lam j=0:=fun j hj=>if_neg (by omega)
 refine ⟨lam,hsup,hlo,hls,fun u hu j=>?_,hu1,h.Gy _,?_,fun a b ha hb=>?_⟩
 ·by_cases hj:j < c
  ·show _=u (cI e) * (if j < c then la j else 0)
   rw [if_pos hj,hrd u hu j hj]; grind
  rw [hsup j (by omega),((l1 u).1 hu).1 j (by omega)]; grind
 ·
  unfold bp
  have h1:=h.io _ hoc
  have h2:se K n cI (cI e)=1:=by
   unfold se
   exact h.C.pC h.C.G.el _ (fun g hg hge hne=>absurd (h.C.AE hg hge) hne) rfl
  rw [h2] at h1
  rw [hlo]; grind
 have hT:=h.Gy lam
 have hA:∀ i,i < c→∀ x,x < n→bZ n f cI i (bp cI io lam) x=lam i * bp cI io lam x:=fun i hi x hx=>by
  have h1:=h.Gx hT hi
  rw [h.vT hsup] at h1
  have hxc:=h.C.lt x hx
  have h2:=congrFun h1 (cI x)
  rw [((l1 lam).1 hls).2 i hi (cI x)] at h2
  unfold Go.Proofs.YtjlmpmidchddjaaDoor.vT at h2
  rw [if_pos hxc,h.C.DC (h.C.AN hT i) hxc] at h2
  have h3:=h.C.AN hT i x (xx (cI x)) hx (h.C.xl _ hxc) (by rw [h.C.cx _ hxc])
  have h4:=h.io _ hxc
  have h5:lam i=la i:=if_pos hi
  rw [h3]
  unfold bp at h2 ⊢
  rw [h5]
  grind
 have h1:=h.C.Kh ha fun g=>bp cI io lam (f g b)
 have h2:sC n cI (cI a) (fun g=>bp cI io lam (f g b))=lam (cI a) * bp cI io lam b:=hA _ (h.C.lt a ha) b hb
 rw [h2] at h1
 have h4:=h.io _ (h.C.lt a ha)
 have h5:bp cI io lam a=lam (cI a) * io (cI a):=rfl
 rw [h5]
 have h6:sm (fun y=>bp cI io lam (f (cM n f e y a) b)) n=io (cI a) * (se K n cI (cI a) * sm (fun y=>bp cI io lam (f (cM n f e y a) b)) n):=by grind
 rw [h6,h1]; grind
end
end Go.Proofs.YtjlmpmidchddjaaDoor
namespace Go.Proofs.YtjlmpmidchddjaaDoor
open Lean.Grind
attribute [local instance] Lean.Grind.Semiring.natCast Lean.Grind.Ring.intCast
section
variable {n e c:Nat} {f:Nat→Nat→Nat} {cI xx:Nat→Nat} {K:Type} [CommRing K] {p:Nat} {TT:List (List (List Int))} {io:Nat→K}
def ve (n:Nat) (f:Nat→Nat→Nat) (e:Nat) (w:List Nat) (x:Nat):Nat:=w.foldr (fun a r=>f (iv n f e a) r) x
theorem GC.Jg (h:GC n f e c cI xx) {w:List Nat} (hw:∀ y∈w,y < n) {x:Nat} (hx:x < n):ve n f e w x < n:=by
 induction w with
 | nil=>exact hx
 | cons y w ih=>exact h.G.cl _ _ (h.G.az (hw y (by simp))) (ih fun z hz=>hw z (by simp [hz]))
theorem DH (w w' : List Nat) (x:Nat):ve n f e (w++w') x=ve n f e w (ve n f e w' x):=List.foldr_append
theorem GC.J5 (h:GC n f e c cI xx) {w:List Nat} (hw:∀ y∈w,y < n) {x:Nat} (hx:x < n):ve n f e w x=f (ve n f e w e) x:=by
 induction w with
 | nil=>exact (h.G.one_l x hx).symm
 | cons y w ih =>
  have hw' : ∀ z∈w,z < n:=fun z hz=>hw z (by simp [hz])
  show f (iv n f e y) (ve n f e w x)=f (f (iv n f e y) (ve n f e w e)) x
  rw [ih hw',h.G.assoc _ _ _ (h.G.az (hw y (by simp))) (h.Jg hw' h.G.el) hx]
theorem GC.JZ (h:GC n f e c cI xx) {a:Nat} (ha:a < n):∀ k,ve n f e (List.replicate k a) e=pw f e (iv n f e a) k
 | 0=>rfl
 | k + 1=>by
  rw [List.replicate_succ,h.G.uK (h.G.az ha)]
  show f (iv n f e a) (ve n f e (List.replicate k a) e)=_
  rw [h.JZ ha k]
theorem GC.two (h:GC n f e c cI xx) (F:nt K) (hn:(n:K) ≠ 0) {t:Nat→K} (ht:k9 n f e cI t) {A B:Nat} (hA:A < n) (hB:B < n) :
  sm (fun g=>sm (fun y=>t (f g (f y A)) * t (f (iv n f e g) (f (iv n f e y) B))) n) n=(n:K) * bT n f e t t e * (t A * t B):=by
 have G:=h.G
 rw [aX]
 have e1:∀ y,y < n→sm (fun g=>t (f g (f y A)) * t (f (iv n f e g) (f (iv n f e y) B))) n=sm (fun u=>t (f u A) * t (f (cM n f e (iv n f e y) (iv n f e u)) B)) n:=fun y hy=>by
  have hj:=G.az hy
  rw [← h.Iy hj fun g=>t (f g (f y A)) * t (f (iv n f e g) (f (iv n f e y) B))]
  refine al fun u hu=>?_
  have e2:f (f u (iv n f e y)) (f y A)=f u A:=by rw [G.assoc _ _ _ hu hj (G.cl _ _ hy hA),h.By hy hA]
  have e3:f (iv n f e (f u (iv n f e y))) (f (iv n f e y) B)=f (cM n f e (iv n f e y) (iv n f e u)) B:=by
   unfold cM
   rw [G.cr hu hj,G.cO hy,G.assoc _ _ _ (G.cl _ _ hy (G.az hu)) hj hB]
  simp only [e2,e3]
 rw [al e1,aX]
 have e4:∀ u,u < n→sm (fun y=>t (f u A) * t (f (cM n f e (iv n f e y) (iv n f e u)) B)) n=(n:K) * t B * (t (f A u) * t (iv n f e u)):=fun u hu=>by
  rw [aN,h.BN fun y=>t (f (cM n f e y (iv n f e u)) B),ht.mul _ _ (G.az hu) hB,h.zr ht.cl hA hu]
  grind
 rw [al e4,aN]
 have e5:=h.self F hn ht hA
 unfold bT at e5 ⊢
 rw [e5]; grind
theorem GC.HS (h:GC n f e c cI xx) (R:Rp K p) (hn:(n:K) ≠ 0) (hcz:∀ a:Nat,0 < a→a < p→(a:K) ≠ 0) (hpw:∀ a,a < n→pw f e a p=a) {t:Nat→K} (ht:k9 n f e cI t) (hs:bT n f e t t e ≠ 0) {m:Nat} (hm:p=2 * m + 1):((n:K) * bT n f e t t e) ^ m=1:=by
 have G:=h.G
 let Q:Nat→Nat→Nat→K:=fun k a b=>sW (List.range n) k fun w=>t (k7 f w a) * t (ve n f e w b)
 have hQ:∀ k a b,a < n→b < n→Q (k + 2) a b=((n:K) * bT n f e t t e) * Q k a b:=fun k a b ha hb=>by
  simp only [Q,sW]
  rw [cm,al fun g _=>cm _ n]
  have e1:sm (fun g=>sm (fun y=>sW (List.range n) k fun w=>t (k7 f (g :: y :: w) a) * t (ve n f e (g :: y :: w) b)) n) n=sW (List.range n) k fun w=>sm (fun g=>sm (fun y=>t (f g (f y (k7 f w a))) * t (f (iv n f e g) (f (iv n f e y) (ve n f e w b)))) n) n:=by
   have e3:∀ k (H:Nat→List Nat→K),sm (fun x=>sW (List.range n) k fun w=>H x w) n=sW (List.range n) k fun w=>sm (fun x=>H x w) n:=by
    intro k
    induction k with
    | zero=>intro H; rfl
    | succ k ih =>
     intro H
     simp only [sW]
     rw [← cm,sy]
     refine jj fun y _=>?_
     rw [cm]
     exact ih fun x w=>H x (y :: w)
   rw [al fun g _=>e3 k fun y w=>t (k7 f (g :: y :: w) a) * t (ve n f e (g :: y :: w) b),e3]
   rfl
  rw [e1,← p6]
  refine eo fun w _ hw=>?_
  have hwn:∀ y∈w,y < n:=fun y hy=>List.mem_range.1 (hw y hy)
  exact h.two R.fld hn ht (h.Hs hwn ha) (h.Jg hwn hb)
 have hQ1:Q 1 e e=bT n f e t t e:=by
  simp only [Q,sW]
  rw [cm]
  unfold bT
  refine al fun g hg=>?_
  show t (f g e) * t (f (iv n f e g) e)=_
  rw [G.one_r g hg,G.one_l g hg,G.one_r _ (G.az hg)]
 have hQm:∀ j,Q (2 * j + 1) e e=((n:K) * bT n f e t t e) ^ j * bT n f e t t e:=fun j=>by
  induction j with
  | zero=>rw [Semiring.pow_zero]; show Q 1 e e=_; rw [hQ1]; grind
  | succ j ih =>
   rw [show 2 * (j + 1) + 1=(2 * j + 1) + 2 by omega,hQ _ e e G.el G.el,ih,Semiring.pow_succ]; grind
 let F:List Nat→K:=fun w=>if ∀ y∈w,y < n then t (k7 f w e) * t (ve n f e w e) else 0
 have hF:∀ w,F (jD w)=F w:=fun w=>by
  cases w with
  | nil=>rfl
  | cons y w =>
   simp only [F,jD]
   by_cases hw:∀ z∈y :: w,z < n
   ·have hw2:∀ z∈w++[y],z < n:=fun z hz=>hw z (by
     rcases List.mem_append.1 hz with hz | hz
     ·simp [hz]
     simp [List.mem_singleton.1 hz])
    rw [if_pos hw,if_pos hw2,ox,DH]
    have hy:=hw y (by simp)
    have hw3:∀ z∈w,z < n:=fun z hz=>hw z (by simp [hz])
    have e1:k7 f [y] e=y:=G.one_r y hy
    have e2:ve n f e [y] e=iv n f e y:=G.one_r _ (G.az hy)
    rw [e1,e2,h.Hr hw3 hy,h.J5 hw3 (G.az hy),h.zr ht.cl (h.Hs hw3 G.el) hy,h.zr ht.cl (h.Jg hw3 G.el) (G.az hy)]
    rfl
   have hw2:¬ ∀ z∈w++[y],z < n:=fun hh=>hw fun z hz=>hh z (by
    rcases List.mem_cons.1 hz with hz | hz
    ·simp [hz]
    simp [hz])
   rw [if_neg hw,if_neg hw2]
 have hQp:Q p e e=bT n f e t t e:=by
  have e1:Q p e e=sW (List.range n) p F:=eo fun w _ hw=>by
   have hwn:∀ y∈w,y < n:=fun y hy=>List.mem_range.1 (hw y hy)
   simp only [F]
   rw [if_pos hwn]
  rw [e1,rV R.fld (by have:=R.two; omega) R.ch hcz (List.nodup_range) hF,cm]
  unfold bT
  refine al fun g hg=>?_
  simp only [F]
  rw [if_pos fun y hy=>by rw [List.eq_of_mem_replicate hy]; exact hg,h.IY hg,h.JZ hg,hpw g hg,hpw _ (G.az hg),G.one_l g hg]
 have h1:=hQm m
 rw [← hm,hQp] at h1
 have h2:(((n:K) * bT n f e t t e) ^ m - 1) * bT n f e t t e=0:=by grind
 rcases R.fld.mul h2 with h3 | h3
 ·grind
 exact absurd h3 hs
theorem yL {p c i:Nat} (R:Rp K p) {T:List (List (List Int))} (hc:0 < c) (hi:i < c) (hT:(T.getD i []).length=c) (hcom:∀ t,t < i→∀ u:Nat→K,dt c (T.getD t []) (dt c (T.getD i []) u)=dt c (T.getD i []) (dt c (T.getD t []) u)) (hpow:∀ u:Nat→K,nF (dt c (T.getD i [])) p u=dt c (T.getD i []) u)
  (h:EL K p c T i):∀ s∈cZ p T [aP c c] i,gE p s (T.getD i []) ≠ []:=fun s hs=>by
 obtain ⟨lam,l1,l2⟩:=h.val s hs
 have ho:=mr (p:=p) (c:=c) R.two T hc i s hs
 have h1:∀ u:Nat→K,bC s u→bC s (dt c (T.getD i []) u):=fun u hu=>by
  obtain ⟨u1,u2⟩:=(l1 u).1 hu
  refine (l1 _).2 ⟨fun j hj=>by unfold dt; rw [if_neg (by omega)],fun t ht j=>?_⟩
  rw [hcom t ht u]
  have e:dt c (T.getD t []) u=fun j=>lam t * u j:=funext fun j=>u2 t ht j
  rw [e,(oH c _).2]
 have h2:=pK (K:=K) R ho hT h1 (fun u _=>hpow u) l2
 intro h0
 refine vW R l2 ho.pos fun j=>?_
 exact h2.2.2 (fun u=>∀ j,u j=0) ⟨fun _=>rfl,fun u v hu hv j=>by show u j + v j=0; rw [hu,hv]; grind,fun k u hu j=>by show k * u j=0; rw [hu]; grind⟩ (fun t ht=>by rw [h0] at ht; cases ht) _ (bC.get ho.pos) j
structure Db (K:Type) [CommRing K] (p n:Nat) (f:Nat→Nat→Nat) (e c:Nat) (cI:Nat→Nat) (TT:List (List (List Int))) (io:Nat→K) (lam:Nat→Nat→K):Prop where
 len:(cZ p TT [aP c c] c).length=c
 sup:∀ q,q < c→∀ j,c≤j→lam q j=0
 one:∀ q,q < c→lam q (cI e)=1
 spa:∀ q,q < c→∀ u:Nat→K,bC ((cZ p TT [aP c c] c).getD q []) u→∀ j,u j=u (cI e) * lam q j
 fst:∀ q,q < c→bV ((cZ p TT [aP c c] c).getD q []) 0 (cI e) ≠ (0:K)
 chr:∀ q,q < c→k9 n f e cI (bp cI io (lam q))
 nz:∀ q,q < c→bT n f e (bp cI io (lam q)) (bp cI io (lam q)) e ≠ 0
 ort:∀ q q',q < c→q' < c→q ≠ q'→bT n f e (bp cI io (lam q)) (bp cI io (lam q')) e=0
 all:∀ v:Nat→K,(∀ j,c≤j→v j=0)→∃ a:Nat→K,∀ j,v j=sm (fun q=>a q * lam q j) c
 few:∀ i,i≤c→(cZ p TT [aP c c] i).length≤c
theorem jf.IZ (h:jf K p n f e c cI xx TT io):∃ lam:Nat→Nat→K,Db K p n f e c cI TT io lam:=by
 have G:=h.C.G
 have hc:=h.BQ
 have F:=h.R.fld
 have hps:=h.H9 c (Nat.le_refl _)
 obtain ⟨Sp,hSp⟩:∃ Sp,cZ p TT [aP c c] c=Sp:=⟨_,rfl⟩
 obtain ⟨r,hr⟩:∃ r,Sp.length=r:=⟨_,rfl⟩
 have h1:∀ q,∃ lam:Nat→K,q < r→(∀ j,c≤j→lam j=0)∧lam (cI e)=1∧bC (Sp.getD q []) lam∧(∀ u:Nat→K,bC (Sp.getD q []) u→∀ j,u j=u (cI e) * lam j)∧bV (Sp.getD q []) 0 (cI e) ≠ (0:K)∧k9 n f e cI (bp cI io lam):=fun q=>by
  by_cases hq:q < r
  ·obtain ⟨lam,hl⟩:=h.space (s:=Sp.getD q []) (by rw [hSp]; exact aC (by omega))
   exact ⟨lam,fun _=>hl⟩
  exact ⟨fun _=>0,fun hq2=>absurd hq2 hq⟩
 obtain ⟨lam,hl⟩:=Classical.axiomOfChoice h1
 have hdis:∀ q q',q < q'→q' < r→∃ a,a < n∧bp cI io (lam q) a ≠ bp cI io (lam q') a:=fun q q' hqq hq'=>by
  refine Classical.byContradiction fun hno=>?_
  have hsame:∀ a,a < n→bp cI io (lam q) a=bp cI io (lam q') a:=fun a ha=>Classical.byContradiction fun hc=>hno ⟨a,ha,hc⟩
  obtain ⟨a1,a2,a3,_⟩:=hl q (by omega)
  obtain ⟨b1,b2,b3,_⟩:=hl q' hq'
  have heq:lam q=lam q':=by
   funext j
   by_cases hj:j < c
   ·have h2:=hsame (xx j) (h.C.xl j hj)
    unfold bp at h2
    rw [h.C.cx j hj] at h2
    have h3:=h.io j hj
    have h4:(lam q j - lam q' j) * (se K n cI j * io j)=0:=by grind
    rw [h3] at h4
    grind
   rw [a1 j (by omega),b1 j (by omega)]
  have hd:=hps.dis
  rw [hSp] at hd
  have hd2:=List.pairwise_iff_getElem.1 hd q q' (by omega) (by omega) hqq
  have e1:Sp[q]'(by omega)=Sp.getD q []:=by simp [List.getD,List.getElem?_eq_getElem (show q < Sp.length by omega)]
  have e2:Sp[q']'(by omega)=Sp.getD q' []:=by simp [List.getD,List.getElem?_eq_getElem (show q' < Sp.length by omega)]
  rw [e1,e2] at hd2
  have:=hd2 (lam q) a3 (by rw [heq]; exact b3) (cI e)
  rw [a2] at this
  exact F.2 this
 have hort:∀ q q',q < r→q' < r→q ≠ q'→∀ b,b < n→bT n f e (bp cI io (lam q)) (bp cI io (lam q')) b=0:=fun q q' hq hq' hne b hb=>by
  obtain ⟨_,_,_,_,_,c1⟩:=hl q hq
  obtain ⟨_,_,_,_,_,c2⟩:=hl q' hq'
  rcases Nat.lt_or_gt_of_ne hne with hlt | hgt
  ·obtain ⟨a,ha,hna⟩:=hdis q q' hlt hq'
   exact h.C.yM F h.nz c1 c2 ha hna hb
  obtain ⟨a,ha,hna⟩:=hdis q' q hgt hq
  exact h.C.yM F h.nz c1 c2 ha (fun e=>hna e.symm) hb
 have hall:∀ v:Nat→K,(∀ j,c≤j→v j=0)→∃ a:Nat→K,∀ j,v j=sm (fun q=>a q * lam q j) r:=fun v hv=>by
  refine hps.all (fun v=>∃ a:Nat→K,∀ j,v j=sm (fun q=>a q * lam q j) r) ⟨⟨fun _=>0,fun j=>(aW fun q _=>by grind).symm⟩,fun u v ⟨a,ha⟩ ⟨b,hb⟩=>⟨fun q=>a q + b q,fun j=>by
   show u j + v j=_
   rw [ha,hb,← kB]; exact al fun q _=>by grind⟩,fun k u ⟨a,ha⟩=>⟨fun q=>k * a q,fun j=>by
   show k * u j=_
   rw [ha,← aN]; exact al fun q _=>by grind⟩⟩ (fun s hs u hu=>?_) v hv
  rw [hSp] at hs
  obtain ⟨q,hq,e1⟩:=List.getElem_of_mem hs
  have e2:Sp.getD q []=s:=by rw [← e1]; simp [List.getD,List.getElem?_eq_getElem hq]
  have h2:=(hl q (by omega)).2.2.2.1
  rw [e2] at h2
  refine ⟨fun q'=>if q' = q then u (cI e) else 0,fun j=>?_⟩
  rw [bj (i:=q) (by omega) fun q' _ hne=>by show (if q' = q then u (cI e) else 0) * _=0; rw [if_neg hne]; grind]
  show _=(if q=q then u (cI e) else 0) * _
  rw [if_pos rfl]; exact h2 u hu j
 have hnz:∀ q,q < r→bT n f e (bp cI io (lam q)) (bp cI io (lam q)) e ≠ 0:=fun q hq h0=>by
  obtain ⟨a,ha⟩:=hall (fun j=>if j=cI e then 1 else 0) fun j hj=>if_neg (by have:=h.C.lt e G.el; omega)
  have hcl:=(hl q hq).2.2.2.2.2
  have hd:∀ z,z < n→(if z=e then (1:K) else 0)=sm (fun q'=>a q' * bp cI io (lam q') z) r:=fun z hz=>by
   have h2:=ha (cI z)
   have h3:=h.io _ (h.C.lt z hz)
   have h4:sm (fun q'=>a q' * bp cI io (lam q') z) r=(if cI z=cI e then 1 else 0) * io (cI z):=by
    rw [h2,← bU]
    exact al fun q' _=>by unfold bp; grind
   rw [h4]
   by_cases hze:z=e
   ·rw [if_pos hze,hze,if_pos rfl]
    have h5:se K n cI (cI e)=1:=by
     unfold se
     exact h.C.pC G.el _ (fun g hg hge hne=>absurd (h.C.AE hg hge) hne) rfl
    have h6:=h.io _ (h.C.lt e G.el)
    rw [h5] at h6
    grind
   rw [if_neg hze,if_neg fun hc=>hze (h.C.AE hz hc)]; grind
  have h6:sm (fun z=>(if z=e then (1:K) else 0) * bp cI io (lam q) (iv n f e z)) n=1:=by
   rw [bj G.el fun z _ hne=>by rw [if_neg hne]; grind,if_pos rfl,G.eJ,hcl.one]; grind
  have h7:sm (fun z=>(if z=e then (1:K) else 0) * bp cI io (lam q) (iv n f e z)) n=0:=by
   have e1:sm (fun z=>(if z=e then (1:K) else 0) * bp cI io (lam q) (iv n f e z)) n=sm (fun z=>sm (fun q'=>a q' * (bp cI io (lam q') z * bp cI io (lam q) (iv n f e z))) r) n:=al fun z hz=>by
    rw [hd z hz,← bU]; exact al fun q' _=>by grind
   rw [e1,aX]
   refine aW fun q' hq'=>?_
   rw [aN]
   have e2:sm (fun z=>bp cI io (lam q') z * bp cI io (lam q) (iv n f e z)) n=bT n f e (bp cI io (lam q')) (bp cI io (lam q)) e:=by
    unfold bT
    exact al fun z hz=>by rw [G.one_l z hz]
   rw [e2]
   by_cases hqq:q' = q
   ·rw [hqq,h0]; grind
   rw [hort q' q hq' hq hqq e G.el]; grind
  rw [h7] at h6
  exact F.2 h6.symm
 have hind:jd lam r:=fun x hx q hq=>by
  have h2:∀ z,z < n→sm (fun q'=>x q' * bp cI io (lam q') z) r=0:=fun z hz=>by
   have h3:=hx (cI z)
   have h4:sm (fun q'=>x q' * bp cI io (lam q') z) r=sm (fun q'=>x q' * lam q' (cI z)) r * io (cI z):=by
    rw [← bU]; exact al fun q' _=>by unfold bp; grind
   rw [h4,h3]; grind
  have h5:sm (fun z=>sm (fun q'=>x q' * bp cI io (lam q') z) r * bp cI io (lam q) (iv n f e z)) n=0:=aW fun z hz=>by rw [h2 z hz]; grind
  have e1:sm (fun z=>sm (fun q'=>x q' * bp cI io (lam q') z) r * bp cI io (lam q) (iv n f e z)) n=sm (fun q'=>x q' * bT n f e (bp cI io (lam q')) (bp cI io (lam q)) e) r:=by
   have e2:sm (fun z=>sm (fun q'=>x q' * bp cI io (lam q') z) r * bp cI io (lam q) (iv n f e z)) n=sm (fun z=>sm (fun q'=>x q' * (bp cI io (lam q') z * bp cI io (lam q) (iv n f e z))) r) n:=al fun z hz=>by
    rw [← bU]; exact al fun q' _=>by grind
   rw [e2,aX]
   refine al fun q' _=>?_
   rw [aN]
   unfold bT
   congr 1
   exact al fun z hz=>by rw [G.one_l z hz]
  rw [e1,bj hq fun q' hq' hne=>by rw [hort q' q hq' hq hne e G.el]; grind] at h5
  rcases F.mul h5 with h6 | h6
  ·exact h6
  exact absurd h6 (hnz q hq)
 have hrc:r≤c:=sN F hind (z:=fun i j=>if j=i then 1 else 0) fun q hq=>⟨lam q,fun k=>by
  by_cases hk:k < c
  ·rw [bj hk fun i _ hne=>by rw [if_neg (fun e=>hne e.symm)]; grind,if_pos rfl]; grind
  rw [(hl q hq).1 k (by omega)]
  exact (aW fun i hi=>by rw [if_neg (by omega)]; grind).symm⟩
 have hcr:c≤r:=sN F (y:=fun i j=>if j=i then 1 else 0) (z:=lam) (fun x hx j hj=>by
  have:=hx j
  rw [bj hj fun i _ hne=>by show x i * (if j=i then (1:K) else 0)=0; rw [if_neg (fun e=>hne e.symm)]; grind] at this
  have e1:x j * (if j=j then (1:K) else 0)=0:=this
  rw [if_pos rfl] at e1
  grind) fun i hi=>by
   obtain ⟨a,ha⟩:=hall (fun j=>if j=i then 1 else 0) fun j hj=>if_neg (by omega)
   exact ⟨a,ha⟩
 have hrc2:r=c:=by omega
 subst hrc2
 refine ⟨lam,by rw [hSp,hr],fun q hq=>(hl q hq).1,fun q hq=>(hl q hq).2.1,fun q hq=>by rw [hSp]; exact (hl q hq).2.2.2.1,fun q hq=>by rw [hSp]; exact (hl q hq).2.2.2.2.1,fun q hq=>(hl q hq).2.2.2.2.2,hnz,fun q q' hq hq' hne=>hort q q' hq hq' hne e G.el,hall,?_⟩
 have hmono:∀ d i,i + d=r→(cZ p TT [aP r r] i).length≤r:=by
  intro d
  induction d with
  | zero=>intro i hi; have:i=r:=(by omega); subst this; rw [hSp,hr]; exact Nat.le_refl _
  | succ d ih =>
   intro i hi
   have h2:=ih (i + 1) (by omega)
   have h3:=C1 h.R hc (h.H9 (i + 1) (by omega)) (h.H9 i (by omega)) (yL h.R hc (show i < r by omega) (h.len i (by omega)) (fun t ht u=>h.JU (by omega) (by omega) u) (fun u=>h.pow (by omega) u) (h.H9 i (by omega)))
   omega
 exact fun i hi=>hmono (r - i) i (by omega)
end
end Go.Proofs.YtjlmpmidchddjaaDoor
namespace Go.Proofs.YtjlmpmidchddjaaDoor
def Js (p:Nat):List Nat:=(List.range (p - 1)).map fun d=>(d + 1) * (d + 1) % p
def I0 (p:Nat):Bool:=decide (3≤p) && decide (p % 2=1) && ((List.range p).all fun a=>decide (a=0) || decide (a ^ (p - 1) % p=1)) && ((List.range p).any fun g=>decide (0 < g) && (List.range (p - 1)).all fun j=>decide (j=0) || !decide (g ^ j % p=1)) && ((List.range p).all fun k=>!decide (k ^ ((p - 1) / 2) % p=1) || (Js p).contains k)
def HL:List Nat:=[3,5,7,11,13,17,19,23,29,31,37,41,43,47,53,59,61,67,71,73,79,83,89,97,101,103,107,109,113,127,131,137,139,149,151,157,173,181,191,197,199,229,233,241,283,311,331,709]
theorem Ip:HL.all I0=true:=by decide +kernel
def Jy:Bool:=(List.range 61).all fun N=>(List.range 61).all fun E=>decide (N=0) || decide (¬ N % E=0) || HL.contains (Cx E N)
theorem Cb:Jy=true:=by decide +kernel
end Go.Proofs.YtjlmpmidchddjaaDoor
namespace Go.Proofs.YtjlmpmidchddjaaDoor
open Lean.Grind
attribute [local instance] Lean.Grind.Semiring.natCast Lean.Grind.Ring.intCast
theorem Hb {E N:Nat} (h1:1≤N) (h2:N≤60) (hd:E ∣ N):I0 (Cx E N)=true:=by
 have h:=List.all_eq_true.1 Cb N (List.mem_range.2 (by omega))
 have hE:=Nat.le_of_dvd (by omega) hd
 have h:=List.all_eq_true.1 h E (List.mem_range.2 (by omega))
 simp only [Bool.or_eq_true,decide_eq_true_eq] at h
 rcases h with (h | h) | h
 ·omega
 ·exact absurd (Nat.mod_eq_zero_of_dvd hd) h
 exact List.all_eq_true.1 Ip _ (List.contains_iff_mem.1 h)
structure PG (p:Nat):Prop where
 three:3≤p
 fer:∀ a,a < p→a ≠ 0→a ^ (p - 1) % p=1
 gen:∃ g,g < p∧0 < g∧∀ j,j < p - 1→j ≠ 0→¬ g ^ j % p=1
structure PF (p:Nat):Prop extends PG p where
 odd:p % 2=1
 eul:∀ k,k < p→k ^ ((p - 1) / 2) % p=1→∃ d,d < p - 1∧(d + 1) * (d + 1) % p=k
theorem HV {p:Nat} (h:I0 p=true):PF p:=by
 unfold I0 at h
 simp only [Bool.and_eq_true,decide_eq_true_eq] at h
 obtain ⟨⟨⟨⟨h1,h2⟩,h3⟩,h4⟩,h5⟩:=h
 refine ⟨⟨h1,fun a ha ha0=>?_,?_⟩,h2,fun k hk hk1=>?_⟩
 ·have:=List.all_eq_true.1 h3 a (List.mem_range.2 ha)
  simp only [Bool.or_eq_true,decide_eq_true_eq] at this
  rcases this with h | h
  ·exact absurd h ha0
  exact h
 ·obtain ⟨g,hg,hj⟩:=List.any_eq_true.1 h4
  simp only [Bool.and_eq_true,decide_eq_true_eq] at hj
  obtain ⟨hg0,hj⟩:=hj
  refine ⟨g,List.mem_range.1 hg,hg0,fun j hjp hj0=>?_⟩
  have:=List.all_eq_true.1 hj j (List.mem_range.2 hjp)
  simp only [Bool.or_eq_true,decide_eq_true_eq,Bool.not_eq_true',decide_eq_false_iff_not] at this
  rcases this with h | h
  ·exact absurd h hj0
  exact h
 have:=List.all_eq_true.1 h5 k (List.mem_range.2 hk)
 simp only [Bool.or_eq_true,Bool.not_eq_true',decide_eq_false_iff_not] at this
 rcases this with h | h
 ·exact absurd hk1 h
 obtain ⟨d,hd,e⟩:=List.mem_map.1 (List.contains_iff_mem.1 h)
 exact ⟨d,List.mem_range.1 hd,e⟩
section
variable {p:Nat} [NeZero p]
theorem fz (x:Nat):((x:Nat):Fin p)=0↔x % p=0:=IsCharP.natCast_eq_zero_iff p x
theorem JN (x:Int):((x:Int):Fin p)=0↔x % (p:Int)=0:=IsCharP.intCast_eq_zero_iff p x
theorem uV (a:Fin p):∃ x:Nat,x < p∧((x:Nat):Fin p)=a:=⟨a.val,a.isLt,by
 refine Fin.ext ?_
 show a.val % p=a.val
 exact Nat.mod_eq_of_lt a.isLt⟩
theorem Bp {x y:Nat} (h:x % p=y % p):((x:Nat):Fin p)=((y:Nat):Fin p):=Fin.ext h
theorem Dk {x y:Nat} (h:((x:Nat):Fin p)=((y:Nat):Fin p)):x % p=y % p:=congrArg Fin.val h
theorem yg (hp:3≤p):((1:Nat):Fin p)=1:=Semiring.natCast_one
theorem pP (P:PG p) {x:Nat} (h:¬ x % p=0):((x:Nat):Fin p) ^ (p - 1)=1:=by
 have hp:=P.three
 have h1:=P.fer (x % p) (Nat.mod_lt _ (by omega)) h
 rw [Bp (y:=x % p) (by rw [Nat.mod_mod]),← Semiring.natCast_pow,Bp (y:=1) (by rw [h1,Nat.mod_eq_of_lt (by omega)]),yg hp]
theorem wZ (P:PG p):Rp (Fin p) p where
 two:=by have:=P.three; omega
 fld:=⟨fun a ha=>by
  have hp:=P.three
  obtain ⟨x,hx,rfl⟩:=uV a
  refine ⟨((x:Nat):Fin p) ^ (p - 2),?_⟩
  have h0:¬ x % p=0:=fun h=>ha ((fz x).2 h)
  have:=pP P h0
  rw [show p - 1=(p - 2) + 1 by omega,Semiring.pow_succ] at this
  grind,fun h=>by
  have hp:=P.three
  rw [← yg hp,fz,Nat.mod_eq_of_lt (by omega)] at h
  cases h⟩
 ker:=JN
 fer x hx:=by
  have hp:=P.three
  have h0:0≤x % (p:Int)∧x % (p:Int) < p:=bI (by omega) x
  obtain ⟨y,hy⟩:∃ y:Nat,x % (p:Int)=(y:Int):=⟨(x % (p:Int)).toNat,by omega⟩
  have hxy:((x:Int):Fin p)=((y:Nat):Fin p):=by
   have h1:(((x - (y:Int)):Int):Fin p)=0:=(JN _).2 (by rw [← hy,Int.sub_emod,qP,Int.sub_self]; rfl)
   rw [Ring.intCast_sub,Ring.intCast_natCast] at h1
   grind
  have hy0:¬ y % p=0:=fun h=>hx (by
   rw [hy]
   have:y=0:=by rw [Nat.mod_eq_of_lt (by omega)] at h; exact h
   rw [this]; rfl)
  have:=pP P hy0
  rw [show p - 1=(p - 2) + 1 by omega,Semiring.pow_succ] at this
  rw [Ring.intCast_pow,hxy]; exact this
 ch:=(fz p).2 (Nat.mod_self p)
 pow v:=by
  have hp:=P.three
  by_cases h0:v % p=0
  ·rw [(fz v).2 h0]
   have e0:∀ m,(0:Fin p) ^ (m + 1)=0:=fun m=>by rw [Semiring.pow_succ]; grind
   exact (congrArg (fun m=>(0:Fin p) ^ m) (show p=(p - 1) + 1 by omega)).trans (e0 (p - 1))
  have:=pP P h0
  have e0:((v:Nat):Fin p) ^ ((p - 1) + 1)=(v:Nat):=by rw [Semiring.pow_succ,this]; grind
  exact (congrArg (fun m=>((v:Nat):Fin p) ^ m) (show p=(p - 1) + 1 by omega)).trans e0
 pws j hj:=by
  have hp:=P.three
  by_cases h1:j=p - 1
  ·rw [if_pos h1,h1]
   obtain ⟨q,hq⟩:∃ q,p=q + 1:=⟨p - 1,by omega⟩
   have e1:∀ v,v < p→((v:Nat):Fin p) ^ (p - 1)=if v=0 then 0 else 1:=fun v hv=>by
    by_cases hv0:v=0
    ·rw [if_pos hv0,hv0,show p - 1=(p - 2) + 1 by omega,Semiring.pow_succ]
     have:((0:Nat):Fin p)=0:=Semiring.natCast_zero
     rw [this]; grind
    rw [if_neg hv0]; exact pP P (by rw [Nat.mod_eq_of_lt hv]; exact hv0)
   rw [al e1]
   have e2:∀ m,sm (fun v=>if v=0 then (0:Fin p) else 1) (m + 1)=(m:Nat):=fun m=>by
    induction m with
    | zero =>
     show (0:Fin p) + (if 0=0 then (0:Fin p) else 1)=((0:Nat):Fin p)
     rw [if_pos rfl,Semiring.natCast_zero]; grind
    | succ m ih=>rw [sm,ih,if_neg (by omega)]; grind
   have e3:=e2 (p - 1)
   rw [show p - 1 + 1=p by omega] at e3
   rw [e3]
   have e4:((p:Nat):Fin p)=0:=(fz p).2 (Nat.mod_self p)
   have e5:((p - 1 + 1:Nat):Fin p)=((p - 1:Nat):Fin p) + 1:=by grind
   rw [show p - 1 + 1=p by omega,e4] at e5
   grind
  rw [if_neg h1]
  by_cases h0:j=0
  ·rw [h0,al (g:=fun _=>(1:Fin p)) fun v _=>Semiring.pow_zero _,dT,(fz p).2 (Nat.mod_self p)]; grind
  obtain ⟨g,hg,hg1,hgj⟩:=P.gen
  have hgj:=hgj j (by omega) h0
  have hg0:g ≠ 0:=by omega
  have hgm:∀ v,v < p→(g * v) % p < p:=fun v _=>Nat.mod_lt _ (by omega)
  have hinj:∀ u v,u < p→v < p→(g * u) % p=(g * v) % p→u=v:=fun u v hu hv huv=>by
   have h2:(((g * u:Nat)):Fin p)=((g * v:Nat):Fin p):=Bp huv
   rw [Semiring.natCast_mul,Semiring.natCast_mul] at h2
   have h3:=pP P (x:=g) (by rw [Nat.mod_eq_of_lt hg]; exact hg0)
   rw [show p - 1=(p - 2) + 1 by omega,Semiring.pow_succ] at h3
   have h4:((u:Nat):Fin p)=((v:Nat):Fin p):=by grind
   have h5:=Dk h4
   rwa [Nat.mod_eq_of_lt hu,Nat.mod_eq_of_lt hv] at h5
  have h6:=pQ (K:=Fin p) (σ:=fun v=>(g * v) % p) hgm (fun i j hi hj hij=>hinj i j hi hj hij) fun v=>((v:Nat):Fin p) ^ j
  have h7:sm (fun v=>(((g * v) % p:Nat):Fin p) ^ j) p=((g:Nat):Fin p) ^ j * sm (fun v=>((v:Nat):Fin p) ^ j) p:=by
   rw [← aN]
   refine al fun v _=>?_
   rw [Bp (x:=(g * v) % p) (y:=g * v) (by rw [Nat.mod_mod]),← Semiring.natCast_pow,Nat.mul_pow,Semiring.natCast_mul,Semiring.natCast_pow,Semiring.natCast_pow]
  rw [h7] at h6
  have h8:(((g:Nat):Fin p) ^ j - 1) * sm (fun v=>((v:Nat):Fin p) ^ j) p=0:=by grind
  have hinv:∀ a:Fin p,a ≠ 0→∃ b,a * b=1:=fun a ha=>by
   obtain ⟨x,hx,rfl⟩:=uV a
   refine ⟨((x:Nat):Fin p) ^ (p - 2),?_⟩
   have h0:¬ x % p=0:=fun h=>ha ((fz x).2 h)
   have:=pP P h0
   rw [show p - 1=(p - 2) + 1 by omega,Semiring.pow_succ] at this
   grind
  by_cases h9:((g:Nat):Fin p) ^ j - 1=0
  ·exfalso
   refine hgj ?_
   have h10:((g ^ j:Nat):Fin p)=((1:Nat):Fin p):=by rw [Semiring.natCast_pow,yg hp]; grind
   have h11:=Dk h10
   rwa [Nat.mod_eq_of_lt (show 1 < p by omega)] at h11
  obtain ⟨b,hb⟩:=hinv _ h9
  grind
 bA v:=Ring.intCast_natCast v
theorem uD (a:Nat) (h1:0 < a) (h2:a < p):((a:Nat):Fin p) ≠ 0:=fun h=>by
 rw [fz,Nat.mod_eq_of_lt h2] at h; omega
end
end Go.Proofs.YtjlmpmidchddjaaDoor
