/-
  Texts of this proof, one behind the other: what each says stands at its head. Conditions: none.
-/
import Derived.Test.YtboadfahlflmhaaDoorB3
import Derived.Test.YtboadfahlflmhaaDoorB4
import Derived.Shelf.SlSortCmp.Whole1
import Derived.Test.YtboadfahlflmhaaDoorProg
import Derived.Shelf.SlLaysF
import Derived.Maps.RangeRun

/-
  The quotient of a group by a congruence; by a normal subgroup. Conditions: none.
-/
set_option linter.all false
namespace Go.Proofs.YtboadfahlflmhaaDoor
open Go.Pv

/-- Places for classes: of each thing its place; of each place a thing. -/
structure Qm (n:Nat) (f:Nat→Nat→Nat) (k:Nat) (cl rep:Nat→Nat):Prop where
 lt:∀ a,a < n→cl a < k
 rlt:∀ i,i < k→rep i < n
 at_:∀ i,i < k→cl (rep i)=i
 cong:∀ a b c d,a < n→b < n→c < n→d < n→cl a=cl b→cl c=cl d→cl (f a c)=cl (f b d)

section
variable {n:Nat} {f:Nat→Nat→Nat} {e:Nat} {p:Nat→Bool}
def qop (f:Nat→Nat→Nat) (cl rep:Nat→Nat) (i j:Nat):Nat:=cl (f (rep i) (rep j))
theorem Qm.op {k:Nat} {cl rep:Nat→Nat} (Q:Qm n f k cl rep) {a b:Nat} (ha:a < n) (hb:b < n):qop f cl rep (cl a) (cl b)=cl (f a b):=
 Q.cong _ _ _ _ (Q.rlt _ (Q.lt a ha)) ha (Q.rlt _ (Q.lt b hb)) hb (Q.at_ _ (Q.lt a ha)) (Q.at_ _ (Q.lt b hb))
theorem Qm.grp {k:Nat} {cl rep:Nat→Nat} (Q:Qm n f k cl rep) (G:Grp n f e):Grp k (qop f cl rep) (cl e) where
 pos:=Nat.lt_of_le_of_lt (Nat.zero_le _) (Q.lt e G.el)
 cl i j hi hj:=Q.lt _ (G.cl _ _ (Q.rlt i hi) (Q.rlt j hj))
 el:=Q.lt e G.el
 one_l i hi:=by
  have h1:=Q.rlt i hi
  have h2:=Q.op G.el h1
  rw [Q.at_ i hi,G.one_l _ h1,Q.at_ i hi] at h2; exact h2
 one_r i hi:=by
  have h1:=Q.rlt i hi
  have h2:=Q.op h1 G.el
  rw [Q.at_ i hi,G.one_r _ h1,Q.at_ i hi] at h2; exact h2
 assoc i j l hi hj hl:=by
  have h1:=Q.rlt i hi
  have h2:=Q.rlt j hj
  have h3:=Q.rlt l hl
  have e1:=Q.op (G.cl _ _ h1 h2) h3
  have e2:=Q.op h1 (G.cl _ _ h2 h3)
  rw [Q.at_ l hl] at e1
  rw [Q.at_ i hi] at e2
  have e3:qop f cl rep i j=cl (f (rep i) (rep j)):=rfl
  have e4:qop f cl rep j l=cl (f (rep j) (rep l)):=rfl
  rw [e3,e4,e1,e2,G.assoc _ _ _ h1 h2 h3]
 inv i hi:=by
  have h1:=Q.rlt i hi
  have h2:=G.iv_lt h1
  have e1:=Q.op h1 h2
  have e2:=Q.op h2 h1
  rw [Q.at_ i hi] at e1 e2
  exact ⟨_,Q.lt _ h2,by rw [e1,G.mul_iv h1],by rw [e2,G.iv_mul h1]⟩

/-- Of a normal subgroup: alike things have alike products. -/
theorem Grp.rco_cong (G:Grp n f e) (hp:Sub n f e p) (hn:Nml n f e p) {a b c d:Nat} (ha:a < n) (hb:b < n) (hc:c < n) (hd:d < n) (h1:dco n f p (onp e) a b=true) (h2:dco n f p (onp e) c d=true):dco n f p (onp e) (f a c) (f b d)=true:=by
 have ia:=G.iv_lt ha
 have ic:=G.iv_lt hc
 have h3:=G.cl _ _ hb ia
 have h4:=G.cl _ _ hd ic
 rw [G.rco_iff ha hb] at h1
 rw [G.rco_iff hc hd] at h2
 rw [G.rco_iff (G.cl _ _ ha hc) (G.cl _ _ hb hd),G.iv_prod ha hc]
 
 have h5:=hn _ ia _ h4 h2
 unfold cjr at h5
 rw [G.iv_iv ha] at h5
 have h6:=hp.mul _ _ h3 (G.cl _ _ (G.cl _ _ ha h4) ia) h1 h5
 have e1:f (f b (iv n f e a)) (f (f a (f d (iv n f e c))) (iv n f e a))=f (f b d) (f (iv n f e c) (iv n f e a)):=by
  rw [G.assoc b _ _ hb ia (G.cl _ _ (G.cl _ _ ha h4) ia),G.assoc a _ _ ha h4 ia,← G.assoc _ a _ ia ha (G.cl _ _ h4 ia),G.iv_mul ha,G.one_l _ (G.cl _ _ h4 ia),G.assoc d _ _ hd ic ia,← G.assoc b d _ hb hd (G.cl _ _ ic ia)]
 rw [← e1]; exact h6
end
end Go.Proofs.YtboadfahlflmhaaDoor

/-
  Quotients, of the program and of the document. Conditions: none.
-/
set_option linter.all false
namespace Go.Proofs.YtboadfahlflmhaaDoor
open Go.Pv

/-! ### Places of classes -/

def rpq (n:Nat) (r:Nat→Nat→Bool) (i:Nat):Nat:=(mem n (lead r)).getD i 0
def clq (n:Nat) (r:Nat→Nat→Bool) (a:Nat):Nat:=(wch (cst n r) a).toNat
section
variable {n:Nat} {r:Nat→Nat→Bool}
theorem clq_at (E:Eqv n r) {a:Nat} (ha:a < n):clq n r a < (cst n r).length∧wch (cst n r) a=(clq n r a:Int)∧((a:Nat):Int)∈(cst n r).getD (clq n r a) []:=by
 obtain ⟨i,i1,i2⟩:=cst_in E ha
 have h1:=wch_at E i1 ha i2
 have h2:clq n r a=i:=by unfold clq; rw [h1]; rfl
 rw [h2]
 exact ⟨i1,h1,i2⟩
theorem clq_iff (E:Eqv n r) {a b:Nat} (ha:a < n) (hb:b < n):clq n r a=clq n r b↔r a b=true:=by
 obtain ⟨a1,a2,a3⟩:=clq_at E ha
 obtain ⟨b1,b2,b3⟩:=clq_at E hb
 obtain ⟨x,x1,x2,x3,x4⟩:=cst_get a1
 rw [x3,mem_thl_n ha] at a3
 constructor
 ·intro he
  rw [← he,x3,mem_thl_n hb] at b3
  exact E.trans a x b ha x1 hb (E.symm x a x1 ha a3) b3
 ·intro hr
  have:((b:Nat):Int)∈(cst n r).getD (clq n r a) []:=by rw [x3,mem_thl_n hb]; exact E.trans x a b x1 ha hb a3 hr
  exact cst_apart E a1 b1 hb this b3
theorem rpq_at (E:Eqv n r) {i:Nat} (hi:i < (cst n r).length):rpq n r i < n∧clq n r (rpq n r i)=i∧(cst n r).getD i []=thl n (r (rpq n r i))∧lead r (rpq n r i)=true:=by
 obtain ⟨x,x1,x2,x3,x4⟩:=cst_get hi
 have h1:rpq n r i=x:=x4
 rw [h1]
 have h2:((x:Nat):Int)∈(cst n r).getD i []:=by rw [x3,mem_thl_n x1]; exact E.refl x x1
 have h3:=wch_at E hi x1 h2
 exact ⟨x1,by unfold clq; rw [h3]; rfl,x3,x2⟩
theorem cst_qm {f:Nat→Nat→Nat} {e:Nat} (G:Grp n f e) (E:Eqv n r) (hc:∀ a b c d,a < n→b < n→c < n→d < n→r a b=true→r c d=true→r (f a c) (f b d)=true):Qm n f (cst n r).length (clq n r) (rpq n r) where
 lt a ha:=(clq_at E ha).1
 rlt i hi:=(rpq_at E hi).1
 at_ i hi:=(rpq_at E hi).2.1
 cong a b c d ha hb hc' hd h1 h2:=(clq_iff E (G.cl _ _ ha hc') (G.cl _ _ hb hd)).2 (hc a b c d ha hb hc' hd ((clq_iff E ha hb).1 h1) ((clq_iff E hc' hd).1 h2))
end
end Go.Proofs.YtboadfahlflmhaaDoor

/-
  Parts of a group as groups; what a group does with cosets: by maps. Conditions: none.
-/
set_option linter.all false
namespace Go.Proofs.YtboadfahlflmhaaDoor
open Go.Pv

/-! ### Parts -/

/-- Where a thing stands among those of which something is so. -/
def pix (p:Nat→Bool) (x:Nat):Nat:=(thl x p).length
theorem thl_split (n x:Nat) (p:Nat→Bool) (hx:x < n) (hp:p x=true):∃ r,thl n p=thl x p++(x:Int) :: r:=by
 induction n with
 | zero=>omega
 | succ n ih =>
  rw [thl_succ]
  by_cases h:x=n
  ·subst h
   rw [if_pos hp]; exact ⟨[],rfl⟩
  ·obtain ⟨r,hr⟩:=ih (by omega)
   rw [hr]
   exact ⟨r++(if p n=true then [(n:Int)] else []),by simp⟩
theorem pix_at {n x:Nat} {p:Nat→Bool} (hx:x < n) (hp:p x=true):pix p x < (thl n p).length∧(thl n p).getD (pix p x) 0=(x:Int):=by
 obtain ⟨r,hr⟩:=thl_split n x p hx hp
 unfold pix
 rw [hr]
 constructor
 ·simp
 ·simp [List.getD]
theorem pix_get {n i x:Nat} {p:Nat→Bool} (hi:i < (thl n p).length) (hx:x < n) (hp:p x=true) (h:(thl n p).getD i 0=(x:Int)):pix p x=i:=by
 obtain ⟨h1,h2⟩:=pix_at hx hp
 rcases Nat.lt_trichotomy (pix p x) i with h3 | h3 | h3
 ·have:=thl_get_asc h3 hi; omega
 ·exact h3
 ·have:=thl_get_asc h3 h1; omega
def lat (n:Nat) (p:Nat→Bool) (i:Nat):Nat:=((thl n p).getD i 0).toNat
theorem lat_at {n i:Nat} {p:Nat→Bool} (hi:i < (thl n p).length):lat n p i < n∧p (lat n p i)=true∧(thl n p).getD i 0=(lat n p i:Int)∧pix p (lat n p i)=i:=by
 obtain ⟨x,x1,x2,x3⟩:=thl_get hi
 have:lat n p i=x:=by unfold lat; rw [x3]; rfl
 rw [this]
 exact ⟨x1,x2,x3,pix_get hi x1 x2 x3⟩
/-- The part's operation, by places. -/
def pop (n:Nat) (f:Nat→Nat→Nat) (p:Nat→Bool) (i j:Nat):Nat:=pix p (f (lat n p i) (lat n p j))
def ptb (n:Nat) (f:Nat→Nat→Nat) (p:Nat→Bool):List Int:=tbl (fun i j=>((pop n f p i j:Nat):Int)) (thl n p).length
theorem pop_at {n e:Nat} {f:Nat→Nat→Nat} {p:Nat→Bool} (G:Grp n f e) (hs:Sub n f e p) {i j:Nat} (hi:i < (thl n p).length) (hj:j < (thl n p).length):pop n f p i j < (thl n p).length∧lat n p (pop n f p i j)=f (lat n p i) (lat n p j):=by
 obtain ⟨x1,x2,_,_⟩:=lat_at hi
 obtain ⟨y1,y2,_,_⟩:=lat_at hj
 obtain ⟨h1,h2⟩:=pix_at (G.cl _ _ x1 y1) (hs.mul _ _ x1 y1 x2 y2)
 exact ⟨h1,by unfold pop lat at *; rw [h2]; rfl⟩
/-- A part is a group. -/
theorem ptb_grp {n e:Nat} {f:Nat→Nat→Nat} {p:Nat→Bool} (G:Grp n f e) (hs:Sub n f e p):Grp (thl n p).length (pop n f p) (pix p e):=by
 have le:=pix_at G.el hs.one
 have hat:∀ {i},i < (thl n p).length→pix p (lat n p i)=i:=fun hi=>(lat_at hi).2.2.2
 have hle:lat n p (pix p e)=e:=by unfold lat; rw [le.2]; rfl
 refine ⟨by omega,fun i j hi hj=>(pop_at G hs hi hj).1,le.1,fun i hi=>?_,fun i hi=>?_,fun i j k hi hj hk=>?_,fun i hi=>?_⟩
 ·unfold pop; rw [hle,G.one_l _ (lat_at hi).1,hat hi]
 ·unfold pop; rw [hle,G.one_r _ (lat_at hi).1,hat hi]
 ·have h1:=pop_at G hs hi hj
  have h2:=pop_at G hs hj hk
  show pix p (f (lat n p (pop n f p i j)) (lat n p k))=pix p (f (lat n p i) (lat n p (pop n f p j k)))
  rw [h1.2,h2.2,G.assoc _ _ _ (lat_at hi).1 (lat_at hj).1 (lat_at hk).1]
 ·obtain ⟨x1,x2,_,_⟩:=lat_at hi
  have h1:=pix_at (G.iv_lt x1) (hs.inv _ x1 x2)
  have h2:lat n p (pix p (iv n f e (lat n p i)))=iv n f e (lat n p i):=by
   show ((thl n p).getD (pix p (iv n f e (lat n p i))) 0).toNat=_
   rw [h1.2]; rfl
  refine ⟨_,h1.1,?_,?_⟩
  ·show pix p (f (lat n p i) (lat n p (pix p (iv n f e (lat n p i)))))=_
   rw [h2,G.mul_iv x1]
  ·show pix p (f (lat n p (pix p (iv n f e (lat n p i)))) (lat n p i))=_
   rw [h2,G.iv_mul x1]

theorem take_snoc {l:List Int} {i:Nat} (h:i < l.length):l.take (i + 1)=l.take i++[l.getD i 0]:=by
 rw [List.take_succ_eq_append_getElem h]
 simp [List.getD,List.getElem?_eq_getElem h]
/-- Where a part's thing stands, as a value. -/
def pxv (p:Nat→Bool) (u:Int):PV:=.int .i64 (pix p u.toNat)

set_option maxHeartbeats 4000000 in
theorem part_ok {n e:Nat} {m:List Int} (h:GT n m n e) (p:Nat→Bool) (hs:Sub n (op m n) e p):FnC Tryd.prog 47 [gp n m,.list (il (thl n p))] (.tup [gp (thl n p).length (ptb n (op m n) p),fl (0,0)]):=by
 have G:=h.2.2
 have hb:=h.2.1.big
 have hlp:=thl_le n p
 have hsq:=sq_le (show (thl n p).length≤60 by omega)
 have hlen:=tbr_len (fun i j=>((pop n (op m n) p i j:Nat):Int)) (thl n p).length
 refine fnc_of tab_ok Tryd.func47 rfl (by kernel_rfl) (by rw [Tryd.ntmps47]; exact Nat.le_add_left 2 _) ?_; rw [Tryd.ntmps47]
 refine qm ?_
 refine hk_region fun K hK=>runs_eval tab_ok ?_
 simp only [ev0,evA,evB,evP,fl,gp,tab,simprocAttr,reduceCtorEq,reduceIte]
 refine fin_run ?_ (hK _ ?_)<;>clear hK<;>clear K
 ·(first|exact trivial|omega|(simp only [In64] at *; omega)|(simp [In64] at *; omega)|(simp_all; done)|skip)
 refine qa (qm (qm ?_))
 refine hk_region fun K hK=>runs_eval tab_ok ?_
 simp only [ev0,evA,evB,evP,fl,gp,tab,simprocAttr,reduceCtorEq,reduceIte]
 refine fin_stop trivial (runs_call (group_ok h p true (by simp [hs])) rfl rfl rfl (by simp only [dstOk,Nat.reduceLT]) (by repeat (first|exact trivial|constructor)) (runs_eval tab_ok ?_))
 simp only [ev0,evA,evB,evP,fl,gp,tab,simprocAttr,reduceCtorEq,reduceIte,ufb]
 refine fin_run ?_ (hK _ ?_)<;>clear hK<;>clear K
 ·(first|exact trivial|omega|(simp only [In64] at *; omega)|(simp [In64] at *; omega)|(simp_all; done)|skip)
 refine qa (qm ?_)
 refine hk_region fun K hK=>runs_eval tab_ok ?_
 simp only [ev0,evA,evB,evP,fl,gp,tab,simprocAttr,reduceCtorEq,reduceIte]
 refine fin_run ?_ (hK _ ?_)<;>clear hK<;>clear K
 ·(first|exact trivial|omega|(simp only [In64] at *; omega)|(simp [In64] at *; omega)|(simp_all; done)|skip)
 refine qa ?_
 refine hk_cond rfl (fun hC1=>?_) (fun hC1=>?_)
 ·cases hC1
 ·(try simp only [nhs] at hC1)
  refine qh (qa (qm ?_))
  refine hk_region fun K hK=>runs_eval tab_ok ?_
  simp only [ev0,evA,evB,evP,fl,gp,tab,simprocAttr,reduceCtorEq,reduceIte]
  refine fin_run ?_ (hK _ ?_)<;>clear hK<;>clear K
  ·(first|exact trivial|omega|(simp only [In64] at *; omega)|(simp [In64] at *; omega)|(simp_all; done)|skip)
  refine qa (qm (qm ?_))
  refine hk_region fun K hK=>runs_eval tab_ok ?_
  simp only [ev0,evA,evB,evP,fl,gp,tab,simprocAttr,reduceCtorEq,reduceIte,il_length]
  refine fin_run trivial (hK _ ?_)<;>clear hK<;>clear K
  refine qa (ql ?_)
  refine hk_loop (ι:=Nat) (fun i=>⟨65,[(1,.p (.list (il (thl n p)))),(2,.ptr 0 0),(4,.ptr 1 0),(5,.ptr 2 0),(7,.mptr 3),(24,.p (.list (il (thl n p)))),(25,.p (.int .i64 (thl n p).length)),(26,.p (.int .i64 i))],[.own [.p (.int .i64 n),.p (.list (il m))],.own [.p (.int .i64 0),.p .nil],.own [.p (.int .i64 0),.p (.int .i64 0)],.mp .i64 (mpd ((thl n p).take i)) (mpv ((thl n p).take i) (pxv p))]⟩) (fun i=>i≤(thl n p).length) (fun i=>(thl n p).length - i) 0 (Nat.zero_le _) [0,1,2,4] (by simp only [leq,leA,ev0,evA,evB,evP,fl,gp,tab,simprocAttr,reduceCtorEq,reduceIte]<;>first|trivial|(rw [mpd_nil,mpv_nil]; rfl)) fun i hi=>?_
  refine qm ?_
  refine hk_region fun K hK=>runs_eval tab_ok ?_
  simp only [ev0,evA,evB,evP,fl,gp,tab,simprocAttr,reduceCtorEq,reduceIte]
  refine fin_run trivial (hK _ ?_)<;>clear hK<;>clear K
  refine qa (qm ?_)
  refine hk_cond rfl (fun hC2=>?_) (fun hC2=>?_)
  ·(try simp only [nhs] at hC2)
   have hlt:i < (thl n p).length:=by omega
   obtain ⟨x1,x2,x3,x4⟩:=lat_at hlt
   refine qh (qa (qm (ql (qm ?_))))
   refine hk_region fun K hK=>runs_eval tab_ok ?_
   simp only [ev0,evA,evB,evP,fl,gp,tab,simprocAttr,reduceCtorEq,reduceIte,il_get hlt,x3]
   refine fin_run ?_ (hK _ ?_)<;>clear hK<;>clear K
   ·(first|exact trivial|omega|(simp only [In64] at *; omega)|(simp [In64] at *; omega)|(simp_all; done)|skip)
   refine qa ?_
   refine hk_region fun K hK=>runs_eval tab_ok ?_
   simp only [ev0,evA,evB,evP,fl,gp,tab,simprocAttr,reduceCtorEq,reduceIte]
   refine fin_run ?_ (hK _ ?_)<;>clear hK<;>clear K
   ·(first|exact trivial|omega|(simp only [In64] at *; omega)|(simp [In64] at *; omega)|(simp_all; done)|skip)
   refine qd (qa ?_)
   refine hk_region fun K hK=>runs_eval tab_ok ?_
   simp only [ev0,evA,evB,evP,fl,gp,tab,simprocAttr,reduceCtorEq,reduceIte]
   refine fin_run ?_ (hK _ ?_)<;>clear hK<;>clear K
   ·(first|exact trivial|omega|(simp only [In64] at *; omega)|(simp [In64] at *; omega)|(simp_all; done)|skip)
   refine qa ?_
   refine ⟨i + 1,[0,1,2,3],by omega,by omega,?_⟩
   have hd:=mpd_set ((thl n p).take i) (lat n p i:Int)
   have hv:=mpv_set ((thl n p).take i) (lat n p i:Int) (pxv p)
   have hx:pxv p (lat n p i:Int) = .int .i64 (i:Int):=by unfold pxv; rw [Int.toNat_natCast,x4]
   rw [hx] at hv
   rw [take_snoc hlt,x3]
   simp only [leq,leA,ev0,evA,evB,evP,fl,gp,tab,simprocAttr,reduceCtorEq,reduceIte]<;>first|trivial|omega|(rw [hd,hv])
  ·(try simp only [nhs] at hC2)
   have hin:i=(thl n p).length:=by omega
   rw [hin,List.take_length]
   refine qj (qc (qc (qf (qa (qm ?_)))))
   refine hk_region fun K hK=>runs_eval tab_ok ?_
   simp only [ev0,evA,evB,evP,fl,gp,tab,simprocAttr,reduceCtorEq,reduceIte,il_length]
   refine fin_run ?_ (hK _ ?_)<;>clear hK<;>clear K
   ·(first|exact trivial|omega|(simp only [In64] at *; omega)|(simp [In64] at *; omega)|(simp_all; done)|skip)
   refine qa (qm (qm ?_))
   refine hk_own0c 4 1 rfl rfl ?_
   simp only [hset,List.cons_append,List.nil_append,List.set,List.length_cons,List.length_nil]
   refine hk_region fun K hK=>runs_eval tab_ok ?_
   simp only [ev0,evA,evB,evP,fl,gp,tab,simprocAttr,reduceCtorEq,reduceIte,il_length]
   refine fin_run trivial (hK _ ?_)<;>clear hK<;>clear K
   refine qa (ql ?_)
   refine hk_loop (ι:=Nat) (fun i=>⟨65,[(1,.p (.list (il (thl n p)))),(2,.ptr 0 0),(4,.ptr 1 0),(5,.ptr 2 0),(7,.mptr 3),(10,.ptr 4 0),(38,.p (.list (il (thl n p)))),(39,.p (.int .i64 (thl n p).length)),(40,.p (.int .i64 i))],[.own [.p (.int .i64 n),.p (.list (il m))],.own [.p (.int .i64 0),.p .nil],.own [.p (.int .i64 0),.p (.int .i64 0)],.mp .i64 (mpd (thl n p)) (mpv (thl n p) (pxv p)),.own [.p (.int .i64 (thl n p).length),.sl 5 0 (tbr (fun i j=>((pop n (op m n) p i j:Nat):Int)) (thl n p).length (i * (thl n p).length)).length],.own (ol (tbr (fun i j=>((pop n (op m n) p i j:Nat):Int)) (thl n p).length (i * (thl n p).length)))]⟩) (fun i=>i≤(thl n p).length) (fun i=>(thl n p).length - i) 0 (Nat.zero_le _) [0,1,2,3,4,5] (by rw [Nat.zero_mul]; simp only [leq,leA,ev0,evA,evB,evP,fl,gp,tab,simprocAttr,reduceCtorEq,reduceIte]<;>first|trivial|simp [tbr,rg,ol_nil]) fun i hi=>?_
   refine qm ?_
   refine hk_region fun K hK=>runs_eval tab_ok ?_
   simp only [ev0,evA,evB,evP,fl,gp,tab,simprocAttr,reduceCtorEq,reduceIte]
   refine fin_run trivial (hK _ ?_)<;>clear hK<;>clear K
   refine qa (qm ?_)
   refine hk_cond rfl (fun hC3=>?_) (fun hC3=>?_)
   ·(try simp only [nhs] at hC3)
    have hlt:i < (thl n p).length:=by omega
    obtain ⟨x1,x2,x3,x4⟩:=lat_at hlt
    refine qh (qa (qm (ql (qm ?_))))
    refine hk_region fun K hK=>runs_eval tab_ok ?_
    simp only [ev0,evA,evB,evP,fl,gp,tab,simprocAttr,reduceCtorEq,reduceIte,il_get hlt,x3]
    refine fin_run ?_ (hK _ ?_)<;>clear hK<;>clear K
    ·(first|exact trivial|omega|(simp only [In64] at *; omega)|(simp [In64] at *; omega)|(simp_all; done)|skip)
    refine qa (qm ?_)
    refine hk_region fun K hK=>runs_eval tab_ok ?_
    simp only [ev0,evA,evB,evP,fl,gp,tab,simprocAttr,reduceCtorEq,reduceIte,il_length]
    refine fin_run trivial (hK _ ?_)<;>clear hK<;>clear K
    refine qa (ql ?_)
    refine hk_loop (ι:=Nat) (fun j=>⟨65,[(1,.p (.list (il (thl n p)))),(2,.ptr 0 0),(4,.ptr 1 0),(5,.ptr 2 0),(7,.mptr 3),(10,.ptr 4 0),(12,.p (.int .i64 (lat n p i:Nat))),(38,.p (.list (il (thl n p)))),(39,.p (.int .i64 (thl n p).length)),(40,.p (.int .i64 i)),(44,.p (.list (il (thl n p)))),(45,.p (.int .i64 (thl n p).length)),(46,.p (.int .i64 j))],[.own [.p (.int .i64 n),.p (.list (il m))],.own [.p (.int .i64 0),.p .nil],.own [.p (.int .i64 0),.p (.int .i64 0)],.mp .i64 (mpd (thl n p)) (mpv (thl n p) (pxv p)),.own [.p (.int .i64 (thl n p).length),.sl 5 0 (tbr (fun i j=>((pop n (op m n) p i j:Nat):Int)) (thl n p).length (i * (thl n p).length + j)).length],.own (ol (tbr (fun i j=>((pop n (op m n) p i j:Nat):Int)) (thl n p).length (i * (thl n p).length + j)))]⟩) (fun j=>j≤(thl n p).length) (fun j=>(thl n p).length - j) 0 (Nat.zero_le _) [0,1,2,3,4,5] (by rw [Nat.add_zero]; simp only [leq,leA,ev0,evA,evB,evP,fl,gp,tab,simprocAttr,reduceCtorEq,reduceIte]<;>trivial) fun j hj=>?_
    refine qm ?_
    refine hk_region fun K hK=>runs_eval tab_ok ?_
    simp only [ev0,evA,evB,evP,fl,gp,tab,simprocAttr,reduceCtorEq,reduceIte]
    refine fin_run trivial (hK _ ?_)<;>clear hK<;>clear K
    refine qa (qm ?_)
    refine hk_cond rfl (fun hC4=>?_) (fun hC4=>?_)
    ·(try simp only [nhs] at hC4)
     have hjl:j < (thl n p).length:=by omega
     obtain ⟨y1,y2,y3,y4⟩:=lat_at hjl
     have hxy:=G.cl _ _ x1 y1
     have hmem:=(mem_thl_n hxy).2 (hs.mul _ _ x1 y1 x2 y2)
     have hin:=mpd_in hmem
     have hvv:=mpv_in (pxv p) hmem
     have hpx:pxv p ((op m n (lat n p i) (lat n p j):Nat):Int) = .int .i64 ((pop n (op m n) p i j:Nat):Int):=by unfold pxv; rw [Int.toNat_natCast]; rfl
     have hat:=at_lt hlt hjl
     have hl:=hlen (i * (thl n p).length + j)
     refine qh (qa (qm (ql (qm ?_))))
     refine hk_region fun K hK=>runs_eval tab_ok ?_
     simp only [ev0,evA,evB,evP,fl,gp,tab,simprocAttr,reduceCtorEq,reduceIte,il_get hjl,y3]
     refine fin_run ?_ (hK _ ?_)<;>clear hK<;>clear K
     ·(first|exact trivial|omega|(simp only [In64] at *; omega)|(simp [In64] at *; omega)|(simp_all; done)|skip)
     refine qa ?_
     refine hk_draw2 mixed fun K hK=>runs2_eval tab_ok ?_
     simp only [evD,ev0,evA,evB,evP,fl,gp,tab,simprocAttr,reduceCtorEq,reduceIte]
     refine fin2_stop trivial (runs2_call (of_c h.2.1 x1 y1) rfl rfl rfl rfl (by simp only [dstOk,Nat.reduceLT]) (by repeat (first|exact trivial|constructor)) (runs2_eval tab_ok ?_))
     simp only [evD,ev0,evA,evB,evP,fl,gp,tab,simprocAttr,reduceCtorEq,reduceIte,hin,cond_true,hvv,hpx]
     refine fin2_run ?_ (hK _ _ (by first|kernel_rfl|rfl) ?_)<;>clear hK<;>clear K
     ·(first|exact trivial|omega|(simp only [In64] at *; omega)|(simp [In64] at *; omega)|(simp_all; done)|skip)
     refine qd (qa ?_)
     refine hk_region fun K hK=>runs_eval tab_ok ?_
     simp only [ev0,evA,evB,evP,fl,gp,tab,simprocAttr,reduceCtorEq,reduceIte]
     refine fin_run ?_ (hK _ ?_)<;>clear hK<;>clear K
     ·(first|exact trivial|omega|(simp only [In64] at *; omega)|(simp [In64] at *; omega)|(simp_all; done)|skip)
     refine qa ?_
     refine ⟨j + 1,[0,1,2,3,4,6],by omega,by omega,?_⟩
     rw [tbr_succ (fun i j=>((pop n (op m n) p i j:Nat):Int)) hjl]
     simp only [leq,leA,ev0,evA,evB,evP,fl,gp,tab,simprocAttr,reduceCtorEq,reduceIte]<;>first|trivial|omega
    ·(try simp only [nhs] at hC4)
     have hjn:j=(thl n p).length:=by omega
     refine qj (qc (qc (qf (qd (qa ?_)))))
     refine hk_region fun K hK=>runs_eval tab_ok ?_
     simp only [ev0,evA,evB,evP,fl,gp,tab,simprocAttr,reduceCtorEq,reduceIte]
     refine fin_run ?_ (hK _ ?_)<;>clear hK<;>clear K
     ·(first|exact trivial|omega|(simp only [In64] at *; omega)|(simp [In64] at *; omega)|(simp_all; done)|skip)
     refine qa ?_
     refine ⟨i + 1,[0,1,2,3,4,5],by omega,by omega,?_⟩
     rw [hjn,show (i + 1) * (thl n p).length=i * (thl n p).length + (thl n p).length by rw [Nat.add_mul,Nat.one_mul]]
     simp only [leq,leA,ev0,evA,evB,evP,fl,gp,tab,simprocAttr,reduceCtorEq,reduceIte]<;>first|trivial|omega
   ·(try simp only [nhs] at hC3)
    have hin:i=(thl n p).length:=by omega
    refine qj (qc (qc (qf (qa (qm ?_)))))
    refine hk_region fun K hK=>runs_eval tab_ok ?_
    simp only [ev0,evA,evB,evP,fl,gp,tab,simprocAttr,reduceCtorEq,reduceIte]
    refine fin_run ?_ (hK _ ?_)<;>clear hK<;>clear K
    ·(first|exact trivial|omega|(simp only [In64] at *; omega)|(simp [In64] at *; omega)|(simp_all; done)|skip)
    refine qa (qk ?_)
    simp only [Tryd.results47,enA,ev0,evA,evB,evP,fl,gp,tab,simprocAttr,reduceCtorEq,reduceIte]
    all_goals (simp [hin,tbl,ptb])
end Go.Proofs.YtboadfahlflmhaaDoor

/-
  Plain law, FROBENIUS' THEOREM: what commutes with y, taken by y's powers, is a group on the least things of cosets. Conditions: none.
-/
set_option linter.all false
namespace Go.Proofs.YtboadfahlflmhaaDoor
open Go.Pv

section
variable {n:Nat} {f:Nat→Nat→Nat} {e:Nat}

/-- The same but for a power of y. -/
def sm (n:Nat) (f:Nat→Nat→Nat) (e y x z:Nat):Prop:=∃ j,j < ord n f e y∧z=f x (pw f e y j)
instance (n:Nat) (f:Nat→Nat→Nat) (e y x z:Nat):Decidable (sm n f e y x z):=by unfold sm; infer_instance

/-- The least of a coset. -/
def rp (n:Nat) (f:Nat→Nat→Nat) (e y x:Nat):Nat:=(fst' (fun z=>decide (sm n f e y x z)) n).getD 0

/-- The quotient's things. -/
def quo (n:Nat) (f:Nat→Nat→Nat) (e y:Nat):List Nat:=mem n fun x=>cen f y x && decide (rp n f e y x=x)
end
end Go.Proofs.YtboadfahlflmhaaDoor

/-
  Plain law, FROBENIUS' THEOREM: how many things the quotient of a centraliser has, and how many solutions. Conditions: none.
-/
set_option linter.all false
namespace Go.Proofs.YtboadfahlflmhaaDoor
open Go.Pv

section
variable {n:Nat} {f:Nat→Nat→Nat} {e:Nat}

end
end Go.Proofs.YtboadfahlflmhaaDoor

/-
  Plain law, FROBENIUS' THEOREM: of a divisor m of n so many things are, m times, the one, as a multiple of m. Conditions: none.
-/
set_option linter.all false
namespace Go.Proofs.YtboadfahlflmhaaDoor
open Go.Pv

section
variable {n:Nat} {f:Nat→Nat→Nat} {e:Nat}

/-! ### Primes -/

theorem prime_cop {p s:Nat} (hp:∀ d,d ∣ p→d=1∨d=p) (h:¬ p ∣ s):Nat.gcd p s=1:=by
 rcases hp _ (Nat.gcd_dvd_left p s) with h1 | h1
 ·exact h1
 ·exact absurd (h1 ▸ Nat.gcd_dvd_right p s) h
theorem dvd_ppow {p:Nat} (hp2:2≤p) (hp:∀ d,d ∣ p→d=1∨d=p):∀ {k d:Nat},d ∣ p ^ (k + 1)→d=p ^ (k + 1)∨d ∣ p ^ k
 | k,d,h=>by
  by_cases hpd:p ∣ d
  ·obtain ⟨c,rfl⟩:=hpd
   rw [Nat.pow_succ,Nat.mul_comm _ p] at h
   have h1:=Nat.dvd_of_mul_dvd_mul_left (by omega) h
   match k,h1 with
   | 0,h1 =>
    have:c=1:=Nat.dvd_one.1 (by simpa using h1)
    left; simp [this]
   | k + 1,h1 =>
    rcases dvd_ppow hp2 hp h1 with h2 | h2
    ·left; rw [h2,Nat.pow_succ p (k + 1),Nat.mul_comm]
    ·right; rw [Nat.pow_succ,Nat.mul_comm _ p]; exact Nat.mul_dvd_mul (Nat.dvd_refl p) h2
  ·right
   have hc:Nat.Coprime d p:=Nat.Coprime.symm (prime_cop hp hpd)
   rw [Nat.pow_succ] at h
   exact Nat.Coprime.dvd_of_dvd_mul_right hc h

end
end Go.Proofs.YtboadfahlflmhaaDoor

/-
  Plain law, SYLOW'S THEOREMS: subgroups of a power of a prime of things. Conditions: none.
-/
set_option linter.all false
namespace Go.Proofs.YtboadfahlflmhaaDoor
open Go.Pv

section
variable {n:Nat} {f:Nat→Nat→Nat} {e:Nat} {p q s:Nat→Bool} {P:Nat}

theorem isPr.pow_div (hP:isPr P):∀ {k d:Nat},d ∣ P ^ k→∃ i,i≤k∧d=P ^ i
 | 0,d,h=>⟨0,Nat.le_refl _,by simpa using h⟩
 | k + 1,d,h=>by
  rcases dvd_ppow hP.1 (fun d hd=>hP.div hd) h with h | h
  ·exact ⟨k + 1,Nat.le_refl _,h⟩
  ·obtain ⟨i,hi,h⟩:=hP.pow_div h
   exact ⟨i,by omega,h⟩
theorem isPr.pos (hP:isPr P) (k:Nat):0 < P ^ k:=Nat.pow_pos (by have:=hP.1; omega)
theorem isPr.le_of_dvd (hP:isPr P) {i j:Nat} (h:P ^ i ∣ P ^ j):i≤j:=by
 have h1:=Nat.le_of_dvd (hP.pos j) h
 exact (Nat.pow_le_pow_iff_right hP.1).1 h1
theorem isPr.mul (hP:isPr P) {a b:Nat} (h:P ∣ a * b):P ∣ a∨P ∣ b:=by
 by_cases ha:P ∣ a
 ·exact .inl ha
 ·exact .inr (Nat.Coprime.dvd_of_dvd_mul_left (hP.cop ha) h)

theorem Grp.nzr_cj (G:Grp n f e) (hp:Sub n f e p) {a:Nat} (ha:a < n):nzr n f e p a=true↔∀ x,x < n→(p (cjr n f e x a)=true↔p x=true):=by
 rw [nzr_iff]
 constructor
 ·intro h x hx
  have h1:=h (cjr n f e x a) (G.cjr_lt hx ha)
  rw [G.shf_back ha (G.cjr_lt hx ha),G.cjr_iv hx ha] at h1
  rw [h1]
 ·intro h y hy
  rw [G.shf_back ha hy,Bool.eq_iff_iff]
  have h1:=h (cjr n f e y (iv n f e a)) (G.cjr_lt hy (G.iv_lt ha))
  rw [G.cjr_vi hy ha] at h1
  exact h1.symm
/-- What lets a set stay, by one way of the two. -/
theorem Grp.nzr_of (G:Grp n f e) (hp:Sub n f e p) {a:Nat} (ha:a < n) (h:∀ y,y < n→shf n f e p a y=true→p y=true):nzr n f e p a=true:=by
 have h1:=G.shf_len (p:=p) ha
 refine nzr_iff.2 fun y hy=>?_
 by_cases hy2:shf n f e p a y=p y
 ·exact hy2
 ·exfalso
  have:=mem_lt (n:=n) h (fun hh=>hy2 (hh y hy))
  omega

/-- A subgroup, and a thing that lets it stay: their products are one. -/
theorem Grp.nz_prod (G:Grp n f e) (hp:Sub n f e p) (hq:Sub n f e q) (h:∀ a,a < n→q a=true→nzr n f e p a=true):Sub n f e (pr2 n f e p q):=
 sub_of G (pr2_iff.2 ⟨e,G.el,hp.one,by rw [G.iv_one,G.one_l e G.el]; exact hq.one⟩) fun x y hx hy h1 h2=>by
  obtain ⟨a,ha,pa,qb⟩:=pr2_iff.1 h1
  obtain ⟨c,hc,pc,qd⟩:=pr2_iff.1 h2
  have ia:=G.iv_lt ha
  have ic:=G.iv_lt hc
  have hb:=G.cl _ _ ia hx
  have ib:=G.iv_lt hb
  have hd:=G.cl _ _ ic hy
  
  have hcb:=G.cjr_lt hc ib
  have hk:p (cjr n f e c (iv n f e (f (iv n f e a) x)))=true:=((G.nzr_cj hp ib).1 (h _ ib (hq.inv _ hb qb)) c hc).2 pc
  have hac:=G.cl _ _ ha hcb
  refine pr2_iff.2 ⟨f a (cjr n f e c (iv n f e (f (iv n f e a) x))),hac,hp.mul _ _ ha hcb pa hk,?_⟩
  have e1:f (iv n f e (f a (cjr n f e c (iv n f e (f (iv n f e a) x))))) (f x y)=f (f (iv n f e a) x) (f (iv n f e c) y):=by
   have hbc:=G.cl _ _ hb hc
   have e2:cjr n f e c (iv n f e (f (iv n f e a) x))=f (f (f (iv n f e a) x) c) (iv n f e (f (iv n f e a) x)):=by
    unfold cjr; rw [G.iv_iv hb]
   have e3:f x y=f (f a (cjr n f e c (iv n f e (f (iv n f e a) x)))) (f (f (iv n f e a) x) (f (iv n f e c) y)):=by
    rw [G.assoc a _ _ ha hcb (G.cl _ _ hb hd),e2,G.assoc _ _ _ hbc ib (G.cl _ _ hb hd),← G.assoc (iv n f e (f (iv n f e a) x)) _ _ ib hb hd,G.iv_mul hb,G.one_l _ hd,G.assoc _ _ _ hb hc hd,← G.assoc c _ y hc ic hy,G.mul_iv hc,G.one_l y hy,← G.assoc a _ y ha hb hy,← G.assoc a _ x ha ia hx,G.mul_iv ha,G.one_l x hx]
   rw [e3,← G.assoc _ _ _ (G.iv_lt hac) hac (G.cl _ _ hb hd),G.iv_mul hac,G.one_l _ (G.cl _ _ hb hd)]
  rw [e1]
  exact hq.mul _ _ hb hd qb qd

/-- THE COUNT: of a subgroup of a power of P things, and another: things that bring not the first into the second. -/
theorem Grp.syl_count (G:Grp n f e) (hP:isPr P) (hq:Sub n f e q) {i:Nat} (hi:(mem n q).length=P ^ i) (hs:Sub n f e s) :
  ∃ c,n=(mem n fun a=>decide (∀ y,y < n→shf n f e q a y=true→s y=true)).length + P * (mem n s).length * c:=by
 obtain ⟨K,hK⟩:∃ K:Nat→Bool,K=fun a=>decide (∀ y,y < n→shf n f e q a y=true→s y=true):=⟨_,rfl⟩
 have hKi:∀ a,K a=true↔∀ y,y < n→shf n f e q a y=true→s y=true:=fun a=>by rw [hK]; exact decide_eq_true_iff
 have E:=G.dco_eqv hq hs
 have inv:∀ x y,x < n→y < n→dco n f q s x y=true→K x=true→K y=true:=by
  intro x y hx hy h hk
  obtain ⟨u,v,hu,hv,qu,sv,rfl⟩:=dco_iff.1 h
  refine (hKi _).2 fun z hz hzs=>?_
  obtain ⟨w,hw,qw,rfl⟩:=shf_iff.1 hzs
  have hux:=G.cl _ _ hu hx
  rw [← G.cjr_cjr hw hux hv,← G.cjr_cjr hw hu hx]
  have hwu:=G.cjr_lt hw hu
  have h1:q (cjr n f e w u)=true:=hq.mul _ _ (G.cl _ _ (G.iv_lt hu) hw) hu (hq.mul _ _ (G.iv_lt hu) hw (hq.inv _ hu qu) qw) qu
  have h2:s (cjr n f e (cjr n f e w u) x)=true:=(hKi x).1 hk _ (G.cjr_lt hwu hx) (shf_iff.2 ⟨_,hwu,h1,rfl⟩)
  have hwx:=G.cjr_lt hwu hx
  exact hs.mul _ _ (G.cl _ _ (G.iv_lt hv) hwx) hv (hs.mul _ _ (G.iv_lt hv) hwx (hs.inv _ hv sv) h2) sv
 have inv2:∀ x y,x < n→y < n→dco n f q s x y=true→(!K x)=true→(!K y)=true:=by
  intro x y hx hy h hk
  cases hky:K y with
  | false=>rfl
  | true=>rw [inv y x hy hx (E.symm x y hx hy h) hky] at hk; cases hk
 have hsum:=E.part (K:=fun a=>!K a) inv2
 have hdv:∀ l:List Nat,(∀ x∈l,P * (mem n s).length ∣ (mem n (dco n f q s x)).length)→P * (mem n s).length ∣ (l.map fun x=>(mem n (dco n f q s x)).length).sum:=by
  intro l
  induction l with
  | nil=>intro _; exact ⟨0,rfl⟩
  | cons x r ih =>
   intro h
   rw [List.map_cons,List.sum_cons]
   exact Nat.dvd_add (h x (by simp)) (ih fun y hy=>h y (by simp [hy]))
 have hd:=hdv (mem n fun x=>lead (dco n f q s) x && !K x) (fun x hx=>by
  obtain ⟨x1,x2⟩:=mem_mem.1 hx
  rw [Bool.and_eq_true] at x2
  have hc:=G.dco_count hq hs x1
  have hsh:=G.shf_sub hq x1
  have hm:=hsh.and hs
  have hlen:=G.shf_len (p:=q) x1
  obtain ⟨i2,hi2,hmi⟩:=hP.pow_div (k:=i) (d:=(mem n fun y=>shf n f e q x y && s y).length) (by
   rw [← hi,← hlen]
   exact hm.dvd G fun a b ha hb h1 h2=>hsh.mul a b ha hb h1 (by rw [Bool.and_eq_true] at h2; exact h2.1))
  have hne:i2 ≠ i:=fun h=>by
   have hk:K x=true:=(hKi x).2 fun y hy hys=>by
    cases hsy:s y with
    | true=>rfl
    | false =>
     exfalso
     have:=mem_lt (n:=n) (p:=shf n f e q x) (q:=fun y=>shf n f e q x y && s y) (fun a _ h=>by rw [Bool.and_eq_true] at h; exact h.1) (fun hh=>by
      have:=hh y hy
      rw [hys,hsy] at this; cases this)
     rw [hlen,hi,hmi,h] at this
     omega
   rw [hk] at x2; cases x2.2
  rw [hmi,hi] at hc
  obtain ⟨t,ht⟩:∃ t,i=i2 + 1 + t:=⟨i - i2 - 1,by omega⟩
  refine ⟨P ^ t,Nat.eq_of_mul_eq_mul_right (hP.pos i2) ?_⟩
  rw [hc,ht,Nat.pow_add,Nat.pow_succ]
  ac_rfl)
 rw [hsum] at hd
 obtain ⟨c,hc⟩:=hd
 refine ⟨c,?_⟩
 have hsp:(mem n K).length + (mem n fun a=>!K a).length=n:=by
  have h:=List.length_eq_countP_add_countP K (l:=List.range n)
  rw [List.length_range,List.countP_eq_length_filter,List.countP_eq_length_filter] at h
  unfold mem
  rw [show (List.filter (fun a=>!K a) (List.range n))=List.filter (fun a=>decide ¬K a=true) (List.range n) from List.filter_congr fun a _=>by cases K a<;>rfl]
  exact h.symm
 rw [hK] at hsp hc
 omega

/-- Some of Sylow's subgroups. -/
structure Syl (n:Nat) (f:Nat→Nat→Nat) (e P:Nat) (s:Nat→Bool) (j t:Nat):Prop where
 sub:Sub n f e s
 len:(mem n s).length=P ^ j
 num:n=P ^ j * t
 non:¬ P ∣ t

/-- ALL ARE IN ONE, CONJUGATED. -/
theorem Syl.holds {j t:Nat} (hS:Syl n f e P s j t) (G:Grp n f e) (hP:isPr P) (hq:Sub n f e q) {i:Nat} (hi:(mem n q).length=P ^ i):∃ a,a < n∧∀ y,y < n→q y=true→shf n f e s a y=true:=by
 obtain ⟨c,hc⟩:=G.syl_count hP hq hi hS.sub
 by_cases h0:(mem n fun a=>decide (∀ y,y < n→shf n f e q a y=true→s y=true))=[]
 ·exfalso
  rw [h0,hS.len] at hc
  have h1:=hS.num
  rw [List.length_nil,Nat.zero_add] at hc
  have:P ^ j * t=P ^ j * (P * c):=by rw [← h1,← show P * P ^ j * c=P ^ j * (P * c) by ac_rfl]; exact hc
  have:=Nat.eq_of_mul_eq_mul_left (hP.pos j) this
  exact hS.non ⟨c,this⟩
 ·obtain ⟨a,ha⟩:=List.exists_mem_of_ne_nil _ h0
  obtain ⟨a1,a2⟩:=mem_mem.1 ha
  rw [decide_eq_true_eq] at a2
  refine ⟨iv n f e a,G.iv_lt a1,fun y hy hqy=>?_⟩
  rw [G.shf_back (G.iv_lt a1) hy,G.iv_iv a1]
  exact a2 _ (G.cjr_lt hy a1) (shf_iff.2 ⟨y,hy,hqy,rfl⟩)

theorem Syl.shf {j t:Nat} (hS:Syl n f e P s j t) (G:Grp n f e) {a:Nat} (ha:a < n):Syl n f e P (shf n f e s a) j t:=
 ⟨G.shf_sub hS.sub ha,by rw [G.shf_len ha]; exact hS.len,hS.num,hS.non⟩

/-- How many sets there are among the conjugated ones, as a list has them. -/
theorem Grp.conj_num (G:Grp n f e) (hs:Sub n f e s) {α:Type} [DecidableEq α] {code:(Nat→Bool)→α} (hcode:∀ p q:Nat→Bool,code p=code q↔∀ y,y < n→p y=q y) {L:List α} (hnd:L.Nodup)
  (hL:∀ x,x∈L↔∃ a,a < n∧x=code (Go.Proofs.YtboadfahlflmhaaDoor.shf n f e s a)):L.length * (mem n (nzr n f e s)).length=n:=by
 have h:=dbl (R:=fun a x=>decide (code (Go.Proofs.YtboadfahlflmhaaDoor.shf n f e s a)=x)) (L1:=List.range n) (L2:=L) (c1:=1) (c2:=(mem n (nzr n f e s)).length) (fun a ha=>by
  have hm:=(hL _).2 ⟨a,List.mem_range.1 ha,rfl⟩
  have:(L.filter fun w=>decide (code (Go.Proofs.YtboadfahlflmhaaDoor.shf n f e s a)=w)).length=[code (Go.Proofs.YtboadfahlflmhaaDoor.shf n f e s a)].length:=same_len (hnd.filter _) (by simp) fun x=>by
   rw [List.mem_filter,List.mem_singleton,decide_eq_true_eq]
   exact ⟨fun h=>h.2.symm,fun h=>⟨by rw [h]; exact hm,h.symm⟩⟩
  simpa using this) (fun x hx=>by
  obtain ⟨a,ha,rfl⟩:=(hL x).1 hx
  have ia:=G.iv_lt ha
  show (mem n fun b=>decide (code (Go.Proofs.YtboadfahlflmhaaDoor.shf n f e s b)=code (Go.Proofs.YtboadfahlflmhaaDoor.shf n f e s a))).length=_
  refine mem_bij (fun b=>f b (iv n f e a)) (fun b hb h=>⟨G.cl _ _ hb ia,?_⟩) (fun x y hx hy _ _ h=>G.cancel_r ia hx hy h) fun z hz h=>⟨f z a,G.cl _ _ hz ha,?_,?_⟩
  ·rw [decide_eq_true_eq,hcode] at h
   refine nzr_iff.2 fun y hy=>?_
   have hba:=G.cl _ _ hb ia
   rw [G.shf_back hba hy,G.iv_prod hb ia,G.iv_iv ha,← G.cjr_cjr hy ha (G.iv_lt hb),← G.shf_back (p:=s) hb (G.cjr_lt hy ha),h _ (G.cjr_lt hy ha),G.shf_back ha (G.cjr_lt hy ha),G.cjr_iv hy ha]
  ·rw [decide_eq_true_eq,hcode]
   intro y hy
   rw [G.shf_back (G.cl _ _ hz ha) hy,G.iv_prod hz ha,← G.cjr_cjr hy ia (G.iv_lt hz),← G.shf_back (p:=s) hz (G.cjr_lt hy ia),nzr_iff.1 h _ (G.cjr_lt hy ia),← G.shf_back (p:=s) ha hy]
  ·rw [G.assoc z a _ hz ha ia,G.mul_iv ha,G.one_r z hz])
 rw [List.length_range,Nat.mul_one] at h
 exact h.symm

end
end Go.Proofs.YtboadfahlflmhaaDoor

/-
  Plain law: how one of Sylow's subgroups is grown. Conditions: none.
-/
set_option linter.all false
namespace Go.Proofs.YtboadfahlflmhaaDoor
open Go.Pv

noncomputable def gn (n:Nat) (f:Nat→Nat→Nat) (e:Nat) (p:Nat→Bool):Nat→Bool:=Classical.choose (gen_ex n f e p)
theorem gn_iff {n:Nat} {f:Nat→Nat→Nat} {e:Nat} (p:Nat→Bool):∀ a,a < n→(gn n f e p a=true↔Gen n f e p a):=Classical.choose_spec (gen_ex n f e p)

section
variable {n:Nat} {f:Nat→Nat→Nat} {e:Nat} {p q s:Nat→Bool} {P:Nat}

end
end Go.Proofs.YtboadfahlflmhaaDoor

/-
  Plain law, FRATTINI'S ARGUMENT. Conditions: none.
-/
set_option linter.all false
namespace Go.Proofs.YtboadfahlflmhaaDoor
open Go.Pv

section
variable {n e P:Nat} {f:Nat→Nat→Nat} {q s:Nat→Bool}

theorem Syl.cong {f g:Nat→Nat→Nat} {j t:Nat} (hY:Syl n g e P s j t) (G:Grp n f e) (h:∀ a b,a < n→b < n→g a b=f a b):Syl n f e P s j t:=
 ⟨hY.sub.cong_op G h,hY.len,hY.num,hY.non⟩

end
end Go.Proofs.YtboadfahlflmhaaDoor

/-
  Nilpotent groups; classes of a quotient; the quotient by commutators. Conditions: none.
-/
set_option linter.all false
namespace Go.Proofs.YtboadfahlflmhaaDoor
open Go.Pv

section
variable {n:Nat} {f:Nat→Nat→Nat} {e:Nat}
theorem Grp.cmt_iv (G:Grp n f e) {a b:Nat} (ha:a < n) (hb:b < n):iv n f e (cmt n f e a b)=cmt n f e b a:=by
 have ia:=G.iv_lt ha
 have ib:=G.iv_lt hb
 unfold cmt
 rw [G.iv_prod (G.cl _ _ ia ib) (G.cl _ _ ha hb),G.iv_prod ia ib,G.iv_prod ha hb,G.iv_iv ha,G.iv_iv hb]

/-! ### Classes of a quotient -/

theorem lead_le {k:Nat} {r1 r2:Nat→Nat→Bool} (E1:Eqv n r1) (E2:Eqv k r2) (rep:Nat→Nat) (hr:∀ i,i < k→rep i < n) (h:∀ i j,i < k→j < k→r1 (rep i) (rep j)=true→r2 i j=true):(mem k (lead r2)).length≤(mem n (lead r1)).length:=by
 have hex:∀ i,∃ x,i < k→x < n∧lead r1 x=true∧r1 x (rep i)=true:=fun i=>by
  by_cases hi:i < k
  ·obtain ⟨x,h1,h2,h3⟩:=E1.least (hr i hi)
   exact ⟨x,fun _=>⟨h1,h2,h3⟩⟩
  ·exact ⟨0,fun h=>absurd h hi⟩
 obtain ⟨g,hg⟩:=Classical.axiomOfChoice hex
 rw [← List.length_map (f:=g) («as»:=mem k (lead r2))]
 refine List.Nodup.length_le_of_subset (nodup_map (List.nodup_range.filter _) fun i hi j hj he=>?_) fun x hx=>?_
 ·obtain ⟨i1,i2⟩:=mem_mem.1 hi
  obtain ⟨j1,j2⟩:=mem_mem.1 hj
  obtain ⟨a1,a2,a3⟩:=hg i i1
  obtain ⟨b1,b2,b3⟩:=hg j j1
  rw [← he] at b3
  exact E2.lead_eq i1 j1 i2 j2 (h i j i1 j1 (E1.trans _ _ _ (hr i i1) a1 (hr j j1) (E1.symm _ _ a1 (hr i i1) a3) b3))
 ·obtain ⟨i,hi,rfl⟩:=List.mem_map.1 hx
  obtain ⟨i1,i2⟩:=mem_mem.1 hi
  exact mem_mem.2 ⟨(hg i i1).1,(hg i i1).2.1⟩
theorem Qm.iv {k:Nat} {cl rep:Nat→Nat} (Q:Qm n f k cl rep) (G:Grp n f e) {a:Nat} (ha:a < n):iv k (qop f cl rep) (cl e) (cl a)=cl (Go.Proofs.YtboadfahlflmhaaDoor.iv n f e a):=
 ((Q.grp G).iv_unique (Q.lt a ha) (Q.lt _ (G.iv_lt ha)) (.inl (by rw [Q.op ha (G.iv_lt ha),G.mul_iv ha]))).symm
theorem Qm.cjb {k:Nat} {cl rep:Nat→Nat} (Q:Qm n f k cl rep) (G:Grp n f e) {x y:Nat} (hx:x < n) (hy:y < n) (h:cjb n f e x y=true):cjb k (qop f cl rep) (cl e) (cl x) (cl y)=true:=by
 obtain ⟨a,ha,rfl⟩:=cjb_iff.1 h
 have ia:=G.iv_lt ha
 refine cjb_iff.2 ⟨cl a,Q.lt a ha,?_⟩
 rw [Q.iv G ha,Q.op ia hx,Q.op (G.cl _ _ ia hx) ha]
/-- A quotient has no more classes. -/
theorem Qm.classes {k:Nat} {cl rep:Nat→Nat} (Q:Qm n f k cl rep) (G:Grp n f e):(mem k (lead (Go.Proofs.YtboadfahlflmhaaDoor.cjb k (qop f cl rep) (cl e)))).length≤(mem n (lead (Go.Proofs.YtboadfahlflmhaaDoor.cjb n f e))).length:=
 lead_le G.cjb_eqv (Q.grp G).cjb_eqv rep Q.rlt fun i j hi hj h=>by
  have:=Q.cjb G (Q.rlt i hi) (Q.rlt j hj) h
  rwa [Q.at_ i hi,Q.at_ j hj] at this
end
end Go.Proofs.YtboadfahlflmhaaDoor

/-
  Series of subgroups, as the program has them. Conditions: none.
-/
set_option linter.all false
namespace Go.Proofs.YtboadfahlflmhaaDoor
open Go.Pv

theorem Stp.at {n:Nat} {T:Nat→Nat→Bool} {K k:Nat} (h:Stp n T K) (hk:k≤K):bo n (T (k + 1))=bo n (T k)↔k=K:=by
 constructor
 ·intro he
  rcases Nat.lt_or_eq_of_le hk with h1 | h1
  ·exact absurd (fun a ha=>bo_inj he ha) (h.ne k h1)
  ·exact h1
 ·rintro rfl
  exact bo_congr h.eq
/-! ### Derived, Lower -/

section
variable {n e:Nat} {m:List Int}
end
/-! ### Upper -/

/-! ### An example of the document -/

end Go.Proofs.YtboadfahlflmhaaDoor

/-
  Plain law: nilpotent is just where all of Sylow's subgroups are normal; both central series are as long. Conditions: none.
-/
set_option linter.all false
namespace Go.Proofs.YtboadfahlflmhaaDoor
open Go.Pv

section
variable {n e P:Nat} {f:Nat→Nat→Nat} {p q s:Nat→Bool}

/-! ### Both series -/
section
variable {nl:(Nat→Bool)→Nat→Bool}
theorem Stp.le {T:Nat→Nat→Bool} {K k:Nat} (h:Stp n T K) (he:∀ a,a < n→T (k + 1) a=T k a):K≤k:=
 Nat.le_of_not_lt fun hh=>h.ne k hh he
end

/-! ### Sylow's subgroups of what is nilpotent -/
/-! ### A group of a power of P things, and a normal subgroup that is not all -/
/-! ### Where all of Sylow's subgroups are normal -/
theorem isPr.two {P Q:Nat} (hP:isPr P) (hQ:isPr Q) (h:P ∣ Q):P=Q:=by
 rcases hQ.div h with h1 | h1
 ·have:=hP.1; omega
 ·exact h1
/-- Normal subgroups without common things commute. -/
theorem Grp.nml_comm (G:Grp n f e) (hp:Sub n f e p) (hpn:Nml n f e p) (hq:Sub n f e q) (hqn:Nml n f e q) (h:∀ a,a < n→p a=true→q a=true→a=e) {a b:Nat} (ha:a < n) (hb:b < n) (h1:p a=true) (h2:q b=true):cmt n f e a b=e:=by
 have hc:=G.cmt_lt ha hb
 refine h _ hc (G.cmt_in hp hpn ha hb h1) ?_
 rw [← G.cmt_iv hb ha]
 exact hq.inv _ (G.cmt_lt hb ha) (G.cmt_in hq hqn hb ha h2)
end
end Go.Proofs.YtboadfahlflmhaaDoor

/-
  Plain law: all subgroups from cyclic ones on, by what two make; putting in order by changing places. Conditions: none.
-/
set_option linter.all false
namespace Go.Proofs.YtboadfahlflmhaaDoor
open Go.Pv

section
variable {n e:Nat} {f:Nat→Nat→Nat}
/-- What one thing makes. -/
noncomputable def cyg (n:Nat) (f:Nat→Nat→Nat) (e b:Nat):Nat→Bool:=gn n f e (onp b)
theorem cyg_iff {b:Nat} : ∀ a,a < n→(cyg n f e b a=true↔Gen n f e (onp b) a):=gn_iff _
theorem cyg_sub (G:Grp n f e) (b:Nat):Sub n f e (cyg n f e b):=gen_sub G cyg_iff
theorem cyg_in (G:Grp n f e) {b:Nat} (hb:b < n):cyg n f e b b=true:=(cyg_iff b hb).2 (Gen.mem G hb (onp_iff.2 rfl))
theorem cyg_le (G:Grp n f e) {b:Nat} {p:Nat→Bool} (hp:Sub n f e p) (h:p b=true) {a:Nat} (ha:a < n) (hc:cyg n f e b a=true):p a=true:=
 ((cyg_iff a ha).1 hc).sub G hp fun x _ hx=>by rw [onp_iff] at hx; rw [hx]; exact h
theorem cyg_one (G:Grp n f e):∀ a,a < n→cyg n f e e a=onp e a:=fun a ha=>by
 rw [Bool.eq_iff_iff]
 constructor
 ·exact cyg_le G G.onp_sub (onp_iff.2 rfl) ha
 ·intro h; rw [onp_iff] at h; rw [h]; exact (cyg_sub G e).one
def oru2 (p q:Nat→Bool) (a:Nat):Bool:=p a || q a
/-- What is closed under joining with cyclic ones has all with one thing more. -/
theorem join_dn (G:Grp n f e) {L:List Nat} {x a:Nat} {p:Nat→Bool} (ha:a < n) (hx:x=bo n p) (h:bo n (gn n f e (oru2 p (cyg n f e a)))∈L):Dn n f e x a L:=fun q hq=>by
 have:bo n q=bo n (gn n f e (oru2 p (cyg n f e a))):=bo_congr fun y hy=>by
  have hpb:∀ z,z < n→x.testBit z=p z:=fun z hz=>by rw [hx,bo_bit]; simp [hz]
  rw [Bool.eq_iff_iff,hq y hy,gn_iff _ y hy]
  constructor
  ·refine Gen.mono fun b hb hw=>?_
   unfold wta at hw
   rw [Bool.or_eq_true,decide_eq_true_eq,hpb b hb] at hw
   unfold oru2
   rcases hw with hw | hw
   ·rw [hw]; rfl
   ·rw [hw,cyg_in G ha]; simp
  ·intro hg
   have hq2:=gen_sub G hq
   refine (hq y hy).1 (hg.sub G hq2 fun b hb hw=>?_)
   unfold oru2 at hw
   rw [Bool.or_eq_true] at hw
   rcases hw with hw | hw
   ·exact (hq b hb).2 (Gen.mem G hb (by unfold wta; rw [hpb b hb,hw]; rfl))
   ·exact cyg_le G hq2 ((hq a ha).2 (Gen.mem G ha (by unfold wta; simp))) hb hw
 rw [this]; exact h
theorem join_in (G:Grp n f e) {p c:Nat→Bool} (hp:Sub n f e p) (h:∀ a,a < n→c a=true→p a=true):bo n (gn n f e (oru2 p c))=bo n p:=bo_congr fun y hy=>by
 rw [Bool.eq_iff_iff,gn_iff _ y hy]
 constructor
 ·exact fun hg=>hg.sub G hp fun b hb hw=>by
   unfold oru2 at hw
   rw [Bool.or_eq_true] at hw
   exact hw.elim id (h b hb)
 ·exact fun h1=>Gen.mem G hy (by unfold oru2; rw [h1]; rfl)
end

/-! ### Putting in order -/
def lts (x y:Nat):Prop:=cmpS (stl x) (stl y) < 0
theorem lts_self (x:Nat):¬ lts x x:=cmpS_self _
theorem lts_trans {x y z:Nat} (h1:lts x y) (h2:lts y z):lts x z:=cmpS_trans _ _ _ h1 h2
theorem lts_asym {x y:Nat} (h1:lts x y):¬ lts y x:=fun h2=>lts_self _ (lts_trans h1 h2)
/-- Two places changed. -/
def swp (M:List Nat) (i k:Nat):List Nat:=(M.set i (M.getD k 0)).set k (M.getD i 0)
theorem swp_len (M:List Nat) (i k:Nat):(swp M i k).length=M.length:=by simp [swp]
theorem swp_get {M:List Nat} {i k:Nat} (hi:i < M.length) (hk:k < M.length) (j:Nat) (hj:j < M.length):(swp M i k).getD j 0=if j=k then M.getD i 0 else if j=i then M.getD k 0 else M.getD j 0:=by
 unfold swp
 rw [List.getD_eq_getElem?_getD,List.getElem?_set]
 by_cases h1:j=k
 ·rw [if_pos h1.symm,if_pos h1]
  simp [hk]
 ·rw [if_neg (Ne.symm h1),if_neg h1,List.getElem?_set]
  by_cases h2:j=i
  ·rw [if_pos h2.symm,if_pos h2]
   simp [hi]
  ·rw [if_neg (Ne.symm h2),if_neg h2,List.getD_eq_getElem?_getD]
theorem swp_perm {M:List Nat} {i k:Nat} (hi:i < M.length) (hk:k < M.length):(swp M i k).Perm M:=by
 unfold swp
 have h1:M.getD k 0=M[k]:=by simp [List.getD,List.getElem?_eq_getElem hk]
 have h2:M.getD i 0=M[i]:=by simp [List.getD,List.getElem?_eq_getElem hi]
 rw [h1,h2]
 exact List.set_set_perm hi hk
structure OrdI (i k:Nat) (M:List Nat):Prop where
 out:∀ a b,a < i→a < b→b < M.length→¬ lts (M.getD b 0) (M.getD a 0)
 inn:∀ b,i < b→b < k→¬ lts (M.getD b 0) (M.getD i 0)
theorem OrdI.skip {i k:Nat} {M:List Nat} (h:OrdI i k M) (hl:¬ lts (M.getD k 0) (M.getD i 0)):OrdI i (k + 1) M:=
 ⟨h.out,fun b h1 h2=>by
  by_cases hb:b=k
  ·rw [hb]; exact hl
  ·exact h.inn b h1 (by omega)⟩
theorem OrdI.swap {i k:Nat} {M:List Nat} (h:OrdI i k M) (hik:i < k) (hk:k < M.length) (hl:lts (M.getD k 0) (M.getD i 0)):OrdI i (k + 1) (swp M i k):=by
 have hi:i < M.length:=by omega
 refine ⟨fun a b h1 h2 h3=>?_,fun b h1 h2=>?_⟩
 ·rw [swp_len] at h3
  rw [swp_get hi hk b h3,swp_get hi hk a (by omega),if_neg (show ¬ a=k by omega),if_neg (show ¬ a=i by omega)]
  by_cases hb:b=k
  ·rw [if_pos hb]; exact h.out a i h1 h1 hi
  ·rw [if_neg hb]
   by_cases hb2:b=i
   ·rw [if_pos hb2]; exact h.out a k h1 (by omega) hk
   ·rw [if_neg hb2]; exact h.out a b h1 h2 h3
 ·rw [swp_get hi hk b (by omega),swp_get hi hk i hi,if_neg (show ¬ i=k by omega),if_pos rfl]
  by_cases hb:b=k
  ·rw [if_pos hb]; exact lts_asym hl
  ·rw [if_neg hb,if_neg (show ¬ b=i by omega)]
   exact fun h3=>h.inn b h1 (by omega) (lts_trans h3 hl)
theorem OrdI.next {i:Nat} {M:List Nat} (h:OrdI i M.length M):OrdI (i + 1) (i + 2) M:=
 ⟨fun a b h1 h2 h3=>by
  by_cases ha:a=i
  ·rw [ha] at h2 ⊢; exact h.inn b h2 h3
  ·exact h.out a b (by omega) h2 h3,fun b h1 h2=>by omega⟩
theorem ord_unique {M L:List Nat} (hp:M.Perm L) (hL:L.Pairwise fun x y=>lts x y) (hb:∀ x∈L,x < 2 ^ 64) (hM:∀ a b,a < b→b < M.length→¬ lts (M.getD b 0) (M.getD a 0)):M=L:=by
 have hnd:L.Nodup:=hL.imp fun {x y} h he=>by subst he; exact lts_self _ h
 have hMp:M.Pairwise fun x y=>¬ lts y x:=by
  rw [List.pairwise_iff_getElem]
  intro a b ha hb' hab
  have:=hM a b hab hb'
  simpa [List.getD,List.getElem?_eq_getElem ha,List.getElem?_eq_getElem hb'] using this
 clear hM
 induction M generalizing L with
 | nil=>exact (List.nil_perm.1 hp).symm
 | cons x r ih =>
  cases L with
  | nil=>exact absurd hp.length_eq (by simp)
  | cons y s =>
   have hxy:x=y:=by
    have hx:x∈y :: s:=hp.subset (by simp)
    have hy:y∈x :: r:=hp.symm.subset (by simp)
    rcases List.mem_cons.1 hx with hx | hx
    ·exact hx
    ·rcases List.mem_cons.1 hy with hy | hy
     ·exact hy.symm
     ·exact absurd ((List.pairwise_cons.1 hL).1 x hx) ((List.pairwise_cons.1 hMp).1 y hy)
   subst hxy
   rw [ih (List.Perm.cons_inv hp) (List.pairwise_cons.1 hL).2 (fun z hz=>hb z (by simp [hz])) (List.nodup_cons.1 hnd).2 (List.pairwise_cons.1 hMp).2]
end Go.Proofs.YtboadfahlflmhaaDoor

/-
  Plain: complements of a normal part (Schur and Zassenhaus, where things are few). Conditions: none.
-/
set_option linter.all false
namespace Go.Proofs.YtboadfahlflmhaaDoor

section
variable {n e:Nat} {f:Nat→Nat→Nat} {p q:Nat→Bool}
theorem Grp.meet_one (G:Grp n f e) (hq:Sub n f e q) (hp:Sub n f e p):(mem n fun y=>q y && p y).length=1↔bo n (fun y=>q y && p y)=bo n (onp e):=by
 rw [G.meet_len hq hp]
 constructor
 ·intro h
  refine bo_congr fun a ha=>?_
  rw [Bool.eq_iff_iff,Bool.and_eq_true,onp_iff]
  exact ⟨fun ⟨h1,h2⟩=>h a ha h1 h2,fun h1=>by rw [h1]; exact ⟨hq.one,hp.one⟩⟩
 ·intro h a ha h1 h2
  have h3:=congrArg (fun x=>x.testBit a) h
  simp only [bo_bit] at h3
  rw [h1,h2] at h3
  have:onp e a=true:=by simpa [ha] using h3.symm
  exact onp_iff.1 this

end
end Go.Proofs.YtboadfahlflmhaaDoor

/-
  The library's sort by a comparison, over a row of the caller's own: what it leaves. Conditions: none; a library text.
-/
set_option linter.all false
namespace Go.Pv
open Go.RowKit

theorem below_grow {w w' : World} (h:Below w.heap.size w w'):∃ q os,w' = Go.Sort.grow (w.drewN q) os:=by
 refine ⟨w'.drawn - w.drawn,w'.heap.extract w.heap.size w'.heap.size,?_⟩
 obtain ⟨h1,h2,h3,h4,h5,h6⟩:=h
 cases w with
 | mk heap tape drawn os output =>
  cases w' with
  | mk heap' tape' drawn' os' output' =>
   simp only at h1 h2 h3 h4 h5 h6
   subst h1 h2 h3
   have hh:heap' = heap++heap'.extract heap.size heap'.size:=by
    apply Array.ext_getElem?
    intro k
    by_cases hk:k < heap.size
    ·rw [Array.getElem?_append_left hk]; exact h5 k hk
    ·rw [Array.getElem?_append_right (by omega),Array.getElem?_extract]
     by_cases hk2:k < heap'.size
     ·rw [if_pos (by simp; omega),show heap.size + (k - heap.size)=k by omega]
     ·rw [if_neg (by simp; omega),Array.getElem?_eq_none (by omega)]
   have hd:drawn' = drawn + (drawn' - drawn):=by omega
   show World.mk heap' tape' drawn' os' output' = World.mk (heap++heap'.extract heap.size heap'.size) tape' (drawn + (drawn' - drawn)) os' output'
   rw [← hh,← hd]

theorem below_sortWorld {α:Type} [Inhabited α] (enc:α→Value) (w:World) (blk off m:Nat) (dk:Array α) (os:Array Obj):∀ b,b ≠ blk→b < w.heap.size→(Go.Proofs.sortWorld enc w blk off m dk os).heap[b]? = w.heap[b]?:=by
 intro b hb hs
 unfold Go.Proofs.sortWorld
 rw [Go.Sort.heap_grow_old _ _ (by simpa using hs)]
 simp only [Go.Sort.putRow,Go.Sort.mapBlock,Array.getElem?_modify]
 rw [if_neg (Ne.symm hb)]
 rfl

theorem perm_sorted_unique {lt:PV→PV→Prop} : ∀ (xs ys:List PV),xs.Perm ys→(∀ x∈xs,∀ y∈xs,¬ lt x y→¬ lt y x→x=y)→xs.Pairwise (fun x y=>¬ lt y x)→ys.Pairwise (fun x y=>¬ lt y x)→xs=ys
 | [],ys,h,_,_,_=>by simpa using h.symm.eq_nil.symm
 | x :: r,[],h,_,_,_=>by simpa using h.eq_nil
 | x :: r,y :: s,h,ha,h1,h2=>by
  have hxy:x=y:=by
   have hx:x∈y :: s:=h.mem_iff.1 (by simp)
   have hy:y∈x :: r:=h.mem_iff.2 (by simp)
   rcases List.mem_cons.1 hx with hx | hx
   ·exact hx
   ·rcases List.mem_cons.1 hy with hy' | hy'
    ·exact hy'.symm
    ·have a1:=(List.pairwise_cons.1 h1).1 y hy'
     have a2:=(List.pairwise_cons.1 h2).1 x hx
     exact ha x (by simp) y hy a2 a1
  subst hxy
  rw [perm_sorted_unique r s (List.Perm.cons_inv h) (fun a ha' b hb'=>ha a (by simp [ha']) b (by simp [hb'])) (List.pairwise_cons.1 h1).2 (List.pairwise_cons.1 h2).2]

section
variable {P:Program} {ρ:Go.Shelf.Ren}

/-- slices.SortFunc: a row of the caller's own; a pure comparison that parts whatever two things; behind it the row holds the one list that rises. -/
theorem sort_m (L:Go.Proofs.SlLaysF.n6 P ρ) {g:FuncId} {cap:List PV} (xs ys:List PV) (cf:PV→PV→Int) (hne:xs ≠ []) (hone:∀ x∈xs,x.one=true)
  (irr:∀ x∈xs,¬ cf x x < 0) (tr:∀ x∈xs,∀ y∈xs,∀ z∈xs,cf x y < 0→cf y z < 0→cf x z < 0) (ntr:∀ x∈xs,∀ y∈xs,∀ z∈xs,¬ cf x y < 0→¬ cf y z < 0→¬ cf x z < 0)
  (anti:∀ x∈xs,∀ y∈xs,¬ cf x y < 0→¬ cf y x < 0→x=y) (hc:∀ x∈xs,∀ y∈xs,FnC P g (x :: y :: cap) (.int .i64 (cf x y)))
  (hperm:xs.Perm ys) (hs:ys.Pairwise fun x y=>¬ cf y x < 0) (hlen:xs.length < 4611686018427387904) :
  FnM P (ρ.f 6) [.sl 0 0 xs.length,.p (.fn g cap)] [.own (opl xs)] (.p (.tup [])) [.own (opl ys)]:=by
 have hpos:0 < xs.length:=List.length_pos_iff.2 hne
 refine ⟨?_,fun C m w vals R=>?_⟩
 ·obtain ⟨nm,h1,h2⟩:=L.f6
  exact ⟨_,h2,h1,rfl⟩
 have hsz:vals.size=2:=R.size
 have s0:=R.slot 0
 have s1:=R.slot 1
 simp only [St.get,entA,lk,BEq.rfl,cond_true,show ((0:Nat) == 1)=false from rfl,cond_false] at s0 s1
 generalize hv0:vals.getD 0 undef=v0 at s0
 generalize hv1:vals.getD 1 undef=v1 at s1
 have hvals:vals = #[v0,v1]:=by
  apply Array.ext
  ·simpa using hsz
  ·intro i h1 h2
   simp only [Array.getD_eq_getD_getElem?] at hv0 hv1
   match i,h2 with
   | 0,_=>rw [Array.getElem?_eq_getElem h1] at hv0; simpa using hv0
   | 1,_=>rw [Array.getElem?_eq_getElem h1] at hv1; simpa using hv1
 subst hvals
 have s1:=s1.p_inv
 cases s1 with
 | fn _ _ vs hcl hcr =>
 cases s0 with
 | sl _ _ _ _ hk0 h0 =>
 rcases h0 with ⟨h0,_⟩ | ⟨l,cp,hm,rfl,hle,hlo⟩
 ·omega
 rcases R.blk 0 (opl xs) rfl with ⟨hx,_⟩ | ⟨l',cur,e,hm',hB,hg,hcs,hmx,hol,hcell⟩
 ·exact absurd (show xs=[] by simpa [opl] using hx) hne
 rw [hm] at hm'; cases hm'
 rw [opl_length] at hol
 generalize hok:OK C m ([.own (opl xs)]++ancs 0 [Blk.own (opl xs)].length) w=ok at *
 have hokne:∀ b,ok b→b ≠ l.g:=fun b hb=>by
  subst hok
  exact fun e=>hb.2.2 0 _ l rfl hm e.symm
 have hoklt:∀ b,ok b→b < w.heap.size:=fun b hb=>by subst hok; exact hb.2.1
 have hblk:l.g < w.heap.size:=(Array.getElem?_eq_some_iff.1 hg).1
 have hrd:∀ j (h:j < xs.length),Reads ok w xs[j] (cur.getD (l.o + j) undef):=fun j h=>by
  have:=hcell j (by rw [opl_length]; exact h)
  simp only [opl,List.getElem_map] at this
  subst hok
  exact this.p_inv
 let α:={p:PV × Value // p.1∈xs∧Reads ok w p.1 p.2}
 have inh:α:=⟨(xs[0],cur.getD (l.o + 0) undef),List.getElem_mem hpos,hrd 0 hpos⟩
 letI:Inhabited α:=⟨inh⟩
 let enc:α→Value:=fun x=>x.1.2
 let cf' : α→α→Int:=fun x y=>cf x.1.1 y.1.1
 let d:Array α:=Array.ofFn fun j:Fin xs.length=>(⟨(xs[j],cur.getD (l.o + j) undef),List.getElem_mem j.2,hrd j j.2⟩:α)
 have hd:d.size=xs.length:=by simp [d]
 have hdj:∀ j (h:j < xs.length),d[j]! = (⟨(xs[j],cur.getD (l.o + j) undef),List.getElem_mem h,hrd j h⟩:α):=fun j h=>by
  rw [getElem!_pos d j (by omega)]
  simp [d]
 have h1:Go.Proofs.OneCell enc:=fun x=>(Reads.one x.2.2 (hone _ x.2.1)).1
 have hO:Go.Sort.SWO (Go.Proofs.ltOf cf'):=by
  refine ⟨fun x=>?_,fun x y z h1 h2=>?_,fun x y z h1 h2=>?_⟩
  ·exact decide_eq_false (irr _ x.2.1)
  ·exact decide_eq_true (tr _ x.2.1 _ y.2.1 _ z.2.1 (of_decide_eq_true h1) (of_decide_eq_true h2))
  ·exact decide_eq_false (ntr _ x.2.1 _ y.2.1 _ z.2.1 (of_decide_eq_false h1) (of_decide_eq_false h2))
 have hH:Go.Sort.Holds enc w l.g (l.o + 0) d:=fun j hj=>by
  rw [hd] at hj
  have hjc:l.o + j < cur.size:=by omega
  refine ⟨?_,?_⟩
  ·rw [hdj j hj]
   show w.cell? ⟨l.g,l.o + 0 + j,none⟩=some (cur.getD (l.o + j) undef)
   simp only [World.cell?,hg,Nat.add_zero]
   simp [Array.getD_eq_getD_getElem?,Array.getElem?_eq_getElem hjc]
  ·simp [World.frozen?,hg]
 have eg:∀ args w,(callFunc g args).run P w = .ok (.enter g args) w:=by
  obtain ⟨fn,f1,f2,f3⟩:=(hc _ (List.getElem_mem hpos) _ (List.getElem_mem hpos)).1
  obtain ⟨c,hcb⟩:=Option.ne_none_iff_exists'.1 (show fn.body ≠ none by intro e; rw [e] at f3; simp at f3)
  exact Go.Proofs.enters_of f1 f2 hcb
 have hcmp:Go.Proofs.CmpLays1 P g vs enc cf' l.g (l.o + 0) d.size w:=fun m1 os dk hs x y=>by
  have hheap:∀ b,ok b→(Go.Proofs.sortWorld enc w l.g (l.o + 0) m1 dk os).heap[b]? = w.heap[b]?:=fun b hb=>below_sortWorld enc w l.g _ m1 dk os b (hokne b hb) (hoklt b hb)
  have hsw:w.heap.size≤(Go.Proofs.sortWorld enc w l.g (l.o + 0) m1 dk os).heap.size:=by simp [Go.Proofs.sortWorld]
  refine ((hc _ x.2.1 _ y.2.1).2 ok _ (#[enc x,enc y]++vs) ⟨fun b hb=>Nat.lt_of_lt_of_le (hoklt b hb) hsw,fun gg ll hgg=>?_⟩ (by simp [hcl]; omega) fun i hi=>?_).mono fun e' w2 ⟨v,he,hbl,hv⟩=>?_
  ·have:=R.laid gg ll hgg
   rw [hok] at this
   exact this.ext (fun _ h=>h) hheap
  ·match i,hi with
   | 0,_ =>
    have e0:(#[enc x,enc y]++vs).getD 0 undef=enc x:=by simp [Array.getD_eq_getD_getElem?,Array.getElem?_append]
    rw [e0]
    exact x.2.2.ext (fun _ h=>h) hheap
   | 1,_ =>
    have e0:(#[enc x,enc y]++vs).getD 1 undef=enc y:=by simp [Array.getD_eq_getD_getElem?,Array.getElem?_append]
    rw [e0]
    exact y.2.2.ext (fun _ h=>h) hheap
   | i + 2,hi =>
    have hi' : i < cap.length:=by simpa using hi
    have e2:(#[enc x,enc y]++vs).getD (i + 2) undef=vs.getD i undef:=by
     simp only [Array.getD_eq_getD_getElem?]
     rw [Array.getElem?_append_right (by simp)]
     simp
    rw [e2]
    exact (hcr i hi').ext (fun _ h=>h) hheap
  ·subst he
   cases hv
   exact ⟨rfl,below_grow hbl⟩
 have hcall:=Go.Proofs.Any.slices_SortFunc L enc h1 cf' hO g vs l.g (l.o + 0) cp d w eg hcmp hH hblk (by omega)
 rw [hd] at hcall
 refine hcall.mono fun e2 w2 ⟨he,d',n,os,hp,hso,hw⟩=>?_
 subst he
 refine ⟨.tuple #[],m,rfl,?_⟩
 have hs' : d'.size=xs.length:=by rw [hp.1,hd]
 have hdl:d.toList.map (fun x=>x.1.1)=xs:=by
  apply List.ext_getElem
  ·simp [d]
  ·intro i h1 h2
   simp [d]
 have hperm2:(d'.toList.map fun x=>x.1.1).Perm xs:=by
  have:=hp.2.2
  rw [← hd,Array.extract_size] at this
  have h3:d'.extract 0 d.size=d':=by rw [hd,← hs',Array.extract_size]
  rw [h3] at this
  have h4:=this.map (fun x:α=>x.1.1)
  rwa [hdl] at h4
 have hys:d'.toList.map (fun x=>x.1.1)=ys:=by
  refine perm_sorted_unique (lt:=fun x y=>cf x y < 0) _ _ (hperm2.trans hperm) (fun x hx y hy=>anti x (hperm2.mem_iff.1 hx) y (hperm2.mem_iff.1 hy)) ?_ hs
  rw [List.pairwise_iff_getElem]
  intro i j hi hj hij
  simp only [List.length_map,Array.length_toList] at hi hj
  have:=hso i j (Nat.zero_le _) hij (by omega)
  rw [getElem!_pos d' i hi,getElem!_pos d' j hj] at this
  simpa using of_decide_eq_false this
 have hyl:ys.length=xs.length:=hperm.length_eq.symm
 
 have R1:Rel C m ⟨2,entA 0 [.sl 0 0 xs.length,.p (.fn g cap)],hset ([.own (opl xs)]++ancs 0 [Blk.own (opl xs)].length) 0 (.own (opl ys))⟩ #[.slice (some ⟨l.g,l.o + 0,none⟩) xs.length cp,.func (.func g) #[] vs] (Go.Sort.putRow enc (Go.Sort.ahead w n) l.g (l.o + 0) d'):=by
  refine R.setBlk (a:={ tmps:=#[.slice (some ⟨l.g,l.o + 0,none⟩) xs.length cp,.func (.func g) #[] vs],defers:=[] }) (c:=opl xs) rfl hm ⟨rfl,rfl,rfl,by simp,fun k hk=>?_,by simp⟩ (fun b hb=>?_) (cur:=Go.Sort.putCells enc (l.o + 0) d' cur) (e:=e) ?_ (by simp [Go.Sort.putCells,hcs]) (by rw [opl_length]; omega) fun j hj=>?_
  ·simp only [Go.Sort.putRow,Go.Sort.mapBlock,Array.getElem?_modify]
   rw [if_neg (fun e=>hk (by rw [← e]; exact hB))]; rfl
  ·simp only [Go.Sort.putRow,Go.Sort.mapBlock,Array.getElem?_modify]
   rw [if_neg (Ne.symm hb)]; rfl
  ·simp only [Go.Sort.putRow,Go.Sort.mapBlock,Array.getElem?_modify]
   rw [if_pos trivial]
   show Option.map _ (w.heap[l.g]?)=_
   rw [hg]; rfl
  ·rw [opl_length] at hj
   have hjd:j < d'.size:=by omega
   have hjc:l.o + j < cur.size:=by omega
   have e3:(Go.Sort.putCells enc (l.o + 0) d' cur).getD (l.o + j) undef=enc d'[j]:=by
    simp only [Go.Sort.putCells,Array.getD_eq_getD_getElem?,Array.getElem?_mapIdx,Array.getElem?_eq_getElem hjc,Option.map_some,Option.getD_some]
    rw [if_pos ⟨by omega,by omega⟩,show l.o + j - (l.o + 0)=j by omega,getElem!_pos d' j hjd]
   rw [e3]
   have e4:ys[j]=d'[j].1.1:=by
    have:=hys
    subst this
    simp
   have e5:(opl ys)[j]'(by rw [opl_length]; exact hj) = .p ys[j]:=by simp [opl]
   rw [e5,e4]
   have h6:=d'[j].2.2
   refine .p _ _ ?_
   show Reads (OK C m ([.own (opl xs)]++ancs 0 [Blk.own (opl xs)].length) w) w _ _
   rw [hok]
   exact h6
 have R2:=R1.later (w':=w2) (by
  rw [hw]
  refine ⟨rfl,rfl,rfl,by simp [Go.Proofs.sortWorld],fun k hk=>?_,Nat.le_refl _⟩
  unfold Go.Proofs.sortWorld
  exact Go.Sort.heap_grow_old _ _ hk)
 exact ⟨R2.laid,R2.below,R2.base,rfl,R2.inj,R2.blk,R2.fro,fun t=>by
  cases t with
  | zero=>exact .p _ _ (.tup [] #[] rfl fun c h=>absurd h (by simp))
  | succ t=>exact .dead _,R2.mp⟩

end
end Go.Pv

/-
  Contracts of the library, laid at this dump: numbers, and that each body is the same. Conditions: none; written by a program of this repo out of the kit's own tool.
-/
set_option linter.all false
namespace Go.Proofs
open Go.Shelf
def Tryd.sortL_ren:Go.Shelf.Ren:=⟨fun | 6=>81 | 15=>133 | 14=>132 | 28=>159 | 29=>160 | 20=>151 | 21=>152 | 22=>153 | 23=>154 | 24=>155 | 25=>156 | 26=>157 | 27=>158 | 46=>173 | 47=>174 | 48=>175 | 49=>176 | 50=>177 | 57=>189 | n=>n,fun | 22=>25 | 24=>22 | 25=>86 | 3=>3 | 39=>107 | 0=>0 | 53=>127 | 55=>93 | 4=>4 | 46=>120 | 45=>119 | 50=>124 | 5=>5 | 9=>9 | 66=>137 | 70=>141 | 76=>150 | 77=>151 | n=>n,fun | n=>n⟩
theorem Tryd.sortL : Go.Proofs.SlLaysF.n6 Tryd.prog Tryd.sortL_ren := {
  mixed := by kernel_rfl
  f6 := ⟨Tryd.f81.name, by decide, Tryd.func81.trans (congrArg some (by kernel_rfl))⟩
  f14 := ⟨Tryd.f132.name, by decide, Tryd.func132.trans (congrArg some (by kernel_rfl))⟩
  f15 := Tryd.func133.trans (congrArg some (by kernel_rfl))
  f20 := ⟨Tryd.f151.name, by decide, Tryd.func151.trans (congrArg some (by kernel_rfl))⟩
  f21 := ⟨Tryd.f152.name, by decide, Tryd.func152.trans (congrArg some (by kernel_rfl))⟩
  f22 := ⟨Tryd.f153.name, by decide, Tryd.func153.trans (congrArg some (by kernel_rfl))⟩
  f23 := ⟨Tryd.f154.name, by decide, Tryd.func154.trans (congrArg some (by kernel_rfl))⟩
  f24 := ⟨Tryd.f155.name, by decide, Tryd.func155.trans (congrArg some (by kernel_rfl))⟩
  f25 := ⟨Tryd.f156.name, by decide, Tryd.func156.trans (congrArg some (by kernel_rfl))⟩
  f26 := ⟨Tryd.f157.name, by decide, Tryd.func157.trans (congrArg some (by kernel_rfl))⟩
  f27 := ⟨Tryd.f158.name, by decide, Tryd.func158.trans (congrArg some (by kernel_rfl))⟩
  f28 := Tryd.func159.trans (congrArg some (by kernel_rfl))
  f29 := Tryd.func160.trans (congrArg some (by kernel_rfl))
  f46 := ⟨Tryd.f173.name, by decide, Tryd.func173.trans (congrArg some (by kernel_rfl))⟩
  f47 := Tryd.func174.trans (congrArg some (by kernel_rfl))
  f48 := Tryd.func175.trans (congrArg some (by kernel_rfl))
  f49 := ⟨Tryd.f176.name, by decide, Tryd.func176.trans (congrArg some (by kernel_rfl))⟩
  f50 := ⟨Tryd.f177.name, by decide, Tryd.func177.trans (congrArg some (by kernel_rfl))⟩
  f57 := ⟨Tryd.f189.name, by decide, Tryd.func189.trans (congrArg some (by kernel_rfl))⟩
  t0 := Tryd.underlying0
  a0 := Tryd.isAgg0
  z0 := Tryd.sizeOf0
  v0 := Tryd.zeroValue0
  t3 := Tryd.underlying3
  a3 := Tryd.isAgg3
  z3 := Tryd.sizeOf3
  v3 := Tryd.zeroValue3
  t4 := Tryd.underlying4
  a4 := Tryd.isAgg4
  z4 := Tryd.sizeOf4
  v4 := Tryd.zeroValue4
  t5 := Tryd.underlying5
  a5 := Tryd.isAgg5
  z5 := Tryd.sizeOf5
  v5 := Tryd.zeroValue5
  t9 := Tryd.underlying9
  a9 := Tryd.isAgg9
  z9 := Tryd.sizeOf9
  v9 := Tryd.zeroValue9
  t22 := Tryd.underlying25
  a22 := Tryd.isAgg25
  z22 := Tryd.sizeOf25
  v22 := Tryd.zeroValue25
  a24 := Tryd.isAgg22
  z24 := Tryd.sizeOf22
  t25 := Tryd.underlying86
  a25 := Tryd.isAgg86
  z25 := Tryd.sizeOf86
  v25 := Tryd.zeroValue86
  t39 := Tryd.underlying107
  a39 := Tryd.isAgg107
  z39 := Tryd.sizeOf107
  v39 := Tryd.zeroValue107
  t45 := Tryd.underlying119
  a45 := Tryd.isAgg119
  z45 := Tryd.sizeOf119
  v45 := Tryd.zeroValue119
  t46 := Tryd.underlying120
  a46 := Tryd.isAgg120
  z46 := Tryd.sizeOf120
  v46 := Tryd.zeroValue120
  t50 := Tryd.underlying124
  a50 := Tryd.isAgg124
  z50 := Tryd.sizeOf124
  v50 := Tryd.zeroValue124
  t53 := Tryd.underlying127
  a53 := Tryd.isAgg127
  z53 := Tryd.sizeOf127
  v53 := Tryd.zeroValue127
  t55 := Tryd.underlying93
  a55 := Tryd.isAgg93
  z55 := Tryd.sizeOf93
  v55 := Tryd.zeroValue93
  t66 := Tryd.underlying137
  a66 := Tryd.isAgg137
  z66 := Tryd.sizeOf137
  v66 := Tryd.zeroValue137
  t70 := Tryd.underlying141
  a70 := Tryd.isAgg141
  z70 := Tryd.sizeOf141
  v70 := Tryd.zeroValue141
  t76 := Tryd.underlying150
  a76 := Tryd.isAgg150
  z76 := Tryd.sizeOf150
  v76 := Tryd.zeroValue150
  t77 := Tryd.underlying151
  a77 := Tryd.isAgg151
  z77 := Tryd.sizeOf151
  v77 := Tryd.zeroValue151 }
def Tryd.sortS_ren:Go.Shelf.Ren:=⟨fun | 6=>147 | 15=>133 | 14=>172 | 28=>159 | 29=>160 | 20=>181 | 21=>182 | 22=>183 | 23=>184 | 24=>185 | 25=>186 | 26=>187 | 27=>188 | 46=>191 | 47=>174 | 48=>175 | 49=>192 | 50=>193 | 57=>194 | n=>n,fun | 22=>99 | 24=>94 | 25=>117 | 3=>3 | 39=>107 | 0=>0 | 53=>127 | 55=>93 | 4=>4 | 46=>120 | 45=>119 | 50=>124 | 5=>5 | 9=>9 | 66=>137 | 70=>141 | 76=>150 | 77=>151 | n=>n,fun | n=>n⟩
theorem Tryd.sortS : Go.Proofs.SlLaysF.n6 Tryd.prog Tryd.sortS_ren := {
  mixed := by kernel_rfl
  f6 := ⟨Tryd.f147.name, by decide, Tryd.func147.trans (congrArg some (by kernel_rfl))⟩
  f14 := ⟨Tryd.f172.name, by decide, Tryd.func172.trans (congrArg some (by kernel_rfl))⟩
  f15 := Tryd.func133.trans (congrArg some (by kernel_rfl))
  f20 := ⟨Tryd.f181.name, by decide, Tryd.func181.trans (congrArg some (by kernel_rfl))⟩
  f21 := ⟨Tryd.f182.name, by decide, Tryd.func182.trans (congrArg some (by kernel_rfl))⟩
  f22 := ⟨Tryd.f183.name, by decide, Tryd.func183.trans (congrArg some (by kernel_rfl))⟩
  f23 := ⟨Tryd.f184.name, by decide, Tryd.func184.trans (congrArg some (by kernel_rfl))⟩
  f24 := ⟨Tryd.f185.name, by decide, Tryd.func185.trans (congrArg some (by kernel_rfl))⟩
  f25 := ⟨Tryd.f186.name, by decide, Tryd.func186.trans (congrArg some (by kernel_rfl))⟩
  f26 := ⟨Tryd.f187.name, by decide, Tryd.func187.trans (congrArg some (by kernel_rfl))⟩
  f27 := ⟨Tryd.f188.name, by decide, Tryd.func188.trans (congrArg some (by kernel_rfl))⟩
  f28 := Tryd.func159.trans (congrArg some (by kernel_rfl))
  f29 := Tryd.func160.trans (congrArg some (by kernel_rfl))
  f46 := ⟨Tryd.f191.name, by decide, Tryd.func191.trans (congrArg some (by kernel_rfl))⟩
  f47 := Tryd.func174.trans (congrArg some (by kernel_rfl))
  f48 := Tryd.func175.trans (congrArg some (by kernel_rfl))
  f49 := ⟨Tryd.f192.name, by decide, Tryd.func192.trans (congrArg some (by kernel_rfl))⟩
  f50 := ⟨Tryd.f193.name, by decide, Tryd.func193.trans (congrArg some (by kernel_rfl))⟩
  f57 := ⟨Tryd.f194.name, by decide, Tryd.func194.trans (congrArg some (by kernel_rfl))⟩
  t0 := Tryd.underlying0
  a0 := Tryd.isAgg0
  z0 := Tryd.sizeOf0
  v0 := Tryd.zeroValue0
  t3 := Tryd.underlying3
  a3 := Tryd.isAgg3
  z3 := Tryd.sizeOf3
  v3 := Tryd.zeroValue3
  t4 := Tryd.underlying4
  a4 := Tryd.isAgg4
  z4 := Tryd.sizeOf4
  v4 := Tryd.zeroValue4
  t5 := Tryd.underlying5
  a5 := Tryd.isAgg5
  z5 := Tryd.sizeOf5
  v5 := Tryd.zeroValue5
  t9 := Tryd.underlying9
  a9 := Tryd.isAgg9
  z9 := Tryd.sizeOf9
  v9 := Tryd.zeroValue9
  t22 := Tryd.underlying99
  a22 := Tryd.isAgg99
  z22 := Tryd.sizeOf99
  v22 := Tryd.zeroValue99
  a24 := Tryd.isAgg94
  z24 := Tryd.sizeOf94
  t25 := Tryd.underlying117
  a25 := Tryd.isAgg117
  z25 := Tryd.sizeOf117
  v25 := Tryd.zeroValue117
  t39 := Tryd.underlying107
  a39 := Tryd.isAgg107
  z39 := Tryd.sizeOf107
  v39 := Tryd.zeroValue107
  t45 := Tryd.underlying119
  a45 := Tryd.isAgg119
  z45 := Tryd.sizeOf119
  v45 := Tryd.zeroValue119
  t46 := Tryd.underlying120
  a46 := Tryd.isAgg120
  z46 := Tryd.sizeOf120
  v46 := Tryd.zeroValue120
  t50 := Tryd.underlying124
  a50 := Tryd.isAgg124
  z50 := Tryd.sizeOf124
  v50 := Tryd.zeroValue124
  t53 := Tryd.underlying127
  a53 := Tryd.isAgg127
  z53 := Tryd.sizeOf127
  v53 := Tryd.zeroValue127
  t55 := Tryd.underlying93
  a55 := Tryd.isAgg93
  z55 := Tryd.sizeOf93
  v55 := Tryd.zeroValue93
  t66 := Tryd.underlying137
  a66 := Tryd.isAgg137
  z66 := Tryd.sizeOf137
  v66 := Tryd.zeroValue137
  t70 := Tryd.underlying141
  a70 := Tryd.isAgg141
  z70 := Tryd.sizeOf141
  v70 := Tryd.zeroValue141
  t76 := Tryd.underlying150
  a76 := Tryd.isAgg150
  z76 := Tryd.sizeOf150
  v76 := Tryd.zeroValue150
  t77 := Tryd.underlying151
  a77 := Tryd.isAgg151
  z77 := Tryd.sizeOf151
  v77 := Tryd.zeroValue151 }
end Go.Proofs

/-
  All subgroups, as the program has them: AllOf, All, Frattini. Conditions: none.
-/
set_option linter.all false
namespace Go.Proofs.YtboadfahlflmhaaDoor
open Go.Pv

def ul (L:List Nat):List PV:=L.map fun (x:Nat)=>PV.int .u64 (x:Int)
theorem ul_length (L:List Nat):(ul L).length=L.length:=by simp [ul]
theorem ul_get {L:List Nat} {i:Nat} (h:i < L.length):(ul L).getD i default = .int .u64 ((L.getD i 0:Nat):Int):=by
 simp [ul,List.getD,List.getElem?_eq_getElem h]
theorem oul_get {L:List Nat} {i:Nat} (h:i < L.length) (d:AV):(opl (ul L)).getD i d = .p (.int .u64 ((L.getD i 0:Nat):Int)):=by
 simp [opl,ul,List.getD,List.getElem?_eq_getElem h]
theorem ul_one (L:List Nat):∀ x∈ul L,x.one=true:=fun x hx=>by
 obtain ⟨y,_,rfl⟩:=List.mem_map.1 hx; rfl
theorem ul_all (L:List Nat):(ul L).all PV.one=true:=List.all_eq_true.2 (ul_one L)
theorem oul_ok (L:List Nat):(opl (ul L)).all cellOk=true:=opl_ok (ul_all L)
theorem ul_snoc (L:List Nat) (x:Nat):ul L++[.int .u64 (x:Int)]=ul (L++[x]):=by simp [ul]
theorem oul_snoc (L:List Nat) (x:Nat):opl (ul L)++[.p (.int .u64 (x:Int))]=opl (ul (L++[x])):=by simp [ul,opl]
theorem oul_take (L:List Nat):(opl (ul L)).take L.length=opl (ul L):=List.take_of_length_le (by rw [opl_length,ul_length]; exact Nat.le_refl _)
/-- Keys. -/
def kl (L:List Nat):List Int:=L.map fun (x:Nat)=>(x:Int)
theorem mem_kl {L:List Nat} {x:Nat} : (x:Int)∈kl L↔x∈L:=by
 unfold kl
 rw [List.mem_map]
 constructor
 ·rintro ⟨y,hy,he⟩
  have:y=x:=by omega
  rwa [this] at hy
 ·exact fun h=>⟨x,h,rfl⟩
theorem kl_snoc (L:List Nat) (x:Nat):kl (L++[x])=kl L++[(x:Int)]:=by simp [kl]
def tt:Int→PV:=fun _=>.bool true

def cfA:PV→PV→Int
 | .int _ x,.int _ y=>cmpS (stl x.toNat) (stl y.toNat)
 | _,_=>0
theorem getD_snoc {L:List Nat} {x j:Nat} (hj:j < L.length):(L++[x]).getD j 0=L.getD j 0:=by
 rw [List.getD_eq_getElem?_getD,List.getElem?_append_left hj,← List.getD_eq_getElem?_getD]
theorem getD_memN {L:List Nat} {j:Nat} (hj:j < L.length):L.getD j 0∈L:=by
 rw [List.getD_eq_getElem?_getD,List.getElem?_eq_getElem hj]; exact List.getElem_mem hj
theorem mem_getDN {L:List Nat} {x:Nat} (hx:x∈L):∃ j,j < L.length∧L.getD j 0=x:=by
 obtain ⟨j,hj,rfl⟩:=List.getElem_of_mem hx
 exact ⟨j,hj,by rw [List.getD_eq_getElem?_getD,List.getElem?_eq_getElem hj]; rfl⟩

section
variable {n e:Nat} {m:List Int}

/-- Where the search stands: at row i, things below a are done. -/
structure Srch (n:Nat) (f:Nat→Nat→Nat) (e:Nat) (i:Nat) (L:List Nat):Prop where
 inv:AllI n f e L
 done:∀ j,j < i→∀ a,a < n→Dn n f e (L.getD j 0) a L

set_option maxHeartbeats 4000000 in
set_option maxRecDepth 100000 in
theorem allOf_c (h : GT n m n e) (hn : n ≤ 24) {SL : List Nat} (hS : AllS n (op m n) e SL) : FnC Tryd.prog 116 [gp n m] (.list (ul SL)) := by
  have G := h.2.2
  have hb := h.2.1.big
  have hbt : ∀ p, bo n p < 2 ^ 64 := fun p => bo_lt64 hb p
  have h24 : 2 ^ n ≤ 16777216 := Nat.le_trans (Nat.pow_le_pow_right (by omega) hn) (by decide)
  have hd0 := mpd_set [] ((bo n (onp e) : Nat) : Int)
  have hv0 := mpv_set [] ((bo n (onp e) : Nat) : Int) tt
  rw [← mpd_nil] at hd0
  rw [← mpv_nil] at hv0
  have hk0 : kl [bo n (onp e)] = [] ++ [((bo n (onp e) : Nat) : Int)] := rfl
  refine fnc_of tab_ok Tryd.func116 rfl (by kernel_rfl) (by rw [Tryd.ntmps116]; exact Nat.le_add_left 1 _) ?_; rw [Tryd.ntmps116]
  refine qm ?_
  refine hk_region fun K hK => runs_eval tab_ok ?_
  simp only [ev0, evA, evB, evP, fl, gp, tab, simprocAttr, reduceCtorEq, reduceIte]
  refine fin_run ?_ (hK _ ?_) <;> clear hK <;> clear K
  · (first | exact trivial | omega | (simp only [In64] at *; omega) | (simp [In64] at *; omega) | (simp_all; done) | skip)
  refine qa (qm ?_)
  refine hk_region fun K hK => runs_eval tab_ok ?_
  simp only [ev0, evA, evB, evP, fl, gp, tab, simprocAttr, reduceCtorEq, reduceIte]
  refine fin_stop trivial (runs_call (grow_c h 0 (Nat.pow_pos (by omega)) (onp e) onp_gen) rfl rfl rfl (by simp only [dstOk, Nat.reduceLT]) (by repeat (first | exact trivial | constructor)) (runs_op (buildOwn_does (n := 1) (l := [.int .u64 ((bo n (onp e) : Nat) : Int)]) tab_ok rfl rfl rfl rfl rfl rfl rfl ⟨⟨rfl, rfl, rfl⟩, trivial⟩ rfl (by decide) rfl) rfl (show (10 : Nat) < 56 by decide) (runs_eval tab_ok ?_)))
  simp only [ev0, evA, evB, evP, fl, gp, tab, simprocAttr, reduceCtorEq, reduceIte]
  refine fin_run ?_ (hK _ ?_) <;> clear hK <;> clear K
  · trivial
  refine qa (qm ?_)
  refine hk_region fun K hK => runs_eval tab_ok ?_
  simp only [ev0, evA, evB, evP, fl, gp, tab, simprocAttr, reduceCtorEq, reduceIte, (show ∀ d : AV, (opl [PV.int .u64 ((bo n (onp e) : Nat) : Int)]).getD 0 d = .p (.int .u64 ((bo n (onp e) : Nat) : Int)) from fun _ => rfl)]
  refine fin_stop ?_ (runs_op (insert_does tab_ok rfl rfl rfl (by exact ⟨rfl, rfl⟩)) rfl (by simp only [dstOk, Nat.reduceLT]) (runs_eval tab_ok ?_))
  · (first | exact trivial | omega | (simp only [In64] at *; omega) | (simp [In64] at *; omega) | (simp_all; done) | skip)
  simp only [ev0, evA, evB, evP, fl, gp, tab, simprocAttr, reduceCtorEq, reduceIte, (show ∀ d : AV, (opl [PV.int .u64 ((bo n (onp e) : Nat) : Int)]).getD 0 d = .p (.int .u64 ((bo n (onp e) : Nat) : Int)) from fun _ => rfl)]
  refine fin_run ?_ (hK _ ?_) <;> clear hK <;> clear K
  · (first | exact trivial | omega | (simp only [In64] at *; omega) | (simp [In64] at *; omega) | (simp_all; done) | skip)
  refine qa (qm (qm ?_))
  refine hk_region fun K hK => runs_eval tab_ok ?_
  simp only [ev0, evA, evB, evP, fl, gp, tab, simprocAttr, reduceCtorEq, reduceIte]
  refine fin_run trivial (hK _ ?_) <;> clear hK <;> clear K
  refine qa (ql ?_)
  refine hk_loop (ι := Nat × List Nat) (fun p => ⟨56, [(1, .ptr 0 0), (3, .sl 1 0 p.2.length), (4, .mptr 2), (5, .p (.int .i64 p.1))], [.own [.p (.int .i64 n), .p (.list (il m))], .own (opl (ul p.2)), .mp .u64 (mpd (kl p.2)) (mpv (kl p.2) tt)]⟩) (fun p => p.1 ≤ p.2.length ∧ Srch n (op m n) e p.1 p.2) (fun p => 2 ^ n - p.1) (0, [bo n (onp e)]) ⟨Nat.zero_le _, ⟨by simp, fun x hx => by rw [List.mem_singleton] at hx; exact ⟨_, G.onp_sub, hx⟩, by simp⟩, fun j hj => by omega⟩ [0, 1, 2] (by simp only [hk0, ← hd0, ← hv0]; simp only [leq, leA, ev0, evA, evB, evP, fl, gp, tab, simprocAttr, reduceCtorEq, reduceIte] <;> first | trivial | exact ⟨rfl, rfl⟩ | rfl) fun p hp => ?_
  obtain ⟨i, L⟩ := p
  obtain ⟨hi, hI, hD⟩ := hp
  simp only at hi hI hD
  have hLn := hI.len
  refine qm (qm ?_)
  refine hk_region fun K hK => runs_eval tab_ok ?_
  simp only [ev0, evA, evB, evP, fl, gp, tab, simprocAttr, reduceCtorEq, reduceIte]
  refine fin_run trivial (hK _ ?_) <;> clear hK <;> clear K
  refine qa ?_
  refine hk_cond rfl (fun hC1 => ?_) (fun hC1 => ?_)
  · (try simp only [nhs] at hC1)
    have hlt : i < L.length := by omega
    have hxm := getD_memN hlt
    obtain ⟨p, hp, hx⟩ := hI.subs _ hxm
    refine qh (qa (qm (ql (qm ?_))))
    refine hk_region fun K hK => runs_eval tab_ok ?_
    simp only [ev0, evA, evB, evP, fl, gp, tab, simprocAttr, reduceCtorEq, reduceIte]
    refine fin_run ?_ (hK _ ?_) <;> clear hK <;> clear K
    · (first | exact trivial | omega | (simp only [In64] at *; omega) | (simp [In64] at *; omega) | (simp_all; done) | skip)
    refine qa (ql ?_)
    refine hk_loop (ι := Nat × List Nat) (fun q => ⟨56, [(1, .ptr 0 0), (3, .sl 1 0 q.2.length), (4, .mptr 2), (5, .p (.int .i64 i)), (23, .p (.int .i64 n)), (24, .p (.int .i64 q.1))], [.own [.p (.int .i64 n), .p (.list (il m))], .own (opl (ul q.2)), .mp .u64 (mpd (kl q.2)) (mpv (kl q.2) tt)]⟩) (fun q => q.1 ≤ n ∧ i < q.2.length ∧ q.2.getD i 0 = bo n p ∧ Srch n (op m n) e i q.2 ∧ ∀ b, b < q.1 → Dn n (op m n) e (bo n p) b q.2) (fun q => n - q.1) (0, L) ⟨Nat.zero_le _, hlt, hx, ⟨hI, hD⟩, fun b hb => by omega⟩ [0, 1, 2] (by simp only [leq, leA, ev0, evA, evB, evP, fl, gp, tab, simprocAttr, reduceCtorEq, reduceIte] <;> trivial) fun q hq => ?_
    obtain ⟨a, M⟩ := q
    obtain ⟨ha, hiM, hxM, ⟨hIM, hDM⟩, hdone⟩ := hq
    simp only at ha hiM hxM hIM hDM hdone
    have hMn := hIM.len
    refine qm ?_
    refine hk_region fun K hK => runs_eval tab_ok ?_
    simp only [ev0, evA, evB, evP, fl, gp, tab, simprocAttr, reduceCtorEq, reduceIte]
    refine fin_run trivial (hK _ ?_) <;> clear hK <;> clear K
    refine qa (qm ?_)
    refine hk_cond rfl (fun hC2 => ?_) (fun hC2 => ?_)
    · (try simp only [nhs] at hC2)
      have hal : a < n := by omega
      have hbit : (bo n p).testBit a = p a := by rw [bo_bit]; simp [hal]
      refine qh (qa (qm (ql (qm ?_))))
      refine hk_region fun K hK => runs_eval tab_ok ?_
      simp only [ev0, evA, evB, evP, fl, gp, tab, simprocAttr, reduceCtorEq, reduceIte]
      refine fin_run trivial (hK _ ?_) <;> clear hK <;> clear K
      refine qa (qm (qm ?_))
      refine hk_region fun K hK => runs_eval tab_ok ?_
      simp only [ev0, evA, evB, evP, fl, gp, tab, simprocAttr, reduceCtorEq, reduceIte, oul_get hiM, hxM, ul_length]
      refine fin_stop ?_ (runs_call (has_s (bo n p) a (hbt _) (by omega)) rfl rfl rfl (by simp only [dstOk, Nat.reduceLT]) (by repeat (first | exact trivial | constructor)) (runs_eval tab_ok ?_))
      · (first | exact trivial | omega | (simp only [In64] at *; omega) | (simp [In64] at *; omega) | (simp_all; done) | skip)
      simp only [ev0, evA, evB, evP, fl, gp, tab, simprocAttr, reduceCtorEq, reduceIte, hbit, oul_get hiM, hxM, ul_length]
      refine fin_run ?_ (hK _ ?_) <;> clear hK <;> clear K
      · (first | exact trivial | omega | (simp only [In64] at *; omega) | (simp [In64] at *; omega) | (simp_all; done) | skip)
      refine qa ?_
      refine hk_cond rfl (fun hC3 => ?_) (fun hC3 => ?_)
      · (try simp only [nhs] at hC3)
        have hdn : Dn n (op m n) e (bo n p) a M := fun q hq => by
          have : bo n q = bo n p := bo_congr fun y hy => by
            rw [Bool.eq_iff_iff, hq y hy, hp.gen G hy]
            constructor
            · exact fun hg => (hg.sub G hp fun b hb2 hw => by
                unfold wta at hw
                rw [bo_bit, Bool.or_eq_true, Bool.and_eq_true, decide_eq_true_eq, decide_eq_true_eq] at hw
                rcases hw with hw | hw
                · exact hw.2
                · rw [hw]; exact hC3) |> (hp.gen G hy).1
            · exact fun hg => Gen.mono (fun b hb2 hw => by unfold wta; rw [bo_bit]; simp [hb2, hw]) hg
          rw [this, ← hxM]; exact getD_memN hiM
        refine qj (qc (qf (qa ?_)))
        refine hk_region fun K hK => runs_eval tab_ok ?_
        simp only [ev0, evA, evB, evP, fl, gp, tab, simprocAttr, reduceCtorEq, reduceIte]
        refine fin_run ?_ (hK _ ?_) <;> clear hK <;> clear K
        · (first | exact trivial | omega | (simp only [In64] at *; omega) | (simp [In64] at *; omega) | (simp_all; done) | skip)
        refine qa ?_
        refine ⟨(a + 1, M), [0, 1, 2], ⟨show a + 1 ≤ n by omega, hiM, hxM, ⟨hIM, hDM⟩, fun b hb => ?_⟩, show n - (a + 1) < n - a by omega, ?_⟩
        · by_cases hba : b = a
          · rw [hba]; exact hdn
          · exact hdone b (by have : b < a + 1 := hb
                              omega)
        · simp only [leq, leA, ev0, evA, evB, evP, fl, gp, tab, simprocAttr, reduceCtorEq, reduceIte] <;> omega
      · (try simp only [nhs] at hC3)
        have hpw := pow_lt64 (b := a) (by omega)
        have hw := bo_wta p hal
        obtain ⟨q, hq⟩ := gen_ex n (op m n) e (wta p a)
        have hqs := gen_sub G hq
        have hdq : ∀ M', bo n q ∈ M' → Dn n (op m n) e (bo n p) a M' := fun M' hm r hr => by
          have : bo n r = bo n q := bo_congr fun y hy => by
            rw [Bool.eq_iff_iff, hr y hy, hq y hy]
            refine ⟨fun hg => Gen.mono (fun b hb2 hw => ?_) hg, fun hg => Gen.mono (fun b hb2 hw => ?_) hg⟩
            · unfold wta at hw ⊢; rw [bo_bit] at hw; simpa [hb2] using hw
            · unfold wta at hw ⊢; rw [bo_bit]; simpa [hb2] using hw
          rw [this]; exact hm
        refine qh (qa (qm ?_))
        refine hk_draw mixed (by kernel_rfl) fun K hK => runs_eval tab_ok ?_
        simp only [ev0, evA, evB, evP, fl, gp, tab, simprocAttr, reduceCtorEq, reduceIte, oul_get hiM, hxM, ul_length, shl_one (show a < 64 by omega), bv_or (hbt p) hpw, hw]
        refine fin_stop ?_ (runs_call (grow_c h (bo n (wta p a)) (bo_lt n _) q (fun b hb2 => by rw [gen_bo]; exact hq b hb2)) rfl rfl rfl (by simp only [dstOk, Nat.reduceLT]) (by repeat (first | exact trivial | constructor)) (runs_eval tab_ok ?_))
        · (first | exact trivial | omega | (simp only [In64] at *; omega) | (simp [In64] at *; omega) | (simp_all; done) | skip)
        simp only [ev0, evA, evB, evP, fl, gp, tab, simprocAttr, reduceCtorEq, reduceIte, oul_get hiM, hxM, ul_length, shl_one (show a < 64 by omega), bv_or (hbt p) hpw, hw]
        refine fin_run ?_ (hK _ ?_) <;> clear hK <;> clear K
        · (first | exact trivial | omega | (simp only [In64] at *; omega) | (simp [In64] at *; omega) | (simp_all; done) | skip)
        refine qa (qm ?_)
        by_cases hin : bo n q ∈ M
        · have hkin := mpd_in (mem_kl.2 hin)
          have hvin := mpv_in tt (mem_kl.2 hin)
          refine hk_region fun K hK => runs_eval tab_ok ?_
          simp only [ev0, evA, evB, evP, fl, gp, tab, simprocAttr, reduceCtorEq, reduceIte, hkin, hvin, cond_true, (show tt ((bo n q : Nat) : Int) = .bool true from rfl)]
          refine fin_run ?_ (hK _ ?_) <;> clear hK <;> clear K
          · (first | exact trivial | omega | (simp only [In64] at *; omega) | (simp [In64] at *; omega) | (simp_all; done) | skip)
          refine qa ?_
          refine hk_cond rfl (fun hC4 => ?_) (fun hC4 => ?_)
          · cases hC4
          · (try simp only [nhs] at hC4)
            refine qh (qd (qa ?_))
            refine hk_region fun K hK => runs_eval tab_ok ?_
            simp only [ev0, evA, evB, evP, fl, gp, tab, simprocAttr, reduceCtorEq, reduceIte]
            refine fin_run ?_ (hK _ ?_) <;> clear hK <;> clear K
            · (first | exact trivial | omega | (simp only [In64] at *; omega) | (simp [In64] at *; omega) | (simp_all; done) | skip)
            refine qa ?_
            refine ⟨(a + 1, M), [0, 1, 2], ⟨show a + 1 ≤ n by omega, hiM, hxM, ⟨hIM, hDM⟩, fun b hb => ?_⟩, show n - (a + 1) < n - a by omega, ?_⟩
            · by_cases hba : b = a
              · rw [hba]; exact hdq M hin
              · exact hdone b (by have : b < a + 1 := hb
                                  omega)
            · simp only [leq, leA, ev0, evA, evB, evP, fl, gp, tab, simprocAttr, reduceCtorEq, reduceIte] <;> omega
        · have hkin : mpd (kl M) ((bo n q : Nat) : Int) = false := decide_eq_false fun hh => hin (mem_kl.1 hh)
          refine hk_region fun K hK => runs_eval tab_ok ?_
          simp only [ev0, evA, evB, evP, fl, gp, tab, simprocAttr, reduceCtorEq, reduceIte, hkin, cond_false]
          refine fin_run ?_ (hK _ ?_) <;> clear hK <;> clear K
          · (first | exact trivial | omega | (simp only [In64] at *; omega) | (simp [In64] at *; omega) | (simp_all; done) | skip)
          refine qa ?_
          refine hk_cond rfl (fun hC4 => ?_) (fun hC4 => ?_)
          · (try simp only [nhs] at hC4)
            have hMl : (ul M).length = M.length := ul_length M
            have hd1 : (fun u => decide (u = ((bo n q : Nat) : Int)) || mpd (kl M) u) = mpd (kl (M ++ [bo n q])) := by rw [kl_snoc]; exact mpd_set _ _
            have hv1 : (fun u => bif decide (u = ((bo n q : Nat) : Int)) then PV.bool true else mpv (kl M) tt u) = mpv (kl (M ++ [bo n q])) tt := by rw [kl_snoc]; exact mpv_set (kl M) _ tt
            have hsub : ∀ y ∈ M, y ∈ M ++ [bo n q] := fun y hy => by simp [hy]
            have htk : List.take M.length (ul M) = ul M := List.take_of_length_le (by rw [ul_length]; exact Nat.le_refl _)
            refine qm ?_
            refine hk_region fun K hK => runs_eval tab_ok ?_
            simp only [ev0, evA, evB, evP, fl, gp, tab, simprocAttr, reduceCtorEq, reduceIte]
            refine fin_run ?_ (hK _ ?_) <;> clear hK <;> clear K
            · (first | exact trivial | omega | (simp only [In64] at *; omega) | (simp [In64] at *; omega) | (simp_all; done) | skip)
            refine qa ?_
            refine hk_region fun K hK => runs_eval tab_ok ?_
            simp only [ev0, evA, evB, evP, fl, gp, tab, simprocAttr, reduceCtorEq, reduceIte, oul_take, oul_snoc, oul_ok, ul_length, htk]
            refine fin_run ?_ (hK _ ?_) <;> clear hK <;> clear K
            · simp [cellOk, PV.one, ul_length]
              omega
            refine qd (qa ?_)
            refine hk_region fun K hK => runs_eval tab_ok ?_
            simp only [ev0, evA, evB, evP, fl, gp, tab, simprocAttr, reduceCtorEq, reduceIte]
            refine fin_run ?_ (hK _ ?_) <;> clear hK <;> clear K
            · (first | exact trivial | omega | (simp only [In64] at *; omega) | (simp [In64] at *; omega) | (simp_all; done) | skip)
            refine qa ?_
            refine ⟨(a + 1, M ++ [bo n q]), [0, 3, 2], ⟨show a + 1 ≤ n by omega, by simp only [List.length_append, List.length_singleton]; omega, by rw [getD_snoc hiM]; exact hxM, ⟨⟨?_, ?_, by simp [hIM.one]⟩, fun j hj b hb => ?_⟩, fun b hb => ?_⟩, show n - (a + 1) < n - a by omega, ?_⟩
            · exact List.nodup_append.2 ⟨hIM.nodup, by simp, fun x hx y hy he => by rw [List.mem_singleton] at hy; rw [he, hy] at hx; exact hin hx⟩
            · intro x hx
              rcases List.mem_append.1 hx with hx | hx
              · exact hIM.subs x hx
              · rw [List.mem_singleton] at hx; exact ⟨q, hqs, hx⟩
            · rw [getD_snoc (by omega)]; exact (hDM j hj b hb).mono hsub
            · by_cases hba : b = a
              · rw [hba]; exact hdq _ (by simp)
              · exact (hdone b (by have : b < a + 1 := hb
                                   omega)).mono hsub
            · simp only [← hd1, ← hv1]
              simp only [leq, leA, ev0, evA, evB, evP, fl, gp, tab, simprocAttr, reduceCtorEq, reduceIte] <;> first | trivial | omega | (simp only [List.length_append, List.length_singleton]; omega) | exact ⟨rfl, rfl⟩ | (rw [ul_snoc, List.take_length])
          · cases hC4
    · (try simp only [nhs] at hC2)
      have han : a = n := by omega
      refine qj (qc (qc (qf (qd (qa ?_)))))
      refine hk_region fun K hK => runs_eval tab_ok ?_
      simp only [ev0, evA, evB, evP, fl, gp, tab, simprocAttr, reduceCtorEq, reduceIte]
      refine fin_run ?_ (hK _ ?_) <;> clear hK <;> clear K
      · (first | exact trivial | omega | (simp only [In64] at *; omega) | (simp [In64] at *; omega) | (simp_all; done) | skip)
      refine qa ?_
      refine ⟨(i + 1, M), [0, 1, 2], ⟨show i + 1 ≤ M.length by omega, ⟨hIM, fun j hj b hb => ?_⟩⟩, show 2 ^ n - (i + 1) < 2 ^ n - i by omega, ?_⟩
      · by_cases hji : j = i
        · rw [hji, hxM]; exact hdone b (by omega)
        · exact hDM j (by have : j < i + 1 := hj
                          omega) b hb
      · simp only [leq, leA, ev0, evA, evB, evP, fl, gp, tab, simprocAttr, reduceCtorEq, reduceIte] <;> first | trivial | omega
  · (try simp only [nhs] at hC1)
    have hin : i = L.length := by omega
    have hdall : ∀ x ∈ L, ∀ a, a < n → Dn n (op m n) e x a L := fun x hx a ha => by
      obtain ⟨j, hj, rfl⟩ := mem_getDN hx
      exact hD j (by omega) a ha
    have hperm := hS.perm G hI hdall
    have hlen := hperm.length_eq
    have hul : ∀ x ∈ ul L, ∃ y, y < 2 ^ 64 ∧ x = .int .u64 ((y : Nat) : Int) := fun x hx => by
      obtain ⟨y, hy, rfl⟩ := List.mem_map.1 hx
      obtain ⟨p, _, rfl⟩ := hI.subs y hy
      exact ⟨_, hbt p, rfl⟩
    have hsort : FnM Tryd.prog 147 [.sl 0 0 (ul L).length, .p (.fn 148 [])] [.own (opl (ul L))] (.p (.tup [])) [.own (opl (ul SL))] :=
      sort_m Go.Proofs.Tryd.sortS (ul L) (ul SL) cfA (by intro hh; have := congrArg List.length hh; rw [ul_length] at this; have h1 := List.length_pos_of_mem hI.one; simp at this; rw [this] at h1; simp at h1) (ul_one L)
        (fun x hx => by obtain ⟨a, _, rfl⟩ := hul x hx; exact cmpS_self _)
        (fun x hx y hy z hz h1 h2 => by obtain ⟨a, _, rfl⟩ := hul x hx; obtain ⟨b, _, rfl⟩ := hul y hy; obtain ⟨c, _, rfl⟩ := hul z hz; exact cmpS_trans _ _ _ h1 h2)
        (fun x hx y hy z hz h1 h2 => by obtain ⟨a, _, rfl⟩ := hul x hx; obtain ⟨b, _, rfl⟩ := hul y hy; obtain ⟨c, _, rfl⟩ := hul z hz; exact cmpS_ntrans _ _ _ h1 h2)
        (fun x hx y hy h1 h2 => by
          obtain ⟨a, a1, rfl⟩ := hul x hx; obtain ⟨b, b1, rfl⟩ := hul y hy
          have := stl_inj a1 b1 (cmpS_tot _ _ h1 h2)
          rw [this])
        (fun x hx y hy => by obtain ⟨a, a1, rfl⟩ := hul x hx; obtain ⟨b, b1, rfl⟩ := hul y hy; exact allOf1_c a b a1 b1)
        (hperm.map _) (by
          unfold ul
          rw [List.pairwise_map]
          exact hS.rise.imp fun {x y} hxy h2 => cmpS_self _ (cmpS_trans _ _ _ hxy h2)) (by rw [ul_length]; omega)
    rw [ul_length] at hsort
    refine qj (qc (qc (qf (qa (qm ?_)))))
    refine hk_region fun K hK => runs_eval tab_ok ?_
    simp only [ev0, evA, evB, evP, fl, gp, tab, simprocAttr, reduceCtorEq, reduceIte]
    refine fin_stop ?_ (runs_callM [1] (hsort) rfl rfl ?_ (by simp only [leA, ev0, evA, evB, evP, fl, gp, tab, simprocAttr, reduceCtorEq, reduceIte]; first | trivial | (simp only [ll_takeL]; first | trivial | (repeat constructor; done)) | (repeat constructor)) (by decide) (by first | rfl | (simp only [List.length_cons, List.length_nil, List.length_append]; decide)) (by first | rfl | (simp only [scM, opl_sc, List.all_cons, List.all_nil, List.length_cons, List.length_nil]; first | rfl | decide) | (simp [scM, scA, sc1, mpKeep, notAnc]; done)) (by simp only [dstOk, Nat.reduceLT]) (runs_eval tab_ok ?_))
    · (first | exact trivial | omega | (simp only [In64] at *; omega) | (simp [In64] at *; omega) | (simp_all; done) | skip)
    · (simp only [argsM, argM1, peekG, peekS, scA, sc1, ren, ren1, List.map_cons, List.map_nil, List.append_nil, List.cons_append, List.nil_append, enA, ev0, evA, evB, evP, fl, gp, tab, simprocAttr, reduceCtorEq, reduceIte]; try trivial)
    simp only [putM, hset, List.range', Blk.ren, ren, ren1, List.map_cons, List.map_nil, List.cons_append, List.nil_append, List.append_nil, List.length_cons, List.length_nil, ev0, evA, evB, evP, fl, gp, tab, simprocAttr, reduceCtorEq, reduceIte]
    refine fin_run trivial (hK _ ?_) <;> clear hK <;> clear K
    refine qa (qm ?_)
    rw [hlen, ← ul_length SL]
    refine hk_sealp 3 1 (ul_all SL) rfl rfl ?_
    refine hk_region fun K hK => runs_eval tab_ok ?_
    simp only [ev0, evA, evB, evP, fl, gp, tab, simprocAttr, reduceCtorEq, reduceIte]
    refine fin_run trivial (hK _ ?_) <;> clear hK <;> clear K
    refine qa (qk ?_)
    simp only [Tryd.results116, enA, ev0, evA, evB, evP, fl, gp, tab, simprocAttr, reduceCtorEq, reduceIte]
    all_goals ((first | exact rfl | exact ⟨rfl, rfl⟩ | exact ⟨rfl, rfl, rfl⟩ | exact ⟨trivial, rfl⟩ | exact ⟨Nat.le_refl _, rfl⟩ | trivial | (simp; done)))
end
end Go.Proofs.YtboadfahlflmhaaDoor

/-
  All subgroups in lists: All; what no set needs: Frattini. Conditions: none.
-/
set_option linter.all false
namespace Go.Proofs.YtboadfahlflmhaaDoor
open Go.Pv

def sll (SL:List Nat):List (List Int):=SL.map stl
theorem sll_len (SL:List Nat):(sll SL).length=SL.length:=by simp [sll]
theorem sll_get {SL:List Nat} {i:Nat} (hi:i < SL.length):(sll SL).getD i []=stl (SL.getD i 0):=by
 simp [sll,List.getD,List.getElem?_eq_getElem hi]
section
variable {n e:Nat} {m:List Int}
end
end Go.Proofs.YtboadfahlflmhaaDoor

/-
  What no set needs: Frattini. Conditions: none.
-/
set_option linter.all false
namespace Go.Proofs.YtboadfahlflmhaaDoor
open Go.Pv

def andn (a b:Nat):Nat:=(BitVec.ofInt 64 (a:Int) &&& ~~~(BitVec.ofInt 64 (b:Int))).toNat
theorem bv_andn {a b:Nat} : bitsV (fun _ x y=>x &&& ~~~y) .u64 (a:Int) (b:Int) = .int .u64 ((andn a b:Nat):Int):=by
 have h:andn a b < 2 ^ 64:=BitVec.isLt _
 show PV.int .u64 (IntKind.u64.wrap ((andn a b:Nat):Int))=_
 rw [wrap_n h]
theorem andn_zero {a b:Nat} (ha:a < 2 ^ 64) (hb:b < 2 ^ 64):andn a b=0↔∀ i,a.testBit i=true→b.testBit i=true:=by
 have key:∀ i,i < 64→(andn a b).testBit i=(a.testBit i && !b.testBit i):=fun i hi=>by
  unfold andn
  rw [BitVec.testBit_toNat,BitVec.getLsbD_and,BitVec.getLsbD_not,← BitVec.testBit_toNat,← BitVec.testBit_toNat,ofInt_n ha,ofInt_n hb]
  simp [hi]
 constructor
 ·intro h i hi
  have hl:=bit_lt ha hi
  have:=key i hl
  rw [h,Nat.zero_testBit,hi] at this
  simpa using this
 ·intro h
  refine Nat.eq_of_testBit_eq fun i=>?_
  rw [Nat.zero_testBit]
  by_cases hl:i < 64
  ·rw [key i hl]
   cases ha' : a.testBit i with
   | false=>rfl
   | true=>rw [h i ha']; rfl
  ·exact Nat.testBit_lt_two_pow (Nat.lt_of_lt_of_le (BitVec.isLt _) (Nat.pow_le_pow_right (by omega) (Nat.le_of_not_lt hl)))

/-! ### Rows of sets -/

/-! ### Frattini -/

/-- t is another set that has all of s. -/
def ovr (s t:Nat):Bool:=decide (¬ s=t) && decide (andn s t=0)
/-- Row i has no other one over it, but the last. -/
def mxr (SL:List Nat) (i:Nat):Bool:=!decide (∃ j,j < SL.length - 1∧(i < j∧ovr (SL.getD i 0) (SL.getD j 0)=true))
section
variable {n e:Nat} {m:List Int}
end
end Go.Proofs.YtboadfahlflmhaaDoor

/-
  Walks: the law SubProducts. Conditions: none.
-/
set_option linter.all false
namespace Go.Proofs.YtboadfahlflmhaaDoor
open Go.Pv

end Go.Proofs.YtboadfahlflmhaaDoor

/-
  Walks: the law SubMeets. Conditions: none.
-/
set_option linter.all false
namespace Go.Proofs.YtboadfahlflmhaaDoor
open Go.Pv

theorem AllS.len {n e:Nat} {f:Nat→Nat→Nat} {SL:List Nat} (h:AllS n f e SL) (hn:n≤24):SL.length≤16777216:=by
 have h1:SL.length≤2 ^ n:=nodup_lt h.nodup fun x hx=>by
  obtain ⟨p,_,rfl⟩:=h.subs x hx
  exact bo_lt n p
 have h24:2 ^ n≤16777216:=Nat.le_trans (Nat.pow_le_pow_right (by omega) hn) (by decide)
 omega
theorem AllS.row {n e:Nat} {f:Nat→Nat→Nat} {SL:List Nat} (h:AllS n f e SL) (hn:n≤60) {i:Nat} (hi:i < SL.length):∃ p,Sub n f e p∧(sll SL).getD i []=thl n p:=by
 obtain ⟨p,hp,hx⟩:=h.subs _ (getD_memN hi)
 exact ⟨p,hp,by rw [sll_get hi,hx,stl_bo hn]⟩
theorem AllS.at {n e:Nat} {f:Nat→Nat→Nat} {SL:List Nat} (h:AllS n f e SL) (hn:n≤60) {p:Nat→Bool} (hp:Sub n f e p):∃ i,i < SL.length∧(sll SL).getD i []=thl n p:=by
 obtain ⟨i,hi,hx⟩:=mem_getDN (h.all p hp)
 exact ⟨i,hi,by rw [sll_get hi,hx,stl_bo hn]⟩
section
variable {n e:Nat} {m:List Int}
end
end Go.Proofs.YtboadfahlflmhaaDoor

/-
  Walks: the law SubNeedless. Conditions: none.
-/
set_option linter.all false
namespace Go.Proofs.YtboadfahlflmhaaDoor
open Go.Pv

theorem AllS.pos {n e:Nat} {f:Nat→Nat→Nat} {SL:List Nat} (G:Grp n f e) (h:AllS n f e SL):0 < SL.length:=List.length_pos_of_mem (h.all _ G.onp_sub)
theorem AllS.pair {n e:Nat} {f:Nat→Nat→Nat} {SL:List Nat} (h:AllS n f e SL) {i j:Nat} (hij:i < j) (hj:j < SL.length):cmpS (stl (SL.getD i 0)) (stl (SL.getD j 0)) < 0:=by
 have:=(List.pairwise_iff_getElem.1 h.rise) i j (by omega) hj hij
 simpa [List.getD,List.getElem?_eq_getElem hj,List.getElem?_eq_getElem (show i < SL.length by omega)] using this
theorem all_len (n:Nat):(thl n fun _=>true).length=n:=by rw [thl_len]; unfold thn'; rw [List.filter_eq_self.2 fun _ _=>rfl,List.length_range]
theorem len_all {n:Nat} {p:Nat→Bool} (h:¬ (thl n p).length < n):∀ y,y < n→p y=true:=by
 intro y hy
 cases hp:p y with
 | true=>rfl
 | false =>
  exfalso
  have:=mem_lt (n:=n) (p:=fun _=>true) (q:=p) (fun _ _ _=>rfl) (fun hh=>by have:=hh y hy; rw [hp] at this; cases this)
  have e1:(thl n p).length=(mem n p).length:=thl_len _ _
  have e2:(mem n fun _=>true).length=n:=by unfold mem; rw [List.filter_eq_self.2 fun _ _=>rfl,List.length_range]
  omega
theorem AllS.last {n e:Nat} {f:Nat→Nat→Nat} {SL:List Nat} (G:Grp n f e) (h:AllS n f e SL) (hn:n≤60):SL.getD (SL.length - 1) 0=bo n fun _=>true:=by
 have hpos:=h.pos G
 obtain ⟨t,ht,hx⟩:=mem_getDN (h.all _ G.all_sub)
 by_cases htl:t=SL.length - 1
 ·rw [← htl]; exact hx
 ·exfalso
  have hp:=h.pair (i:=t) (j:=SL.length - 1) (by omega) (by omega)
  obtain ⟨p,_,hpl⟩:=h.subs _ (getD_memN (show SL.length - 1 < SL.length by omega))
  rw [hx,hpl,stl_bo hn,stl_bo hn,cmpS_lt,all_len] at hp
  have:=thl_le n p
  rcases hp with hp | ⟨hp,hp2⟩
  ·omega
  ·have:thl n p=thl n fun _=>true:=thl_congr fun y hy=>len_all (by omega) y hy
   rw [this,cmpL_self] at hp2; omega
theorem ovr_bo {n:Nat} (hn:n≤60) (p q:Nat→Bool):ovr (bo n p) (bo n q)=true↔(¬ ∀ a,a < n→p a=q a)∧∀ a,a < n→p a=true→q a=true:=by
 unfold ovr
 rw [Bool.and_eq_true,decide_eq_true_eq,decide_eq_true_eq,andn_zero (bo_lt64 hn p) (bo_lt64 hn q)]
 refine and_congr (not_congr ⟨fun h a ha=>bo_inj h ha,fun h=>bo_congr h⟩) ⟨fun h a ha hp=>?_,fun h i hi=>?_⟩
 ·have:=h a (by rw [bo_bit]; simp [ha,hp])
  rw [bo_bit] at this; simpa [ha] using this
 ·rw [bo_bit,Bool.and_eq_true,decide_eq_true_eq] at hi ⊢
  exact ⟨hi.1,h i hi.1 hi.2⟩

section
variable {n e:Nat} {m:List Int}
/-- A subgroup that is not all stands in one that nothing but all stands over. -/
theorem AllS.max {f:Nat→Nat→Nat} {SL:List Nat} (G:Grp n f e) (h:AllS n f e SL) (hn:n≤60) {r:Nat→Bool} (hr:Sub n f e r) (hne:¬ ∀ a,a < n→r a=true) :
  ∃ i p,i < SL.length - 1∧SL.getD i 0=bo n p∧Sub n f e p∧mxr SL i=true∧(∀ a,a < n→r a=true→p a=true)∧¬ ∀ a,a < n→p a=true:=by
 have hpos:=h.pos G
 have hlast:=h.last G hn
 have notlast:∀ i p,i < SL.length→SL.getD i 0=bo n p→(¬ ∀ a,a < n→p a=true)→i < SL.length - 1:=fun i p hi hx hp=>by
  by_cases hil:i=SL.length - 1
  ·exfalso
   rw [hil,hlast] at hx
   exact hp fun a ha=>(bo_inj hx ha).symm
  ·omega
 have go:∀ c i p,SL.length - i≤c→i < SL.length→SL.getD i 0=bo n p→Sub n f e p→(∀ a,a < n→r a=true→p a=true)→(¬ ∀ a,a < n→p a=true) →
   ∃ i p,i < SL.length - 1∧SL.getD i 0=bo n p∧Sub n f e p∧mxr SL i=true∧(∀ a,a < n→r a=true→p a=true)∧¬ ∀ a,a < n→p a=true:=by
  intro c
  induction c with
  | zero=>intro i p hc hi; omega
  | succ c ih =>
   intro i p hc hi hx hp hrp hpn
   cases hm:mxr SL i with
   | true=>exact ⟨i,p,notlast i p hi hx hpn,hx,hp,hm,hrp,hpn⟩
   | false =>
    unfold mxr at hm
    rw [Bool.not_eq_false',decide_eq_true_eq] at hm
    obtain ⟨j,j1,j2,j3⟩:=hm
    obtain ⟨q,hq,hqx⟩:=h.subs _ (getD_memN (show j < SL.length by omega))
    rw [hx,hqx,ovr_bo hn] at j3
    refine ih j q (by omega) (by omega) hqx hq (fun a ha h1=>j3.2 a ha (hrp a ha h1)) fun hall=>?_
    have:j=SL.length - 1:=by
     by_cases hjl:j < SL.length - 1
     ·exfalso
      have hpq:=h.pair (i:=j) (j:=SL.length - 1) hjl (by omega)
      rw [hlast,hqx,bo_congr (q:=fun _=>true) (fun a ha=>hall a ha)] at hpq
      exact cmpS_self _ hpq
     ·omega
    omega
 obtain ⟨i,hi,hx⟩:=mem_getDN (h.all r hr)
 exact go _ i r (Nat.le_refl _) hi hx hr (fun a _ h=>h) hne
end
end Go.Proofs.YtboadfahlflmhaaDoor

/-
  All subgroups as the document has them: from cyclic ones on, by what two make; put in order. Conditions: none.
-/
set_option linter.all false
namespace Go.Proofs.YtboadfahlflmhaaDoor
open Go.Pv

theorem oll_get {ls:List (List Int)} {i:Nat} (hlt:i < ls.length) (d:AV):(opl (ll ls)).getD i d = .p (.list (il (ls.getD i []))):=by simp [opl,ll,List.getD,List.getElem?_eq_getElem hlt]
theorem mem_getDL {ls:List (List Int)} {l:List Int} (h:l∈ls):∃ j,j < ls.length∧ls.getD j []=l:=by
 obtain ⟨j,hj,rfl⟩:=List.getElem_of_mem h
 exact ⟨j,hj,by simp [List.getD,List.getElem?_eq_getElem hj]⟩
theorem getD_memL {ls:List (List Int)} {j:Nat} (hj:j < ls.length):ls.getD j []∈ls:=by
 simp only [List.getD,List.getElem?_eq_getElem hj,Option.getD_some]; exact List.getElem_mem hj
theorem add_in (ls:List (List Int)) (l:List Int) (hl:ls.length≤16777217) (hr:∀ w∈ls,w.length≤60) (hin:l∈ls):FnM Tryd.prog 125 [.p (.list (il l)),.ptr 0 0] [.own [.sl 1 0 ls.length],.own (opl (ll ls))] (.p (.bool false)) [.own [.sl 1 0 ls.length],.own (opl (ll ls))]:=by
 have hll:=ll_length ls
 refine fnm_of tab_ok Tryd.func125 rfl (by kernel_rfl) (by rw [Tryd.ntmps125]; exact Nat.le_add_left 2 _) ?_; rw [Tryd.ntmps125]; simp only [ancs,entA,List.length_cons,List.length_nil,List.cons_append,List.nil_append,Nat.reduceAdd,Nat.zero_add]
 refine qm ?_
 refine hk_region fun K hK=>runs_eval tab_ok ?_
 simp only [ev0,evA,evB,evP,fl,gp,tab,simprocAttr,reduceCtorEq,reduceIte]
 refine fin_run trivial (hK _ ?_)<;>clear hK<;>clear K
 refine qa (qm (qm ?_))
 refine hk_region fun K hK=>runs_eval tab_ok ?_
 simp only [ev0,evA,evB,evP,fl,gp,tab,simprocAttr,reduceCtorEq,reduceIte]
 refine fin_run trivial (hK _ ?_)<;>clear hK<;>clear K
 refine qa (ql ?_)
 refine hk_loop (ι:=Nat) (fun i=>⟨21,[(0,.p (.list (il l))),(1,.ptr 0 0),(4,.p (.int .i64 i))],[.own [.sl 1 0 ls.length],.own (opl (ll ls)),.anc 0 0,.anc 1 1]⟩) (fun i=>i≤ls.length∧∀ j,j < i→¬ ls.getD j []=l) (fun i=>ls.length - i) 0 ⟨Nat.zero_le _,fun j hj=>by omega⟩ [0,1,2,3] (by simp only [leq,leA,ev0,evA,evB,evP,fl,gp,tab,simprocAttr,reduceCtorEq,reduceIte,ll_takeL]<;>trivial) fun i hi=>?_
 obtain ⟨hi1,hi2⟩:=hi
 refine qm (qm ?_)
 refine hk_region fun K hK=>runs_eval tab_ok ?_
 simp only [ev0,evA,evB,evP,fl,gp,tab,simprocAttr,reduceCtorEq,reduceIte]
 refine fin_run ?_ (hK _ ?_)<;>clear hK<;>clear K
 ·(first|exact trivial|omega|(simp only [In64] at *; omega)|(simp [In64] at *; omega)|(simp_all; done)|skip)
 refine qa ?_
 refine hk_cond rfl (fun hC1=>?_) (fun hC1=>?_)
 ·(try simp only [nhs] at hC1)
  have hlt:i < ls.length:=by omega
  have hg:=fun d=>oll_get hlt d
  have hwl:=hr _ (getD_memL hlt)
  refine qh (qa (qm (ql (qm ?_))))
  refine hk_region fun K hK=>runs_eval tab_ok ?_
  simp only [ev0,evA,evB,evP,fl,gp,tab,simprocAttr,reduceCtorEq,reduceIte,hg,ll_length]
  refine fin_stop ?_ (runs_call (ints_c (ls.getD i []) l (by omega)) rfl rfl rfl (by simp only [dstOk,Nat.reduceLT]) (by repeat (first|exact trivial|constructor)) (runs_eval tab_ok ?_))
  ·(first|exact trivial|omega|(simp only [In64] at *; omega)|(simp [In64] at *; omega)|(simp_all; done)|skip)
  simp only [ev0,evA,evB,evP,fl,gp,tab,simprocAttr,reduceCtorEq,reduceIte,hg,ll_length]
  refine fin_run ?_ (hK _ ?_)<;>clear hK<;>clear K
  ·(first|exact trivial|omega|(simp only [In64] at *; omega)|(simp [In64] at *; omega)|(simp_all; done)|skip)
  refine qa ?_
  refine hk_cond rfl (fun hC2=>?_) (fun hC2=>?_)
  ·(try simp only [nhs] at hC2)
   refine qm ?_
   refine hk_region fun K hK=>runs_eval tab_ok ?_
   simp only [ev0,evA,evB,evP,fl,gp,tab,simprocAttr,reduceCtorEq,reduceIte]
   refine fin_run trivial (hK _ ?_)<;>clear hK<;>clear K
   refine qa (qk (qe (qb (qb (qe (qb ?_))))))
   simp only [Tryd.results125,PostG,endG,rvsA,rvA,mkTup,ev0,evA,evB,evP,fl,gp,tab,simprocAttr,reduceCtorEq,reduceIte]
   all_goals (exact ⟨[0,1,2,3],rfl,rfl,by simp only [leq,leA,ev0,evA,evB,evP,fl,gp,tab,simprocAttr,reduceCtorEq,reduceIte,ll_takeL]<;>trivial⟩)
  ·(try simp only [nhs] at hC2)
   refine qh (qd (qa ?_))
   refine hk_region fun K hK=>runs_eval tab_ok ?_
   simp only [ev0,evA,evB,evP,fl,gp,tab,simprocAttr,reduceCtorEq,reduceIte]
   refine fin_run ?_ (hK _ ?_)<;>clear hK<;>clear K
   ·(first|exact trivial|omega|(simp only [In64] at *; omega)|(simp [In64] at *; omega)|(simp_all; done)|skip)
   refine qa ?_
   refine ⟨i + 1,[0,1,2,3],⟨by omega,fun j hj=>?_⟩,by omega,?_⟩
   ·by_cases hji:j=i
    ·rw [hji]; exact hC2
    ·exact hi2 j (by omega)
   ·simp only [leq,leA,ev0,evA,evB,evP,fl,gp,tab,simprocAttr,reduceCtorEq,reduceIte,ll_takeL]<;>first|trivial|omega
 ·(try simp only [nhs] at hC1)
  obtain ⟨j,hj,he⟩:=mem_getDL hin
  exact absurd he (hi2 j (by omega))
theorem add_new (ls:List (List Int)) (l:List Int) (hl:ls.length≤16777217) (hr:∀ w∈ls,w.length≤60) (hin:l ∉ ls):FnM Tryd.prog 125 [.p (.list (il l)),.ptr 0 0] [.own [.sl 1 0 ls.length],.own (opl (ll ls))] (.p (.bool true)) [.own [.sl 2 0 (ls++[l]).length],.dead,.own (opl (ll (ls++[l])))]:=by
 have hll:=ll_length ls
 refine fnm_of tab_ok Tryd.func125 rfl (by kernel_rfl) (by rw [Tryd.ntmps125]; exact Nat.le_add_left 2 _) ?_; rw [Tryd.ntmps125]; simp only [ancs,entA,List.length_cons,List.length_nil,List.cons_append,List.nil_append,Nat.reduceAdd,Nat.zero_add]
 refine qm ?_
 refine hk_region fun K hK=>runs_eval tab_ok ?_
 simp only [ev0,evA,evB,evP,fl,gp,tab,simprocAttr,reduceCtorEq,reduceIte]
 refine fin_run trivial (hK _ ?_)<;>clear hK<;>clear K
 refine qa (qm (qm ?_))
 refine hk_region fun K hK=>runs_eval tab_ok ?_
 simp only [ev0,evA,evB,evP,fl,gp,tab,simprocAttr,reduceCtorEq,reduceIte]
 refine fin_run trivial (hK _ ?_)<;>clear hK<;>clear K
 refine qa (ql ?_)
 refine hk_loop (ι:=Nat) (fun i=>⟨21,[(0,.p (.list (il l))),(1,.ptr 0 0),(4,.p (.int .i64 i))],[.own [.sl 1 0 ls.length],.own (opl (ll ls)),.anc 0 0,.anc 1 1]⟩) (fun i=>i≤ls.length) (fun i=>ls.length - i) 0 (Nat.zero_le _) [0,1,2,3] (by simp only [leq,leA,ev0,evA,evB,evP,fl,gp,tab,simprocAttr,reduceCtorEq,reduceIte,ll_takeL]<;>trivial) fun i hi=>?_
 refine qm (qm ?_)
 refine hk_region fun K hK=>runs_eval tab_ok ?_
 simp only [ev0,evA,evB,evP,fl,gp,tab,simprocAttr,reduceCtorEq,reduceIte]
 refine fin_run ?_ (hK _ ?_)<;>clear hK<;>clear K
 ·(first|exact trivial|omega|(simp only [In64] at *; omega)|(simp [In64] at *; omega)|(simp_all; done)|skip)
 refine qa ?_
 refine hk_cond rfl (fun hC1=>?_) (fun hC1=>?_)
 ·(try simp only [nhs] at hC1)
  have hlt:i < ls.length:=by omega
  have hg:=fun d=>oll_get hlt d
  have hmem:=getD_memL hlt
  have hwl:=hr _ hmem
  refine qh (qa (qm (ql (qm ?_))))
  refine hk_region fun K hK=>runs_eval tab_ok ?_
  simp only [ev0,evA,evB,evP,fl,gp,tab,simprocAttr,reduceCtorEq,reduceIte,hg,ll_length]
  refine fin_stop ?_ (runs_call (ints_c (ls.getD i []) l (by omega)) rfl rfl rfl (by simp only [dstOk,Nat.reduceLT]) (by repeat (first|exact trivial|constructor)) (runs_eval tab_ok ?_))
  ·(first|exact trivial|omega|(simp only [In64] at *; omega)|(simp [In64] at *; omega)|(simp_all; done)|skip)
  simp only [ev0,evA,evB,evP,fl,gp,tab,simprocAttr,reduceCtorEq,reduceIte,hg,ll_length]
  refine fin_run ?_ (hK _ ?_)<;>clear hK<;>clear K
  ·(first|exact trivial|omega|(simp only [In64] at *; omega)|(simp [In64] at *; omega)|(simp_all; done)|skip)
  refine qa ?_
  refine hk_cond rfl (fun hC2=>?_) (fun hC2=>?_)
  ·(try simp only [nhs] at hC2)
   rw [hC2] at hmem
   exact absurd hmem hin
  ·(try simp only [nhs] at hC2)
   refine qh (qd (qa ?_))
   refine hk_region fun K hK=>runs_eval tab_ok ?_
   simp only [ev0,evA,evB,evP,fl,gp,tab,simprocAttr,reduceCtorEq,reduceIte]
   refine fin_run ?_ (hK _ ?_)<;>clear hK<;>clear K
   ·(first|exact trivial|omega|(simp only [In64] at *; omega)|(simp [In64] at *; omega)|(simp_all; done)|skip)
   refine qa ?_
   refine ⟨i + 1,[0,1,2,3],by omega,by omega,?_⟩
   simp only [leq,leA,ev0,evA,evB,evP,fl,gp,tab,simprocAttr,reduceCtorEq,reduceIte,ll_takeL]<;>first|trivial|omega
 ·(try simp only [nhs] at hC1)
  refine qj (qc (qc (qf (qa (qm ?_)))))
  refine hk_region fun K hK=>runs_eval tab_ok ?_
  simp only [ev0,evA,evB,evP,fl,gp,tab,simprocAttr,reduceCtorEq,reduceIte,ll_takeL,oll_ok,ll_snoc]
  refine fin_run ?_ (hK _ ?_)<;>clear hK<;>clear K
  ·first|(simp [cellOk,PV.one]; done)|(simp [cellOk,PV.one]; omega)
  refine qa (qm ?_)
  refine hk_region fun K hK=>runs_eval tab_ok ?_
  simp only [ev0,evA,evB,evP,fl,gp,tab,simprocAttr,reduceCtorEq,reduceIte]
  refine fin_run trivial (hK _ ?_)<;>clear hK<;>clear K
  refine qa (qk ?_)
  simp only [Tryd.results125,PostG,endG,rvsA,rvA,mkTup,ev0,evA,evB,evP,fl,gp,tab,simprocAttr,reduceCtorEq,reduceIte]
  all_goals (exact ⟨[0,1,4,2,3],rfl,rfl,by simp only [leq,leA,ev0,evA,evB,evP,fl,gp,tab,simprocAttr,reduceCtorEq,reduceIte,ll_takeL,ll_snoc,ll_takeS]<;>first|trivial|(simp; done)⟩)
end Go.Proofs.YtboadfahlflmhaaDoor

/-
  A call that takes a row of the call's own for good. Conditions: none; a library text.
-/
set_option linter.all false
namespace Go.Pv
open Go.RowKit

section
variable {P:Program}
theorem peekG_hget {H H2:Heap} {k:Nat} {x:AV} (hx:isPk k x=true) (h:hget H2 k=hget H k):peekG H2 x=peekG H x:=by
 cases x with
 | p v=>rfl
 | sl j lo len =>
  have hj:j=k:=by simpa [isPk] using hx
  subst hj
  simp only [peekG,peekS,h]
 | _=>simp [isPk] at hx

/-- A call that takes a row of the call's own for good: the row is frozen behind it. -/
theorem runs2_callK {all:Array Oper} {rest:List Oper} {K:St→List I2→Prop} {acc:List I2} {s:St} {dst:Option Tmp} {ty:TypeId} {pos:String} {aft:Array Edge} {gd:Option (Nat × Bool)} {fo:Operand} {args:Array Operand} {ts:Array TypeId} {g:FuncId} {avs:List PV} {p:Prop} {r:PV} (k:Nat) {c:List AV} {ps:List PV}
  (hc:FnC P g avs r) (hg:guardA all s { dst:=dst,op:=.call { callee:=.value fo,args:=args,argTypes:=ts },type:=ty,pos:=pos,after:=aft,guard:=gd } = some true)
  (hown:hget s.H k = .own c) (hall:allP c=some ps)
  (hcall:callA ({ s with H:=hset s.H k (.fro ps) } : St) fo args=some (g,avs,p,true)) (hpure:args.toList.all (fun x=>isPk k (s.ev x))=true) (hd:dstOk s dst) (hp:p)
  (h:Runs2 P all rest K (({ s with H:=hset s.H k (.fro ps) } : St).put dst (.p r)) (acc++[⟨.st k,.p r,.fro ps,false⟩])) :
  Runs2 P all ({ dst:=dst,op:=.call { callee:=.value fo,args:=args,argTypes:=ts },type:=ty,pos:=pos,after:=aft,guard:=gd } :: rest) K s acc:=by
 obtain ⟨s',xs,hr,hK⟩:=h
 have hk:k < s.H.length:=(List.getElem?_eq_some_iff.1 (hget_mut hown)).1
 refine ⟨s',⟨.st k,.p r,.fro ps,false⟩ :: xs,.op hg (dstOk_spec hd) ⟨hk,?_⟩ (fun h=>by cases h) hr,by rw [List.append_assoc] at hK; exact hK⟩
 intro s2 hn ha hH
 have hown2:hget s2.H k = .own c:=hH.trans hown
 have hk2:k < s2.H.length:=(List.getElem?_eq_some_iff.1 (hget_mut hown2)).1
 have he:hget (hset s2.H k (.fro ps)) k=hget (hset s.H k (.fro ps)) k:=by
  rw [hset_hget,hset_hget,if_pos ⟨rfl,hk2⟩,if_pos ⟨rfl,hk⟩]
 have hcall2:callA ({ s2 with H:=hset s2.H k (.fro ps) } : St) fo args=some (g,avs,p,true):=by
  rw [← hcall]
  exact callA_pure (s:={ s with H:=hset s.H k (.fro ps) }) (s2:={ s2 with H:=hset s2.H k (.fro ps) }) ts (fun x hx=>ha x hx) fun x hx=>peekG_hget ((List.all_eq_true.1 hpure) x hx) he
 have hdo:=call_does (P:=P) (s:={ s2 with H:=hset s2.H k (.fro ps) }) (o:={ dst:=dst,op:=.call { callee:=.value fo,args:=args,argTypes:=ts },type:=ty,pos:=pos,after:=aft,guard:=gd }) rfl hc hcall2 hp (by simp)
 intro C m a w K Q R hK
 exact hdo C m a w K Q (R.freeze hown2 hall) fun v m' w' R' hv=>hK v m' w' R' hv
end
end Go.Pv

/-
  Sylow's subgroups, as the program has them: look, Cauchy, one. Conditions: none.
-/
set_option linter.all false
namespace Go.Proofs.YtboadfahlflmhaaDoor
open Go.Pv

section
variable {n e P:Nat} {m:List Int}
end
end Go.Proofs.YtboadfahlflmhaaDoor

/-
  Sylow's subgroups, as the program grows one. Conditions: none.
-/
set_option linter.all false
namespace Go.Proofs.YtboadfahlflmhaaDoor
open Go.Pv

section
variable {n e P:Nat} {m:List Int}
end
end Go.Proofs.YtboadfahlflmhaaDoor

/-
  Plain law: conjugated sets in a list that rises. Conditions: none.
-/
set_option linter.all false
namespace Go.Proofs.YtboadfahlflmhaaDoor
open Go.Pv

/-- All sets that a set is conjugated to, in their order. -/
structure SyS (n:Nat) (f:Nat→Nat→Nat) (e:Nat) (s:Nat→Bool) (SL:List Nat):Prop where
 all:∀ x,x∈SL↔∃ a,a < n∧x=bo n (shf n f e s a)
 rise:SL.Pairwise fun x y=>cmpL (stl x) (stl y) < 0
section
variable {n e:Nat} {f:Nat→Nat→Nat} {s:Nat→Bool} {SL:List Nat}
theorem SyS.nodup (h:SyS n f e s SL):SL.Nodup:=h.rise.imp fun {x y} hxy he=>by
 subst he; rw [cmpL_self] at hxy; exact absurd hxy (by decide)
theorem SyS.pos (h:SyS n f e s SL) (G:Grp n f e):0 < SL.length:=List.length_pos_of_mem ((h.all _).2 ⟨e,G.el,rfl⟩)
theorem SyS.len (h:SyS n f e s SL):SL.length≤n:=by
 have h1:=List.Nodup.length_le_of_subset h.nodup (l₂:=(List.range n).map fun a=>bo n (shf n f e s a)) fun x hx=>by
  obtain ⟨a,h1,h2⟩:=(h.all x).1 hx
  exact List.mem_map.2 ⟨a,List.mem_range.2 h1,h2.symm⟩
 simpa using h1
theorem SyS.num (h:SyS n f e s SL) (G:Grp n f e) (hs:Sub n f e s):SL.length * (mem n (nzr n f e s)).length=n:=
 G.conj_num hs (code:=bo n) (fun p q=>⟨fun he y hy=>by
  have:=congrArg (fun x=>Nat.testBit x y) he
  simpa [bo_bit,hy] using this,fun he=>bo_congr he⟩) h.nodup h.all
end
end Go.Proofs.YtboadfahlflmhaaDoor

/-
  A loop over a map of one's own: its entries come in whatever order. Conditions: none; a library text.
-/
set_option linter.all false
namespace Go.Pv
open Go.RowKit

section
variable {P:Program} {C:Ctx} {m:Map} {s:St} {tmps:Array Value} {w:World}

/-- The frame where some blocks are left alone. -/
def holdC (C:Ctx) (X:Nat→Prop) (w:World):Ctx:=⟨fun b=>C.okA b∨C.B b,fun b=>C.B b∧¬ X b,w,C.anc⟩

theorem holdC_ok (C:Ctx) (X:Nat→Prop) (w0:World) (m:Map) (H:Heap) (w:World):OK (holdC C X w0) m H w=OK C m H w:=by
 funext b
 unfold OK holdC
 refine propext ⟨fun h=>⟨?_,h.2⟩,fun h=>⟨.inl h.1,h.2⟩⟩
 rcases h.1 with h1 | h1
 ·exact h1
 ·exact .inr h1.1

theorem Rel.hold (R:Rel C m s tmps w) (X:Nat→Prop) (hX:∀ b,X b→b < w.heap.size∧∀ cur e sh,w.heap[b]? ≠ some (.cells cur e sh))
  (hmp:∀ (k:Nat) (kk:IntKind) (d:Int→Bool) (v:Int→PV) (l:Loc),s.H[k]? = some (Blk.mp kk d v)→m k=some l→¬ X l.g) (hlp:∀ b,X b→∀ rr,w.heap[b]? ≠ some (.loop rr)):Rel (holdC C X w) m s tmps w:=by
 have e:=holdC_ok C X w m s.H w
 refine ⟨by rw [e]; exact R.laid,BelowP.refl _ _,fun b hb=>⟨R.base b hb,fun hx=>by have:=(hX b hx).1; omega⟩,R.size,R.inj,fun k c h=>?_,by rw [e]; exact R.fro,by rw [e]; exact R.slot,fun k kk d v h=>?_,R.mp.2.1,R.mp.2.2.1,fun k rr h=>(let ⟨l,a1,a2,a3⟩:=R.mp.2.2.2.1 k rr h; ⟨l,a1,⟨a2,fun hx=>hlp _ hx _ a3⟩,a3⟩),R.mp.2.2.2.2⟩
 ·rw [e]
  rcases R.blk k c h with h1 | ⟨l,cur,ee,a1,a2,a3,a4⟩
  ·exact .inl h1
  ·exact .inr ⟨l,cur,ee,a1,⟨a2,fun hx=>(hX _ hx).2 _ _ _ a3⟩,a3,a4⟩
 ·rw [e]
  obtain ⟨l,ar,clk,vs,a1,a2,a3⟩:=R.mp.1 k kk d v h
  exact ⟨l,ar,clk,vs,a1,⟨a2,hmp k kk d v l h a1⟩,a3⟩

/-! ### The loop -/

end
end Go.Pv

/-
  All of Sylow's subgroups, as the program has them. Conditions: none.
-/
set_option linter.all false
namespace Go.Proofs.YtboadfahlflmhaaDoor
open Go.Pv

def sql (SL:List Nat):List (List Int):=SL.map stl
theorem sql_get {SL:List Nat} {i:Nat} (hi:i < SL.length):(sql SL).getD i []=stl (SL.getD i 0):=by
 simp [sql,List.getD,List.getElem?_eq_getElem hi]
def pvi:PV→Int
 | .int _ x=>x
 | _=>0
theorem pvi_il (v:List Int):(il v).map pvi=v:=by
 unfold il
 rw [List.map_map]
 exact (List.map_congr_left fun _ _=>rfl).trans (List.map_id v)
theorem mem_ll {x:PV} {ls:List (List Int)} (h:x∈ll ls):∃ v∈ls,x = .list (il v):=by
 obtain ⟨v,hv,rfl⟩:=List.mem_map.1 h
 exact ⟨v,hv,rfl⟩

section
variable {n e P:Nat} {m:List Int}
end
end Go.Proofs.YtboadfahlflmhaaDoor

/-
  What all of Sylow's subgroups have; the document's example; numbers of a power of p. Conditions: none.
-/
set_option linter.all false
namespace Go.Proofs.YtboadfahlflmhaaDoor
open Go.Pv

section
variable {n e P:Nat} {m:List Int}
theorem getD_memK {L:List Nat} {j:Nat} (hj:j < L.length):L.getD j 0∈L:=by
 rw [List.getD_eq_getElem?_getD,List.getElem?_eq_getElem hj]; exact List.getElem_mem hj
theorem SyS.at {f:Nat→Nat→Nat} {s:Nat→Bool} {SL:List Nat} (h:SyS n f e s SL) (hn:n≤60) {i:Nat} (hi:i < SL.length):∃ a,a < n∧SL.getD i 0=bo n (shf n f e s a)∧(sql SL).getD i []=thl n (shf n f e s a):=by
 obtain ⟨a,h1,h2⟩:=(h.all _).1 (getD_memK hi)
 exact ⟨a,h1,h2,by rw [sql_get hi,h2,stl_bo hn]⟩
theorem SyS.idx {f:Nat→Nat→Nat} {s:Nat→Bool} {SL:List Nat} (h:SyS n f e s SL) (hn:n≤60) {a:Nat} (ha:a < n):∃ i,i < SL.length∧SL.getD i 0=bo n (shf n f e s a)∧(sql SL).getD i []=thl n (shf n f e s a):=by
 obtain ⟨i,h1,h2⟩:=List.getElem_of_mem ((h.all _).2 ⟨a,ha,rfl⟩)
 have h3:SL.getD i 0=bo n (shf n f e s a):=by rw [List.getD_eq_getElem?_getD,List.getElem?_eq_getElem h1,Option.getD_some,h2]
 exact ⟨i,h1,h3,by rw [sql_get h1,h3,stl_bo hn]⟩
end
end Go.Proofs.YtboadfahlflmhaaDoor

/-
  What all of Sylow's subgroups have: what the laws need. Conditions: none.
-/
set_option linter.all false
namespace Go.Proofs.YtboadfahlflmhaaDoor
open Go.Pv

section
variable {n e P:Nat} {f:Nat→Nat→Nat} {s:Nat→Bool} {SL:List Nat}
theorem Grp.shf_shf (G:Grp n f e) {a b y:Nat} (ha:a < n) (hb:b < n) (hy:y < n):shf n f e (shf n f e s a) b y=shf n f e s (f a b) y:=by
 have ib:=G.iv_lt hb
 rw [G.shf_back hb hy,G.shf_back ha (G.cjr_lt hy ib),G.shf_back (G.cl _ _ ha hb) hy,G.iv_prod ha hb,G.cjr_cjr hy ib (G.iv_lt ha)]
theorem SyS.shf (h:SyS n f e s SL) (G:Grp n f e) {a:Nat} (ha:a < n):SyS n f e (Go.Proofs.YtboadfahlflmhaaDoor.shf n f e s a) SL where
 rise:=h.rise
 all x:=by
  rw [h.all x]
  constructor
  ·rintro ⟨b,hb,rfl⟩
   exact ⟨f (iv n f e a) b,G.cl _ _ (G.iv_lt ha) hb,bo_congr fun y hy=>by
    rw [G.shf_shf ha (G.cl _ _ (G.iv_lt ha) hb) hy,← G.assoc a _ b ha (G.iv_lt ha) hb,G.mul_iv ha,G.one_l b hb]⟩
  ·rintro ⟨b,hb,rfl⟩
   exact ⟨f a b,G.cl _ _ ha hb,bo_congr fun y hy=>G.shf_shf ha hb hy⟩
theorem bo_eqs {p q:Nat→Bool} (h:bo n p=bo n q):∀ y,y < n→p y=q y:=fun y hy=>by
 have:=congrArg (fun x=>Nat.testBit x y) h
 simpa [bo_bit,hy] using this
/-- One alone is normal. -/
theorem SyS.one_nml (h:SyS n f e s SL) (G:Grp n f e) (hs:Sub n f e s) (hp:0 < SL.length):SL.length=1↔Nml n f e s:=by
 have hse:∀ y,y < n→Go.Proofs.YtboadfahlflmhaaDoor.shf n f e s e y=s y:=fun y hy=>by rw [G.shf_back G.el hy,G.iv_one,G.cjr_e hy]
 constructor
 ·intro h1
  obtain ⟨x,hx⟩:=List.length_eq_one_iff.1 h1
  have hm:∀ a,a < n→bo n (Go.Proofs.YtboadfahlflmhaaDoor.shf n f e s a)=x:=fun a ha=>by
   have:=(h.all _).2 ⟨a,ha,rfl⟩
   rw [hx,List.mem_singleton] at this; exact this
  refine G.nml_iff.2 fun a ha=>nzr_iff.2 fun y hy=>?_
  rw [bo_eqs ((hm a ha).trans (hm e G.el).symm) y hy,hse y hy]
 ·intro h1
  have hall:∀ x∈SL,x=bo n s:=fun x hx=>by
   obtain ⟨a,ha,rfl⟩:=(h.all x).1 hx
   exact bo_congr fun y hy=>nzr_iff.1 (G.nml_iff.1 h1 a ha) y hy
  have:=List.Nodup.length_le_of_subset h.nodup (l₂:=[bo n s]) fun x hx=>by rw [List.mem_singleton]; exact hall x hx
  simp at this
  omega
end

section
variable {n e P:Nat} {m:List Int}
end
end Go.Proofs.YtboadfahlflmhaaDoor

/-
  Walks: the law SylowAll. Conditions: none.
-/
set_option linter.all false
namespace Go.Proofs.YtboadfahlflmhaaDoor
open Go.Pv

/-- Less, letter by letter. -/
def lsb:List Int→List Int→Bool
 | a :: r,b :: t=>bif decide (a=b) then lsb r t else decide (a < b)
 | _,_=>false
theorem lsb_at {v w:List Int} : ∀ {i:Nat},(∀ j,j < i→v.getD j 0=w.getD j 0)→i < v.length→i < w.length→¬ v.getD i 0=w.getD i 0→lsb v w=decide (v.getD i 0 < w.getD i 0):=by
 intro i
 induction i generalizing v w with
 | zero =>
  intro _ hv hw hne
  cases v with
  | nil=>simp at hv
  | cons a r =>
   cases w with
   | nil=>simp at hw
   | cons b t =>
    have hne' : ¬ a=b:=by simpa using hne
    unfold lsb; rw [decide_eq_false hne']; simp
 | succ i ih =>
  intro hall hv hw hne
  cases v with
  | nil=>simp at hv
  | cons a r =>
   cases w with
   | nil=>simp at hw
   | cons b t =>
    have hab:a=b:=by simpa using hall 0 (by omega)
    unfold lsb; rw [decide_eq_true hab]
    have:=ih (v:=r) (w:=t) (fun j hj=>by simpa using hall (j + 1) (by omega)) (by simpa using hv) (by simpa using hw) (by simpa using hne)
    simpa using this
theorem lsb_eq {v w:List Int} (hall:∀ j,j < v.length→v.getD j 0=w.getD j 0):lsb v w=false:=by
 induction v generalizing w with
 | nil=>rfl
 | cons a r ih =>
  cases w with
  | nil=>rfl
  | cons b t =>
   have hab:a=b:=by simpa using hall 0 (by simp)
   unfold lsb; rw [decide_eq_true hab]
   exact ih fun j hj=>by simpa using hall (j + 1) (by simpa using hj)
theorem less_r (v w:List Int) (hv:v.length≤1000000) (hl:w.length=v.length):FnC Tryd.prog 27 [.list (il v),.list (il w)] (.bool (lsb v w)):=by
 refine fnc_of tab_ok Tryd.func27 rfl (by kernel_rfl) (by rw [Tryd.ntmps27]; exact Nat.le_add_left 2 _) ?_; rw [Tryd.ntmps27]
 refine qm ?_
 refine hk_region fun K hK=>runs_eval tab_ok ?_
 simp only [ev0,evA,evB,evP,fl,gp,tab,simprocAttr,reduceCtorEq,reduceIte]
 refine fin_run trivial (hK _ ?_)<;>clear hK<;>clear K
 refine qa (qm (qm ?_))
 refine hk_region fun K hK=>runs_eval tab_ok ?_
 simp only [ev0,evA,evB,evP,fl,gp,tab,simprocAttr,reduceCtorEq,reduceIte]
 refine fin_run trivial (hK _ ?_)<;>clear hK<;>clear K
 refine qa (ql ?_)
 refine hk_loop (ι:=Nat) (fun i=>⟨30,[(0,.p (.list (il v))),(1,.p (.list (il w))),(5,.p (.int .i64 i))],[]⟩) (fun i=>i≤v.length∧∀ j,j < i→v.getD j 0=w.getD j 0) (fun i=>v.length - i) 0 ⟨Nat.zero_le _,fun j hj=>by omega⟩ [] (by simp only [leq,leA,ev0,evA,evB,evP,fl,gp,tab,simprocAttr,reduceCtorEq,reduceIte]<;>trivial) fun i hi=>?_
 obtain ⟨hi1,hi2⟩:=hi
 refine qm (qm ?_)
 refine hk_region fun K hK=>runs_eval tab_ok ?_
 simp only [ev0,evA,evB,evP,fl,gp,tab,simprocAttr,reduceCtorEq,reduceIte]
 refine fin_run trivial (hK _ ?_)<;>clear hK<;>clear K
 refine qa ?_
 refine hk_cond rfl (fun hC1=>?_) (fun hC1=>?_)
 ·(try simp only [nhs] at hC1)
  have hlt:i < v.length:=by omega
  have hlw:i < w.length:=by omega
  refine qh (qa (qm (ql (qm ?_))))
  refine hk_draw mixed (by kernel_rfl) fun K hK=>runs_eval tab_ok ?_
  simp only [ev0,evA,evB,evP,fl,gp,tab,simprocAttr,reduceCtorEq,reduceIte,il_get hlt,il_get hlw]
  refine fin_run ?_ (hK _ ?_)<;>clear hK<;>clear K
  ·(first|exact trivial|omega|(simp only [In64] at *; omega)|(simp [In64] at *; omega)|(simp_all; done)|skip)
  refine qa ?_
  refine hk_cond rfl (fun hC2=>?_) (fun hC2=>?_)
  ·(try simp only [nhs] at hC2)
   refine qm ?_
   refine hk_draw mixed (by kernel_rfl) fun K hK=>runs_eval tab_ok ?_
   simp only [ev0,evA,evB,evP,fl,gp,tab,simprocAttr,reduceCtorEq,reduceIte,il_get hlt,il_get hlw]
   refine fin_run ?_ (hK _ ?_)<;>clear hK<;>clear K
   ·(first|exact trivial|omega|(simp only [In64] at *; omega)|(simp [In64] at *; omega)|(simp_all; done)|skip)
   refine qa (qk (qe (qb (qb (qe (qb ?_))))))
   simp only [Tryd.results27,enA,ev0,evA,evB,evP,fl,gp,tab,simprocAttr,reduceCtorEq,reduceIte]
   all_goals (rw [lsb_at hi2 hlt hlw hC2])
  ·(try simp only [nhs] at hC2)
   refine qh (qd (qa ?_))
   refine hk_region fun K hK=>runs_eval tab_ok ?_
   simp only [ev0,evA,evB,evP,fl,gp,tab,simprocAttr,reduceCtorEq,reduceIte]
   refine fin_run ?_ (hK _ ?_)<;>clear hK<;>clear K
   ·(first|exact trivial|omega|(simp only [In64] at *; omega)|(simp [In64] at *; omega)|(simp_all; done)|skip)
   refine qa ?_
   refine ⟨i + 1,[],⟨by omega,fun j hj=>?_⟩,by omega,?_⟩
   ·by_cases hj:j=i
    ·subst hj; exact hC2
    ·exact hi2 j (by omega)
   ·simp only [leq,leA,ev0,evA,evB,evP,fl,gp,tab,simprocAttr,reduceCtorEq,reduceIte]<;>omega
 ·(try simp only [nhs] at hC1)
  refine qj (qc (qc (qf (qa (qm ?_)))))
  refine hk_region fun K hK=>runs_eval tab_ok ?_
  simp only [ev0,evA,evB,evP,fl,gp,tab,simprocAttr,reduceCtorEq,reduceIte]
  refine fin_run trivial (hK _ ?_)<;>clear hK<;>clear K
  refine qa (qk ?_)
  simp only [Tryd.results27,enA,ev0,evA,evB,evP,fl,gp,tab,simprocAttr,reduceCtorEq,reduceIte]
  all_goals (rw [lsb_eq fun j hj=>hi2 j (by omega)])
theorem lsb_cmp {v w:List Int} (hl:v.length=w.length) (h:cmpL v w < 0):lsb v w=true:=by
 induction v generalizing w with
 | nil =>
  cases w with
  | nil=>rw [cmpL_self] at h; exact absurd h (by decide)
  | cons b t=>simp at hl
 | cons a r ih =>
  cases w with
  | nil=>simp at hl
  | cons b t =>
   unfold lsb
   rcases cmpL_cons_lt.1 h with h1 | ⟨h1,h2⟩
   ·rw [decide_eq_false (by omega),decide_eq_true h1]; rfl
   ·rw [decide_eq_true h1]; exact ih (by simpa using hl) h2

section
variable {n e P:Nat} {m:List Int}
end
end Go.Proofs.YtboadfahlflmhaaDoor

/-
  All subgroups as the document has them. Conditions: none.
-/
set_option linter.all false
namespace Go.Proofs.YtboadfahlflmhaaDoor
open Go.Pv

section
variable {n e:Nat} {m:List Int}
/-- Lists of codes of subgroups. -/
structure SgL (n:Nat) (f:Nat→Nat→Nat) (e:Nat) (L:List Nat):Prop where
 nodup:L.Nodup
 subs:∀ x∈L,∃ p,Sub n f e p∧x=bo n p
theorem SgL.len {f:Nat→Nat→Nat} {L:List Nat} (h:SgL n f e L) (hn:n≤24):L.length≤2 ^ n∧2 ^ n≤16777216:=
 ⟨nodup_lt h.nodup fun x hx=>by obtain ⟨p,_,rfl⟩:=h.subs x hx; exact bo_lt n p,Nat.le_trans (Nat.pow_le_pow_right (by omega) hn) (by decide)⟩
theorem SgL.rows {f:Nat→Nat→Nat} {L:List Nat} (h:SgL n f e L) (hn:n≤24):∀ w∈sll L,w.length≤60:=fun w hw=>by
 obtain ⟨x,hx,rfl⟩:=List.mem_map.1 hw
 obtain ⟨p,_,rfl⟩:=h.subs x hx
 rw [stl_bo (by omega)]
 have:=thl_le n p
 omega
theorem SgL.mem {f:Nat→Nat→Nat} {L:List Nat} (h:SgL n f e L) (hn:n≤24) (p:Nat→Bool):thl n p∈sll L↔bo n p∈L:=by
 constructor
 ·intro hm
  obtain ⟨x,hx,hxp⟩:=List.mem_map.1 hm
  obtain ⟨q,_,rfl⟩:=h.subs x hx
  rw [stl_bo (by omega)] at hxp
  have:bo n q=bo n p:=bo_congr fun a ha=>thl_inj hxp ha
  rwa [this] at hx
 ·exact fun hm=>List.mem_map.2 ⟨_,hm,stl_bo (by omega) p⟩
theorem SgL.put {f:Nat→Nat→Nat} {L:List Nat} (h:SgL n f e L) {p:Nat→Bool} (hp:Sub n f e p) (hin:bo n p ∉ L):SgL n f e (L++[bo n p]):=
 ⟨List.nodup_append.2 ⟨h.nodup,by simp,fun x hx y hy he=>by rw [List.mem_singleton] at hy; rw [he,hy] at hx; exact hin hx⟩,fun x hx=>by
  rcases List.mem_append.1 hx with hx | hx
  ·exact h.subs x hx
  ·rw [List.mem_singleton] at hx; exact ⟨p,hp,hx⟩⟩
theorem sll_app (L:List Nat) (p:Nat→Bool) (hn:n≤60):sll (L++[bo n p])=sll L++[thl n p]:=by simp [sll,stl_bo hn]

theorem tst_one (a z:Nat):onp a z=tst [(a:Int)] z:=by
 unfold onp tst
 rw [decide_eq_decide,List.mem_singleton]
 omega
/-- What two lists make is there. -/
def Jn (n:Nat) (f:Nat→Nat→Nat) (e:Nat) (x y:Nat) (M:List Nat):Prop:=∀ p c:Nat→Bool,x=bo n p→y=bo n c→bo n (gn n f e (oru2 p c))∈M
theorem gn_congr {f:Nat→Nat→Nat} {p q:Nat→Bool} (h:∀ a,a < n→p a=q a):bo n (gn n f e p)=bo n (gn n f e q):=bo_congr fun a ha=>by
 rw [Bool.eq_iff_iff,gn_iff _ a ha,gn_iff _ a ha]
 exact Gen.congr h
theorem bo_eq2 {p q:Nat→Bool} (h:bo n p=bo n q):∀ y,y < n→p y=q y:=fun y hy=>by
 have:=congrArg (fun x=>Nat.testBit x y) h
 simpa [bo_bit,hy] using this
theorem Jn.of {f:Nat→Nat→Nat} {x y:Nat} {M:List Nat} {p c:Nat→Bool} (hx:x=bo n p) (hy:y=bo n c) (h:bo n (gn n f e (oru2 p c))∈M):Jn n f e x y M:=fun p' c' h1 h2=>by
 have:bo n (gn n f e (oru2 p' c'))=bo n (gn n f e (oru2 p c)):=gn_congr fun a ha=>by
  unfold oru2
  rw [bo_eq2 (h1.symm.trans hx) a ha,bo_eq2 (h2.symm.trans hy) a ha]
 rw [this]; exact h
theorem Jn.mono {f:Nat→Nat→Nat} {x y:Nat} {M M' : List Nat} (h:Jn n f e x y M) (hs:∀ z∈M,z∈M'):Jn n f e x y M':=fun p c h1 h2=>hs _ (h p c h1 h2)
theorem getD_app {L R:List Nat} {j:Nat} (hj:j < L.length):(L++R).getD j 0=L.getD j 0:=by
 rw [List.getD_eq_getElem?_getD,List.getElem?_append_left hj,← List.getD_eq_getElem?_getD]
theorem SgL.at {f:Nat→Nat→Nat} {L:List Nat} (h:SgL n f e L) (hn:n≤60) {i:Nat} (hi:i < L.length):∃ p,Sub n f e p∧L.getD i 0=bo n p∧(sll L).getD i []=thl n p:=by
 obtain ⟨p,hp,hx⟩:=h.subs _ (getD_memN hi)
 exact ⟨p,hp,hx,by rw [sll_get hi,hx,stl_bo hn]⟩
theorem tst_app (p c:Nat→Bool) {a:Nat} (ha:a < n):tst (thl n p++thl n c) a=oru2 p c a:=by
 unfold tst oru2
 rw [Bool.eq_iff_iff,decide_eq_true_eq,List.mem_append,mem_thl_n ha,mem_thl_n ha,Bool.or_eq_true]
theorem jn_rng (p c:Nat→Bool):∀ x∈thl n p++thl n c,∃ a,a < n∧x=((a:Nat):Int):=fun x hx=>by
 rcases List.mem_append.1 hx with hx | hx
 ·exact thl_rng2 x hx
 ·exact thl_rng2 x hx
theorem set_swp {U:List Nat} {i k:Nat} {p q:Nat→Bool} (hn:n≤60) (hi:U.getD i 0=bo n p) (hk:U.getD k 0=bo n q):opl (ll (sll (swp U i k)))=((opl (ll (sll U))).set i (.p (.list (il (thl n q))))).set k (.p (.list (il (thl n p)))):=by
 unfold swp
 rw [hi,hk]
 simp only [sll,ll,opl,List.map_set,stl_bo hn]
theorem cmp_lsb {v w:List Int} (hl:v.length=w.length) (h:lsb v w=true):cmpL v w < 0:=by
 induction v generalizing w with
 | nil=>cases h
 | cons a r ih =>
  cases w with
  | nil=>simp at hl
  | cons b t =>
   unfold lsb at h
   by_cases hab:a=b
   ·rw [decide_eq_true hab] at h
    exact cmpL_cons_lt.2 (.inr ⟨hab,ih (by simpa using hl) h⟩)
   ·rw [decide_eq_false hab] at h
    exact cmpL_cons_lt.2 (.inl (of_decide_eq_true h))
set_option maxHeartbeats 4000000 in
set_option maxRecDepth 100000 in
theorem subgroups_t (h : GT n m n e) (hn : n ≤ 24) {SL : List Nat} (hS : AllS n (op m n) e SL) : FnC Tryd.prog 74 [gp n m] (.list (ll (sll SL))) := by
  have G := h.2.2
  have hb := h.2.1.big
  have h24 : 2 ^ n ≤ 16777216 := Nat.le_trans (Nat.pow_le_pow_right (by omega) hn) (by decide)
  refine fnc_of tab_ok Tryd.func74 rfl (by kernel_rfl) (by rw [Tryd.ntmps74]; exact Nat.le_add_left 1 _) ?_; rw [Tryd.ntmps74]
  refine qm ?_
  refine hk_region fun K hK => runs_eval tab_ok ?_
  simp only [ev0, evA, evB, evP, fl, gp, tab, simprocAttr, reduceCtorEq, reduceIte]
  refine fin_run ?_ (hK _ ?_) <;> clear hK <;> clear K
  · (first | exact trivial | omega | (simp only [In64] at *; omega) | (simp [In64] at *; omega) | (simp_all; done) | skip)
  refine qa (qm ?_)
  refine hk_region fun K hK => runs_eval tab_ok ?_
  simp only [ev0, evA, evB, evP, fl, gp, tab, simprocAttr, reduceCtorEq, reduceIte]
  refine fin_run ?_ (hK _ ?_) <;> clear hK <;> clear K
  · (first | exact trivial | omega | (simp only [In64] at *; omega) | (simp [In64] at *; omega) | (simp_all; done) | skip)
  refine qa (qm ?_)
  refine hk_own0c 1 0 rfl rfl ?_
  simp only [hset, List.cons_append, List.nil_append, List.set, List.length_cons, List.length_nil]
  refine hk_region fun K hK => runs_eval tab_ok ?_
  simp only [ev0, evA, evB, evP, fl, gp, tab, simprocAttr, reduceCtorEq, reduceIte]
  refine fin_stop ?_ (runs_op (mkCl_does rfl rfl) rfl (by simp only [dstOk, Nat.reduceLT]) (runs_eval tab_ok ?_))
  · (first | exact trivial | omega | (simp only [In64] at *; omega) | (simp [In64] at *; omega) | (simp_all; done) | skip)
  simp only [ev0, evA, evB, evP, fl, gp, tab, simprocAttr, reduceCtorEq, reduceIte]
  refine fin_run ?_ (hK _ ?_) <;> clear hK <;> clear K
  · (first | exact trivial | omega | (simp only [In64] at *; omega) | (simp [In64] at *; omega) | (simp_all; done) | skip)
  refine qa (qm (qm ?_))
  refine hk_region fun K hK => runs_eval tab_ok ?_
  simp only [ev0, evA, evB, evP, fl, gp, tab, simprocAttr, reduceCtorEq, reduceIte]
  refine fin_run trivial (hK _ ?_) <;> clear hK <;> clear K
  refine qa (ql ?_)
  refine hk_loop (ι := Nat × List Nat) (fun p => ⟨125, [(1, .ptr 0 0), (3, .ptr 1 0), (4, .cl 125 [.ptr 1 0]), (5, .p (.int .i64 p.1))], [.own [.p (.int .i64 n), .p (.list (il m))], .own [.sl 2 0 (sll p.2).length], .own (opl (ll (sll p.2)))]⟩) (fun p => p.1 ≤ n ∧ SgL n (op m n) e p.2 ∧ ∀ b, b < p.1 → bo n (cyg n (op m n) e b) ∈ p.2) (fun p => n - p.1) (0, []) ⟨Nat.zero_le _, ⟨List.nodup_nil, by simp⟩, fun b hb => absurd hb (Nat.not_lt_zero _)⟩ [0, 1, 2] (by simp only [leq, leA, ev0, evA, evB, evP, fl, gp, tab, simprocAttr, reduceCtorEq, reduceIte] <;> first | trivial | simp [sll, ll, opl]) fun p hp => ?_
  obtain ⟨a, L⟩ := p
  obtain ⟨ha, hI, hD⟩ := hp
  simp only at ha hI hD
  have hlen := hI.len hn
  have hsl := sll_len L
  refine qm (qm ?_)
  refine hk_region fun K hK => runs_eval tab_ok ?_
  simp only [ev0, evA, evB, evP, fl, gp, tab, simprocAttr, reduceCtorEq, reduceIte]
  refine fin_run ?_ (hK _ ?_) <;> clear hK <;> clear K
  · (first | exact trivial | omega | (simp only [In64] at *; omega) | (simp [In64] at *; omega) | (simp_all; done) | skip)
  refine qa ?_
  refine hk_cond rfl (fun hC1 => ?_) (fun hC1 => ?_)
  · (try simp only [nhs] at hC1)
    have hal : a < n := by omega
    have hcs := cyg_sub G a
    have hlc := thl_le n (cyg n (op m n) e a)
    refine qh (qa (qm (ql ?_)))
    by_cases hin : bo n (cyg n (op m n) e a) ∈ L
    · refine hk_region fun K hK => runs_eval tab_ok ?_
      simp only [ev0, evA, evB, evP, fl, gp, tab, simprocAttr, reduceCtorEq, reduceIte]
      refine fin_stop ?_ (runs_call (FnC.sub (args' := [gp n m, .nn (il [(a : Int)])]) (span_c h [(a : Int)] (by simp) (fun x hx => ⟨a, hal, by simpa using hx⟩) (cyg n (op m n) e a) (fun y hy => by rw [cyg_iff y hy]; exact Gen.congr fun z _ => tst_one a z)) (And.intro (.same _) (And.intro (.nn _) trivial))) rfl rfl rfl (by simp only [dstOk, Nat.reduceLT]) (by repeat (first | exact trivial | constructor)) (runs_eval tab_ok ?_))
      · (first | exact trivial | omega | (simp only [In64] at *; omega) | (simp [In64] at *; omega) | (simp_all; done) | skip)
      simp only [ev0, evA, evB, evP, fl, gp, tab, simprocAttr, reduceCtorEq, reduceIte]
      refine fin_stop ?_ (runs_callMc [1, 2] (add_in (sll L) (thl n (cyg n (op m n) e a)) (by omega) (hI.rows hn) ((hI.mem hn _).2 hin)) rfl rfl ?_ (by simp only [leA, ev0, evA, evB, evP, fl, gp, tab, simprocAttr, reduceCtorEq, reduceIte]; first | trivial | (simp only [ll_takeL]; first | trivial | (repeat constructor; done)) | (repeat constructor)) (by decide) (by first | rfl | (simp only [List.length_cons, List.length_nil, List.length_append]; decide)) (by first | rfl | (simp only [scM, opl_sc, List.all_cons, List.all_nil, List.length_cons, List.length_nil]; first | rfl | decide) | (simp [scM, scA, sc1, mpKeep, notAnc]; done)) (by simp only [dstOk, Nat.reduceLT]) (runs_eval tab_ok ?_))
      · (first | exact trivial | omega | (simp only [In64] at *; omega) | (simp [In64] at *; omega) | (simp_all; done) | skip)
      · (simp only [argsM, argM1, peekG, peekS, scA, sc1, ren, ren1, List.map_cons, List.map_nil, List.append_nil, List.cons_append, List.nil_append, enA, ev0, evA, evB, evP, fl, gp, tab, simprocAttr, reduceCtorEq, reduceIte]; try trivial)
      simp only [putM, hset, List.range', Blk.ren, ren, ren1, List.map_cons, List.map_nil, List.cons_append, List.nil_append, List.append_nil, List.length_cons, List.length_nil, ev0, evA, evB, evP, fl, gp, tab, simprocAttr, reduceCtorEq, reduceIte]
      refine fin_run ?_ (hK _ ?_) <;> clear hK <;> clear K
      · (first | exact trivial | omega | (simp only [In64] at *; omega) | (simp [In64] at *; omega) | (simp_all; done) | skip)
      refine qd (qa ?_)
      refine hk_region fun K hK => runs_eval tab_ok ?_
      simp only [ev0, evA, evB, evP, fl, gp, tab, simprocAttr, reduceCtorEq, reduceIte]
      refine fin_run ?_ (hK _ ?_) <;> clear hK <;> clear K
      · (first | exact trivial | omega | (simp only [In64] at *; omega) | (simp [In64] at *; omega) | (simp_all; done) | skip)
      refine qa ?_
      refine ⟨(a + 1, L), [0, 1, 2], ⟨show a + 1 ≤ n by omega, hI, fun b hb2 => ?_⟩, show n - (a + 1) < n - a by omega, ?_⟩
      · by_cases hba : b = a
        · rw [hba]; exact hin
        · exact hD b (by have : b < a + 1 := hb2
                         omega)
      · simp only [leq, leA, ev0, evA, evB, evP, fl, gp, tab, simprocAttr, reduceCtorEq, reduceIte, ll_takeL] <;> first | trivial | omega
    · refine hk_region fun K hK => runs_eval tab_ok ?_
      simp only [ev0, evA, evB, evP, fl, gp, tab, simprocAttr, reduceCtorEq, reduceIte]
      refine fin_stop ?_ (runs_call (FnC.sub (args' := [gp n m, .nn (il [(a : Int)])]) (span_c h [(a : Int)] (by simp) (fun x hx => ⟨a, hal, by simpa using hx⟩) (cyg n (op m n) e a) (fun y hy => by rw [cyg_iff y hy]; exact Gen.congr fun z _ => tst_one a z)) (And.intro (.same _) (And.intro (.nn _) trivial))) rfl rfl rfl (by simp only [dstOk, Nat.reduceLT]) (by repeat (first | exact trivial | constructor)) (runs_eval tab_ok ?_))
      · (first | exact trivial | omega | (simp only [In64] at *; omega) | (simp [In64] at *; omega) | (simp_all; done) | skip)
      simp only [ev0, evA, evB, evP, fl, gp, tab, simprocAttr, reduceCtorEq, reduceIte]
      refine fin_stop ?_ (runs_callMc [1, 2] (add_new (sll L) (thl n (cyg n (op m n) e a)) (by omega) (hI.rows hn) (fun hh => hin ((hI.mem hn _).1 hh))) rfl rfl ?_ (by simp only [leA, ev0, evA, evB, evP, fl, gp, tab, simprocAttr, reduceCtorEq, reduceIte]; first | trivial | (simp only [ll_takeL]; first | trivial | (repeat constructor; done)) | (repeat constructor)) (by decide) (by first | rfl | (simp only [List.length_cons, List.length_nil, List.length_append]; decide)) (by first | rfl | (simp only [scM, opl_sc, List.all_cons, List.all_nil, List.length_cons, List.length_nil]; first | rfl | decide) | (simp [scM, scA, sc1, mpKeep, notAnc]; done)) (by simp only [dstOk, Nat.reduceLT]) (runs_eval tab_ok ?_))
      · (first | exact trivial | omega | (simp only [In64] at *; omega) | (simp [In64] at *; omega) | (simp_all; done) | skip)
      · (simp only [argsM, argM1, peekG, peekS, scA, sc1, ren, ren1, List.map_cons, List.map_nil, List.append_nil, List.cons_append, List.nil_append, enA, ev0, evA, evB, evP, fl, gp, tab, simprocAttr, reduceCtorEq, reduceIte]; try trivial)
      simp only [putM, hset, List.range', Blk.ren, ren, ren1, List.map_cons, List.map_nil, List.cons_append, List.nil_append, List.append_nil, List.length_cons, List.length_nil, ev0, evA, evB, evP, fl, gp, tab, simprocAttr, reduceCtorEq, reduceIte]
      refine fin_run ?_ (hK _ ?_) <;> clear hK <;> clear K
      · (first | exact trivial | omega | (simp only [In64] at *; omega) | (simp [In64] at *; omega) | (simp_all; done) | skip)
      refine qd (qa ?_)
      refine hk_region fun K hK => runs_eval tab_ok ?_
      simp only [ev0, evA, evB, evP, fl, gp, tab, simprocAttr, reduceCtorEq, reduceIte]
      refine fin_run ?_ (hK _ ?_) <;> clear hK <;> clear K
      · (first | exact trivial | omega | (simp only [In64] at *; omega) | (simp [In64] at *; omega) | (simp_all; done) | skip)
      refine qa ?_
      refine ⟨(a + 1, L ++ [bo n (cyg n (op m n) e a)]), [0, 1, 3], ⟨show a + 1 ≤ n by omega, hI.put hcs hin, fun b hb2 => ?_⟩, show n - (a + 1) < n - a by omega, ?_⟩
      · by_cases hba : b = a
        · rw [hba]; simp
        · exact List.mem_append_left _ (hD b (by have : b < a + 1 := hb2
                                                 omega))
      · rw [sll_app L _ hb]
        simp only [leq, leA, ev0, evA, evB, evP, fl, gp, tab, simprocAttr, reduceCtorEq, reduceIte, ll_takeL, ll_snoc, ll_takeS] <;> first | trivial | omega | (simp; done)
  · (try simp only [nhs] at hC1)
    have han : a = n := by omega
    subst han
    refine qj (qc (qc (qf (qa (qm ?_)))))
    refine hk_region fun K hK => runs_eval tab_ok ?_
    simp only [ev0, evA, evB, evP, fl, gp, tab, simprocAttr, reduceCtorEq, reduceIte]
    refine fin_run ?_ (hK _ ?_) <;> clear hK <;> clear K
    · (first | exact trivial | omega | (simp only [In64] at *; omega) | (simp [In64] at *; omega) | (simp_all; done) | skip)
    refine qa (qm (qm ?_))
    refine hk_region fun K hK => runs_eval tab_ok ?_
    simp only [ev0, evA, evB, evP, fl, gp, tab, simprocAttr, reduceCtorEq, reduceIte]
    refine fin_run trivial (hK _ ?_) <;> clear hK <;> clear K
    refine qa (ql ?_)
    refine hk_loop (ι := Nat × List Nat) (fun p => ⟨125, [(1, .ptr 0 0), (3, .ptr 1 0), (4, .cl 125 [.ptr 1 0]), (6, .p (.int .i64 (sll L).length)), (7, .p (.int .i64 p.1))], [.own [.p (.int .i64 a), .p (.list (il m))], .own [.sl 2 0 (sll p.2).length], .own (opl (ll (sll p.2)))]⟩) (fun p => p.1 ≤ p.2.length ∧ SgL a (op m a) e p.2 ∧ (∃ R, p.2 = L ++ R) ∧ ∀ j, j < p.1 → ∀ k, k < L.length → Jn a (op m a) e (p.2.getD j 0) (L.getD k 0) p.2) (fun p => 2 ^ a - p.1) (0, L) ⟨Nat.zero_le _, hI, ⟨[], by simp⟩, fun j hj => absurd hj (Nat.not_lt_zero _)⟩ [0, 1, 2] (by simp only [leq, leA, ev0, evA, evB, evP, fl, gp, tab, simprocAttr, reduceCtorEq, reduceIte, ll_takeL] <;> first | trivial | omega) fun p hp => ?_
    obtain ⟨i, M⟩ := p
    obtain ⟨hi, hM, ⟨R, hR⟩, hJ⟩ := hp
    simp only at hi hM hR hJ
    have hMlen := hM.len hn
    have hMl := sll_len M
    refine qm (qm ?_)
    refine hk_region fun K hK => runs_eval tab_ok ?_
    simp only [ev0, evA, evB, evP, fl, gp, tab, simprocAttr, reduceCtorEq, reduceIte]
    refine fin_run ?_ (hK _ ?_) <;> clear hK <;> clear K
    · (first | exact trivial | omega | (simp only [In64] at *; omega) | (simp [In64] at *; omega) | (simp_all; done) | skip)
    refine qa ?_
    refine hk_cond rfl (fun hC2 => ?_) (fun hC2 => ?_)
    · (try simp only [nhs] at hC2)
      have hil : i < M.length := by omega
      refine qh (qa (qm (ql (qm ?_))))
      refine hk_region fun K hK => runs_eval tab_ok ?_
      simp only [ev0, evA, evB, evP, fl, gp, tab, simprocAttr, reduceCtorEq, reduceIte]
      refine fin_run trivial (hK _ ?_) <;> clear hK <;> clear K
      refine qa (ql ?_)
      refine hk_loop (ι := Nat × List Nat) (fun p => ⟨125, [(1, .ptr 0 0), (3, .ptr 1 0), (4, .cl 125 [.ptr 1 0]), (6, .p (.int .i64 (sll L).length)), (7, .p (.int .i64 i)), (8, .p (.int .i64 p.1))], [.own [.p (.int .i64 a), .p (.list (il m))], .own [.sl 2 0 (sll p.2).length], .own (opl (ll (sll p.2)))]⟩) (fun p => p.1 ≤ L.length ∧ i < p.2.length ∧ SgL a (op m a) e p.2 ∧ (∃ R, p.2 = L ++ R) ∧ (∀ j, j < i → ∀ k, k < L.length → Jn a (op m a) e (p.2.getD j 0) (L.getD k 0) p.2) ∧ ∀ k, k < p.1 → Jn a (op m a) e (p.2.getD i 0) (L.getD k 0) p.2) (fun p => L.length - p.1) (0, M) ⟨Nat.zero_le _, hil, hM, ⟨R, hR⟩, hJ, fun k hk => absurd hk (Nat.not_lt_zero _)⟩ [0, 1, 2] (by simp only [leq, leA, ev0, evA, evB, evP, fl, gp, tab, simprocAttr, reduceCtorEq, reduceIte, ll_takeL] <;> first | trivial | omega) fun p hp => ?_
      obtain ⟨k, W⟩ := p
      obtain ⟨hk, hiW, hW, ⟨RW, hRW⟩, hJW, hJk⟩ := hp
      simp only at hk hiW hW hRW hJW hJk
      have hWlen := hW.len hn
      have hWl := sll_len W
      refine qm (qm ?_)
      refine hk_region fun K hK => runs_eval tab_ok ?_
      simp only [ev0, evA, evB, evP, fl, gp, tab, simprocAttr, reduceCtorEq, reduceIte]
      refine fin_run trivial (hK _ ?_) <;> clear hK <;> clear K
      refine qa ?_
      refine hk_cond rfl (fun hC3 => ?_) (fun hC3 => ?_)
      · (try simp only [nhs] at hC3)
        have hkl : k < L.length := by omega
        have hkW : k < W.length := by rw [hRW, List.length_append]; omega
        obtain ⟨pi, hpi, hvi, hri⟩ := hW.at hb hiW
        obtain ⟨pk, hpk, hvk, hrk⟩ := hW.at hb hkW
        have hvL : L.getD k 0 = bo a pk := by rw [← hvk, hRW, getD_app hkl]
        have hgi := fun d => oll_get (ls := sll W) (i := i) (by omega) d
        have hgk := fun d => oll_get (ls := sll W) (i := k) (by omega) d
        rw [hri] at hgi
        rw [hrk] at hgk
        have hli := thl_le a pi
        have hlk := thl_le a pk
        refine qh (qa (qm (ql (qm ?_))))
        refine hk_draw mixed (by kernel_rfl) fun K hK => runs_eval tab_ok ?_
        simp only [ev0, evA, evB, evP, fl, gp, tab, simprocAttr, reduceCtorEq, reduceIte, hgi, hgk, ll_length]
        refine fin_stop ?_ (runs_call (parted_r a pk pi hb (decide (∀ y, y < a → pk y = true → pi y = true)) decide_eq_true_iff) rfl rfl rfl (by simp only [dstOk, Nat.reduceLT]) (by repeat (first | exact trivial | constructor)) (runs_eval tab_ok ?_))
        · (first | exact trivial | omega | (simp only [In64] at *; omega) | (simp [In64] at *; omega) | (simp_all; done) | skip)
        simp only [ev0, evA, evB, evP, fl, gp, tab, simprocAttr, reduceCtorEq, reduceIte, hgi, hgk, ll_length]
        refine fin_run ?_ (hK _ ?_) <;> clear hK <;> clear K
        · (first | exact trivial | omega | (simp only [In64] at *; omega) | (simp [In64] at *; omega) | (simp_all; done) | skip)
        refine qa ?_
        refine hk_cond rfl (fun hC4 => ?_) (fun hC4 => ?_)
        · (try simp only [nhs] at hC4)
          by_cases hin : bo a (gn a (op m a) e (oru2 pi pk)) ∈ W
          · have hrng := jn_rng (n := a) pi pk
            refine hk_draw2L 13 mixed (by kernel_rfl) fun K hK K2 hK2 => runs2_eval tab_ok ?_
            simp only [List.take_succ_cons, List.take_zero, List.drop_succ_cons, List.drop_zero]
            simp only [evD, ev0, evA, evB, evP, fl, gp, tab, simprocAttr, reduceCtorEq, reduceIte, hgi, hgk, ll_length, il_length]
            refine fin2_stop ?_ (runs2_appendNil tab_ok rfl rfl rfl ⟨rfl, rfl⟩ rfl rfl rfl (by simp only [dstOk, Nat.reduceLT]) (il_all _) ?_ (runs2_eval tab_ok ?_))
            · (first | exact trivial | omega | (simp only [In64] at *; omega) | (simp [In64] at *; omega) | (simp_all; done) | skip)
            · refine ⟨?_, ?_⟩
              · rw [il_length]; show _ * 8 ≤ _; omega
              · rw [il_length]; omega
            simp only [evD, ev0, evA, evB, evP, fl, gp, tab, simprocAttr, reduceCtorEq, reduceIte, hgi, hgk, ll_length, il_length]
            refine fin2_stop ?_ (runs2_callK 4 (span_c h (thl a pi ++ thl a pk) (by rw [List.length_append]; omega) hrng (gn a (op m a) e (oru2 pi pk)) (fun y hy => by rw [gn_iff _ y hy]; exact Gen.congr fun z hz => (tst_app pi pk hz).symm)) rfl rfl (by rw [ol_opl, opl_append, il_append]; exact opl_allP _) (by simp only [callA, List.map_cons, List.map_nil, enA, ev0, evA, evB, evP, fl, gp, tab, simprocAttr, reduceCtorEq, reduceIte, List.drop_zero, il_append, il_take, take_app2, il_length, il_all]; rfl) rfl (by simp only [dstOk, Nat.reduceLT]) (by repeat (first | exact trivial | (simp [il_length, List.length_append]; done) | constructor)) (runs2_eval tab_ok ?_))
            · refine ⟨⟨⟨by omega, by omega⟩, by omega⟩, opl_ok (il_all _), Nat.le_refl _, by omega, by omega⟩
            (try simp only [evD, ev0, evA, evB, evP, fl, gp, tab, simprocAttr, reduceCtorEq, reduceIte, hgi, hgk, ll_length, il_length])
            refine fin2_run ?_ (hK2 _ _ (by first | kernel_rfl | rfl) ?_) <;> clear hK2 <;> clear K2
            · (first | exact trivial | omega | (simp only [In64] at *; omega) | (simp [In64] at *; omega) | (simp_all; done) | skip)
            simp only [List.take_succ_cons, List.take_zero, List.drop_succ_cons, List.drop_zero]
            refine runs_eval tab_ok ?_
            (try simp only [ev0, evA, evB, evP, fl, gp, tab, simprocAttr, reduceCtorEq, reduceIte])
            refine fin_stop ?_ (runs_callMc [1, 2] (add_in (sll W) (thl a (gn a (op m a) e (oru2 pi pk))) (by omega) (hW.rows hn) ((hW.mem hn _).2 hin)) rfl rfl ?_ (by simp only [leA, ev0, evA, evB, evP, fl, gp, tab, simprocAttr, reduceCtorEq, reduceIte]; first | trivial | (simp only [ll_takeL]; first | trivial | (repeat constructor; done)) | (repeat constructor)) (by decide) (by first | rfl | (simp only [List.length_cons, List.length_nil, List.length_append]; decide)) (by first | rfl | (simp only [scM, opl_sc, List.all_cons, List.all_nil, List.length_cons, List.length_nil]; first | rfl | decide) | (simp [scM, scA, sc1, mpKeep, notAnc]; done)) (by simp only [dstOk, Nat.reduceLT]) (runs_eval tab_ok ?_))
            · (first | exact trivial | omega | (simp only [In64] at *; omega) | (simp [In64] at *; omega) | (simp_all; done) | skip)
            · (simp only [argsM, argM1, peekG, peekS, scA, sc1, ren, ren1, List.map_cons, List.map_nil, List.append_nil, List.cons_append, List.nil_append, enA, ev0, evA, evB, evP, fl, gp, tab, simprocAttr, reduceCtorEq, reduceIte]; try trivial)
            simp only [putM, hset, List.range', Blk.ren, ren, ren1, List.map_cons, List.map_nil, List.cons_append, List.nil_append, List.append_nil, List.length_cons, List.length_nil, ev0, evA, evB, evP, fl, gp, tab, simprocAttr, reduceCtorEq, reduceIte]
            refine fin_run ?_ (hK _ ?_) <;> clear hK <;> clear K
            · (first | exact trivial | omega | (simp only [In64] at *; omega) | (simp [In64] at *; omega) | (simp_all; done) | skip)
            refine qd (qa ?_)
            refine hk_region fun K hK => runs_eval tab_ok ?_
            simp only [ev0, evA, evB, evP, fl, gp, tab, simprocAttr, reduceCtorEq, reduceIte]
            refine fin_run ?_ (hK _ ?_) <;> clear hK <;> clear K
            · (first | exact trivial | omega | (simp only [In64] at *; omega) | (simp [In64] at *; omega) | (simp_all; done) | skip)
            refine qa ?_
            refine ⟨(k + 1, W), [0, 1, 2], ⟨show k + 1 ≤ L.length by omega, hiW, hW, ⟨RW, hRW⟩, hJW, fun k' hk' => ?_⟩, show L.length - (k + 1) < L.length - k by omega, ?_⟩
            · by_cases hkk : k' = k
              · rw [hkk]; exact Jn.of hvi hvL hin
              · exact hJk k' (by have : k' < k + 1 := hk'
                                 omega)
            · simp only [leq, leA, ev0, evA, evB, evP, fl, gp, tab, simprocAttr, reduceCtorEq, reduceIte, ll_takeL] <;> first | trivial | omega
          · have hrng := jn_rng (n := a) pi pk
            refine hk_draw2L 13 mixed (by kernel_rfl) fun K hK K2 hK2 => runs2_eval tab_ok ?_
            simp only [List.take_succ_cons, List.take_zero, List.drop_succ_cons, List.drop_zero]
            simp only [evD, ev0, evA, evB, evP, fl, gp, tab, simprocAttr, reduceCtorEq, reduceIte, hgi, hgk, ll_length, il_length]
            refine fin2_stop ?_ (runs2_appendNil tab_ok rfl rfl rfl ⟨rfl, rfl⟩ rfl rfl rfl (by simp only [dstOk, Nat.reduceLT]) (il_all _) ?_ (runs2_eval tab_ok ?_))
            · (first | exact trivial | omega | (simp only [In64] at *; omega) | (simp [In64] at *; omega) | (simp_all; done) | skip)
            · refine ⟨?_, ?_⟩
              · rw [il_length]; show _ * 8 ≤ _; omega
              · rw [il_length]; omega
            simp only [evD, ev0, evA, evB, evP, fl, gp, tab, simprocAttr, reduceCtorEq, reduceIte, hgi, hgk, ll_length, il_length]
            refine fin2_stop ?_ (runs2_callK 4 (span_c h (thl a pi ++ thl a pk) (by rw [List.length_append]; omega) hrng (gn a (op m a) e (oru2 pi pk)) (fun y hy => by rw [gn_iff _ y hy]; exact Gen.congr fun z hz => (tst_app pi pk hz).symm)) rfl rfl (by rw [ol_opl, opl_append, il_append]; exact opl_allP _) (by simp only [callA, List.map_cons, List.map_nil, enA, ev0, evA, evB, evP, fl, gp, tab, simprocAttr, reduceCtorEq, reduceIte, List.drop_zero, il_append, il_take, take_app2, il_length, il_all]; rfl) rfl (by simp only [dstOk, Nat.reduceLT]) (by repeat (first | exact trivial | (simp [il_length, List.length_append]; done) | constructor)) (runs2_eval tab_ok ?_))
            · refine ⟨⟨⟨by omega, by omega⟩, by omega⟩, opl_ok (il_all _), Nat.le_refl _, by omega, by omega⟩
            (try simp only [evD, ev0, evA, evB, evP, fl, gp, tab, simprocAttr, reduceCtorEq, reduceIte, hgi, hgk, ll_length, il_length])
            refine fin2_run ?_ (hK2 _ _ (by first | kernel_rfl | rfl) ?_) <;> clear hK2 <;> clear K2
            · (first | exact trivial | omega | (simp only [In64] at *; omega) | (simp [In64] at *; omega) | (simp_all; done) | skip)
            simp only [List.take_succ_cons, List.take_zero, List.drop_succ_cons, List.drop_zero]
            refine runs_eval tab_ok ?_
            (try simp only [ev0, evA, evB, evP, fl, gp, tab, simprocAttr, reduceCtorEq, reduceIte])
            refine fin_stop ?_ (runs_callMc [1, 2] (add_new (sll W) (thl a (gn a (op m a) e (oru2 pi pk))) (by omega) (hW.rows hn) (fun hh => hin ((hW.mem hn _).1 hh))) rfl rfl ?_ (by simp only [leA, ev0, evA, evB, evP, fl, gp, tab, simprocAttr, reduceCtorEq, reduceIte]; first | trivial | (simp only [ll_takeL]; first | trivial | (repeat constructor; done)) | (repeat constructor)) (by decide) (by first | rfl | (simp only [List.length_cons, List.length_nil, List.length_append]; decide)) (by first | rfl | (simp only [scM, opl_sc, List.all_cons, List.all_nil, List.length_cons, List.length_nil]; first | rfl | decide) | (simp [scM, scA, sc1, mpKeep, notAnc]; done)) (by simp only [dstOk, Nat.reduceLT]) (runs_eval tab_ok ?_))
            · (first | exact trivial | omega | (simp only [In64] at *; omega) | (simp [In64] at *; omega) | (simp_all; done) | skip)
            · (simp only [argsM, argM1, peekG, peekS, scA, sc1, ren, ren1, List.map_cons, List.map_nil, List.append_nil, List.cons_append, List.nil_append, enA, ev0, evA, evB, evP, fl, gp, tab, simprocAttr, reduceCtorEq, reduceIte]; try trivial)
            simp only [putM, hset, List.range', Blk.ren, ren, ren1, List.map_cons, List.map_nil, List.cons_append, List.nil_append, List.append_nil, List.length_cons, List.length_nil, ev0, evA, evB, evP, fl, gp, tab, simprocAttr, reduceCtorEq, reduceIte]
            refine fin_run ?_ (hK _ ?_) <;> clear hK <;> clear K
            · (first | exact trivial | omega | (simp only [In64] at *; omega) | (simp [In64] at *; omega) | (simp_all; done) | skip)
            refine qd (qa ?_)
            refine hk_region fun K hK => runs_eval tab_ok ?_
            simp only [ev0, evA, evB, evP, fl, gp, tab, simprocAttr, reduceCtorEq, reduceIte]
            refine fin_run ?_ (hK _ ?_) <;> clear hK <;> clear K
            · (first | exact trivial | omega | (simp only [In64] at *; omega) | (simp [In64] at *; omega) | (simp_all; done) | skip)
            refine qa ?_
            have hsub : ∀ z ∈ W, z ∈ W ++ [bo a (gn a (op m a) e (oru2 pi pk))] := fun z hz => List.mem_append_left _ hz
            refine ⟨(k + 1, W ++ [bo a (gn a (op m a) e (oru2 pi pk))]), [0, 1, 5], ⟨show k + 1 ≤ L.length by omega, show i < (W ++ [bo a (gn a (op m a) e (oru2 pi pk))]).length by rw [List.length_append]; omega, hW.put (gen_sub G (gn_iff _)) hin, ⟨RW ++ [bo a (gn a (op m a) e (oru2 pi pk))], by rw [show (k + 1, W ++ [bo a (gn a (op m a) e (oru2 pi pk))]).2 = W ++ [bo a (gn a (op m a) e (oru2 pi pk))] from rfl]; conv => { lhs; rw [hRW] }; rw [List.append_assoc]⟩, fun j hj k' hk' => ?_, fun k' hk' => ?_⟩, show L.length - (k + 1) < L.length - k by omega, ?_⟩
            · show Jn a (op m a) e ((W ++ [_]).getD j 0) _ _
              rw [getD_snoc (by omega)]
              exact (hJW j hj k' hk').mono hsub
            · show Jn a (op m a) e ((W ++ [_]).getD i 0) _ _
              rw [getD_snoc hiW]
              by_cases hkk : k' = k
              · rw [hkk]; exact Jn.of hvi hvL (by simp)
              · exact (hJk k' (by have : k' < k + 1 := hk'
                                  omega)).mono hsub
            · rw [show sll (k + 1, W ++ [bo a (gn a (op m a) e (oru2 pi pk))]).2 = sll W ++ [thl a (gn a (op m a) e (oru2 pi pk))] from sll_app W _ hb]
              simp only [leq, leA, ev0, evA, evB, evP, fl, gp, tab, simprocAttr, reduceCtorEq, reduceIte, ll_takeL, ll_snoc, ll_takeS] <;> first | trivial | omega | (simp; done)
        · (try simp only [nhs] at hC4)
          refine qh (qd (qa ?_))
          refine hk_region fun K hK => runs_eval tab_ok ?_
          simp only [ev0, evA, evB, evP, fl, gp, tab, simprocAttr, reduceCtorEq, reduceIte]
          refine fin_run ?_ (hK _ ?_) <;> clear hK <;> clear K
          · (first | exact trivial | omega | (simp only [In64] at *; omega) | (simp [In64] at *; omega) | (simp_all; done) | skip)
          refine qa ?_
          refine ⟨(k + 1, W), [0, 1, 2], ⟨show k + 1 ≤ L.length by omega, hiW, hW, ⟨RW, hRW⟩, hJW, fun k' hk' => ?_⟩, show L.length - (k + 1) < L.length - k by omega, ?_⟩
          · by_cases hkk : k' = k
            · rw [hkk]
              refine Jn.of hvi hvL ?_
              rw [join_in G hpi hC4, ← hvi]
              exact getD_memN hiW
            · exact hJk k' (by have : k' < k + 1 := hk'
                               omega)
          · simp only [leq, leA, ev0, evA, evB, evP, fl, gp, tab, simprocAttr, reduceCtorEq, reduceIte, ll_takeL] <;> first | trivial | omega
      · (try simp only [nhs] at hC3)
        have hkn : k = L.length := by omega
        refine qj (qc (qc (qf (qd (qa ?_)))))
        refine hk_region fun K hK => runs_eval tab_ok ?_
        simp only [ev0, evA, evB, evP, fl, gp, tab, simprocAttr, reduceCtorEq, reduceIte]
        refine fin_run ?_ (hK _ ?_) <;> clear hK <;> clear K
        · (first | exact trivial | omega | (simp only [In64] at *; omega) | (simp [In64] at *; omega) | (simp_all; done) | skip)
        refine qa ?_
        refine ⟨(i + 1, W), [0, 1, 2], ⟨show i + 1 ≤ W.length by omega, hW, ⟨RW, hRW⟩, fun j hj k' hk' => ?_⟩, show 2 ^ a - (i + 1) < 2 ^ a - i by omega, ?_⟩
        · by_cases hji : j = i
          · rw [hji]; exact hJk k' (by omega)
          · exact hJW j (by have : j < i + 1 := hj
                            omega) k' hk'
        · simp only [leq, leA, ev0, evA, evB, evP, fl, gp, tab, simprocAttr, reduceCtorEq, reduceIte, ll_takeL] <;> first | trivial | omega
    · (try simp only [nhs] at hC2)
      have hin : i = M.length := by omega
      have hall : AllI a (op m a) e M := ⟨hM.nodup, hM.subs, by
        rw [← bo_congr (cyg_one G), hR]
        exact List.mem_append_left _ (hD e G.el)⟩
      have hperm := hS.perm G hall fun x hx b hbl => by
        obtain ⟨j, hj, rfl⟩ := mem_getDN hx
        obtain ⟨p, hp, hxp⟩ := hM.subs _ (getD_memN hj)
        obtain ⟨k, hk, hkb⟩ := mem_getDN (hD b hbl)
        exact join_dn G hbl hxp (hJ j (by omega) k hk p _ hxp hkb)
      refine qj (qc (qc (qf (qa (qm (qm ?_))))))
      refine hk_region fun K hK => runs_eval tab_ok ?_
      simp only [ev0, evA, evB, evP, fl, gp, tab, simprocAttr, reduceCtorEq, reduceIte]
      refine fin_run trivial (hK _ ?_) <;> clear hK <;> clear K
      refine qa (ql ?_)
      refine hk_loop (ι := Nat × List Nat) (fun p => ⟨125, [(3, .ptr 0 0), (9, .p (.int .i64 p.1))], [.own [.sl 1 0 (sll p.2).length], .own (opl (ll (sll p.2)))]⟩) (fun p => p.1 ≤ p.2.length ∧ p.2.Perm SL ∧ OrdI p.1 (p.1 + 1) p.2) (fun p => p.2.length - p.1) (0, M) ⟨Nat.zero_le _, hperm, ⟨fun a b h1 => absurd h1 (Nat.not_lt_zero _), fun b h1 h2 => by have : b < 0 + 1 := h2; omega⟩⟩ [1, 2] (by simp only [leq, leA, ev0, evA, evB, evP, fl, gp, tab, simprocAttr, reduceCtorEq, reduceIte, ll_takeL] <;> first | trivial | omega) fun p hp => ?_
      obtain ⟨i2, V⟩ := p
      obtain ⟨hi2, hVp, hVo⟩ := hp
      simp only at hi2 hVp hVo
      have hVl := sll_len V
      have hVs : SgL a (op m a) e V := ⟨hVp.symm.nodup hS.nodup, fun x hx => hS.subs x (hVp.subset hx)⟩
      have hVlen := hVs.len hn
      refine qm (qm ?_)
      refine hk_region fun K hK => runs_eval tab_ok ?_
      simp only [ev0, evA, evB, evP, fl, gp, tab, simprocAttr, reduceCtorEq, reduceIte]
      refine fin_run ?_ (hK _ ?_) <;> clear hK <;> clear K
      · (first | exact trivial | omega | (simp only [In64] at *; omega) | (simp [In64] at *; omega) | (simp_all; done) | skip)
      refine qa ?_
      refine hk_cond rfl (fun hC5 => ?_) (fun hC5 => ?_)
      · (try simp only [nhs] at hC5)
        have hil2 : i2 < V.length := by omega
        refine qh (qa (qm (ql (qm ?_))))
        refine hk_region fun K hK => runs_eval tab_ok ?_
        simp only [ev0, evA, evB, evP, fl, gp, tab, simprocAttr, reduceCtorEq, reduceIte]
        refine fin_run ?_ (hK _ ?_) <;> clear hK <;> clear K
        · (first | exact trivial | omega | (simp only [In64] at *; omega) | (simp [In64] at *; omega) | (simp_all; done) | skip)
        refine qa (ql ?_)
        refine hk_loop (ι := Nat × List Nat) (fun p => ⟨125, [(3, .ptr 0 0), (9, .p (.int .i64 i2)), (10, .p (.int .i64 p.1))], [.own [.sl 1 0 (sll p.2).length], .own (opl (ll (sll p.2)))]⟩) (fun p => i2 < p.1 ∧ p.1 ≤ p.2.length ∧ p.2.length = V.length ∧ p.2.Perm SL ∧ OrdI i2 p.1 p.2) (fun p => p.2.length - p.1) (i2 + 1, V) ⟨Nat.lt_succ_self _, hil2, rfl, hVp, hVo⟩ [0, 1] (by simp only [leq, leA, ev0, evA, evB, evP, fl, gp, tab, simprocAttr, reduceCtorEq, reduceIte, ll_takeL] <;> first | trivial | omega) fun p hp => ?_
        obtain ⟨k2, U⟩ := p
        obtain ⟨hk2, hk3, hUV, hUp, hUo⟩ := hp
        simp only at hk2 hk3 hUV hUp hUo
        have hUl := sll_len U
        have hUs : SgL a (op m a) e U := ⟨hUp.symm.nodup hS.nodup, fun x hx => hS.subs x (hUp.subset hx)⟩
        refine qm (qm ?_)
        refine hk_region fun K hK => runs_eval tab_ok ?_
        simp only [ev0, evA, evB, evP, fl, gp, tab, simprocAttr, reduceCtorEq, reduceIte]
        refine fin_run ?_ (hK _ ?_) <;> clear hK <;> clear K
        · (first | exact trivial | omega | (simp only [In64] at *; omega) | (simp [In64] at *; omega) | (simp_all; done) | skip)
        refine qa ?_
        refine hk_cond rfl (fun hC6 => ?_) (fun hC6 => ?_)
        · (try simp only [nhs] at hC6)
          have hkl2 : k2 < U.length := by omega
          have hiU : i2 < U.length := by omega
          obtain ⟨pi, hpi, hvi, hri⟩ := hUs.at hb hiU
          obtain ⟨pk, hpk, hvk, hrk⟩ := hUs.at hb hkl2
          have hgi := fun d => oll_get (ls := sll U) (i := i2) (by omega) d
          have hgk := fun d => oll_get (ls := sll U) (i := k2) (by omega) d
          rw [hri] at hgi
          rw [hrk] at hgk
          have hli := thl_le a pi
          have hlk := thl_le a pk
          have hlt : lts (U.getD k2 0) (U.getD i2 0) ↔ (thl a pk).length < (thl a pi).length ∨ (thl a pk).length = (thl a pi).length ∧ cmpL (thl a pk) (thl a pi) < 0 := by
            unfold lts
            rw [hvi, hvk, stl_bo hb, stl_bo hb, cmpS_lt]
          refine qh (qa (qm (ql (qm ?_))))
          rcases Nat.lt_trichotomy (thl a pk).length (thl a pi).length with hle | hle | hle
          · refine hk_draw mixed (by kernel_rfl) fun K hK => runs_eval tab_ok ?_
            simp only [ev0, evA, evB, evP, fl, gp, tab, simprocAttr, reduceCtorEq, reduceIte, hgi, hgk, ll_length, il_length, decide_eq_true (show ((thl a pk).length : Int) < ((thl a pi).length : Int) by omega)]
            refine fin_run ?_ (hK _ ?_) <;> clear hK <;> clear K
            · (first | exact trivial | omega | (simp only [In64] at *; omega) | (simp [In64] at *; omega) | (simp_all; done) | skip)
            refine qa ?_
            refine hk_cond rfl (fun hC7 => ?_) (fun hC7 => ?_)
            · refine hk_draw2 mixed fun K hK => runs2_eval tab_ok ?_
              simp only [evD, ev0, evA, evB, evP, fl, gp, tab, simprocAttr, reduceCtorEq, reduceIte, hgi, hgk, ll_length]
              refine fin2_run ?_ (hK _ _ (by first | kernel_rfl | rfl) ?_) <;> clear hK <;> clear K
              · simp only [List.length_set, opl_length, ll_length]; omega
              refine qd (qa ?_)
              refine hk_region fun K hK => runs_eval tab_ok ?_
              simp only [ev0, evA, evB, evP, fl, gp, tab, simprocAttr, reduceCtorEq, reduceIte]
              refine fin_run ?_ (hK _ ?_) <;> clear hK <;> clear K
              · (first | exact trivial | omega | (simp only [In64] at *; omega) | (simp [In64] at *; omega) | (simp_all; done) | skip)
              refine qa ?_
              refine ⟨(k2 + 1, swp U i2 k2), [0, 1], ⟨show i2 < k2 + 1 by omega, show k2 + 1 ≤ (swp U i2 k2).length by rw [swp_len]; omega, (swp_len U i2 k2).trans hUV, (swp_perm hiU hkl2).trans hUp, OrdI.swap hUo hk2 hkl2 (hlt.2 (.inl hle))⟩, show (swp U i2 k2).length - (k2 + 1) < U.length - k2 by rw [swp_len]; omega, ?_⟩
              rw [show sll (k2 + 1, swp U i2 k2).2 = sll (swp U i2 k2) from rfl, ← set_swp (n := a) hb hvi hvk, show (sll U).length = (sll (swp U i2 k2)).length by rw [sll_len, sll_len, swp_len]]
              simp only [leq, leA, ev0, evA, evB, evP, fl, gp, tab, simprocAttr, reduceCtorEq, reduceIte, ll_takeL] <;> first | trivial | omega
            · cases hC7
          · refine hk_draw mixed (by kernel_rfl) fun K hK => runs_eval tab_ok ?_
            simp only [ev0, evA, evB, evP, fl, gp, tab, simprocAttr, reduceCtorEq, reduceIte, hgi, hgk, ll_length, il_length, decide_eq_false (show ¬ ((thl a pk).length : Int) < ((thl a pi).length : Int) by omega), decide_eq_true (show ((thl a pk).length : Int) = ((thl a pi).length : Int) by omega)]
            refine fin_stop ?_ (runs_call (less_r (thl a pk) (thl a pi) (by omega) (by omega)) rfl rfl rfl (by simp only [dstOk, Nat.reduceLT]) (by repeat (first | exact trivial | constructor)) (runs_eval tab_ok ?_))
            · (first | exact trivial | omega | (simp only [In64] at *; omega) | (simp [In64] at *; omega) | (simp_all; done) | skip)
            simp only [ev0, evA, evB, evP, fl, gp, tab, simprocAttr, reduceCtorEq, reduceIte, hgi, hgk, ll_length, il_length, decide_eq_false (show ¬ ((thl a pk).length : Int) < ((thl a pi).length : Int) by omega), decide_eq_true (show ((thl a pk).length : Int) = ((thl a pi).length : Int) by omega)]
            refine fin_run ?_ (hK _ ?_) <;> clear hK <;> clear K
            · (first | exact trivial | omega | (simp only [In64] at *; omega) | (simp [In64] at *; omega) | (simp_all; done) | skip)
            refine qa ?_
            refine hk_cond rfl (fun hC7 => ?_) (fun hC7 => ?_)
            · (try simp only [nhs] at hC7)
              refine hk_draw2 mixed fun K hK => runs2_eval tab_ok ?_
              simp only [evD, ev0, evA, evB, evP, fl, gp, tab, simprocAttr, reduceCtorEq, reduceIte, hgi, hgk, ll_length]
              refine fin2_run ?_ (hK _ _ (by first | kernel_rfl | rfl) ?_) <;> clear hK <;> clear K
              · simp only [List.length_set, opl_length, ll_length]; omega
              refine qd (qa ?_)
              refine hk_region fun K hK => runs_eval tab_ok ?_
              simp only [ev0, evA, evB, evP, fl, gp, tab, simprocAttr, reduceCtorEq, reduceIte]
              refine fin_run ?_ (hK _ ?_) <;> clear hK <;> clear K
              · (first | exact trivial | omega | (simp only [In64] at *; omega) | (simp [In64] at *; omega) | (simp_all; done) | skip)
              refine qa ?_
              refine ⟨(k2 + 1, swp U i2 k2), [0, 1], ⟨show i2 < k2 + 1 by omega, show k2 + 1 ≤ (swp U i2 k2).length by rw [swp_len]; omega, (swp_len U i2 k2).trans hUV, (swp_perm hiU hkl2).trans hUp, OrdI.swap hUo hk2 hkl2 (hlt.2 (.inr ⟨hle, cmp_lsb hle hC7⟩))⟩, show (swp U i2 k2).length - (k2 + 1) < U.length - k2 by rw [swp_len]; omega, ?_⟩
              rw [show sll (k2 + 1, swp U i2 k2).2 = sll (swp U i2 k2) from rfl, ← set_swp (n := a) hb hvi hvk, show (sll U).length = (sll (swp U i2 k2)).length by rw [sll_len, sll_len, swp_len]]
              simp only [leq, leA, ev0, evA, evB, evP, fl, gp, tab, simprocAttr, reduceCtorEq, reduceIte, ll_takeL] <;> first | trivial | omega
            · (try simp only [nhs] at hC7)
              refine qh (qd (qa ?_))
              refine hk_region fun K hK => runs_eval tab_ok ?_
              simp only [ev0, evA, evB, evP, fl, gp, tab, simprocAttr, reduceCtorEq, reduceIte]
              refine fin_run ?_ (hK _ ?_) <;> clear hK <;> clear K
              · (first | exact trivial | omega | (simp only [In64] at *; omega) | (simp [In64] at *; omega) | (simp_all; done) | skip)
              refine qa ?_
              refine ⟨(k2 + 1, U), [0, 1], ⟨show i2 < k2 + 1 by omega, show k2 + 1 ≤ U.length by omega, hUV, hUp, OrdI.skip hUo fun hh => (by
                rcases hlt.1 hh with h1 | ⟨_, h1⟩
                · omega
                · rw [lsb_cmp hle h1] at hC7; cases hC7)⟩, show U.length - (k2 + 1) < U.length - k2 by omega, ?_⟩
              simp only [leq, leA, ev0, evA, evB, evP, fl, gp, tab, simprocAttr, reduceCtorEq, reduceIte, ll_takeL] <;> first | trivial | omega
          · refine hk_draw mixed (by kernel_rfl) fun K hK => runs_eval tab_ok ?_
            simp only [ev0, evA, evB, evP, fl, gp, tab, simprocAttr, reduceCtorEq, reduceIte, hgi, hgk, ll_length, il_length, decide_eq_false (show ¬ ((thl a pk).length : Int) < ((thl a pi).length : Int) by omega), decide_eq_false (show ¬ ((thl a pk).length : Int) = ((thl a pi).length : Int) by omega)]
            refine fin_run ?_ (hK _ ?_) <;> clear hK <;> clear K
            · (first | exact trivial | omega | (simp only [In64] at *; omega) | (simp [In64] at *; omega) | (simp_all; done) | skip)
            refine qa ?_
            refine hk_cond rfl (fun hC7 => ?_) (fun hC7 => ?_)
            · cases hC7
            · refine qh (qd (qa ?_))
              refine hk_region fun K hK => runs_eval tab_ok ?_
              simp only [ev0, evA, evB, evP, fl, gp, tab, simprocAttr, reduceCtorEq, reduceIte]
              refine fin_run ?_ (hK _ ?_) <;> clear hK <;> clear K
              · (first | exact trivial | omega | (simp only [In64] at *; omega) | (simp [In64] at *; omega) | (simp_all; done) | skip)
              refine qa ?_
              refine ⟨(k2 + 1, U), [0, 1], ⟨show i2 < k2 + 1 by omega, show k2 + 1 ≤ U.length by omega, hUV, hUp, OrdI.skip hUo fun hh => (by
                rcases hlt.1 hh with h1 | ⟨h1, _⟩ <;> omega)⟩, show U.length - (k2 + 1) < U.length - k2 by omega, ?_⟩
              simp only [leq, leA, ev0, evA, evB, evP, fl, gp, tab, simprocAttr, reduceCtorEq, reduceIte, ll_takeL] <;> first | trivial | omega
        · (try simp only [nhs] at hC6)
          have hkn2 : k2 = U.length := by omega
          refine qj (qc (qc (qf (qd (qa ?_)))))
          refine hk_region fun K hK => runs_eval tab_ok ?_
          simp only [ev0, evA, evB, evP, fl, gp, tab, simprocAttr, reduceCtorEq, reduceIte]
          refine fin_run ?_ (hK _ ?_) <;> clear hK <;> clear K
          · (first | exact trivial | omega | (simp only [In64] at *; omega) | (simp [In64] at *; omega) | (simp_all; done) | skip)
          refine qa ?_
          refine ⟨(i2 + 1, U), [0, 1], ⟨show i2 + 1 ≤ U.length by omega, hUp, OrdI.next (hkn2 ▸ hUo)⟩, show U.length - (i2 + 1) < V.length - i2 by omega, ?_⟩
          simp only [leq, leA, ev0, evA, evB, evP, fl, gp, tab, simprocAttr, reduceCtorEq, reduceIte, ll_takeL] <;> first | trivial | omega
      · (try simp only [nhs] at hC5)
        have hin2 : i2 = V.length := by omega
        have hVS : V = SL := ord_unique hVp hS.rise (fun x hx => by obtain ⟨p, _, rfl⟩ := hS.subs x hx; exact bo_lt64 hb p) fun c d h1 h2 => hVo.out c d (by omega) h1 h2
        subst hVS
        refine qj (qc (qc (qf (qa (qm ?_)))))
        refine hk_freeze 1 rfl (opl_allP _) ?_
        refine hk_purec 0 0 rfl rfl rfl ⟨by rw [ll_length]; omega, ?_⟩ ?_
        · rw [List.drop_zero, List.take_of_length_le (by rw [ll_length]; omega)]; exact ll_all _
        simp only [hset, List.set, List.drop_zero]
        rw [List.take_of_length_le (by rw [ll_length]; omega)]
        refine hk_region fun K hK => runs_eval tab_ok ?_
        simp only [ev0, evA, evB, evP, fl, gp, tab, simprocAttr, reduceCtorEq, reduceIte]
        refine fin_run ?_ (hK _ ?_) <;> clear hK <;> clear K
        · (first | exact trivial | omega | (simp only [In64] at *; omega) | (simp [In64] at *; omega) | (simp_all; done) | skip)
        refine qa (qk ?_)
        simp only [Tryd.results74, enA, ev0, evA, evB, evP, fl, gp, tab, simprocAttr, reduceCtorEq, reduceIte]
        all_goals ((first | exact rfl | exact ⟨rfl, rfl⟩ | exact ⟨rfl, rfl, rfl⟩ | exact ⟨trivial, rfl⟩ | exact ⟨Nat.le_refl _, rfl⟩ | trivial | (simp; done)))
end
end Go.Proofs.YtboadfahlflmhaaDoor

/-
  Walks: maps of groups: the fault of a map. Conditions: none.
-/
set_option linter.all false
namespace Go.Proofs.YtboadfahlflmhaaDoor
open Go.Pv

/-- The fault of two groups. -/
def tg (N:Int) (m:List Int) (N' : Int) (m' : List Int):Int × Int:=if (gf N m).1=0 then gf N' m' else gf N m

theorem tg_zero {N N' : Int} {m m' : List Int} (h:(tg N m N' m').1=0):(gf N m).1=0∧(gf N' m').1=0:=by
 unfold tg at h
 by_cases h1:(gf N m).1=0
 ·rw [if_pos h1] at h; exact ⟨h1,h⟩
 ·rw [if_neg h1] at h; exact absurd h h1

theorem homBoth_c (N:Int) (m:List Int) (N' : Int) (m' : List Int) (hm:m.length≤1000000000000000) (hm' : m'.length≤1000000000000000):FnC Tryd.prog 92 [gp N m,gp N' m'] (fl (tg N m N' m')):=by
 refine fnc_of tab_ok Tryd.func92 rfl (by kernel_rfl) (by rw [Tryd.ntmps92]; exact Nat.le_add_left 2 _) ?_; rw [Tryd.ntmps92]
 refine qm ?_
 refine hk_region fun K hK=>runs_eval tab_ok ?_
 simp only [ev0,evA,evB,evP,fl,gp,tab,simprocAttr,reduceCtorEq,reduceIte]
 refine fin_run ?_ (hK _ ?_)<;>clear hK<;>clear K
 ·(first|exact trivial|omega|(simp only [In64] at *; omega)|(simp [In64] at *; omega)|(simp_all; done)|skip)
 refine qa (qm (qm ?_))
 refine hk_region fun K hK=>runs_eval tab_ok ?_
 simp only [ev0,evA,evB,evP,fl,gp,tab,simprocAttr,reduceCtorEq,reduceIte]
 refine fin_stop trivial (runs_call (check_c N m hm) rfl rfl rfl (by simp only [dstOk,Nat.reduceLT]) (by repeat (first|exact trivial|constructor)) (runs_eval tab_ok ?_))
 simp only [ev0,evA,evB,evP,fl,gp,tab,simprocAttr,reduceCtorEq,reduceIte]
 refine fin_run ?_ (hK _ ?_)<;>clear hK<;>clear K
 ·(first|exact trivial|omega|(simp only [In64] at *; omega)|(simp [In64] at *; omega)|(simp_all; done)|skip)
 refine qa (qm ?_)
 refine hk_region fun K hK=>runs_eval tab_ok ?_
 simp only [ev0,evA,evB,evP,fl,gp,tab,simprocAttr,reduceCtorEq,reduceIte]
 refine fin_run ?_ (hK _ ?_)<;>clear hK<;>clear K
 ·(first|exact trivial|omega|(simp only [In64] at *; omega)|(simp [In64] at *; omega)|(simp_all; done)|skip)
 refine qa ?_
 refine hk_cond rfl (fun hC1=>?_) (fun hC1=>?_)
 ·(try simp only [nhs] at hC1)
  refine qm ?_
  refine hk_region fun K hK=>runs_eval tab_ok ?_
  simp only [ev0,evA,evB,evP,fl,gp,tab,simprocAttr,reduceCtorEq,reduceIte]
  refine fin_run ?_ (hK _ ?_)<;>clear hK<;>clear K
  ·(first|exact trivial|omega|(simp only [In64] at *; omega)|(simp [In64] at *; omega)|(simp_all; done)|skip)
  refine qa (qk (qb ?_))
  simp only [Tryd.results92,enA,ev0,evA,evB,evP,fl,gp,tab,simprocAttr,reduceCtorEq,reduceIte]
  all_goals (unfold tg; rw [if_neg hC1]; simp)
 ·(try simp only [nhs] at hC1)
  refine qh (qa (qm ?_))
  refine hk_region fun K hK=>runs_eval tab_ok ?_
  simp only [ev0,evA,evB,evP,fl,gp,tab,simprocAttr,reduceCtorEq,reduceIte]
  refine fin_stop trivial (runs_call (check_c N' m' hm') rfl rfl rfl (by simp only [dstOk,Nat.reduceLT]) (by repeat (first|exact trivial|constructor)) (runs_eval tab_ok ?_))
  simp only [ev0,evA,evB,evP,fl,gp,tab,simprocAttr,reduceCtorEq,reduceIte]
  refine fin_run ?_ (hK _ ?_)<;>clear hK<;>clear K
  ·(first|exact trivial|omega|(simp only [In64] at *; omega)|(simp [In64] at *; omega)|(simp_all; done)|skip)
  refine qa (qk ?_)
  simp only [Tryd.results92,enA,ev0,evA,evB,evP,fl,gp,tab,simprocAttr,reduceCtorEq,reduceIte]
  all_goals (unfold tg; rw [if_pos hC1]; simp)

theorem homFlt_c (c a:Int):FnC Tryd.prog 77 [.int .i64 c,.int .i64 a] (fl (c,a)):=by
 refine fnc_of tab_ok Tryd.func77 rfl (by kernel_rfl) (by rw [Tryd.ntmps77]; exact Nat.le_add_left 2 _) ?_; rw [Tryd.ntmps77]
 refine qm ?_
 refine hk_region fun K hK=>runs_eval tab_ok ?_
 simp only [ev0,evA,evB,evP,fl,gp,tab,simprocAttr,reduceCtorEq,reduceIte]
 refine fin_run ?_ (hK _ ?_)<;>clear hK<;>clear K
 ·(first|exact trivial|omega|(simp only [In64] at *; omega)|(simp [In64] at *; omega)|(simp_all; done)|skip)
 refine qa (qm ?_)
 refine hk_region fun K hK=>runs_eval tab_ok ?_
 simp only [ev0,evA,evB,evP,fl,gp,tab,simprocAttr,reduceCtorEq,reduceIte]
 refine fin_run ?_ (hK _ ?_)<;>clear hK<;>clear K
 ·(first|exact trivial|omega|(simp only [In64] at *; omega)|(simp [In64] at *; omega)|(simp_all; done)|skip)
 refine qa (qk ?_)
 simp only [Tryd.results77,enA,ev0,evA,evB,evP,fl,gp,tab,simprocAttr,reduceCtorEq,reduceIte]
 all_goals (rfl)

/-- The value of a map. -/
def hv (l:List Int) (a:Nat):Nat:=(l.getD a 0).toNat
def hgood (m m' l:List Int) (n n' a:Nat):Prop:=∀ b,b < n→op m' n' (hv l a) (hv l b)=hv l (op m n a b)
instance (m m' l:List Int) (n n' a:Nat):Decidable (hgood m m' l n n' a):=by unfold hgood; infer_instance
def homf2 (m m' l:List Int) (n n' : Nat):Int × Int:=
 match fst' (fun a=>decide (¬ hgood m m' l n n' a)) n with
 | some a=>(7,(a:Int))
 | none=>(0,0)
/-- THE FAULT of a map of groups. -/
def homf (N:Int) (m:List Int) (N' : Int) (m' l:List Int):Int × Int:=
 if ¬ (tg N m N' m').1=0 then tg N m N' m'
 else if ¬ (l.length:Int)=N then (8,0)
 else match fst' (bad N' l) l.length with
  | some i=>(3,(i:Int))
  | none=>homf2 m m' l N.toNat N'.toNat

theorem homf_tg {N N' : Int} {m m' l:List Int} (h:¬ (tg N m N' m').1=0):homf N m N' m' l=tg N m N' m':=by unfold homf; rw [if_pos h]
theorem homf_8 {N N' : Int} {m m' l:List Int} (h:(tg N m N' m').1=0) (h2:¬ (l.length:Int)=N):homf N m N' m' l=(8,0):=by unfold homf; rw [if_neg (by simpa using h),if_pos h2]
theorem homf_3 {N N' : Int} {m m' l:List Int} (h:(tg N m N' m').1=0) (h2:(l.length:Int)=N) {i:Nat} (hi:i < l.length) (hb:bad N' l i=true) (hj:∀ j,j < i→bad N' l j=false):homf N m N' m' l=(3,(i:Int)):=by
 unfold homf; rw [if_neg (by simpa using h),if_neg (by simpa using h2),fst_some hi hb hj]
theorem homf_2 {n n' : Nat} {m m' l:List Int} (h:(tg n m n' m').1=0) (h2:(l.length:Int)=n) (hj:∀ j,j < l.length→bad n' l j=false):homf n m n' m' l=homf2 m m' l n n':=by
 unfold homf; rw [if_neg (by simpa using h),if_neg (by simpa using h2),fst_none hj]
 rfl
theorem homf2_7 {n n' : Nat} {m m' l:List Int} {a:Nat} (ha:a < n) (hn:¬ hgood m m' l n n' a) (hj:∀ j,j < a→hgood m m' l n n' j):homf2 m m' l n n' = (7,(a:Int)):=by
 have:fst' (fun a=>decide (¬ hgood m m' l n n' a)) n=some a:=fst_some ha (decide_eq_true hn) fun j h=>decide_eq_false fun h'=>h' (hj j h)
 unfold homf2; rw [this]
theorem homf2_0 {n n' : Nat} {m m' l:List Int} (hj:∀ j,j < n→hgood m m' l n n' j):homf2 m m' l n n' = (0,0):=by
 have:fst' (fun a=>decide (¬ hgood m m' l n n' a)) n=none:=fst_none fun j h=>decide_eq_false fun h'=>h' (hj j h)
 unfold homf2; rw [this]
theorem hv_at {n' : Nat} {l:List Int} {a:Nat} (h:bad n' l a=false):l.getD a 0=((hv l a:Nat):Int)∧hv l a < n':=by
 have:=of_decide_eq_false h
 unfold hv
 omega

/-- A map of groups. -/
def Hom (m m' l:List Int) (n n' : Nat):Prop:=l.length=n∧(∀ a,a < n→l.getD a 0=((hv l a:Nat):Int)∧hv l a < n')∧∀ a,a < n→hgood m m' l n n' a
theorem homf_ok {N N' : Int} {m m' l:List Int} (h:(homf N m N' m' l).1=0):∃ n e n' e' : Nat,GT N m n e∧GT N' m' n' e'∧Hom m m' l n n'∧homf N m N' m' l=(0,0):=by
 by_cases h1:(tg N m N' m').1=0
 ·obtain ⟨z1,z2⟩:=tg_zero h1
  obtain ⟨n,e,g,_⟩:=gf_ok z1
  obtain ⟨n',e',g',_⟩:=gf_ok z2
  obtain rfl:=g.1
  obtain rfl:=g'.1
  by_cases h2:(l.length:Int)=n
  ·cases h3:fst' (bad n' l) l.length with
   | some i =>
    obtain ⟨s1,s2,s3⟩:=fst_spec h3
    rw [homf_3 h1 h2 s1 s2 s3] at h
    simp at h
   | none =>
    have hb:=fst_spec0 h3
    rw [homf_2 h1 h2 hb] at h ⊢
    cases h4:fst' (fun a=>decide (¬ hgood m m' l n n' a)) n with
    | some a =>
     unfold homf2 at h
     rw [h4] at h
     simp at h
    | none =>
     have hg:∀ a,a < n→hgood m m' l n n' a:=fun a ha=>Classical.not_not.1 (of_decide_eq_false (fst_spec0 h4 a ha))
     exact ⟨n,e,n',e',g,g',⟨by omega,fun a ha=>hv_at (hb a (by omega)),hg⟩,homf2_0 hg⟩
  ·rw [homf_8 h1 h2] at h; simp at h
 ·rw [homf_tg h1] at h; exact absurd h h1

set_option maxHeartbeats 2000000 in
theorem homCheck_c (N:Int) (m:List Int) (N' : Int) (m' l:List Int) (hm:m.length≤1000000000000000) (hm' : m'.length≤1000000000000000):FnC Tryd.prog 101 [gp N m,gp N' m',.list (il l)] (fl (homf N m N' m' l)):=by
 refine fnc_of tab_ok Tryd.func101 rfl (by kernel_rfl) (by rw [Tryd.ntmps101]; exact Nat.le_add_left 3 _) ?_; rw [Tryd.ntmps101]
 refine qm ?_
 refine hk_region fun K hK=>runs_eval tab_ok ?_
 simp only [ev0,evA,evB,evP,fl,gp,tab,simprocAttr,reduceCtorEq,reduceIte]
 refine fin_run ?_ (hK _ ?_)<;>clear hK<;>clear K
 ·(first|exact trivial|omega|(simp only [In64] at *; omega)|(simp [In64] at *; omega)|(simp_all; done)|skip)
 refine qa (qm (qm ?_))
 refine hk_region fun K hK=>runs_eval tab_ok ?_
 simp only [ev0,evA,evB,evP,fl,gp,tab,simprocAttr,reduceCtorEq,reduceIte]
 refine fin_stop trivial (runs_call (homBoth_c N m N' m' hm hm') rfl rfl rfl (by simp only [dstOk,Nat.reduceLT]) (by repeat (first|exact trivial|constructor)) (runs_eval tab_ok ?_))
 simp only [ev0,evA,evB,evP,fl,gp,tab,simprocAttr,reduceCtorEq,reduceIte]
 refine fin_run ?_ (hK _ ?_)<;>clear hK<;>clear K
 ·(first|exact trivial|omega|(simp only [In64] at *; omega)|(simp [In64] at *; omega)|(simp_all; done)|skip)
 refine qa (qm ?_)
 refine hk_region fun K hK=>runs_eval tab_ok ?_
 simp only [ev0,evA,evB,evP,fl,gp,tab,simprocAttr,reduceCtorEq,reduceIte]
 refine fin_run ?_ (hK _ ?_)<;>clear hK<;>clear K
 ·(first|exact trivial|omega|(simp only [In64] at *; omega)|(simp [In64] at *; omega)|(simp_all; done)|skip)
 refine qa ?_
 refine hk_cond rfl (fun hC1=>?_) (fun hC1=>?_)
 ·(try simp only [nhs] at hC1)
  refine qm ?_
  refine hk_region fun K hK=>runs_eval tab_ok ?_
  simp only [ev0,evA,evB,evP,fl,gp,tab,simprocAttr,reduceCtorEq,reduceIte]
  refine fin_run ?_ (hK _ ?_)<;>clear hK<;>clear K
  ·(first|exact trivial|omega|(simp only [In64] at *; omega)|(simp [In64] at *; omega)|(simp_all; done)|skip)
  refine qa (qk (qb ?_))
  simp only [Tryd.results101,enA,ev0,evA,evB,evP,fl,gp,tab,simprocAttr,reduceCtorEq,reduceIte]
  all_goals (rw [homf_tg hC1]; simp)
 ·(try simp only [nhs] at hC1)
  obtain ⟨z1,z2⟩:=tg_zero hC1
  obtain ⟨n,e,g,_⟩:=gf_ok z1
  obtain ⟨n',e',g',_⟩:=gf_ok z2
  obtain rfl:=g.1
  obtain rfl:=g'.1
  have T:=g.2.1
  have T':=g'.2.1
  have hb:=T.big
  refine qh (qa (qm (qm ?_)))
  refine hk_region fun K hK=>runs_eval tab_ok ?_
  simp only [ev0,evA,evB,evP,fl,gp,tab,simprocAttr,reduceCtorEq,reduceIte]
  refine fin_run ?_ (hK _ ?_)<;>clear hK<;>clear K
  ·(first|exact trivial|omega|(simp only [In64] at *; omega)|(simp [In64] at *; omega)|(simp_all; done)|skip)
  refine qa ?_
  refine hk_cond rfl (fun hC2=>?_) (fun hC2=>?_)
  ·(try simp only [nhs] at hC2)
   refine qm ?_
   refine hk_region fun K hK=>runs_eval tab_ok ?_
   simp only [ev0,evA,evB,evP,fl,gp,tab,simprocAttr,reduceCtorEq,reduceIte]
   refine fin_stop trivial (runs_call (homFlt_c 8 0) rfl rfl rfl (by simp only [dstOk,Nat.reduceLT]) (by repeat (first|exact trivial|constructor)) (runs_eval tab_ok ?_))
   simp only [ev0,evA,evB,evP,fl,gp,tab,simprocAttr,reduceCtorEq,reduceIte]
   refine fin_run ?_ (hK _ ?_)<;>clear hK<;>clear K
   ·(first|exact trivial|omega|(simp only [In64] at *; omega)|(simp [In64] at *; omega)|(simp_all; done)|skip)
   refine qa (qk (qb ?_))
   simp only [Tryd.results101,enA,ev0,evA,evB,evP,fl,gp,tab,simprocAttr,reduceCtorEq,reduceIte]
   all_goals (rw [homf_8 hC1 hC2]; simp)
  ·(try simp only [nhs] at hC2)
   refine qh (qa (qm (qm ?_)))
   refine hk_region fun K hK=>runs_eval tab_ok ?_
   simp only [ev0,evA,evB,evP,fl,gp,tab,simprocAttr,reduceCtorEq,reduceIte]
   refine fin_run trivial (hK _ ?_)<;>clear hK<;>clear K
   refine qa (ql ?_)
   refine hk_loop (ι:=Nat) (fun i=>⟨76,[(2,.p (.list (il l))),(3,.ptr 0 0),(4,.ptr 1 0),(6,.ptr 2 0),(25,.p (.list (il l))),(26,.p (.int .i64 l.length)),(27,.p (.int .i64 i))],[.own [.p (.int .i64 n),.p (.list (il m))],.own [.p (.int .i64 n'),.p (.list (il m'))],.own [.p (.int .i64 0),.p (.int .i64 0)]]⟩) (fun i=>i≤l.length∧∀ j,j < i→bad n' l j=false) (fun i=>l.length - i) 0 ⟨Nat.zero_le _,fun j hj=>by omega⟩ [0,1,2] (by simp only [leq,leA,ev0,evA,evB,evP,fl,gp,tab,simprocAttr,reduceCtorEq,reduceIte]<;>trivial) fun i hi=>?_
   obtain ⟨hi1,hi2⟩:=hi
   refine qm ?_
   refine hk_region fun K hK=>runs_eval tab_ok ?_
   simp only [ev0,evA,evB,evP,fl,gp,tab,simprocAttr,reduceCtorEq,reduceIte]
   refine fin_run trivial (hK _ ?_)<;>clear hK<;>clear K
   refine qa (qm ?_)
   refine hk_cond rfl (fun hC3=>?_) (fun hC3=>?_)
   ·(try simp only [nhs] at hC3)
    have hlt:i < l.length:=by omega
    refine qh (qa (qm (ql (qm ?_))))
    refine hk_region fun K hK=>runs_eval tab_ok ?_
    simp only [ev0,evA,evB,evP,fl,gp,tab,simprocAttr,reduceCtorEq,reduceIte,il_get hlt]
    refine fin_run ?_ (hK _ ?_)<;>clear hK<;>clear K
    ·(first|exact trivial|omega|(simp only [In64] at *; omega)|(simp [In64] at *; omega)|(simp_all; done)|skip)
    refine qa (qm ?_)
    by_cases g9a:l.getD i 0 < 0
    ·refine hk_region fun K hK=>runs_eval tab_ok ?_
     simp only [ev0,evA,evB,evP,fl,gp,tab,simprocAttr,reduceCtorEq,reduceIte,decide_eq_true g9a]
     refine fin_run trivial (hK _ ?_)<;>clear hK<;>clear K
     refine qa ?_
     refine hk_cond rfl (fun hC4=>?_) (fun hC4=>?_)
     ·refine qm ?_
      refine hk_region fun K hK=>runs_eval tab_ok ?_
      simp only [ev0,evA,evB,evP,fl,gp,tab,simprocAttr,reduceCtorEq,reduceIte]
      refine fin_stop trivial (runs_call (homFlt_c 3 i) rfl rfl rfl (by simp only [dstOk,Nat.reduceLT]) (by repeat (first|exact trivial|constructor)) (runs_eval tab_ok ?_))
      simp only [ev0,evA,evB,evP,fl,gp,tab,simprocAttr,reduceCtorEq,reduceIte]
      refine fin_run ?_ (hK _ ?_)<;>clear hK<;>clear K
      ·(first|exact trivial|omega|(simp only [In64] at *; omega)|(simp [In64] at *; omega)|(simp_all; done)|skip)
      refine qa (qk (qe (qb (qb (qe (qb ?_))))))
      simp only [Tryd.results101,enA,ev0,evA,evB,evP,fl,gp,tab,simprocAttr,reduceCtorEq,reduceIte]
      all_goals (rw [homf_3 hC1 hC2 hlt (decide_eq_true (.inl g9a)) hi2]; simp)
     ·cases hC4
    ·refine hk_region fun K hK=>runs_eval tab_ok ?_
     simp only [ev0,evA,evB,evP,fl,gp,tab,simprocAttr,reduceCtorEq,reduceIte,decide_eq_false g9a]
     refine fin_run ?_ (hK _ ?_)<;>clear hK<;>clear K
     ·(first|exact trivial|omega|(simp only [In64] at *; omega)|(simp [In64] at *; omega)|(simp_all; done)|skip)
     refine qa ?_
     refine hk_cond rfl (fun hC4=>?_) (fun hC4=>?_)
     ·(try simp only [nhs] at hC4)
      refine qm ?_
      refine hk_region fun K hK=>runs_eval tab_ok ?_
      simp only [ev0,evA,evB,evP,fl,gp,tab,simprocAttr,reduceCtorEq,reduceIte]
      refine fin_stop trivial (runs_call (homFlt_c 3 i) rfl rfl rfl (by simp only [dstOk,Nat.reduceLT]) (by repeat (first|exact trivial|constructor)) (runs_eval tab_ok ?_))
      simp only [ev0,evA,evB,evP,fl,gp,tab,simprocAttr,reduceCtorEq,reduceIte]
      refine fin_run ?_ (hK _ ?_)<;>clear hK<;>clear K
      ·(first|exact trivial|omega|(simp only [In64] at *; omega)|(simp [In64] at *; omega)|(simp_all; done)|skip)
      refine qa (qk (qe (qb (qb (qe (qb ?_))))))
      simp only [Tryd.results101,enA,ev0,evA,evB,evP,fl,gp,tab,simprocAttr,reduceCtorEq,reduceIte]
      all_goals (rw [homf_3 hC1 hC2 hlt (decide_eq_true (.inr hC4)) hi2]; simp)
     ·(try simp only [nhs] at hC4)
      refine qh (qd (qa ?_))
      refine hk_region fun K hK=>runs_eval tab_ok ?_
      simp only [ev0,evA,evB,evP,fl,gp,tab,simprocAttr,reduceCtorEq,reduceIte]
      refine fin_run ?_ (hK _ ?_)<;>clear hK<;>clear K
      ·(first|exact trivial|omega|(simp only [In64] at *; omega)|(simp [In64] at *; omega)|(simp_all; done)|skip)
      refine qa ?_
      refine ⟨i + 1,[0,1,2],⟨by omega,fun j hj=>?_⟩,by omega,?_⟩
      ·by_cases hj:j=i
       ·subst hj; exact decide_eq_false (by omega)
       ·exact hi2 j (by omega)
      ·simp only [leq,leA,ev0,evA,evB,evP,fl,gp,tab,simprocAttr,reduceCtorEq,reduceIte]<;>omega
   ·(try simp only [nhs] at hC3)
    have hall:∀ j,j < l.length→bad n' l j=false:=fun j hj=>hi2 j (by omega)
    have hvv:∀ a,a < n→l.getD a 0=((hv l a:Nat):Int)∧hv l a < n':=fun a ha=>hv_at (hall a (by omega))
    refine qj (qc (qc (qf (qa (qm (qm ?_))))))
    refine hk_region fun K hK=>runs_eval tab_ok ?_
    simp only [ev0,evA,evB,evP,fl,gp,tab,simprocAttr,reduceCtorEq,reduceIte]
    refine fin_run ?_ (hK _ ?_)<;>clear hK<;>clear K
    ·(first|exact trivial|omega|(simp only [In64] at *; omega)|(simp [In64] at *; omega)|(simp_all; done)|skip)
    refine qa (ql ?_)
    refine hk_loop (ι:=Nat) (fun a=>⟨76,[(2,.p (.list (il l))),(3,.ptr 0 0),(4,.ptr 1 0),(6,.ptr 2 0),(44,.p (.int .i64 n)),(45,.p (.int .i64 a))],[.own [.p (.int .i64 n),.p (.list (il m))],.own [.p (.int .i64 n'),.p (.list (il m'))],.own [.p (.int .i64 0),.p (.int .i64 0)]]⟩) (fun a=>a≤n∧∀ j,j < a→hgood m m' l n n' j) (fun a=>n - a) 0 ⟨Nat.zero_le _,fun j hj=>by omega⟩ [0,1,2] (by simp only [leq,leA,ev0,evA,evB,evP,fl,gp,tab,simprocAttr,reduceCtorEq,reduceIte]<;>trivial) fun a ha=>?_
    obtain ⟨ha1,ha2⟩:=ha
    refine qm ?_
    refine hk_region fun K hK=>runs_eval tab_ok ?_
    simp only [ev0,evA,evB,evP,fl,gp,tab,simprocAttr,reduceCtorEq,reduceIte]
    refine fin_run trivial (hK _ ?_)<;>clear hK<;>clear K
    refine qa (qm ?_)
    refine hk_cond rfl (fun hC5=>?_) (fun hC5=>?_)
    ·(try simp only [nhs] at hC5)
     have hal:a < n:=by omega
     refine qh (qa (qm (ql (qm ?_))))
     refine hk_region fun K hK=>runs_eval tab_ok ?_
     simp only [ev0,evA,evB,evP,fl,gp,tab,simprocAttr,reduceCtorEq,reduceIte]
     refine fin_run trivial (hK _ ?_)<;>clear hK<;>clear K
     refine qa (qm ?_)
     refine hk_region fun K hK=>runs_eval tab_ok ?_
     simp only [ev0,evA,evB,evP,fl,gp,tab,simprocAttr,reduceCtorEq,reduceIte]
     refine fin_run ?_ (hK _ ?_)<;>clear hK<;>clear K
     ·(first|exact trivial|omega|(simp only [In64] at *; omega)|(simp [In64] at *; omega)|(simp_all; done)|skip)
     refine qa (ql ?_)
     refine hk_loop (ι:=Nat) (fun b=>⟨76,[(2,.p (.list (il l))),(3,.ptr 0 0),(4,.ptr 1 0),(6,.ptr 2 0),(10,.p (.int .i64 a)),(44,.p (.int .i64 n)),(45,.p (.int .i64 a)),(49,.p (.int .i64 n)),(50,.p (.int .i64 b))],[.own [.p (.int .i64 n),.p (.list (il m))],.own [.p (.int .i64 n'),.p (.list (il m'))],.own [.p (.int .i64 0),.p (.int .i64 0)]]⟩) (fun b=>b≤n∧∀ j,j < b→op m' n' (hv l a) (hv l j)=hv l (op m n a j)) (fun b=>n - b) 0 ⟨Nat.zero_le _,fun j hj=>by omega⟩ [0,1,2] (by simp only [leq,leA,ev0,evA,evB,evP,fl,gp,tab,simprocAttr,reduceCtorEq,reduceIte]<;>trivial) fun b hb=>?_
     obtain ⟨hb1,hb2⟩:=hb
     refine qm ?_
     refine hk_region fun K hK=>runs_eval tab_ok ?_
     simp only [ev0,evA,evB,evP,fl,gp,tab,simprocAttr,reduceCtorEq,reduceIte]
     refine fin_run trivial (hK _ ?_)<;>clear hK<;>clear K
     refine qa (qm ?_)
     refine hk_cond rfl (fun hC6=>?_) (fun hC6=>?_)
     ·(try simp only [nhs] at hC6)
      have hbl:b < n:=by omega
      have hab:=T.lt hal hbl
      obtain ⟨ea,la⟩:=hvv a hal
      obtain ⟨eb,lb⟩:=hvv b hbl
      obtain ⟨ec,lc⟩:=hvv _ hab
      refine qh (qa (qm (ql (qm ?_))))
      refine hk_region fun K hK=>runs_eval tab_ok ?_
      simp only [ev0,evA,evB,evP,fl,gp,tab,simprocAttr,reduceCtorEq,reduceIte]
      refine fin_run trivial (hK _ ?_)<;>clear hK<;>clear K
      refine qa (qm ?_)
      refine hk_draw mixed (by kernel_rfl) fun K hK=>runs_eval tab_ok ?_
      simp only [ev0,evA,evB,evP,fl,gp,tab,simprocAttr,reduceCtorEq,reduceIte,il_get (show a < l.length by omega),il_get (show b < l.length by omega),il_get (show op m n a b < l.length by omega),ea,eb,ec]
      refine fin_stop trivial (runs_call (of_c T hal hbl) rfl rfl rfl (by simp only [dstOk,Nat.reduceLT]) (by repeat (first|exact trivial|constructor)) (runs_eval tab_ok ?_))
      simp only [ev0,evA,evB,evP,fl,gp,tab,simprocAttr,reduceCtorEq,reduceIte,il_get (show a < l.length by omega),il_get (show b < l.length by omega),il_get (show op m n a b < l.length by omega),ea,eb,ec]
      refine fin_stop ?_ (runs_call (of_c T' la lb) rfl rfl rfl (by simp only [dstOk,Nat.reduceLT]) (by repeat (first|exact trivial|constructor)) (runs_eval tab_ok ?_))
      ·(first|exact trivial|omega|(simp only [In64] at *; omega)|(simp [In64] at *; omega)|(simp_all; done)|skip)
      simp only [ev0,evA,evB,evP,fl,gp,tab,simprocAttr,reduceCtorEq,reduceIte,il_get (show a < l.length by omega),il_get (show b < l.length by omega),il_get (show op m n a b < l.length by omega),ea,eb,ec]
      refine fin_run ?_ (hK _ ?_)<;>clear hK<;>clear K
      ·(first|exact trivial|omega|(simp only [In64] at *; omega)|(simp [In64] at *; omega)|(simp_all; done)|skip)
      refine qa ?_
      refine hk_cond rfl (fun hC7=>?_) (fun hC7=>?_)
      ·(try simp only [nhs] at hC7)
       refine qm ?_
       refine hk_region fun K hK=>runs_eval tab_ok ?_
       simp only [ev0,evA,evB,evP,fl,gp,tab,simprocAttr,reduceCtorEq,reduceIte]
       refine fin_stop trivial (runs_call (homFlt_c 7 a) rfl rfl rfl (by simp only [dstOk,Nat.reduceLT]) (by repeat (first|exact trivial|constructor)) (runs_eval tab_ok ?_))
       simp only [ev0,evA,evB,evP,fl,gp,tab,simprocAttr,reduceCtorEq,reduceIte]
       refine fin_run ?_ (hK _ ?_)<;>clear hK<;>clear K
       ·(first|exact trivial|omega|(simp only [In64] at *; omega)|(simp [In64] at *; omega)|(simp_all; done)|skip)
       refine qa (qk (qe (qb (qb (qe (qe (qb (qb (qe (qb ?_))))))))))
       simp only [Tryd.results101,enA,ev0,evA,evB,evP,fl,gp,tab,simprocAttr,reduceCtorEq,reduceIte]
       all_goals (rw [homf_2 hC1 hC2 hall,homf2_7 hal (fun h=>hC7 (by rw [h b hbl])) ha2]; simp)
      ·(try simp only [nhs] at hC7)
       refine qh (qd (qa ?_))
       refine hk_region fun K hK=>runs_eval tab_ok ?_
       simp only [ev0,evA,evB,evP,fl,gp,tab,simprocAttr,reduceCtorEq,reduceIte]
       refine fin_run ?_ (hK _ ?_)<;>clear hK<;>clear K
       ·(first|exact trivial|omega|(simp only [In64] at *; omega)|(simp [In64] at *; omega)|(simp_all; done)|skip)
       refine qa ?_
       refine ⟨b + 1,[0,1,2],⟨by omega,fun j hj=>?_⟩,by omega,?_⟩
       ·by_cases hj:j=b
        ·subst hj; omega
        ·exact hb2 j (by omega)
       ·simp only [leq,leA,ev0,evA,evB,evP,fl,gp,tab,simprocAttr,reduceCtorEq,reduceIte]<;>omega
     ·(try simp only [nhs] at hC6)
      refine qj (qc (qc (qf (qd (qa ?_)))))
      refine hk_region fun K hK=>runs_eval tab_ok ?_
      simp only [ev0,evA,evB,evP,fl,gp,tab,simprocAttr,reduceCtorEq,reduceIte]
      refine fin_run ?_ (hK _ ?_)<;>clear hK<;>clear K
      ·(first|exact trivial|omega|(simp only [In64] at *; omega)|(simp [In64] at *; omega)|(simp_all; done)|skip)
      refine qa ?_
      refine ⟨a + 1,[0,1,2],⟨by omega,fun j hj=>?_⟩,by omega,?_⟩
      ·by_cases hj:j=a
       ·subst hj; exact fun c' hc'=>hb2 c' (by omega)
       ·exact ha2 j (by omega)
      ·simp only [leq,leA,ev0,evA,evB,evP,fl,gp,tab,simprocAttr,reduceCtorEq,reduceIte]<;>omega
    ·(try simp only [nhs] at hC5)
     refine qj (qc (qc (qf (qa (qm ?_)))))
     refine hk_region fun K hK=>runs_eval tab_ok ?_
     simp only [ev0,evA,evB,evP,fl,gp,tab,simprocAttr,reduceCtorEq,reduceIte]
     refine fin_run ?_ (hK _ ?_)<;>clear hK<;>clear K
     ·(first|exact trivial|omega|(simp only [In64] at *; omega)|(simp [In64] at *; omega)|(simp_all; done)|skip)
     refine qa (qk ?_)
     simp only [Tryd.results101,enA,ev0,evA,evB,evP,fl,gp,tab,simprocAttr,reduceCtorEq,reduceIte]
     all_goals (rw [homf_2 hC1 hC2 hall,homf2_0 (fun j hj=>ha2 j (by omega))]; simp)
end Go.Proofs.YtboadfahlflmhaaDoor

/-
  Walks: lists of lists, one to one, one map then another. Conditions: none.
-/
set_option linter.all false
namespace Go.Proofs.YtboadfahlflmhaaDoor
open Go.Pv

/-- A list of so many things has each of them. -/
def onto1 (l:List Int) (n:Nat):Prop:=(∀ i,i < n→((i:Nat):Int)∈l)∧l.length=n
instance (l:List Int) (n:Nat):Decidable (onto1 l n):=by unfold onto1; infer_instance

/-- One map, then another. -/
def cmpl (p q:List Int):List Int:=p.map fun x=>q.getD x.toNat 0

end Go.Proofs.YtboadfahlflmhaaDoor

/-
  Walks: rows of yes and no; the ring of so many things. Conditions: none.
-/
set_option linter.all false
namespace Go.Proofs.YtboadfahlflmhaaDoor
open Go.Pv

/-- A row of yes and no. -/
def hbl (n:Nat) (g:Nat→Bool):List PV:=(List.range n).map fun i=>.bool (g i)
theorem hbl_len (n:Nat) (g:Nat→Bool):(hbl n g).length=n:=by simp [hbl]
theorem hbl_get {n:Nat} {g:Nat→Bool} {i:Nat} (h:i < n):(hbl n g).getD i default = .bool (g i):=by
 simp [hbl,List.getD,List.getElem?_eq_getElem,h]
theorem hbl_all (n:Nat) (g:Nat→Bool):(hbl n g).all PV.one=true:=by simp [hbl,PV.one]

def ixb (n:Nat) (g:Nat→Bool):Int:=match fst' (fun i=>!g i) n with | some i=>(i:Int) | none=>-1
theorem ixb_iff (n:Nat) (g:Nat→Bool):ixb n g ≥ 0↔∃ i,i < n∧g i=false:=by
 unfold ixb
 cases h:fst' (fun i=>!g i) n with
 | none =>
  constructor
  ·intro h; simp at h
  ·rintro ⟨i,hi,e⟩
   have:=fst_spec0 h i hi
   rw [e] at this; simp at this
 | some i =>
  obtain ⟨h1,h2,_⟩:=fst_spec h
  exact ⟨fun _=>⟨i,h1,by simpa using h2⟩,fun _=>by simp⟩

theorem indexB_c (n:Nat) (g:Nat→Bool) (hn:n≤1000000):FnC Tryd.prog 131 [.list (hbl n g),.bool false] (.int .i64 (ixb n g)):=by
 refine fnc_of tab_ok Tryd.func131 rfl (by kernel_rfl) (by rw [Tryd.ntmps131]; exact Nat.le_add_left 2 _) ?_; rw [Tryd.ntmps131]
 refine qm ?_
 refine hk_region fun K hK=>runs_eval tab_ok ?_
 simp only [ev0,evA,evB,evP,fl,gp,tab,simprocAttr,reduceCtorEq,reduceIte]
 refine fin_run trivial (hK _ ?_)<;>clear hK<;>clear K
 refine qa (qm (qm ?_))
 refine hk_region fun K hK=>runs_eval tab_ok ?_
 simp only [ev0,evA,evB,evP,fl,gp,tab,simprocAttr,reduceCtorEq,reduceIte,hbl_len]
 refine fin_run trivial (hK _ ?_)<;>clear hK<;>clear K
 refine qa (ql ?_)
 refine hk_loop (ι:=Nat) (fun i=>⟨19,[(0,.p (.list (hbl n g))),(1,.p (.bool false)),(7,.p (.int .i64 n)),(8,.p (.int .i64 i))],[]⟩) (fun i=>i≤n∧∀ j,j < i→g j=true) (fun i=>n - i) 0 ⟨Nat.zero_le _,fun j hj=>by omega⟩ [] (by simp only [leq,leA,ev0,evA,evB,evP,fl,gp,tab,simprocAttr,reduceCtorEq,reduceIte,hbl_len]<;>trivial) fun i hi=>?_
 obtain ⟨hi1,hi2⟩:=hi
 refine qm ?_
 refine hk_region fun K hK=>runs_eval tab_ok ?_
 simp only [ev0,evA,evB,evP,fl,gp,tab,simprocAttr,reduceCtorEq,reduceIte]
 refine fin_run trivial (hK _ ?_)<;>clear hK<;>clear K
 refine qa (qm ?_)
 refine hk_cond rfl (fun hC1=>?_) (fun hC1=>?_)
 ·(try simp only [nhs] at hC1)
  have hlt:i < n:=by omega
  refine qh (qa (qm (ql (qm ?_))))
  refine hk_region fun K hK=>runs_eval tab_ok ?_
  simp only [ev0,evA,evB,evP,fl,gp,tab,simprocAttr,reduceCtorEq,reduceIte]
  refine fin_run trivial (hK _ ?_)<;>clear hK<;>clear K
  refine qa (qm ?_)
  refine hk_region fun K hK=>runs_eval tab_ok ?_
  simp only [ev0,evA,evB,evP,fl,gp,tab,simprocAttr,reduceCtorEq,reduceIte,hbl_len,hbl_get hlt]
  refine fin_run ?_ (hK _ ?_)<;>clear hK<;>clear K
  ·(first|exact trivial|omega|(simp only [In64] at *; omega)|(simp [In64] at *; omega)|(simp_all; done)|skip)
  refine qa ?_
  refine hk_cond rfl (fun hC2=>?_) (fun hC2=>?_)
  ·(try simp only [nhs] at hC2)
   refine qm ?_
   refine hk_region fun K hK=>runs_eval tab_ok ?_
   simp only [ev0,evA,evB,evP,fl,gp,tab,simprocAttr,reduceCtorEq,reduceIte]
   refine fin_run trivial (hK _ ?_)<;>clear hK<;>clear K
   refine qa (qk (qe (qb (qb (qe (qb ?_))))))
   simp only [Tryd.results131,enA,ev0,evA,evB,evP,fl,gp,tab,simprocAttr,reduceCtorEq,reduceIte]
   all_goals (unfold ixb; rw [fst_some hlt (by cases hg:g i<;>simp_all) fun j hj=>by simp [hi2 j hj]])
  ·(try simp only [nhs] at hC2)
   refine qh (qd (qa ?_))
   refine hk_region fun K hK=>runs_eval tab_ok ?_
   simp only [ev0,evA,evB,evP,fl,gp,tab,simprocAttr,reduceCtorEq,reduceIte]
   refine fin_run ?_ (hK _ ?_)<;>clear hK<;>clear K
   ·(first|exact trivial|omega|(simp only [In64] at *; omega)|(simp [In64] at *; omega)|(simp_all; done)|skip)
   refine qa ?_
   refine ⟨i + 1,[],⟨by omega,fun j hj=>?_⟩,by omega,?_⟩
   ·by_cases hj:j=i
    ·subst hj; (cases hg:g j<;>simp_all)
    ·exact hi2 j (by omega)
   ·simp only [leq,leA,ev0,evA,evB,evP,fl,gp,tab,simprocAttr,reduceCtorEq,reduceIte]<;>first|trivial|omega
 ·(try simp only [nhs] at hC1)
  refine qj (qc (qc (qf (qa (qm ?_)))))
  refine hk_region fun K hK=>runs_eval tab_ok ?_
  simp only [ev0,evA,evB,evP,fl,gp,tab,simprocAttr,reduceCtorEq,reduceIte]
  refine fin_run trivial (hK _ ?_)<;>clear hK<;>clear K
  refine qa (qk ?_)
  simp only [Tryd.results131,enA,ev0,evA,evB,evP,fl,gp,tab,simprocAttr,reduceCtorEq,reduceIte]
  all_goals (unfold ixb; rw [fst_none fun j hj=>by simp [hi2 j (by omega)]])

theorem containsB_c (n:Nat) (g:Nat→Bool) (hn:n≤1000000):FnC Tryd.prog 80 [.list (hbl n g),.bool false] (.bool (decide (ixb n g ≥ 0))):=by
 refine fnc_of tab_ok Tryd.func80 rfl (by kernel_rfl) (by rw [Tryd.ntmps80]; exact Nat.le_add_left 2 _) ?_; rw [Tryd.ntmps80]
 refine qm ?_
 refine hk_region fun K hK=>runs_eval tab_ok ?_
 simp only [ev0,evA,evB,evP,fl,gp,tab,simprocAttr,reduceCtorEq,reduceIte]
 refine fin_run trivial (hK _ ?_)<;>clear hK<;>clear K
 refine qa (qm ?_)
 refine hk_region fun K hK=>runs_eval tab_ok ?_
 simp only [ev0,evA,evB,evP,fl,gp,tab,simprocAttr,reduceCtorEq,reduceIte]
 refine fin_stop trivial (runs_call (indexB_c n g hn) rfl rfl rfl (by simp only [dstOk,Nat.reduceLT]) (by repeat (first|exact trivial|constructor)) (runs_eval tab_ok ?_))
 simp only [ev0,evA,evB,evP,fl,gp,tab,simprocAttr,reduceCtorEq,reduceIte]
 refine fin_run trivial (hK _ ?_)<;>clear hK<;>clear K
 refine qa (qk ?_)
 simp only [Tryd.results80,enA,ev0,evA,evB,evP,fl,gp,tab,simprocAttr,reduceCtorEq,reduceIte]
 all_goals ((first|exact rfl|exact ⟨rfl,rfl⟩|exact ⟨rfl,rfl,rfl⟩|exact ⟨trivial,rfl⟩|exact ⟨Nat.le_refl _,rfl⟩|trivial|(simp; done)))
end Go.Proofs.YtboadfahlflmhaaDoor

/-
  The semidirect product of two groups: plain laws, with no program in sight. Conditions: none.
-/
set_option linter.all false
namespace Go.Proofs.YtboadfahlflmhaaDoor
open Go.Pv

/-- A pair's product: the second acts on the other's first. -/
def smi (n' : Nat) (f f' al:Nat→Nat→Nat) (a b:Nat):Nat:=f (a / n') (al (a % n') (b / n')) * n' + f' (a % n') (b % n')

structure Acts (n n' : Nat) (f f' al:Nat→Nat→Nat):Prop where
 lt:∀ x i,x < n'→i < n→al x i < n
 hom:∀ x i j,x < n'→i < n→j < n→al x (f i j)=f (al x i) (al x j)
 onto:∀ x i,x < n'→i < n→∃ j,j < n∧al x j=i
 mul:∀ x y i,x < n'→y < n'→i < n→al (f' x y) i=al x (al y i)

section
variable {n n' e e' : Nat} {f f' al:Nat→Nat→Nat}

theorem pr_split {a:Nat} (hp:0 < n') (ha:a < n * n'):a / n' < n∧a % n' < n'∧a / n' * n' + a % n' = a:=
 ⟨Nat.div_lt_of_lt_mul (by rw [Nat.mul_comm]; exact ha),Nat.mod_lt _ hp,by rw [Nat.mul_comm]; exact Nat.div_add_mod a n'⟩

theorem Acts.one (A:Acts n n' f f' al) (G' : Grp n' f' e') {i:Nat} (hi:i < n):al e' i=i:=by
 obtain ⟨j,hj,rfl⟩:=A.onto e' i G'.el hi
 rw [← A.mul e' e' j G'.el G'.el hj,G'.one_l e' G'.el]
theorem Acts.el (A:Acts n n' f f' al) (G:Grp n f e) {x:Nat} (hx:x < n'):al x e=e:=by
 have h1:=A.lt x e hx G.el
 have h2:=A.hom x e e hx G.el G.el
 rw [G.one_l e G.el] at h2
 exact (G.idem h1).1 h2.symm

end
end Go.Proofs.YtboadfahlflmhaaDoor

/-
  Walks: the ring of so many things; tables by a rule. Conditions: none.
-/
set_option linter.all false
namespace Go.Proofs.YtboadfahlflmhaaDoor
open Go.Pv

theorem ringOf_c (n:Nat) (h1:1≤n) (hn:n≤60):FnC Tryd.prog 39 [.int .i64 n] (gp n (tbl (fun a b=>(((a + b) % n:Nat):Int)) n)):=by
 have hsq:=sq_le hn
 have hlen:=tbr_len (fun a b=>(((a + b) % n:Nat):Int)) n
 refine fnc_of tab_ok Tryd.func39 rfl (by kernel_rfl) (by rw [Tryd.ntmps39]; exact Nat.le_add_left 1 _) ?_; rw [Tryd.ntmps39]
 refine qm ?_
 refine hk_region fun K hK=>runs_eval tab_ok ?_
 simp only [ev0,evA,evB,evP,fl,gp,tab,simprocAttr,reduceCtorEq,reduceIte]
 refine fin_run ?_ (hK _ ?_)<;>clear hK<;>clear K
 ·(first|exact trivial|omega|(simp only [In64] at *; omega)|(simp [In64] at *; omega)|(simp_all; done)|skip)
 refine qa (qm ?_)
 refine hk_region fun K hK=>runs_eval tab_ok ?_
 simp only [ev0,evA,evB,evP,fl,gp,tab,simprocAttr,reduceCtorEq,reduceIte]
 refine fin_run ?_ (hK _ ?_)<;>clear hK<;>clear K
 ·(first|exact trivial|omega|(simp only [In64] at *; omega)|(simp [In64] at *; omega)|(simp_all; done)|skip)
 refine qa (qm (qm ?_))
 refine hk_own0c 1 1 rfl rfl ?_
 simp only [hset,List.cons_append,List.nil_append,List.set,List.length_cons,List.length_nil]
 refine hk_region fun K hK=>runs_eval tab_ok ?_
 simp only [ev0,evA,evB,evP,fl,gp,tab,simprocAttr,reduceCtorEq,reduceIte]
 refine fin_run trivial (hK _ ?_)<;>clear hK<;>clear K
 refine qa (ql ?_)
 refine hk_loop (ι:=Nat) (fun a=>⟨29,[(0,.p (.int .i64 n)),(2,.ptr 0 0),(3,.ptr 1 0),(4,.p (.int .i64 a))],[.own [.p (.int .i64 0),.p .nil],.own [.p (.int .i64 n),.sl 2 0 (tbr (fun a b=>(((a + b) % n:Nat):Int)) n (a * n)).length],.own (ol (tbr (fun a b=>(((a + b) % n:Nat):Int)) n (a * n)))]⟩) (fun a=>a≤n) (fun a=>n - a) 0 (Nat.zero_le _) [0,1,2] (by rw [Nat.zero_mul]; simp only [leq,leA,ev0,evA,evB,evP,fl,gp,tab,simprocAttr,reduceCtorEq,reduceIte]<;>simp [tbr,rg,ol_nil]) fun a ha=>?_
 refine qm (qm ?_)
 refine hk_region fun K hK=>runs_eval tab_ok ?_
 simp only [ev0,evA,evB,evP,fl,gp,tab,simprocAttr,reduceCtorEq,reduceIte]
 refine fin_run trivial (hK _ ?_)<;>clear hK<;>clear K
 refine qa ?_
 refine hk_cond rfl (fun hC1=>?_) (fun hC1=>?_)
 ·(try simp only [nhs] at hC1)
  have hal:a < n:=by omega
  refine qh (qa (qm (ql (qm ?_))))
  refine hk_region fun K hK=>runs_eval tab_ok ?_
  simp only [ev0,evA,evB,evP,fl,gp,tab,simprocAttr,reduceCtorEq,reduceIte]
  refine fin_run trivial (hK _ ?_)<;>clear hK<;>clear K
  refine qa (ql ?_)
  refine hk_loop (ι:=Nat) (fun b=>⟨29,[(0,.p (.int .i64 n)),(2,.ptr 0 0),(3,.ptr 1 0),(4,.p (.int .i64 a)),(5,.p (.int .i64 b))],[.own [.p (.int .i64 0),.p .nil],.own [.p (.int .i64 n),.sl 2 0 (tbr (fun a b=>(((a + b) % n:Nat):Int)) n (a * n + b)).length],.own (ol (tbr (fun a b=>(((a + b) % n:Nat):Int)) n (a * n + b)))]⟩) (fun b=>b≤n) (fun b=>n - b) 0 (Nat.zero_le _) [0,1,2] (by rw [Nat.add_zero]; simp only [leq,leA,ev0,evA,evB,evP,fl,gp,tab,simprocAttr,reduceCtorEq,reduceIte]<;>trivial) fun b hb=>?_
  refine qm (qm ?_)
  refine hk_region fun K hK=>runs_eval tab_ok ?_
  simp only [ev0,evA,evB,evP,fl,gp,tab,simprocAttr,reduceCtorEq,reduceIte]
  refine fin_run trivial (hK _ ?_)<;>clear hK<;>clear K
  refine qa ?_
  refine hk_cond rfl (fun hC2=>?_) (fun hC2=>?_)
  ·(try simp only [nhs] at hC2)
   have hbl:b < n:=by omega
   have hat:=at_lt hal hbl
   have hl:=hlen (a * n + b)
   have hab:(a:Int) + (b:Int)=((a + b:Nat):Int):=rfl
   refine qh (qa (qm (ql ?_)))
   refine hk_draw mixed (by kernel_rfl) fun K hK=>runs_eval tab_ok ?_
   simp only [ev0,evA,evB,evP,fl,gp,tab,simprocAttr,reduceCtorEq,reduceIte,hab,tm_nat]
   refine fin_run ?_ (hK _ ?_)<;>clear hK<;>clear K
   ·(first|exact trivial|omega|(simp only [In64] at *; omega)|(simp [In64] at *; omega)|(simp_all; done)|skip)
   refine qd (qa ?_)
   refine hk_region fun K hK=>runs_eval tab_ok ?_
   simp only [ev0,evA,evB,evP,fl,gp,tab,simprocAttr,reduceCtorEq,reduceIte]
   refine fin_run ?_ (hK _ ?_)<;>clear hK<;>clear K
   ·(first|exact trivial|omega|(simp only [In64] at *; omega)|(simp [In64] at *; omega)|(simp_all; done)|skip)
   refine qa ?_
   refine ⟨b + 1,[0,1,3],by omega,by omega,?_⟩
   rw [tbr_succ _ hbl]
   simp only [leq,leA,ev0,evA,evB,evP,fl,gp,tab,simprocAttr,reduceCtorEq,reduceIte]<;>first|trivial|omega
  ·(try simp only [nhs] at hC2)
   have hbn:b=n:=by omega
   refine qj (qc (qc (qf (qd (qa ?_)))))
   refine hk_region fun K hK=>runs_eval tab_ok ?_
   simp only [ev0,evA,evB,evP,fl,gp,tab,simprocAttr,reduceCtorEq,reduceIte]
   refine fin_run ?_ (hK _ ?_)<;>clear hK<;>clear K
   ·(first|exact trivial|omega|(simp only [In64] at *; omega)|(simp [In64] at *; omega)|(simp_all; done)|skip)
   refine qa ?_
   refine ⟨a + 1,[0,1,2],by omega,by omega,?_⟩
   rw [hbn,show (a + 1) * n=a * n + n by rw [Nat.add_mul,Nat.one_mul]]
   simp only [leq,leA,ev0,evA,evB,evP,fl,gp,tab,simprocAttr,reduceCtorEq,reduceIte]<;>first|trivial|omega
 ·(try simp only [nhs] at hC1)
  have han:a=n:=by omega
  refine qj (qc (qc (qf (qa (qm ?_)))))
  refine hk_region fun K hK=>runs_eval tab_ok ?_
  simp only [ev0,evA,evB,evP,fl,gp,tab,simprocAttr,reduceCtorEq,reduceIte]
  refine fin_run ?_ (hK _ ?_)<;>clear hK<;>clear K
  ·(first|exact trivial|omega|(simp only [In64] at *; omega)|(simp [In64] at *; omega)|(simp_all; done)|skip)
  refine qa (qk ?_)
  simp only [Tryd.results39,enA,ev0,evA,evB,evP,fl,gp,tab,simprocAttr,reduceCtorEq,reduceIte]
  all_goals (simp [han,tbl])
end Go.Proofs.YtboadfahlflmhaaDoor

/-
  Semidirect products: the fault, and what no fault says. Conditions: none.
-/
set_option linter.all false
namespace Go.Proofs.YtboadfahlflmhaaDoor
open Go.Pv

/-- The code of a row's fault: a map of the group to itself that is one to one. -/
def rwc (N:Int) (m l:List Int):Int:=if ¬ (homf N m N m l).1=0 then (homf N m N m l).1 else if ¬ onto1 l N.toNat then 10 else 0
def mgd (m' : List Int) (n' : Nat) (ls:List (List Int)) (x:Nat):Prop:=∀ y,y < n'→ls.getD (op m' n' x y) []=cmpl (ls.getD y []) (ls.getD x [])
instance (m' : List Int) (n' : Nat) (ls:List (List Int)) (x:Nat):Decidable (mgd m' n' ls x):=by unfold mgd; infer_instance
section
variable {N N' : Int} {m m' : List Int} {ls:List (List Int)} {n n' : Nat}
theorem rwc_ok {l:List Int} (h:rwc n m l=0):Hom m m l n n∧onto1 l n:=by
 unfold rwc at h
 by_cases h1:(homf n m n m l).1=0
 ·rw [if_neg (by simpa using h1)] at h
  by_cases h2:onto1 l (n:Int).toNat
  ·obtain ⟨a,e,a',e',g,g',hh,_⟩:=homf_ok h1
   have q1:=g.1
   have q2:=g'.1
   obtain rfl:a=n:=by omega
   obtain rfl:a' = a:=by omega
   exact ⟨hh,h2⟩
  ·rw [if_pos h2] at h; simp at h
 ·rw [if_pos h1] at h; exact absurd h h1

/-- What acts, as a rule. -/
def alp (ls:List (List Int)) (x i:Nat):Nat:=hv (ls.getD x []) i
theorem acts_of (hl:ls.length=n') (hr:∀ j,j < n'→rwc n m (ls.getD j [])=0) (hm:∀ j,j < n'→mgd m' n' ls j) (T:Tab n m):Acts n n' (op m n) (op m' n') (alp ls):=by
 refine ⟨fun x i hx hi=>((rwc_ok (hr x hx)).1.2.1 i hi).2,fun x i j hx hi hj=>((rwc_ok (hr x hx)).1.2.2 i hi j hj).symm,fun x i hx hi=>?_,fun x y i hx hy hi=>?_⟩
 ·obtain ⟨⟨h1,h2,_⟩,h4,_⟩:=rwc_ok (hr x hx)
  obtain ⟨j,hj,e⟩:=List.getElem_of_mem (h4 i hi)
  refine ⟨j,by omega,?_⟩
  unfold alp hv
  clear h2
  generalize ls.getD x []=p at *
  simp [List.getD,List.getElem?_eq_getElem hj,e]
 ·obtain ⟨⟨h1,h2,_⟩,_⟩:=rwc_ok (hr y hy)
  have e:=hm x hx y hy
  unfold alp
  rw [e]
  unfold hv cmpl
  have hiy:i < (ls.getD y []).length:=by omega
  clear h2 e
  generalize ls.getD x []=p at *
  generalize ls.getD y []=q at *
  simp only [List.getD,List.getElem?_map,List.getElem?_eq_getElem hiy,Option.map_some,Option.getD_some]
end
end Go.Proofs.YtboadfahlflmhaaDoor

/-
  Walks: prod.Semi. Conditions: none.
-/
set_option linter.all false
namespace Go.Proofs.YtboadfahlflmhaaDoor
open Go.Pv

theorem prodFlt_c (c a:Int):FnC Tryd.prog 118 [.int .i64 c,.int .i64 a] (fl (c,a)):=by
 refine fnc_of tab_ok Tryd.func118 rfl (by kernel_rfl) (by rw [Tryd.ntmps118]; exact Nat.le_add_left 2 _) ?_; rw [Tryd.ntmps118]
 refine qm ?_
 refine hk_region fun K hK=>runs_eval tab_ok ?_
 simp only [ev0,evA,evB,evP,fl,gp,tab,simprocAttr,reduceCtorEq,reduceIte]
 refine fin_run ?_ (hK _ ?_)<;>clear hK<;>clear K
 ·(first|exact trivial|omega|(simp only [In64] at *; omega)|(simp [In64] at *; omega)|(simp_all; done)|skip)
 refine qa (qm ?_)
 refine hk_region fun K hK=>runs_eval tab_ok ?_
 simp only [ev0,evA,evB,evP,fl,gp,tab,simprocAttr,reduceCtorEq,reduceIte]
 refine fin_run ?_ (hK _ ?_)<;>clear hK<;>clear K
 ·(first|exact trivial|omega|(simp only [In64] at *; omega)|(simp [In64] at *; omega)|(simp_all; done)|skip)
 refine qa (qk ?_)
 simp only [Tryd.results118,enA,ev0,evA,evB,evP,fl,gp,tab,simprocAttr,reduceCtorEq,reduceIte]
 all_goals (rfl)

/-- The group that acts on a group makes. -/
def sg (n n' : Nat) (m m' : List Int) (ls:List (List Int)):List Int:=tbl (fun a b=>(smi n' (op m n) (op m' n') (alp ls) a b:Nat)) (n * n')
def hits (l:List Int) (k i:Nat):Bool:=decide (((i:Nat):Int)∈l.take k)
def sgm (n n' : Nat) (m m' : List Int) (ls:List (List Int)) (a b:Nat):Int:=(smi n' (op m n) (op m' n') (alp ls) a b:Nat)

theorem hbl_new (n:Nat):List.replicate n (AV.p (.bool false))=opl (hbl n fun _=>false):=by
 refine List.ext_getElem (by simp [opl,hbl]) fun i h1 h2=>?_
 simp [opl,hbl]
theorem hbl_set (n:Nat) (g:Nat→Bool) (v:Nat):(opl (hbl n g)).set v (AV.p (.bool true))=opl (hbl n fun i=>decide (i=v) || g i):=by
 refine List.ext_getElem (by simp [opl,hbl]) fun i h1 h2=>?_
 simp only [opl,hbl,List.getElem_set,List.getElem_map,List.getElem_range]
 by_cases h:v=i
 ·subst h; simp
 ·rw [if_neg h]; simp [Ne.symm h]
theorem hits_zero (l:List Int) (i:Nat):hits l 0 i=false:=by simp [hits]
theorem hits_succ {l:List Int} {k v:Nat} (hk:k < l.length) (hv:l.getD k 0=((v:Nat):Int)) (i:Nat):hits l (k + 1) i=(decide (i=v) || hits l k i):=by
 unfold hits
 have e:l[k]=((v:Nat):Int):=by rw [← hv]; simp [List.getD,List.getElem?_eq_getElem hk]
 rw [List.take_succ_eq_append_getElem hk,e,Bool.eq_iff_iff]
 simp only [List.mem_append,List.mem_singleton,Bool.or_eq_true,decide_eq_true_eq]
 constructor
 ·rintro (h | h)
  ·exact .inr h
  ·exact .inl (by omega)
 ·rintro (h | h)
  ·exact .inr (by omega)
  ·exact .inl h
theorem hbl_congr {n:Nat} {g g' : Nat→Bool} (h:∀ i,i < n→g i=g' i):hbl n g=hbl n g':=by
 unfold hbl
 exact List.map_congr_left fun i hi=>by rw [h i (List.mem_range.1 hi)]

end Go.Proofs.YtboadfahlflmhaaDoor

/-
  Complements of a normal part: the program's, the document's. Conditions: none.
-/
set_option linter.all false
namespace Go.Proofs.YtboadfahlflmhaaDoor
open Go.Pv

section
variable {n e:Nat} {m:List Int}
end
end Go.Proofs.YtboadfahlflmhaaDoor
