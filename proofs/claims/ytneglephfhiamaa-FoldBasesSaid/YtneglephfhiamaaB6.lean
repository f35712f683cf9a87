/-
  Texts of this proof, one behind the other: what each says stands at its head. Conditions: none.
-/
import Derived.Test.YtneglephfhiamaaB5
import Derived.Test.YtneglephfhiamaaB4
import Derived.Shelf.SlSortCmp.Whole1
import Derived.Shelf.Sort.Plain
import Derived.Shelf.Slices.In.SortNone
import Derived.ChangeKeysEq

/-
  Graphs with a tree of roads: the basis, and how many words it has. Conditions: none.
-/
set_option linter.all false
namespace Go.Proofs.Ytneglephfhiamaa
open Go.Pv

/-- Letters lead from place to place; roads to all places, a tree. -/
structure GT (step:Nat→Int→Option Nat) (lst:List Nat) (f:Wy):Prop where
 inv:InvS step
 nd:lst.Nodup
 hd:lst.head? = some 0
 dom:∀ z:Int,(f z).isSome=true↔∃ u∈lst,(u:Int)=z
 zero:f 0=some []
 tree:∀ j,j < lst.length→0 < j→∃ i x l,i < j∧f (lst.getD i 0:Nat)=some l∧f (lst.getD j 0:Nat)=some (l++[x])∧step (lst.getD i 0) x=some (lst.getD j 0)
 cl:∀ u∈lst,∀ x v,step u x=some v→v∈lst
 lt:∀ u∈lst,∀ x v,step u x=some v→x ≠ 0∧-26≤x∧x≤26

def wy (f:Wy) (u:Nat):List Int:=(f u).getD []
theorem nd_ix {l:List Nat} (h:l.Nodup) {i j:Nat} (hi:i < l.length) (hj:j < l.length) (e:l.getD i 0=l.getD j 0):i=j:=by
 rw [List.getD_eq_getElem?_getD,List.getD_eq_getElem?_getD,List.getElem?_eq_getElem hi,List.getElem?_eq_getElem hj] at e
 exact (List.getElem_inj h).1 e
theorem ix_of {l:List Nat} {u:Nat} (h:u∈l):∃ i,i < l.length∧l.getD i 0=u:=by
 obtain ⟨i,hi,e⟩:=List.getElem_of_mem h
 exact ⟨i,hi,by rw [List.getD_eq_getElem?_getD,List.getElem?_eq_getElem hi]; exact e⟩
theorem mem_ix {l:List Nat} {i:Nat} (h:i < l.length):l.getD i 0∈l:=by
 rw [List.getD_eq_getElem?_getD,List.getElem?_eq_getElem h]; exact List.getElem_mem h

section
variable {step:Nat→Int→Option Nat} {lst:List Nat} {f:Wy}
theorem GT.mem0 (g:GT step lst f):0∈lst:=List.mem_of_mem_head? (by rw [g.hd]; rfl)
theorem GT.ix0 (g:GT step lst f):0 < lst.length∧lst.getD 0 0=0:=by
 have:=g.hd
 cases hl:lst with
 | nil=>rw [hl] at this; cases this
 | cons a r=>rw [hl] at this; obtain rfl:=Option.some.inj this; exact ⟨by simp,rfl⟩
theorem GT.nz {u v:Nat} {x:Int} (g:GT step lst f) (hu:u∈lst) (h:step u x=some v):x ≠ 0:=(g.lt u hu x v h).1
/-- Something told of all places along the tree. -/
theorem GT.ind (g:GT step lst f) {P:Nat→List Int→Prop} (h0:P 0 []) (hs:∀ u v x,u∈lst→v∈lst→step u x=some v→wy f v=wy f u++[x]→P u (wy f u)→P v (wy f u++[x])):∀ u∈lst,P u (wy f u):=by
 have go:∀ n j,j≤n→j < lst.length→P (lst.getD j 0) (wy f (lst.getD j 0)):=by
  intro n
  induction n with
  | zero =>
   intro j hj hl
   obtain rfl:j=0:=by omega
   rw [g.ix0.2]
   have:wy f 0=[]:=by unfold wy; rw [show ((0:Nat):Int)=0 from rfl,g.zero]; rfl
   rw [this]; exact h0
  | succ n ih =>
   intro j hj hl
   by_cases h:j=0
   ·exact ih j (by omega) hl
   obtain ⟨i,x,l,a1,a2,a3,a4⟩:=g.tree j hl (by omega)
   have e1:wy f (lst.getD i 0)=l:=by unfold wy; rw [a2]; rfl
   have e2:wy f (lst.getD j 0)=l++[x]:=by unfold wy; rw [a3]; rfl
   rw [e2,← e1]
   exact hs _ _ x (mem_ix (by omega)) (mem_ix hl) a4 (by rw [e1,e2]) (ih i (by omega) (by omega))
 intro u hu
 obtain ⟨i,hi,rfl⟩:=ix_of hu
 exact go i i (Nat.le_refl _) hi
theorem GT.wy0 (g:GT step lst f):wy f 0=[]:=by unfold wy; rw [show ((0:Nat):Int)=0 from rfl,g.zero]; rfl
theorem GT.run (g:GT step lst f):∀ u∈lst,runW step 0 (wy f u)=some u:=
 g.ind (P:=fun u l=>runW step 0 l=some u) rfl fun u v x hu hv hs _ ih=>by
  rw [runW_app,ih]
  show runW step u [x]=some v
  unfold runW; rw [hs]; rfl
theorem GT.ok (g:GT step lst f):∀ u∈lst,Ok (wy f u):=
 g.ind (P:=fun _ l=>Ok l) (fun x hx=>by simp at hx) fun u v x hu hv hs _ ih=>ih.app fun y hy=>by
  rw [List.mem_singleton] at hy; subst hy; exact g.lt u hu _ _ hs
theorem GT.inj (g:GT step lst f) {u v:Nat} (hu:u∈lst) (hv:v∈lst) (h:wy f u=wy f v):u=v:=by
 have h1:=g.run u hu
 rw [h,g.run v hv] at h1
 exact (Option.some.inj h1).symm
theorem red_snoc2 {l:List Int} {y x:Int} (h:Red (l++[y])) (hn:y ≠ -x):Red (l++[y]++[x]):=fun i hi=>by
 simp only [List.length_append,List.length_singleton] at hi
 by_cases e:i + 1 < (l++[y]).length
 ·rw [getD_app1 (by omega),getD_app1 e]; exact h i e
 ·simp only [List.length_append,List.length_singleton] at e
  obtain rfl:i=l.length:=by omega
  rw [getD_app1 (by simp),getD_app2 (by simp),getD_app2 (by simp)]
  simpa using hn
theorem red_one (x:Int):Red [x]:=fun i hi=>by simp at hi
/-- Parents stand ahead. -/
theorem GT.par (g:GT step lst f) {j:Nat} (hj:j < lst.length) (h0:0 < j):∃ i x,i < j∧wy f (lst.getD j 0)=wy f (lst.getD i 0)++[x]∧step (lst.getD i 0) x=some (lst.getD j 0):=by
 obtain ⟨i,x,l,a1,a2,a3,a4⟩:=g.tree j hj h0
 refine ⟨i,x,a1,?_,a4⟩
 unfold wy; rw [a2,a3]; rfl
theorem GT.red (g:GT step lst f):∀ u∈lst,Red (wy f u):=by
 have go:∀ n j,j≤n→j < lst.length→Red (wy f (lst.getD j 0)):=by
  intro n
  induction n with
  | zero =>
   intro j hj hl
   obtain rfl:j=0:=by omega
   rw [g.ix0.2,g.wy0]
   exact fun i hi=>by simp at hi
  | succ n ih =>
   intro j hj hl
   by_cases h:j=0
   ·exact ih j (by omega) hl
   obtain ⟨i,x,a1,a2,a3⟩:=g.par hl (by omega)
   by_cases h2:i=0
   ·rw [a2,h2,g.ix0.2,g.wy0]; exact red_one x
   ·obtain ⟨k,y,b1,b2,b3⟩:=g.par (j:=i) (by omega) (by omega)
    have hr:=ih i (by omega) (by omega)
    rw [a2]
    rw [b2] at hr ⊢
    refine red_snoc2 hr fun e=>?_
    have hy:=g.nz (mem_ix (by omega)) b3
    have:=g.inv _ _ _ hy b3
    rw [show -y=x by omega,a3] at this
    have:=nd_ix g.nd hl (by omega) (Option.some.inj this)
    omega
 intro u hu
 obtain ⟨i,hi,rfl⟩:=ix_of hu
 exact go i i (Nat.le_refl _) hi

/-! ### Edges -/

def ltS (step:Nat→Int→Option Nat) (u:Nat):List Int:=((List.range 53).map fun i:Nat=>(i:Int) - 26).filter fun x=>(step u x).isSome
theorem mem_ltS {u:Nat} {x:Int} : x∈ltS step u↔(-26≤x∧x≤26)∧(step u x).isSome=true:=by
 unfold ltS
 rw [List.mem_filter]
 refine and_congr ?_ Iff.rfl
 rw [List.mem_map]
 constructor
 ·rintro ⟨i,hi,rfl⟩
  have:=List.mem_range.1 hi
  omega
 ·intro h
  exact ⟨(x + 26).toNat,List.mem_range.2 (by omega),by omega⟩
theorem ltS_nd (u:Nat):(ltS step u).Nodup:=
 List.Nodup.sublist List.filter_sublist (nodup_mapF List.nodup_range fun a _ b _ e=>by omega)
/-- Edges along letters above 0. -/
def PE (step:Nat→Int→Option Nat) (lst:List Nat):List (Nat × Int):=lst.flatMap fun u=>((ltS step u).filter fun x=>decide (0 < x)).map fun x=>(u,x)
theorem mem_PE (g:GT step lst f) {u:Nat} {x:Int} : (u,x)∈PE step lst↔u∈lst∧0 < x∧(step u x).isSome=true:=by
 unfold PE
 rw [List.mem_flatMap]
 constructor
 ·rintro ⟨v,hv,h⟩
  obtain ⟨y,hy,e⟩:=List.mem_map.1 h
  injection e with e1 e2
  subst e1; subst e2
  have:=List.mem_filter.1 hy
  exact ⟨hv,by simpa using this.2,(mem_ltS.1 this.1).2⟩
 ·rintro ⟨hu,hx,hs⟩
  refine ⟨u,hu,List.mem_map.2 ⟨x,List.mem_filter.2 ⟨mem_ltS.2 ⟨?_,hs⟩,by simpa using hx⟩,rfl⟩⟩
  obtain ⟨v,hv⟩:=Option.isSome_iff_exists.1 hs
  exact (g.lt u hu x v hv).2
theorem PE_nd (h:lst.Nodup):(PE step lst).Nodup:=
 nodup_flat h (fun u _=>nodup_mapF (List.Nodup.sublist List.filter_sublist (ltS_nd u)) fun a _ b _ e=>by injection e) fun u _ v _ z hz1 hz2=>by
  obtain ⟨a,_,rfl⟩:=List.mem_map.1 hz1
  obtain ⟨b,_,e⟩:=List.mem_map.1 hz2
  injection e with e _
  exact e.symm
def tgt (step:Nat→Int→Option Nat) (e:Nat × Int):Nat:=(step e.1 e.2).getD 0
/-- The word of an edge: to it, along it, and back. -/
def bw (step:Nat→Int→Option Nat) (f:Wy) (e:Nat × Int):List Int:=short (wy f e.1++[e.2]++back (wy f (tgt step e)))
def basS (step:Nat→Int→Option Nat) (lst:List Nat) (f:Wy):List (List Int):=((PE step lst).map (bw step f)).filter fun w=>decide (0 < w.length)
/-- Edges that are not of the tree. -/
def NT (step:Nat→Int→Option Nat) (lst:List Nat) (f:Wy):List (Nat × Int):=(PE step lst).filter fun e=>decide (0 < (bw step f e).length)
theorem basS_eq:basS step lst f=(NT step lst f).map (bw step f):=by
 unfold basS NT
 rw [List.filter_map]; rfl
theorem NT_nd (h:lst.Nodup):(NT step lst f).Nodup:=List.Nodup.sublist List.filter_sublist (PE_nd h)
theorem tgt_of {u v:Nat} {x:Int} (h:step u x=some v):tgt step (u,x)=v:=by unfold tgt; rw [h]; rfl
theorem PE_st (g:GT step lst f) {e:Nat × Int} (h:e∈PE step lst):e.1∈lst∧0 < e.2∧step e.1 e.2=some (tgt step e)∧tgt step e∈lst:=by
 obtain ⟨u,x⟩:=e
 obtain ⟨h1,h2,h3⟩:=(mem_PE g).1 h
 obtain ⟨v,hv⟩:=Option.isSome_iff_exists.1 h3
 rw [tgt_of hv]
 exact ⟨h1,h2,hv,g.cl u h1 x v hv⟩
theorem bw_nil (g:GT step lst f) {e:Nat × Int} (h:e∈PE step lst):(bw step f e=[]↔wy f (tgt step e)=wy f e.1++[e.2]∨wy f e.1=wy f (tgt step e)++[-e.2]):=by
 obtain ⟨h1,h2,h3,h4⟩:=PE_st g h
 have r1:=g.red _ h1
 have r2:=g.red _ h4
 have hs:short (wy f e.1++[e.2])=push (wy f e.1) e.2:=by
  rw [short_app,short_red r1]; rfl
 constructor
 ·intro hb
  have:=short_undo hb
  rw [hs,short_red r2] at this
  unfold push at this
  split at this
  ·rename_i hc
   right
   have:=take_last hc.1
   rw [hc.2] at this
   rename_i t
   rw [← t,this]
  ·exact .inl this.symm
 ·intro hb
  refine short_same ?_
  rw [hs,short_red r2]
  rcases hb with hb | hb
  ·rw [hb]
   unfold push
   rw [if_neg]
   rintro ⟨c1,c2⟩
   rw [hb] at r2
   have:=r2 ((wy f e.1).length - 1) (by simp; omega)
   rw [getD_app1 (by omega),getD_app2 (by omega),c2] at this
   rw [show (wy f e.1).length - 1 + 1 - (wy f e.1).length=0 by omega] at this
   exact this rfl
  ·unfold push
   rw [if_pos]
   ·rw [hb]; simp
   ·rw [hb]; simp
/-- The edge of the tree that leads to a place. -/
def teS (step:Nat→Int→Option Nat) (f:Wy) (c:Nat):Nat × Int:=
 let y:=(wy f c).getD ((wy f c).length - 1) 0
 if 0 < y then ((step c (-y)).getD 0,y) else (c,-y)
theorem teS_spec (g:GT step lst f) {j:Nat} (hj:j < lst.length) (h0:0 < j):∃ i x,i < j∧wy f (lst.getD j 0)=wy f (lst.getD i 0)++[x]∧step (lst.getD i 0) x=some (lst.getD j 0)∧teS step f (lst.getD j 0)=if 0 < x then (lst.getD i 0,x) else (lst.getD j 0,-x):=by
 obtain ⟨i,x,a1,a2,a3⟩:=g.par hj h0
 refine ⟨i,x,a1,a2,a3,?_⟩
 have hx:=g.nz (mem_ix (by omega)) a3
 have e:(wy f (lst.getD j 0)).getD ((wy f (lst.getD j 0)).length - 1) 0=x:=by rw [a2]; simp
 unfold teS
 simp only [e]
 split
 ·rw [g.inv _ _ _ hx a3]; rfl
 ·rfl
theorem tail_ix {l:List Nat} {c:Nat} : c∈l.tail↔∃ j,0 < j∧j < l.length∧l.getD j 0=c:=by
 cases l with
 | nil=>simp
 | cons a r =>
  simp only [List.tail_cons,List.length_cons]
  constructor
  ·intro h
   obtain ⟨i,hi,e⟩:=ix_of h
   exact ⟨i + 1,by omega,by omega,by simpa using e⟩
  ·rintro ⟨j,h1,h2,e⟩
   obtain ⟨k,rfl⟩:∃ k,j=k + 1:=⟨j - 1,by omega⟩
   rw [← e]
   have:(a :: r).getD (k + 1) 0=r.getD k 0:=by simp
   rw [this]; exact mem_ix (by omega)
/-- As many words has the basis as there are edges more than places, and one. -/
theorem basS_len (g:GT step lst f):(basS step lst f).length + lst.length=(PE step lst).length + 1:=by
 rw [basS_eq,List.length_map]
 have hT:((PE step lst).filter fun e=>!decide (0 < (bw step f e).length)).length=lst.length - 1:=by
  have e1:(lst.tail.map (teS step f)).length=lst.length - 1:=by simp
  rw [← e1]
  have hspec:∀ c∈lst.tail,∃ p x,p∈lst∧c∈lst∧wy f c=wy f p++[x]∧step p x=some c∧teS step f c=if 0 < x then (p,x) else (c,-x):=fun c hc=>by
   obtain ⟨j,j1,j2,rfl⟩:=tail_ix.1 hc
   obtain ⟨i,x,a1,a2,a3,a4⟩:=teS_spec g j2 j1
   exact ⟨_,x,mem_ix (by omega),mem_ix j2,a2,a3,a4⟩
  refine nd_eq (List.Nodup.sublist List.filter_sublist (PE_nd g.nd)) (nodup_mapF (List.Nodup.sublist (List.tail_sublist _) g.nd) ?_) fun e=>?_
  ·intro c hc d hd e
   obtain ⟨p,x,p1,p2,p3,p4,p5⟩:=hspec c hc
   obtain ⟨q,y,q1,q2,q3,q4,q5⟩:=hspec d hd
   rw [p5,q5] at e
   have hx:=g.nz p1 p4
   have hy:=g.nz q1 q4
   split at e<;>split at e
   ·injection e with e1 e2
    subst e1; subst e2
    rw [p4] at q4; exact Option.some.inj q4
   ·injection e with e1 e2
    subst e1
    have h1:=p3
    have h2:=q3
    have h3:=g.inv _ _ _ hy q4
    rw [← e2,p4] at h3
    obtain rfl:=Option.some.inj h3
    rw [h1] at h2
    have:=congrArg List.length h2
    simp at this
   ·injection e with e1 e2
    subst e1
    have h3:=g.inv _ _ _ hx p4
    rw [e2,q4] at h3
    obtain rfl:=Option.some.inj h3
    rw [p3] at q3
    have:=congrArg List.length q3
    simp at this
   ·injection e with e1 _
  ·rw [List.mem_filter,List.mem_map]
   constructor
   ·rintro ⟨h1,h2⟩
    have h2:bw step f e=[]:=by simpa using h2
    obtain ⟨s1,s2,s3,s4⟩:=PE_st g h1
    rcases (bw_nil g h1).1 h2 with h | h
    ·have hc:tgt step e∈lst.tail:=by
      obtain ⟨j,j1,j2⟩:=ix_of s4
      refine tail_ix.2 ⟨j,?_,j1,j2⟩
      rcases Nat.eq_zero_or_pos j with rfl | hj
      ·rw [g.ix0.2] at j2
       rw [← j2,g.wy0] at h
       have:=congrArg List.length h; simp at this
      ·exact hj
     refine ⟨_,hc,?_⟩
     obtain ⟨p,x,p1,p2,p3,p4,p5⟩:=hspec _ hc
     rw [h] at p3
     obtain ⟨t1,t2⟩:=List.append_inj' p3 rfl
     have t2:e.2=x:=by simpa using t2
     have t1:=g.inj s1 p1 t1
     rw [p5,← t1,← t2,if_pos s2]
    ·have hc:e.1∈lst.tail:=by
      obtain ⟨j,j1,j2⟩:=ix_of s1
      refine tail_ix.2 ⟨j,?_,j1,j2⟩
      rcases Nat.eq_zero_or_pos j with rfl | hj
      ·rw [g.ix0.2] at j2
       rw [← j2,g.wy0] at h
       have:=congrArg List.length h; simp at this
      ·exact hj
     refine ⟨_,hc,?_⟩
     obtain ⟨p,x,p1,p2,p3,p4,p5⟩:=hspec _ hc
     rw [h] at p3
     obtain ⟨t1,t2⟩:=List.append_inj' p3 rfl
     have t2 : -e.2=x:=by simpa using t2
     rw [p5,if_neg (by omega),show -x=e.2 by omega]
   ·rintro ⟨c,hc,rfl⟩
    obtain ⟨p,x,p1,p2,p3,p4,p5⟩:=hspec c hc
    have hx:=g.nz p1 p4
    rw [p5]
    split
    ·rename_i h
     have hm:(p,x)∈PE step lst:=(mem_PE g).2 ⟨p1,h,by rw [p4]; rfl⟩
     refine ⟨hm,?_⟩
     have:=(bw_nil g hm).2 (.inl (by rw [tgt_of p4]; exact p3))
     simp [this]
    ·rename_i h
     have hi:=g.inv _ _ _ hx p4
     have hm:(c,-x)∈PE step lst:=(mem_PE g).2 ⟨p2,by omega,by rw [hi]; rfl⟩
     refine ⟨hm,?_⟩
     have:=(bw_nil g hm).2 (.inr (by rw [tgt_of hi]; simp only [Int.neg_neg]; exact p3))
     simp [this]
 have hp:∀ l:List (Nat × Int),(l.filter fun e=>decide (0 < (bw step f e).length)).length + (l.filter fun e=>!decide (0 < (bw step f e).length)).length=l.length:=by
  intro l
  induction l with
  | nil=>rfl
  | cons a r ih =>
   simp only [List.filter_cons,List.length_cons]
   by_cases h:0 < (bw step f a).length
   ·simp only [h,decide_true,Bool.not_true,if_true]; simp only [List.length_cons]; simp; omega
   ·simp only [h,decide_false,Bool.not_false,if_true]; simp only [List.length_cons]; simp; omega
 have:=hp (PE step lst)
 rw [hT] at this
 have h0:=g.ix0.1
 unfold NT
 omega
end
end Go.Proofs.Ytneglephfhiamaa

/-
  Graphs with a tree of roads: ranks by values of two kinds; what the basis makes. Conditions: none.
-/
set_option linter.all false
namespace Go.Proofs.Ytneglephfhiamaa
open Go.Pv

def edg (u:Nat) (x:Int) (v:Nat):Nat × Int:=if 0 < x then (u,x) else (v,-x)
theorem edg_rev {u v:Nat} {x:Int} (h:x ≠ 0):edg v (-x) u=edg u x v:=by
 unfold edg
 by_cases h2:0 < x
 ·rw [if_neg (by omega),if_pos h2,Int.neg_neg]
 ·rw [if_pos (by omega),if_neg h2]
/-- Each place twice; edges with the value true lead to the other one. -/
def cov (step:Nat→Int→Option Nat) (D:Nat × Int→Bool):Nat × Bool→Int→Option (Nat × Bool):=fun c x=>(step c.1 x).map fun v=>(v,xor c.2 (D (edg c.1 x v)))
def par (step:Nat→Int→Option Nat) (D:Nat × Int→Bool):Nat→List Int→Bool
 | _,[]=>false
 | u,x :: w=>match step u x with | some v=>xor (D (edg u x v)) (par step D v w) | none=>false

section
variable {step:Nat→Int→Option Nat} {lst:List Nat} {f:Wy}
theorem cov_inv {D:Nat × Int→Bool} (hi:InvS step):InvS (cov step D):=fun c d x hx h=>by
 unfold cov at h ⊢
 obtain ⟨v,hv,e⟩:=Option.map_eq_some_iff.1 h
 subst e
 rw [hi _ _ _ hx hv]
 simp only [Option.map_some,edg_rev hx]
 obtain ⟨u,s⟩:=c
 simp
theorem run_cov {D:Nat × Int→Bool} : ∀ (w:List Int) (u:Nat) (s:Bool),runW (cov step D) (u,s) w=(runW step u w).map fun v=>(v,xor s (par step D u w))
 | [],u,s=>by simp [runW,par]
 | x :: w,u,s=>by
  have hc:cov step D (u,s) x=(step u x).map fun v=>(v,xor s (D (edg u x v))):=rfl
  unfold runW par
  rw [hc]
  cases e:step u x with
  | none=>rfl
  | some v =>
   simp only [Option.map_some]
   rw [run_cov w v]
   simp only [Bool.xor_assoc]
theorem par_xor {D E:Nat × Int→Bool} : ∀ (w:List Int) (u:Nat),par step (fun e=>xor (D e) (E e)) u w=xor (par step D u w) (par step E u w)
 | [],_=>rfl
 | x :: w,u=>by
  unfold par
  cases e:step u x with
  | none=>rfl
  | some v =>
   simp only
   rw [par_xor w v]
   cases D (edg u x v)<;>cases E (edg u x v)<;>cases par step D v w<;>cases par step E v w<;>rfl
theorem par_none {D:Nat × Int→Bool} : ∀ (w:List Int) (u v:Nat),runW step u w=some v→(∀ a x b m n,w=a++x :: b→runW step u a=some m→step m x=some n→runW step n b=some v→D (edg m x n)=false)→par step D u w=false
 | [],_,_,_,_=>rfl
 | x :: w,u,v,h,hd=>by
  unfold runW at h
  unfold par
  cases e:step u x with
  | none=>rfl
  | some n =>
   rw [e] at h
   simp only
   rw [hd [] x w u n rfl rfl e h,par_none w n v h fun a y b m k h1 h2 h3 h4=>hd (x :: a) y b m k (by rw [h1]; rfl) (by unfold runW; rw [e]; exact h2) h3 h4]
   rfl
theorem GT.edg_mem (g:GT step lst f) {u v:Nat} {x:Int} (hu:u∈lst) (h:step u x=some v):edg u x v∈PE step lst∧((0 < x∧edg u x v=(u,x))∨(x < 0∧edg u x v=(v,-x))):=by
 have hx:=g.nz hu h
 unfold edg
 split
 ·rename_i hp
  exact ⟨(mem_PE g).2 ⟨hu,hp,by rw [h]; rfl⟩,.inl ⟨hp,rfl⟩⟩
 ·refine ⟨(mem_PE g).2 ⟨g.cl u hu x v h,by omega,by rw [g.inv _ _ _ hx h]; rfl⟩,.inr ⟨by omega,rfl⟩⟩
theorem GT.tree_nil (g:GT step lst f) {u v:Nat} {x:Int} (hu:u∈lst) (h:step u x=some v) (hw:wy f v=wy f u++[x]):bw step f (edg u x v)=[]:=by
 have hx:=g.nz hu h
 obtain ⟨h1,⟨h2,e⟩ | ⟨h2,e⟩⟩:=g.edg_mem hu h
 ·refine (bw_nil g h1).2 (.inl ?_)
  rw [e,tgt_of h]; exact hw
 ·refine (bw_nil g h1).2 (.inr ?_)
  rw [e,tgt_of (g.inv _ _ _ hx h),hw,Int.neg_neg]
theorem GT.cov_way (g:GT step lst f) {D:Nat × Int→Bool} (hD:∀ e∈PE step lst,bw step f e=[]→D e=false) (s:Bool):∀ u∈lst,runW (cov step D) (0,s) (wy f u)=some (u,s):=
 g.ind (P:=fun u l=>runW (cov step D) (0,s) l=some (u,s)) rfl fun u v x hu hv hs hw ih=>by
  rw [runW_app,ih]
  show runW (cov step D) (u,s) [x]=some (v,s)
  unfold runW cov
  simp only [hs,Option.map_some]
  rw [hD _ (g.edg_mem hu hs).1 (g.tree_nil hu hs hw)]
  simp [runW]
theorem GT.cov_bw (g:GT step lst f) {D:Nat × Int→Bool} (hD:∀ e∈PE step lst,bw step f e=[]→D e=false) {e:Nat × Int} (he:e∈PE step lst):runW (cov step D) (0,false) (bw step f e)=some (0,D e):=by
 obtain ⟨h1,h2,h3,h4⟩:=PE_st g he
 have hz1:=(g.ok _ h1).nz
 have hz2:=(g.ok _ h4).nz
 unfold bw
 refine run_short (cov_inv g.inv) ((hz1.app (fun y hy=>by rw [List.mem_singleton] at hy; omega)).app hz2.back) ?_
 have hb:=run_back (cov_inv (D:=D) g.inv) hz2 (g.cov_way hD (D e) _ h4)
 rw [runW_app,runW_app,g.cov_way hD false _ h1]
 show (runW (cov step D) (e.1,false) [e.2]).bind _=_
 have:runW (cov step D) (e.1,false) [e.2]=some (tgt step e,D e):=by
  unfold runW cov
  simp only [h3,Option.map_some]
  unfold edg
  rw [if_pos h2]
  simp [runW]
 rw [this]
 exact hb
theorem GT.run_bw (g:GT step lst f) {e:Nat × Int} (he:e∈PE step lst):runW step 0 (bw step f e)=some 0:=by
 have:=g.cov_bw (D:=fun _=>false) (fun _ _ _=>rfl) he
 rw [run_cov] at this
 obtain ⟨v,hv,e⟩:=Option.map_eq_some_iff.1 this
 injection e with e _
 rw [hv,e]

open Classical in
noncomputable def pwB (B:List (Nat × Int)) (p:List Bool) (e:Nat × Int):Bool:=if e∈B then p.getD (B.idxOf e) false else false
theorem idx_nd {α:Type} [BEq α] [LawfulBEq α]:∀ {l:List α},l.Nodup→∀ i (h:i < l.length),l.idxOf l[i]=i
 | [],_,i,h=>absurd h (Nat.not_lt_zero _)
 | a :: l,hn,0,_=>by simp [List.idxOf_cons]
 | a :: l,hn,i + 1,h=>by
  have hn2:=List.nodup_cons.1 hn
  have h' : i < l.length:=by simpa using h
  have hne:a ≠ l[i]:=fun e=>hn2.1 (e ▸ List.getElem_mem h')
  rw [List.getElem_cons_succ,List.idxOf_cons,idx_nd hn2.2 i h',beq_false_of_ne hne]; rfl
/-- So many words make what so many edges ask. -/
theorem rank_aux (g:GT step lst f) {B:List (Nat × Int)} (hB:B.Nodup) (hN:∀ e∈B,e∈NT step lst f) {S:List (List Int)} (hc:∀ s∈S,runW step 0 s=some 0) (hm:∀ e∈B,Mem S (bw step f e)) (q:List Int→Bool)
  (hq:∀ s∈S,q s=false→∀ D:Nat × Int→Bool,(∀ e,e ∉ B→D e=false)→par step D 0 s=false):B.length≤(S.filter q).length:=by
 classical
 refine php (fun p=>(S.filter q).map fun s=>par step (pwB B p) 0 s) (fun p=>by simp) fun p p2 hp hp2 he=>?_
 obtain ⟨D,hD⟩:∃ D:Nat × Int→Bool,D=fun e=>xor (pwB B p e) (pwB B p2 e):=⟨_,rfl⟩
 have hsup:∀ e,e ∉ B→D e=false:=fun e h=>by rw [hD]; unfold pwB; simp only [if_neg h]; rfl
 have hz:∀ s∈S,par step D 0 s=false:=fun s hs=>by
  by_cases h:q s=true
  ·have:=List.map_inj_left.1 he s (List.mem_filter.2 ⟨hs,h⟩)
   rw [hD,par_xor,this]; simp
  ·exact hq s hs (by simpa using h) D hsup
 have hcl:∀ s∈S,runW (cov step D) (0,false) s=some (0,false):=fun s hs=>by
  rw [run_cov,hc s hs,hz s hs]; rfl
 have hD0:∀ e∈B,D e=false:=fun e he=>by
  have hn:=hN e he
  unfold NT at hn
  have h1:=hm e he _ (cov step D) (0,false) (cov_inv g.inv) hcl
  rw [g.cov_bw (fun e' _ hb=>hsup e' fun hm=>by
   have:=hN e' hm
   unfold NT at this
   have:=(List.mem_filter.1 this).2
   rw [hb] at this; simp at this) (List.mem_filter.1 hn).1] at h1
  have:=Option.some.inj h1
  injection this
 refine List.ext_getElem (by rw [hp,hp2]) fun i h1 h2=>?_
 have hi:i < B.length:=by omega
 have h3:=hD0 _ (List.getElem_mem hi)
 rw [hD] at h3
 simp only [pwB,if_pos (List.getElem_mem hi),idx_nd hB i hi,List.getD_eq_getElem?_getD,List.getElem?_eq_getElem h1,List.getElem?_eq_getElem h2,Option.getD_some] at h3
 revert h3
 cases p[i]<;>cases p2[i]<;>simp
theorem rank_le (g:GT step lst f) {S:List (List Int)} (hc:∀ s∈S,runW step 0 s=some 0) (hm:∀ e∈NT step lst f,Mem S (bw step f e)):(basS step lst f).length≤S.length:=by
 have:=rank_aux g (NT_nd g.nd) (fun e h=>h) hc hm (fun _=>true) (fun s _ h=>by cases h)
 rw [basS_eq,List.length_map]
 rwa [List.filter_eq_self.2 (fun _ _=>rfl)] at this

/-! ### How long the basis is -/

theorem sum_le:∀ (k:Nat) {a b:List Nat},(∀ x∈a,x≤k)→(∀ x∈b,x≤k)→(∀ j,(a.filter fun x=>decide (j < x)).length≤(b.filter fun x=>decide (j < x)).length)→a.sum≤b.sum:=by
 have key:∀ (k:Nat) (a:List Nat),(∀ x∈a,x≤k + 1)→a.sum=(a.map fun x=>min x k).sum + (a.filter fun x=>decide (k < x)).length:=by
  intro k a
  induction a with
  | nil=>intro _; rfl
  | cons x r ih =>
   intro h
   have:=ih fun y hy=>h y (by simp [hy])
   have hx:=h x (by simp)
   simp only [List.sum_cons,List.map_cons,List.filter_cons]
   by_cases hk:k < x
   ·rw [if_pos (by simpa using hk),List.length_cons,Nat.min_eq_right (by omega)]; omega
   ·rw [if_neg (by simpa using hk),Nat.min_eq_left (by omega)]; omega
 have cnt:∀ (k j:Nat) (a:List Nat),((a.map fun x=>min x k).filter fun x=>decide (j < x)).length=if j < k then (a.filter fun x=>decide (j < x)).length else 0:=by
  intro k j a
  induction a with
  | nil=>simp
  | cons x r ih =>
   simp only [List.map_cons,List.filter_cons]
   by_cases hk:j < k
   ·rw [if_pos hk] at ih ⊢
    by_cases hx:j < x
    ·rw [if_pos (by simp; omega),if_pos (by simpa using hx),List.length_cons,List.length_cons,ih]
    ·rw [if_neg (by simp; omega),if_neg (by simpa using hx),ih]
   ·rw [if_neg hk] at ih ⊢
    rw [if_neg (by simp; omega),ih]
 intro k
 induction k with
 | zero =>
  intro a b ha hb _
  have:a.sum=0:=by
   clear hb
   rename_i hx
   clear hx
   induction a with
   | nil=>rfl
   | cons x r ih=>rw [List.sum_cons,ih fun y hy=>ha y (by simp [hy])]; have:=ha x (by simp); omega
  omega
 | succ k ih =>
  intro a b ha hb h
  rw [key k a ha,key k b hb]
  refine Nat.add_le_add (ih (fun x hx=>?_) (fun x hx=>?_) fun j=>?_) (h k)
  ·obtain ⟨y,_,rfl⟩:=List.mem_map.1 hx; exact Nat.min_le_right _ _
  ·obtain ⟨y,_,rfl⟩:=List.mem_map.1 hx; exact Nat.min_le_right _ _
  ·rw [cnt,cnt]
   split
   ·exact h j
   ·exact Nat.le_refl _
def cst (step:Nat→Int→Option Nat) (f:Wy) (e:Nat × Int):Nat:=(wy f e.1).length + 1 + (wy f (tgt step e)).length
theorem bw_cst (e:Nat × Int):(bw step f e).length≤cst step f e:=by
 unfold bw cst
 refine Nat.le_trans (short_len _) ?_
 simp only [List.length_append,List.length_singleton,back_len]; omega
theorem rank_far (g:GT step lst f) (hf:∀ u∈lst,∀ w,runW step 0 w=some u→(wy f u).length≤w.length) {S:List (List Int)} (hS:∀ s∈S,Nz s) (hc:∀ s∈S,runW step 0 s=some 0) (hm:∀ e∈NT step lst f,Mem S (bw step f e)) (k:Nat) :
  ((NT step lst f).filter fun e=>decide (k < cst step f e)).length≤(S.filter fun s=>decide (k < s.length)).length:=by
 have hin:∀ (w:List Int) (u v:Nat),u∈lst→runW step u w=some v→v∈lst:=by
  intro w
  induction w with
  | nil=>intro u v hu h; obtain rfl:=Option.some.inj h; exact hu
  | cons x w ih =>
   intro u v hu h
   unfold runW at h
   cases e:step u x with
   | none=>rw [e] at h; cases h
   | some m=>rw [e] at h; exact ih m v (g.cl u hu x m e) h
 refine rank_aux g (List.Nodup.sublist List.filter_sublist (NT_nd g.nd)) (fun e h=>(List.mem_filter.1 h).1) hc (fun e h=>hm e (List.mem_filter.1 h).1) _ fun s hs hk D hD=>?_
 refine par_none s 0 0 (hc s hs) fun a x b m n h1 h2 h3 h4=>hD _ fun hmem=>?_
 have hml:=hin a 0 m g.mem0 h2
 have hnl:=g.cl m hml x n h3
 have hk:s.length≤k:=by simpa using hk
 have hc2:=(List.mem_filter.1 hmem).2
 have hx:=g.nz hml h3
 have hb:=run_back g.inv (w:=b) (fun y hy=>hS s hs y (by rw [h1]; simp [hy])) h4
 have l1:=hf m hml a h2
 have l2:=hf n hnl _ hb
 rw [back_len] at l2
 have hl:s.length=a.length + 1 + b.length:=by rw [h1]; simp; omega
 have:cst step f (edg m x n)≤s.length:=by
  obtain ⟨_,⟨_,e⟩ | ⟨_,e⟩⟩:=g.edg_mem hml h3
  ·rw [e]; unfold cst; rw [tgt_of h3]; simp only; omega
  ·rw [e]; unfold cst; rw [tgt_of (g.inv _ _ _ hx h3)]; simp only; omega
 have hc2:k < cst step f (edg m x n):=by simpa using hc2
 omega
/-- The basis is no longer than what makes the subgroup. -/
theorem bas_tot (g:GT step lst f) (hf:∀ u∈lst,∀ w,runW step 0 w=some u→(wy f u).length≤w.length) {S:List (List Int)} (hS:∀ s∈S,Nz s) (hc:∀ s∈S,runW step 0 s=some 0) (hm:∀ e∈NT step lst f,Mem S (bw step f e)) :
  ((basS step lst f).map List.length).sum≤(S.map List.length).sum:=by
 have h1:((basS step lst f).map List.length).sum≤((NT step lst f).map (cst step f)).sum:=by
  rw [basS_eq,List.map_map]
  generalize NT step lst f=L
  induction L with
  | nil=>exact Nat.le_refl _
  | cons e r ih=>simp only [List.map_cons,List.sum_cons]; exact Nat.add_le_add (bw_cst e) ih
 refine Nat.le_trans h1 ?_
 have ub:∀ a:List Nat,∃ k,∀ x∈a,x≤k:=fun a=>⟨a.sum,fun x hx=>by
  induction a with
  | nil=>cases hx
  | cons y r ih =>
   rw [List.sum_cons]
   rcases List.mem_cons.1 hx with rfl | hx
   ·omega
   ·have:=ih hx; omega⟩
 obtain ⟨k1,hk1⟩:=ub ((NT step lst f).map (cst step f))
 obtain ⟨k2,hk2⟩:=ub (S.map List.length)
 refine sum_le (k1 + k2) (fun x hx=>Nat.le_trans (hk1 x hx) (by omega)) (fun x hx=>Nat.le_trans (hk2 x hx) (by omega)) fun j=>?_
 have e:∀ {α:Type} (l:List α) (h:α→Nat),((l.map h).filter fun x=>decide (j < x)).length=(l.filter fun a=>decide (j < h a)).length:=fun l h=>by
  rw [List.filter_map,List.length_map]; rfl
 rw [e,e]
 exact rank_far g hf hS hc hm j
end
end Go.Proofs.Ytneglephfhiamaa

/-
  Actions of words that are whole; what a basis makes; bases are free. Conditions: none.
-/
set_option linter.all false
namespace Go.Proofs.Ytneglephfhiamaa
open Go.Pv

def InvT {X:Type} (T:X→Int→X):Prop:=∀ c x,x ≠ 0→T (T c x) (-x)=c
/-- A word that leads back wherever the words do, by whole actions. -/
def MemT (S:List (List Int)) (w:List Int):Prop:=∀ (X:Type) (T:X→Int→X) (x0:X),InvT T→(∀ s∈S,s.foldl T x0=x0)→w.foldl T x0=x0

section
variable {X:Type} {T:X→Int→X}
theorem InvT.part (h:InvT T):InvS fun c x=>some (T c x):=fun c d x hx e=>by
 obtain rfl:=Option.some.inj e
 exact congrArg some (h c x hx)
theorem runT_eq:∀ (w:List Int) (c:X),runW (fun c x=>some (T c x)) c w=some (w.foldl T c)
 | [],_=>rfl
 | x :: w,c=>by unfold runW; exact runT_eq w _
theorem runT_short (h:InvT T) {w:List Int} (hz:Nz w) (c:X):(short w).foldl T c=w.foldl T c:=by
 have:=run_short h.part hz (runT_eq (T:=T) w c)
 rw [runT_eq] at this
 exact Option.some.inj this
theorem runT_back (h:InvT T) {w:List Int} (hz:Nz w) (c:X):(back w).foldl T (w.foldl T c)=c:=by
 have:=run_back h.part hz (runT_eq (T:=T) w c)
 rw [runT_eq] at this
 exact Option.some.inj this
theorem runT_back2 (h:InvT T) {w:List Int} (hz:Nz w) (c:X):w.foldl T ((back w).foldl T c)=c:=by
 have:=runT_back h hz.back c
 rwa [back_back] at this
end
theorem MemT.app {S:List (List Int)} {v w:List Int} (h:MemT S v) (h2:MemT S w):MemT S (v++w):=fun X T x0 hi hc=>by
 rw [List.foldl_append,h X T x0 hi hc,h2 X T x0 hi hc]
theorem MemT.back {S:List (List Int)} {v:List Int} (hz:Nz v) (h:MemT S v):MemT S (back v):=fun X T x0 hi hc=>by
 have:=runT_back hi hz x0
 rwa [h X T x0 hi hc] at this
theorem MemT.short {S:List (List Int)} {v:List Int} (hz:Nz v) (h:MemT S v):MemT S (short v):=fun X T x0 hi hc=>by
 rw [runT_short hi hz,h X T x0 hi hc]
theorem MemT.of {S:List (List Int)} {v:List Int} (h:v∈S):MemT S v:=fun X T x0 hi hc=>hc v h
theorem MemT.trans {S S' : List (List Int)} {v:List Int} (h:MemT S' v) (h2:∀ s∈S',MemT S s):MemT S v:=fun X T x0 hi hc=>h X T x0 hi fun s hs=>h2 s hs X T x0 hi hc

/-! ### An action in part made whole: what leads nowhere leads into a hair -/

abbrev Cp {X:Type} (step:X→Int→Option X):Type:={ p:X × List Int // Red p.2∧∀ x r,p.2=x :: r→step p.1 x=none }
theorem push_ne {y:Int} {r:List Int} {x z:Int} {s:List Int} (h:push (y :: r) x=z :: s):z=y:=by
 unfold push at h
 split at h
 ·cases r with
  | nil=>simp at h
  | cons a r =>
   simp only [List.length_cons,Nat.add_sub_cancel,List.take_succ_cons] at h
   injection h with h _
   exact h.symm
 ·injection h with h _
  exact h.symm
def stC {X:Type} (step:X→Int→Option X) (p:Cp step) (x:Int):Cp step:=
 if hn:p.1.2=[] then
  match h:step p.1.1 x with
  | some d=>⟨(d,[]),⟨fun i hi=>by simp at hi,fun _ _ e=>by cases e⟩⟩
  | none=>⟨(p.1.1,[x]),⟨red_one x,fun z r e=>by injection e with e _; rw [← e]; exact h⟩⟩
 else ⟨(p.1.1,push p.1.2 x),⟨red_push p.2.1,fun z s e=>by
  match hp:p.1.2 with
  | []=>exact absurd hp hn
  | y :: r =>
   rw [hp] at e
   rw [push_ne e]
   exact p.2.2 y r hp⟩⟩
section
variable {X:Type} {step:X→Int→Option X}
theorem stC_some {p:Cp step} {x:Int} {d:X} (h:p.1.2=[]) (hs:step p.1.1 x=some d):(stC step p x).1=(d,[]):=by
 unfold stC
 rw [dif_pos h]
 split
 ·rename_i e; rw [hs] at e; obtain rfl:=Option.some.inj e; rfl
 ·rename_i e; rw [hs] at e; cases e
theorem stC_none {p:Cp step} {x:Int} (h:p.1.2=[]) (hs:step p.1.1 x=none):(stC step p x).1=(p.1.1,[x]):=by
 unfold stC
 rw [dif_pos h]
 split
 ·rename_i e; rw [hs] at e; cases e
 ·rfl
theorem stC_push {p:Cp step} {x:Int} (h:p.1.2 ≠ []):(stC step p x).1=(p.1.1,push p.1.2 x):=by
 unfold stC
 rw [dif_neg h]
theorem push_nil (x:Int):push [] x=[x]:=by unfold push; simp
theorem push_one (x:Int):push [x] (-x)=[]:=by
 have:=push_cancel (o:=[]) x (fun i hi=>by simp at hi)
 rwa [push_nil] at this
theorem stC_inv (hi:InvS step):InvT (stC step):=fun p x hx=>by
 refine Subtype.ext ?_
 by_cases h:p.1.2=[]
 ·cases hs:step p.1.1 x with
  | some d =>
   have h1:=stC_some h hs
   have h2:step (stC step p x).1.1 (-x)=some p.1.1:=by rw [h1]; exact hi _ _ _ hx hs
   rw [stC_some (by rw [h1]) h2,← h]
  | none =>
   have h1:=stC_none h hs
   rw [stC_push (by rw [h1]; simp),h1]
   simp only [push_one]
   rw [← h]
 ·have h1:=stC_push (x:=x) h
  by_cases h2:push p.1.2 x=[]
  ·have h3:=push_cancel x p.2.1
   rw [h2,push_nil] at h3
   have h4:step p.1.1 (-x)=none:=p.2.2 (-x) [] h3.symm
   rw [stC_none (by rw [h1]; exact h2) (by rw [h1]; exact h4),h1]
   simp only [h3]
  ·rw [stC_push (by rw [h1]; exact h2),h1]
   simp only [push_cancel x p.2.1]
def inC (step:X→Int→Option X) (c:X):Cp step:=⟨(c,[]),⟨fun i hi=>by simp at hi,fun _ _ e=>by cases e⟩⟩
theorem runC_in:∀ {w:List Int} {c d:X},runW step c w=some d→w.foldl (stC step) (inC step c)=inC step d
 | [],c,d,h=>by obtain rfl:=Option.some.inj h; rfl
 | x :: w,c,d,h=>by
  unfold runW at h
  cases e:step c x with
  | none=>rw [e] at h; cases h
  | some m =>
   rw [e] at h
   have h1:stC step (inC step c) x=inC step m:=Subtype.ext (stC_some (p:=inC step c) rfl e)
   rw [List.foldl_cons,h1]
   exact runC_in h
theorem red_tail {x:Int} {w:List Int} (h:Red (x :: w)):Red w:=fun i hi=>by
 have:=h (i + 1) (by simp only [List.length_cons]; omega)
 simpa using this
theorem red_head {l:List Int} {x:Int} {w:List Int} (h:Red (l++x :: w)) (hl:l ≠ []):push l x=l++[x]:=by
 unfold push
 rw [if_neg]
 rintro ⟨h1,h2⟩
 have:=h (l.length - 1) (by simp; omega)
 rw [getD_app1 (by omega),getD_app2 (by omega),h2,show l.length - 1 + 1 - l.length=0 by omega] at this
 exact this rfl
theorem runC_hair:∀ (w:List Int) (p:Cp step),p.1.2 ≠ []→Red (p.1.2++w)→(w.foldl (stC step) p).1=(p.1.1,p.1.2++w)
 | [],p,_,_=>by simp
 | x :: w,p,hp,hr=>by
  have h1:=stC_push (x:=x) hp
  rw [red_head hr hp] at h1
  rw [List.foldl_cons,runC_hair w _ (by rw [h1]; simp) (by rw [h1]; simpa using hr),h1]
  simp
/-- A reduced word that leads from a place to a place never leaves. -/
theorem runC_out:∀ {w:List Int} {c d:X},Red w→w.foldl (stC step) (inC step c)=inC step d→runW step c w=some d
 | [],c,d,_,h=>by
  have:=congrArg (fun p:Cp step=>p.1.1) h
  exact congrArg some this
 | x :: w,c,d,hr,h=>by
  rw [List.foldl_cons] at h
  unfold runW
  cases e:step c x with
  | some m =>
   have h1:stC step (inC step c) x=inC step m:=Subtype.ext (stC_some (p:=inC step c) rfl e)
   rw [h1] at h
   exact runC_out (red_tail hr) h
  | none =>
   have h1:=stC_none (p:=inC step c) rfl e
   have h2:=runC_hair w (stC step (inC step c) x) (by rw [h1]; simp) (by rw [h1]; exact hr)
   rw [h,h1] at h2
   have:=congrArg Prod.snd h2
   cases this
end
theorem memT_mem {S:List (List Int)} {w:List Int} (h:MemT S w) (hr:Red w):Mem S w:=fun X step x0 hi hc =>
 runC_out hr (h _ (stC step) (inC step x0) (stC_inv hi) fun s hs=>runC_in (hc s hs))

section
variable {step:Nat→Int→Option Nat} {lst:List Nat} {f:Wy}
theorem basS_mem {w:List Int} : w∈basS step lst f↔∃ e∈PE step lst,bw step f e=w∧w ≠ []:=by
 unfold basS
 rw [List.mem_filter,List.mem_map]
 constructor
 ·rintro ⟨⟨e,he,h⟩,h2⟩
  exact ⟨e,he,h,fun h3=>by rw [h3] at h2; simp at h2⟩
 ·rintro ⟨e,he,h,h2⟩
  refine ⟨⟨e,he,h⟩,?_⟩
  cases w with
  | nil=>exact absurd rfl h2
  | cons=>simp
theorem GT.bas_run (g:GT step lst f) {w:List Int} (h:w∈basS step lst f):runW step 0 w=some 0:=by
 obtain ⟨e,he,rfl,_⟩:=basS_mem.1 h
 exact g.run_bw he
theorem GT.bas_red {w:List Int} (h:w∈basS step lst f):Red w:=by
 obtain ⟨e,he,rfl,_⟩:=basS_mem.1 h
 exact red_short _
theorem GT.bw_ok (g:GT step lst f) {e:Nat × Int} (he:e∈PE step lst):Ok (wy f e.1++[e.2]++back (wy f (tgt step e))):=by
 obtain ⟨h1,h2,h3,h4⟩:=PE_st g he
 exact ((g.ok _ h1).app (fun y hy=>by rw [List.mem_singleton] at hy; subst hy; exact g.lt _ h1 _ _ h3)).app (g.ok _ h4).back
theorem GT.bas_ok (g:GT step lst f) {w:List Int} (h:w∈basS step lst f):Ok w:=by
 obtain ⟨e,he,rfl,_⟩:=basS_mem.1 h
 exact (g.bw_ok he).short
/-- Roads by a whole action that the basis leaves where it is. -/
theorem GT.act (g:GT step lst f) {X:Type} {T:X→Int→X} {x0:X} (hi:InvT T) (hc:∀ s∈basS step lst f,s.foldl T x0=x0) {u v:Nat} {x:Int} (hu:u∈lst) (h:step u x=some v):T ((wy f u).foldl T x0) x=(wy f v).foldl T x0:=by
 have pos:∀ e∈PE step lst,T ((wy f e.1).foldl T x0) e.2=(wy f (tgt step e)).foldl T x0:=fun e he=>by
  have hb:(bw step f e).foldl T x0=x0:=by
   by_cases h0:bw step f e=[]
   ·rw [h0]; rfl
   ·exact hc _ (basS_mem.2 ⟨e,he,rfl,h0⟩)
  obtain ⟨h1,h2,h3,h4⟩:=PE_st g he
  have hz:=(g.ok _ h4).nz
  unfold bw at hb
  rw [runT_short hi (g.bw_ok he).nz,List.foldl_append,List.foldl_append] at hb
  have:=runT_back2 hi hz (List.foldl T (List.foldl T x0 (wy f e.1)) [e.2])
  rw [hb] at this
  exact this.symm
 have hx:=g.nz hu h
 obtain ⟨h1,⟨h2,e⟩ | ⟨h2,e⟩⟩:=g.edg_mem hu h
 ·have:=pos _ h1
  rw [e,tgt_of h] at this
  exact this
 ·have:=pos _ h1
  rw [e,tgt_of (g.inv _ _ _ hx h)] at this
  simp only at this
  rw [← this]
  have h3:=hi ((wy f v).foldl T x0) (-x) (by omega)
  rwa [Int.neg_neg] at h3
theorem GT.inL (g:GT step lst f):∀ {w:List Int} {u v:Nat},u∈lst→runW step u w=some v→v∈lst
 | [],u,v,hu,h=>by obtain rfl:=Option.some.inj h; exact hu
 | x :: w,u,v,hu,h=>by
  unfold runW at h
  cases e:step u x with
  | none=>rw [e] at h; cases h
  | some m=>rw [e] at h; exact g.inL (g.cl u hu x m e) h
theorem GT.actW (g:GT step lst f) {X:Type} {T:X→Int→X} {x0:X} (hi:InvT T) (hc:∀ s∈basS step lst f,s.foldl T x0=x0):∀ {w:List Int} {u v:Nat},u∈lst→runW step u w=some v→w.foldl T ((wy f u).foldl T x0)=(wy f v).foldl T x0
 | [],u,v,hu,h=>by obtain rfl:=Option.some.inj h; rfl
 | x :: w,u,v,hu,h=>by
  unfold runW at h
  cases e:step u x with
  | none=>rw [e] at h; cases h
  | some m=>rw [e] at h; rw [List.foldl_cons,g.act hi hc hu e]; exact g.actW hi hc (g.cl u hu x m e) h
/-- What leads back is made by the basis. -/
theorem GT.gen (g:GT step lst f) {w:List Int} (h:runW step 0 w=some 0):MemT (basS step lst f) w:=fun X T x0 hi hc=>by
 have:=g.actW hi hc g.mem0 h
 rwa [g.wy0] at this
theorem GT.genR (g:GT step lst f) {w:List Int} (h:runW step 0 w=some 0) (hr:Red w):Mem (basS step lst f) w:=memT_mem (g.gen h) hr

/-! ### A basis is free -/

/-- Places, and words of numbers of edges. -/
def frS (step:Nat→Int→Option Nat) (B:List (Nat × Int)):Nat × { l:List Int // Red l }→Int→Option (Nat × { l:List Int // Red l }):=fun c x=>(step c.1 x).map fun v =>
 (v,if edg c.1 x v∈B then ⟨push c.2.1 (if 0 < x then (B.idxOf (edg c.1 x v):Int) + 1 else -((B.idxOf (edg c.1 x v):Int) + 1)),red_push c.2.2⟩ else c.2)
theorem frS_inv {B:List (Nat × Int)} (hi:InvS step):InvS (frS step B):=fun c d x hx h=>by
 unfold frS at h ⊢
 obtain ⟨v,hv,e⟩:=Option.map_eq_some_iff.1 h
 subst e
 rw [hi _ _ _ hx hv]
 simp only [Option.map_some,edg_rev hx]
 obtain ⟨u,l,hl⟩:=c
 by_cases hB:edg u x v∈B
 ·simp only [if_pos hB]
  refine congrArg some (Prod.ext rfl (Subtype.ext ?_))
  show push (push l _) _=l
  by_cases h2:0 < x
  ·rw [if_pos h2,if_neg (by omega)]; exact push_cancel _ hl
  ·rw [if_neg h2,if_pos (by omega)]
   have:=push_cancel (-((B.idxOf (edg u x v):Int) + 1)) hl
   rwa [Int.neg_neg] at this
 ·simp only [if_neg hB]
theorem GT.fr_way (g:GT step lst f) (c : { l:List Int // Red l }):∀ u∈lst,runW (frS step (NT step lst f)) (0,c) (wy f u)=some (u,c):=
 g.ind (P:=fun u l=>runW (frS step (NT step lst f)) (0,c) l=some (u,c)) rfl fun u v x hu hv hs hw ih=>by
  rw [runW_app,ih]
  show runW (frS step (NT step lst f)) (u,c) [x]=some (v,c)
  have hn:edg u x v ∉ NT step lst f:=fun hm=>by
   have:=(List.mem_filter.1 hm).2
   rw [g.tree_nil hu hs hw] at this; simp at this
  unfold runW frS
  simp only [hs,Option.map_some,if_neg hn]
  rfl
theorem GT.fr_bw (g:GT step lst f) (c : { l:List Int // Red l }) {e:Nat × Int} (he:e∈NT step lst f):runW (frS step (NT step lst f)) (0,c) (bw step f e)=some (0,⟨push c.1 ((NT step lst f).idxOf e + 1),red_push c.2⟩):=by
 have hp:=(List.mem_filter.1 he).1
 obtain ⟨h1,h2,h3,h4⟩:=PE_st g hp
 have hz1:=(g.ok _ h1).nz
 have hz2:=(g.ok _ h4).nz
 unfold bw
 refine run_short (frS_inv g.inv) (g.bw_ok hp).nz ?_
 have hb:=run_back (frS_inv (B:=NT step lst f) g.inv) hz2 (g.fr_way ⟨push c.1 ((NT step lst f).idxOf e + 1),red_push c.2⟩ _ h4)
 rw [runW_app,runW_app,g.fr_way c _ h1]
 show (runW (frS step (NT step lst f)) (e.1,c) [e.2]).bind _=_
 have hed:edg e.1 e.2 (tgt step e)=e:=by unfold edg; rw [if_pos h2]
 have:runW (frS step (NT step lst f)) (e.1,c) [e.2]=some (tgt step e,⟨push c.1 ((NT step lst f).idxOf e + 1),red_push c.2⟩):=by
  unfold runW frS
  simp only [h3,Option.map_some,hed,if_pos he,if_pos h2]
  rfl
 rw [this]
 exact hb
/-- Words of the basis, by their numbers. -/
def basW (b:List (List Int)) (w:List Int):List Int:=w.flatMap fun k=>if 0 < k then b.getD (k.toNat - 1) [] else back (b.getD ((-k).toNat - 1) [])
theorem GT.free (g:GT step lst f) {w:List Int} (hr:Red w) (hk:∀ k∈w,k ≠ 0∧k≤(basS step lst f).length∧-k≤(basS step lst f).length) (hw:w ≠ []):short (basW (basS step lst f) w) ≠ []:=by
 have hlen:(basS step lst f).length=(NT step lst f).length:=by rw [basS_eq,List.length_map]
 have hb:∀ j,j < (NT step lst f).length→∀ c,runW (frS step (NT step lst f)) (0,c) ((basS step lst f).getD j [])=some (0,⟨push c.1 (j + 1),red_push c.2⟩):=fun j hj c=>by
  have e:(basS step lst f).getD j []=bw step f (NT step lst f)[j]:=by
   rw [basS_eq,List.getD_eq_getElem?_getD,List.getElem?_map,List.getElem?_eq_getElem hj]; rfl
  rw [e,g.fr_bw c (List.getElem_mem hj)]
  have:=idx_nd (NT_nd (step:=step) (f:=f) g.nd) j hj
  simp only [this]
 have hbz:∀ j,j < (NT step lst f).length→Nz ((basS step lst f).getD j []):=fun j hj=>by
  have:(basS step lst f).getD j []∈basS step lst f:=by
   rw [List.getD_eq_getElem?_getD,List.getElem?_eq_getElem (by omega)]; exact List.getElem_mem _
  exact (g.bas_ok this).nz
 have go:∀ (w:List Int) (o:List Int) (ho:Red o),(∀ k∈w,k ≠ 0∧k≤(basS step lst f).length∧-k≤(basS step lst f).length)→∃ h,runW (frS step (NT step lst f)) (0,⟨o,ho⟩) (basW (basS step lst f) w)=some (0,⟨w.foldl push o,h⟩):=by
  intro w
  induction w with
  | nil=>intro o ho _; exact ⟨ho,rfl⟩
  | cons k w ih =>
   intro o ho hk
   obtain ⟨k1,k2,k3⟩:=hk k (by simp)
   obtain ⟨h,hh⟩:=ih (push o k) (red_push ho) fun y hy=>hk y (by simp [hy])
   refine ⟨h,?_⟩
   have e:basW (basS step lst f) (k :: w)=(if 0 < k then (basS step lst f).getD (k.toNat - 1) [] else back ((basS step lst f).getD ((-k).toNat - 1) []))++basW (basS step lst f) w:=by
    unfold basW; rw [List.flatMap_cons]
   have h1:runW (frS step (NT step lst f)) (0,⟨o,ho⟩) (if 0 < k then (basS step lst f).getD (k.toNat - 1) [] else back ((basS step lst f).getD ((-k).toNat - 1) []))=some (0,⟨push o k,red_push ho⟩):=by
    split
    ·rename_i hp
     rw [hb _ (by omega)]
     simp only [show ((k.toNat - 1:Nat):Int) + 1=k by omega]
    ·rename_i hp
     have h2:=hb ((-k).toNat - 1) (by omega) ⟨push o k,red_push ho⟩
     simp only [show (((-k).toNat - 1:Nat):Int) + 1 = -k by omega,push_cancel k ho] at h2
     exact run_back (frS_inv g.inv) (hbz _ (by omega)) h2
   rw [e,runW_app,h1]
   exact hh
 intro h0
 obtain ⟨h,hh⟩:=go w [] (fun i hi=>by simp at hi) hk
 have hz:Nz (basW (basS step lst f) w):=fun y hy=>by
  unfold basW at hy
  obtain ⟨k,hkm,hy⟩:=List.mem_flatMap.1 hy
  obtain ⟨k1,k2,k3⟩:=hk k hkm
  split at hy
  ·exact hbz _ (by omega) y hy
  ·exact (hbz _ (by omega)).back y hy
 have h1:=run_short (frS_inv g.inv) hz hh
 rw [h0] at h1
 have h2:[]=w.foldl push []:=congrArg (fun p=>p.2.1) (Option.some.inj h1)
 have h3:w.foldl push []=w:=short_red hr
 exact hw (h3.symm.trans h2.symm)
end
end Go.Proofs.Ytneglephfhiamaa

/-
  Graphs with a tree of roads: how many letters lead on; conjugated subgroups. Conditions: none.
-/
set_option linter.all false
namespace Go.Proofs.Ytneglephfhiamaa
open Go.Pv

section
variable {step:Nat→Int→Option Nat} {lst:List Nat} {f:Wy}
theorem flat_len {α β:Type} (g:α→List β):∀ l:List α,(l.flatMap g).length=(l.map fun a=>(g a).length).sum
 | []=>rfl
 | a :: l=>by rw [List.flatMap_cons,List.length_append,flat_len g l,List.map_cons,List.sum_cons]
theorem split_len {α:Type} (p:α→Bool):∀ l:List α,(l.filter p).length + (l.filter fun x=>!p x).length=l.length
 | []=>rfl
 | a :: l=>by
  have:=split_len p l
  simp only [List.filter_cons,List.length_cons]
  cases h:p a
  ·simp only [Bool.not_false,if_true,List.length_cons]; simp; omega
  ·simp only [Bool.not_true,if_true,List.length_cons]; simp; omega
/-- All letters that lead on are twice the edges. -/
theorem GT.deg (g:GT step lst f):(lst.map fun u=>(ltS step u).length).sum=2 * (PE step lst).length:=by
 obtain ⟨NE,hNE⟩:∃ NE,lst.flatMap (fun u=>((ltS step u).filter fun x=>!decide (0 < x)).map fun x=>(u,x))=NE:=⟨_,rfl⟩
 have h1:NE.length=(PE step lst).length:=by
  have hst:∀ u x,(u,x)∈NE↔u∈lst∧¬ 0 < x∧(step u x).isSome=true:=fun u x=>by
   rw [← hNE,List.mem_flatMap]
   constructor
   ·rintro ⟨v,hv,h⟩
    obtain ⟨y,hy,e⟩:=List.mem_map.1 h
    injection e with e1 e2
    subst e1; subst e2
    have:=List.mem_filter.1 hy
    exact ⟨hv,by simpa using this.2,(mem_ltS.1 this.1).2⟩
   ·rintro ⟨hu,hx,hs⟩
    refine ⟨u,hu,List.mem_map.2 ⟨x,List.mem_filter.2 ⟨mem_ltS.2 ⟨?_,hs⟩,by simpa using hx⟩,rfl⟩⟩
    obtain ⟨v,hv⟩:=Option.isSome_iff_exists.1 hs
    exact (g.lt u hu x v hv).2
  have hn:NE.Nodup:=by
   rw [← hNE]
   exact nodup_flat g.nd (fun u _=>nodup_mapF (List.Nodup.sublist List.filter_sublist (ltS_nd u)) fun a _ b _ e=>by injection e) fun u _ v _ z hz1 hz2=>by
    obtain ⟨a,_,rfl⟩:=List.mem_map.1 hz1
    obtain ⟨b,_,e⟩:=List.mem_map.1 hz2
    injection e with e _
    exact e.symm
  have hmap:∀ e∈NE,e.1∈lst∧e.2 < 0∧step e.1 e.2=some (tgt step e)∧tgt step e∈lst∧step (tgt step e) (-e.2)=some e.1:=fun ⟨u,x⟩ he=>by
   obtain ⟨h1,h2,h3⟩:=(hst u x).1 he
   obtain ⟨v,hv⟩:=Option.isSome_iff_exists.1 h3
   rw [tgt_of hv]
   have:=g.nz h1 hv
   exact ⟨h1,by simp only; omega,hv,g.cl u h1 x v hv,g.inv _ _ _ this hv⟩
  have e1:(NE.map fun e=>(tgt step e,-e.2)).length=NE.length:=List.length_map ..
  rw [← e1]
  refine nd_eq (nodup_mapF hn fun a ha b hb e=>?_) (PE_nd g.nd) fun e=>?_
  ·injection e with e1 e2
   obtain ⟨a1,a2,a3,a4,a5⟩:=hmap a ha
   obtain ⟨b1,b2,b3,b4,b5⟩:=hmap b hb
   rw [e1,e2,b5] at a5
   exact Prod.ext (Option.some.inj a5).symm (by omega)
  ·constructor
   ·intro h
    obtain ⟨a,ha,rfl⟩:=List.mem_map.1 h
    obtain ⟨a1,a2,a3,a4,a5⟩:=hmap a ha
    exact (mem_PE g).2 ⟨a4,by omega,by rw [a5]; rfl⟩
   ·intro h
    obtain ⟨h1,h2,h3,h4⟩:=PE_st g h
    have h5:=g.inv _ _ _ (by omega) h3
    refine List.mem_map.2 ⟨(tgt step e,-e.2),(hst _ _).2 ⟨h4,by omega,by rw [h5]; rfl⟩,?_⟩
    rw [tgt_of h5,Int.neg_neg]
 have h2:(lst.map fun u=>(ltS step u).length).sum=(PE step lst).length + NE.length:=by
  unfold PE
  rw [← hNE,flat_len,flat_len]
  simp only [List.length_map]
  generalize lst=l
  induction l with
  | nil=>rfl
  | cons a r ih =>
   simp only [List.map_cons,List.sum_cons,ih]
   have:=split_len (fun x:Int=>decide (0 < x)) (ltS step a)
   omega
 omega
theorem sum_bd {α:Type} (h:α→Nat) (m:Nat):∀ l:List α,(∀ a∈l,h a≤m)→(l.map h).sum≤m * l.length∧((l.map h).sum=m * l.length→∀ a∈l,h a=m)
 | [],_=>⟨by simp,fun _ a ha=>by cases ha⟩
 | a :: l,hb=>by
  obtain ⟨h1,h2⟩:=sum_bd h m l fun x hx=>hb x (by simp [hx])
  have:=hb a (by simp)
  simp only [List.map_cons,List.sum_cons,List.length_cons,Nat.mul_succ]
  refine ⟨by omega,fun e x hx=>?_⟩
  rcases List.mem_cons.1 hx with rfl | hx
  ·omega
  ·exact h2 (by omega) x hx
theorem sum_all {α:Type} (h:α→Nat) (m:Nat):∀ l:List α,(∀ a∈l,h a=m)→(l.map h).sum=m * l.length
 | [],_=>by simp
 | a :: l,hb=>by
  have:=sum_all h m l fun x hx=>hb x (by simp [hx])
  have:=hb a (by simp)
  simp only [List.map_cons,List.sum_cons,List.length_cons,Nat.mul_succ]; omega
/-- Letters are at most n. -/
def Ltn (step:Nat→Int→Option Nat) (lst:List Nat) (n:Int):Prop:=∀ u∈lst,∀ x v,step u x=some v→-n≤x∧x≤n
def lets (n:Nat):List Int:=(List.range n).flatMap fun i:Nat=>[(i:Int) + 1,-((i:Int) + 1)]
theorem lets_len (n:Nat):(lets n).length=2 * n:=by
 unfold lets
 rw [flat_len,sum_all (fun i:Nat=>[(i:Int) + 1,-((i:Int) + 1)].length) 2 _ fun a _=>rfl,List.length_range]
theorem mem_lets {n:Nat} {x:Int} : x∈lets n↔x ≠ 0∧-(n:Int)≤x∧x≤n:=by
 unfold lets
 rw [List.mem_flatMap]
 constructor
 ·rintro ⟨i,hi,h⟩
  have:=List.mem_range.1 hi
  simp only [List.mem_cons,List.not_mem_nil,or_false] at h
  omega
 ·rintro ⟨h1,h2,h3⟩
  refine ⟨(x.natAbs - 1),List.mem_range.2 (by omega),?_⟩
  simp only [List.mem_cons,List.not_mem_nil,or_false]; omega
theorem GT.deg_le (g:GT step lst f) {n:Nat} (h:Ltn step lst n) {u:Nat} (hu:u∈lst):(ltS step u).length≤2 * n:=by
 rw [← lets_len n]
 refine nd_le (ltS_nd u) fun x hx=>?_
 obtain ⟨v,hv⟩:=Option.isSome_iff_exists.1 (mem_ltS.1 hx).2
 exact mem_lets.2 ⟨g.nz hu hv,h u hu x v hv⟩
/-- All letters up to n lead on from everywhere. -/
def Full (step:Nat→Int→Option Nat) (lst:List Nat) (n:Nat):Prop:=∀ u∈lst,2 * n≤(ltS step u).length
theorem GT.full_iff (g:GT step lst f) {n:Nat} (h:Ltn step lst n):Full step lst n↔(PE step lst).length=n * lst.length:=by
 have h1:=g.deg
 have h2:=sum_bd (fun u=>(ltS step u).length) (2 * n) lst fun u hu=>g.deg_le h hu
 constructor
 ·intro hf
  have:=sum_all (fun u=>(ltS step u).length) (2 * n) lst fun u hu=>Nat.le_antisymm (g.deg_le h hu) (hf u hu)
  rw [this,Nat.mul_assoc] at h1
  omega
 ·intro e u hu
  exact Nat.le_of_eq (h2.2 (by rw [h1,e,Nat.mul_assoc]) u hu).symm
end

/-! ### Conjugated subgroups -/

section
variable {step:Nat→Int→Option Nat} {lst:List Nat} {f:Wy}
/-- What a graph's words are made of. -/
def Lang (step:Nat→Int→Option Nat) (S:List (List Int)):Prop:=∀ l,runW step 0 l=some 0↔Mem S l
variable {step' : Nat→Int→Option Nat} {lst' : List Nat} {f' : Wy}
end
end Go.Proofs.Ytneglephfhiamaa

/-
  The library's sort by a comparison, over a row of the caller's own: what it leaves. Conditions: none; a library text.
-/
set_option linter.all false
namespace Go.Pv
open Go.RowKit

section
variable {P:Program} {ρ:Go.Shelf.Ren}

end
end Go.Pv

/-
  The library's sort of numbers, over a row of the caller's own: what it leaves. Conditions: none; a library text.
-/
set_option linter.all false
namespace Go.Pv
open Go.RowKit

section
variable {P:Program} {ρ:Go.Shelf.Ren}
def srt (l:List Int):List Int:=l.mergeSort fun x y=>decide (x≤y)

/-- slices.Sort of numbers: behind it the row holds them in order. -/
theorem sortI_m (L:Go.Proofs.Lays.n189 P ρ) (zs:List Int) (hlen:zs.length < 4611686018427387904) :
  FnM P (ρ.f 189) [.sl 0 0 zs.length] [.own (opl (il zs))] (.p (.tup [])) [.own (opl (il (srt zs)))]:=by
 refine ⟨⟨_,L.f189,by kernel_rfl,rfl⟩,fun C m w vals R=>?_⟩
 have hsz:vals.size=1:=R.size
 have s0:=R.slot 0
 simp only [St.get,entA,lk,BEq.rfl,cond_true] at s0
 generalize hv0:vals.getD 0 undef=v0 at s0
 have hvals:vals = #[v0]:=by
  apply Array.ext
  ·simpa using hsz
  ·intro i h1 h2
   simp only [Array.getD_eq_getD_getElem?] at hv0
   match i,h2 with
   | 0,_=>rw [Array.getElem?_eq_getElem h1] at hv0; simpa using hv0
 subst hvals
 cases s0 with
 | sl _ _ _ _ hk0 h0 =>
 by_cases hne:zs=[]
 ·subst hne
  have hcall:∃ p cp,v0 = .slice p 0 cp:=by
   rcases h0 with ⟨_,a,h0⟩ | ⟨l,cp,hm,rfl,hle,hlo⟩
   ·exact ⟨a,_,h0⟩
   ·exact ⟨_,_,rfl⟩
  obtain ⟨p,cp,rfl⟩:=hcall
  refine (Go.Proofs.Any.slices_Sort_int_none L p cp w).mono fun e2 w2 ⟨he,hw⟩=>?_
  subst he hw
  rw [show srt ([]:List Int)=[] from by simp [srt]]
  exact ⟨.tuple #[],m,rfl,R.laid,R.below,R.base,rfl,R.inj,R.blk,R.fro,fun t=>by
   cases t with
   | zero=>exact .p _ _ (.tup [] #[] rfl fun c h=>absurd h (by simp))
   | succ t=>exact .dead _,R.mp⟩
 have hpos:0 < zs.length:=List.length_pos_iff.2 hne
 rcases h0 with ⟨h0,_⟩ | ⟨l,cp,hm,rfl,hle,hlo⟩
 ·omega
 rcases R.blk 0 (opl (il zs)) rfl with ⟨hx,_⟩ | ⟨l',cur,e,hm',hB,hg,hcs,hmx,hol,hcell⟩
 ·exact absurd (show zs=[] by simpa [opl,il] using hx) hne
 rw [hm] at hm'; cases hm'
 rw [opl_length,il_length] at hol
 have hblk:l.g < w.heap.size:=(Array.getElem?_eq_some_iff.1 hg).1
 have hrd:∀ j (h:j < zs.length),cur.getD (l.o + j) undef = .int .i64 zs[j]:=fun j h=>by
  have:=hcell j (by rw [opl_length,il_length]; exact h)
  simp only [opl,il,List.getElem_map] at this
  have h2:=this.p_inv
  generalize cur.getD (l.o + j) undef=v at h2 ⊢
  cases h2
  rfl
 have hH:Go.Sort.Holds (Value.int .i64) w l.g (l.o + 0) zs.toArray:=fun j hj=>by
  have hj' : j < zs.length:=by simpa using hj
  have hjc:l.o + j < cur.size:=by omega
  refine ⟨?_,?_⟩
  ·rw [getElem!_pos zs.toArray j hj]
   have:=hrd j hj'
   simp only [World.cell?,hg,Nat.add_zero]
   simpa [Array.getD_eq_getD_getElem?,Array.getElem?_eq_getElem hjc] using this
  ·simp [World.frozen?,hg]
 have hcall:=Go.Proofs.Any.slices_Sort_int L l.g (l.o + 0) cp zs w hH hblk hlen
 refine hcall.mono fun e2 w2 ⟨he,n,os,hw⟩=>?_
 subst he
 refine ⟨.tuple #[],m,rfl,?_⟩
 have hyl:(srt zs).length=zs.length:=(List.mergeSort_perm zs _).length_eq
 have hd' : (zs.mergeSort fun x y=>decide (x≤y)).toArray.size=zs.length:=by simpa using hyl
 have R1:Rel C m ⟨1,entA 0 [.sl 0 0 zs.length],hset ([.own (opl (il zs))]++ancs 0 [Blk.own (opl (il zs))].length) 0 (.own (opl (il (srt zs))))⟩ #[.slice (some ⟨l.g,l.o + 0,none⟩) zs.length cp] (Go.Sort.putRow (Value.int .i64) (Go.Sort.ahead w n) l.g (l.o + 0) (zs.mergeSort fun x y=>decide (x≤y)).toArray):=by
  refine R.setBlk (a:={ tmps:=#[.slice (some ⟨l.g,l.o + 0,none⟩) zs.length cp],defers:=[] }) (c:=opl (il zs)) rfl hm ⟨rfl,rfl,rfl,by simp,fun k hk=>?_,by simp⟩ (fun b hb=>?_) (cur:=Go.Sort.putCells (Value.int .i64) (l.o + 0) (zs.mergeSort fun x y=>decide (x≤y)).toArray cur) (e:=e) ?_ (by simp [Go.Sort.putCells,hcs]) (by rw [opl_length,il_length]; omega) fun j hj=>?_
  ·simp only [Go.Sort.putRow,Go.Sort.mapBlock,Array.getElem?_modify]
   rw [if_neg (fun e=>hk (by rw [← e]; exact hB))]; rfl
  ·simp only [Go.Sort.putRow,Go.Sort.mapBlock,Array.getElem?_modify]
   rw [if_neg (Ne.symm hb)]; rfl
  ·simp only [Go.Sort.putRow,Go.Sort.mapBlock,Array.getElem?_modify]
   rw [if_pos trivial]
   show Option.map _ (w.heap[l.g]?)=_
   rw [hg]; rfl
  ·rw [opl_length,il_length] at hj
   have hjc:l.o + j < cur.size:=by omega
   have hjd:j < (zs.mergeSort fun x y=>decide (x≤y)).toArray.size:=by omega
   have e3:(Go.Sort.putCells (Value.int .i64) (l.o + 0) (zs.mergeSort fun x y=>decide (x≤y)).toArray cur).getD (l.o + j) undef = .int .i64 ((srt zs)[j]'hj):=by
    simp only [Go.Sort.putCells,Array.getD_eq_getD_getElem?,Array.getElem?_mapIdx,Array.getElem?_eq_getElem hjc,Option.map_some,Option.getD_some]
    rw [if_pos ⟨by omega,by omega⟩,show l.o + j - (l.o + 0)=j by omega,getElem!_pos _ j hjd]
    rfl
   rw [e3]
   have e5:(opl (il (srt zs)))[j]'(by rw [opl_length,il_length]; exact hj) = .p (.int .i64 ((srt zs)[j]'hj)):=by simp [opl,il]
   rw [e5]
   exact .p _ _ (.int _ _)
 have R2:=R1.later (w':=w2) (by
  rw [hw]
  refine ⟨rfl,rfl,rfl,by simp,fun k hk=>?_,Nat.le_refl _⟩
  exact Go.Sort.heap_grow_old _ _ hk)
 exact ⟨R2.laid,R2.below,R2.base,rfl,R2.inj,R2.blk,R2.fro,fun t=>by
  cases t with
  | zero=>exact .p _ _ (.tup [] #[] rfl fun c h=>absurd h (by simp))
  | succ t=>exact .dead _,R2.mp⟩
end
end Go.Pv

/-
  Graphs of words: letters at a place, in order. Conditions: none.
-/
set_option linter.all false
namespace Go.Proofs.Ytneglephfhiamaa
open Go.Pv

theorem pw_ext:∀ {l m:List Int},l.Pairwise (· < ·)→m.Pairwise (· < ·)→(∀ x,x∈l↔x∈m)→l=m
 | [],[],_,_,_=>rfl
 | [],y :: m,_,_,h=>absurd ((h y).2 (by simp)) (by simp)
 | x :: l,[],_,_,h=>absurd ((h x).1 (by simp)) (by simp)
 | x :: l,y :: m,h1,h2,h=>by
  rw [List.pairwise_cons] at h1 h2
  have hxy:x=y:=by
   rcases List.mem_cons.1 ((h x).1 (by simp)) with e | e
   ·exact e
   ·rcases List.mem_cons.1 ((h y).2 (by simp)) with e2 | e2
    ·exact e2.symm
    ·have:=h2.1 x e
     have:=h1.1 y e2
     omega
  subst hxy
  congr 1
  refine pw_ext h1.2 h2.2 fun z=>?_
  constructor
  ·intro hz
   rcases List.mem_cons.1 ((h z).1 (by simp [hz])) with e | e
   ·have:=h1.1 z hz; omega
   ·exact e
  ·intro hz
   rcases List.mem_cons.1 ((h z).2 (by simp [hz])) with e | e
   ·have:=h2.1 z hz; omega
   ·exact e
/-- The letters of a place, in order. -/
def lts (f:Mp):List Int:=((List.range 53).map fun i:Nat=>(i:Int) - 26).filter fun x=>(f x).isSome
theorem mem_lts {f:Mp} {x:Int} : x∈lts f↔(-26≤x∧x≤26)∧(f x).isSome=true:=by
 unfold lts
 rw [List.mem_filter,List.mem_map]
 constructor
 ·rintro ⟨⟨i,hi,rfl⟩,h⟩
  have:=List.mem_range.1 hi
  exact ⟨by omega,h⟩
 ·rintro ⟨h1,h2⟩
  exact ⟨⟨(x + 26).toNat,List.mem_range.2 (by omega),by omega⟩,h2⟩
theorem lts_pw (f:Mp):(lts f).Pairwise (· < ·):=by
 unfold lts
 refine List.Pairwise.filter _ ?_
 rw [List.pairwise_map]
 exact List.pairwise_lt_range.imp fun h=>by omega
theorem srt_pw {l:List Int} (h:l.Nodup):(srt l).Pairwise (· < ·):=by
 have h1:(srt l).Pairwise fun x y=>decide (x≤y)=true:=List.pairwise_mergeSort (fun a b c h1 h2=>by simp at *; omega) (fun a b=>by simp; omega) l
 have h2:(srt l).Nodup:=(List.mergeSort_perm l _).nodup_iff.2 h
 rw [List.nodup_iff_pairwise_ne] at h2
 exact (h1.and h2).imp fun ⟨a,b⟩=>by simp at a; omega
theorem srt_mem {l:List Int} {x:Int} : x∈srt l↔x∈l:=(List.mergeSort_perm l _).mem_iff
theorem srt_lts {f:Mp} {l:List Int} (h:l.Nodup) (hm:∀ z,(f z).isSome=true↔z∈l) (hb:∀ z∈l,-26≤z∧z≤26):srt l=lts f:=by
 refine pw_ext (srt_pw h) (lts_pw f) fun x=>?_
 rw [srt_mem,mem_lts,hm]
 exact ⟨fun hx=>⟨hb x hx,hx⟩,fun hx=>hx.2⟩
theorem lts_len (f:Mp):(lts f).length≤53:=by
 unfold lts
 refine Nat.le_trans (List.length_filter_le _ _) ?_
 simp

end Go.Proofs.Ytneglephfhiamaa

/-
  Places in the order in which they are reached: roads are as short as can be. Conditions: none.
-/
set_option linter.all false
namespace Go.Proofs.Ytneglephfhiamaa
open Go.Pv

/-- Places ahead of the i-th have been looked at. -/
structure BQ (G:List Mp) (U:List Int) (lst:List Nat) (f:Wy) (i:Nat):Prop where
 srt:∀ j k,j≤k→k < lst.length→(wy f (lst.getD j 0)).length≤(wy f (lst.getD k 0)).length
 cap:i < lst.length→∀ j,j < lst.length→(wy f (lst.getD j 0)).length≤(wy f (lst.getD i 0)).length + 1
 dn:∀ j,j < i→∀ x v,v < G.length→rV U v=v→Ed G U (lst.getD j 0) x v→v∈lst∧(wy f v).length≤(wy f (lst.getD j 0)).length + 1
/-- And so have some letters of the i-th. -/
def BL (G:List Mp) (U:List Int) (lst:List Nat) (f:Wy) (i:Nat) (xs:List Int):Prop:=
 ∀ x∈xs,∀ v,v < G.length→rV U v=v→Ed G U (lst.getD i 0) x v→v∈lst∧(wy f v).length≤(wy f (lst.getD i 0)).length + 1

section
variable {G:List Mp} {U:List Int} {lst:List Nat} {f:Wy} {i:Nat}
theorem bq_zero:BQ G U [0] (updW (fun _=>none) 0 []) 0:=by
 refine ⟨fun j k h1 h2=>?_,fun _ j hj=>?_,fun j h=>absurd h (Nat.not_lt_zero _)⟩
 ·simp only [List.length_singleton] at h2
  obtain rfl:k=0:=by omega
  obtain rfl:j=0:=by omega
  exact Nat.le_refl _
 ·simp only [List.length_singleton] at hj
  obtain rfl:j=0:=by omega
  omega
theorem updW_other {z:Int} {l:List Int} {v:Nat} (h:(v:Int) ≠ z):wy (updW f z l) v=wy f v:=by
 unfold wy updW; rw [if_neg h]
theorem updW_self {u:Nat} {l:List Int} : wy (updW f (u:Int) l) u=l:=by
 unfold wy updW; rw [if_pos rfl]; rfl
theorem snoc_getD {u j:Nat} (h:j < lst.length):(lst++[u]).getD j 0=lst.getD j 0:=by
 rw [List.getD_eq_getElem?_getD,List.getElem?_append_left h,← List.getD_eq_getElem?_getD]
theorem BI.notin (h:BI G U lst f) {u:Nat} (hn:f (u:Int)=none):u ∉ lst:=fun hm=>by
 have:=(h.dom u).2 ⟨u,hm,rfl⟩
 rw [hn] at this; cases this
theorem BI.other (h:BI G U lst f) {u v:Nat} {l:List Int} (hn:f (u:Int)=none) (hv:v∈lst):wy (updW f (u:Int) l) v=wy f v:=
 updW_other fun e=>h.notin hn (by
  have:v=u:=by omega
  exact this ▸ hv)
theorem BQ.snoc (h:BI G U lst f) (q:BQ G U lst f i) (hi:i < lst.length) {u:Nat} {x:Int} (hn:f (u:Int)=none):BQ G U (lst++[u]) (updW f u (wy f (lst.getD i 0)++[x])) i:=by
 have old:∀ j,j < lst.length→wy (updW f u (wy f (lst.getD i 0)++[x])) ((lst++[u]).getD j 0)=wy f (lst.getD j 0):=fun j hj=>by
  rw [snoc_getD hj]; exact h.other hn (mem_ix hj)
 have new:wy (updW f u (wy f (lst.getD i 0)++[x])) ((lst++[u]).getD lst.length 0)=wy f (lst.getD i 0)++[x]:=by
  have:(lst++[u]).getD lst.length 0=u:=by simp
  rw [this]; exact updW_self
 have hl:(lst++[u]).length=lst.length + 1:=by simp
 refine ⟨fun j k h1 h2=>?_,fun _ j hj=>?_,fun j hj y v hv hr he=>?_⟩
 ·rw [hl] at h2
  by_cases e:k < lst.length
  ·rw [old j (by omega),old k e]; exact q.srt j k h1 e
  ·obtain rfl:k=lst.length:=by omega
   rw [new,List.length_append,List.length_singleton]
   by_cases e2:j < lst.length
   ·rw [old j e2]; exact q.cap hi j e2
   ·obtain rfl:j=lst.length:=by omega
    rw [new]; simp
 ·rw [hl] at hj
  rw [old i hi]
  by_cases e:j < lst.length
  ·rw [old j e]; exact q.cap hi j e
  ·obtain rfl:j=lst.length:=by omega
   rw [new]; simp
 ·rw [snoc_getD (by omega)] at he
  obtain ⟨h1,h2⟩:=q.dn j hj y v hv hr he
  rw [old j (by omega),h.other hn h1]
  exact ⟨List.mem_append_left _ h1,h2⟩
theorem BL.snoc {xs:List Int} (h:BI G U lst f) (b:BL G U lst f i xs) (hi:i < lst.length) {u:Nat} {x:Int} (hn:f (u:Int)=none):BL G U (lst++[u]) (updW f u (wy f (lst.getD i 0)++[x])) i xs:=fun y hy v hv hr he=>by
 rw [snoc_getD hi] at he ⊢
 obtain ⟨h1,h2⟩:=b y hy v hv hr he
 rw [h.other hn (mem_ix hi),h.other hn h1]
 exact ⟨List.mem_append_left _ h1,h2⟩
/-- A letter more: it leads to a place that there is. -/
theorem BL.more {xs:List Int} (b:BL G U lst f i xs) {x:Int} {u:Nat} (hu:u∈lst) (hl:(wy f u).length≤(wy f (lst.getD i 0)).length + 1) (hx:∀ v,v < G.length→rV U v=v→Ed G U (lst.getD i 0) x v→v=u):BL G U lst f i (xs++[x]):=fun y hy v hv hr he=>by
 rcases List.mem_append.1 hy with hy | hy
 ·exact b y hy v hv hr he
 ·rw [List.mem_singleton] at hy
  subst hy
  rw [hx v hv hr he]
  exact ⟨hu,hl⟩
theorem BQ.next (q:BQ G U lst f i) {xs:List Int} (b:BL G U lst f i xs) (hx:∀ x v,v < G.length→rV U v=v→Ed G U (lst.getD i 0) x v→x∈xs):BQ G U lst f (i + 1):=by
 refine ⟨q.srt,fun h j hj=>?_,fun j hj x v hv hr he=>?_⟩
 ·have h1:=q.cap (by omega) j hj
  have h2:=q.srt i (i + 1) (by omega) h
  omega
 ·by_cases e:j < i
  ·exact q.dn j e x v hv hr he
  ·obtain rfl:j=i:=by omega
   exact b x (hx x v hv hr he) v hv hr he
theorem BQ.up {U' : List Int} (q:BQ G U lst f i) (h:BI G U lst f) (w:WG G U) (hr:∀ u,u < G.length→rV U' u=rV U u) (hi:i≤lst.length):BQ G U' lst f i:=
 ⟨q.srt,q.cap,fun j hj x v hv hrv he=>q.dn j hj x v hv (by rw [← hr v hv]; exact hrv) ((Ed.rv w hr (h.rt _ (mem_ix (by omega))).1 hv).1 he)⟩
theorem BL.up {U' : List Int} {xs:List Int} (b:BL G U lst f i xs) (h:BI G U lst f) (w:WG G U) (hr:∀ u,u < G.length→rV U' u=rV U u) (hi:i < lst.length):BL G U' lst f i xs:=fun x hx v hv hrv he =>
 b x hx v hv (by rw [← hr v hv]; exact hrv) ((Ed.rv w hr (h.rt _ (mem_ix hi)).1 hv).1 he)

/-- All places are reached, by roads that are as short as can be. -/
theorem bq_gt (w0:WG G U) (hp:0 < G.length) (hs:SymW G U []) (h:BI G U lst f) (q:BQ G U lst f lst.length):GT (stR G U) lst f∧∀ u∈lst,∀ w,runW (stR G U) 0 w=some u→(wy f u).length≤w.length:=by
 have hst:∀ {u v:Nat} {x:Int},stR G U u x=some v→u < G.length∧rV U u=u∧v < G.length∧rV U v=v∧Ed G U u x v:=fun {u v x} hsx=>by
  obtain ⟨h1,h2⟩:=stR_root w0 hsx
  rw [stR_of h1] at hsx
  exact ⟨h1.1,h1.2,h2.1,h2.2,(stp_ed w0 h1 h2.2).1 hsx⟩
 have dn:∀ u∈lst,∀ x v,stR G U u x=some v→v∈lst∧(wy f v).length≤(wy f u).length + 1:=fun u hu x v hsx=>by
  obtain ⟨_,_,a3,a4,a5⟩:=hst hsx
  obtain ⟨j,hj,rfl⟩:=ix_of hu
  exact q.dn j hj x v a3 a4 a5
 refine ⟨⟨stR_inv w0 hs,h.nd,h.hd,h.dom,h.zero,fun j hj h0=>?_,fun u hu x v hsx=>(dn u hu x v hsx).1,fun u hu x v hsx=>?_⟩,?_⟩
 ·obtain ⟨i,x,l,a1,a2,a3,a4⟩:=h.tree j hj h0
  have m1:=h.rt _ (mem_ix (l:=lst) (i:=i) (by omega))
  have m2:=h.rt _ (mem_ix (l:=lst) hj)
  exact ⟨i,x,l,a1,a2,a3,by rw [stR_of m1]; exact (stp_ed w0 m1 m2.2).2 a4⟩
 ·obtain ⟨a1,a2,a3,a4,d,a5,a6⟩:=hst hsx
  rw [a2] at a5
  exact (w0.ent u x d a1 a5).2.2
 ·have go:∀ (w:List Int) (u v:Nat),u∈lst→runW (stR G U) u w=some v→v∈lst∧(wy f v).length≤(wy f u).length + w.length:=by
   intro w
   induction w with
   | nil=>intro u v hu h; obtain rfl:=Option.some.inj h; exact ⟨hu,by simp⟩
   | cons x w ih =>
    intro u v hu h
    unfold runW at h
    cases e:stR G U u x with
    | none=>rw [e] at h; cases h
    | some m =>
     rw [e] at h
     obtain ⟨h1,h2⟩:=dn u hu x m e
     obtain ⟨h3,h4⟩:=ih m v h1 h
     refine ⟨h3,?_⟩
     simp only [List.length_cons]; omega
  intro u hu w hw
  have h0:(0:Nat)∈lst:=List.mem_of_mem_head? (by rw [h.hd]; rfl)
  have:=(go w 0 u h0 hw).2
  have hw0:wy f 0=[]:=by unfold wy; rw [show ((0:Nat):Int)=0 from rfl,h.zero]; rfl
  rw [hw0] at this
  simpa using this
theorem stR_eq {U' : List Int} (w:WG G U) (hr:∀ u,u < G.length→rV U' u=rV U u):stR G U' = stR G U:=by
 funext u x
 unfold stR
 by_cases hu:u < G.length
 ·rw [hr u hu]
  by_cases h:rV U u=u
  ·rw [if_pos ⟨hu,h⟩,if_pos ⟨hu,h⟩]
   unfold stp
   cases e:gm G u x with
   | none=>rfl
   | some d =>
    have:=(w.ent u x d hu e).2.1
    simp only [Option.map_some,hr _ this]
  ·rw [if_neg fun e=>h e.2,if_neg fun e=>h e.2]
 ·rw [if_neg fun e=>hu e.1,if_neg fun e=>hu e.1]
/-- The letters that the program lists are those of the steps. -/
theorem lts_ltS {u:Nat} (h:u < G.length∧rV U u=u):lts (gm G u)=ltS (stR G U) u:=by
 unfold lts ltS
 refine List.filter_congr fun x _=>?_
 rw [stR_of h]
 unfold stp
 cases gm G u x<;>rfl
end
end Go.Proofs.Ytneglephfhiamaa

/-
  What makes a folded graph makes it once: how many places and edges it has. Conditions: none.
-/
set_option linter.all false
namespace Go.Proofs.Ytneglephfhiamaa
open Go.Pv

/-- Places that are all reached. -/
structure CG (step:Nat→Int→Option Nat) (lst:List Nat):Prop where
 inv:InvS step
 nd:lst.Nodup
 m0:0∈lst
 cl:∀ u∈lst,∀ x v,step u x=some v→v∈lst
 lt:∀ u∈lst,∀ x v,step u x=some v→x ≠ 0∧-26≤x∧x≤26
 con:∀ u∈lst,∃ w,runW step 0 w=some u
/-- Edges are asked by the words alone. -/
def UniG (step:Nat→Int→Option Nat) (lst:List Nat) (S:List (List Int)):Prop:=
 ∀ (X:Type) (st:X→Int→Option X) (x0:X),InvS st→(∀ w∈S,runW st x0 w=some x0)→∃ κ:Nat→X,κ 0=x0∧∀ u∈lst,∀ x v,step u x=some v→st (κ u) x=some (κ v)

section
variable {step step' : Nat→Int→Option Nat} {lst lst' : List Nat} {f f' : Wy} {S:List (List Int)}
theorem GT.cg (g:GT step lst f):CG step lst:=⟨g.inv,g.nd,g.mem0,g.cl,g.lt,fun u hu=>⟨_,g.run u hu⟩⟩
theorem mem_PE0 (hlt:∀ u∈lst,∀ x v,step u x=some v→x ≠ 0∧-26≤x∧x≤26) {u:Nat} {x:Int} : (u,x)∈PE step lst↔u∈lst∧0 < x∧(step u x).isSome=true:=by
 unfold PE
 rw [List.mem_flatMap]
 constructor
 ·rintro ⟨v,hv,h⟩
  obtain ⟨y,hy,e⟩:=List.mem_map.1 h
  injection e with e1 e2
  subst e1; subst e2
  have:=List.mem_filter.1 hy
  exact ⟨hv,by simpa using this.2,(mem_ltS.1 this.1).2⟩
 ·rintro ⟨hu,hx,hs⟩
  refine ⟨u,hu,List.mem_map.2 ⟨x,List.mem_filter.2 ⟨mem_ltS.2 ⟨?_,hs⟩,by simpa using hx⟩,rfl⟩⟩
  obtain ⟨v,hv⟩:=Option.isSome_iff_exists.1 hs
  exact (hlt u hu x v hv).2
theorem CG.inL (c:CG step lst):∀ {w:List Int} {u v:Nat},u∈lst→runW step u w=some v→v∈lst
 | [],u,v,hu,h=>by obtain rfl:=Option.some.inj h; exact hu
 | x :: w,u,v,hu,h=>by
  unfold runW at h
  cases e:step u x with
  | none=>rw [e] at h; cases h
  | some m=>rw [e] at h; exact c.inL (c.cl u hu x m e) h
theorem run_hom {X:Type} {st:X→Int→Option X} {κ:Nat→X} (c:CG step lst) (h:∀ u∈lst,∀ x v,step u x=some v→st (κ u) x=some (κ v)):∀ {w:List Int} {u v:Nat},u∈lst→runW step u w=some v→runW st (κ u) w=some (κ v)
 | [],u,v,hu,e=>by obtain rfl:=Option.some.inj e; rfl
 | x :: w,u,v,hu,e=>by
  unfold runW at e ⊢
  cases e1:step u x with
  | none=>rw [e1] at e; cases e
  | some m =>
   rw [e1] at e
   rw [h u hu x m e1]
   exact run_hom c h (c.cl u hu x m e1) e
theorem lang_of (c:CG step lst) (u:UniG step lst S) (h:∀ s∈S,runW step 0 s=some 0):Lang step S:=fun l=>by
 constructor
 ·intro hr X st x0 hi hc
  obtain ⟨κ,k1,k2⟩:=u X st x0 hi hc
  have:=run_hom c k2 c.m0 hr
  rwa [k1] at this
 ·intro hm
  exact hm Nat step 0 c.inv h
theorem cg_half (c:CG step lst) (c' : CG step' lst') (u:UniG step lst S) (u' : UniG step' lst' S) (h:∀ s∈S,runW step 0 s=some 0) (h' : ∀ s∈S,runW step' 0 s=some 0) :
  lst.length≤lst'.length∧(PE step lst).length≤(PE step' lst').length:=by
 obtain ⟨κ,k1,k2⟩:=u Nat step' 0 c'.inv h'
 obtain ⟨μ,m1,m2⟩:=u' Nat step 0 c.inv h
 have hκ:∀ a∈lst,κ a∈lst'∧μ (κ a)=a:=fun a ha=>by
  obtain ⟨w,hw⟩:=c.con a ha
  have h1:=run_hom c k2 c.m0 hw
  rw [k1] at h1
  have h2:=run_hom c' m2 c'.m0 h1
  rw [m1,hw] at h2
  exact ⟨c'.inL c'.m0 h1,(Option.some.inj h2).symm⟩
 have inj:∀ a∈lst,∀ b∈lst,κ a=κ b→a=b:=fun a ha b hb e=>by rw [← (hκ a ha).2,e,(hκ b hb).2]
 constructor
 ·have e:(lst.map κ).length=lst.length:=List.length_map ..
  rw [← e]
  exact nd_le (nodup_mapF c.nd inj) fun x hx=>by
   obtain ⟨a,ha,rfl⟩:=List.mem_map.1 hx
   exact (hκ a ha).1
 ·have e:((PE step lst).map fun p=>(κ p.1,p.2)).length=(PE step lst).length:=List.length_map ..
  rw [← e]
  refine nd_le (nodup_mapF (PE_nd c.nd) fun a ha b hb e=>?_) fun x hx=>?_
  ·injection e with e1 e2
   exact Prod.ext (inj _ ((mem_PE0 c.lt).1 ha).1 _ ((mem_PE0 c.lt).1 hb).1 e1) e2
  ·obtain ⟨⟨a,y⟩,ha,rfl⟩:=List.mem_map.1 hx
   obtain ⟨h1,h2,h3⟩:=(mem_PE0 c.lt).1 ha
   obtain ⟨v,hv⟩:=Option.isSome_iff_exists.1 h3
   exact (mem_PE0 c'.lt).2 ⟨(hκ a h1).1,h2,by rw [k2 a h1 y v hv]; rfl⟩
theorem cg_iso (c:CG step lst) (c' : CG step' lst') (u:UniG step lst S) (u' : UniG step' lst' S) (h:∀ s∈S,runW step 0 s=some 0) (h' : ∀ s∈S,runW step' 0 s=some 0) :
  lst.length=lst'.length∧(PE step lst).length=(PE step' lst').length:=
 ⟨Nat.le_antisymm (cg_half c c' u u' h h').1 (cg_half c' c u' u h' h).1,Nat.le_antisymm (cg_half c c' u u' h h').2 (cg_half c' c u' u h' h).2⟩

/-- A folded graph of words. -/
structure IsG (S:List (List Int)) (step:Nat→Int→Option Nat) (lst:List Nat) (f:Wy):Prop where
 gt:GT step lst f
 uni:UniG step lst S
 cl:∀ s∈S,runW step 0 s=some 0
 far:∀ u∈lst,∀ w,runW step 0 w=some u→(wy f u).length≤w.length
theorem IsG.lang (h:IsG S step lst f):Lang step S:=lang_of h.gt.cg h.uni h.cl
/-- The same, with no tree. -/
structure IsC (S:List (List Int)) (step:Nat→Int→Option Nat) (lst:List Nat):Prop where
 cg:CG step lst
 uni:UniG step lst S
 cl:∀ s∈S,runW step 0 s=some 0
theorem IsG.isC (h:IsG S step lst f):IsC S step lst:=⟨h.gt.cg,h.uni,h.cl⟩
open Classical in
noncomputable def vS (S:List (List Int)):Nat:=if h:∃ p:(Nat→Int→Option Nat) × List Nat,IsC S p.1 p.2 then h.choose.2.length else 0
open Classical in
noncomputable def eS (S:List (List Int)):Nat:=if h:∃ p:(Nat→Int→Option Nat) × List Nat,IsC S p.1 p.2 then (PE h.choose.1 h.choose.2).length else 0
theorem IsC.cnt (h:IsC S step lst):lst.length=vS S∧(PE step lst).length=eS S:=by
 have hx:∃ p:(Nat→Int→Option Nat) × List Nat,IsC S p.1 p.2:=⟨(step,lst),h⟩
 have h2:=hx.choose_spec
 have:=cg_iso h.cg h2.cg h.uni h2.uni h.cl h2.cl
 unfold vS eS
 rw [dif_pos hx,dif_pos hx]
 exact this
theorem IsG.cnt (h:IsG S step lst f):lst.length=vS S∧(PE step lst).length=eS S:=h.isC.cnt
theorem IsG.rank (h:IsG S step lst f):(basS step lst f).length + vS S=eS S + 1:=by
 have:=basS_len h.gt
 rw [← h.cnt.1,← h.cnt.2]; exact this
/-- Letters of words are letters of the graph. -/
theorem uni_ltn (c:CG step lst) (u:UniG step lst S) {n:Int} (hS:∀ s∈S,∀ x∈s,-n≤x∧x≤n):Ltn step lst n:=by
 obtain ⟨κ,_,k2⟩:=u Unit (fun _ x=>if -n≤x∧x≤n then some () else none) () (fun c d x _ h=>by
  cases c; cases d
  dsimp only at h ⊢
  by_cases h2 : -n≤x∧x≤n
  ·rw [if_pos (by omega)]
  ·rw [if_neg h2] at h; cases h) fun s hs=>by
  have:∀ w:List Int,(∀ x∈w,-n≤x∧x≤n)→runW (fun (_:Unit) x=>if -n≤x∧x≤n then some () else none) () w=some ():=by
   intro w
   induction w with
   | nil=>intro _; rfl
   | cons x w ih =>
    intro h
    unfold runW
    rw [if_pos (h x (by simp))]
    exact ih fun y hy=>h y (by simp [hy])
  exact this s (hS s hs)
 intro a ha x v h
 have:=k2 a ha x v h
 by_cases h2 : -n≤x∧x≤n
 ·exact h2
 ·rw [if_neg h2] at this; cases this
theorem IsG.full (h:IsG S step lst f) {n:Nat} (hS:∀ s∈S,∀ x∈s,-(n:Int)≤x∧x≤n):Full step lst n↔eS S=n * vS S:=by
 rw [h.gt.full_iff (uni_ltn h.gt.cg h.uni hS),h.cnt.1,h.cnt.2]
end

/-- The program's graph is one. -/
theorem fi_isG {G:List Mp} {U:List Int} {S:List (List Int)} {lst:List Nat} {f:Wy} (fi:FI S G U S 0 []) (g:GT (stR G U) lst f) (hrt:∀ u∈lst,u < G.length∧rV U u=u) (hf:∀ u∈lst,∀ w,runW (stR G U) 0 w=some u→(wy f u).length≤w.length):IsG S (stR G U) lst f:=by
 have hz:rV U 0=0:=rV_zero fi.wg.fo (by rw [fi.wg.len]; exact fi.pos)
 refine ⟨g,fun X st x0 hi hc=>?_,fun s hs=>?_,hf⟩
 ·obtain ⟨κ,k1,k2,_⟩:=fi.uni X st x0 hi hc
  refine ⟨κ,k1,fun u hu x v hs=>?_⟩
  obtain ⟨h1,h2⟩:=stR_root fi.wg hs
  rw [stR_of h1] at hs
  exact k2.2 u x v h1.1 h2.1 (pe_nil.2 ((stp_ed fi.wg h1 h2.2).1 hs))
 ·have:=pth_run fi.wg s 0 0 fi.pos fi.pos (fi.cl s hs)
  rwa [hz] at this
end Go.Proofs.Ytneglephfhiamaa

/-
  The reference's folding: what it answers is folded. Conditions: none.
-/
set_option linter.all false
namespace Go.Proofs.Ytneglephfhiamaa
open Go.Pv

def e3d:E3:=(0,0,0)
/-- What two edges ask to be one. -/
def cl2 (s t:E3):Option (Nat × Nat):=if s.2.1 ≠ t.2.1 then none else if s.1=t.1∧s.2.2 ≠ t.2.2 then some (s.2.2,t.2.2) else if s.2.2=t.2.2∧s.1 ≠ t.1 then some (s.1,t.1) else none
def clashS (e:List E3):Option (Nat × Nat):=(List.range e.length).findSome? fun i=>(List.range i).findSome? fun k=>cl2 (e.getD i e3d) (e.getD k e3d)
def dd:List E3→List E3→List E3
 | f,[]=>f
 | f,x :: r=>if x∈f then dd f r else dd (f++[x]) r
def onceS (e:List E3) (a b:Nat):List E3:=dd [] (e.map (rhoE a b))
def foldF:Nat→List E3→List E3
 | 0,e=>e
 | n + 1,e=>match clashS e with
  | none=>e
  | some (a,b)=>foldF n (onceS e (min a b) (max a b))
def edE (at_:Nat) (x:Int) (to:Nat):E3:=if 0 < x then (at_,x,to) else (to,-x,at_)
def bqW:List Int→Nat→Nat→List E3→Nat × List E3
 | [],_,n,e=>(n,e)
 | x :: r,at_,n,e=>match r with
  | []=>(n,e++[edE at_ x 0])
  | _ :: _=>bqW r n (n + 1) (e++[edE at_ x n])
def bqL:List (List Int)→Nat→List E3→Nat × List E3
 | [],n,e=>(n,e)
 | w :: r,n,e=>bqL r (bqW w 0 n e).1 (bqW w 0 n e).2

theorem mem_dd:∀ (r f:List E3) (t:E3),t∈dd f r↔t∈f∨t∈r
 | [],f,t=>by simp [dd]
 | x :: r,f,t=>by
  unfold dd
  split
  ·rename_i h
   rw [mem_dd r f t]
   constructor
   ·rintro (h1 | h1)
    ·exact .inl h1
    ·exact .inr (List.mem_cons_of_mem _ h1)
   ·rintro (h1 | h1)
    ·exact .inl h1
    ·rcases List.mem_cons.1 h1 with rfl | h1
     ·exact .inl h
     ·exact .inr h1
  ·rw [mem_dd r _ t]
   simp only [List.mem_append,List.mem_cons,List.not_mem_nil,or_false]
   constructor
   ·rintro ((h1 | h1) | h1)
    ·exact .inl h1
    ·exact .inr (.inl h1)
    ·exact .inr (.inr h1)
   ·rintro (h1 | h1 | h1)
    ·exact .inl (.inl h1)
    ·exact .inl (.inr h1)
    ·exact .inr h1
theorem dd_nd:∀ (r f:List E3),f.Nodup→(dd f r).Nodup
 | [],f,h=>h
 | x :: r,f,h=>by
  unfold dd
  split
  ·exact dd_nd r f h
  ·rename_i hx
   refine dd_nd r _ ?_
   rw [List.nodup_append]
   exact ⟨h,by simp,fun a ha b hb=>by rw [List.mem_singleton] at hb; subst hb; exact fun e=>hx (e ▸ ha)⟩
theorem dd_len:∀ (r f:List E3),(dd f r).length≤f.length + r.length
 | [],f=>Nat.le_refl _
 | x :: r,f=>by
  unfold dd
  split
  ·have:=dd_len r f; simp only [List.length_cons]; omega
  ·have:=dd_len r (f++[x]); simp only [List.length_append,List.length_cons,List.length_nil] at this ⊢; omega
theorem mem_once {e:List E3} {a b:Nat} {t:E3} : t∈onceS e a b↔∃ s∈e,rhoE a b s=t:=by
 unfold onceS
 rw [mem_dd,List.mem_map]
 simp
theorem once_nd (e:List E3) (a b:Nat):(onceS e a b).Nodup:=dd_nd _ _ List.nodup_nil
theorem once_len (e:List E3) (a b:Nat):(onceS e a b).length≤e.length:=by
 have:=dd_len (e.map (rhoE a b)) []
 simpa [onceS] using this
theorem rho_id (u:Nat):rho 0 0 u=u:=by
 unfold rho; split
 ·rename_i h; exact h.symm
 ·rfl
theorem once_zero {e:List E3} {t:E3} : t∈onceS e 0 0↔t∈e:=by
 rw [mem_once]
 have hr:∀ s:E3,rhoE 0 0 s=s:=fun s=>by unfold rhoE; rw [rho_id,rho_id]
 constructor
 ·rintro ⟨s,hs,rfl⟩; rw [hr]; exact hs
 ·intro h; exact ⟨t,h,hr t⟩

theorem find_at {α:Type} {f:Nat→Option α} {n i:Nat} {p:α} (hi:i < n) (h1:∀ j,j < i→f j=none) (h2:f i=some p):(List.range n).findSome? f=some p:=by
 obtain ⟨r,rfl⟩:∃ r,n=i + (r + 1):=⟨n - i - 1,by omega⟩
 have h0:(List.range i).findSome? f=none:=by
  rw [List.findSome?_eq_none_iff]
  exact fun j hj=>h1 j (List.mem_range.1 hj)
 rw [List.range_add,List.findSome?_append,h0]
 rw [List.range_succ_eq_map]
 simp only [List.map_cons,List.findSome?_cons,Nat.add_zero,h2,Option.none_or]
theorem find_none {α:Type} {f:Nat→Option α} {n:Nat} (h1:∀ j,j < n→f j=none):(List.range n).findSome? f=none:=by
 rw [List.findSome?_eq_none_iff]
 exact fun j hj=>h1 j (List.mem_range.1 hj)
theorem find_some {α:Type} {f:Nat→Option α} {n:Nat} {p:α} (h:(List.range n).findSome? f=some p):∃ i,i < n∧f i=some p:=by
 obtain ⟨i,hi,hf⟩:=List.exists_of_findSome?_eq_some h
 exact ⟨i,List.mem_range.1 hi,hf⟩
theorem mem_e3 {e:List E3} {i:Nat} (h:i < e.length):e.getD i e3d∈e:=by
 rw [List.getD_eq_getElem?_getD,List.getElem?_eq_getElem h]; exact List.getElem_mem h
theorem cl2_some {s t:E3} {a b:Nat} (h:cl2 s t=some (a,b)):s.2.1=t.2.1∧a ≠ b∧((s.1=t.1∧s.2.2=a∧t.2.2=b)∨(s.2.2=t.2.2∧s.1=a∧t.1=b)):=by
 unfold cl2 at h
 split at h
 ·cases h
 ·rename_i h1
  split at h
  ·rename_i h2
   have:=Option.some.inj h
   injection this with e1 e2
   exact ⟨by simpa using h1,by rw [← e1,← e2]; exact h2.2,.inl ⟨h2.1,e1,e2⟩⟩
  ·split at h
   ·rename_i h2
    have:=Option.some.inj h
    injection this with e1 e2
    exact ⟨by simpa using h1,by rw [← e1,← e2]; exact h2.2,.inr ⟨h2.1,e1,e2⟩⟩
   ·cases h
theorem clash_some {e:List E3} {a b:Nat} (h:clashS e=some (a,b)):Clash e a b∧a ≠ b:=by
 obtain ⟨i,hi,h1⟩:=find_some h
 obtain ⟨k,hk,h2⟩:=find_some h1
 obtain ⟨c1,c2,c3⟩:=cl2_some h2
 exact ⟨⟨_,mem_e3 hi,_,mem_e3 (by omega),c1,c3⟩,c2⟩
theorem clash_none {e:List E3} (h:clashS e=none):Det e:=by
 have hn:∀ i k,i < e.length→k < i→cl2 (e.getD i e3d) (e.getD k e3d)=none:=fun i k hi hk=>by
  have h1:=(List.findSome?_eq_none_iff.1 h) i (List.mem_range.2 hi)
  exact (List.findSome?_eq_none_iff.1 h1) k (List.mem_range.2 hk)
 have key:∀ i k,i < e.length→k < i→(e.getD i e3d).2.1=(e.getD k e3d).2.1→((e.getD i e3d).1=(e.getD k e3d).1↔(e.getD i e3d).2.2=(e.getD k e3d).2.2):=fun i k hi hk hx=>by
  have h1:=hn i k hi hk
  unfold cl2 at h1
  rw [if_neg (by simpa using hx)] at h1
  split at h1
  ·cases h1
  ·rename_i h2
   split at h1
   ·cases h1
   ·rename_i h3
    constructor
    ·intro h4; exact Classical.byContradiction fun h5=>h2 ⟨h4,h5⟩
    ·intro h4; exact Classical.byContradiction fun h5=>h3 ⟨h4,h5⟩
 have key2:∀ s∈e,∀ t∈e,s.2.1=t.2.1→(s.1=t.1↔s.2.2=t.2.2):=fun s hs t ht hx=>by
  obtain ⟨i,hi,rfl⟩:=List.getElem_of_mem hs
  obtain ⟨k,hk,rfl⟩:=List.getElem_of_mem ht
  have ei:e[i]=e.getD i e3d:=by rw [List.getD_eq_getElem?_getD,List.getElem?_eq_getElem hi]; rfl
  have ek:e[k]=e.getD k e3d:=by rw [List.getD_eq_getElem?_getD,List.getElem?_eq_getElem hk]; rfl
  rw [ei,ek] at hx ⊢
  rcases Nat.lt_trichotomy i k with h | h | h
  ·have:=key k i hk h hx.symm
   exact ⟨fun h=>(this.1 h.symm).symm,fun h=>(this.2 h.symm).symm⟩
  ·subst h; exact ⟨fun _=>rfl,fun _=>rfl⟩
  ·exact key i k hi h hx
 refine det_of fun a b ⟨s,hs,t,ht,hx,hc⟩=>?_
 rcases hc with ⟨h1,rfl,rfl⟩ | ⟨h1,rfl,rfl⟩
 ·exact (key2 s hs t ht hx).1 h1
 ·exact (key2 s hs t ht hx).2 h1

/-! ### Edges that are connected -/

structure FC (S:List (List Int)) (e:List E3):Prop where
 fe:FE S e
 let26:∀ t∈e,t.2.1≤26
 con:∀ t∈e,∃ w,PthE e 0 w t.1
theorem PthE.app {e:List E3} : ∀ {w v:List Int} {a b c:Nat},PthE e a w b→PthE e b v c→PthE e a (w++v) c
 | [],v,a,b,c,h,h2=>by rw [PthE] at h; subst h; exact h2
 | x :: w,v,a,b,c,⟨m,h1,h3⟩,h2=>⟨m,h1,PthE.app h3 h2⟩
theorem FE.congr {S:List (List Int)} {e f:List E3} (h:FE S e) (hm:∀ t,t∈f↔t∈e):FE S f:=by
 refine ⟨fun t ht=>h.pos t ((hm t).1 ht),fun w hw=>(h.cl w hw).mono fun t ht=>(hm t).2 ht,fun X step x0 hi hc=>?_⟩
 obtain ⟨κ,k1,k2⟩:=h.uni X step x0 hi hc
 exact ⟨κ,k1,fun t ht=>k2 t ((hm t).1 ht)⟩
theorem FC.congr {S:List (List Int)} {e f:List E3} (h:FC S e) (hm:∀ t,t∈f↔t∈e):FC S f:=
 ⟨h.fe.congr hm,fun t ht=>h.let26 t ((hm t).1 ht),fun t ht=>(h.con t ((hm t).1 ht)).imp fun w hw=>hw.mono fun t ht=>(hm t).2 ht⟩
theorem FC.join {S:List (List Int)} {e:List E3} {a b:Nat} (h:FC S e) (hc:Clash e a b∨Clash e b a) (hb:b ≠ 0):FC S (onceS e a b):=by
 refine ⟨h.fe.join hc hb (fun t ht=>mem_once.1 ht) fun t ht=>mem_once.2 ⟨t,ht,rfl⟩,fun t ht=>?_,fun t ht=>?_⟩
 ·obtain ⟨s,hs,rfl⟩:=mem_once.1 ht
  exact h.let26 s hs
 ·obtain ⟨s,hs,rfl⟩:=mem_once.1 ht
  obtain ⟨w,hw⟩:=h.con s hs
  have:=hw.map (a:=a) (b:=b) (f:=onceS e a b) fun t ht=>mem_once.2 ⟨t,ht,rfl⟩
  have h0:rho a b 0=0:=if_neg (fun e=>hb e.symm)
  rw [h0] at this
  exact ⟨w,this⟩

/-! ### How often places are put together -/

/-- How many places less than N edges have. -/
def occ (N:Nat) (e:List E3):Nat:=(List.range N).countP fun v=>decide (∃ t∈e,t.1=v∨t.2.2=v)
theorem occ_le (N:Nat) (e:List E3):occ N e≤N:=by
 have:=List.countP_le_length (p:=fun v=>decide (∃ t∈e,t.1=v∨t.2.2=v)) (l:=List.range N)
 simpa [occ] using this
theorem clash_mem {e:List E3} {a b:Nat} (h:Clash e a b):(∃ t∈e,t.1=a∨t.2.2=a)∧∃ t∈e,t.1=b∨t.2.2=b:=by
 obtain ⟨s,hs,t,ht,_,⟨_,h1,h2⟩ | ⟨_,h1,h2⟩⟩:=h
 ·exact ⟨⟨s,hs,.inr h1⟩,t,ht,.inr h2⟩
 ·exact ⟨⟨s,hs,.inl h1⟩,t,ht,.inl h2⟩
def Lt (N:Nat) (e:List E3):Prop:=∀ t∈e,t.1 < N∧t.2.2 < N
theorem lt_clash {N:Nat} {e:List E3} {a b:Nat} (hl:Lt N e) (h:Clash e a b):a < N∧b < N:=by
 obtain ⟨⟨s,hs,h1⟩,t,ht,h2⟩:=clash_mem h
 have:=hl s hs
 have:=hl t ht
 omega
theorem lt_once {N:Nat} {e:List E3} {a b:Nat} (hl:Lt N e) (ha:a < N):Lt N (onceS e a b):=fun t ht=>by
 obtain ⟨s,hs,rfl⟩:=mem_once.1 ht
 have:=hl s hs
 unfold rhoE rho
 simp only
 constructor<;>split<;>omega
theorem occ_once {N:Nat} {e:List E3} {a b:Nat} (hl:Lt N e) (h:Clash e a b∨Clash e b a) (hne:a ≠ b):occ N (onceS e a b) < occ N e:=by
 have hab:(∃ t∈e,t.1=a∨t.2.2=a)∧(∃ t∈e,t.1=b∨t.2.2=b)∧b < N:=by
  rcases h with h | h
  ·exact ⟨(clash_mem h).1,(clash_mem h).2,(lt_clash hl h).2⟩
  ·exact ⟨(clash_mem h).2,(clash_mem h).1,(lt_clash hl h).1⟩
 obtain ⟨h1,h2,h3⟩:=hab
 unfold occ
 refine countP_lt _ b (List.mem_range.2 h3) (by simpa using h2) ?_ fun x hx hx2=>?_
 ·simp only [decide_eq_false_iff_not,not_exists,not_and]
  intro t ht
  obtain ⟨s,hs,rfl⟩:=mem_once.1 ht
  unfold rhoE rho
  simp only
  intro hh
  rcases hh with hh | hh<;>split at hh<;>omega
 ·simp only [decide_eq_true_eq] at hx2 ⊢
  obtain ⟨t,ht,hh⟩:=hx2
  obtain ⟨s,hs,rfl⟩:=mem_once.1 ht
  unfold rhoE rho at hh
  simp only at hh
  rcases hh with hh | hh
  ·split at hh
   ·rw [← hh]; exact h1
   ·exact ⟨s,hs,.inl hh⟩
  ·split at hh
   ·rw [← hh]; exact h1
   ·exact ⟨s,hs,.inr hh⟩
theorem foldF_spec {S:List (List Int)} {N:Nat} : ∀ (n:Nat) (e:List E3),FC S e→Lt N e→occ N e≤n→FC S (foldF n e)∧Det (foldF n e)∧(e.Nodup→(foldF n e).Nodup)∧(foldF n e).length≤e.length
 | 0,e,h,hl,hn=>by
  refine ⟨h,?_,id,Nat.le_refl _⟩
  cases hc:clashS e with
  | none=>exact clash_none hc
  | some p =>
   obtain ⟨a,b⟩:=p
   obtain ⟨h1,h2⟩:=clash_some hc
   have:=occ_once hl (.inl h1) h2
   omega
 | n + 1,e,h,hl,hn=>by
  unfold foldF
  cases hc:clashS e with
  | none=>exact ⟨h,clash_none hc,id,Nat.le_refl _⟩
  | some p =>
   obtain ⟨a,b⟩:=p
   obtain ⟨h1,h2⟩:=clash_some hc
   have hcl:Clash e (min a b) (max a b)∨Clash e (max a b) (min a b):=by
    rcases Nat.le_total a b with h3 | h3
    ·rw [Nat.min_eq_left h3,Nat.max_eq_right h3]; exact .inl h1
    ·rw [Nat.min_eq_right h3,Nat.max_eq_left h3]; exact .inr h1
   have hab:=lt_clash hl h1
   have hlt:=occ_once hl hcl (by omega)
   have:=foldF_spec n (onceS e (min a b) (max a b)) (h.join hcl (by omega)) (lt_once hl (by omega)) (by omega)
   exact ⟨this.1,this.2.1,fun _=>this.2.2.1 (once_nd _ _ _),Nat.le_trans this.2.2.2 (once_len _ _ _)⟩

/-! ### The bouquet -/

/-- Words that are laid, and a part of one more. -/
structure BqI (S done:List (List Int)) (e:List E3) (n at_:Nat) (p:List Int):Prop where
 pos:0 < n
 al:at_ < n
 lt:∀ t∈e,t.1 < n∧t.2.2 < n∧0 < t.2.1∧t.2.1≤26
 cl:∀ w∈done,PthE e 0 w 0
 con:∀ u,u < n→∃ w,PthE e 0 w u
 pth:PthE e 0 p at_
 uni:∀ (X:Type) (step:X→Int→Option X) (x0:X),InvS step→(∀ w∈S,runW step x0 w=some x0)→∃ κ:Nat→X,κ 0=x0∧CmpE step κ e∧runW step x0 p=some (κ at_)
theorem bqI_zero (S:List (List Int)):BqI S [] [] 1 0 []:=by
 refine ⟨Nat.one_pos,Nat.one_pos,fun t ht=>?_,fun w hw=>?_,fun u hu=>⟨[],?_⟩,rfl,fun X step x0 _ _=>⟨fun _=>x0,rfl,fun t ht=>?_,rfl⟩⟩
 ·cases ht
 ·cases hw
 ·show 0=u; omega
 ·cases ht
theorem re_edE {e:List E3} {a b:Nat} {x:Int} (hx:x ≠ 0):Re (e++[edE a x b]) a x b:=by
 unfold edE
 by_cases h:0 < x
 ·rw [if_pos h]; exact .inl ⟨h,by simp⟩
 ·rw [if_neg h]; exact .inr ⟨by omega,by simp⟩
theorem PthE.snoc {e:List E3} {a b c:Nat} {w:List Int} {x:Int} (h:PthE e a w b) (h2:Re e b x c):PthE e a (w++[x]) c:=h.app ⟨c,h2,rfl⟩
theorem cmp_edE {X:Type} {step:X→Int→Option X} {κ:Nat→X} {e:List E3} {a b:Nat} {x:Int} (hi:InvS step) (hx:x ≠ 0) (h:CmpE step κ e) (hs:step (κ a) x=some (κ b)):CmpE step κ (e++[edE a x b]):=fun t ht=>by
 rcases List.mem_append.1 ht with ht | ht
 ·exact h t ht
 ·rw [List.mem_singleton] at ht
  subst ht
  unfold edE
  split
  ·exact hs
  ·exact hi _ _ _ hx hs
theorem runW_pre {X:Type} {step:X→Int→Option X} {c:X} {p r:List Int} {x:Int} {d z:X} (h:runW step c p=some d) (h2:runW step c (p++x :: r)=some z):∃ y,step d x=some y∧runW step y r=some z:=by
 rw [runW_app,h] at h2
 have h2:runW step d (x :: r)=some z:=h2
 unfold runW at h2
 cases e:step d x with
 | none=>rw [e] at h2; cases h2
 | some y=>rw [e] at h2; exact ⟨y,rfl,h2⟩
theorem BqI.put {S done:List (List Int)} {e:List E3} {n at_:Nat} {p:List Int} (h:BqI S done e n at_ p) {x:Int} (hx:x ≠ 0∧-26≤x∧x≤26) {r:List Int} (hm:p++x :: r∈S):BqI S done (e++[edE at_ x n]) (n + 1) n (p++[x]):=by
 have hmono:∀ t∈e,t∈e++[edE at_ x n]:=fun t ht=>List.mem_append_left _ ht
 have hp:PthE (e++[edE at_ x n]) 0 (p++[x]) n:=(h.pth.mono hmono).snoc (re_edE hx.1)
 refine ⟨by omega,by omega,fun t ht=>?_,fun w hw=>(h.cl w hw).mono hmono,fun u hu=>?_,hp,fun X step x0 hi hc=>?_⟩
 ·rcases List.mem_append.1 ht with ht | ht
  ·obtain ⟨a1,a2,a3⟩:=h.lt t ht; exact ⟨by omega,by omega,a3⟩
  ·rw [List.mem_singleton] at ht
   subst ht
   have:=h.al
   unfold edE
   split
   ·exact ⟨by simp only; omega,by simp only; omega,by simp only; omega,by simp only; omega⟩
   ·exact ⟨by simp only; omega,by simp only; omega,by simp only; omega,by simp only; omega⟩
 ·by_cases hu2:u < n
  ·exact (h.con u hu2).imp fun w hw=>hw.mono hmono
  ·obtain rfl:u=n:=by omega
   exact ⟨_,hp⟩
 ·obtain ⟨κ,k1,k2,k3⟩:=h.uni X step x0 hi hc
  obtain ⟨y,y1,y2⟩:=runW_pre k3 (hc _ hm)
  have old:∀ u,u < n→(if u=n then y else κ u)=κ u:=fun u hu=>if_neg (by omega)
  refine ⟨fun u=>if u=n then y else κ u,?_,cmp_edE hi hx.1 (fun t ht=>?_) ?_,?_⟩
  ·show (if 0=n then y else κ 0)=x0
   rw [old 0 h.pos,k1]
  ·show step (if t.1=n then y else κ t.1) t.2.1=some (if t.2.2=n then y else κ t.2.2)
   rw [old _ (h.lt t ht).1,old _ (h.lt t ht).2.1]
   exact k2 t ht
  ·show step (if at_=n then y else κ at_) x=some (if n=n then y else κ n)
   rw [old _ h.al,if_pos rfl]; exact y1
  ·show runW step x0 (p++[x])=some (if n=n then y else κ n)
   rw [if_pos rfl,runW_app,k3]
   show runW step (κ at_) [x]=some y
   unfold runW; rw [y1]; rfl
theorem BqI.back {S done:List (List Int)} {e:List E3} {n at_:Nat} {p:List Int} (h:BqI S done e n at_ p) {x:Int} (hx:x ≠ 0∧-26≤x∧x≤26) (hm:p++[x]∈S):BqI S (done++[p++[x]]) (e++[edE at_ x 0]) n 0 []:=by
 have hmono:∀ t∈e,t∈e++[edE at_ x 0]:=fun t ht=>List.mem_append_left _ ht
 have hp:PthE (e++[edE at_ x 0]) 0 (p++[x]) 0:=(h.pth.mono hmono).snoc (re_edE hx.1)
 refine ⟨h.pos,h.pos,fun t ht=>?_,fun w hw=>?_,fun u hu=>(h.con u hu).imp fun w hw=>hw.mono hmono,rfl,fun X step x0 hi hc=>?_⟩
 ·rcases List.mem_append.1 ht with ht | ht
  ·exact h.lt t ht
  ·rw [List.mem_singleton] at ht
   subst ht
   have:=h.al
   have:=h.pos
   unfold edE
   split
   ·exact ⟨by simp only; omega,by simp only; omega,by simp only; omega,by simp only; omega⟩
   ·exact ⟨by simp only; omega,by simp only; omega,by simp only; omega,by simp only; omega⟩
 ·rcases List.mem_append.1 hw with hw | hw
  ·exact (h.cl w hw).mono hmono
  ·rw [List.mem_singleton] at hw; subst hw; exact hp
 ·obtain ⟨κ,k1,k2,k3⟩:=h.uni X step x0 hi hc
  obtain ⟨y,y1,y2⟩:=runW_pre k3 (hc _ hm)
  have y2:some y=some x0:=y2
  refine ⟨κ,k1,cmp_edE hi hx.1 k2 ?_,by rw [k1]; rfl⟩
  rw [k1,y1,y2]
theorem bqW_spec {S done:List (List Int)} : ∀ (r:List Int) (p:List Int) (e:List E3) (n at_:Nat),BqI S done e n at_ p→(∀ x∈r,x ≠ 0∧-26≤x∧x≤26)→p++r∈S→r ≠ []→BqI S (done++[p++r]) (bqW r at_ n e).2 (bqW r at_ n e).1 0 []
 | [],p,e,n,at_,h,hx,hm,hr=>absurd rfl hr
 | [x],p,e,n,at_,h,hx,hm,_=>h.back (hx x (by simp)) hm
 | x :: y :: r,p,e,n,at_,h,hx,hm,_=>by
  have h1:=h.put (hx x (by simp)) hm
  have:=bqW_spec (y :: r) (p++[x]) (e++[edE at_ x n]) (n + 1) n h1 (fun z hz=>hx z (by simp only [List.mem_cons] at hz ⊢; exact .inr hz)) (by rw [List.append_assoc]; exact hm) (by simp)
  rw [List.append_assoc] at this
  unfold bqW
  exact this
theorem bqL_spec {S:List (List Int)} : ∀ (r done:List (List Int)) (e:List E3) (n:Nat),BqI S done e n 0 []→(∀ w∈r,w∈S∧∀ x∈w,x ≠ 0∧-26≤x∧x≤26)→BqI S (done++r) (bqL r n e).2 (bqL r n e).1 0 []
 | [],done,e,n,h,_=>by rw [List.append_nil]; exact h
 | w :: r,done,e,n,h,hr=>by
  have hw:=hr w (by simp)
  have h1:BqI S (done++[w]) (bqW w 0 n e).2 (bqW w 0 n e).1 0 []:=by
   cases w with
   | nil =>
    refine ⟨h.pos,h.al,h.lt,fun v hv=>?_,h.con,h.pth,h.uni⟩
    rcases List.mem_append.1 hv with hv | hv
    ·exact h.cl v hv
    ·rw [List.mem_singleton] at hv; subst hv; rfl
   | cons x t=>exact bqW_spec (x :: t) [] e n 0 h hw.2 hw.1 (by simp)
  have:=bqL_spec r (done++[w]) _ _ h1 fun v hv=>hr v (by simp [hv])
  rw [List.append_assoc] at this
  exact this
theorem bqW_len:∀ (r:List Int) (at_ n:Nat) (e:List E3),(bqW r at_ n e).2.length=e.length + r.length∧(bqW r at_ n e).1≤n + r.length
 | [],_,n,e=>⟨rfl,Nat.le_refl _⟩
 | [x],at_,n,e=>⟨by simp [bqW],by simp [bqW]⟩
 | x :: y :: r,at_,n,e=>by
  have:=bqW_len (y :: r) n (n + 1) (e++[edE at_ x n])
  unfold bqW
  simp only [List.length_append,List.length_cons,List.length_nil] at this ⊢
  omega
theorem bqL_len:∀ (L:List (List Int)) (n:Nat) (e:List E3),(bqL L n e).2.length=e.length + tot L∧(bqL L n e).1≤n + tot L
 | [],n,e=>⟨by simp [bqL,tot],by simp [bqL]⟩
 | w :: r,n,e=>by
  have h1:=bqW_len w 0 n e
  have h2:=bqL_len r (bqW w 0 n e).1 (bqW w 0 n e).2
  have h3:tot (w :: r)=w.length + tot r:=by simp [tot]
  unfold bqL
  omega
/-- What the reference answers. -/
def folded (L:List (List Int)):List E3:=foldF (bqL (L.map short) 1 []).1 (onceS (bqL (L.map short) 1 []).2 0 0)
theorem folded_spec {L:List (List Int)} (hL:∀ w∈L,Ok w):FC (L.map short) (folded L)∧Det (folded L)∧(folded L).Nodup:=by
 have h:=bqL_spec (S:=L.map short) (L.map short) [] [] 1 (bqI_zero _) fun w hw=>⟨hw,by
  obtain ⟨v,hv,rfl⟩:=List.mem_map.1 hw
  exact (hL v hv).short⟩
 rw [List.nil_append] at h
 have hfc:FC (L.map short) (bqL (L.map short) 1 []).2:=by
  refine ⟨⟨fun t ht=>(h.lt t ht).2.2.1,h.cl,fun X step x0 hi hc=>?_⟩,fun t ht=>(h.lt t ht).2.2.2,fun t ht=>h.con _ (h.lt t ht).1⟩
  obtain ⟨κ,k1,k2,_⟩:=h.uni X step x0 hi hc
  exact ⟨κ,k1,k2⟩
 have:=foldF_spec (N:=(bqL (L.map short) 1 []).1) (bqL (L.map short) 1 []).1 (onceS (bqL (L.map short) 1 []).2 0 0) (hfc.congr fun t=>once_zero) (fun t ht=>by
  have:=h.lt t (once_zero.1 ht)
  exact ⟨this.1,this.2.1⟩) (occ_le _ _)
 exact ⟨this.1,this.2.1,this.2.2.1 (once_nd _ _ _)⟩
theorem folded_len (L:List (List Int)) (hL:∀ w∈L,Ok w):(folded L).length≤tot (L.map short):=by
 have h:=bqL_spec (S:=L.map short) (L.map short) [] [] 1 (bqI_zero _) fun w hw=>⟨hw,by
  obtain ⟨v,hv,rfl⟩:=List.mem_map.1 hw
  exact (hL v hv).short⟩
 rw [List.nil_append] at h
 have hfc:FC (L.map short) (bqL (L.map short) 1 []).2:=by
  refine ⟨⟨fun t ht=>(h.lt t ht).2.2.1,h.cl,fun X step x0 hi hc=>?_⟩,fun t ht=>(h.lt t ht).2.2.2,fun t ht=>h.con _ (h.lt t ht).1⟩
  obtain ⟨κ,k1,k2,_⟩:=h.uni X step x0 hi hc
  exact ⟨κ,k1,k2⟩
 have:=foldF_spec (N:=(bqL (L.map short) 1 []).1) (bqL (L.map short) 1 []).1 (onceS (bqL (L.map short) 1 []).2 0 0) (hfc.congr fun t=>once_zero) (fun t ht=>by
  have:=h.lt t (once_zero.1 ht)
  exact ⟨this.1,this.2.1⟩) (occ_le _ _)
 have h2:=once_len (bqL (L.map short) 1 []).2 0 0
 have h3:=(bqL_len (L.map short) 1 []).1
 have h4:=this.2.2.2
 simp only [List.length_nil,Nat.zero_add] at h3
 unfold folded
 omega
end Go.Proofs.Ytneglephfhiamaa

/-
  Slices of structs in regions that draw their order. Conditions: none; a library text.
-/
set_option linter.all false
namespace Go.Pv
open Go.RowKit
section
variable {P:Program} {T:TypeId→Option TI} {s:St}
theorem idxS_loc (hT:∀ t ti,T t=some ti→tiOf P t=some ti) {o:Oper} {t:TypeId} {x y:Operand} (ho:o.op = .indexAddr t x y) {ti te:TI} (ht:T t=some ti) {e:TypeId} (hk:ti.kind = .slice e) (hte:T e=some te) {sz:Nat} (hsz:te.size=sz) {k lo len:Nat} (hx:s.ev x = .sls k lo len sz)
  {kk:IntKind} {i:Int} (hy:s.ev y = .p (.int kk i)) (h0:0≤i) (h1:i < (len:Int)):Loc1 P o s (.ptr k (lo + i.toNat * sz)) s.H:=by
 have hx2:x∈o.op.operands:=by rw [ho]; simp [Op.operands]
 have hy2:y∈o.op.operands:=by rw [ho]; simp [Op.operands]
 have D:∀ s2:St,Agree o s s2→DoesW P o s2 (.ptr k (lo + i.toNat * sz)) s2.H:=fun s2 ha=>idxS_does hT ho ht hk hte hsz ((ha _ hx2).trans hx) ((ha _ hy2).trans hy) h0 h1
 exact ⟨fun s2 hn ha hH=>by rw [← hH]; exact D s2 ha,fun _=>⟨rfl,fun s2 hn ha=>D s2 ha⟩,fun _=>rfl⟩
end
/-- Two rows of three numbers, compared. -/
theorem arrEq3_does {P:Program} {T:TypeId→Option TI} {s:St} (hT:∀ t ti,T t=some ti→tiOf P t=some ti) {o:Oper} {t u:TypeId} {x y:Operand} (ho:o.op = .binOp .eql t x y u) {ti te:TI} (ht:T t=some ti) {e:TypeId} (hk:ti.kind = .array 3 e) (hte:T e=some te) (hki:te.kind = .int .i64) (hsz:te.size=1)
  {a b c a' b' c' : Int} (hx:s.ev x = .p (.agg [.int .i64 a,.int .i64 b,.int .i64 c])) (hy:s.ev y = .p (.agg [.int .i64 a',.int .i64 b',.int .i64 c'])) (hge:P.eqGuardType P.depth t=false):DoesW P o s (.p (.bool (a == a' && (b == b' && c == c')))) s.H:=by
 intro C m ac w K Q R hK
 have get:∀ {z:Operand} {a b c:Int},s.ev z = .p (.agg [.int .i64 a,.int .i64 b,.int .i64 c])→ac.eval z = .agg #[.int .i64 a,.int .i64 b,.int .i64 c]:=by
  intro z a b c hz
  have h:=R.ev z
  rw [hz] at h
  generalize ac.eval z=v at h
  have h:=h.p_inv
  cases h with
  | agg _ vs hl hr =>
   have h0:=(hr 0 (by simp)).int_inv
   have h1:=(hr 1 (by simp)).int_inv
   have h2:=(hr 2 (by simp)).int_inv
   congr 1
   simp only [List.length_cons,List.length_nil] at hl
   apply Array.ext
   ·simp [hl]
   ·intro i hi1 hi2
    match i,hi2 with
    | 0,_=>simpa [Array.getD_eq_getD_getElem?,hl] using h0
    | 1,_=>simpa [Array.getD_eq_getD_getElem?,hl] using h1
    | 2,_=>simpa [Array.getD_eq_getD_getElem?,hl] using h2
 have ex:=get hx
 have ey:=get hy
 have hu:=ti_array (hT _ _ ht) hk
 have hue:=ti_int (hT _ _ hte) hki
 obtain ⟨i,de,z,h1,h2,h3,h4,h5,h6,h7,h8⟩:=tiOf_parts (hT _ _ hte)
 have hce:P.cellsOf e=1:=by simp [Program.cellsOf,h1,h4,hsz]
 have ag:∀ w,(isAgg e).run P w = .ok false w:=fun w=>by simp [isAgg,run_underlying hue]
 have q0:∀ (x y z:Value) w,(part e #[x,y,z] 0).run P w = .ok x w:=fun x y z w=>by simp [part,ag]
 have q1:∀ (x y z:Value) w,(part e #[x,y,z] 1).run P w = .ok y w:=fun x y z w=>by simp [part,ag]
 have q2:∀ (x y z:Value) w,(part e #[x,y,z] 2).run P w = .ok z w:=fun x y z w=>by simp [part,ag]
 have en:∀ (p q:Int) w,(Op.equalIn 9999 e (.int .i64 p) (.int .i64 q)).run P w = .ok (p == q) w:=fun p q w=>run_equalIn_num 9998 hue p q w
 have hr:(Op.equalIn 10000 t (.agg #[.int .i64 a,.int .i64 b,.int .i64 c]) (.agg #[.int .i64 a',.int .i64 b',.int .i64 c'])).run P w = .ok (a == a' && (b == b' && c == c')) w:=by
  rw [run_equalIn_array w 9999 _ _ hu h1,hce]
  simp only [show List.range 3=[0,1,2] from rfl,Op.eqItems,Sem.run_bind,q0,q1,q2,Result.andThen_ok,Nat.zero_mul,Nat.one_mul,Nat.mul_one,en]
  cases h1:(a == a')<;>cases h2:(b == b')<;>cases h3:(c == c')<;>simp [q1,q2,en,h2,h3]
 have hgg:(eqGuard .eql t x y (.agg #[.int .i64 a,.int .i64 b,.int .i64 c]) (.agg #[.int .i64 a',.int .i64 b',.int .i64 c'])).run P w = .ok () w:=by
  unfold eqGuard
  split<;>simp [hge]
 have hrun:(execOp ac.eval o).run P w = .ok (.value (.bool (a == a' && (b == b' && c == c')))) w:=by
  simp only [execOp,ho,ex,ey,hgg,Sem.run_bind,Result.andThen_ok,run_eql_struct,hr,Sem.run_pure]
 refine opR_of_wp (by first|rfl|(rw [ho]; rfl)) ?_
 unfold Oper.wp
 rw [hrun]
 exact hK _ m w R (.p _ _ (.bool _))
theorem arrEq3_loc {P:Program} {T:TypeId→Option TI} {s:St} (hT:∀ t ti,T t=some ti→tiOf P t=some ti) {o:Oper} {t u:TypeId} {x y:Operand} (ho:o.op = .binOp .eql t x y u) {ti te:TI} (ht:T t=some ti) {e:TypeId} (hk:ti.kind = .array 3 e) (hte:T e=some te) (hki:te.kind = .int .i64) (hsz:te.size=1)
  {a b c a' b' c' : Int} (hx:s.ev x = .p (.agg [.int .i64 a,.int .i64 b,.int .i64 c])) (hy:s.ev y = .p (.agg [.int .i64 a',.int .i64 b',.int .i64 c'])) (hge:P.eqGuardType P.depth t=false):Loc1 P o s (.p (.bool (a == a' && (b == b' && c == c')))) s.H:=by
 have hx2:x∈o.op.operands:=by rw [ho]; simp [Op.operands]
 have hy2:y∈o.op.operands:=by rw [ho]; simp [Op.operands]
 have D:∀ s2:St,Agree o s s2→DoesW P o s2 (.p (.bool (a == a' && (b == b' && c == c')))) s2.H:=fun s2 ha=>arrEq3_does hT ho ht hk hte hki hsz ((ha _ hx2).trans hx) ((ha _ hy2).trans hy) hge
 exact ⟨fun s2 hn ha hH=>by rw [← hH]; exact D s2 ha,fun _=>⟨rfl,fun s2 hn ha=>D s2 ha⟩,fun _=>rfl⟩
end Go.Pv

/-
  A row of elements of many cells that is written no more. Conditions: none; a library text.
-/
set_option linter.all false
namespace Go.Pv
open Go.RowKit
section
variable {P:Program} {C:Ctx} {m:Map} {s:St} {tmps:Array Value} {w:World}

theorem Rel.pureS (R:Rel C m s tmps w) {t k sz:Nat} {l:List PV} (h1:s.get t = .sls k 0 l.length sz) (h2:hget s.H k = .fro (flat l)) (hsz:∀ x∈l,x.cells.length=sz):Rel C m { s with sl:=(t,.p (.list l)) :: s.sl } tmps w:=by
 refine ⟨R.laid,R.below,R.base,R.size,R.inj,R.blk,R.fro,fun t'=>?_,R.mp⟩
 by_cases e:t=t'
 ·subst e
  have e2:({ s with sl:=(t,AV.p (.list l)) :: s.sl } : St).get t = .p (.list l):=by simp [St.get,lk]
  rw [e2]
  have hv:=R.slot t
  rw [h1] at hv
  generalize hve:tmps.getD t undef=v at hv
  cases hv with
  | sls _ _ _ _ _ hk hs =>
   rcases hs with ⟨h0,rfl⟩ | ⟨l1,cap,hm,rfl,hcap,hn⟩
   ·obtain rfl:=List.eq_nil_of_length_eq_zero h0
    exact .p _ _ (.list0 _ _ fun _=>rfl)
   rcases R.fro k _ (hget_fro h2) with ⟨_,hno⟩ | ⟨l2,vs,hm2,hok,hle,hcs⟩
   ·rw [hm] at hno; cases hno
   ·rw [hm] at hm2; cases hm2
    refine .p _ _ ?_
    rw [Nat.add_zero]
    exact .list l l1.g l1.o cap sz vs hok hsz hcap (fun c hc=>(hcs c hc).1) (fun c hc=>(hcs c hc).2)
 ·have e2:({ s with sl:=(t,AV.p (.list l)) :: s.sl } : St).get t' = s.get t':=by simp [St.get,lk,show (t == t')=false by simpa using e]
  rw [e2]
  exact R.slot t'

/-- The row becomes a list of its elements. -/
theorem hk_seals {c:Code} {Q:Exit→St→Prop} (t k:Nat) {sz:Nat} {l:List PV} (hsz:∀ x∈l,x.cells.length=sz) (h1:s.get t = .sls k 0 l.length sz) (h2:hget s.H k = .own (opl (flat l))) (h:Holds P c Q { s with sl:=(t,.p (.list l)) :: s.sl,H:=hset s.H k (.fro (flat l)) }):Holds P c Q s:=by
 refine hk_freeze k h2 (opl_allP (flat l)) fun r ds C m a w R hd=>h r ds C m a w ?_ hd
 have hkl:k < s.H.length:=(List.getElem?_eq_some_iff.1 (hget_mut h2)).1
 exact R.pureS (s:={ s with H:=hset s.H k (.fro (flat l)) }) h1 (hget_hset_same _ _ _ hkl) hsz
end
end Go.Pv

/-
  The reference's graphs: the walk of once. Conditions: none.
-/
set_option linter.all false
namespace Go.Proofs.Ytneglephfhiamaa
open Go.Pv

theorem wl_get {e:List E3} {i:Nat} (h:i < e.length):(wl e).getD i default = .agg [.int .i64 (e.getD i e3d).1,.int .i64 (e.getD i e3d).2.1,.int .i64 (e.getD i e3d).2.2]:=by
 unfold wl
 rw [List.getD_eq_getElem?_getD,List.getD_eq_getElem?_getD,List.getElem?_map,List.getElem?_eq_getElem h]; rfl
theorem fw_at {f:List E3} {k:Nat} (h:k < f.length):((fw f).drop (k * 3)).take 3=[.p (.int .i64 (f.getD k e3d).1),.p (.int .i64 (f.getD k e3d).2.1),.p (.int .i64 (f.getD k e3d).2.2)]:=by
 have hs:f=f.take k++(f.getD k e3d :: f.drop (k + 1)):=by
  rw [List.getD_eq_getElem?_getD,List.getElem?_eq_getElem h]
  have:=List.drop_eq_getElem_cons h
  simp only [Option.getD_some]
  rw [← this,List.take_append_drop]
 have hl:(fw (f.take k)).length=k * 3:=by rw [fw_len,List.length_take,Nat.min_eq_left (by omega)]
 obtain ⟨t,ht⟩:∃ t,f.getD k e3d=t:=⟨_,rfl⟩
 rw [ht] at hs ⊢
 have e1:fw f=fw (f.take k)++(fw [t]++fw (f.drop (k + 1))):=by
  conv=>lhs; rw [hs]
  rw [fw_app,← fw_app [t]]; rfl
 rw [e1,← hl,List.drop_left]
 obtain ⟨a,x,b⟩:=t
 rw [fw_one]; rfl

set_option maxHeartbeats 4000000 in
set_option maxRecDepth 20000 in
theorem once_c (e:List E3) (a b:Nat) (hl:e.length≤100000):FnC Try.prog 50 [.list (wl e),.int .i64 a,.int .i64 b] (.list (wl (onceS e a b))):=by
 have hI:∀ x y:Nat,((x:Int)=(y:Int))=(x=y):=fun x y=>by simp; omega
 refine fnc_of tab_ok Try.func50 rfl (by kernel_rfl) (by rw [Try.ntmps50]; exact Nat.le_add_left 3 _) ?_; rw [Try.ntmps50]
 refine qm ?_
 refine hk_region fun K hK=>runs_eval tab_ok ?_
 simp only [ev0,evA,evB,evP,fl,gp,tab,simprocAttr,reduceCtorEq,reduceIte]
 refine fin_run trivial (hK _ ?_)<;>clear hK<;>clear K
 refine qa (qm ?_)
 refine hk_region fun K hK=>runs_eval tab_ok ?_
 simp only [ev0,evA,evB,evP,fl,gp,tab,simprocAttr,reduceCtorEq,reduceIte]
 refine fin_run trivial (hK _ ?_)<;>clear hK<;>clear K
 refine qa (qm (qm ?_))
 refine hk_own0s 7 3 rfl ?_
 refine hk_region fun K hK=>runs_eval tab_ok ?_
 simp only [ev0,evA,evB,evP,fl,gp,tab,simprocAttr,reduceCtorEq,reduceIte]
 refine fin_run trivial (hK _ ?_)<;>clear hK<;>clear K
 refine qa (ql ?_)
 refine hk_loop (ι:=Nat × List E3) (fun q=>⟨57,[(0,.p (.list (wl e))),(1,.p (.int .i64 a)),(2,.p (.int .i64 b)),(7,.sls 0 0 q.2.length 3),(8,.p (.int .i64 (q.1:Nat)))],[.own (fw q.2)]⟩) (fun q=>q.1≤e.length∧dd q.2 ((e.map (rhoE a b)).drop q.1)=onceS e a b∧q.2.length≤q.1) (fun q=>e.length - q.1) (0,[]) ⟨Nat.zero_le _,rfl,Nat.le_refl _⟩ [0] (by simp only [leq,leA,ev0,evA,evB,evP,fl,gp,tab,simprocAttr,reduceCtorEq,reduceIte]<;>trivial) fun q hq=>?_
 obtain ⟨i,f⟩:=q
 obtain ⟨q1,q2,q3⟩:=hq
 simp only at q1 q2 q3 ⊢
 refine qm (qm ?_)
 refine hk_region fun K hK=>runs_eval tab_ok ?_
 simp only [ev0,evA,evB,evP,fl,gp,tab,simprocAttr,reduceCtorEq,reduceIte,wl_len]
 refine fin_run trivial (hK _ ?_)<;>clear hK<;>clear K
 refine qa ?_
 refine hk_cond rfl (fun hC1=>?_) (fun hC1=>?_)
 ·(try simp only [nhs] at hC1)
  have hi:i < e.length:=by omega
  obtain ⟨t,ht⟩:∃ t,e.getD i e3d=t:=⟨_,rfl⟩
  have htm:(e.map (rhoE a b)).drop i=rhoE a b t :: (e.map (rhoE a b)).drop (i + 1):=by
   rw [List.drop_eq_getElem_cons (by simpa using hi),← ht,List.getD_eq_getElem?_getD,List.getElem?_eq_getElem hi,List.getElem_map]; rfl
  obtain ⟨ta,tx,tb⟩:=t
  refine qh (qa (qm (ql (qm ?_))))
  refine hk_region fun K hK=>runs_eval tab_ok ?_
  simp only [ev0,evA,evB,evP,fl,gp,tab,simprocAttr,reduceCtorEq,reduceIte,wl_len,wl_get hi,ht]
  refine fin_run ?_ (hK _ ?_)<;>clear hK<;>clear K
  ·omega
  refine qa (qm (qm ?_))
  refine hk_region fun K hK=>runs_eval tab_ok ?_
  simp only [ev0,evA,evB,evP,fl,gp,tab,simprocAttr,reduceCtorEq,reduceIte]
  refine fin_run ?_ (hK _ ?_)<;>clear hK<;>clear K
  ·(first|exact trivial|omega|(simp only [In64] at *; omega)|(simp [In64] at *; omega)|(simp_all; done)|skip)
  refine qa ?_
  refine hk_cut (⟨57,[(0,.p (.list (wl e))),(1,.p (.int .i64 a)),(2,.p (.int .i64 b)),(7,.sls 0 0 f.length 3),(8,.p (.int .i64 (i:Nat))),(9,.ptr 1 0)],[.own (fw f),.own [.p (.int .i64 (rho a b ta)),.p (.int .i64 tx),.p (.int .i64 tb)]]⟩) ?_ ?_
  ·refine hk_cond rfl (fun hC2=>?_) (fun hC2=>?_)
   ·(try simp only [nhs] at hC2)
    refine hk_region fun K hK=>runs_eval tab_ok ?_
    simp only [ev0,evA,evB,evP,fl,gp,tab,simprocAttr,reduceCtorEq,reduceIte]
    refine fin_run ?_ (hK _ ?_)<;>clear hK<;>clear K
    ·(first|exact trivial|omega|(simp only [In64] at *; omega)|(simp [In64] at *; omega)|(simp_all; done)|skip)
    refine ⟨rfl,[0,1],?_⟩
    have h2:ta=b:=by omega
    have h3:rho a b ta=a:=by unfold rho; rw [if_pos h2]
    rw [h3]
    simp only [leq,leA,ev0,evA,evB,evP,fl,gp,tab,simprocAttr,reduceCtorEq,reduceIte,fw_ren,fw_sc]<;>trivial
   ·(try simp only [nhs] at hC2)
    refine qh ?_
    refine ⟨rfl,[0,1],?_⟩
    have h2:¬ ta=b:=by omega
    have h3:rho a b ta=ta:=by unfold rho; rw [if_neg h2]
    rw [h3]
    simp only [leq,leA,ev0,evA,evB,evP,fl,gp,tab,simprocAttr,reduceCtorEq,reduceIte,fw_ren,fw_sc]<;>trivial
  ·refine qm (qm ?_)
   refine hk_region fun K hK=>runs_eval tab_ok ?_
   simp only [ev0,evA,evB,evP,fl,gp,tab,simprocAttr,reduceCtorEq,reduceIte]
   refine fin_run ?_ (hK _ ?_)<;>clear hK<;>clear K
   ·(first|exact trivial|omega|(simp only [In64] at *; omega)|(simp [In64] at *; omega)|(simp_all; done)|skip)
   refine qa ?_
   refine hk_cut (⟨57,[(0,.p (.list (wl e))),(1,.p (.int .i64 a)),(2,.p (.int .i64 b)),(7,.sls 0 0 f.length 3),(8,.p (.int .i64 (i:Nat))),(9,.ptr 1 0)],[.own (fw f),.own [.p (.int .i64 (rho a b ta)),.p (.int .i64 tx),.p (.int .i64 (rho a b tb))]]⟩) ?_ ?_
   ·refine hk_cond rfl (fun hC3=>?_) (fun hC3=>?_)
    ·(try simp only [nhs] at hC3)
     refine hk_region fun K hK=>runs_eval tab_ok ?_
     simp only [ev0,evA,evB,evP,fl,gp,tab,simprocAttr,reduceCtorEq,reduceIte]
     refine fin_run ?_ (hK _ ?_)<;>clear hK<;>clear K
     ·(first|exact trivial|omega|(simp only [In64] at *; omega)|(simp [In64] at *; omega)|(simp_all; done)|skip)
     refine ⟨rfl,[0,1],?_⟩
     have h2:tb=b:=by omega
     have h3:rho a b tb=a:=by unfold rho; rw [if_pos h2]
     rw [h3]
     simp only [leq,leA,ev0,evA,evB,evP,fl,gp,tab,simprocAttr,reduceCtorEq,reduceIte,fw_ren,fw_sc]<;>trivial
    ·(try simp only [nhs] at hC3)
     refine qh ?_
     refine ⟨rfl,[0,1],?_⟩
     have h2:¬ tb=b:=by omega
     have h3:rho a b tb=tb:=by unfold rho; rw [if_neg h2]
     rw [h3]
     simp only [leq,leA,ev0,evA,evB,evP,fl,gp,tab,simprocAttr,reduceCtorEq,reduceIte,fw_ren,fw_sc]<;>trivial
   ·obtain ⟨y,hy⟩:∃ y,rhoE a b (ta,tx,tb)=y:=⟨_,rfl⟩
    have hy1:rho a b ta=y.1:=by rw [← hy]; rfl
    have hy2:tx=y.2.1:=by rw [← hy]; rfl
    have hy3:rho a b tb=y.2.2:=by rw [← hy]; rfl
    rw [hy] at htm
    rw [htm] at q2
    rw [hy1,hy2,hy3]
    obtain ⟨ya,yx,yb⟩:=y
    simp only
    refine qm ?_
    refine hk_region fun K hK=>runs_eval tab_ok ?_
    simp only [ev0,evA,evB,evP,fl,gp,tab,simprocAttr,reduceCtorEq,reduceIte]
    refine fin_run trivial (hK _ ?_)<;>clear hK<;>clear K
    refine qa (qm (qm ?_))
    refine hk_region fun K hK=>runs_eval tab_ok ?_
    simp only [ev0,evA,evB,evP,fl,gp,tab,simprocAttr,reduceCtorEq,reduceIte]
    refine fin_run trivial (hK _ ?_)<;>clear hK<;>clear K
    refine qa (ql ?_)
    refine hk_loop (ι:=Nat × Bool) (fun q=>⟨57,[(0,.p (.list (wl e))),(1,.p (.int .i64 a)),(2,.p (.int .i64 b)),(7,.sls 0 0 f.length 3),(8,.p (.int .i64 (i:Nat))),(9,.ptr 1 0),(10,.p (.bool q.2)),(11,.p (.int .i64 (q.1:Nat)))],[.own (fw f),.own [.p (.int .i64 ya),.p (.int .i64 yx),.p (.int .i64 yb)]]⟩) (fun q=>q.1≤f.length∧(q.2=true→(ya,yx,yb)∈f)∧(q.2=false→∀ k,k < q.1→f.getD k e3d ≠ (ya,yx,yb))) (fun q=>f.length - q.1) (0,false) ⟨Nat.zero_le _,fun h=>(by cases h),fun _ k hk=>absurd hk (Nat.not_lt_zero _)⟩ [0,1] (by simp only [leq,leA,ev0,evA,evB,evP,fl,gp,tab,simprocAttr,reduceCtorEq,reduceIte,fw_ren,fw_sc]<;>trivial) fun q hq=>?_
    obtain ⟨k,had⟩:=q
    obtain ⟨k1,k2,k3⟩:=hq
    simp only at k1 k2 k3 ⊢
    refine qm (qm ?_)
    by_cases g12a:(k:Int) < (f.length:Int)
    ·refine hk_region fun K hK=>runs_eval tab_ok ?_
     simp only [ev0,evA,evB,evP,fl,gp,tab,simprocAttr,reduceCtorEq,reduceIte,decide_eq_true g12a]
     refine fin_stop ?_ (runs_op (lenS_does tab_ok rfl rfl rfl rfl) rfl (by simp only [dstOk,Nat.reduceLT]) (runs_eval tab_ok ?_))
     ·(first|exact trivial|omega|(simp only [In64] at *; omega)|(simp [In64] at *; omega)|(simp_all; done)|skip)
     simp only [ev0,evA,evB,evP,fl,gp,tab,simprocAttr,reduceCtorEq,reduceIte,decide_eq_true g12a]
     refine fin_run trivial (hK _ ?_)<;>clear hK<;>clear K
     refine qa ?_
     refine hk_cond rfl (fun hC4=>?_) (fun hC4=>?_)
     ·(try simp only [nhs] at hC4)
      have hk:k < f.length:=by omega
      have hfk:=fw_at hk
      have hhad:had=false:=by simpa using hC4
      refine qh (qa (qm (ql ?_)))
      refine hk_draw mixed (by kernel_rfl) fun K hK=>runs_eval tab_ok ?_
      simp only [ev0,evA,evB,evP,fl,gp,tab,simprocAttr,reduceCtorEq,reduceIte,Int.toNat_natCast,Nat.zero_add,hfk]
      refine fin_stop ?_ (runs_opD (idxS_loc tab_ok rfl rfl rfl rfl rfl rfl rfl (by omega) (by omega)) rfl (by simp only [dstOk,Nat.reduceLT]) (runs_eval tab_ok ?_))
      ·first|trivial|(rw [fw_len]; omega)
      simp only [ev0,evA,evB,evP,fl,gp,tab,simprocAttr,reduceCtorEq,reduceIte,Int.toNat_natCast,Nat.zero_add,hfk]
      refine fin_stop ?_ (runs_opD (arrEq3_loc tab_ok rfl rfl rfl rfl rfl rfl rfl rfl (by kernel_rfl)) rfl (by simp only [dstOk,Nat.reduceLT]) (runs_eval tab_ok ?_))
      ·first|trivial|(rw [fw_len]; omega)
      simp only [ev0,evA,evB,evP,fl,gp,tab,simprocAttr,reduceCtorEq,reduceIte,Int.toNat_natCast,Nat.zero_add,hfk]
      refine fin_run ?_ (hK _ ?_)<;>clear hK<;>clear K
      ·(first|exact trivial|omega|(simp only [In64] at *; omega)|(simp [In64] at *; omega)|(simp_all; done)|skip)
      refine qd (qa ?_)
      refine hk_region fun K hK=>runs_eval tab_ok ?_
      simp only [ev0,evA,evB,evP,fl,gp,tab,simprocAttr,reduceCtorEq,reduceIte]
      refine fin_run ?_ (hK _ ?_)<;>clear hK<;>clear K
      ·(first|exact trivial|omega|(simp only [In64] at *; omega)|(simp [In64] at *; omega)|(simp_all; done)|skip)
      refine qa ?_
      obtain ⟨B,hB⟩:∃ B:Bool,(decide (((f.getD k e3d).1:Int)=(ya:Int)) && (decide ((f.getD k e3d).2.1=yx) && decide (((f.getD k e3d).2.2:Int)=(yb:Int))))=B:=⟨_,rfl⟩
      rw [hB]
      have hBi:B=true↔f.getD k e3d=(ya,yx,yb):=by
       rw [← hB]
       simp only [Bool.and_eq_true,decide_eq_true_eq]
       generalize f.getD k e3d=z
       obtain ⟨p,q,r⟩:=z
       simp only [Prod.mk.injEq]
       omega
      refine ⟨(k + 1,B),[0,1],⟨by simp only; omega,fun h=>?_,fun h k' hk'=>?_⟩,by simp only; omega,by simp only [leq,leA,ev0,evA,evB,evP,fl,gp,tab,simprocAttr,reduceCtorEq,reduceIte,fw_ren,fw_sc]<;>trivial⟩
      ·have:=hBi.1 h; rw [← this]; exact mem_e3 hk
      ·by_cases hk2:k' < k
       ·exact k3 hhad k' hk2
       ·have hk' : k' < k + 1:=hk'
        obtain rfl:k' = k:=by omega
        intro e0
        have:=hBi.2 e0
        have h:B=false:=h
        rw [h] at this; cases this
     ·(try simp only [nhs] at hC4)
      refine qj (qc (qc (qf (qa (qm ?_)))))
      refine hk_region fun K hK=>runs_eval tab_ok ?_
      simp only [ev0,evA,evB,evP,fl,gp,tab,simprocAttr,reduceCtorEq,reduceIte]
      refine fin_run trivial (hK _ ?_)<;>clear hK<;>clear K
      refine qa ?_
      refine hk_cond rfl (fun hC5=>?_) (fun hC5=>?_)
      ·(try simp only [nhs] at hC5)
       have hh:had=false:=by simpa using hC5
       have hke:k=f.length:=by first|omega|(exfalso; simp [hh] at hC4)
       have hnm:(ya,yx,yb) ∉ f:=fun h=>by
        obtain ⟨k',hk',e0⟩:=List.getElem_of_mem h
        refine k3 hh k' (by omega) ?_
        rw [List.getD_eq_getElem?_getD,List.getElem?_eq_getElem hk']; exact e0
       rw [dd,if_neg hnm] at q2
       have e1:(fw f).take (f.length * 3)++opl (flat [PV.agg [.int .i64 ya,.int .i64 yx,.int .i64 yb]])=fw (f++[(ya,yx,yb)]):=by
        have:=fw_dropt (W:=f) rfl
        rw [List.drop_zero] at this
        rw [this,fw_app,fw_one]; rfl
       refine hk_region fun K hK=>runs_eval tab_ok ?_
       simp only [ev0,evA,evB,evP,fl,gp,tab,simprocAttr,reduceCtorEq,reduceIte,e1]
       refine fin_stop ?_ (runs_op (appS_does (sz:=3) (k:=0) (lo:=0) (len:=f.length) (c:=fw f) (l:=[PV.agg [.int .i64 ya,.int .i64 yx,.int .i64 yb]]) tab_ok rfl rfl rfl rfl rfl rfl (by decide) (by decide) rfl rfl rfl (by intro x hx; simp at hx; subst hx; rfl) (by intro x hx; simp at hx; subst hx; rfl) (show 0 < 1 by decide) (by rw [fw_len]; omega) (by rw [fw_dropt rfl]; exact fw_ok _) (by show (f.length + 1) * 24≤_; omega) (by show (f.length + 1) * 3≤_; omega) (by show f.length + 1≤_; omega)) rfl (by simp only [dstOk,Nat.reduceLT]) (runs_eval tab_ok ?_))
       ·(first|exact trivial|omega|(simp only [In64] at *; omega)|(simp [In64] at *; omega)|(simp_all; done)|skip)
       simp only [ev0,evA,evB,evP,fl,gp,tab,simprocAttr,reduceCtorEq,reduceIte,e1]
       refine fin_run ?_ (hK _ ?_)<;>clear hK<;>clear K
       ·(first|exact trivial|omega|(simp only [In64] at *; omega)|(simp [In64] at *; omega)|(simp_all; done)|skip)
       refine qd (qa ?_)
       refine hk_region fun K hK=>runs_eval tab_ok ?_
       simp only [ev0,evA,evB,evP,fl,gp,tab,simprocAttr,reduceCtorEq,reduceIte]
       refine fin_run ?_ (hK _ ?_)<;>clear hK<;>clear K
       ·(first|exact trivial|omega|(simp only [In64] at *; omega)|(simp [In64] at *; omega)|(simp_all; done)|skip)
       refine qa ?_
       exact ⟨(i + 1,f++[(ya,yx,yb)]),[2],⟨by simp only; omega,q2,by simp only [List.length_append,List.length_singleton]; omega⟩,by simp only; omega,by simp only [leq,leA,ev0,evA,evB,evP,fl,gp,tab,simprocAttr,reduceCtorEq,reduceIte,fw_ren,fw_sc,List.length_append,List.length_singleton]<;>first|trivial|trace_state⟩
      ·(try simp only [nhs] at hC5)
       have hh:had=true:=by simpa using hC5
       rw [dd,if_pos (k2 hh)] at q2
       refine qh (qd (qa ?_))
       refine hk_region fun K hK=>runs_eval tab_ok ?_
       simp only [ev0,evA,evB,evP,fl,gp,tab,simprocAttr,reduceCtorEq,reduceIte]
       refine fin_run ?_ (hK _ ?_)<;>clear hK<;>clear K
       ·(first|exact trivial|omega|(simp only [In64] at *; omega)|(simp [In64] at *; omega)|(simp_all; done)|skip)
       refine qa ?_
       exact ⟨(i + 1,f),[0],⟨by simp only; omega,q2,by simp only; omega⟩,by simp only; omega,by simp only [leq,leA,ev0,evA,evB,evP,fl,gp,tab,simprocAttr,reduceCtorEq,reduceIte,fw_ren,fw_sc]<;>trivial⟩
    ·refine hk_region fun K hK=>runs_eval tab_ok ?_
     simp only [ev0,evA,evB,evP,fl,gp,tab,simprocAttr,reduceCtorEq,reduceIte,decide_eq_false g12a]
     refine fin_stop ?_ (runs_op (lenS_does tab_ok rfl rfl rfl rfl) rfl (by simp only [dstOk,Nat.reduceLT]) (runs_eval tab_ok ?_))
     ·(first|exact trivial|omega|(simp only [In64] at *; omega)|(simp [In64] at *; omega)|(simp_all; done)|skip)
     simp only [ev0,evA,evB,evP,fl,gp,tab,simprocAttr,reduceCtorEq,reduceIte,decide_eq_false g12a]
     refine fin_run trivial (hK _ ?_)<;>clear hK<;>clear K
     refine qa ?_
     refine hk_cond rfl (fun hC4=>?_) (fun hC4=>?_)
     ·cases hC4
     ·refine qj (qc (qc (qf (qa (qm ?_)))))
      refine hk_region fun K hK=>runs_eval tab_ok ?_
      simp only [ev0,evA,evB,evP,fl,gp,tab,simprocAttr,reduceCtorEq,reduceIte]
      refine fin_run trivial (hK _ ?_)<;>clear hK<;>clear K
      refine qa ?_
      refine hk_cond rfl (fun hC5=>?_) (fun hC5=>?_)
      ·(try simp only [nhs] at hC5)
       have hh:had=false:=by simpa using hC5
       have hke:k=f.length:=by first|omega|(exfalso; simp [hh] at hC4)
       have hnm:(ya,yx,yb) ∉ f:=fun h=>by
        obtain ⟨k',hk',e0⟩:=List.getElem_of_mem h
        refine k3 hh k' (by omega) ?_
        rw [List.getD_eq_getElem?_getD,List.getElem?_eq_getElem hk']; exact e0
       rw [dd,if_neg hnm] at q2
       have e1:(fw f).take (f.length * 3)++opl (flat [PV.agg [.int .i64 ya,.int .i64 yx,.int .i64 yb]])=fw (f++[(ya,yx,yb)]):=by
        have:=fw_dropt (W:=f) rfl
        rw [List.drop_zero] at this
        rw [this,fw_app,fw_one]; rfl
       refine hk_region fun K hK=>runs_eval tab_ok ?_
       simp only [ev0,evA,evB,evP,fl,gp,tab,simprocAttr,reduceCtorEq,reduceIte,e1]
       refine fin_stop ?_ (runs_op (appS_does (sz:=3) (k:=0) (lo:=0) (len:=f.length) (c:=fw f) (l:=[PV.agg [.int .i64 ya,.int .i64 yx,.int .i64 yb]]) tab_ok rfl rfl rfl rfl rfl rfl (by decide) (by decide) rfl rfl rfl (by intro x hx; simp at hx; subst hx; rfl) (by intro x hx; simp at hx; subst hx; rfl) (show 0 < 1 by decide) (by rw [fw_len]; omega) (by rw [fw_dropt rfl]; exact fw_ok _) (by show (f.length + 1) * 24≤_; omega) (by show (f.length + 1) * 3≤_; omega) (by show f.length + 1≤_; omega)) rfl (by simp only [dstOk,Nat.reduceLT]) (runs_eval tab_ok ?_))
       ·(first|exact trivial|omega|(simp only [In64] at *; omega)|(simp [In64] at *; omega)|(simp_all; done)|skip)
       simp only [ev0,evA,evB,evP,fl,gp,tab,simprocAttr,reduceCtorEq,reduceIte,e1]
       refine fin_run ?_ (hK _ ?_)<;>clear hK<;>clear K
       ·(first|exact trivial|omega|(simp only [In64] at *; omega)|(simp [In64] at *; omega)|(simp_all; done)|skip)
       refine qd (qa ?_)
       refine hk_region fun K hK=>runs_eval tab_ok ?_
       simp only [ev0,evA,evB,evP,fl,gp,tab,simprocAttr,reduceCtorEq,reduceIte]
       refine fin_run ?_ (hK _ ?_)<;>clear hK<;>clear K
       ·(first|exact trivial|omega|(simp only [In64] at *; omega)|(simp [In64] at *; omega)|(simp_all; done)|skip)
       refine qa ?_
       exact ⟨(i + 1,f++[(ya,yx,yb)]),[2],⟨by simp only; omega,q2,by simp only [List.length_append,List.length_singleton]; omega⟩,by simp only; omega,by simp only [leq,leA,ev0,evA,evB,evP,fl,gp,tab,simprocAttr,reduceCtorEq,reduceIte,fw_ren,fw_sc,List.length_append,List.length_singleton]<;>first|trivial|trace_state⟩
      ·(try simp only [nhs] at hC5)
       have hh:had=true:=by simpa using hC5
       rw [dd,if_pos (k2 hh)] at q2
       refine qh (qd (qa ?_))
       refine hk_region fun K hK=>runs_eval tab_ok ?_
       simp only [ev0,evA,evB,evP,fl,gp,tab,simprocAttr,reduceCtorEq,reduceIte]
       refine fin_run ?_ (hK _ ?_)<;>clear hK<;>clear K
       ·(first|exact trivial|omega|(simp only [In64] at *; omega)|(simp [In64] at *; omega)|(simp_all; done)|skip)
       refine qa ?_
       exact ⟨(i + 1,f),[0],⟨by simp only; omega,q2,by simp only; omega⟩,by simp only; omega,by simp only [leq,leA,ev0,evA,evB,evP,fl,gp,tab,simprocAttr,reduceCtorEq,reduceIte,fw_ren,fw_sc]<;>trivial⟩
 ·(try simp only [nhs] at hC1)
  have hie:i=e.length:=by omega
  have hq:f=onceS e a b:=by
   rw [hie,List.drop_of_length_le (by simp)] at q2
   exact q2
  refine qj (qc (qc (qf (qa (qm ?_)))))
  refine hk_seals 7 0 (sz:=3) (l:=wl f) (fun x hx=>by
   unfold wl at hx
   obtain ⟨t,_,rfl⟩:=List.mem_map.1 hx
   rfl) (by show AV.sls 0 0 f.length 3=_; rw [wl_len]) rfl ?_
  refine hk_region fun K hK=>runs_eval tab_ok ?_
  simp only [ev0,evA,evB,evP,fl,gp,tab,simprocAttr,reduceCtorEq,reduceIte]
  refine fin_run trivial (hK _ ?_)<;>clear hK<;>clear K
  refine qa (qk ?_)
  simp only [Try.results50,enA,ev0,evA,evB,evP,fl,gp,tab,simprocAttr,reduceCtorEq,reduceIte]
  all_goals (rw [← hq])
end Go.Proofs.Ytneglephfhiamaa

/-
  The reference's graphs: the walk of clash. Conditions: none.
-/
set_option linter.all false
namespace Go.Proofs.Ytneglephfhiamaa
open Go.Pv

def clashP (e:List E3):Int × Int:=match clashS e with
 | none=>(-1,-1)
 | some (a,b)=>(a,b)
def rowS (e:List E3) (i:Nat):Option (Nat × Nat):=(List.range i).findSome? fun k=>cl2 (e.getD i e3d) (e.getD k e3d)
theorem clashP_at {e:List E3} {i k:Nat} {p:Nat × Nat} (hi:i < e.length) (hk:k < i) (h1:∀ j,j < i→rowS e j=none) (h2:∀ j,j < k→cl2 (e.getD i e3d) (e.getD j e3d)=none) (h3:cl2 (e.getD i e3d) (e.getD k e3d)=some p):clashP e=((p.1:Int),(p.2:Int)):=by
 have h4:rowS e i=some p:=find_at hk h2 h3
 have h5:clashS e=some p:=find_at hi h1 h4
 unfold clashP
 rw [h5]
theorem clashP_none {e:List E3} (h1:∀ j,j < e.length→rowS e j=none):clashP e=(-1,-1):=by
 have h5:clashS e=none:=find_none h1
 unfold clashP
 rw [h5]

set_option maxHeartbeats 4000000 in
set_option maxRecDepth 20000 in
theorem clash_c (e:List E3) (hl:e.length≤100000):FnC Try.prog 51 [.list (wl e)] (.tup [.int .i64 (clashP e).1,.int .i64 (clashP e).2]):=by
 refine fnc_of tab_ok Try.func51 rfl (by kernel_rfl) (by rw [Try.ntmps51]; exact Nat.le_add_left 1 _) ?_; rw [Try.ntmps51]
 refine qm ?_
 refine hk_region fun K hK=>runs_eval tab_ok ?_
 simp only [ev0,evA,evB,evP,fl,gp,tab,simprocAttr,reduceCtorEq,reduceIte]
 refine fin_run trivial (hK _ ?_)<;>clear hK<;>clear K
 refine qa (qm (qm ?_))
 refine hk_region fun K hK=>runs_eval tab_ok ?_
 simp only [ev0,evA,evB,evP,fl,gp,tab,simprocAttr,reduceCtorEq,reduceIte]
 refine fin_run trivial (hK _ ?_)<;>clear hK<;>clear K
 refine qa (ql ?_)
 refine hk_loop (ι:=Nat) (fun i=>⟨96,[(0,.p (.list (wl e))),(4,.p (.int .i64 (i:Nat)))],[]⟩) (fun i=>i≤e.length∧∀ j,j < i→rowS e j=none) (fun i=>e.length - i) 0 ⟨Nat.zero_le _,fun j hj=>absurd hj (Nat.not_lt_zero _)⟩ [] (by simp only [leq,leA,ev0,evA,evB,evP,fl,gp,tab,simprocAttr,reduceCtorEq,reduceIte]<;>trivial) fun i hi=>?_
 obtain ⟨q1,q2⟩:=hi
 refine qm (qm ?_)
 refine hk_region fun K hK=>runs_eval tab_ok ?_
 simp only [ev0,evA,evB,evP,fl,gp,tab,simprocAttr,reduceCtorEq,reduceIte,wl_len]
 refine fin_run trivial (hK _ ?_)<;>clear hK<;>clear K
 refine qa ?_
 refine hk_cond rfl (fun hC1=>?_) (fun hC1=>?_)
 ·(try simp only [nhs] at hC1)
  have hi:i < e.length:=by omega
  obtain ⟨s,hs⟩:∃ t,e.getD i e3d=t:=⟨_,rfl⟩
  obtain ⟨sa,sx,sb⟩:=s
  refine qh (qa (qm (ql (qm ?_))))
  refine hk_region fun K hK=>runs_eval tab_ok ?_
  simp only [ev0,evA,evB,evP,fl,gp,tab,simprocAttr,reduceCtorEq,reduceIte]
  refine fin_run trivial (hK _ ?_)<;>clear hK<;>clear K
  refine qa (ql ?_)
  refine hk_loop (ι:=Nat) (fun k=>⟨96,[(0,.p (.list (wl e))),(4,.p (.int .i64 (i:Nat))),(5,.p (.int .i64 (k:Nat)))],[]⟩) (fun k=>k≤i∧∀ j,j < k→cl2 (e.getD i e3d) (e.getD j e3d)=none) (fun k=>i - k) 0 ⟨Nat.zero_le _,fun j hj=>absurd hj (Nat.not_lt_zero _)⟩ [] (by simp only [leq,leA,ev0,evA,evB,evP,fl,gp,tab,simprocAttr,reduceCtorEq,reduceIte]<;>trivial) fun k hk=>?_
  obtain ⟨p1,p2⟩:=hk
  refine qm (qm ?_)
  refine hk_region fun K hK=>runs_eval tab_ok ?_
  simp only [ev0,evA,evB,evP,fl,gp,tab,simprocAttr,reduceCtorEq,reduceIte]
  refine fin_run trivial (hK _ ?_)<;>clear hK<;>clear K
  refine qa ?_
  refine hk_cond rfl (fun hC2=>?_) (fun hC2=>?_)
  ·(try simp only [nhs] at hC2)
   have hk:k < i:=by omega
   have hke:k < e.length:=by omega
   obtain ⟨t,ht⟩:∃ t,e.getD k e3d=t:=⟨_,rfl⟩
   obtain ⟨ta,tx,tb⟩:=t
   have hn:∀ (h:cl2 (sa,sx,sb) (ta,tx,tb)=none),∀ j,j < k + 1→cl2 (e.getD i e3d) (e.getD j e3d)=none:=fun h j hj=>by
    by_cases hj2:j < k
    ·exact p2 j hj2
    ·obtain rfl:j=k:=by omega
     rw [hs,ht]; exact h
   refine qh (qa (qm (ql (qm (qm ?_)))))
   refine hk_draw mixed (by kernel_rfl) fun K hK=>runs_eval tab_ok ?_
   simp only [ev0,evA,evB,evP,fl,gp,tab,simprocAttr,reduceCtorEq,reduceIte,wl_len,wl_get hi,wl_get hke,hs,ht]
   refine fin_run ?_ (hK _ ?_)<;>clear hK<;>clear K
   ·exact ⟨⟨by omega,by omega⟩,by omega,by omega⟩
   refine qa ?_
   refine hk_cond rfl (fun hC3=>?_) (fun hC3=>?_)
   ·(try simp only [nhs] at hC3)
    refine qj (qc (qf (qa ?_)))
    refine hk_region fun K hK=>runs_eval tab_ok ?_
    simp only [ev0,evA,evB,evP,fl,gp,tab,simprocAttr,reduceCtorEq,reduceIte]
    refine fin_run ?_ (hK _ ?_)<;>clear hK<;>clear K
    ·(first|exact trivial|omega|(simp only [In64] at *; omega)|(simp [In64] at *; omega)|(simp_all; done)|skip)
    refine qa ?_
    have hnone:cl2 (sa,sx,sb) (ta,tx,tb)=none:=by
     unfold cl2
     by_cases hx:sx=tx
     ·rw [if_neg (fun h=>h hx),if_neg (by simp only; omega),if_neg (by simp only; omega)]
     ·rw [if_pos hx]
    exact ⟨k + 1,[],⟨by omega,hn hnone⟩,by omega,by simp only [leq,leA,ev0,evA,evB,evP,fl,gp,tab,simprocAttr,reduceCtorEq,reduceIte]<;>trivial⟩
   ·(try simp only [nhs] at hC3)
    refine qh (qa (qm (qm ?_)))
    by_cases g8a:(sa:Int)=(ta:Int)
    ·refine hk_draw mixed (by kernel_rfl) fun K hK=>runs_eval tab_ok ?_
     simp only [ev0,evA,evB,evP,fl,gp,tab,simprocAttr,reduceCtorEq,reduceIte,wl_len,wl_get hi,wl_get hke,hs,ht,decide_eq_true g8a]
     refine fin_run ?_ (hK _ ?_)<;>clear hK<;>clear K
     ·(first|exact trivial|omega|(simp only [In64] at *; omega)|(simp [In64] at *; omega)|(simp_all; done)|skip)
     refine qa ?_
     refine hk_cond rfl (fun hC4=>?_) (fun hC4=>?_)
     ·(try simp only [nhs] at hC4)
      refine qm ?_
      refine hk_draw mixed (by kernel_rfl) fun K hK=>runs_eval tab_ok ?_
      simp only [ev0,evA,evB,evP,fl,gp,tab,simprocAttr,reduceCtorEq,reduceIte,wl_len,wl_get hi,wl_get hke,hs,ht]
      refine fin_run ?_ (hK _ ?_)<;>clear hK<;>clear K
      ·(first|exact trivial|omega|(simp only [In64] at *; omega)|(simp [In64] at *; omega)|(simp_all; done)|skip)
      refine qa (qk (qb (qe (qb (qb (qe (qe (qb (qb (qe (qb ?_)))))))))))
      simp only [Try.results51,enA,ev0,evA,evB,evP,fl,gp,tab,simprocAttr,reduceCtorEq,reduceIte]
      have hx:sx=tx:=by simpa using hC3
      rw [clashP_at (p:=(sb,tb)) hi hk q2 p2 (by
       rw [hs,ht]
       unfold cl2
       rw [if_neg (fun h=>h hx),if_pos (by simp only; omega)])]
      exact ⟨rfl,rfl⟩
     ·(try simp only [nhs] at hC4)
      refine qh (qa (qm ?_))
      by_cases g10a:(sb:Int)=(tb:Int)
      ·refine hk_draw mixed (by kernel_rfl) fun K hK=>runs_eval tab_ok ?_
       simp only [ev0,evA,evB,evP,fl,gp,tab,simprocAttr,reduceCtorEq,reduceIte,wl_len,wl_get hi,wl_get hke,hs,ht,decide_eq_true g10a]
       refine fin_run ?_ (hK _ ?_)<;>clear hK<;>clear K
       ·(first|exact trivial|omega|(simp only [In64] at *; omega)|(simp [In64] at *; omega)|(simp_all; done)|skip)
       refine qa ?_
       refine hk_cond rfl (fun hC5=>?_) (fun hC5=>?_)
       ·(try simp only [nhs] at hC5)
        refine qm ?_
        refine hk_draw mixed (by kernel_rfl) fun K hK=>runs_eval tab_ok ?_
        simp only [ev0,evA,evB,evP,fl,gp,tab,simprocAttr,reduceCtorEq,reduceIte,wl_len,wl_get hi,wl_get hke,hs,ht]
        refine fin_run ?_ (hK _ ?_)<;>clear hK<;>clear K
        ·(first|exact trivial|omega|(simp only [In64] at *; omega)|(simp [In64] at *; omega)|(simp_all; done)|skip)
        refine qa (qk (qe (qb (qb (qe (qe (qb (qb (qe (qb ?_))))))))))
        simp only [Try.results51,enA,ev0,evA,evB,evP,fl,gp,tab,simprocAttr,reduceCtorEq,reduceIte]
        have hx:sx=tx:=by simpa using hC3
        rw [clashP_at (p:=(sa,ta)) hi hk q2 p2 (by
         rw [hs,ht]
         unfold cl2
         rw [if_neg (fun h=>h hx),if_neg (by simp only; omega),if_pos (by simp only; omega)])]
        exact ⟨rfl,rfl⟩
       ·(try simp only [nhs] at hC5)
        refine qh (qd (qa ?_))
        refine hk_region fun K hK=>runs_eval tab_ok ?_
        simp only [ev0,evA,evB,evP,fl,gp,tab,simprocAttr,reduceCtorEq,reduceIte]
        refine fin_run ?_ (hK _ ?_)<;>clear hK<;>clear K
        ·(first|exact trivial|omega|(simp only [In64] at *; omega)|(simp [In64] at *; omega)|(simp_all; done)|skip)
        refine qa ?_
        have hnone:cl2 (sa,sx,sb) (ta,tx,tb)=none:=by
         unfold cl2
         by_cases hx:sx=tx
         ·rw [if_neg (fun h=>h hx),if_neg (by simp only; omega),if_neg (by simp only; omega)]
         ·rw [if_pos hx]
        exact ⟨k + 1,[],⟨by omega,hn hnone⟩,by omega,by simp only [leq,leA,ev0,evA,evB,evP,fl,gp,tab,simprocAttr,reduceCtorEq,reduceIte]<;>trivial⟩
      ·refine hk_draw mixed (by kernel_rfl) fun K hK=>runs_eval tab_ok ?_
       simp only [ev0,evA,evB,evP,fl,gp,tab,simprocAttr,reduceCtorEq,reduceIte,wl_len,wl_get hi,wl_get hke,hs,ht,decide_eq_false g10a]
       refine fin_run ?_ (hK _ ?_)<;>clear hK<;>clear K
       ·(first|exact trivial|omega|(simp only [In64] at *; omega)|(simp [In64] at *; omega)|(simp_all; done)|skip)
       refine qa ?_
       refine hk_cond rfl (fun hC5=>?_) (fun hC5=>?_)
       ·cases hC5
       ·refine qh (qd (qa ?_))
        refine hk_region fun K hK=>runs_eval tab_ok ?_
        simp only [ev0,evA,evB,evP,fl,gp,tab,simprocAttr,reduceCtorEq,reduceIte]
        refine fin_run ?_ (hK _ ?_)<;>clear hK<;>clear K
        ·(first|exact trivial|omega|(simp only [In64] at *; omega)|(simp [In64] at *; omega)|(simp_all; done)|skip)
        refine qa ?_
        have hnone:cl2 (sa,sx,sb) (ta,tx,tb)=none:=by
         unfold cl2
         by_cases hx:sx=tx
         ·rw [if_neg (fun h=>h hx),if_neg (by simp only; omega),if_neg (by simp only; omega)]
         ·rw [if_pos hx]
        exact ⟨k + 1,[],⟨by omega,hn hnone⟩,by omega,by simp only [leq,leA,ev0,evA,evB,evP,fl,gp,tab,simprocAttr,reduceCtorEq,reduceIte]<;>trivial⟩
    ·refine hk_draw mixed (by kernel_rfl) fun K hK=>runs_eval tab_ok ?_
     simp only [ev0,evA,evB,evP,fl,gp,tab,simprocAttr,reduceCtorEq,reduceIte,wl_len,wl_get hi,wl_get hke,hs,ht,decide_eq_false g8a]
     refine fin_run ?_ (hK _ ?_)<;>clear hK<;>clear K
     ·(first|exact trivial|omega|(simp only [In64] at *; omega)|(simp [In64] at *; omega)|(simp_all; done)|skip)
     refine qa ?_
     refine hk_cond rfl (fun hC4=>?_) (fun hC4=>?_)
     ·cases hC4
     ·refine qh (qa (qm ?_))
      by_cases g10a:(sb:Int)=(tb:Int)
      ·refine hk_draw mixed (by kernel_rfl) fun K hK=>runs_eval tab_ok ?_
       simp only [ev0,evA,evB,evP,fl,gp,tab,simprocAttr,reduceCtorEq,reduceIte,wl_len,wl_get hi,wl_get hke,hs,ht,decide_eq_true g10a]
       refine fin_run ?_ (hK _ ?_)<;>clear hK<;>clear K
       ·(first|exact trivial|omega|(simp only [In64] at *; omega)|(simp [In64] at *; omega)|(simp_all; done)|skip)
       refine qa ?_
       refine hk_cond rfl (fun hC5=>?_) (fun hC5=>?_)
       ·(try simp only [nhs] at hC5)
        refine qm ?_
        refine hk_draw mixed (by kernel_rfl) fun K hK=>runs_eval tab_ok ?_
        simp only [ev0,evA,evB,evP,fl,gp,tab,simprocAttr,reduceCtorEq,reduceIte,wl_len,wl_get hi,wl_get hke,hs,ht]
        refine fin_run ?_ (hK _ ?_)<;>clear hK<;>clear K
        ·(first|exact trivial|omega|(simp only [In64] at *; omega)|(simp [In64] at *; omega)|(simp_all; done)|skip)
        refine qa (qk (qe (qb (qb (qe (qe (qb (qb (qe (qb ?_))))))))))
        simp only [Try.results51,enA,ev0,evA,evB,evP,fl,gp,tab,simprocAttr,reduceCtorEq,reduceIte]
        have hx:sx=tx:=by simpa using hC3
        rw [clashP_at (p:=(sa,ta)) hi hk q2 p2 (by
         rw [hs,ht]
         unfold cl2
         rw [if_neg (fun h=>h hx),if_neg (by simp only; omega),if_pos (by simp only; omega)])]
        exact ⟨rfl,rfl⟩
       ·(try simp only [nhs] at hC5)
        refine qh (qd (qa ?_))
        refine hk_region fun K hK=>runs_eval tab_ok ?_
        simp only [ev0,evA,evB,evP,fl,gp,tab,simprocAttr,reduceCtorEq,reduceIte]
        refine fin_run ?_ (hK _ ?_)<;>clear hK<;>clear K
        ·(first|exact trivial|omega|(simp only [In64] at *; omega)|(simp [In64] at *; omega)|(simp_all; done)|skip)
        refine qa ?_
        have hnone:cl2 (sa,sx,sb) (ta,tx,tb)=none:=by
         unfold cl2
         by_cases hx:sx=tx
         ·rw [if_neg (fun h=>h hx),if_neg (by simp only; omega),if_neg (by simp only; omega)]
         ·rw [if_pos hx]
        exact ⟨k + 1,[],⟨by omega,hn hnone⟩,by omega,by simp only [leq,leA,ev0,evA,evB,evP,fl,gp,tab,simprocAttr,reduceCtorEq,reduceIte]<;>trivial⟩
      ·refine hk_draw mixed (by kernel_rfl) fun K hK=>runs_eval tab_ok ?_
       simp only [ev0,evA,evB,evP,fl,gp,tab,simprocAttr,reduceCtorEq,reduceIte,wl_len,wl_get hi,wl_get hke,hs,ht,decide_eq_false g10a]
       refine fin_run ?_ (hK _ ?_)<;>clear hK<;>clear K
       ·(first|exact trivial|omega|(simp only [In64] at *; omega)|(simp [In64] at *; omega)|(simp_all; done)|skip)
       refine qa ?_
       refine hk_cond rfl (fun hC5=>?_) (fun hC5=>?_)
       ·cases hC5
       ·refine qh (qd (qa ?_))
        refine hk_region fun K hK=>runs_eval tab_ok ?_
        simp only [ev0,evA,evB,evP,fl,gp,tab,simprocAttr,reduceCtorEq,reduceIte]
        refine fin_run ?_ (hK _ ?_)<;>clear hK<;>clear K
        ·(first|exact trivial|omega|(simp only [In64] at *; omega)|(simp [In64] at *; omega)|(simp_all; done)|skip)
        refine qa ?_
        have hnone:cl2 (sa,sx,sb) (ta,tx,tb)=none:=by
         unfold cl2
         by_cases hx:sx=tx
         ·rw [if_neg (fun h=>h hx),if_neg (by simp only; omega),if_neg (by simp only; omega)]
         ·rw [if_pos hx]
        exact ⟨k + 1,[],⟨by omega,hn hnone⟩,by omega,by simp only [leq,leA,ev0,evA,evB,evP,fl,gp,tab,simprocAttr,reduceCtorEq,reduceIte]<;>trivial⟩
  ·(try simp only [nhs] at hC2)
   refine qj (qc (qc (qf (qd (qa ?_)))))
   refine hk_region fun K hK=>runs_eval tab_ok ?_
   simp only [ev0,evA,evB,evP,fl,gp,tab,simprocAttr,reduceCtorEq,reduceIte]
   refine fin_run ?_ (hK _ ?_)<;>clear hK<;>clear K
   ·(first|exact trivial|omega|(simp only [In64] at *; omega)|(simp [In64] at *; omega)|(simp_all; done)|skip)
   refine qa ?_
   refine ⟨i + 1,[],⟨by omega,fun j hj=>?_⟩,by omega,by simp only [leq,leA,ev0,evA,evB,evP,fl,gp,tab,simprocAttr,reduceCtorEq,reduceIte]<;>trivial⟩
   by_cases h:j < i
   ·exact q2 j h
   ·obtain rfl:j=i:=by omega
    exact find_none fun k hk=>p2 k (by omega)
 ·(try simp only [nhs] at hC1)
  refine qj (qc (qc (qf (qa (qm ?_)))))
  refine hk_region fun K hK=>runs_eval tab_ok ?_
  simp only [ev0,evA,evB,evP,fl,gp,tab,simprocAttr,reduceCtorEq,reduceIte]
  refine fin_run trivial (hK _ ?_)<;>clear hK<;>clear K
  refine qa (qk ?_)
  simp only [Try.results51,enA,ev0,evA,evB,evP,fl,gp,tab,simprocAttr,reduceCtorEq,reduceIte]
  have hie:i=e.length:=by omega
  rw [clashP_none (fun j hj=>q2 j (by omega))]
  exact ⟨rfl,rfl⟩
end Go.Proofs.Ytneglephfhiamaa

/-
  The reference's graphs: the walks of Walk and Within. Conditions: none.
-/
set_option linter.all false
namespace Go.Proofs.Ytneglephfhiamaa
open Go.Pv

def wkA (at_ x to:Int) (t:E3):Int:=if 0 < x∧(t.1:Int)=at_∧t.2.1=x then (t.2.2:Int) else to
def wkB (at_ x to:Int) (t:E3):Int:=if x < 0∧(t.2.2:Int)=at_∧t.2.1 = -x then (t.1:Int) else wkA at_ x to t
def wk1 (e:List E3) (at_ x:Int):Int:=e.foldl (wkB at_ x) (-1)
def walkS (e:List E3):Int→List Int→Int
 | at_,[]=>at_
 | at_,x :: w=>if 0≤at_ then walkS e (wk1 e at_ x) w else at_

set_option maxHeartbeats 4000000 in
set_option maxRecDepth 20000 in
theorem walk_c (e:List E3) (a0:Int) (w:List Int) (hl:e.length≤100000) (hw:w.length≤1000000000) (hs:Sm w):FnC Try.prog 60 [.list (wl e),.int .i64 a0,.list (il w)] (.int .i64 (walkS e a0 w)):=by
 refine fnc_of tab_ok Try.func60 rfl (by kernel_rfl) (by rw [Try.ntmps60]; exact Nat.le_add_left 3 _) ?_; rw [Try.ntmps60]
 refine qm ?_
 refine hk_region fun K hK=>runs_eval tab_ok ?_
 simp only [ev0,evA,evB,evP,fl,gp,tab,simprocAttr,reduceCtorEq,reduceIte]
 refine fin_run trivial (hK _ ?_)<;>clear hK<;>clear K
 refine qa (qm (qm ?_))
 refine hk_region fun K hK=>runs_eval tab_ok ?_
 simp only [ev0,evA,evB,evP,fl,gp,tab,simprocAttr,reduceCtorEq,reduceIte]
 refine fin_run trivial (hK _ ?_)<;>clear hK<;>clear K
 refine qa (ql ?_)
 refine hk_loop (ι:=Nat × Int) (fun q=>⟨91,[(0,.p (.list (wl e))),(1,.p (.int .i64 q.2)),(2,.p (.list (il w))),(7,.p (.int .i64 (q.1:Nat)))],[]⟩) (fun q=>q.1≤w.length∧walkS e q.2 (w.drop q.1)=walkS e a0 w) (fun q=>w.length - q.1) (0,a0) ⟨Nat.zero_le _,rfl⟩ [] (by simp only [leq,leA,ev0,evA,evB,evP,fl,gp,tab,simprocAttr,reduceCtorEq,reduceIte]<;>trivial) fun q hq=>?_
 obtain ⟨i,at_⟩:=q
 obtain ⟨q1,q2⟩:=hq
 simp only at q1 q2 ⊢
 refine qm (qm ?_)
 by_cases g2a:(i:Int) < (w.length:Int)
 ·refine hk_region fun K hK=>runs_eval tab_ok ?_
  simp only [ev0,evA,evB,evP,fl,gp,tab,simprocAttr,reduceCtorEq,reduceIte,il_length,decide_eq_true g2a]
  refine fin_run trivial (hK _ ?_)<;>clear hK<;>clear K
  refine qa ?_
  refine hk_cond rfl (fun hC1=>?_) (fun hC1=>?_)
  ·(try simp only [nhs] at hC1)
   have hi:i < w.length:=by omega
   have ha:0≤at_:=by simpa using hC1
   obtain ⟨x,hx⟩:∃ x,w.getD i 0=x:=⟨_,rfl⟩
   have hxb : -26≤x∧x≤26:=hs x (by rw [← hx,List.getD_eq_getElem?_getD,List.getElem?_eq_getElem hi]; exact List.getElem_mem hi)
   have hdr:w.drop i=x :: w.drop (i + 1):=by
    rw [List.drop_eq_getElem_cons hi,← hx,List.getD_eq_getElem?_getD,List.getElem?_eq_getElem hi]; rfl
   rw [hdr,walkS,if_pos ha] at q2
   refine qh (qa (qm (ql (qm ?_))))
   refine hk_region fun K hK=>runs_eval tab_ok ?_
   simp only [ev0,evA,evB,evP,fl,gp,tab,simprocAttr,reduceCtorEq,reduceIte]
   refine fin_run trivial (hK _ ?_)<;>clear hK<;>clear K
   refine qa (qm (qm ?_))
   refine hk_region fun K hK=>runs_eval tab_ok ?_
   simp only [ev0,evA,evB,evP,fl,gp,tab,simprocAttr,reduceCtorEq,reduceIte]
   refine fin_run trivial (hK _ ?_)<;>clear hK<;>clear K
   refine qa (ql ?_)
   refine hk_loop (ι:=Nat × Int) (fun q=>⟨91,[(0,.p (.list (wl e))),(1,.p (.int .i64 at_)),(2,.p (.list (il w))),(7,.p (.int .i64 (i:Nat))),(8,.p (.int .i64 q.2)),(9,.p (.int .i64 (q.1:Nat)))],[]⟩) (fun q=>q.1≤e.length∧q.2=(e.take q.1).foldl (wkB at_ x) (-1)) (fun q=>e.length - q.1) (0,-1) ⟨Nat.zero_le _,rfl⟩ [] (by simp only [leq,leA,ev0,evA,evB,evP,fl,gp,tab,simprocAttr,reduceCtorEq,reduceIte]<;>trivial) fun q hq=>?_
   obtain ⟨k,to⟩:=q
   obtain ⟨k1,k2⟩:=hq
   simp only at k1 k2 ⊢
   refine qm (qm ?_)
   refine hk_region fun K hK=>runs_eval tab_ok ?_
   simp only [ev0,evA,evB,evP,fl,gp,tab,simprocAttr,reduceCtorEq,reduceIte,wl_len]
   refine fin_run trivial (hK _ ?_)<;>clear hK<;>clear K
   refine qa ?_
   refine hk_cond rfl (fun hC2=>?_) (fun hC2=>?_)
   ·(try simp only [nhs] at hC2)
    have hk:k < e.length:=by omega
    obtain ⟨t,ht⟩:∃ t,e.getD k e3d=t:=⟨_,rfl⟩
    obtain ⟨ta,tx,tb⟩:=t
    obtain ⟨to1,hto1⟩:∃ z,wkA at_ x to (ta,tx,tb)=z:=⟨_,rfl⟩
    obtain ⟨to2,hto2⟩:∃ z,wkB at_ x to (ta,tx,tb)=z:=⟨_,rfl⟩
    have hnx:to2=(e.take (k + 1)).foldl (wkB at_ x) (-1):=by
     rw [take_snoc (d:=e3d) hk,List.foldl_append,← k2,ht,← hto2]; rfl
    unfold wkA at hto1
    unfold wkB wkA at hto2
    simp only at hto1 hto2
    refine qh (qa (qm (ql (qm (qm ?_)))))
    by_cases g8a:0 < x
    ·by_cases g8b:(ta:Int)=at_
     ·refine hk_draw mixed (by kernel_rfl) fun K hK=>runs_eval tab_ok ?_
      simp only [ev0,evA,evB,evP,fl,gp,tab,simprocAttr,reduceCtorEq,reduceIte,il_length,il_get hi,hx,wl_len,wl_get hk,ht,decide_eq_true g8a,decide_eq_true g8b]
      refine fin_run ?_ (hK _ ?_)<;>clear hK<;>clear K
      ·(first|exact trivial|omega|(simp only [In64] at *; omega)|(simp [In64] at *; omega)|(simp_all; done)|skip)
      refine qa ?_
      refine hk_cut (⟨91,[(0,.p (.list (wl e))),(1,.p (.int .i64 at_)),(2,.p (.list (il w))),(7,.p (.int .i64 (i:Nat))),(8,.p (.int .i64 to1)),(9,.p (.int .i64 (k:Nat)))],[]⟩) ?_ ?_
      ·refine hk_cond rfl (fun hC3=>?_) (fun hC3=>?_)
       ·(try simp only [nhs] at hC3)
        refine hk_region fun K hK=>runs_eval tab_ok ?_
        simp only [ev0,evA,evB,evP,fl,gp,tab,simprocAttr,reduceCtorEq,reduceIte,wl_len,wl_get hk,ht]
        refine fin_run ?_ (hK _ ?_)<;>clear hK<;>clear K
        ·(first|exact trivial|omega|(simp only [In64] at *; omega)|(simp [In64] at *; omega)|(simp_all; done)|skip)
        have e1:(tb:Int)=to1:=by
         rw [if_pos (by refine ⟨by omega,by omega,?_⟩; simpa using hC3)] at hto1
         exact hto1
        rw [e1]
        refine ⟨rfl,[],?_⟩
        simp only [leq,leA,ev0,evA,evB,evP,fl,gp,tab,simprocAttr,reduceCtorEq,reduceIte]<;>trivial
       ·(try simp only [nhs] at hC3)
        refine qh ?_
        have e1:to=to1:=by
         rw [if_neg (by rintro ⟨h1,h2,h3⟩; first|omega|(exact absurd h3 (by simpa using hC3)))] at hto1
         exact hto1
        rw [e1]
        refine ⟨rfl,[],?_⟩
        simp only [leq,leA,ev0,evA,evB,evP,fl,gp,tab,simprocAttr,reduceCtorEq,reduceIte]<;>trivial
      ·refine qm ?_
       by_cases g10a:x < 0
       ·by_cases g10b:(tb:Int)=at_
        ·refine hk_draw mixed (by kernel_rfl) fun K hK=>runs_eval tab_ok ?_
         simp only [ev0,evA,evB,evP,fl,gp,tab,simprocAttr,reduceCtorEq,reduceIte,il_length,il_get hi,hx,wl_len,wl_get hk,ht,decide_eq_true g10a,decide_eq_true g10b]
         refine fin_run ?_ (hK _ ?_)<;>clear hK<;>clear K
         ·(first|exact trivial|omega|(simp only [In64] at *; omega)|(simp [In64] at *; omega)|(simp_all; done)|skip)
         refine qa ?_
         refine hk_cond rfl (fun hC4=>?_) (fun hC4=>?_)
         ·(try simp only [nhs] at hC4)
          refine hk_region fun K hK=>runs_eval tab_ok ?_
          simp only [ev0,evA,evB,evP,fl,gp,tab,simprocAttr,reduceCtorEq,reduceIte,wl_len,wl_get hk,ht]
          refine fin_run ?_ (hK _ ?_)<;>clear hK<;>clear K
          ·(first|exact trivial|omega|(simp only [In64] at *; omega)|(simp [In64] at *; omega)|(simp_all; done)|skip)
          refine qd (qa ?_)
          refine hk_region fun K hK=>runs_eval tab_ok ?_
          simp only [ev0,evA,evB,evP,fl,gp,tab,simprocAttr,reduceCtorEq,reduceIte]
          refine fin_run ?_ (hK _ ?_)<;>clear hK<;>clear K
          ·(first|exact trivial|omega|(simp only [In64] at *; omega)|(simp [In64] at *; omega)|(simp_all; done)|skip)
          refine qa ?_
          first
          | exact ⟨(k + 1,to2),[],⟨by simp only; omega,hnx⟩,by simp only; omega,by
            rw [show to2=(ta:Int) from (by rw [if_pos (by refine ⟨by omega,by omega,?_⟩; simpa using hC4)] at hto2; exact hto2.symm)]
            simp only [leq,leA,ev0,evA,evB,evP,fl,gp,tab,simprocAttr,reduceCtorEq,reduceIte]<;>trivial⟩
          | exact ⟨(k + 1,to2),[],⟨by simp only; omega,hnx⟩,by simp only; omega,by
            rw [show to2=to1 from (by rw [if_neg (by rintro ⟨h1,h2,h3⟩; first|omega|(exact absurd h3 (by simpa using hC4))),hto1] at hto2; exact hto2.symm)]
            simp only [leq,leA,ev0,evA,evB,evP,fl,gp,tab,simprocAttr,reduceCtorEq,reduceIte]<;>trivial⟩
         ·(try simp only [nhs] at hC4)
          refine qh (qd (qa ?_))
          refine hk_region fun K hK=>runs_eval tab_ok ?_
          simp only [ev0,evA,evB,evP,fl,gp,tab,simprocAttr,reduceCtorEq,reduceIte]
          refine fin_run ?_ (hK _ ?_)<;>clear hK<;>clear K
          ·(first|exact trivial|omega|(simp only [In64] at *; omega)|(simp [In64] at *; omega)|(simp_all; done)|skip)
          refine qa ?_
          first
          | exact ⟨(k + 1,to2),[],⟨by simp only; omega,hnx⟩,by simp only; omega,by
            rw [show to2=(ta:Int) from (by rw [if_pos (by refine ⟨by omega,by omega,?_⟩; simpa using hC4)] at hto2; exact hto2.symm)]
            simp only [leq,leA,ev0,evA,evB,evP,fl,gp,tab,simprocAttr,reduceCtorEq,reduceIte]<;>trivial⟩
          | exact ⟨(k + 1,to2),[],⟨by simp only; omega,hnx⟩,by simp only; omega,by
            rw [show to2=to1 from (by rw [if_neg (by rintro ⟨h1,h2,h3⟩; first|omega|(exact absurd h3 (by simpa using hC4))),hto1] at hto2; exact hto2.symm)]
            simp only [leq,leA,ev0,evA,evB,evP,fl,gp,tab,simprocAttr,reduceCtorEq,reduceIte]<;>trivial⟩
        ·refine hk_draw mixed (by kernel_rfl) fun K hK=>runs_eval tab_ok ?_
         simp only [ev0,evA,evB,evP,fl,gp,tab,simprocAttr,reduceCtorEq,reduceIte,il_length,il_get hi,hx,wl_len,wl_get hk,ht,decide_eq_true g10a,decide_eq_false g10b]
         refine fin_run ?_ (hK _ ?_)<;>clear hK<;>clear K
         ·(first|exact trivial|omega|(simp only [In64] at *; omega)|(simp [In64] at *; omega)|(simp_all; done)|skip)
         refine qa ?_
         refine hk_cond rfl (fun hC4=>?_) (fun hC4=>?_)
         ·cases hC4
         ·refine qh (qd (qa ?_))
          refine hk_region fun K hK=>runs_eval tab_ok ?_
          simp only [ev0,evA,evB,evP,fl,gp,tab,simprocAttr,reduceCtorEq,reduceIte]
          refine fin_run ?_ (hK _ ?_)<;>clear hK<;>clear K
          ·(first|exact trivial|omega|(simp only [In64] at *; omega)|(simp [In64] at *; omega)|(simp_all; done)|skip)
          refine qa ?_
          first
          | exact ⟨(k + 1,to2),[],⟨by simp only; omega,hnx⟩,by simp only; omega,by
            rw [show to2=(ta:Int) from (by rw [if_pos (by refine ⟨by omega,by omega,?_⟩; simpa using hC4)] at hto2; exact hto2.symm)]
            simp only [leq,leA,ev0,evA,evB,evP,fl,gp,tab,simprocAttr,reduceCtorEq,reduceIte]<;>trivial⟩
          | exact ⟨(k + 1,to2),[],⟨by simp only; omega,hnx⟩,by simp only; omega,by
            rw [show to2=to1 from (by rw [if_neg (by rintro ⟨h1,h2,h3⟩; first|omega|(exact absurd h3 (by simpa using hC4))),hto1] at hto2; exact hto2.symm)]
            simp only [leq,leA,ev0,evA,evB,evP,fl,gp,tab,simprocAttr,reduceCtorEq,reduceIte]<;>trivial⟩
       ·refine hk_draw mixed (by kernel_rfl) fun K hK=>runs_eval tab_ok ?_
        simp only [ev0,evA,evB,evP,fl,gp,tab,simprocAttr,reduceCtorEq,reduceIte,il_length,il_get hi,hx,wl_len,wl_get hk,ht,decide_eq_false g10a]
        refine fin_run ?_ (hK _ ?_)<;>clear hK<;>clear K
        ·(first|exact trivial|omega|(simp only [In64] at *; omega)|(simp [In64] at *; omega)|(simp_all; done)|skip)
        refine qa ?_
        refine hk_cond rfl (fun hC4=>?_) (fun hC4=>?_)
        ·cases hC4
        ·refine qh (qd (qa ?_))
         refine hk_region fun K hK=>runs_eval tab_ok ?_
         simp only [ev0,evA,evB,evP,fl,gp,tab,simprocAttr,reduceCtorEq,reduceIte]
         refine fin_run ?_ (hK _ ?_)<;>clear hK<;>clear K
         ·(first|exact trivial|omega|(simp only [In64] at *; omega)|(simp [In64] at *; omega)|(simp_all; done)|skip)
         refine qa ?_
         first
         | exact ⟨(k + 1,to2),[],⟨by simp only; omega,hnx⟩,by simp only; omega,by
           rw [show to2=(ta:Int) from (by rw [if_pos (by refine ⟨by omega,by omega,?_⟩; simpa using hC4)] at hto2; exact hto2.symm)]
           simp only [leq,leA,ev0,evA,evB,evP,fl,gp,tab,simprocAttr,reduceCtorEq,reduceIte]<;>trivial⟩
         | exact ⟨(k + 1,to2),[],⟨by simp only; omega,hnx⟩,by simp only; omega,by
           rw [show to2=to1 from (by rw [if_neg (by rintro ⟨h1,h2,h3⟩; first|omega|(exact absurd h3 (by simpa using hC4))),hto1] at hto2; exact hto2.symm)]
           simp only [leq,leA,ev0,evA,evB,evP,fl,gp,tab,simprocAttr,reduceCtorEq,reduceIte]<;>trivial⟩
     ·refine hk_draw mixed (by kernel_rfl) fun K hK=>runs_eval tab_ok ?_
      simp only [ev0,evA,evB,evP,fl,gp,tab,simprocAttr,reduceCtorEq,reduceIte,il_length,il_get hi,hx,wl_len,wl_get hk,ht,decide_eq_true g8a,decide_eq_false g8b]
      refine fin_run ?_ (hK _ ?_)<;>clear hK<;>clear K
      ·(first|exact trivial|omega|(simp only [In64] at *; omega)|(simp [In64] at *; omega)|(simp_all; done)|skip)
      refine qa ?_
      refine hk_cut (⟨91,[(0,.p (.list (wl e))),(1,.p (.int .i64 at_)),(2,.p (.list (il w))),(7,.p (.int .i64 (i:Nat))),(8,.p (.int .i64 to1)),(9,.p (.int .i64 (k:Nat)))],[]⟩) ?_ ?_
      ·refine hk_cond rfl (fun hC3=>?_) (fun hC3=>?_)
       ·cases hC3
       ·refine qh ?_
        have e1:to=to1:=by
         rw [if_neg (by rintro ⟨h1,h2,h3⟩; first|omega|(exact absurd h3 (by simpa using hC3)))] at hto1
         exact hto1
        rw [e1]
        refine ⟨rfl,[],?_⟩
        simp only [leq,leA,ev0,evA,evB,evP,fl,gp,tab,simprocAttr,reduceCtorEq,reduceIte]<;>trivial
      ·refine qm ?_
       by_cases g10a:x < 0
       ·by_cases g10b:(tb:Int)=at_
        ·refine hk_draw mixed (by kernel_rfl) fun K hK=>runs_eval tab_ok ?_
         simp only [ev0,evA,evB,evP,fl,gp,tab,simprocAttr,reduceCtorEq,reduceIte,il_length,il_get hi,hx,wl_len,wl_get hk,ht,decide_eq_true g10a,decide_eq_true g10b]
         refine fin_run ?_ (hK _ ?_)<;>clear hK<;>clear K
         ·(first|exact trivial|omega|(simp only [In64] at *; omega)|(simp [In64] at *; omega)|(simp_all; done)|skip)
         refine qa ?_
         refine hk_cond rfl (fun hC4=>?_) (fun hC4=>?_)
         ·(try simp only [nhs] at hC4)
          refine hk_region fun K hK=>runs_eval tab_ok ?_
          simp only [ev0,evA,evB,evP,fl,gp,tab,simprocAttr,reduceCtorEq,reduceIte,wl_len,wl_get hk,ht]
          refine fin_run ?_ (hK _ ?_)<;>clear hK<;>clear K
          ·(first|exact trivial|omega|(simp only [In64] at *; omega)|(simp [In64] at *; omega)|(simp_all; done)|skip)
          refine qd (qa ?_)
          refine hk_region fun K hK=>runs_eval tab_ok ?_
          simp only [ev0,evA,evB,evP,fl,gp,tab,simprocAttr,reduceCtorEq,reduceIte]
          refine fin_run ?_ (hK _ ?_)<;>clear hK<;>clear K
          ·(first|exact trivial|omega|(simp only [In64] at *; omega)|(simp [In64] at *; omega)|(simp_all; done)|skip)
          refine qa ?_
          first
          | exact ⟨(k + 1,to2),[],⟨by simp only; omega,hnx⟩,by simp only; omega,by
            rw [show to2=(ta:Int) from (by rw [if_pos (by refine ⟨by omega,by omega,?_⟩; simpa using hC4)] at hto2; exact hto2.symm)]
            simp only [leq,leA,ev0,evA,evB,evP,fl,gp,tab,simprocAttr,reduceCtorEq,reduceIte]<;>trivial⟩
          | exact ⟨(k + 1,to2),[],⟨by simp only; omega,hnx⟩,by simp only; omega,by
            rw [show to2=to1 from (by rw [if_neg (by rintro ⟨h1,h2,h3⟩; first|omega|(exact absurd h3 (by simpa using hC4))),hto1] at hto2; exact hto2.symm)]
            simp only [leq,leA,ev0,evA,evB,evP,fl,gp,tab,simprocAttr,reduceCtorEq,reduceIte]<;>trivial⟩
         ·(try simp only [nhs] at hC4)
          refine qh (qd (qa ?_))
          refine hk_region fun K hK=>runs_eval tab_ok ?_
          simp only [ev0,evA,evB,evP,fl,gp,tab,simprocAttr,reduceCtorEq,reduceIte]
          refine fin_run ?_ (hK _ ?_)<;>clear hK<;>clear K
          ·(first|exact trivial|omega|(simp only [In64] at *; omega)|(simp [In64] at *; omega)|(simp_all; done)|skip)
          refine qa ?_
          first
          | exact ⟨(k + 1,to2),[],⟨by simp only; omega,hnx⟩,by simp only; omega,by
            rw [show to2=(ta:Int) from (by rw [if_pos (by refine ⟨by omega,by omega,?_⟩; simpa using hC4)] at hto2; exact hto2.symm)]
            simp only [leq,leA,ev0,evA,evB,evP,fl,gp,tab,simprocAttr,reduceCtorEq,reduceIte]<;>trivial⟩
          | exact ⟨(k + 1,to2),[],⟨by simp only; omega,hnx⟩,by simp only; omega,by
            rw [show to2=to1 from (by rw [if_neg (by rintro ⟨h1,h2,h3⟩; first|omega|(exact absurd h3 (by simpa using hC4))),hto1] at hto2; exact hto2.symm)]
            simp only [leq,leA,ev0,evA,evB,evP,fl,gp,tab,simprocAttr,reduceCtorEq,reduceIte]<;>trivial⟩
        ·refine hk_draw mixed (by kernel_rfl) fun K hK=>runs_eval tab_ok ?_
         simp only [ev0,evA,evB,evP,fl,gp,tab,simprocAttr,reduceCtorEq,reduceIte,il_length,il_get hi,hx,wl_len,wl_get hk,ht,decide_eq_true g10a,decide_eq_false g10b]
         refine fin_run ?_ (hK _ ?_)<;>clear hK<;>clear K
         ·(first|exact trivial|omega|(simp only [In64] at *; omega)|(simp [In64] at *; omega)|(simp_all; done)|skip)
         refine qa ?_
         refine hk_cond rfl (fun hC4=>?_) (fun hC4=>?_)
         ·cases hC4
         ·refine qh (qd (qa ?_))
          refine hk_region fun K hK=>runs_eval tab_ok ?_
          simp only [ev0,evA,evB,evP,fl,gp,tab,simprocAttr,reduceCtorEq,reduceIte]
          refine fin_run ?_ (hK _ ?_)<;>clear hK<;>clear K
          ·(first|exact trivial|omega|(simp only [In64] at *; omega)|(simp [In64] at *; omega)|(simp_all; done)|skip)
          refine qa ?_
          first
          | exact ⟨(k + 1,to2),[],⟨by simp only; omega,hnx⟩,by simp only; omega,by
            rw [show to2=(ta:Int) from (by rw [if_pos (by refine ⟨by omega,by omega,?_⟩; simpa using hC4)] at hto2; exact hto2.symm)]
            simp only [leq,leA,ev0,evA,evB,evP,fl,gp,tab,simprocAttr,reduceCtorEq,reduceIte]<;>trivial⟩
          | exact ⟨(k + 1,to2),[],⟨by simp only; omega,hnx⟩,by simp only; omega,by
            rw [show to2=to1 from (by rw [if_neg (by rintro ⟨h1,h2,h3⟩; first|omega|(exact absurd h3 (by simpa using hC4))),hto1] at hto2; exact hto2.symm)]
            simp only [leq,leA,ev0,evA,evB,evP,fl,gp,tab,simprocAttr,reduceCtorEq,reduceIte]<;>trivial⟩
       ·refine hk_draw mixed (by kernel_rfl) fun K hK=>runs_eval tab_ok ?_
        simp only [ev0,evA,evB,evP,fl,gp,tab,simprocAttr,reduceCtorEq,reduceIte,il_length,il_get hi,hx,wl_len,wl_get hk,ht,decide_eq_false g10a]
        refine fin_run ?_ (hK _ ?_)<;>clear hK<;>clear K
        ·(first|exact trivial|omega|(simp only [In64] at *; omega)|(simp [In64] at *; omega)|(simp_all; done)|skip)
        refine qa ?_
        refine hk_cond rfl (fun hC4=>?_) (fun hC4=>?_)
        ·cases hC4
        ·refine qh (qd (qa ?_))
         refine hk_region fun K hK=>runs_eval tab_ok ?_
         simp only [ev0,evA,evB,evP,fl,gp,tab,simprocAttr,reduceCtorEq,reduceIte]
         refine fin_run ?_ (hK _ ?_)<;>clear hK<;>clear K
         ·(first|exact trivial|omega|(simp only [In64] at *; omega)|(simp [In64] at *; omega)|(simp_all; done)|skip)
         refine qa ?_
         first
         | exact ⟨(k + 1,to2),[],⟨by simp only; omega,hnx⟩,by simp only; omega,by
           rw [show to2=(ta:Int) from (by rw [if_pos (by refine ⟨by omega,by omega,?_⟩; simpa using hC4)] at hto2; exact hto2.symm)]
           simp only [leq,leA,ev0,evA,evB,evP,fl,gp,tab,simprocAttr,reduceCtorEq,reduceIte]<;>trivial⟩
         | exact ⟨(k + 1,to2),[],⟨by simp only; omega,hnx⟩,by simp only; omega,by
           rw [show to2=to1 from (by rw [if_neg (by rintro ⟨h1,h2,h3⟩; first|omega|(exact absurd h3 (by simpa using hC4))),hto1] at hto2; exact hto2.symm)]
           simp only [leq,leA,ev0,evA,evB,evP,fl,gp,tab,simprocAttr,reduceCtorEq,reduceIte]<;>trivial⟩
    ·refine hk_draw mixed (by kernel_rfl) fun K hK=>runs_eval tab_ok ?_
     simp only [ev0,evA,evB,evP,fl,gp,tab,simprocAttr,reduceCtorEq,reduceIte,il_length,il_get hi,hx,wl_len,wl_get hk,ht,decide_eq_false g8a]
     refine fin_run ?_ (hK _ ?_)<;>clear hK<;>clear K
     ·(first|exact trivial|omega|(simp only [In64] at *; omega)|(simp [In64] at *; omega)|(simp_all; done)|skip)
     refine qa ?_
     refine hk_cut (⟨91,[(0,.p (.list (wl e))),(1,.p (.int .i64 at_)),(2,.p (.list (il w))),(7,.p (.int .i64 (i:Nat))),(8,.p (.int .i64 to1)),(9,.p (.int .i64 (k:Nat)))],[]⟩) ?_ ?_
     ·refine hk_cond rfl (fun hC3=>?_) (fun hC3=>?_)
      ·cases hC3
      ·refine qh ?_
       have e1:to=to1:=by
        rw [if_neg (by rintro ⟨h1,h2,h3⟩; first|omega|(exact absurd h3 (by simpa using hC3)))] at hto1
        exact hto1
       rw [e1]
       refine ⟨rfl,[],?_⟩
       simp only [leq,leA,ev0,evA,evB,evP,fl,gp,tab,simprocAttr,reduceCtorEq,reduceIte]<;>trivial
     ·refine qm ?_
      by_cases g10a:x < 0
      ·by_cases g10b:(tb:Int)=at_
       ·refine hk_draw mixed (by kernel_rfl) fun K hK=>runs_eval tab_ok ?_
        simp only [ev0,evA,evB,evP,fl,gp,tab,simprocAttr,reduceCtorEq,reduceIte,il_length,il_get hi,hx,wl_len,wl_get hk,ht,decide_eq_true g10a,decide_eq_true g10b]
        refine fin_run ?_ (hK _ ?_)<;>clear hK<;>clear K
        ·(first|exact trivial|omega|(simp only [In64] at *; omega)|(simp [In64] at *; omega)|(simp_all; done)|skip)
        refine qa ?_
        refine hk_cond rfl (fun hC4=>?_) (fun hC4=>?_)
        ·(try simp only [nhs] at hC4)
         refine hk_region fun K hK=>runs_eval tab_ok ?_
         simp only [ev0,evA,evB,evP,fl,gp,tab,simprocAttr,reduceCtorEq,reduceIte,wl_len,wl_get hk,ht]
         refine fin_run ?_ (hK _ ?_)<;>clear hK<;>clear K
         ·(first|exact trivial|omega|(simp only [In64] at *; omega)|(simp [In64] at *; omega)|(simp_all; done)|skip)
         refine qd (qa ?_)
         refine hk_region fun K hK=>runs_eval tab_ok ?_
         simp only [ev0,evA,evB,evP,fl,gp,tab,simprocAttr,reduceCtorEq,reduceIte]
         refine fin_run ?_ (hK _ ?_)<;>clear hK<;>clear K
         ·(first|exact trivial|omega|(simp only [In64] at *; omega)|(simp [In64] at *; omega)|(simp_all; done)|skip)
         refine qa ?_
         first
         | exact ⟨(k + 1,to2),[],⟨by simp only; omega,hnx⟩,by simp only; omega,by
           rw [show to2=(ta:Int) from (by rw [if_pos (by refine ⟨by omega,by omega,?_⟩; simpa using hC4)] at hto2; exact hto2.symm)]
           simp only [leq,leA,ev0,evA,evB,evP,fl,gp,tab,simprocAttr,reduceCtorEq,reduceIte]<;>trivial⟩
         | exact ⟨(k + 1,to2),[],⟨by simp only; omega,hnx⟩,by simp only; omega,by
           rw [show to2=to1 from (by rw [if_neg (by rintro ⟨h1,h2,h3⟩; first|omega|(exact absurd h3 (by simpa using hC4))),hto1] at hto2; exact hto2.symm)]
           simp only [leq,leA,ev0,evA,evB,evP,fl,gp,tab,simprocAttr,reduceCtorEq,reduceIte]<;>trivial⟩
        ·(try simp only [nhs] at hC4)
         refine qh (qd (qa ?_))
         refine hk_region fun K hK=>runs_eval tab_ok ?_
         simp only [ev0,evA,evB,evP,fl,gp,tab,simprocAttr,reduceCtorEq,reduceIte]
         refine fin_run ?_ (hK _ ?_)<;>clear hK<;>clear K
         ·(first|exact trivial|omega|(simp only [In64] at *; omega)|(simp [In64] at *; omega)|(simp_all; done)|skip)
         refine qa ?_
         first
         | exact ⟨(k + 1,to2),[],⟨by simp only; omega,hnx⟩,by simp only; omega,by
           rw [show to2=(ta:Int) from (by rw [if_pos (by refine ⟨by omega,by omega,?_⟩; simpa using hC4)] at hto2; exact hto2.symm)]
           simp only [leq,leA,ev0,evA,evB,evP,fl,gp,tab,simprocAttr,reduceCtorEq,reduceIte]<;>trivial⟩
         | exact ⟨(k + 1,to2),[],⟨by simp only; omega,hnx⟩,by simp only; omega,by
           rw [show to2=to1 from (by rw [if_neg (by rintro ⟨h1,h2,h3⟩; first|omega|(exact absurd h3 (by simpa using hC4))),hto1] at hto2; exact hto2.symm)]
           simp only [leq,leA,ev0,evA,evB,evP,fl,gp,tab,simprocAttr,reduceCtorEq,reduceIte]<;>trivial⟩
       ·refine hk_draw mixed (by kernel_rfl) fun K hK=>runs_eval tab_ok ?_
        simp only [ev0,evA,evB,evP,fl,gp,tab,simprocAttr,reduceCtorEq,reduceIte,il_length,il_get hi,hx,wl_len,wl_get hk,ht,decide_eq_true g10a,decide_eq_false g10b]
        refine fin_run ?_ (hK _ ?_)<;>clear hK<;>clear K
        ·(first|exact trivial|omega|(simp only [In64] at *; omega)|(simp [In64] at *; omega)|(simp_all; done)|skip)
        refine qa ?_
        refine hk_cond rfl (fun hC4=>?_) (fun hC4=>?_)
        ·cases hC4
        ·refine qh (qd (qa ?_))
         refine hk_region fun K hK=>runs_eval tab_ok ?_
         simp only [ev0,evA,evB,evP,fl,gp,tab,simprocAttr,reduceCtorEq,reduceIte]
         refine fin_run ?_ (hK _ ?_)<;>clear hK<;>clear K
         ·(first|exact trivial|omega|(simp only [In64] at *; omega)|(simp [In64] at *; omega)|(simp_all; done)|skip)
         refine qa ?_
         first
         | exact ⟨(k + 1,to2),[],⟨by simp only; omega,hnx⟩,by simp only; omega,by
           rw [show to2=(ta:Int) from (by rw [if_pos (by refine ⟨by omega,by omega,?_⟩; simpa using hC4)] at hto2; exact hto2.symm)]
           simp only [leq,leA,ev0,evA,evB,evP,fl,gp,tab,simprocAttr,reduceCtorEq,reduceIte]<;>trivial⟩
         | exact ⟨(k + 1,to2),[],⟨by simp only; omega,hnx⟩,by simp only; omega,by
           rw [show to2=to1 from (by rw [if_neg (by rintro ⟨h1,h2,h3⟩; first|omega|(exact absurd h3 (by simpa using hC4))),hto1] at hto2; exact hto2.symm)]
           simp only [leq,leA,ev0,evA,evB,evP,fl,gp,tab,simprocAttr,reduceCtorEq,reduceIte]<;>trivial⟩
      ·refine hk_draw mixed (by kernel_rfl) fun K hK=>runs_eval tab_ok ?_
       simp only [ev0,evA,evB,evP,fl,gp,tab,simprocAttr,reduceCtorEq,reduceIte,il_length,il_get hi,hx,wl_len,wl_get hk,ht,decide_eq_false g10a]
       refine fin_run ?_ (hK _ ?_)<;>clear hK<;>clear K
       ·(first|exact trivial|omega|(simp only [In64] at *; omega)|(simp [In64] at *; omega)|(simp_all; done)|skip)
       refine qa ?_
       refine hk_cond rfl (fun hC4=>?_) (fun hC4=>?_)
       ·cases hC4
       ·refine qh (qd (qa ?_))
        refine hk_region fun K hK=>runs_eval tab_ok ?_
        simp only [ev0,evA,evB,evP,fl,gp,tab,simprocAttr,reduceCtorEq,reduceIte]
        refine fin_run ?_ (hK _ ?_)<;>clear hK<;>clear K
        ·(first|exact trivial|omega|(simp only [In64] at *; omega)|(simp [In64] at *; omega)|(simp_all; done)|skip)
        refine qa ?_
        first
        | exact ⟨(k + 1,to2),[],⟨by simp only; omega,hnx⟩,by simp only; omega,by
          rw [show to2=(ta:Int) from (by rw [if_pos (by refine ⟨by omega,by omega,?_⟩; simpa using hC4)] at hto2; exact hto2.symm)]
          simp only [leq,leA,ev0,evA,evB,evP,fl,gp,tab,simprocAttr,reduceCtorEq,reduceIte]<;>trivial⟩
        | exact ⟨(k + 1,to2),[],⟨by simp only; omega,hnx⟩,by simp only; omega,by
          rw [show to2=to1 from (by rw [if_neg (by rintro ⟨h1,h2,h3⟩; first|omega|(exact absurd h3 (by simpa using hC4))),hto1] at hto2; exact hto2.symm)]
          simp only [leq,leA,ev0,evA,evB,evP,fl,gp,tab,simprocAttr,reduceCtorEq,reduceIte]<;>trivial⟩
   ·(try simp only [nhs] at hC2)
    refine qj (qc (qc (qf (qa ?_))))
    refine hk_region fun K hK=>runs_eval tab_ok ?_
    simp only [ev0,evA,evB,evP,fl,gp,tab,simprocAttr,reduceCtorEq,reduceIte]
    refine fin_run trivial (hK _ ?_)<;>clear hK<;>clear K
    refine qd (qa ?_)
    refine hk_region fun K hK=>runs_eval tab_ok ?_
    simp only [ev0,evA,evB,evP,fl,gp,tab,simprocAttr,reduceCtorEq,reduceIte]
    refine fin_run ?_ (hK _ ?_)<;>clear hK<;>clear K
    ·(first|exact trivial|omega|(simp only [In64] at *; omega)|(simp [In64] at *; omega)|(simp_all; done)|skip)
    refine qa ?_
    have hke:k=e.length:=by omega
    rw [hke,List.take_length] at k2
    refine ⟨(i + 1,to),[],⟨by simp only; omega,?_⟩,by simp only; omega,by simp only [leq,leA,ev0,evA,evB,evP,fl,gp,tab,simprocAttr,reduceCtorEq,reduceIte]<;>trivial⟩
    simp only
    rw [k2]
    exact q2
  ·(try simp only [nhs] at hC1)
   refine qj (qc (qc (qf (qa (qm ?_)))))
   refine hk_region fun K hK=>runs_eval tab_ok ?_
   simp only [ev0,evA,evB,evP,fl,gp,tab,simprocAttr,reduceCtorEq,reduceIte]
   refine fin_run trivial (hK _ ?_)<;>clear hK<;>clear K
   refine qa (qk ?_)
   simp only [Try.results60,enA,ev0,evA,evB,evP,fl,gp,tab,simprocAttr,reduceCtorEq,reduceIte]
   rw [List.drop_eq_getElem_cons (by omega),walkS,if_neg (by omega)] at q2
   rw [← q2]
 ·refine hk_region fun K hK=>runs_eval tab_ok ?_
  simp only [ev0,evA,evB,evP,fl,gp,tab,simprocAttr,reduceCtorEq,reduceIte,il_length,decide_eq_false g2a]
  refine fin_run trivial (hK _ ?_)<;>clear hK<;>clear K
  refine qa ?_
  refine hk_cond rfl (fun hC1=>?_) (fun hC1=>?_)
  ·cases hC1
  ·refine qj (qc (qc (qf (qa (qm ?_)))))
   refine hk_region fun K hK=>runs_eval tab_ok ?_
   simp only [ev0,evA,evB,evP,fl,gp,tab,simprocAttr,reduceCtorEq,reduceIte]
   refine fin_run trivial (hK _ ?_)<;>clear hK<;>clear K
   refine qa (qk ?_)
   simp only [Try.results60,enA,ev0,evA,evB,evP,fl,gp,tab,simprocAttr,reduceCtorEq,reduceIte]
   rw [List.drop_of_length_le (by omega)] at q2
   rw [← q2]; rfl
theorem within_c (e:List E3) (w:List Int) (hl:e.length≤100000) (hw:w.length≤1000000000) (hs:Sm w):FnC Try.prog 33 [.list (wl e),.list (il w)] (.bool (decide (walkS e 0 (short w)=0))):=by
 refine fnc_of tab_ok Try.func33 rfl (by kernel_rfl) (by rw [Try.ntmps33]; exact Nat.le_add_left 2 _) ?_; rw [Try.ntmps33]
 refine qm ?_
 refine hk_region fun K hK=>runs_eval tab_ok ?_
 simp only [ev0,evA,evB,evP,fl,gp,tab,simprocAttr,reduceCtorEq,reduceIte]
 refine fin_run trivial (hK _ ?_)<;>clear hK<;>clear K
 refine qa (qm ?_)
 refine hk_region fun K hK=>runs_eval tab_ok ?_
 simp only [ev0,evA,evB,evP,fl,gp,tab,simprocAttr,reduceCtorEq,reduceIte]
 refine fin_stop trivial (runs_call (reduced_c w hw hs) rfl rfl rfl (by simp only [dstOk,Nat.reduceLT]) (by repeat (first|exact trivial|constructor)) (runs_eval tab_ok ?_))
 simp only [ev0,evA,evB,evP,fl,gp,tab,simprocAttr,reduceCtorEq,reduceIte]
 refine fin_stop trivial (runs_call (walk_c e 0 (short w) hl (Nat.le_trans (short_len w) hw) (short_sm hs)) rfl rfl rfl (by simp only [dstOk,Nat.reduceLT]) (by repeat (first|exact trivial|constructor)) (runs_eval tab_ok ?_))
 simp only [ev0,evA,evB,evP,fl,gp,tab,simprocAttr,reduceCtorEq,reduceIte]
 refine fin_run trivial (hK _ ?_)<;>clear hK<;>clear K
 refine qa (qk ?_)
 simp only [Try.results33,enA,ev0,evA,evB,evP,fl,gp,tab,simprocAttr,reduceCtorEq,reduceIte]
 all_goals ((first|exact rfl|exact ⟨rfl,rfl⟩|exact ⟨rfl,rfl,rfl⟩|exact ⟨trivial,rfl⟩|exact ⟨Nat.le_refl _,rfl⟩|trivial|(simp; done)))
end Go.Proofs.Ytneglephfhiamaa

/-
  The reference's graphs: the walk of Folded. Conditions: none.
-/
set_option linter.all false
namespace Go.Proofs.Ytneglephfhiamaa
open Go.Pv

theorem tot_cons (w:List Int) (L:List (List Int)):tot (w :: L)=w.length + tot L:=by simp [tot]
theorem app_fw {f:List E3} (y:E3):(fw f).take (f.length * 3)++opl (flat [PV.agg [.int .i64 y.1,.int .i64 y.2.1,.int .i64 y.2.2]])=fw (f++[y]):=by
 have:=fw_dropt (W:=f) rfl
 rw [List.drop_zero] at this
 rw [this,fw_app]
 obtain ⟨a,x,b⟩:=y
 rw [fw_one]; rfl

set_option maxHeartbeats 4000000 in
set_option maxRecDepth 20000 in
theorem folded_c (L:List (List Int)) (hL:∀ w∈L,Ok w∧w.length≤1000000000) (hn:L.length≤1000000) (hb:tot (L.map short)≤90000):FnC Try.prog 19 [.list (ll L)] (.list (wl (folded L))):=by
 obtain ⟨S,hS⟩:∃ S,L.map short=S:=⟨_,rfl⟩
 have hSl:S.length=L.length:=by rw [← hS]; simp
 have hbq:=bqL_spec (S:=S) S [] [] 1 (bqI_zero _) fun w hw=>⟨hw,by
  rw [← hS] at hw
  obtain ⟨v,hv,rfl⟩:=List.mem_map.1 hw
  exact ((hL v hv).1).short⟩
 rw [List.nil_append] at hbq
 have hbl:=bqL_len S 1 []
 simp only [List.length_nil,Nat.zero_add] at hbl
 rw [hS] at hb
 refine fnc_of tab_ok Try.func19 rfl (by kernel_rfl) (by rw [Try.ntmps19]; exact Nat.le_add_left 1 _) ?_; rw [Try.ntmps19]
 refine qm ?_
 refine hk_region fun K hK=>runs_eval tab_ok ?_
 simp only [ev0,evA,evB,evP,fl,gp,tab,simprocAttr,reduceCtorEq,reduceIte]
 refine fin_run trivial (hK _ ?_)<;>clear hK<;>clear K
 refine qa (qm ?_)
 refine hk_region fun K hK=>runs_eval tab_ok ?_
 simp only [ev0,evA,evB,evP,fl,gp,tab,simprocAttr,reduceCtorEq,reduceIte]
 refine fin_run trivial (hK _ ?_)<;>clear hK<;>clear K
 refine qa (qm ?_)
 refine hk_own0s 3 3 rfl ?_
 refine hk_region fun K hK=>runs_eval tab_ok ?_
 simp only [ev0,evA,evB,evP,fl,gp,tab,simprocAttr,reduceCtorEq,reduceIte]
 refine fin_run trivial (hK _ ?_)<;>clear hK<;>clear K
 refine qa (qm (qm ?_))
 refine hk_region fun K hK=>runs_eval tab_ok ?_
 simp only [ev0,evA,evB,evP,fl,gp,tab,simprocAttr,reduceCtorEq,reduceIte]
 refine fin_run trivial (hK _ ?_)<;>clear hK<;>clear K
 refine qa (ql ?_)
 refine hk_loop (ι:=Nat × Nat × List E3) (fun q=>⟨83,[(0,.p (.list (ll L))),(3,.sls 0 0 q.2.2.length 3),(4,.p (.int .i64 (q.2.1:Nat))),(5,.p (.int .i64 (q.1:Nat)))],[.own (fw q.2.2)]⟩) (fun q=>q.1≤L.length∧bqL (S.drop q.1) q.2.1 q.2.2=bqL S 1 []∧q.2.1≤100000∧q.2.2.length + tot (S.drop q.1)=tot S∧q.2.1 + tot (S.drop q.1)≤1 + tot S) (fun q=>L.length - q.1) (0,1,[]) ⟨Nat.zero_le _,rfl,by decide,by simp,by simp⟩ [0] (by simp only [leq,leA,ev0,evA,evB,evP,fl,gp,tab,simprocAttr,reduceCtorEq,reduceIte]<;>trivial) fun q hq=>?_
 obtain ⟨i,n,e⟩:=q
 obtain ⟨q1,q2,q3,q4,q5⟩:=hq
 simp only at q1 q2 q3 q4 q5 ⊢
 refine qm (qm ?_)
 refine hk_region fun K hK=>runs_eval tab_ok ?_
 simp only [ev0,evA,evB,evP,fl,gp,tab,simprocAttr,reduceCtorEq,reduceIte,ll_length]
 refine fin_run trivial (hK _ ?_)<;>clear hK<;>clear K
 refine qa ?_
 refine hk_cond rfl (fun hC1=>?_) (fun hC1=>?_)
 ·(try simp only [nhs] at hC1)
  have hi:i < L.length:=by omega
  obtain ⟨w0,hw0⟩:∃ w,L.getD i []=w:=⟨_,rfl⟩
  have hwm:w0∈L:=by rw [← hw0,List.getD_eq_getElem?_getD,List.getElem?_eq_getElem hi]; exact List.getElem_mem hi
  obtain ⟨hw1,hw2⟩:=hL w0 hwm
  obtain ⟨w,hws⟩:∃ w,short w0=w:=⟨_,rfl⟩
  have hwo:Ok w:=hws ▸ hw1.short
  have hwl:w.length≤1000000000:=hws ▸ Nat.le_trans (short_len w0) hw2
  have hSd:S.drop i=w :: S.drop (i + 1):=by
   rw [List.drop_eq_getElem_cons (by omega)]
   congr 1
   subst hS
   rw [List.getElem_map,← hws,← hw0,List.getD_eq_getElem?_getD,List.getElem?_eq_getElem hi]; rfl
  rw [hSd,tot_cons] at q4 q5
  rw [hSd] at q2
  rw [bqL] at q2
  refine qh (qa (qm (ql (qm ?_))))
  refine hk_region fun K hK=>runs_eval tab_ok ?_
  simp only [ev0,evA,evB,evP,fl,gp,tab,simprocAttr,reduceCtorEq,reduceIte,ll_length,ll_get hi,hw0,hws]
  refine fin_stop ?_ (runs_call (reduced_c w0 hw2 hw1.sm) rfl rfl rfl (by simp only [dstOk,Nat.reduceLT]) (by repeat (first|exact trivial|constructor)) (runs_eval tab_ok ?_))
  ·omega
  simp only [ev0,evA,evB,evP,fl,gp,tab,simprocAttr,reduceCtorEq,reduceIte,ll_length,ll_get hi,hw0,hws]
  refine fin_run ?_ (hK _ ?_)<;>clear hK<;>clear K
  ·(first|exact trivial|omega|(simp only [In64] at *; omega)|(simp [In64] at *; omega)|(simp_all; done)|skip)
  refine qa (qm ?_)
  refine hk_region fun K hK=>runs_eval tab_ok ?_
  simp only [ev0,evA,evB,evP,fl,gp,tab,simprocAttr,reduceCtorEq,reduceIte]
  refine fin_run trivial (hK _ ?_)<;>clear hK<;>clear K
  refine qa (qm ?_)
  refine hk_region fun K hK=>runs_eval tab_ok ?_
  simp only [ev0,evA,evB,evP,fl,gp,tab,simprocAttr,reduceCtorEq,reduceIte]
  refine fin_run trivial (hK _ ?_)<;>clear hK<;>clear K
  refine qa (ql ?_)
  refine hk_loop (ι:=Nat × Nat × Nat × List E3) (fun q=>⟨83,[(0,.p (.list (ll L))),(3,.sls 0 0 q.2.2.2.length 3),(4,.p (.int .i64 (q.2.1:Nat))),(5,.p (.int .i64 (i:Nat))),(6,.p (.list (il w))),(7,.p (.int .i64 (q.2.2.1:Nat))),(8,.p (.int .i64 (q.1:Nat)))],[.own (fw q.2.2.2)]⟩) (fun q=>q.1≤w.length∧bqW (w.drop q.1) q.2.2.1 q.2.1 q.2.2.2=bqW w 0 n e∧q.2.1≤n + q.1∧q.2.2.2.length=e.length + q.1) (fun q=>w.length - q.1) (0,n,0,e) ⟨Nat.zero_le _,rfl,Nat.le_refl _,rfl⟩ [0] (by simp only [leq,leA,ev0,evA,evB,evP,fl,gp,tab,simprocAttr,reduceCtorEq,reduceIte,fw_ren,fw_sc]<;>trivial) fun q hq=>?_
  obtain ⟨k,n2,at_,e2⟩:=q
  obtain ⟨k1,k2,k3,k4⟩:=hq
  simp only at k1 k2 k3 k4 ⊢
  refine qm (qm ?_)
  refine hk_region fun K hK=>runs_eval tab_ok ?_
  simp only [ev0,evA,evB,evP,fl,gp,tab,simprocAttr,reduceCtorEq,reduceIte,il_length]
  refine fin_run trivial (hK _ ?_)<;>clear hK<;>clear K
  refine qa ?_
  refine hk_cond rfl (fun hC2=>?_) (fun hC2=>?_)
  ·(try simp only [nhs] at hC2)
   have hk:k < w.length:=by omega
   obtain ⟨x,hx⟩:∃ x,w.getD k 0=x:=⟨_,rfl⟩
   obtain ⟨x0,x1,x2⟩:=hwo x (by rw [← hx,List.getD_eq_getElem?_getD,List.getElem?_eq_getElem hk]; exact List.getElem_mem hk)
   have hdr:w.drop k=x :: w.drop (k + 1):=by
    rw [List.drop_eq_getElem_cons hk,← hx,List.getD_eq_getElem?_getD,List.getElem?_eq_getElem hk]; rfl
   have hel:e2.length≤90000:=by omega
   rw [hdr] at k2
   obtain ⟨n3,to,hnt,hb2,hn3⟩:∃ n3 to:Nat,((k=w.length - 1∧n3=n2∧to=0)∨(k ≠ w.length - 1∧n3=n2 + 1∧to=n2))∧bqW (w.drop (k + 1)) to n3 (e2++[edE at_ x to])=bqW w 0 n e∧n3≤n + (k + 1):=by
    by_cases hke:k=w.length - 1
    ·refine ⟨n2,0,.inl ⟨hke,rfl,rfl⟩,?_,by omega⟩
     rw [← k2,List.drop_of_length_le (show w.length≤k + 1 by omega)]; rfl
    ·refine ⟨n2 + 1,n2,.inr ⟨hke,rfl,rfl⟩,?_,by omega⟩
     rw [← k2,List.drop_eq_getElem_cons (show k + 1 < w.length by omega)]; rfl
   refine qh (qa (qm (ql (qm ?_))))
   refine hk_region fun K hK=>runs_eval tab_ok ?_
   simp only [ev0,evA,evB,evP,fl,gp,tab,simprocAttr,reduceCtorEq,reduceIte]
   refine fin_run trivial (hK _ ?_)<;>clear hK<;>clear K
   refine qa (qm (qm ?_))
   refine hk_region fun K hK=>runs_eval tab_ok ?_
   simp only [ev0,evA,evB,evP,fl,gp,tab,simprocAttr,reduceCtorEq,reduceIte,il_length]
   refine fin_run ?_ (hK _ ?_)<;>clear hK<;>clear K
   ·(first|exact trivial|omega|(simp only [In64] at *; omega)|(simp [In64] at *; omega)|(simp_all; done)|skip)
   refine qa ?_
   refine hk_cut (⟨83,[(0,.p (.list (ll L))),(3,.sls 0 0 e2.length 3),(4,.p (.int .i64 (n3:Nat))),(5,.p (.int .i64 (i:Nat))),(6,.p (.list (il w))),(7,.p (.int .i64 (at_:Nat))),(8,.p (.int .i64 (k:Nat))),(9,.p (.int .i64 (to:Nat)))],[.own (fw e2)]⟩) ?_ ?_
   ·refine hk_cond rfl (fun hC3=>?_) (fun hC3=>?_)
    ·(try simp only [nhs] at hC3)
     refine hk_region fun K hK=>runs_eval tab_ok ?_
     simp only [ev0,evA,evB,evP,fl,gp,tab,simprocAttr,reduceCtorEq,reduceIte]
     refine fin_run trivial (hK _ ?_)<;>clear hK<;>clear K
     have hke:k=w.length - 1:=by
      have:(k:Int)=(w.length:Int) - 1:=by simpa using hC3
      omega
     obtain ⟨_,rfl,rfl⟩:=hnt.resolve_right fun h=>h.1 hke
     refine ⟨rfl,[0],?_⟩
     simp only [leq,leA,ev0,evA,evB,evP,fl,gp,tab,simprocAttr,reduceCtorEq,reduceIte,fw_ren,fw_sc]<;>trivial
    ·(try simp only [nhs] at hC3)
     refine hk_region fun K hK=>runs_eval tab_ok ?_
     simp only [ev0,evA,evB,evP,fl,gp,tab,simprocAttr,reduceCtorEq,reduceIte]
     refine fin_run ?_ (hK _ ?_)<;>clear hK<;>clear K
     ·(first|exact trivial|omega|(simp only [In64] at *; omega)|(simp [In64] at *; omega)|(simp_all; done)|skip)
     have hke:¬ k=w.length - 1:=by
      have:¬ (k:Int)=(w.length:Int) - 1:=by simpa using hC3
      omega
     obtain ⟨_,rfl,rfl⟩:=hnt.resolve_left fun h=>hke h.1
     refine ⟨rfl,[0],?_⟩
     simp only [leq,leA,ev0,evA,evB,evP,fl,gp,tab,simprocAttr,reduceCtorEq,reduceIte,fw_ren,fw_sc]<;>trivial
   ·refine qm (qm ?_)
    refine hk_region fun K hK=>runs_eval tab_ok ?_
    simp only [ev0,evA,evB,evP,fl,gp,tab,simprocAttr,reduceCtorEq,reduceIte,il_length,il_get hk,hx]
    refine fin_run ?_ (hK _ ?_)<;>clear hK<;>clear K
    ·omega
    refine qa ?_
    refine hk_cond rfl (fun hC4=>?_) (fun hC4=>?_)
    ·(try simp only [nhs] at hC4)
     refine hk_region fun K hK=>runs_eval tab_ok ?_
     simp only [ev0,evA,evB,evP,fl,gp,tab,simprocAttr,reduceCtorEq,reduceIte,il_length,il_get hk,hx,app_fw (at_,x,to)]
     refine fin_stop ?_ (runs_op (appS_does (sz:=3) (k:=0) (lo:=0) (len:=e2.length) (c:=fw e2) (l:=[PV.agg [.int .i64 at_,.int .i64 x,.int .i64 to]]) tab_ok rfl rfl rfl rfl rfl rfl (by decide) (by decide) rfl rfl rfl (by intro x hx; simp at hx; subst hx; rfl) (by intro x hx; simp at hx; subst hx; rfl) (show 0 < 1 by decide) (by rw [fw_len]; omega) (by rw [fw_dropt rfl]; exact fw_ok _) (by show (e2.length + 1) * 24≤_; omega) (by show (e2.length + 1) * 3≤_; omega) (by show e2.length + 1≤_; omega)) rfl (by simp only [dstOk,Nat.reduceLT]) (runs_eval tab_ok ?_))
     ·omega
     simp only [ev0,evA,evB,evP,fl,gp,tab,simprocAttr,reduceCtorEq,reduceIte,il_length,il_get hk,hx,app_fw (at_,x,to)]
     refine fin_run ?_ (hK _ ?_)<;>clear hK<;>clear K
     ·(first|exact trivial|omega|(simp only [In64] at *; omega)|(simp [In64] at *; omega)|(simp_all; done)|skip)
     refine qa ?_
     refine hk_region fun K hK=>runs_eval tab_ok ?_
     simp only [ev0,evA,evB,evP,fl,gp,tab,simprocAttr,reduceCtorEq,reduceIte]
     refine fin_run trivial (hK _ ?_)<;>clear hK<;>clear K
     refine qd (qa ?_)
     refine hk_region fun K hK=>runs_eval tab_ok ?_
     simp only [ev0,evA,evB,evP,fl,gp,tab,simprocAttr,reduceCtorEq,reduceIte]
     refine fin_run ?_ (hK _ ?_)<;>clear hK<;>clear K
     ·(first|exact trivial|omega|(simp only [In64] at *; omega)|(simp [In64] at *; omega)|(simp_all; done)|skip)
     refine qa ?_
     have hxp:0 < x:=by simpa using hC4
     have he:edE at_ x to=(at_,x,to):=if_pos hxp
     rw [he] at hb2
     exact ⟨(k + 1,n3,to,e2++[(at_,x,to)]),[1],⟨by simp only; omega,hb2,hn3,by simp only [List.length_append,List.length_singleton]; omega⟩,by simp only; omega,by simp only [leq,leA,ev0,evA,evB,evP,fl,gp,tab,simprocAttr,reduceCtorEq,reduceIte,fw_ren,fw_sc,List.length_append,List.length_singleton]<;>first|trivial|trace_state⟩
    ·(try simp only [nhs] at hC4)
     refine hk_region fun K hK=>runs_eval tab_ok ?_
     simp only [ev0,evA,evB,evP,fl,gp,tab,simprocAttr,reduceCtorEq,reduceIte,il_length,il_get hk,hx,app_fw (to,-x,at_)]
     refine fin_stop ?_ (runs_op (appS_does (sz:=3) (k:=0) (lo:=0) (len:=e2.length) (c:=fw e2) (l:=[PV.agg [.int .i64 to,.int .i64 (-x),.int .i64 at_]]) tab_ok rfl rfl rfl rfl rfl rfl (by decide) (by decide) rfl rfl rfl (by intro x hx; simp at hx; subst hx; rfl) (by intro x hx; simp at hx; subst hx; rfl) (show 0 < 1 by decide) (by rw [fw_len]; omega) (by rw [fw_dropt rfl]; exact fw_ok _) (by show (e2.length + 1) * 24≤_; omega) (by show (e2.length + 1) * 3≤_; omega) (by show e2.length + 1≤_; omega)) rfl (by simp only [dstOk,Nat.reduceLT]) (runs_eval tab_ok ?_))
     ·simp only [In64]; omega
     simp only [ev0,evA,evB,evP,fl,gp,tab,simprocAttr,reduceCtorEq,reduceIte,il_length,il_get hk,hx,app_fw (to,-x,at_)]
     refine fin_run ?_ (hK _ ?_)<;>clear hK<;>clear K
     ·(first|exact trivial|omega|(simp only [In64] at *; omega)|(simp [In64] at *; omega)|(simp_all; done)|skip)
     refine qa ?_
     refine hk_region fun K hK=>runs_eval tab_ok ?_
     simp only [ev0,evA,evB,evP,fl,gp,tab,simprocAttr,reduceCtorEq,reduceIte]
     refine fin_run trivial (hK _ ?_)<;>clear hK<;>clear K
     refine qd (qa ?_)
     refine hk_region fun K hK=>runs_eval tab_ok ?_
     simp only [ev0,evA,evB,evP,fl,gp,tab,simprocAttr,reduceCtorEq,reduceIte]
     refine fin_run ?_ (hK _ ?_)<;>clear hK<;>clear K
     ·(first|exact trivial|omega|(simp only [In64] at *; omega)|(simp [In64] at *; omega)|(simp_all; done)|skip)
     refine qa ?_
     have hxp:¬ 0 < x:=by simpa using hC4
     have he:edE at_ x to=(to,-x,at_):=if_neg hxp
     rw [he] at hb2
     exact ⟨(k + 1,n3,to,e2++[(to,-x,at_)]),[1],⟨by simp only; omega,hb2,hn3,by simp only [List.length_append,List.length_singleton]; omega⟩,by simp only; omega,by simp only [leq,leA,ev0,evA,evB,evP,fl,gp,tab,simprocAttr,reduceCtorEq,reduceIte,fw_ren,fw_sc,List.length_append,List.length_singleton]<;>first|trivial|trace_state⟩
  ·(try simp only [nhs] at hC2)
   refine qj (qc (qc (qf (qd (qa ?_)))))
   refine hk_region fun K hK=>runs_eval tab_ok ?_
   simp only [ev0,evA,evB,evP,fl,gp,tab,simprocAttr,reduceCtorEq,reduceIte]
   refine fin_run ?_ (hK _ ?_)<;>clear hK<;>clear K
   ·(first|exact trivial|omega|(simp only [In64] at *; omega)|(simp [In64] at *; omega)|(simp_all; done)|skip)
   refine qa ?_
   have hke:k=w.length:=by omega
   rw [hke,List.drop_length] at k2
   have k2:(n2,e2)=bqW w 0 n e:=k2
   rw [← k2] at q2
   exact ⟨(i + 1,n2,e2),[0],⟨by simp only; omega,q2,by simp only; omega,by simp only; omega,by simp only; omega⟩,by simp only; omega,by simp only [leq,leA,ev0,evA,evB,evP,fl,gp,tab,simprocAttr,reduceCtorEq,reduceIte,fw_ren,fw_sc]<;>trivial⟩
 ·(try simp only [nhs] at hC1)
  have hie:i=L.length:=by omega
  rw [hie,List.drop_of_length_le (by omega)] at q2
  have q2:(n,e)=bqL S 1 []:=q2
  refine qj (qc (qc (qf (qa (qm ?_)))))
  refine hk_seals 3 0 (sz:=3) (l:=wl e) (fun x hx=>by
   unfold wl at hx
   obtain ⟨t,_,rfl⟩:=List.mem_map.1 hx
   rfl) (by show AV.sls 0 0 e.length 3=_; rw [wl_len]) rfl ?_
  have hel:e.length≤100000:=by omega
  have hon:=once_c e 0 0 hel
  have hne:e=(bqL S 1 []).2∧n=(bqL S 1 []).1:=by rw [← q2]; exact ⟨rfl,rfl⟩
  have hfc:FC S e:=by
   refine ⟨⟨fun t ht=>(hbq.lt t (hne.1 ▸ ht)).2.2.1,fun w hw=>hne.1 ▸ hbq.cl w hw,fun X step x0 hi hc=>?_⟩,fun t ht=>(hbq.lt t (hne.1 ▸ ht)).2.2.2,fun t ht=>hne.1 ▸ hbq.con _ (hbq.lt t (hne.1 ▸ ht)).1⟩
   obtain ⟨κ,k1,k2,_⟩:=hbq.uni X step x0 hi hc
   exact ⟨κ,k1,hne.1 ▸ k2⟩
  have hlt:Lt n e:=fun t ht=>by
   have:=hbq.lt t (hne.1 ▸ ht)
   rw [hne.2]; exact ⟨this.1,this.2.1⟩
  have hfd:foldF n (onceS e 0 0)=folded L:=by
   unfold folded
   rw [hS,hne.1,hne.2]
  refine hk_region fun K hK=>runs_eval tab_ok ?_
  simp only [ev0,evA,evB,evP,fl,gp,tab,simprocAttr,reduceCtorEq,reduceIte]
  refine fin_stop trivial (runs_call (hon) rfl rfl rfl (by simp only [dstOk,Nat.reduceLT]) (by repeat (first|exact trivial|constructor)) (runs_eval tab_ok ?_))
  simp only [ev0,evA,evB,evP,fl,gp,tab,simprocAttr,reduceCtorEq,reduceIte]
  refine fin_run trivial (hK _ ?_)<;>clear hK<;>clear K
  refine qa (ql ?_)
  refine hk_loop (ι:=Nat × List E3) (fun q=>⟨83,[(3,.p (.list (wl q.2)))],[]⟩) (fun q=>FC S q.2∧Lt n q.2∧occ n q.2≤q.1∧foldF q.1 q.2=folded L∧q.2.length≤100000) (fun q=>occ n q.2) (n,onceS e 0 0) ⟨hfc.congr fun t=>once_zero,fun t ht=>hlt t (once_zero.1 ht),occ_le _ _,hfd,Nat.le_trans (once_len _ _ _) hel⟩ [] (by simp only [leq,leA,ev0,evA,evB,evP,fl,gp,tab,simprocAttr,reduceCtorEq,reduceIte]<;>trivial) fun q hq=>?_
  obtain ⟨m,g⟩:=q
  obtain ⟨g1,g2,g3,g4,g5⟩:=hq
  simp only at g1 g2 g3 g4 g5 ⊢
  have hcc:=clash_c g g5
  refine ql (qm ?_)
  rcases hcs:clashS g with _ | ⟨a,b⟩
  ·refine hk_region fun K hK=>runs_eval tab_ok ?_
   simp only [ev0,evA,evB,evP,fl,gp,tab,simprocAttr,reduceCtorEq,reduceIte]
   refine fin_stop trivial (runs_call ((show FnC Try.prog 51 [.list (wl g)] (.tup [.int .i64 (-1),.int .i64 (-1)]) by rw [show clashP g=(-1,-1) by unfold clashP; rw [hcs]] at hcc; exact hcc)) rfl rfl rfl (by simp only [dstOk,Nat.reduceLT]) (by repeat (first|exact trivial|constructor)) (runs_eval tab_ok ?_))
   simp only [ev0,evA,evB,evP,fl,gp,tab,simprocAttr,reduceCtorEq,reduceIte]
   refine fin_run trivial (hK _ ?_)<;>clear hK<;>clear K
   refine qa (qm (qm ?_))
   refine hk_region fun K hK=>runs_eval tab_ok ?_
   simp only [ev0,evA,evB,evP,fl,gp,tab,simprocAttr,reduceCtorEq,reduceIte]
   refine fin_run trivial (hK _ ?_)<;>clear hK<;>clear K
   refine qa ?_
   refine hk_cond rfl (fun hC5=>?_) (fun hC5=>?_)
   ·(try simp only [nhs] at hC5)
    have hgf:foldF m g=g:=by
     cases m with
     | zero=>rfl
     | succ m=>unfold foldF; rw [hcs]
    rw [hgf] at g4
    refine qm ?_
    refine hk_region fun K hK=>runs_eval tab_ok ?_
    simp only [ev0,evA,evB,evP,fl,gp,tab,simprocAttr,reduceCtorEq,reduceIte]
    refine fin_run trivial (hK _ ?_)<;>clear hK<;>clear K
    refine qa (qk (qb (qe (qb (qe ?_)))))
    simp only [Try.results19,enA,ev0,evA,evB,evP,fl,gp,tab,simprocAttr,reduceCtorEq,reduceIte]
    all_goals (rw [g4])
   ·(try simp only [nhs] at hC5)
    exact absurd hC5 (by decide)
  ·refine hk_region fun K hK=>runs_eval tab_ok ?_
   simp only [ev0,evA,evB,evP,fl,gp,tab,simprocAttr,reduceCtorEq,reduceIte]
   refine fin_stop trivial (runs_call ((show FnC Try.prog 51 [.list (wl g)] (.tup [.int .i64 (a:Int),.int .i64 (b:Int)]) by rw [show clashP g=((a:Int),(b:Int)) by unfold clashP; rw [hcs]] at hcc; exact hcc)) rfl rfl rfl (by simp only [dstOk,Nat.reduceLT]) (by repeat (first|exact trivial|constructor)) (runs_eval tab_ok ?_))
   simp only [ev0,evA,evB,evP,fl,gp,tab,simprocAttr,reduceCtorEq,reduceIte]
   refine fin_run trivial (hK _ ?_)<;>clear hK<;>clear K
   refine qa (qm (qm ?_))
   refine hk_region fun K hK=>runs_eval tab_ok ?_
   simp only [ev0,evA,evB,evP,fl,gp,tab,simprocAttr,reduceCtorEq,reduceIte]
   refine fin_run trivial (hK _ ?_)<;>clear hK<;>clear K
   refine qa ?_
   refine hk_cond rfl (fun hC5=>?_) (fun hC5=>?_)
   ·(try simp only [nhs] at hC5)
    omega
   ·(try simp only [nhs] at hC5)
    obtain ⟨c1,c2⟩:=clash_some hcs
    have hcl:Clash g (min a b) (max a b)∨Clash g (max a b) (min a b):=by
     rcases Nat.le_total a b with h3 | h3
     ·rw [Nat.min_eq_left h3,Nat.max_eq_right h3]; exact .inl c1
     ·rw [Nat.min_eq_right h3,Nat.max_eq_left h3]; exact .inr c1
    have hab:=lt_clash g2 c1
    have hoc:=occ_once g2 hcl (by omega)
    obtain ⟨m,rfl⟩:∃ m',m=m' + 1:=⟨m - 1,by omega⟩
    rw [foldF,hcs] at g4
    simp only at g4
    have hnx:FC S (onceS g (min a b) (max a b))∧Lt n (onceS g (min a b) (max a b))∧occ n (onceS g (min a b) (max a b))≤m∧foldF m (onceS g (min a b) (max a b))=folded L∧(onceS g (min a b) (max a b)).length≤100000:=
     ⟨g1.join hcl (by omega),lt_once g2 (by omega),by omega,g4,Nat.le_trans (once_len _ _ _) g5⟩
    refine qh (qa (qm (qm ?_)))
    refine hk_region fun K hK=>runs_eval tab_ok ?_
    simp only [ev0,evA,evB,evP,fl,gp,tab,simprocAttr,reduceCtorEq,reduceIte]
    refine fin_run trivial (hK _ ?_)<;>clear hK<;>clear K
    refine qa ?_
    refine hk_cond rfl (fun hC6=>?_) (fun hC6=>?_)
    ·(try simp only [nhs] at hC6)
     have h6:b < a:=by
      have:(b:Int) < (a:Int):=by simpa using hC6
      omega
     rw [Nat.min_eq_right (by omega),Nat.max_eq_left (by omega)] at hnx hoc
     refine hk_region fun K hK=>runs_eval tab_ok ?_
     simp only [ev0,evA,evB,evP,fl,gp,tab,simprocAttr,reduceCtorEq,reduceIte]
     refine fin_run trivial (hK _ ?_)<;>clear hK<;>clear K
     refine qa ?_
     refine hk_region fun K hK=>runs_eval tab_ok ?_
     simp only [ev0,evA,evB,evP,fl,gp,tab,simprocAttr,reduceCtorEq,reduceIte]
     refine fin_stop trivial (runs_call (once_c g b a g5) rfl rfl rfl (by simp only [dstOk,Nat.reduceLT]) (by repeat (first|exact trivial|constructor)) (runs_eval tab_ok ?_))
     simp only [ev0,evA,evB,evP,fl,gp,tab,simprocAttr,reduceCtorEq,reduceIte]
     refine fin_run trivial (hK _ ?_)<;>clear hK<;>clear K
     refine qd (qa ?_)
     exact ⟨(m,onceS g b a),[],hnx,hoc,by simp only [leq,leA,ev0,evA,evB,evP,fl,gp,tab,simprocAttr,reduceCtorEq,reduceIte]<;>trivial⟩
    ·(try simp only [nhs] at hC6)
     have h6:¬ b < a:=by
      have:¬ (b:Int) < (a:Int):=by simpa using hC6
      omega
     rw [Nat.min_eq_left (by omega),Nat.max_eq_right (by omega)] at hnx hoc
     refine qh (qa ?_)
     refine hk_region fun K hK=>runs_eval tab_ok ?_
     simp only [ev0,evA,evB,evP,fl,gp,tab,simprocAttr,reduceCtorEq,reduceIte]
     refine fin_stop trivial (runs_call (once_c g a b g5) rfl rfl rfl (by simp only [dstOk,Nat.reduceLT]) (by repeat (first|exact trivial|constructor)) (runs_eval tab_ok ?_))
     simp only [ev0,evA,evB,evP,fl,gp,tab,simprocAttr,reduceCtorEq,reduceIte]
     refine fin_run trivial (hK _ ?_)<;>clear hK<;>clear K
     refine qd (qa ?_)
     exact ⟨(m,onceS g a b),[],hnx,hoc,by simp only [leq,leA,ev0,evA,evB,evP,fl,gp,tab,simprocAttr,reduceCtorEq,reduceIte]<;>trivial⟩
end Go.Proofs.Ytneglephfhiamaa

/-
  Walks: the check of words of a subgroup. Conditions: none.
-/
set_option linter.all false
namespace Go.Proofs.Ytneglephfhiamaa
open Go.Pv

def ckG:List (List Int)→Nat→Nat→Int × Int
 | [],_,_=>(0,0)
 | w :: r,i,n=>if (check w).1 ≠ 0 then ((check w).1,(i:Int)) else if 2000 < n + w.length then (2,(i:Int)) else ckG r (i + 1) (n + w.length)
def ckL (L:List (List Int)):Int × Int:=if 20 < L.length then (2,0) else ckG L 0 0

theorem ffault_c (c at_:Int):FnC Try.prog 53 [.int .i64 c,.int .i64 at_] (fl (c,at_)):=by
 refine fnc_of tab_ok Try.func53 rfl (by kernel_rfl) (by rw [Try.ntmps53]; exact Nat.le_add_left 2 _) ?_; rw [Try.ntmps53]
 refine qm ?_
 refine hk_region fun K hK=>runs_eval tab_ok ?_
 simp only [ev0,evA,evB,evP,fl,gp,tab,simprocAttr,reduceCtorEq,reduceIte]
 refine fin_run ?_ (hK _ ?_)<;>clear hK<;>clear K
 ·(first|exact trivial|omega|(simp only [In64] at *; omega)|(simp [In64] at *; omega)|(simp_all; done)|skip)
 refine qa (qm ?_)
 refine hk_region fun K hK=>runs_eval tab_ok ?_
 simp only [ev0,evA,evB,evP,fl,gp,tab,simprocAttr,reduceCtorEq,reduceIte]
 refine fin_run ?_ (hK _ ?_)<;>clear hK<;>clear K
 ·(first|exact trivial|omega|(simp only [In64] at *; omega)|(simp [In64] at *; omega)|(simp_all; done)|skip)
 refine qa (qk ?_)
 simp only [Try.results53,enA,ev0,evA,evB,evP,fl,gp,tab,simprocAttr,reduceCtorEq,reduceIte]
 all_goals ((first|exact rfl|exact ⟨rfl,rfl⟩|exact ⟨rfl,rfl,rfl⟩|exact ⟨trivial,rfl⟩|exact ⟨Nat.le_refl _,rfl⟩|trivial|(simp; done)))

set_option maxHeartbeats 4000000 in
theorem checkL_c (L:List (List Int)) (hl:L.length≤1000000000) (hw:∀ w∈L,w.length≤1000000000):FnC Try.prog 34 [.list (ll L)] (fl (ckL L)):=by
 refine fnc_of tab_ok Try.func34 rfl (by kernel_rfl) (by rw [Try.ntmps34]; exact Nat.le_add_left 1 _) ?_; rw [Try.ntmps34]
 refine qm ?_
 refine hk_region fun K hK=>runs_eval tab_ok ?_
 simp only [ev0,evA,evB,evP,fl,gp,tab,simprocAttr,reduceCtorEq,reduceIte]
 refine fin_run ?_ (hK _ ?_)<;>clear hK<;>clear K
 ·(first|exact trivial|omega|(simp only [In64] at *; omega)|(simp [In64] at *; omega)|(simp_all; done)|skip)
 refine qa (qm (qm ?_))
 refine hk_region fun K hK=>runs_eval tab_ok ?_
 simp only [ev0,evA,evB,evP,fl,gp,tab,simprocAttr,reduceCtorEq,reduceIte,ll_length]
 refine fin_run trivial (hK _ ?_)<;>clear hK<;>clear K
 refine qa ?_
 refine hk_cond rfl (fun hC1=>?_) (fun hC1=>?_)
 ·(try simp only [nhs] at hC1)
  have h20:20 < L.length:=by omega
  refine qm ?_
  refine hk_region fun K hK=>runs_eval tab_ok ?_
  simp only [ev0,evA,evB,evP,fl,gp,tab,simprocAttr,reduceCtorEq,reduceIte]
  refine fin_stop trivial (runs_call (ffault_c 2 0) rfl rfl rfl (by simp only [dstOk,Nat.reduceLT]) (by repeat (first|exact trivial|constructor)) (runs_eval tab_ok ?_))
  simp only [ev0,evA,evB,evP,fl,gp,tab,simprocAttr,reduceCtorEq,reduceIte]
  refine fin_run ?_ (hK _ ?_)<;>clear hK<;>clear K
  ·(first|exact trivial|omega|(simp only [In64] at *; omega)|(simp [In64] at *; omega)|(simp_all; done)|skip)
  refine qa (qk (qb ?_))
  simp only [Try.results34,enA,ev0,evA,evB,evP,fl,gp,tab,simprocAttr,reduceCtorEq,reduceIte]
  have e:ckL L=(2,0):=by unfold ckL; rw [if_pos (by omega)]
  rw [e]
  exact ⟨rfl,rfl⟩
 ·(try simp only [nhs] at hC1)
  have h20:¬ 20 < L.length:=by omega
  refine qh (qa (qm ?_))
  refine hk_region fun K hK=>runs_eval tab_ok ?_
  simp only [ev0,evA,evB,evP,fl,gp,tab,simprocAttr,reduceCtorEq,reduceIte]
  refine fin_run trivial (hK _ ?_)<;>clear hK<;>clear K
  refine qa (qm (qm ?_))
  refine hk_region fun K hK=>runs_eval tab_ok ?_
  simp only [ev0,evA,evB,evP,fl,gp,tab,simprocAttr,reduceCtorEq,reduceIte,ll_length]
  refine fin_run trivial (hK _ ?_)<;>clear hK<;>clear K
  refine qa (ql ?_)
  refine hk_loop (ι:=Nat × Nat) (fun q=>⟨37,[(2,.ptr 0 0),(3,.p (.int .i64 (q.2:Nat))),(11,.p (.list (ll L))),(12,.p (.int .i64 L.length)),(13,.p (.int .i64 (q.1:Nat)))],[.own [.p (.int .i64 0),.p (.int .i64 0)]]⟩) (fun q=>q.1≤L.length∧q.2≤2000∧ckL L=ckG (L.drop q.1) q.1 q.2) (fun q=>L.length - q.1) (0,0) ⟨Nat.zero_le _,Nat.zero_le _,by unfold ckL; rw [if_neg h20]; rfl⟩ [0] (by simp only [leq,leA,ev0,evA,evB,evP,fl,gp,tab,simprocAttr,reduceCtorEq,reduceIte]<;>trivial) fun q hq=>?_
  obtain ⟨i,n⟩:=q
  obtain ⟨q1,q2,q3⟩:=hq
  simp only at q1 q2 q3 ⊢
  refine qm ?_
  refine hk_region fun K hK=>runs_eval tab_ok ?_
  simp only [ev0,evA,evB,evP,fl,gp,tab,simprocAttr,reduceCtorEq,reduceIte]
  refine fin_run trivial (hK _ ?_)<;>clear hK<;>clear K
  refine qa (qm ?_)
  refine hk_cond rfl (fun hC2=>?_) (fun hC2=>?_)
  ·(try simp only [nhs] at hC2)
   have hi:i < L.length:=by omega
   have hdr:L.drop i=L.getD i [] :: L.drop (i + 1):=by
    rw [List.drop_eq_getElem_cons hi,List.getD_eq_getElem?_getD,List.getElem?_eq_getElem hi]; rfl
   obtain ⟨w,hwd⟩:∃ w,L.getD i []=w:=⟨_,rfl⟩
   have hwl:w.length≤1000000000:=hw w (by rw [← hwd,List.getD_eq_getElem?_getD,List.getElem?_eq_getElem hi]; exact List.getElem_mem hi)
   rw [hdr,hwd,ckG] at q3
   refine qh (qa (qm (ql (qm ?_))))
   refine hk_region fun K hK=>runs_eval tab_ok ?_
   simp only [ev0,evA,evB,evP,fl,gp,tab,simprocAttr,reduceCtorEq,reduceIte,ll_length,ll_get hi,hwd]
   refine fin_run ?_ (hK _ ?_)<;>clear hK<;>clear K
   ·omega
   refine qa (qm (qm ?_))
   refine hk_region fun K hK=>runs_eval tab_ok ?_
   simp only [ev0,evA,evB,evP,fl,gp,tab,simprocAttr,reduceCtorEq,reduceIte]
   refine fin_stop trivial (runs_call (check_c w) rfl rfl rfl (by simp only [dstOk,Nat.reduceLT]) (by repeat (first|exact trivial|constructor)) (runs_eval tab_ok ?_))
   simp only [ev0,evA,evB,evP,fl,gp,tab,simprocAttr,reduceCtorEq,reduceIte]
   refine fin_run ?_ (hK _ ?_)<;>clear hK<;>clear K
   ·(first|exact trivial|omega|(simp only [In64] at *; omega)|(simp [In64] at *; omega)|(simp_all; done)|skip)
   refine qa (qm ?_)
   refine hk_region fun K hK=>runs_eval tab_ok ?_
   simp only [ev0,evA,evB,evP,fl,gp,tab,simprocAttr,reduceCtorEq,reduceIte]
   refine fin_run ?_ (hK _ ?_)<;>clear hK<;>clear K
   ·(first|exact trivial|omega|(simp only [In64] at *; omega)|(simp [In64] at *; omega)|(simp_all; done)|skip)
   refine qa ?_
   refine hk_cond rfl (fun hC3=>?_) (fun hC3=>?_)
   ·(try simp only [nhs] at hC3)
    have h0:(check w).1 ≠ 0:=hC3
    rw [if_pos h0] at q3
    refine qm ?_
    refine hk_region fun K hK=>runs_eval tab_ok ?_
    simp only [ev0,evA,evB,evP,fl,gp,tab,simprocAttr,reduceCtorEq,reduceIte]
    refine fin_stop trivial (runs_call (ffault_c (check w).1 i) rfl rfl rfl (by simp only [dstOk,Nat.reduceLT]) (by repeat (first|exact trivial|constructor)) (runs_eval tab_ok ?_))
    simp only [ev0,evA,evB,evP,fl,gp,tab,simprocAttr,reduceCtorEq,reduceIte]
    refine fin_run ?_ (hK _ ?_)<;>clear hK<;>clear K
    ·(first|exact trivial|omega|(simp only [In64] at *; omega)|(simp [In64] at *; omega)|(simp_all; done)|skip)
    refine qa (qk (qb (qe (qb (qb (qe (qb ?_)))))))
    simp only [Try.results34,enA,ev0,evA,evB,evP,fl,gp,tab,simprocAttr,reduceCtorEq,reduceIte]
    all_goals (rw [q3]; exact ⟨rfl,rfl⟩)
   ·(try simp only [nhs] at hC3)
    have h0:¬ (check w).1 ≠ 0:=fun h=>h hC3
    rw [if_neg h0] at q3
    refine qh (qa (qm ?_))
    refine hk_region fun K hK=>runs_eval tab_ok ?_
    simp only [ev0,evA,evB,evP,fl,gp,tab,simprocAttr,reduceCtorEq,reduceIte,il_length]
    refine fin_run ?_ (hK _ ?_)<;>clear hK<;>clear K
    ·(first|exact trivial|omega|(simp only [In64] at *; omega)|(simp [In64] at *; omega)|(simp_all; done)|skip)
    refine qa (qm ?_)
    refine hk_region fun K hK=>runs_eval tab_ok ?_
    simp only [ev0,evA,evB,evP,fl,gp,tab,simprocAttr,reduceCtorEq,reduceIte]
    refine fin_run trivial (hK _ ?_)<;>clear hK<;>clear K
    refine qa ?_
    refine hk_cond rfl (fun hC4=>?_) (fun hC4=>?_)
    ·(try simp only [nhs] at hC4)
     have h1:2000 < n + w.length:=by omega
     rw [if_pos h1] at q3
     refine qm ?_
     refine hk_region fun K hK=>runs_eval tab_ok ?_
     simp only [ev0,evA,evB,evP,fl,gp,tab,simprocAttr,reduceCtorEq,reduceIte]
     refine fin_stop trivial (runs_call (ffault_c 2 i) rfl rfl rfl (by simp only [dstOk,Nat.reduceLT]) (by repeat (first|exact trivial|constructor)) (runs_eval tab_ok ?_))
     simp only [ev0,evA,evB,evP,fl,gp,tab,simprocAttr,reduceCtorEq,reduceIte]
     refine fin_run ?_ (hK _ ?_)<;>clear hK<;>clear K
     ·(first|exact trivial|omega|(simp only [In64] at *; omega)|(simp [In64] at *; omega)|(simp_all; done)|skip)
     refine qa (qk (qe (qb (qb (qe (qb ?_))))))
     simp only [Try.results34,enA,ev0,evA,evB,evP,fl,gp,tab,simprocAttr,reduceCtorEq,reduceIte]
     all_goals (rw [q3]; exact ⟨rfl,rfl⟩)
    ·(try simp only [nhs] at hC4)
     have h1:¬ 2000 < n + w.length:=by omega
     rw [if_neg h1] at q3
     refine qh (qd (qa ?_))
     refine hk_region fun K hK=>runs_eval tab_ok ?_
     simp only [ev0,evA,evB,evP,fl,gp,tab,simprocAttr,reduceCtorEq,reduceIte]
     refine fin_run ?_ (hK _ ?_)<;>clear hK<;>clear K
     ·(first|exact trivial|omega|(simp only [In64] at *; omega)|(simp [In64] at *; omega)|(simp_all; done)|skip)
     refine qa ?_
     refine ⟨(i + 1,n + w.length),[0],⟨by simp only; omega,by simp only; omega,q3⟩,by simp only; omega,?_⟩
     simp only [leq,leA,ev0,evA,evB,evP,fl,gp,tab,simprocAttr,reduceCtorEq,reduceIte]<;>first|trivial|trace_state
  ·(try simp only [nhs] at hC2)
   refine qj (qc (qc (qf (qa (qm ?_)))))
   refine hk_region fun K hK=>runs_eval tab_ok ?_
   simp only [ev0,evA,evB,evP,fl,gp,tab,simprocAttr,reduceCtorEq,reduceIte]
   refine fin_run ?_ (hK _ ?_)<;>clear hK<;>clear K
   ·(first|exact trivial|omega|(simp only [In64] at *; omega)|(simp [In64] at *; omega)|(simp_all; done)|skip)
   refine qa (qk ?_)
   simp only [Try.results34,enA,ev0,evA,evB,evP,fl,gp,tab,simprocAttr,reduceCtorEq,reduceIte]
   have hie:i=L.length:=by omega
   rw [hie,List.drop_length,ckG] at q3
   rw [q3]
   exact ⟨rfl,rfl⟩
end Go.Proofs.Ytneglephfhiamaa

/-
  Graphs of words: a folded graph behind other blocks; following in a region. Conditions: none.
-/
set_option linter.all false
namespace Go.Pv
open Go.RowKit Go.Proofs.Ytneglephfhiamaa

theorem ren1_agree {π σ:List Nat} {L:Nat} (h:∀ i,i < L→π.getD i 0=σ.getD i 0) {x:AV} (hx:sc1 L x=true):ren1 π x=ren1 σ x:=by
 cases x<;>simp only [ren1,sc1,decide_eq_true_eq] at hx ⊢
 all_goals rw [h _ hx]
theorem ren_agree {π σ:List Nat} {L:Nat} (h:∀ i,i < L→π.getD i 0=σ.getD i 0) {x:AV} (hx:scA L x=true):Go.Pv.ren π x=Go.Pv.ren σ x:=by
 have hm:∀ l:List AV,l.all (sc1 L)=true→l.map (ren1 π)=l.map (ren1 σ):=fun l hl=>List.map_congr_left fun x hx=>ren1_agree h ((List.all_eq_true.1 hl) x hx)
 cases x with
 | agg l=>simp only [Go.Pv.ren]; rw [hm l hx]
 | tup l=>simp only [Go.Pv.ren]; rw [hm l hx]
 | cl f l=>simp only [Go.Pv.ren]; rw [hm l hx]
 | yv k l vs =>
  simp only [scA,Bool.and_eq_true,decide_eq_true_eq] at hx
  simp only [Go.Pv.ren]; rw [hm l hx.2,h _ hx.1]
 | _=>simp only [Go.Pv.ren]; exact ren1_agree h (by simpa only [scA] using hx)

/-- What a call has put behind other blocks comes to the front; one block stays behind it. -/
theorem le_swap1 {S s:St} {P H1:Heap} {c:List PV} (hn:S.n=s.n) (hs:s.H=P++H1.map (Blk.ren (List.range' P.length H1.length))) (h1:∀ b∈H1,hsc H1.length b=true) (h2:H1.all notAnc=true) (h0:hget P 0 = .own (opl c)) (hS:S.H=H1++[.own (opl c)])
  (hsl:LeS (List.range' P.length H1.length++[0]) S.sl s):Le (List.range' P.length H1.length++[0]) S s:=by
 obtain ⟨π,hπ⟩:∃ π,List.range' P.length H1.length++[0]=π:=⟨_,rfl⟩
 have hpl:π.length=H1.length + 1:=by rw [← hπ]; simp
 have hag:∀ i,i < H1.length→π.getD i 0=(List.range' P.length H1.length).getD i 0:=fun i hi=>by
  rw [← hπ,List.getD_eq_getElem?_getD,List.getElem?_append_left (by simpa using hi),← List.getD_eq_getElem?_getD]
 have hp0:0 < P.length:=by
  cases P with
  | nil=>cases h0
  | cons _ _=>exact Nat.succ_pos _
 rw [hπ] at hsl ⊢
 refine ⟨hn,?_,?_,hsl⟩
 ·rw [← hπ,List.nodup_append]
  refine ⟨List.nodup_range' ..,by simp,fun x hx y hy=>?_⟩
  rw [List.mem_range'_1] at hx
  rw [List.mem_singleton] at hy
  omega
 ·rw [hS]
  conv=>arg 3; rw [← hπ]
  refine leH_app ?_ ⟨?_,trivial⟩
  ·refine leH_at (by simp) fun i hi=>?_
   have e:(List.range' P.length H1.length).getD i 0=P.length + i:=by simp [List.getD,List.getElem?_range' hi]
   have eb:hget s.H (P.length + i)=Blk.ren (List.range' P.length H1.length) (hget H1 i):=by
    rw [hs,hget_app2 (by omega),Nat.add_sub_cancel_left,hget_eq,List.getD_eq_getElem?_getD,List.getElem?_map,hget_eq,List.getD_eq_getElem?_getD,List.getElem?_eq_getElem hi]; rfl
   have hm:hget H1 i∈H1:=by rw [hget_eq,List.getD_eq_getElem?_getD,List.getElem?_eq_getElem hi]; exact List.getElem_mem hi
   have hb:=h1 _ hm
   have hna:=(List.all_eq_true.1 h2) _ hm
   rw [e]
   revert eb hb hna
   generalize hget H1 i=b
   intro eb hb hna
   cases b with
   | own d =>
    simp only [Blk.ren] at eb
    simp only [LeB,eb]
    refine ⟨?_,List.all_eq_true.2 fun x hx=>scA_mn (by omega) ((List.all_eq_true.1 hb) x hx)⟩
    rw [List.take_of_length_le (by simp)]
    exact List.map_congr_left fun x hx=>ren_agree hag ((List.all_eq_true.1 hb) x hx)
   | anc i j=>cases hna
   | dead=>trivial
   | _=>simp only [Blk.ren] at eb; simp only [LeB,eb]
  ·have e:hget s.H 0 = .own (opl c):=by rw [hs,hget_app1 hp0]; exact h0
   simp only [LeB,e]
   exact ⟨by rw [opl_ren,List.take_of_length_le (Nat.le_refl _)],opl_sc _ _⟩
end Go.Pv
namespace Go.Proofs.Ytneglephfhiamaa
open Go.Pv

section
variable {G:List Mp} {U:List Int}
/-- Folding in a region of its own: the graph lies behind. -/
theorem fold_E {s:St} {o:Oper} {fo:Operand} {args:Array Operand} {ts:Array TypeId} (ho:o.op = .call { callee:=.value fo,args:=args,argTypes:=ts }) (hfo:s.ev fo = .p (.fn 48 []))
  (L:List (List Int)) (hL:∀ w∈L,w.length≤1000000000∧Lt26 w) (hn:L.length≤1000000) (hb:tot (L.map short)≤10000000) (hargs:args.toList.map s.ev++([]:List PV).map .p=[.p (.list (ll L))]) :
  DoesE Try.prog o s (fun av H'=>∃ G U,av = .ptr s.H.length 0∧H' = s.H++(GB G U).map (Blk.ren (List.range' s.H.length (GB G U).length))∧G.length≤10000001∧FI (L.map short) G U (L.map short) 0 []):=by
 have:=call_doesE (ks:=[]) ho hfo (fold_c L hL hn hb) (by rw [hargs]; exact ⟨⟨trivial,rfl⟩,trivial⟩) trivial List.nodup_nil (fun k hk=>by cases hk) rfl (by
  rintro r H1 ⟨rfl,G,U,rfl,h2,h3⟩
  unfold scM
  simp only [Bool.and_eq_true,decide_eq_true_eq]
  refine ⟨⟨⟨⟨?_,?_⟩,Nat.zero_le _⟩,rfl⟩,rfl⟩
  ·rw [GB_len]; simp [scA,sc1]
  ·rw [List.all_eq_true]
   intro b hb
   have h1:=(List.all_eq_true.1 GB_all) b hb
   have h2:=(List.all_eq_true.1 GB_na) b hb
   cases b with
   | own c=>exact h1
   | anc i j=>cases h2
   | _=>rfl)
 intro C m a w K Q R hK
 refine this C m a w K Q R fun v m' w' av H' ⟨r,H1,⟨e0,G,U,e1,e2,e3⟩,e4,e5⟩ R2 hv=>hK v m' w' av H' ⟨G,U,?_,?_,e2,e3⟩ R2 hv
 ·rw [e4,e0,e1]
  simp only [Go.Pv.ren,ren1,List.nil_append,List.length_nil,Nat.sub_zero]
  rw [List.getD_eq_getElem?_getD,List.getElem?_range' (by rw [GB_len]; omega)]; simp
 ·rw [e5,e1]
  simp only [putM,List.nil_append,List.length_nil,Nat.sub_zero]
end
end Go.Proofs.Ytneglephfhiamaa

/-
  Graphs of words: the walk of Member. Conditions: none.
-/
set_option linter.all false
namespace Go.Proofs.Ytneglephfhiamaa
open Go.Pv

open Classical in
/-- Is a word in the subgroup? -/
noncomputable def memB (L:List (List Int)) (w:List Int):Bool:=decide (Mem (L.map short) (short w))

end Go.Proofs.Ytneglephfhiamaa

/-
  The reference's walk; how many places and edges it has. Conditions: none.
-/
set_option linter.all false
namespace Go.Proofs.Ytneglephfhiamaa
open Go.Pv

theorem wkB_cases (u:Nat) (x to:Int) (t:E3):(∃ v:Nat,Re [t] u x v∧wkB u x to t=v)∨((∀ v,¬ Re [t] u x v)∧wkB u x to t=to):=by
 unfold wkB wkA
 obtain ⟨a,y,b⟩:=t
 simp only
 by_cases h1:x < 0∧(b:Int)=u∧y = -x
 ·rw [if_pos h1]
  obtain ⟨h1,h2,rfl⟩:=h1
  obtain rfl:b=u:=by omega
  exact .inl ⟨a,.inr ⟨h1,by simp⟩,rfl⟩
 ·rw [if_neg h1]
  by_cases h2:0 < x∧(a:Int)=u∧y=x
  ·rw [if_pos h2]
   obtain ⟨h2,h3,rfl⟩:=h2
   obtain rfl:a=u:=by omega
   exact .inl ⟨b,.inl ⟨h2,by simp⟩,rfl⟩
  ·rw [if_neg h2]
   refine .inr ⟨fun v hv=>?_,rfl⟩
   rcases hv with ⟨p,q⟩ | ⟨p,q⟩
   ·simp only [List.mem_singleton,Prod.mk.injEq] at q
    exact h2 ⟨p,by omega,q.2.1.symm⟩
   ·simp only [List.mem_singleton,Prod.mk.injEq] at q
    exact h1 ⟨p,by omega,q.2.1.symm⟩
theorem Re.cons {e:List E3} {t:E3} {u v:Nat} {x:Int} : Re (t :: e) u x v↔Re [t] u x v∨Re e u x v:=by
 unfold Re
 simp only [List.mem_cons,List.not_mem_nil,or_false]
 constructor
 ·rintro (⟨h,h1 | h1⟩ | ⟨h,h1 | h1⟩)
  ·exact .inl (.inl ⟨h,h1⟩)
  ·exact .inr (.inl ⟨h,h1⟩)
  ·exact .inl (.inr ⟨h,h1⟩)
  ·exact .inr (.inr ⟨h,h1⟩)
 ·rintro ((⟨h,h1⟩ | ⟨h,h1⟩) | (⟨h,h1⟩ | ⟨h,h1⟩))
  ·exact .inl ⟨h,.inl h1⟩
  ·exact .inr ⟨h,.inl h1⟩
  ·exact .inl ⟨h,.inr h1⟩
  ·exact .inr ⟨h,.inr h1⟩
theorem wk_fold (u:Nat) (x:Int):∀ (e:List E3) (to:Int),(∃ v:Nat,Re e u x v∧e.foldl (wkB u x) to=v)∨((∀ v,¬ Re e u x v)∧e.foldl (wkB u x) to=to)
 | [],to=>.inr ⟨fun v h=>(by rcases h with ⟨_,h⟩ | ⟨_,h⟩<;>cases h),rfl⟩
 | t :: e,to=>by
  rw [List.foldl_cons]
  rcases wk_fold u x e (wkB u x to t) with ⟨v,h1,h2⟩ | ⟨h1,h2⟩
  ·exact .inl ⟨v,Re.cons.2 (.inr h1),h2⟩
  ·rw [h2]
   rcases wkB_cases u x to t with ⟨v,h3,h4⟩ | ⟨h3,h4⟩
   ·exact .inl ⟨v,Re.cons.2 (.inl h3),h4⟩
   ·exact .inr ⟨fun v hv=>(Re.cons.1 hv).elim (h3 v) (h1 v),h4⟩
theorem walkS_neg (e:List E3) {a:Int} (h:a < 0):∀ w,walkS e a w=a
 | []=>rfl
 | x :: w=>by unfold walkS; rw [if_neg (by omega)]
theorem walkS_spec {e:List E3} (hd:Det e):∀ (w:List Int) (u v:Nat),walkS e u w=(v:Int)↔PthE e u w v
 | [],u,v=>by
  unfold walkS PthE
  omega
 | x :: w,u,v=>by
  unfold walkS PthE
  rw [if_pos (by omega)]
  unfold wk1
  rcases wk_fold u x e (-1) with ⟨m,h1,h2⟩ | ⟨h1,h2⟩
  ·rw [h2,walkS_spec hd w m v]
   constructor
   ·exact fun h=>⟨m,h1,h⟩
   ·rintro ⟨m',h3,h4⟩
    rw [hd _ _ _ _ h1 h3]; exact h4
  ·rw [h2,walkS_neg e (by decide)]
   constructor
   ·intro h; omega
   ·rintro ⟨m,h3,_⟩; exact absurd h3 (h1 m)
theorem within_mem {L:List (List Int)} {e:List E3} (h:FC (L.map short) e) (hd:Det e) (w:List Int):decide (walkS e 0 (short w)=0)=memB L w:=by
 unfold memB
 refine decide_eq_decide.2 ?_
 rw [← fe_mem h.fe hd]
 exact walkS_spec hd (short w) 0 0

/-! ### Places -/

def plA (out:List Nat) (v:Nat):List Nat:=if v∈out then out else out++[v]
def plS (e:List E3):List Nat:=e.foldl (fun out t=>plA (plA out t.1) t.2.2) [0]
theorem mem_plA {out:List Nat} {u v:Nat} : u∈plA out v↔u∈out∨u=v:=by
 unfold plA
 split
 ·rename_i h
  exact ⟨.inl,fun h2=>h2.elim id fun h3=>h3 ▸ h⟩
 ·simp
theorem plA_nd {out:List Nat} {v:Nat} (h:out.Nodup):(plA out v).Nodup:=by
 unfold plA
 split
 ·exact h
 ·rename_i hv
  rw [List.nodup_append]
  exact ⟨h,by simp,fun a ha b hb=>by rw [List.mem_singleton] at hb; subst hb; exact fun e=>hv (e ▸ ha)⟩
theorem plA_len (out:List Nat) (v:Nat):(plA out v).length≤out.length + 1:=by
 unfold plA
 split
 ·omega
 ·simp
theorem plF_spec:∀ (e:List E3) (out:List Nat),out.Nodup→(e.foldl (fun out t=>plA (plA out t.1) t.2.2) out).Nodup∧(∀ u,u∈e.foldl (fun out t=>plA (plA out t.1) t.2.2) out↔u∈out∨∃ t∈e,t.1=u∨t.2.2=u)
 | [],out,h=>⟨h,fun u=>by simp⟩
 | t :: e,out,h=>by
  obtain ⟨h1,h2⟩:=plF_spec e _ (plA_nd (plA_nd h):(plA (plA out t.1) t.2.2).Nodup)
  refine ⟨h1,fun u=>?_⟩
  rw [List.foldl_cons,h2 u,mem_plA,mem_plA]
  constructor
  ·rintro (((h3 | h3) | h3) | ⟨s,hs,h3⟩)
   ·exact .inl h3
   ·exact .inr ⟨t,by simp,.inl h3.symm⟩
   ·exact .inr ⟨t,by simp,.inr h3.symm⟩
   ·exact .inr ⟨s,by simp [hs],h3⟩
  ·rintro (h3 | ⟨s,hs,h3⟩)
   ·exact .inl (.inl (.inl h3))
   ·rcases List.mem_cons.1 hs with rfl | hs
    ·rcases h3 with h3 | h3
     ·exact .inl (.inl (.inr h3.symm))
     ·exact .inl (.inr h3.symm)
    ·exact .inr ⟨s,hs,h3⟩
theorem plS_nd (e:List E3):(plS e).Nodup:=(plF_spec e [0] (by simp)).1
theorem mem_plS {e:List E3} {u:Nat} : u∈plS e↔u=0∨∃ t∈e,t.1=u∨t.2.2=u:=by
 have:=(plF_spec e [0] (by simp)).2 u
 simpa [plS] using this
/-- The reference's graph is folded, too. -/
theorem fc_cg {S:List (List Int)} {e:List E3} (h:FC S e) (hd:Det e) (hn:e.Nodup):CG (stE e) (plS e)∧UniG (stE e) (plS e) S∧(∀ s∈S,runW (stE e) 0 s=some 0)∧(PE (stE e) (plS e)).length=e.length:=by
 have hre:∀ {u v:Nat} {x:Int},Re e u x v→u∈plS e∧v∈plS e∧x ≠ 0∧-26≤x∧x≤26:=fun {u v x} hr=>by
  rcases hr with ⟨p,q⟩ | ⟨p,q⟩
  ·have:=h.let26 _ q
   simp only at this
   exact ⟨mem_plS.2 (.inr ⟨_,q,.inl rfl⟩),mem_plS.2 (.inr ⟨_,q,.inr rfl⟩),by omega,by omega,this⟩
  ·have:=h.let26 _ q
   simp only at this
   exact ⟨mem_plS.2 (.inr ⟨_,q,.inr rfl⟩),mem_plS.2 (.inr ⟨_,q,.inl rfl⟩),by omega,by omega,by omega⟩
 have c:CG (stE e) (plS e):=by
  refine ⟨stE_inv hd,plS_nd e,mem_plS.2 (.inl rfl),fun u hu x v hs=>(hre ((stE_iff hd).1 hs)).2.1,fun u hu x v hs=>(hre ((stE_iff hd).1 hs)).2.2,fun u hu=>?_⟩
  rcases mem_plS.1 hu with rfl | ⟨t,ht,rfl | rfl⟩
  ·exact ⟨[],rfl⟩
  ·obtain ⟨w,hw⟩:=h.con t ht
   exact ⟨w,(runE hd w 0 _).2 hw⟩
  ·obtain ⟨w,hw⟩:=h.con t ht
   exact ⟨w++[t.2.1],(runE hd _ 0 _).2 (hw.app ⟨t.2.2,.inl ⟨h.fe.pos t ht,ht⟩,rfl⟩)⟩
 refine ⟨c,fun X st x0 hi hc=>?_,fun s hs=>(runE hd s 0 0).2 (h.fe.cl s hs),?_⟩
 ·obtain ⟨κ,k1,k2⟩:=h.fe.uni X st x0 hi hc
  refine ⟨κ,k1,fun u hu x v hs=>?_⟩
  rcases (stE_iff hd).1 hs with ⟨p,q⟩ | ⟨p,q⟩
  ·exact k2 _ q
  ·have:=hi _ _ _ (by simp only; omega) (k2 _ q)
   simpa using this
 ·have e1:(e.map fun t=>(t.1,t.2.1)).length=e.length:=List.length_map ..
  rw [← e1]
  refine nd_eq (PE_nd c.nd) (nodup_mapF hn fun a ha b hb e0=>?_) fun p=>?_
  ·injection e0 with e2 e3
   obtain ⟨a1,a2,a3⟩:=a
   obtain ⟨b1,b2,b3⟩:=b
   simp only at e2 e3
   subst e2; subst e3
   have:=hd a1 a2 a3 b3 (.inl ⟨h.fe.pos _ ha,ha⟩) (.inl ⟨h.fe.pos _ ha,hb⟩)
   rw [this]
  ·obtain ⟨u,x⟩:=p
   rw [mem_PE0 c.lt,List.mem_map]
   constructor
   ·rintro ⟨h1,h2,h3⟩
    obtain ⟨v,hv⟩:=Option.isSome_iff_exists.1 h3
    rcases (stE_iff hd).1 hv with ⟨p,q⟩ | ⟨p,q⟩
    ·exact ⟨_,q,rfl⟩
    ·omega
   ·rintro ⟨t,ht,e0⟩
    injection e0 with e2 e3
    subst e2; subst e3
    have hr:Re e t.1 t.2.1 t.2.2:=.inl ⟨h.fe.pos t ht,ht⟩
    exact ⟨(hre hr).1,h.fe.pos t ht,by rw [(stE_iff hd).2 hr]; rfl⟩
theorem fc_cnt {S:List (List Int)} {e:List E3} (h:FC S e) (hd:Det e) (hn:e.Nodup):(plS e).length=vS S∧e.length=eS S:=by
 obtain ⟨c,u,cl,hl⟩:=fc_cg h hd hn
 have:=(IsC.mk c u cl).cnt
 exact ⟨this.1,hl ▸ this.2⟩
theorem plF_len:∀ (e:List E3) (out:List Nat),(e.foldl (fun out t=>plA (plA out t.1) t.2.2) out).length≤out.length + 2 * e.length
 | [],out=>Nat.le_refl _
 | t :: e,out=>by
  rw [List.foldl_cons]
  have h1:=plF_len e (plA (plA out t.1) t.2.2)
  have h2:=plA_len (plA out t.1) t.2.2
  have h3:=plA_len out t.1
  simp only [List.length_cons]; omega
theorem plS_len (e:List E3):(plS e).length≤1 + 2 * e.length:=plF_len e [0]
end Go.Proofs.Ytneglephfhiamaa

/-
  Drawn regions whose footprints are laid apart by hand; graphs whose roads are shortened. Conditions: none.
-/
set_option linter.all false
namespace Go.Pv
open Go.RowKit

end Go.Pv
namespace Go.Proofs.Ytneglephfhiamaa
open Go.Pv
section
variable {G:List Mp} {U U' : List Int}
theorem Pth.rv (w:WG G U) (hr:∀ u,u < G.length→rV U' u=rV U u):∀ {l:List Int} {u v:Nat},u < G.length→v < G.length→Pth G U u l v→Pth G U' u l v
 | [],u,v,hu,hv,h=>by rw [Pth] at h ⊢; rw [hr u hu,hr v hv]; exact h
 | x :: l,u,v,hu,hv,⟨m,a,b,c⟩=>⟨m,a,(Ed.rv w hr hu a).2 b,Pth.rv w hr a hv c⟩
theorem FI.up {L done:List (List Int)} {v:Nat} {p:List Int} (h:FI L G U done v p) (w' : WG G U') (hr:∀ u,u < G.length→rV U' u=rV U u):FI L G U' done v p:=by
 have hw:=h.wg
 refine ⟨w',h.pos,h.lt,fun u x v hu hv e=>?_,fun w hw'=>Pth.rv hw hr h.pos h.pos (h.cl w hw'),Pth.rv hw hr h.pos h.lt h.pth,fun u hu=>(h.con u hu).imp fun q hq=>Pth.rv hw hr h.pos hu hq,fun X step x0 hi hc=>?_⟩
 ·rw [pe_nil,Ed.rv hw hr hu hv] at e
  rw [pe_nil,Ed.rv hw hr hv hu]
  exact pe_nil.1 (h.sym u x v hu hv (pe_nil.2 e))
 ·obtain ⟨κ,k1,k2,k3⟩:=h.uni X step x0 hi hc
  refine ⟨κ,k1,⟨fun u hu=>by rw [hr u hu]; exact k2.1 u hu,fun u x v hu hv e=>?_⟩,k3⟩
  rw [pe_nil,Ed.rv hw hr hu hv] at e
  exact k2.2 u x v hu hv (pe_nil.2 e)
end

section
variable {G:List Mp} {U:List Int}
end
end Go.Proofs.Ytneglephfhiamaa

/-
  Graphs of words: the walk of Same's test. Conditions: none.
-/
set_option linter.all false
namespace Go.Proofs.Ytneglephfhiamaa
open Go.Pv

section
variable {G:List Mp} {U:List Int}

end
end Go.Proofs.Ytneglephfhiamaa

/-
  Graphs of words: the walks of a search with a test that writes the graph. Conditions: none.
-/
set_option linter.all false
namespace Go.Pv
open Go.RowKit

end Go.Pv
namespace Go.Proofs.Ytneglephfhiamaa
open Go.Pv

section
variable {G:List Mp} {U:List Int}
end
end Go.Proofs.Ytneglephfhiamaa

/-
  Graphs of words: the walks of Same's halves. Conditions: none.
-/
set_option linter.all false
namespace Go.Pv
open Go.RowKit
end Go.Pv
namespace Go.Proofs.Ytneglephfhiamaa
open Go.Pv

section
variable {G:List Mp} {U:List Int}
end
end Go.Proofs.Ytneglephfhiamaa

/-
  Graphs of words: the walk of Same's function. Conditions: none.
-/
set_option linter.all false
namespace Go.Proofs.Ytneglephfhiamaa
open Go.Pv

/-- Words that may be folded. -/
def Good (L:List (List Int)):Prop:=(∀ w∈L,w.length≤1000000000∧Lt26 w)∧L.length≤1000000∧tot (L.map short)≤10000000
open Classical in
/-- Are all words of the first in the subgroup of the second? -/
noncomputable def inB (L M:List (List Int)):Bool:=decide (∀ w∈L,Mem (M.map short) (short w))
end Go.Proofs.Ytneglephfhiamaa

/-
  The reference's graphs: the walks of Has, Places and Sides. Conditions: none.
-/
set_option linter.all false
namespace Go.Proofs.Ytneglephfhiamaa
open Go.Pv

theorem has_f (l:List Int) (x:Int) (hl:l.length≤1000000000000000):FnC Try.prog 52 [.list (il l),.int .i64 x] (.bool (decide (x∈l))):=by
 refine fnc_of tab_ok Try.func52 rfl (by kernel_rfl) (by rw [Try.ntmps52]; exact Nat.le_add_left 2 _) ?_; rw [Try.ntmps52]
 refine qm ?_
 refine hk_region fun K hK=>runs_eval tab_ok ?_
 simp only [ev0,evA,evB,evP,fl,gp,tab,simprocAttr,reduceCtorEq,reduceIte]
 refine fin_run trivial (hK _ ?_)<;>clear hK<;>clear K
 refine qa (qm (qm ?_))
 refine hk_region fun K hK=>runs_eval tab_ok ?_
 simp only [ev0,evA,evB,evP,fl,gp,tab,simprocAttr,reduceCtorEq,reduceIte]
 refine fin_run trivial (hK _ ?_)<;>clear hK<;>clear K
 refine qa (ql ?_)
 refine hk_loop (ι:=Nat) (fun i=>⟨18,[(0,.p (.list (il l))),(1,.p (.int .i64 x)),(5,.p (.int .i64 i))],[]⟩) (fun i=>i≤l.length∧∀ j,j < i→l.getD j 0 ≠ x) (fun i=>l.length - i) 0 ⟨Nat.zero_le _,fun j hj=>absurd hj (Nat.not_lt_zero _)⟩ [] (by simp only [leq,leA,ev0,evA,evB,evP,fl,gp,tab,simprocAttr,reduceCtorEq,reduceIte]<;>trivial) fun i hi=>?_
 obtain ⟨hi1,hi2⟩:=hi
 refine qm (qm ?_)
 refine hk_region fun K hK=>runs_eval tab_ok ?_
 simp only [ev0,evA,evB,evP,fl,gp,tab,simprocAttr,reduceCtorEq,reduceIte]
 refine fin_run trivial (hK _ ?_)<;>clear hK<;>clear K
 refine qa ?_
 refine hk_cond rfl (fun hC1=>?_) (fun hC1=>?_)
 ·(try simp only [nhs] at hC1)
  have hlt:i < l.length:=by omega
  refine qh (qa (qm (ql (qm ?_))))
  refine hk_region fun K hK=>runs_eval tab_ok ?_
  simp only [ev0,evA,evB,evP,fl,gp,tab,simprocAttr,reduceCtorEq,reduceIte,il_get hlt]
  refine fin_run ?_ (hK _ ?_)<;>clear hK<;>clear K
  ·(first|exact trivial|omega|(simp only [In64] at *; omega)|(simp [In64] at *; omega)|(simp_all; done)|skip)
  refine qa ?_
  refine hk_cond rfl (fun hC2=>?_) (fun hC2=>?_)
  ·(try simp only [nhs] at hC2)
   refine qm ?_
   refine hk_region fun K hK=>runs_eval tab_ok ?_
   simp only [ev0,evA,evB,evP,fl,gp,tab,simprocAttr,reduceCtorEq,reduceIte]
   refine fin_run trivial (hK _ ?_)<;>clear hK<;>clear K
   refine qa (qk (qe (qb (qb (qe (qb ?_))))))
   simp only [Try.results52,enA,ev0,evA,evB,evP,fl,gp,tab,simprocAttr,reduceCtorEq,reduceIte]
   all_goals (rw [eq_comm]; refine decide_eq_true ?_; rw [← hC2]; simp [List.getD,List.getElem?_eq_getElem hlt])
  ·(try simp only [nhs] at hC2)
   refine qh (qd (qa ?_))
   refine hk_region fun K hK=>runs_eval tab_ok ?_
   simp only [ev0,evA,evB,evP,fl,gp,tab,simprocAttr,reduceCtorEq,reduceIte]
   refine fin_run ?_ (hK _ ?_)<;>clear hK<;>clear K
   ·(first|exact trivial|omega|(simp only [In64] at *; omega)|(simp [In64] at *; omega)|(simp_all; done)|skip)
   refine qa ?_
   refine ⟨i + 1,[],⟨by omega,fun j hj=>?_⟩,by omega,?_⟩
   ·by_cases hj:j=i
    ·subst hj; exact hC2
    ·exact hi2 j (by omega)
   ·simp only [leq,leA,ev0,evA,evB,evP,fl,gp,tab,simprocAttr,reduceCtorEq,reduceIte]<;>trivial
 ·(try simp only [nhs] at hC1)
  refine qj (qc (qc (qf (qa (qm ?_)))))
  refine hk_region fun K hK=>runs_eval tab_ok ?_
  simp only [ev0,evA,evB,evP,fl,gp,tab,simprocAttr,reduceCtorEq,reduceIte]
  refine fin_run trivial (hK _ ?_)<;>clear hK<;>clear K
  refine qa (qk ?_)
  simp only [Try.results52,enA,ev0,evA,evB,evP,fl,gp,tab,simprocAttr,reduceCtorEq,reduceIte]
  all_goals (rw [eq_comm]; refine decide_eq_false fun hm=>?_; obtain ⟨j,hj,e⟩:=List.getElem_of_mem hm; exact hi2 j (by omega) (by simp [List.getD,List.getElem?_eq_getElem hj,e]))
theorem mem_ofNat {out:List Nat} {v:Nat} : ((v:Int)∈out.map Int.ofNat)↔v∈out:=by
 rw [List.mem_map]
 constructor
 ·rintro ⟨u,hu,e⟩
  have:u=v:=by
   have e:(u:Int)=v:=e
   omega
  exact this ▸ hu
 ·exact fun h=>⟨v,h,rfl⟩
theorem plA_row {out:List Nat} {v:Nat} (h:v ∉ out):(plA out v).map Int.ofNat=out.map Int.ofNat++[(v:Int)]:=by
 unfold plA; rw [if_neg h]; simp

set_option maxHeartbeats 4000000 in
set_option maxRecDepth 20000 in
theorem places_c (e:List E3) (hl:e.length≤100000):FnC Try.prog 20 [.list (wl e)] (.list (il ((plS e).map Int.ofNat))):=by
 refine fnc_of tab_ok Try.func20 rfl (by kernel_rfl) (by rw [Try.ntmps20]; exact Nat.le_add_left 1 _) ?_; rw [Try.ntmps20]
 refine qm ?_
 refine hk_region fun K hK=>runs_eval tab_ok ?_
 simp only [ev0,evA,evB,evP,fl,gp,tab,simprocAttr,reduceCtorEq,reduceIte]
 refine fin_run trivial (hK _ ?_)<;>clear hK<;>clear K
 refine qa (qm ?_)
 refine hk_region fun K hK=>runs_op (buildOwn_does (n:=1) (l:=[.int .i64 0]) tab_ok rfl rfl rfl rfl rfl rfl rfl ⟨⟨rfl,rfl,rfl⟩,trivial⟩ rfl (by decide) rfl) rfl (show (5:Nat) < 45 by decide) (runs_eval tab_ok ?_)
 simp only [ev0,evA,evB,evP,fl,gp,tab,simprocAttr,reduceCtorEq,reduceIte]
 refine fin_run trivial (hK _ ?_)<;>clear hK<;>clear K
 refine qa (qm (qm ?_))
 refine hk_region fun K hK=>runs_eval tab_ok ?_
 simp only [ev0,evA,evB,evP,fl,gp,tab,simprocAttr,reduceCtorEq,reduceIte]
 refine fin_run trivial (hK _ ?_)<;>clear hK<;>clear K
 refine qa (ql ?_)
 refine hk_loop (ι:=Nat × List Int) (fun q=>⟨45,[(0,.p (.list (wl e))),(3,.sl 0 0 q.2.length),(4,.p (.int .i64 (q.1:Nat)))],[.own (ol q.2)]⟩) (fun q=>q.1≤e.length∧∃ out:List Nat,q.2=out.map Int.ofNat∧(e.drop q.1).foldl (fun out t=>plA (plA out t.1) t.2.2) out=plS e∧out.length≤1 + 2 * q.1) (fun q=>e.length - q.1) (0,[0]) ⟨Nat.zero_le _,[0],rfl,rfl,by decide⟩ [0] (by simp only [leq,leA,ev0,evA,evB,evP,fl,gp,tab,simprocAttr,reduceCtorEq,reduceIte]<;>first|trivial|rfl) fun q hq=>?_
 obtain ⟨i,O⟩:=q
 obtain ⟨q1,out,hO,q2,q3⟩:=hq
 simp only at q1 hO q2 q3 ⊢
 have hOl:O.length=out.length:=by rw [hO,List.length_map]
 refine qm (qm ?_)
 refine hk_region fun K hK=>runs_eval tab_ok ?_
 simp only [ev0,evA,evB,evP,fl,gp,tab,simprocAttr,reduceCtorEq,reduceIte,wl_len]
 refine fin_run trivial (hK _ ?_)<;>clear hK<;>clear K
 refine qa ?_
 refine hk_cond rfl (fun hC1=>?_) (fun hC1=>?_)
 ·(try simp only [nhs] at hC1)
  have hi:i < e.length:=by omega
  obtain ⟨t,ht⟩:∃ t,e.getD i e3d=t:=⟨_,rfl⟩
  have hdr:e.drop i=t :: e.drop (i + 1):=by
   rw [List.drop_eq_getElem_cons hi,← ht,List.getD_eq_getElem?_getD,List.getElem?_eq_getElem hi]; rfl
  rw [hdr,List.foldl_cons] at q2
  obtain ⟨ta,tx,tb⟩:=t
  simp only at q2
  obtain ⟨O1,hO1⟩:∃ O,(plA out ta).map Int.ofNat=O:=⟨_,rfl⟩
  have hO1l:O1.length=(plA out ta).length:=by rw [← hO1,List.length_map]
  have hl1:=plA_len out ta
  refine qh (qa (qm (ql (qm (qm ?_)))))
  refine hk_region fun K hK=>runs_eval tab_ok ?_
  simp only [ev0,evA,evB,evP,fl,gp,tab,simprocAttr,reduceCtorEq,reduceIte,wl_len,wl_get hi,ht]
  refine fin_stop ?_ (runs_call (b:=false) (has_f O ta (by omega)) rfl (by simp only [callA,peekList,peekG,peekS,List.map_cons,List.map_nil,List.append_nil,enA,ev0,evA,evB,evP,fl,gp,tab,simprocAttr,reduceCtorEq,reduceIte,List.drop_zero,ol_drop,ol_take,take_len,ol_allP,il_all,il_length,List.length_replicate,List.take_replicate,Nat.min_self]; rfl) rfl (by simp only [dstOk,Nat.reduceLT]) ?_ (runs_eval tab_ok ?_))
  ·omega
  ·exact Nat.le_refl _
  simp only [ev0,evA,evB,evP,fl,gp,tab,simprocAttr,reduceCtorEq,reduceIte,wl_len,wl_get hi,ht]
  refine fin_run ?_ (hK _ ?_)<;>clear hK<;>clear K
  ·(first|exact trivial|omega|(simp only [In64] at *; omega)|(simp [In64] at *; omega)|(simp_all; done)|skip)
  refine qa ?_
  refine hk_cut (⟨45,[(0,.p (.list (wl e))),(3,.sl 0 0 O1.length),(4,.p (.int .i64 (i:Nat)))],[.own (ol O1)]⟩) ?_ ?_
  ·refine hk_cond rfl (fun hC2=>?_) (fun hC2=>?_)
   ·(try simp only [nhs] at hC2)
    refine hk_region fun K hK=>runs_eval tab_ok ?_
    simp only [ev0,evA,evB,evP,fl,gp,tab,simprocAttr,reduceCtorEq,reduceIte,wl_len,wl_get hi,ht]
    refine fin_run ?_ (hK _ ?_)<;>clear hK<;>clear K
    ·exact ⟨by omega,Nat.le_refl _,by omega,by omega⟩
    have hnm:ta ∉ out:=fun hm=>by
     have:(ta:Int)∈O:=hO ▸ mem_ofNat.2 hm
     simp [this] at hC2
    have e1:O1=O++[(ta:Int)]:=by rw [← hO1,plA_row hnm,hO]
    refine ⟨rfl,[1],?_⟩
    rw [e1]
    simp only [leq,leA,ev0,evA,evB,evP,fl,gp,tab,simprocAttr,reduceCtorEq,reduceIte,ol_ren,ol_sc,List.length_append,List.length_singleton,List.take_length]<;>first|trivial|trace_state
   ·(try simp only [nhs] at hC2)
    refine qh ?_
    have hm:ta∈out:=by
     have:(ta:Int)∈O:=by simpa using hC2
     exact mem_ofNat.1 (hO ▸ this)
    have e1:O1=O:=by rw [← hO1,hO]; unfold plA; rw [if_pos hm]
    refine ⟨rfl,[0],?_⟩
    rw [e1]
    simp only [leq,leA,ev0,evA,evB,evP,fl,gp,tab,simprocAttr,reduceCtorEq,reduceIte,ol_ren,ol_sc]<;>first|trivial|trace_state
  ·refine qm ?_
   refine hk_region fun K hK=>runs_eval tab_ok ?_
   simp only [ev0,evA,evB,evP,fl,gp,tab,simprocAttr,reduceCtorEq,reduceIte,wl_len,wl_get hi,ht]
   refine fin_stop ?_ (runs_call (b:=false) (has_f O1 tb (by omega)) rfl (by simp only [callA,peekList,peekG,peekS,List.map_cons,List.map_nil,List.append_nil,enA,ev0,evA,evB,evP,fl,gp,tab,simprocAttr,reduceCtorEq,reduceIte,List.drop_zero,ol_drop,ol_take,take_len,ol_allP,il_all,il_length,List.length_replicate,List.take_replicate,Nat.min_self]; rfl) rfl (by simp only [dstOk,Nat.reduceLT]) ?_ (runs_eval tab_ok ?_))
   ·omega
   ·exact Nat.le_refl _
   simp only [ev0,evA,evB,evP,fl,gp,tab,simprocAttr,reduceCtorEq,reduceIte,wl_len,wl_get hi,ht]
   refine fin_run ?_ (hK _ ?_)<;>clear hK<;>clear K
   ·(first|exact trivial|omega|(simp only [In64] at *; omega)|(simp [In64] at *; omega)|(simp_all; done)|skip)
   refine qa ?_
   refine hk_cond rfl (fun hC3=>?_) (fun hC3=>?_)
   ·(try simp only [nhs] at hC3)
    refine hk_region fun K hK=>runs_eval tab_ok ?_
    simp only [ev0,evA,evB,evP,fl,gp,tab,simprocAttr,reduceCtorEq,reduceIte,wl_len,wl_get hi,ht]
    refine fin_run ?_ (hK _ ?_)<;>clear hK<;>clear K
    ·exact ⟨by omega,Nat.le_refl _,by omega,by omega⟩
    refine qd (qa ?_)
    refine hk_region fun K hK=>runs_eval tab_ok ?_
    simp only [ev0,evA,evB,evP,fl,gp,tab,simprocAttr,reduceCtorEq,reduceIte]
    refine fin_run ?_ (hK _ ?_)<;>clear hK<;>clear K
    ·(first|exact trivial|omega|(simp only [In64] at *; omega)|(simp [In64] at *; omega)|(simp_all; done)|skip)
    refine qa ?_
    have hnm:tb ∉ plA out ta:=fun hm=>by
     have:(tb:Int)∈O1:=hO1 ▸ mem_ofNat.2 hm
     simp [this] at hC3
    have e1:(plA (plA out ta) tb).map Int.ofNat=O1++[(tb:Int)]:=by rw [plA_row hnm,hO1]
    have hl2:=plA_len (plA out ta) tb
    exact ⟨(i + 1,O1++[(tb:Int)]),[1],⟨by simp only; omega,plA (plA out ta) tb,e1.symm,q2,by simp only; omega⟩,by simp only; omega,by simp only [leq,leA,ev0,evA,evB,evP,fl,gp,tab,simprocAttr,reduceCtorEq,reduceIte,ol_ren,ol_sc,List.length_append,List.length_singleton,List.take_length]<;>first|trivial|trace_state⟩
   ·(try simp only [nhs] at hC3)
    refine qh (qd (qa ?_))
    refine hk_region fun K hK=>runs_eval tab_ok ?_
    simp only [ev0,evA,evB,evP,fl,gp,tab,simprocAttr,reduceCtorEq,reduceIte]
    refine fin_run ?_ (hK _ ?_)<;>clear hK<;>clear K
    ·(first|exact trivial|omega|(simp only [In64] at *; omega)|(simp [In64] at *; omega)|(simp_all; done)|skip)
    refine qa ?_
    have hm:tb∈plA out ta:=by
     have:(tb:Int)∈O1:=by simpa using hC3
     exact mem_ofNat.1 (hO1 ▸ this)
    have e1:plA (plA out ta) tb=plA out ta:=by
     generalize plA out ta=o at hm
     unfold plA
     rw [if_pos hm]
    rw [e1] at q2
    exact ⟨(i + 1,O1),[0],⟨by simp only; omega,plA out ta,hO1.symm,q2,by simp only; omega⟩,by simp only; omega,by simp only [leq,leA,ev0,evA,evB,evP,fl,gp,tab,simprocAttr,reduceCtorEq,reduceIte,ol_ren,ol_sc]<;>first|trivial|trace_state⟩
 ·(try simp only [nhs] at hC1)
  refine qj (qc (qc (qf (qa (qm ?_)))))
  refine hk_region fun K hK=>runs_eval tab_ok ?_
  simp only [ev0,evA,evB,evP,fl,gp,tab,simprocAttr,reduceCtorEq,reduceIte]
  refine fin_run trivial (hK _ ?_)<;>clear hK<;>clear K
  refine qa (qk ?_)
  simp only [Try.results20,enA,ev0,evA,evB,evP,fl,gp,tab,simprocAttr,reduceCtorEq,reduceIte]
  have hie:i=e.length:=by omega
  rw [hie,List.drop_length] at q2
  have q2:out=plS e:=q2
  rw [hO,q2]
  exact ⟨Nat.le_refl _,rfl⟩

theorem memB_iff {M:List (List Int)} {w:List Int} : memB M w=true↔Mem (M.map short) (short w):=by
 classical
 unfold memB; exact decide_eq_true_iff
theorem inB_iff {L M:List (List Int)} : inB L M=true↔∀ w∈L,Mem (M.map short) (short w):=by
 classical
 unfold inB; exact decide_eq_true_iff
set_option maxHeartbeats 4000000 in
theorem sides_c (L M:List (List Int)) (hL:∀ w∈L,w.length≤1000000000∧Sm w) (hl:L.length≤1000000000) (hM:∀ w∈M,Ok w∧w.length≤1000000000) (hn:M.length≤1000000) (hb:tot (M.map short)≤90000):FnC Try.prog 23 [.list (ll L),.list (ll M)] (.bool (inB L M)):=by
 obtain ⟨h1,h2,h3⟩:=folded_spec fun w hw=>(hM w hw).1
 have h4:(folded M).length≤100000:=by have:=folded_len M fun w hw=>(hM w hw).1; omega
 refine fnc_of tab_ok Try.func23 rfl (by kernel_rfl) (by rw [Try.ntmps23]; exact Nat.le_add_left 2 _) ?_; rw [Try.ntmps23]
 refine qm ?_
 refine hk_region fun K hK=>runs_eval tab_ok ?_
 simp only [ev0,evA,evB,evP,fl,gp,tab,simprocAttr,reduceCtorEq,reduceIte]
 refine fin_run trivial (hK _ ?_)<;>clear hK<;>clear K
 refine qa (qm ?_)
 refine hk_region fun K hK=>runs_eval tab_ok ?_
 simp only [ev0,evA,evB,evP,fl,gp,tab,simprocAttr,reduceCtorEq,reduceIte]
 refine fin_stop trivial (runs_call (folded_c M hM hn hb) rfl rfl rfl (by simp only [dstOk,Nat.reduceLT]) (by repeat (first|exact trivial|constructor)) (runs_eval tab_ok ?_))
 simp only [ev0,evA,evB,evP,fl,gp,tab,simprocAttr,reduceCtorEq,reduceIte]
 refine fin_run trivial (hK _ ?_)<;>clear hK<;>clear K
 refine qa (qm (qm ?_))
 refine hk_region fun K hK=>runs_eval tab_ok ?_
 simp only [ev0,evA,evB,evP,fl,gp,tab,simprocAttr,reduceCtorEq,reduceIte]
 refine fin_run trivial (hK _ ?_)<;>clear hK<;>clear K
 refine qa (ql ?_)
 refine hk_loop (ι:=Nat) (fun i=>⟨22,[(0,.p (.list (ll L))),(5,.p (.list (wl (folded M)))),(6,.p (.int .i64 (i:Nat)))],[]⟩) (fun i=>i≤L.length∧∀ k,k < i→Mem (M.map short) (short (L.getD k []))) (fun i=>L.length - i) 0 ⟨Nat.zero_le _,fun k hk=>absurd hk (Nat.not_lt_zero _)⟩ [] (by simp only [leq,leA,ev0,evA,evB,evP,fl,gp,tab,simprocAttr,reduceCtorEq,reduceIte]<;>trivial) fun i hi=>?_
 obtain ⟨q1,q2⟩:=hi
 refine qm (qm ?_)
 refine hk_region fun K hK=>runs_eval tab_ok ?_
 simp only [ev0,evA,evB,evP,fl,gp,tab,simprocAttr,reduceCtorEq,reduceIte,ll_length]
 refine fin_run trivial (hK _ ?_)<;>clear hK<;>clear K
 refine qa ?_
 refine hk_cond rfl (fun hC1=>?_) (fun hC1=>?_)
 ·(try simp only [nhs] at hC1)
  have hi:i < L.length:=by omega
  obtain ⟨w,hw⟩:∃ w,L.getD i []=w:=⟨_,rfl⟩
  have hwm:w∈L:=by rw [← hw,List.getD_eq_getElem?_getD,List.getElem?_eq_getElem hi]; exact List.getElem_mem hi
  obtain ⟨hw1,hw2⟩:=hL w hwm
  refine qh (qa (qm (ql (qm ?_))))
  refine hk_region fun K hK=>runs_eval tab_ok ?_
  simp only [ev0,evA,evB,evP,fl,gp,tab,simprocAttr,reduceCtorEq,reduceIte,ll_length,ll_get hi,hw]
  refine fin_stop ?_ (runs_call (within_c (folded M) w h4 hw1 hw2) rfl rfl rfl (by simp only [dstOk,Nat.reduceLT]) (by repeat (first|exact trivial|constructor)) (runs_eval tab_ok ?_))
  ·omega
  simp only [ev0,evA,evB,evP,fl,gp,tab,simprocAttr,reduceCtorEq,reduceIte,ll_length,ll_get hi,hw]
  refine fin_run ?_ (hK _ ?_)<;>clear hK<;>clear K
  ·(first|exact trivial|omega|(simp only [In64] at *; omega)|(simp [In64] at *; omega)|(simp_all; done)|skip)
  refine qa ?_
  refine hk_cond rfl (fun hC2=>?_) (fun hC2=>?_)
  ·(try simp only [nhs] at hC2)
   have hmm:=within_mem h1 h2 w
   have hc:¬ walkS (folded M) 0 (short w)=0:=by simpa using hC2
   rw [decide_eq_false hc] at hmm
   refine qm ?_
   refine hk_region fun K hK=>runs_eval tab_ok ?_
   simp only [ev0,evA,evB,evP,fl,gp,tab,simprocAttr,reduceCtorEq,reduceIte]
   refine fin_run trivial (hK _ ?_)<;>clear hK<;>clear K
   refine qa (qk (qe (qb (qb (qe (qb ?_))))))
   simp only [Try.results23,enA,ev0,evA,evB,evP,fl,gp,tab,simprocAttr,reduceCtorEq,reduceIte]
   cases hb:inB L M with
   | false=>rfl
   | true =>
    have:=memB_iff.2 (inB_iff.1 hb w hwm)
    rw [this] at hmm; cases hmm
  ·(try simp only [nhs] at hC2)
   have hmm:=within_mem h1 h2 w
   have hc:walkS (folded M) 0 (short w)=0:=by simpa using hC2
   rw [decide_eq_true hc] at hmm
   have hmem:=memB_iff.1 hmm.symm
   refine qh (qd (qa ?_))
   refine hk_region fun K hK=>runs_eval tab_ok ?_
   simp only [ev0,evA,evB,evP,fl,gp,tab,simprocAttr,reduceCtorEq,reduceIte]
   refine fin_run ?_ (hK _ ?_)<;>clear hK<;>clear K
   ·(first|exact trivial|omega|(simp only [In64] at *; omega)|(simp [In64] at *; omega)|(simp_all; done)|skip)
   refine qa ?_
   refine ⟨i + 1,[],⟨by omega,fun k hk=>?_⟩,by omega,by simp only [leq,leA,ev0,evA,evB,evP,fl,gp,tab,simprocAttr,reduceCtorEq,reduceIte]<;>trivial⟩
   by_cases h:k < i
   ·exact q2 k h
   ·obtain rfl:k=i:=by omega
    rw [hw]; exact hmem
 ·(try simp only [nhs] at hC1)
  refine qj (qc (qc (qf (qa (qm ?_)))))
  refine hk_region fun K hK=>runs_eval tab_ok ?_
  simp only [ev0,evA,evB,evP,fl,gp,tab,simprocAttr,reduceCtorEq,reduceIte]
  refine fin_run trivial (hK _ ?_)<;>clear hK<;>clear K
  refine qa (qk ?_)
  simp only [Try.results23,enA,ev0,evA,evB,evP,fl,gp,tab,simprocAttr,reduceCtorEq,reduceIte]
  symm
  refine inB_iff.2 fun w hw=>?_
  obtain ⟨k,hk,rfl⟩:=List.getElem_of_mem hw
  have:=q2 k (by omega)
  rwa [List.getD_eq_getElem?_getD,List.getElem?_eq_getElem hk] at this
end Go.Proofs.Ytneglephfhiamaa

/-
  A slice that is cut to its own length. Conditions: none; a library text.
-/
set_option linter.all false
namespace Go.Pv
open Go.RowKit
section
variable {P:Program} {T:TypeId→Option TI} {s:St}

end
end Go.Pv

/-
  Walks: Clip. Conditions: none.
-/
set_option linter.all false
namespace Go.Proofs.Ytneglephfhiamaa
open Go.Pv

end Go.Proofs.Ytneglephfhiamaa

/-
  Lists of numbers that are not nil where they are empty: cut to their own length, with nothing put behind. Conditions: none; a library text.
-/
set_option linter.all false
namespace Go.Pv
open Go.RowKit

/-- A list of numbers; the empty one is not nil. -/
def nl:List Int→PV
 | []=>.nn []
 | x :: r=>.list (il (x :: r))
theorem nl_cons (l:List Int) (x:Int):nl (l++[x]) = .list (il (l++[x])):=by
 cases l<;>rfl
theorem nl_list {ok:Nat→Prop} {w:World} {l:List Int} {x:Value} (h:Reads ok w (nl l) x):Reads ok w (.list (il l)) x:=by
 cases l with
 | nil=>exact Reads.nn_list h
 | cons=>exact h
section
variable {P:Program} {T:TypeId→Option TI} {s:St}
theorem clipN_does (hT:∀ t ti,T t=some ti→tiOf P t=some ti) {o:Oper} {t:TypeId} {x y z:Operand} (ho:o.op = .slice t x none (some y) (some z)) {ti te:TI} (ht:T t=some ti) {e:TypeId} (hk:ti.kind = .slice e) (hte:T e=some te)
  {l:List Int} (hx:s.ev x = .p (nl l)) {k1 k2:IntKind} (hy:s.ev y = .p (.int k1 l.length)) (hz:s.ev z = .p (.int k2 l.length)):DoesW P o s (.p (.nn (il l))) s.H:=by
 intro C m a w K Q R hK
 have hu:=ti_slice (hT _ _ ht) hk
 have hss:=ti_size (hT _ _ hte) w
 have ey:a.eval y = .int k1 l.length:=eval_int R hy
 have ez:a.eval z = .int k2 l.length:=eval_int R hz
 have hv:=R.ev x
 rw [hx] at hv
 have hv:=hv.p_inv
 obtain ⟨ad,cap,hev,hcap⟩:∃ ad cap,a.eval x = .slice ad l.length cap∧l.length≤cap:=by
  generalize a.eval x=v at hv
  cases l with
  | nil =>
   rcases hv.nn_inv with ⟨_,ad,rfl⟩ | ⟨b,off,sz,vs,rfl,_⟩
   ·exact ⟨_,_,rfl,Nat.le_refl _⟩
   ·exact ⟨_,_,rfl,Nat.le_refl _⟩
  | cons c r =>
   have hil:(il (c :: r)).length=(c :: r).length:=il_length _
   have hv:Reads _ w (.list (il (c :: r))) v:=hv
   generalize hL:il (c :: r)=L at hv hil
   cases hv with
   | list0 a cap h=>cases hil
   | list l b off cap sz vs hb hsz hcap hc hr=>rw [hil] at hcap ⊢; exact ⟨_,_,rfl,hcap⟩
 have hbd:(Instr.sliceBounds true l.length cap none (some (a.eval y)) (some (a.eval z))).run P w = .ok (0,l.length,l.length) w:=by
  simp [Instr.sliceBounds,ey,ez,run_sliceBound _ k2 (l.length:Int) cap _ (Int.natCast_nonneg _) (by omega),run_sliceBound _ k1 (l.length:Int) l.length _ (Int.natCast_nonneg _) (Int.le_refl _)]
 have hrun:(execOp a.eval o).run P w = .ok (.value (.slice (if l.length=0 then ad else ad.map (·.add (0 * te.size))) (l.length - 0) (l.length - 0))) w:=by
  simp [execOp,ho,hev,Instr.sliceAt,Instr.slice,run_underlying hu,hbd,hss]
 refine opR_of_wp (by first|rfl|(rw [ho]; rfl)) ?_
 unfold Oper.wp
 rw [hrun]
 refine hK _ _ _ R (.p _ _ ?_)
 rw [hev] at hv
 cases l with
 | nil =>
  rcases hv.nn_inv with ⟨_,ad2,h⟩ | ⟨b,off,sz,vs,h,_⟩
  ·injection h with h
   subst h
   exact .nn0 _
  ·injection h with h
   subst h
   exact .nn0 _
 | cons c r =>
  have hil:(il (c :: r)).length=(c :: r).length:=il_length _
  have hv:Reads _ w (.list (il (c :: r))) (.slice ad (c :: r).length cap):=hv
  rw [← hil] at hv ⊢
  generalize hL:il (c :: r)=L at hv hil
  have hne:¬ L.length=0:=by rw [hil]; simp
  cases hv with
  | list0 _ _ h=>exact absurd rfl hne
  | list _ b off _ sz vs hb hsz hcap hc hr =>
   rw [if_neg hne,Nat.sub_zero]
   have e:(some (⟨b,off,none⟩:Addr)).map (·.add (0 * te.size))=some ⟨b,off,none⟩:=by simp [Addr.add]
   rw [e]
   exact .nn L b off sz vs hb hsz hc hr
theorem appendNn00_does (hT:∀ t ti,T t=some ti→tiOf P t=some ti) {o:Oper} {t:TypeId} {x y:Operand} (ho:o.op = .call { callee:=.builtin .append,args:=#[x,y],argTypes:=#[t,t] }) {ti te:TI} (ht:T t=some ti) {e:TypeId} (hk:ti.kind = .slice e) (hte:T e=some te) (hsz:te.size=1)
  {l:List PV} (hx:s.ev x = .p (.nn l)) (hy:s.ev y = .p (.nn [])):DoesW P o s (.p (.nn l)) s.H:=by
 intro C m a w K Q R hK
 obtain ⟨dst,op,type,pos,after,guard⟩:=o
 simp only at ho
 subst ho
 have hu:=ti_slice (hT _ _ ht) hk
 obtain ⟨i,d,z,h1,h2,h3,h4,h5,h6,h7,h8⟩:=tiOf_parts (hT _ _ hte)
 have h:=R.ev x
 rw [hx] at h
 have hl:=h.p_inv
 obtain ⟨ad,hv⟩:∃ ad,a.eval x = .slice (some ad) l.length l.length:=by
  generalize a.eval x=v at hl
  rcases hl.nn_inv with ⟨rfl,ad,rfl⟩ | ⟨b,off,sz,vs,rfl,_⟩
  ·exact ⟨ad,rfl⟩
  ·exact ⟨_,rfl⟩
 have hy':=R.ev y
 rw [hy] at hy'
 have hy':=hy'.p_inv
 obtain ⟨ad2,cap2,hv2⟩:∃ ad2 cap2,a.eval y = .slice ad2 0 cap2:=by
  generalize a.eval y=v at hy'
  rcases hy'.nn_inv with ⟨_,ad,rfl⟩ | ⟨b,off,sz,vs,rfl,_⟩
  ·exact ⟨_,_,rfl⟩
  ·exact ⟨_,_,rfl⟩
 have hr:=append_nothing (P:=P) (w:=w) type hu h1 (by rw [h4,hsz]) (ad:=some ad) (n:=l.length) (cap:=l.length) (x:=.slice ad2 0 cap2) src_nil (Nat.le_refl _)
 have hrun:(execOp a.eval { dst:=dst,op:=.call { callee:=.builtin .append,args:=#[x,y],argTypes:=#[t,t] },type:=type,pos:=pos,after:=after,guard:=guard }).run P w = .ok (.value (.slice (some ad) l.length l.length)) w:=by
  simp only [BigFrame.execOp_builtin,BigFrame.builtin_append,List.map_toArray,List.map_cons,List.map_nil,hv,hv2,Sem.run_bind,hr,Result.andThen_ok,Sem.run_pure]
 refine opR_of_wp (by first|rfl|(rw [ho]; rfl)) ?_
 unfold Oper.wp
 rw [hrun]
 rw [hv] at hl
 exact hK _ m w R (.p _ _ hl)
end
end Go.Pv
