/-
  Texts of this proof, one behind the other: what each says stands at its head. Conditions: none.
-/
import Derived.Test.YtboadfahlflmhaaDoorB4
import Derived.Test.YtboadfahlflmhaaDoorB3
import Derived.Maps.RangeRun
import Derived.Lib.SliceRun
import Derived.RangeFuncRecord
import Derived.RangeFuncLeaves

/-
  Walks: the law SubNeedless. Conditions: none.
-/
set_option linter.all false
namespace Go.Proofs.YtboadfahlflmhaaDoor
open Go.Pv

theorem AllS.pos {n e:Nat} {f:Nat→Nat→Nat} {SL:List Nat} (G:Grp n f e) (h:AllS n f e SL):0 < SL.length:=List.length_pos_of_mem (h.all _ G.onp_sub)
theorem AllS.pair {n e:Nat} {f:Nat→Nat→Nat} {SL:List Nat} (h:AllS n f e SL) {i j:Nat} (hij:i < j) (hj:j < SL.length):cmpS (stl (SL.getD i 0)) (stl (SL.getD j 0)) < 0:=by
 have:=(List.pairwise_iff_getElem.1 h.rise) i j (by omega) hj hij
 simpa [List.getD,List.getElem?_eq_getElem hj,List.getElem?_eq_getElem (show i < SL.length by omega)] using this
theorem all_len (n:Nat):(thl n fun _=>true).length=n:=by rw [thl_len]; unfold thn'; rw [List.filter_eq_self.2 fun _ _=>rfl,List.length_range]
theorem len_all {n:Nat} {p:Nat→Bool} (h:¬ (thl n p).length < n):∀ y,y < n→p y=true:=by
 intro y hy
 cases hp:p y with
 | true=>rfl
 | false =>
  exfalso
  have:=mem_lt (n:=n) (p:=fun _=>true) (q:=p) (fun _ _ _=>rfl) (fun hh=>by have:=hh y hy; rw [hp] at this; cases this)
  have e1:(thl n p).length=(mem n p).length:=thl_len _ _
  have e2:(mem n fun _=>true).length=n:=by unfold mem; rw [List.filter_eq_self.2 fun _ _=>rfl,List.length_range]
  omega
theorem AllS.last {n e:Nat} {f:Nat→Nat→Nat} {SL:List Nat} (G:Grp n f e) (h:AllS n f e SL) (hn:n≤60):SL.getD (SL.length - 1) 0=bo n fun _=>true:=by
 have hpos:=h.pos G
 obtain ⟨t,ht,hx⟩:=mem_getDN (h.all _ G.all_sub)
 by_cases htl:t=SL.length - 1
 ·rw [← htl]; exact hx
 ·exfalso
  have hp:=h.pair (i:=t) (j:=SL.length - 1) (by omega) (by omega)
  obtain ⟨p,_,hpl⟩:=h.subs _ (getD_memN (show SL.length - 1 < SL.length by omega))
  rw [hx,hpl,stl_bo hn,stl_bo hn,cmpS_lt,all_len] at hp
  have:=thl_le n p
  rcases hp with hp | ⟨hp,hp2⟩
  ·omega
  ·have:thl n p=thl n fun _=>true:=thl_congr fun y hy=>len_all (by omega) y hy
   rw [this,cmpL_self] at hp2; omega
theorem ovr_bo {n:Nat} (hn:n≤60) (p q:Nat→Bool):ovr (bo n p) (bo n q)=true↔(¬ ∀ a,a < n→p a=q a)∧∀ a,a < n→p a=true→q a=true:=by
 unfold ovr
 rw [Bool.and_eq_true,decide_eq_true_eq,decide_eq_true_eq,andn_zero (bo_lt64 hn p) (bo_lt64 hn q)]
 refine and_congr (not_congr ⟨fun h a ha=>bo_inj h ha,fun h=>bo_congr h⟩) ⟨fun h a ha hp=>?_,fun h i hi=>?_⟩
 ·have:=h a (by rw [bo_bit]; simp [ha,hp])
  rw [bo_bit] at this; simpa [ha] using this
 ·rw [bo_bit,Bool.and_eq_true,decide_eq_true_eq] at hi ⊢
  exact ⟨hi.1,h i hi.1 hi.2⟩

section
variable {n e:Nat} {m:List Int}
/-- A subgroup that is not all stands in one that nothing but all stands over. -/
theorem AllS.max {f:Nat→Nat→Nat} {SL:List Nat} (G:Grp n f e) (h:AllS n f e SL) (hn:n≤60) {r:Nat→Bool} (hr:Sub n f e r) (hne:¬ ∀ a,a < n→r a=true) :
  ∃ i p,i < SL.length - 1∧SL.getD i 0=bo n p∧Sub n f e p∧mxr SL i=true∧(∀ a,a < n→r a=true→p a=true)∧¬ ∀ a,a < n→p a=true:=by
 have hpos:=h.pos G
 have hlast:=h.last G hn
 have notlast:∀ i p,i < SL.length→SL.getD i 0=bo n p→(¬ ∀ a,a < n→p a=true)→i < SL.length - 1:=fun i p hi hx hp=>by
  by_cases hil:i=SL.length - 1
  ·exfalso
   rw [hil,hlast] at hx
   exact hp fun a ha=>(bo_inj hx ha).symm
  ·omega
 have go:∀ c i p,SL.length - i≤c→i < SL.length→SL.getD i 0=bo n p→Sub n f e p→(∀ a,a < n→r a=true→p a=true)→(¬ ∀ a,a < n→p a=true) →
   ∃ i p,i < SL.length - 1∧SL.getD i 0=bo n p∧Sub n f e p∧mxr SL i=true∧(∀ a,a < n→r a=true→p a=true)∧¬ ∀ a,a < n→p a=true:=by
  intro c
  induction c with
  | zero=>intro i p hc hi; omega
  | succ c ih =>
   intro i p hc hi hx hp hrp hpn
   cases hm:mxr SL i with
   | true=>exact ⟨i,p,notlast i p hi hx hpn,hx,hp,hm,hrp,hpn⟩
   | false =>
    unfold mxr at hm
    rw [Bool.not_eq_false',decide_eq_true_eq] at hm
    obtain ⟨j,j1,j2,j3⟩:=hm
    obtain ⟨q,hq,hqx⟩:=h.subs _ (getD_memN (show j < SL.length by omega))
    rw [hx,hqx,ovr_bo hn] at j3
    refine ih j q (by omega) (by omega) hqx hq (fun a ha h1=>j3.2 a ha (hrp a ha h1)) fun hall=>?_
    have:j=SL.length - 1:=by
     by_cases hjl:j < SL.length - 1
     ·exfalso
      have hpq:=h.pair (i:=j) (j:=SL.length - 1) hjl (by omega)
      rw [hlast,hqx,bo_congr (q:=fun _=>true) (fun a ha=>hall a ha)] at hpq
      exact cmpS_self _ hpq
     ·omega
    omega
 obtain ⟨i,hi,hx⟩:=mem_getDN (h.all r hr)
 exact go _ i r (Nat.le_refl _) hi hx hr (fun a _ h=>h) hne
end
end Go.Proofs.YtboadfahlflmhaaDoor

/-
  All subgroups as the document has them: from cyclic ones on, by what two make; put in order. Conditions: none.
-/
set_option linter.all false
namespace Go.Proofs.YtboadfahlflmhaaDoor
open Go.Pv

end Go.Proofs.YtboadfahlflmhaaDoor

/-
  A call that takes a row of the call's own for good. Conditions: none; a library text.
-/
set_option linter.all false
namespace Go.Pv
open Go.RowKit

section
variable {P:Program}
end
end Go.Pv

/-
  Sylow's subgroups, as the program has them: look, Cauchy, one. Conditions: none.
-/
set_option linter.all false
namespace Go.Proofs.YtboadfahlflmhaaDoor
open Go.Pv

section
variable {n e P:Nat} {m:List Int}
end
end Go.Proofs.YtboadfahlflmhaaDoor

/-
  Sylow's subgroups, as the program grows one. Conditions: none.
-/
set_option linter.all false
namespace Go.Proofs.YtboadfahlflmhaaDoor
open Go.Pv

section
variable {n e P:Nat} {m:List Int}
end
end Go.Proofs.YtboadfahlflmhaaDoor

/-
  Plain law: conjugated sets in a list that rises. Conditions: none.
-/
set_option linter.all false
namespace Go.Proofs.YtboadfahlflmhaaDoor
open Go.Pv

/-- All sets that a set is conjugated to, in their order. -/
structure SyS (n:Nat) (f:Nat→Nat→Nat) (e:Nat) (s:Nat→Bool) (SL:List Nat):Prop where
 all:∀ x,x∈SL↔∃ a,a < n∧x=bo n (shf n f e s a)
 rise:SL.Pairwise fun x y=>cmpL (stl x) (stl y) < 0
section
variable {n e:Nat} {f:Nat→Nat→Nat} {s:Nat→Bool} {SL:List Nat}
theorem SyS.nodup (h:SyS n f e s SL):SL.Nodup:=h.rise.imp fun {x y} hxy he=>by
 subst he; rw [cmpL_self] at hxy; exact absurd hxy (by decide)
theorem SyS.pos (h:SyS n f e s SL) (G:Grp n f e):0 < SL.length:=List.length_pos_of_mem ((h.all _).2 ⟨e,G.el,rfl⟩)
theorem SyS.len (h:SyS n f e s SL):SL.length≤n:=by
 have h1:=List.Nodup.length_le_of_subset h.nodup (l₂:=(List.range n).map fun a=>bo n (shf n f e s a)) fun x hx=>by
  obtain ⟨a,h1,h2⟩:=(h.all x).1 hx
  exact List.mem_map.2 ⟨a,List.mem_range.2 h1,h2.symm⟩
 simpa using h1
theorem SyS.num (h:SyS n f e s SL) (G:Grp n f e) (hs:Sub n f e s):SL.length * (mem n (nzr n f e s)).length=n:=
 G.conj_num hs (code:=bo n) (fun p q=>⟨fun he y hy=>by
  have:=congrArg (fun x=>Nat.testBit x y) he
  simpa [bo_bit,hy] using this,fun he=>bo_congr he⟩) h.nodup h.all
end
end Go.Proofs.YtboadfahlflmhaaDoor

/-
  A loop over a map of one's own: its entries come in whatever order. Conditions: none; a library text.
-/
set_option linter.all false
namespace Go.Pv
open Go.RowKit

section
variable {P:Program} {C:Ctx} {m:Map} {s:St} {tmps:Array Value} {w:World}

/-- The frame where some blocks are left alone. -/
def holdC (C:Ctx) (X:Nat→Prop) (w:World):Ctx:=⟨fun b=>C.okA b∨C.B b,fun b=>C.B b∧¬ X b,w,C.anc⟩

theorem holdC_ok (C:Ctx) (X:Nat→Prop) (w0:World) (m:Map) (H:Heap) (w:World):OK (holdC C X w0) m H w=OK C m H w:=by
 funext b
 unfold OK holdC
 refine propext ⟨fun h=>⟨?_,h.2⟩,fun h=>⟨.inl h.1,h.2⟩⟩
 rcases h.1 with h1 | h1
 ·exact h1
 ·exact .inr h1.1

theorem Rel.hold (R:Rel C m s tmps w) (X:Nat→Prop) (hX:∀ b,X b→b < w.heap.size∧∀ cur e sh,w.heap[b]? ≠ some (.cells cur e sh))
  (hmp:∀ (k:Nat) (kk:IntKind) (d:Int→Bool) (v:Int→PV) (l:Loc),s.H[k]? = some (Blk.mp kk d v)→m k=some l→¬ X l.g) (hlp:∀ b,X b→∀ rr,w.heap[b]? ≠ some (.loop rr)):Rel (holdC C X w) m s tmps w:=by
 have e:=holdC_ok C X w m s.H w
 refine ⟨by rw [e]; exact R.laid,BelowP.refl _ _,fun b hb=>⟨R.base b hb,fun hx=>by have:=(hX b hx).1; omega⟩,R.size,R.inj,fun k c h=>?_,by rw [e]; exact R.fro,by rw [e]; exact R.slot,fun k kk d v h=>?_,R.mp.2.1,R.mp.2.2.1,fun k rr h=>(let ⟨l,a1,a2,a3⟩:=R.mp.2.2.2.1 k rr h; ⟨l,a1,⟨a2,fun hx=>hlp _ hx _ a3⟩,a3⟩),R.mp.2.2.2.2⟩
 ·rw [e]
  rcases R.blk k c h with h1 | ⟨l,cur,ee,a1,a2,a3,a4⟩
  ·exact .inl h1
  ·exact .inr ⟨l,cur,ee,a1,⟨a2,fun hx=>(hX _ hx).2 _ _ _ a3⟩,a3,a4⟩
 ·rw [e]
  obtain ⟨l,ar,clk,vs,a1,a2,a3⟩:=R.mp.1 k kk d v h
  exact ⟨l,ar,clk,vs,a1,⟨a2,hmp k kk d v l h a1⟩,a3⟩

theorem BelowP.monoB {B B' : Nat→Prop} {a b:World} (h:BelowP B a b) (hB:∀ k,B k→B' k):BelowP B' a b:=
 ⟨h.os,h.tape,h.output,h.size,fun k hk=>h.block k fun hh=>hk (hB k hh),h.dr⟩

theorem Rel.unhold {X:Nat→Prop} {w0:World} (R:Rel (holdC C X w0) m s tmps w) (hb:BelowP C.B C.w0 w0):Rel C m s tmps w:=by
 have e:=holdC_ok C X w0 m s.H w
 have hB:∀ b,(holdC C X w0).B b→C.B b:=fun b h=>h.1
 refine ⟨by rw [← e]; exact R.laid,hb.trans (R.below.monoB hB),fun b h=>hB b (R.base b h),R.size,R.inj,fun k c h=>?_,by rw [← e]; exact R.fro,by rw [← e]; exact R.slot,fun k kk d v h=>?_,R.mp.2.1,R.mp.2.2.1,fun k rr h=>(let ⟨l,a1,a2,a3⟩:=R.mp.2.2.2.1 k rr h; ⟨l,a1,hB _ a2,a3⟩),R.mp.2.2.2.2⟩
 ·rw [← e]
  rcases R.blk k c h with h1 | ⟨l,cur,ee,a1,a2,a3,a4⟩
  ·exact .inl h1
  ·exact .inr ⟨l,cur,ee,a1,hB _ a2,a3,a4⟩
 ·rw [← e]
  obtain ⟨l,ar,clk,vs,a1,a2,a3⟩:=R.mp.1 k kk d v h
  exact ⟨l,ar,clk,vs,a1,hB _ a2,a3⟩

/-! ### The loop -/

end
end Go.Pv

/-
  All of Sylow's subgroups, as the program has them. Conditions: none.
-/
set_option linter.all false
namespace Go.Proofs.YtboadfahlflmhaaDoor
open Go.Pv

def sql (SL:List Nat):List (List Int):=SL.map stl
theorem sql_get {SL:List Nat} {i:Nat} (hi:i < SL.length):(sql SL).getD i []=stl (SL.getD i 0):=by
 simp [sql,List.getD,List.getElem?_eq_getElem hi]
def pvi:PV→Int
 | .int _ x=>x
 | _=>0
theorem pvi_il (v:List Int):(il v).map pvi=v:=by
 unfold il
 rw [List.map_map]
 exact (List.map_congr_left fun _ _=>rfl).trans (List.map_id v)
theorem mem_ll {x:PV} {ls:List (List Int)} (h:x∈ll ls):∃ v∈ls,x = .list (il v):=by
 obtain ⟨v,hv,rfl⟩:=List.mem_map.1 h
 exact ⟨v,hv,rfl⟩

section
variable {n e P:Nat} {m:List Int}
end
end Go.Proofs.YtboadfahlflmhaaDoor

/-
  What all of Sylow's subgroups have; the document's example; numbers of a power of p. Conditions: none.
-/
set_option linter.all false
namespace Go.Proofs.YtboadfahlflmhaaDoor
open Go.Pv

section
variable {n e P:Nat} {m:List Int}
theorem getD_memK {L:List Nat} {j:Nat} (hj:j < L.length):L.getD j 0∈L:=by
 rw [List.getD_eq_getElem?_getD,List.getElem?_eq_getElem hj]; exact List.getElem_mem hj
theorem SyS.at {f:Nat→Nat→Nat} {s:Nat→Bool} {SL:List Nat} (h:SyS n f e s SL) (hn:n≤60) {i:Nat} (hi:i < SL.length):∃ a,a < n∧SL.getD i 0=bo n (shf n f e s a)∧(sql SL).getD i []=thl n (shf n f e s a):=by
 obtain ⟨a,h1,h2⟩:=(h.all _).1 (getD_memK hi)
 exact ⟨a,h1,h2,by rw [sql_get hi,h2,stl_bo hn]⟩
theorem SyS.idx {f:Nat→Nat→Nat} {s:Nat→Bool} {SL:List Nat} (h:SyS n f e s SL) (hn:n≤60) {a:Nat} (ha:a < n):∃ i,i < SL.length∧SL.getD i 0=bo n (shf n f e s a)∧(sql SL).getD i []=thl n (shf n f e s a):=by
 obtain ⟨i,h1,h2⟩:=List.getElem_of_mem ((h.all _).2 ⟨a,ha,rfl⟩)
 have h3:SL.getD i 0=bo n (shf n f e s a):=by rw [List.getD_eq_getElem?_getD,List.getElem?_eq_getElem h1,Option.getD_some,h2]
 exact ⟨i,h1,h3,by rw [sql_get h1,h3,stl_bo hn]⟩
end
end Go.Proofs.YtboadfahlflmhaaDoor

/-
  What all of Sylow's subgroups have: what the laws need. Conditions: none.
-/
set_option linter.all false
namespace Go.Proofs.YtboadfahlflmhaaDoor
open Go.Pv

section
variable {n e P:Nat} {f:Nat→Nat→Nat} {s:Nat→Bool} {SL:List Nat}
theorem Grp.shf_shf (G:Grp n f e) {a b y:Nat} (ha:a < n) (hb:b < n) (hy:y < n):shf n f e (shf n f e s a) b y=shf n f e s (f a b) y:=by
 have ib:=G.iv_lt hb
 rw [G.shf_back hb hy,G.shf_back ha (G.cjr_lt hy ib),G.shf_back (G.cl _ _ ha hb) hy,G.iv_prod ha hb,G.cjr_cjr hy ib (G.iv_lt ha)]
theorem SyS.shf (h:SyS n f e s SL) (G:Grp n f e) {a:Nat} (ha:a < n):SyS n f e (Go.Proofs.YtboadfahlflmhaaDoor.shf n f e s a) SL where
 rise:=h.rise
 all x:=by
  rw [h.all x]
  constructor
  ·rintro ⟨b,hb,rfl⟩
   exact ⟨f (iv n f e a) b,G.cl _ _ (G.iv_lt ha) hb,bo_congr fun y hy=>by
    rw [G.shf_shf ha (G.cl _ _ (G.iv_lt ha) hb) hy,← G.assoc a _ b ha (G.iv_lt ha) hb,G.mul_iv ha,G.one_l b hb]⟩
  ·rintro ⟨b,hb,rfl⟩
   exact ⟨f a b,G.cl _ _ ha hb,bo_congr fun y hy=>G.shf_shf ha hb hy⟩
theorem bo_eqs {p q:Nat→Bool} (h:bo n p=bo n q):∀ y,y < n→p y=q y:=fun y hy=>by
 have:=congrArg (fun x=>Nat.testBit x y) h
 simpa [bo_bit,hy] using this
/-- One alone is normal. -/
theorem SyS.one_nml (h:SyS n f e s SL) (G:Grp n f e) (hs:Sub n f e s) (hp:0 < SL.length):SL.length=1↔Nml n f e s:=by
 have hse:∀ y,y < n→Go.Proofs.YtboadfahlflmhaaDoor.shf n f e s e y=s y:=fun y hy=>by rw [G.shf_back G.el hy,G.iv_one,G.cjr_e hy]
 constructor
 ·intro h1
  obtain ⟨x,hx⟩:=List.length_eq_one_iff.1 h1
  have hm:∀ a,a < n→bo n (Go.Proofs.YtboadfahlflmhaaDoor.shf n f e s a)=x:=fun a ha=>by
   have:=(h.all _).2 ⟨a,ha,rfl⟩
   rw [hx,List.mem_singleton] at this; exact this
  refine G.nml_iff.2 fun a ha=>nzr_iff.2 fun y hy=>?_
  rw [bo_eqs ((hm a ha).trans (hm e G.el).symm) y hy,hse y hy]
 ·intro h1
  have hall:∀ x∈SL,x=bo n s:=fun x hx=>by
   obtain ⟨a,ha,rfl⟩:=(h.all x).1 hx
   exact bo_congr fun y hy=>nzr_iff.1 (G.nml_iff.1 h1 a ha) y hy
  have:=List.Nodup.length_le_of_subset h.nodup (l₂:=[bo n s]) fun x hx=>by rw [List.mem_singleton]; exact hall x hx
  simp at this
  omega
end

section
variable {n e P:Nat} {m:List Int}
end
end Go.Proofs.YtboadfahlflmhaaDoor

/-
  Walks: the law SylowAll. Conditions: none.
-/
set_option linter.all false
namespace Go.Proofs.YtboadfahlflmhaaDoor
open Go.Pv

section
variable {n e P:Nat} {m:List Int}
end
end Go.Proofs.YtboadfahlflmhaaDoor

/-
  All subgroups as the document has them. Conditions: none.
-/
set_option linter.all false
namespace Go.Proofs.YtboadfahlflmhaaDoor
open Go.Pv

section
variable {n e:Nat} {m:List Int}
/-- Lists of codes of subgroups. -/
structure SgL (n:Nat) (f:Nat→Nat→Nat) (e:Nat) (L:List Nat):Prop where
 nodup:L.Nodup
 subs:∀ x∈L,∃ p,Sub n f e p∧x=bo n p
theorem SgL.len {f:Nat→Nat→Nat} {L:List Nat} (h:SgL n f e L) (hn:n≤24):L.length≤2 ^ n∧2 ^ n≤16777216:=
 ⟨nodup_lt h.nodup fun x hx=>by obtain ⟨p,_,rfl⟩:=h.subs x hx; exact bo_lt n p,Nat.le_trans (Nat.pow_le_pow_right (by omega) hn) (by decide)⟩
theorem SgL.mem {f:Nat→Nat→Nat} {L:List Nat} (h:SgL n f e L) (hn:n≤24) (p:Nat→Bool):thl n p∈sll L↔bo n p∈L:=by
 constructor
 ·intro hm
  obtain ⟨x,hx,hxp⟩:=List.mem_map.1 hm
  obtain ⟨q,_,rfl⟩:=h.subs x hx
  rw [stl_bo (by omega)] at hxp
  have:bo n q=bo n p:=bo_congr fun a ha=>thl_inj hxp ha
  rwa [this] at hx
 ·exact fun hm=>List.mem_map.2 ⟨_,hm,stl_bo (by omega) p⟩
theorem SgL.put {f:Nat→Nat→Nat} {L:List Nat} (h:SgL n f e L) {p:Nat→Bool} (hp:Sub n f e p) (hin:bo n p ∉ L):SgL n f e (L++[bo n p]):=
 ⟨List.nodup_append.2 ⟨h.nodup,by simp,fun x hx y hy he=>by rw [List.mem_singleton] at hy; rw [he,hy] at hx; exact hin hx⟩,fun x hx=>by
  rcases List.mem_append.1 hx with hx | hx
  ·exact h.subs x hx
  ·rw [List.mem_singleton] at hx; exact ⟨p,hp,hx⟩⟩
/-- What two lists make is there. -/
def Jn (n:Nat) (f:Nat→Nat→Nat) (e:Nat) (x y:Nat) (M:List Nat):Prop:=∀ p c:Nat→Bool,x=bo n p→y=bo n c→bo n (gn n f e (oru2 p c))∈M
theorem gn_congr {f:Nat→Nat→Nat} {p q:Nat→Bool} (h:∀ a,a < n→p a=q a):bo n (gn n f e p)=bo n (gn n f e q):=bo_congr fun a ha=>by
 rw [Bool.eq_iff_iff,gn_iff _ a ha,gn_iff _ a ha]
 exact Gen.congr h
theorem bo_eq2 {p q:Nat→Bool} (h:bo n p=bo n q):∀ y,y < n→p y=q y:=fun y hy=>by
 have:=congrArg (fun x=>Nat.testBit x y) h
 simpa [bo_bit,hy] using this
theorem Jn.of {f:Nat→Nat→Nat} {x y:Nat} {M:List Nat} {p c:Nat→Bool} (hx:x=bo n p) (hy:y=bo n c) (h:bo n (gn n f e (oru2 p c))∈M):Jn n f e x y M:=fun p' c' h1 h2=>by
 have:bo n (gn n f e (oru2 p' c'))=bo n (gn n f e (oru2 p c)):=gn_congr fun a ha=>by
  unfold oru2
  rw [bo_eq2 (h1.symm.trans hx) a ha,bo_eq2 (h2.symm.trans hy) a ha]
 rw [this]; exact h
theorem Jn.mono {f:Nat→Nat→Nat} {x y:Nat} {M M' : List Nat} (h:Jn n f e x y M) (hs:∀ z∈M,z∈M'):Jn n f e x y M':=fun p c h1 h2=>hs _ (h p c h1 h2)
theorem SgL.at {f:Nat→Nat→Nat} {L:List Nat} (h:SgL n f e L) (hn:n≤60) {i:Nat} (hi:i < L.length):∃ p,Sub n f e p∧L.getD i 0=bo n p∧(sll L).getD i []=thl n p:=by
 obtain ⟨p,hp,hx⟩:=h.subs _ (getD_memN hi)
 exact ⟨p,hp,hx,by rw [sll_get hi,hx,stl_bo hn]⟩
end
end Go.Proofs.YtboadfahlflmhaaDoor

/-
  Walks: maps of groups: the fault of a map. Conditions: none.
-/
set_option linter.all false
namespace Go.Proofs.YtboadfahlflmhaaDoor
open Go.Pv

/-- The fault of two groups. -/
def tg (N:Int) (m:List Int) (N' : Int) (m' : List Int):Int × Int:=if (gf N m).1=0 then gf N' m' else gf N m

theorem tg_zero {N N' : Int} {m m' : List Int} (h:(tg N m N' m').1=0):(gf N m).1=0∧(gf N' m').1=0:=by
 unfold tg at h
 by_cases h1:(gf N m).1=0
 ·rw [if_pos h1] at h; exact ⟨h1,h⟩
 ·rw [if_neg h1] at h; exact absurd h h1

theorem homBoth_c (N:Int) (m:List Int) (N' : Int) (m' : List Int) (hm:m.length≤1000000000000000) (hm' : m'.length≤1000000000000000):FnC Tryd.prog 92 [gp N m,gp N' m'] (fl (tg N m N' m')):=by
 refine fnc_of tab_ok Tryd.func92 rfl (by kernel_rfl) (by rw [Tryd.ntmps92]; exact Nat.le_add_left 2 _) ?_; rw [Tryd.ntmps92]
 refine qm ?_
 refine hk_region fun K hK=>runs_eval tab_ok ?_
 simp only [ev0,evA,evB,evP,fl,gp,tab,simprocAttr,reduceCtorEq,reduceIte]
 refine fin_run ?_ (hK _ ?_)<;>clear hK<;>clear K
 ·(first|exact trivial|omega|(simp only [In64] at *; omega)|(simp [In64] at *; omega)|(simp_all; done)|skip)
 refine qa (qm (qm ?_))
 refine hk_region fun K hK=>runs_eval tab_ok ?_
 simp only [ev0,evA,evB,evP,fl,gp,tab,simprocAttr,reduceCtorEq,reduceIte]
 refine fin_stop trivial (runs_call (check_c N m hm) rfl rfl rfl (by simp only [dstOk,Nat.reduceLT]) (by repeat (first|exact trivial|constructor)) (runs_eval tab_ok ?_))
 simp only [ev0,evA,evB,evP,fl,gp,tab,simprocAttr,reduceCtorEq,reduceIte]
 refine fin_run ?_ (hK _ ?_)<;>clear hK<;>clear K
 ·(first|exact trivial|omega|(simp only [In64] at *; omega)|(simp [In64] at *; omega)|(simp_all; done)|skip)
 refine qa (qm ?_)
 refine hk_region fun K hK=>runs_eval tab_ok ?_
 simp only [ev0,evA,evB,evP,fl,gp,tab,simprocAttr,reduceCtorEq,reduceIte]
 refine fin_run ?_ (hK _ ?_)<;>clear hK<;>clear K
 ·(first|exact trivial|omega|(simp only [In64] at *; omega)|(simp [In64] at *; omega)|(simp_all; done)|skip)
 refine qa ?_
 refine hk_cond rfl (fun hC1=>?_) (fun hC1=>?_)
 ·(try simp only [nhs] at hC1)
  refine qm ?_
  refine hk_region fun K hK=>runs_eval tab_ok ?_
  simp only [ev0,evA,evB,evP,fl,gp,tab,simprocAttr,reduceCtorEq,reduceIte]
  refine fin_run ?_ (hK _ ?_)<;>clear hK<;>clear K
  ·(first|exact trivial|omega|(simp only [In64] at *; omega)|(simp [In64] at *; omega)|(simp_all; done)|skip)
  refine qa (qk (qb ?_))
  simp only [Tryd.results92,enA,ev0,evA,evB,evP,fl,gp,tab,simprocAttr,reduceCtorEq,reduceIte]
  all_goals (unfold tg; rw [if_neg hC1]; simp)
 ·(try simp only [nhs] at hC1)
  refine qh (qa (qm ?_))
  refine hk_region fun K hK=>runs_eval tab_ok ?_
  simp only [ev0,evA,evB,evP,fl,gp,tab,simprocAttr,reduceCtorEq,reduceIte]
  refine fin_stop trivial (runs_call (check_c N' m' hm') rfl rfl rfl (by simp only [dstOk,Nat.reduceLT]) (by repeat (first|exact trivial|constructor)) (runs_eval tab_ok ?_))
  simp only [ev0,evA,evB,evP,fl,gp,tab,simprocAttr,reduceCtorEq,reduceIte]
  refine fin_run ?_ (hK _ ?_)<;>clear hK<;>clear K
  ·(first|exact trivial|omega|(simp only [In64] at *; omega)|(simp [In64] at *; omega)|(simp_all; done)|skip)
  refine qa (qk ?_)
  simp only [Tryd.results92,enA,ev0,evA,evB,evP,fl,gp,tab,simprocAttr,reduceCtorEq,reduceIte]
  all_goals (unfold tg; rw [if_pos hC1]; simp)

theorem homFlt_c (c a:Int):FnC Tryd.prog 77 [.int .i64 c,.int .i64 a] (fl (c,a)):=by
 refine fnc_of tab_ok Tryd.func77 rfl (by kernel_rfl) (by rw [Tryd.ntmps77]; exact Nat.le_add_left 2 _) ?_; rw [Tryd.ntmps77]
 refine qm ?_
 refine hk_region fun K hK=>runs_eval tab_ok ?_
 simp only [ev0,evA,evB,evP,fl,gp,tab,simprocAttr,reduceCtorEq,reduceIte]
 refine fin_run ?_ (hK _ ?_)<;>clear hK<;>clear K
 ·(first|exact trivial|omega|(simp only [In64] at *; omega)|(simp [In64] at *; omega)|(simp_all; done)|skip)
 refine qa (qm ?_)
 refine hk_region fun K hK=>runs_eval tab_ok ?_
 simp only [ev0,evA,evB,evP,fl,gp,tab,simprocAttr,reduceCtorEq,reduceIte]
 refine fin_run ?_ (hK _ ?_)<;>clear hK<;>clear K
 ·(first|exact trivial|omega|(simp only [In64] at *; omega)|(simp [In64] at *; omega)|(simp_all; done)|skip)
 refine qa (qk ?_)
 simp only [Tryd.results77,enA,ev0,evA,evB,evP,fl,gp,tab,simprocAttr,reduceCtorEq,reduceIte]
 all_goals (rfl)

/-- The value of a map. -/
def hv (l:List Int) (a:Nat):Nat:=(l.getD a 0).toNat
def hgood (m m' l:List Int) (n n' a:Nat):Prop:=∀ b,b < n→op m' n' (hv l a) (hv l b)=hv l (op m n a b)
instance (m m' l:List Int) (n n' a:Nat):Decidable (hgood m m' l n n' a):=by unfold hgood; infer_instance
def homf2 (m m' l:List Int) (n n' : Nat):Int × Int:=
 match fst' (fun a=>decide (¬ hgood m m' l n n' a)) n with
 | some a=>(7,(a:Int))
 | none=>(0,0)
/-- THE FAULT of a map of groups. -/
def homf (N:Int) (m:List Int) (N' : Int) (m' l:List Int):Int × Int:=
 if ¬ (tg N m N' m').1=0 then tg N m N' m'
 else if ¬ (l.length:Int)=N then (8,0)
 else match fst' (bad N' l) l.length with
  | some i=>(3,(i:Int))
  | none=>homf2 m m' l N.toNat N'.toNat

theorem homf_tg {N N' : Int} {m m' l:List Int} (h:¬ (tg N m N' m').1=0):homf N m N' m' l=tg N m N' m':=by unfold homf; rw [if_pos h]
theorem homf_8 {N N' : Int} {m m' l:List Int} (h:(tg N m N' m').1=0) (h2:¬ (l.length:Int)=N):homf N m N' m' l=(8,0):=by unfold homf; rw [if_neg (by simpa using h),if_pos h2]
theorem homf_3 {N N' : Int} {m m' l:List Int} (h:(tg N m N' m').1=0) (h2:(l.length:Int)=N) {i:Nat} (hi:i < l.length) (hb:bad N' l i=true) (hj:∀ j,j < i→bad N' l j=false):homf N m N' m' l=(3,(i:Int)):=by
 unfold homf; rw [if_neg (by simpa using h),if_neg (by simpa using h2),fst_some hi hb hj]
theorem homf_2 {n n' : Nat} {m m' l:List Int} (h:(tg n m n' m').1=0) (h2:(l.length:Int)=n) (hj:∀ j,j < l.length→bad n' l j=false):homf n m n' m' l=homf2 m m' l n n':=by
 unfold homf; rw [if_neg (by simpa using h),if_neg (by simpa using h2),fst_none hj]
 rfl
theorem homf2_7 {n n' : Nat} {m m' l:List Int} {a:Nat} (ha:a < n) (hn:¬ hgood m m' l n n' a) (hj:∀ j,j < a→hgood m m' l n n' j):homf2 m m' l n n' = (7,(a:Int)):=by
 have:fst' (fun a=>decide (¬ hgood m m' l n n' a)) n=some a:=fst_some ha (decide_eq_true hn) fun j h=>decide_eq_false fun h'=>h' (hj j h)
 unfold homf2; rw [this]
theorem homf2_0 {n n' : Nat} {m m' l:List Int} (hj:∀ j,j < n→hgood m m' l n n' j):homf2 m m' l n n' = (0,0):=by
 have:fst' (fun a=>decide (¬ hgood m m' l n n' a)) n=none:=fst_none fun j h=>decide_eq_false fun h'=>h' (hj j h)
 unfold homf2; rw [this]
theorem hv_at {n' : Nat} {l:List Int} {a:Nat} (h:bad n' l a=false):l.getD a 0=((hv l a:Nat):Int)∧hv l a < n':=by
 have:=of_decide_eq_false h
 unfold hv
 omega

/-- A map of groups. -/
def Hom (m m' l:List Int) (n n' : Nat):Prop:=l.length=n∧(∀ a,a < n→l.getD a 0=((hv l a:Nat):Int)∧hv l a < n')∧∀ a,a < n→hgood m m' l n n' a
theorem homf_ok {N N' : Int} {m m' l:List Int} (h:(homf N m N' m' l).1=0):∃ n e n' e' : Nat,GT N m n e∧GT N' m' n' e'∧Hom m m' l n n'∧homf N m N' m' l=(0,0):=by
 by_cases h1:(tg N m N' m').1=0
 ·obtain ⟨z1,z2⟩:=tg_zero h1
  obtain ⟨n,e,g,_⟩:=gf_ok z1
  obtain ⟨n',e',g',_⟩:=gf_ok z2
  obtain rfl:=g.1
  obtain rfl:=g'.1
  by_cases h2:(l.length:Int)=n
  ·cases h3:fst' (bad n' l) l.length with
   | some i =>
    obtain ⟨s1,s2,s3⟩:=fst_spec h3
    rw [homf_3 h1 h2 s1 s2 s3] at h
    simp at h
   | none =>
    have hb:=fst_spec0 h3
    rw [homf_2 h1 h2 hb] at h ⊢
    cases h4:fst' (fun a=>decide (¬ hgood m m' l n n' a)) n with
    | some a =>
     unfold homf2 at h
     rw [h4] at h
     simp at h
    | none =>
     have hg:∀ a,a < n→hgood m m' l n n' a:=fun a ha=>Classical.not_not.1 (of_decide_eq_false (fst_spec0 h4 a ha))
     exact ⟨n,e,n',e',g,g',⟨by omega,fun a ha=>hv_at (hb a (by omega)),hg⟩,homf2_0 hg⟩
  ·rw [homf_8 h1 h2] at h; simp at h
 ·rw [homf_tg h1] at h; exact absurd h h1

set_option maxHeartbeats 2000000 in
theorem homCheck_c (N:Int) (m:List Int) (N' : Int) (m' l:List Int) (hm:m.length≤1000000000000000) (hm' : m'.length≤1000000000000000):FnC Tryd.prog 101 [gp N m,gp N' m',.list (il l)] (fl (homf N m N' m' l)):=by
 refine fnc_of tab_ok Tryd.func101 rfl (by kernel_rfl) (by rw [Tryd.ntmps101]; exact Nat.le_add_left 3 _) ?_; rw [Tryd.ntmps101]
 refine qm ?_
 refine hk_region fun K hK=>runs_eval tab_ok ?_
 simp only [ev0,evA,evB,evP,fl,gp,tab,simprocAttr,reduceCtorEq,reduceIte]
 refine fin_run ?_ (hK _ ?_)<;>clear hK<;>clear K
 ·(first|exact trivial|omega|(simp only [In64] at *; omega)|(simp [In64] at *; omega)|(simp_all; done)|skip)
 refine qa (qm (qm ?_))
 refine hk_region fun K hK=>runs_eval tab_ok ?_
 simp only [ev0,evA,evB,evP,fl,gp,tab,simprocAttr,reduceCtorEq,reduceIte]
 refine fin_stop trivial (runs_call (homBoth_c N m N' m' hm hm') rfl rfl rfl (by simp only [dstOk,Nat.reduceLT]) (by repeat (first|exact trivial|constructor)) (runs_eval tab_ok ?_))
 simp only [ev0,evA,evB,evP,fl,gp,tab,simprocAttr,reduceCtorEq,reduceIte]
 refine fin_run ?_ (hK _ ?_)<;>clear hK<;>clear K
 ·(first|exact trivial|omega|(simp only [In64] at *; omega)|(simp [In64] at *; omega)|(simp_all; done)|skip)
 refine qa (qm ?_)
 refine hk_region fun K hK=>runs_eval tab_ok ?_
 simp only [ev0,evA,evB,evP,fl,gp,tab,simprocAttr,reduceCtorEq,reduceIte]
 refine fin_run ?_ (hK _ ?_)<;>clear hK<;>clear K
 ·(first|exact trivial|omega|(simp only [In64] at *; omega)|(simp [In64] at *; omega)|(simp_all; done)|skip)
 refine qa ?_
 refine hk_cond rfl (fun hC1=>?_) (fun hC1=>?_)
 ·(try simp only [nhs] at hC1)
  refine qm ?_
  refine hk_region fun K hK=>runs_eval tab_ok ?_
  simp only [ev0,evA,evB,evP,fl,gp,tab,simprocAttr,reduceCtorEq,reduceIte]
  refine fin_run ?_ (hK _ ?_)<;>clear hK<;>clear K
  ·(first|exact trivial|omega|(simp only [In64] at *; omega)|(simp [In64] at *; omega)|(simp_all; done)|skip)
  refine qa (qk (qb ?_))
  simp only [Tryd.results101,enA,ev0,evA,evB,evP,fl,gp,tab,simprocAttr,reduceCtorEq,reduceIte]
  all_goals (rw [homf_tg hC1]; simp)
 ·(try simp only [nhs] at hC1)
  obtain ⟨z1,z2⟩:=tg_zero hC1
  obtain ⟨n,e,g,_⟩:=gf_ok z1
  obtain ⟨n',e',g',_⟩:=gf_ok z2
  obtain rfl:=g.1
  obtain rfl:=g'.1
  have T:=g.2.1
  have T':=g'.2.1
  have hb:=T.big
  refine qh (qa (qm (qm ?_)))
  refine hk_region fun K hK=>runs_eval tab_ok ?_
  simp only [ev0,evA,evB,evP,fl,gp,tab,simprocAttr,reduceCtorEq,reduceIte]
  refine fin_run ?_ (hK _ ?_)<;>clear hK<;>clear K
  ·(first|exact trivial|omega|(simp only [In64] at *; omega)|(simp [In64] at *; omega)|(simp_all; done)|skip)
  refine qa ?_
  refine hk_cond rfl (fun hC2=>?_) (fun hC2=>?_)
  ·(try simp only [nhs] at hC2)
   refine qm ?_
   refine hk_region fun K hK=>runs_eval tab_ok ?_
   simp only [ev0,evA,evB,evP,fl,gp,tab,simprocAttr,reduceCtorEq,reduceIte]
   refine fin_stop trivial (runs_call (homFlt_c 8 0) rfl rfl rfl (by simp only [dstOk,Nat.reduceLT]) (by repeat (first|exact trivial|constructor)) (runs_eval tab_ok ?_))
   simp only [ev0,evA,evB,evP,fl,gp,tab,simprocAttr,reduceCtorEq,reduceIte]
   refine fin_run ?_ (hK _ ?_)<;>clear hK<;>clear K
   ·(first|exact trivial|omega|(simp only [In64] at *; omega)|(simp [In64] at *; omega)|(simp_all; done)|skip)
   refine qa (qk (qb ?_))
   simp only [Tryd.results101,enA,ev0,evA,evB,evP,fl,gp,tab,simprocAttr,reduceCtorEq,reduceIte]
   all_goals (rw [homf_8 hC1 hC2]; simp)
  ·(try simp only [nhs] at hC2)
   refine qh (qa (qm (qm ?_)))
   refine hk_region fun K hK=>runs_eval tab_ok ?_
   simp only [ev0,evA,evB,evP,fl,gp,tab,simprocAttr,reduceCtorEq,reduceIte]
   refine fin_run trivial (hK _ ?_)<;>clear hK<;>clear K
   refine qa (ql ?_)
   refine hk_loop (ι:=Nat) (fun i=>⟨76,[(2,.p (.list (il l))),(3,.ptr 0 0),(4,.ptr 1 0),(6,.ptr 2 0),(25,.p (.list (il l))),(26,.p (.int .i64 l.length)),(27,.p (.int .i64 i))],[.own [.p (.int .i64 n),.p (.list (il m))],.own [.p (.int .i64 n'),.p (.list (il m'))],.own [.p (.int .i64 0),.p (.int .i64 0)]]⟩) (fun i=>i≤l.length∧∀ j,j < i→bad n' l j=false) (fun i=>l.length - i) 0 ⟨Nat.zero_le _,fun j hj=>by omega⟩ [0,1,2] (by simp only [leq,leA,ev0,evA,evB,evP,fl,gp,tab,simprocAttr,reduceCtorEq,reduceIte]<;>trivial) fun i hi=>?_
   obtain ⟨hi1,hi2⟩:=hi
   refine qm ?_
   refine hk_region fun K hK=>runs_eval tab_ok ?_
   simp only [ev0,evA,evB,evP,fl,gp,tab,simprocAttr,reduceCtorEq,reduceIte]
   refine fin_run trivial (hK _ ?_)<;>clear hK<;>clear K
   refine qa (qm ?_)
   refine hk_cond rfl (fun hC3=>?_) (fun hC3=>?_)
   ·(try simp only [nhs] at hC3)
    have hlt:i < l.length:=by omega
    refine qh (qa (qm (ql (qm ?_))))
    refine hk_region fun K hK=>runs_eval tab_ok ?_
    simp only [ev0,evA,evB,evP,fl,gp,tab,simprocAttr,reduceCtorEq,reduceIte,il_get hlt]
    refine fin_run ?_ (hK _ ?_)<;>clear hK<;>clear K
    ·(first|exact trivial|omega|(simp only [In64] at *; omega)|(simp [In64] at *; omega)|(simp_all; done)|skip)
    refine qa (qm ?_)
    by_cases g9a:l.getD i 0 < 0
    ·refine hk_region fun K hK=>runs_eval tab_ok ?_
     simp only [ev0,evA,evB,evP,fl,gp,tab,simprocAttr,reduceCtorEq,reduceIte,decide_eq_true g9a]
     refine fin_run trivial (hK _ ?_)<;>clear hK<;>clear K
     refine qa ?_
     refine hk_cond rfl (fun hC4=>?_) (fun hC4=>?_)
     ·refine qm ?_
      refine hk_region fun K hK=>runs_eval tab_ok ?_
      simp only [ev0,evA,evB,evP,fl,gp,tab,simprocAttr,reduceCtorEq,reduceIte]
      refine fin_stop trivial (runs_call (homFlt_c 3 i) rfl rfl rfl (by simp only [dstOk,Nat.reduceLT]) (by repeat (first|exact trivial|constructor)) (runs_eval tab_ok ?_))
      simp only [ev0,evA,evB,evP,fl,gp,tab,simprocAttr,reduceCtorEq,reduceIte]
      refine fin_run ?_ (hK _ ?_)<;>clear hK<;>clear K
      ·(first|exact trivial|omega|(simp only [In64] at *; omega)|(simp [In64] at *; omega)|(simp_all; done)|skip)
      refine qa (qk (qe (qb (qb (qe (qb ?_))))))
      simp only [Tryd.results101,enA,ev0,evA,evB,evP,fl,gp,tab,simprocAttr,reduceCtorEq,reduceIte]
      all_goals (rw [homf_3 hC1 hC2 hlt (decide_eq_true (.inl g9a)) hi2]; simp)
     ·cases hC4
    ·refine hk_region fun K hK=>runs_eval tab_ok ?_
     simp only [ev0,evA,evB,evP,fl,gp,tab,simprocAttr,reduceCtorEq,reduceIte,decide_eq_false g9a]
     refine fin_run ?_ (hK _ ?_)<;>clear hK<;>clear K
     ·(first|exact trivial|omega|(simp only [In64] at *; omega)|(simp [In64] at *; omega)|(simp_all; done)|skip)
     refine qa ?_
     refine hk_cond rfl (fun hC4=>?_) (fun hC4=>?_)
     ·(try simp only [nhs] at hC4)
      refine qm ?_
      refine hk_region fun K hK=>runs_eval tab_ok ?_
      simp only [ev0,evA,evB,evP,fl,gp,tab,simprocAttr,reduceCtorEq,reduceIte]
      refine fin_stop trivial (runs_call (homFlt_c 3 i) rfl rfl rfl (by simp only [dstOk,Nat.reduceLT]) (by repeat (first|exact trivial|constructor)) (runs_eval tab_ok ?_))
      simp only [ev0,evA,evB,evP,fl,gp,tab,simprocAttr,reduceCtorEq,reduceIte]
      refine fin_run ?_ (hK _ ?_)<;>clear hK<;>clear K
      ·(first|exact trivial|omega|(simp only [In64] at *; omega)|(simp [In64] at *; omega)|(simp_all; done)|skip)
      refine qa (qk (qe (qb (qb (qe (qb ?_))))))
      simp only [Tryd.results101,enA,ev0,evA,evB,evP,fl,gp,tab,simprocAttr,reduceCtorEq,reduceIte]
      all_goals (rw [homf_3 hC1 hC2 hlt (decide_eq_true (.inr hC4)) hi2]; simp)
     ·(try simp only [nhs] at hC4)
      refine qh (qd (qa ?_))
      refine hk_region fun K hK=>runs_eval tab_ok ?_
      simp only [ev0,evA,evB,evP,fl,gp,tab,simprocAttr,reduceCtorEq,reduceIte]
      refine fin_run ?_ (hK _ ?_)<;>clear hK<;>clear K
      ·(first|exact trivial|omega|(simp only [In64] at *; omega)|(simp [In64] at *; omega)|(simp_all; done)|skip)
      refine qa ?_
      refine ⟨i + 1,[0,1,2],⟨by omega,fun j hj=>?_⟩,by omega,?_⟩
      ·by_cases hj:j=i
       ·subst hj; exact decide_eq_false (by omega)
       ·exact hi2 j (by omega)
      ·simp only [leq,leA,ev0,evA,evB,evP,fl,gp,tab,simprocAttr,reduceCtorEq,reduceIte]<;>omega
   ·(try simp only [nhs] at hC3)
    have hall:∀ j,j < l.length→bad n' l j=false:=fun j hj=>hi2 j (by omega)
    have hvv:∀ a,a < n→l.getD a 0=((hv l a:Nat):Int)∧hv l a < n':=fun a ha=>hv_at (hall a (by omega))
    refine qj (qc (qc (qf (qa (qm (qm ?_))))))
    refine hk_region fun K hK=>runs_eval tab_ok ?_
    simp only [ev0,evA,evB,evP,fl,gp,tab,simprocAttr,reduceCtorEq,reduceIte]
    refine fin_run ?_ (hK _ ?_)<;>clear hK<;>clear K
    ·(first|exact trivial|omega|(simp only [In64] at *; omega)|(simp [In64] at *; omega)|(simp_all; done)|skip)
    refine qa (ql ?_)
    refine hk_loop (ι:=Nat) (fun a=>⟨76,[(2,.p (.list (il l))),(3,.ptr 0 0),(4,.ptr 1 0),(6,.ptr 2 0),(44,.p (.int .i64 n)),(45,.p (.int .i64 a))],[.own [.p (.int .i64 n),.p (.list (il m))],.own [.p (.int .i64 n'),.p (.list (il m'))],.own [.p (.int .i64 0),.p (.int .i64 0)]]⟩) (fun a=>a≤n∧∀ j,j < a→hgood m m' l n n' j) (fun a=>n - a) 0 ⟨Nat.zero_le _,fun j hj=>by omega⟩ [0,1,2] (by simp only [leq,leA,ev0,evA,evB,evP,fl,gp,tab,simprocAttr,reduceCtorEq,reduceIte]<;>trivial) fun a ha=>?_
    obtain ⟨ha1,ha2⟩:=ha
    refine qm ?_
    refine hk_region fun K hK=>runs_eval tab_ok ?_
    simp only [ev0,evA,evB,evP,fl,gp,tab,simprocAttr,reduceCtorEq,reduceIte]
    refine fin_run trivial (hK _ ?_)<;>clear hK<;>clear K
    refine qa (qm ?_)
    refine hk_cond rfl (fun hC5=>?_) (fun hC5=>?_)
    ·(try simp only [nhs] at hC5)
     have hal:a < n:=by omega
     refine qh (qa (qm (ql (qm ?_))))
     refine hk_region fun K hK=>runs_eval tab_ok ?_
     simp only [ev0,evA,evB,evP,fl,gp,tab,simprocAttr,reduceCtorEq,reduceIte]
     refine fin_run trivial (hK _ ?_)<;>clear hK<;>clear K
     refine qa (qm ?_)
     refine hk_region fun K hK=>runs_eval tab_ok ?_
     simp only [ev0,evA,evB,evP,fl,gp,tab,simprocAttr,reduceCtorEq,reduceIte]
     refine fin_run ?_ (hK _ ?_)<;>clear hK<;>clear K
     ·(first|exact trivial|omega|(simp only [In64] at *; omega)|(simp [In64] at *; omega)|(simp_all; done)|skip)
     refine qa (ql ?_)
     refine hk_loop (ι:=Nat) (fun b=>⟨76,[(2,.p (.list (il l))),(3,.ptr 0 0),(4,.ptr 1 0),(6,.ptr 2 0),(10,.p (.int .i64 a)),(44,.p (.int .i64 n)),(45,.p (.int .i64 a)),(49,.p (.int .i64 n)),(50,.p (.int .i64 b))],[.own [.p (.int .i64 n),.p (.list (il m))],.own [.p (.int .i64 n'),.p (.list (il m'))],.own [.p (.int .i64 0),.p (.int .i64 0)]]⟩) (fun b=>b≤n∧∀ j,j < b→op m' n' (hv l a) (hv l j)=hv l (op m n a j)) (fun b=>n - b) 0 ⟨Nat.zero_le _,fun j hj=>by omega⟩ [0,1,2] (by simp only [leq,leA,ev0,evA,evB,evP,fl,gp,tab,simprocAttr,reduceCtorEq,reduceIte]<;>trivial) fun b hb=>?_
     obtain ⟨hb1,hb2⟩:=hb
     refine qm ?_
     refine hk_region fun K hK=>runs_eval tab_ok ?_
     simp only [ev0,evA,evB,evP,fl,gp,tab,simprocAttr,reduceCtorEq,reduceIte]
     refine fin_run trivial (hK _ ?_)<;>clear hK<;>clear K
     refine qa (qm ?_)
     refine hk_cond rfl (fun hC6=>?_) (fun hC6=>?_)
     ·(try simp only [nhs] at hC6)
      have hbl:b < n:=by omega
      have hab:=T.lt hal hbl
      obtain ⟨ea,la⟩:=hvv a hal
      obtain ⟨eb,lb⟩:=hvv b hbl
      obtain ⟨ec,lc⟩:=hvv _ hab
      refine qh (qa (qm (ql (qm ?_))))
      refine hk_region fun K hK=>runs_eval tab_ok ?_
      simp only [ev0,evA,evB,evP,fl,gp,tab,simprocAttr,reduceCtorEq,reduceIte]
      refine fin_run trivial (hK _ ?_)<;>clear hK<;>clear K
      refine qa (qm ?_)
      refine hk_draw mixed (by kernel_rfl) fun K hK=>runs_eval tab_ok ?_
      simp only [ev0,evA,evB,evP,fl,gp,tab,simprocAttr,reduceCtorEq,reduceIte,il_get (show a < l.length by omega),il_get (show b < l.length by omega),il_get (show op m n a b < l.length by omega),ea,eb,ec]
      refine fin_stop trivial (runs_call (of_c T hal hbl) rfl rfl rfl (by simp only [dstOk,Nat.reduceLT]) (by repeat (first|exact trivial|constructor)) (runs_eval tab_ok ?_))
      simp only [ev0,evA,evB,evP,fl,gp,tab,simprocAttr,reduceCtorEq,reduceIte,il_get (show a < l.length by omega),il_get (show b < l.length by omega),il_get (show op m n a b < l.length by omega),ea,eb,ec]
      refine fin_stop ?_ (runs_call (of_c T' la lb) rfl rfl rfl (by simp only [dstOk,Nat.reduceLT]) (by repeat (first|exact trivial|constructor)) (runs_eval tab_ok ?_))
      ·(first|exact trivial|omega|(simp only [In64] at *; omega)|(simp [In64] at *; omega)|(simp_all; done)|skip)
      simp only [ev0,evA,evB,evP,fl,gp,tab,simprocAttr,reduceCtorEq,reduceIte,il_get (show a < l.length by omega),il_get (show b < l.length by omega),il_get (show op m n a b < l.length by omega),ea,eb,ec]
      refine fin_run ?_ (hK _ ?_)<;>clear hK<;>clear K
      ·(first|exact trivial|omega|(simp only [In64] at *; omega)|(simp [In64] at *; omega)|(simp_all; done)|skip)
      refine qa ?_
      refine hk_cond rfl (fun hC7=>?_) (fun hC7=>?_)
      ·(try simp only [nhs] at hC7)
       refine qm ?_
       refine hk_region fun K hK=>runs_eval tab_ok ?_
       simp only [ev0,evA,evB,evP,fl,gp,tab,simprocAttr,reduceCtorEq,reduceIte]
       refine fin_stop trivial (runs_call (homFlt_c 7 a) rfl rfl rfl (by simp only [dstOk,Nat.reduceLT]) (by repeat (first|exact trivial|constructor)) (runs_eval tab_ok ?_))
       simp only [ev0,evA,evB,evP,fl,gp,tab,simprocAttr,reduceCtorEq,reduceIte]
       refine fin_run ?_ (hK _ ?_)<;>clear hK<;>clear K
       ·(first|exact trivial|omega|(simp only [In64] at *; omega)|(simp [In64] at *; omega)|(simp_all; done)|skip)
       refine qa (qk (qe (qb (qb (qe (qe (qb (qb (qe (qb ?_))))))))))
       simp only [Tryd.results101,enA,ev0,evA,evB,evP,fl,gp,tab,simprocAttr,reduceCtorEq,reduceIte]
       all_goals (rw [homf_2 hC1 hC2 hall,homf2_7 hal (fun h=>hC7 (by rw [h b hbl])) ha2]; simp)
      ·(try simp only [nhs] at hC7)
       refine qh (qd (qa ?_))
       refine hk_region fun K hK=>runs_eval tab_ok ?_
       simp only [ev0,evA,evB,evP,fl,gp,tab,simprocAttr,reduceCtorEq,reduceIte]
       refine fin_run ?_ (hK _ ?_)<;>clear hK<;>clear K
       ·(first|exact trivial|omega|(simp only [In64] at *; omega)|(simp [In64] at *; omega)|(simp_all; done)|skip)
       refine qa ?_
       refine ⟨b + 1,[0,1,2],⟨by omega,fun j hj=>?_⟩,by omega,?_⟩
       ·by_cases hj:j=b
        ·subst hj; omega
        ·exact hb2 j (by omega)
       ·simp only [leq,leA,ev0,evA,evB,evP,fl,gp,tab,simprocAttr,reduceCtorEq,reduceIte]<;>omega
     ·(try simp only [nhs] at hC6)
      refine qj (qc (qc (qf (qd (qa ?_)))))
      refine hk_region fun K hK=>runs_eval tab_ok ?_
      simp only [ev0,evA,evB,evP,fl,gp,tab,simprocAttr,reduceCtorEq,reduceIte]
      refine fin_run ?_ (hK _ ?_)<;>clear hK<;>clear K
      ·(first|exact trivial|omega|(simp only [In64] at *; omega)|(simp [In64] at *; omega)|(simp_all; done)|skip)
      refine qa ?_
      refine ⟨a + 1,[0,1,2],⟨by omega,fun j hj=>?_⟩,by omega,?_⟩
      ·by_cases hj:j=a
       ·subst hj; exact fun c' hc'=>hb2 c' (by omega)
       ·exact ha2 j (by omega)
      ·simp only [leq,leA,ev0,evA,evB,evP,fl,gp,tab,simprocAttr,reduceCtorEq,reduceIte]<;>omega
    ·(try simp only [nhs] at hC5)
     refine qj (qc (qc (qf (qa (qm ?_)))))
     refine hk_region fun K hK=>runs_eval tab_ok ?_
     simp only [ev0,evA,evB,evP,fl,gp,tab,simprocAttr,reduceCtorEq,reduceIte]
     refine fin_run ?_ (hK _ ?_)<;>clear hK<;>clear K
     ·(first|exact trivial|omega|(simp only [In64] at *; omega)|(simp [In64] at *; omega)|(simp_all; done)|skip)
     refine qa (qk ?_)
     simp only [Tryd.results101,enA,ev0,evA,evB,evP,fl,gp,tab,simprocAttr,reduceCtorEq,reduceIte]
     all_goals (rw [homf_2 hC1 hC2 hall,homf2_0 (fun j hj=>ha2 j (by omega))]; simp)
end Go.Proofs.YtboadfahlflmhaaDoor

/-
  Walks: lists of lists, one to one, one map then another. Conditions: none.
-/
set_option linter.all false
namespace Go.Proofs.YtboadfahlflmhaaDoor
open Go.Pv

/-- A list of so many things has each of them. -/
def onto1 (l:List Int) (n:Nat):Prop:=(∀ i,i < n→((i:Nat):Int)∈l)∧l.length=n
instance (l:List Int) (n:Nat):Decidable (onto1 l n):=by unfold onto1; infer_instance

/-- One map, then another. -/
def cmpl (p q:List Int):List Int:=p.map fun x=>q.getD x.toNat 0

end Go.Proofs.YtboadfahlflmhaaDoor

/-
  Walks: rows of yes and no; the ring of so many things. Conditions: none.
-/
set_option linter.all false
namespace Go.Proofs.YtboadfahlflmhaaDoor
open Go.Pv

/-- A row of yes and no. -/
def hbl (n:Nat) (g:Nat→Bool):List PV:=(List.range n).map fun i=>.bool (g i)
theorem hbl_len (n:Nat) (g:Nat→Bool):(hbl n g).length=n:=by simp [hbl]
theorem hbl_get {n:Nat} {g:Nat→Bool} {i:Nat} (h:i < n):(hbl n g).getD i default = .bool (g i):=by
 simp [hbl,List.getD,List.getElem?_eq_getElem,h]
theorem hbl_all (n:Nat) (g:Nat→Bool):(hbl n g).all PV.one=true:=by simp [hbl,PV.one]

def ixb (n:Nat) (g:Nat→Bool):Int:=match fst' (fun i=>!g i) n with | some i=>(i:Int) | none=>-1
theorem ixb_iff (n:Nat) (g:Nat→Bool):ixb n g ≥ 0↔∃ i,i < n∧g i=false:=by
 unfold ixb
 cases h:fst' (fun i=>!g i) n with
 | none =>
  constructor
  ·intro h; simp at h
  ·rintro ⟨i,hi,e⟩
   have:=fst_spec0 h i hi
   rw [e] at this; simp at this
 | some i =>
  obtain ⟨h1,h2,_⟩:=fst_spec h
  exact ⟨fun _=>⟨i,h1,by simpa using h2⟩,fun _=>by simp⟩

theorem indexB_c (n:Nat) (g:Nat→Bool) (hn:n≤1000000):FnC Tryd.prog 131 [.list (hbl n g),.bool false] (.int .i64 (ixb n g)):=by
 refine fnc_of tab_ok Tryd.func131 rfl (by kernel_rfl) (by rw [Tryd.ntmps131]; exact Nat.le_add_left 2 _) ?_; rw [Tryd.ntmps131]
 refine qm ?_
 refine hk_region fun K hK=>runs_eval tab_ok ?_
 simp only [ev0,evA,evB,evP,fl,gp,tab,simprocAttr,reduceCtorEq,reduceIte]
 refine fin_run trivial (hK _ ?_)<;>clear hK<;>clear K
 refine qa (qm (qm ?_))
 refine hk_region fun K hK=>runs_eval tab_ok ?_
 simp only [ev0,evA,evB,evP,fl,gp,tab,simprocAttr,reduceCtorEq,reduceIte,hbl_len]
 refine fin_run trivial (hK _ ?_)<;>clear hK<;>clear K
 refine qa (ql ?_)
 refine hk_loop (ι:=Nat) (fun i=>⟨19,[(0,.p (.list (hbl n g))),(1,.p (.bool false)),(7,.p (.int .i64 n)),(8,.p (.int .i64 i))],[]⟩) (fun i=>i≤n∧∀ j,j < i→g j=true) (fun i=>n - i) 0 ⟨Nat.zero_le _,fun j hj=>by omega⟩ [] (by simp only [leq,leA,ev0,evA,evB,evP,fl,gp,tab,simprocAttr,reduceCtorEq,reduceIte,hbl_len]<;>trivial) fun i hi=>?_
 obtain ⟨hi1,hi2⟩:=hi
 refine qm ?_
 refine hk_region fun K hK=>runs_eval tab_ok ?_
 simp only [ev0,evA,evB,evP,fl,gp,tab,simprocAttr,reduceCtorEq,reduceIte]
 refine fin_run trivial (hK _ ?_)<;>clear hK<;>clear K
 refine qa (qm ?_)
 refine hk_cond rfl (fun hC1=>?_) (fun hC1=>?_)
 ·(try simp only [nhs] at hC1)
  have hlt:i < n:=by omega
  refine qh (qa (qm (ql (qm ?_))))
  refine hk_region fun K hK=>runs_eval tab_ok ?_
  simp only [ev0,evA,evB,evP,fl,gp,tab,simprocAttr,reduceCtorEq,reduceIte]
  refine fin_run trivial (hK _ ?_)<;>clear hK<;>clear K
  refine qa (qm ?_)
  refine hk_region fun K hK=>runs_eval tab_ok ?_
  simp only [ev0,evA,evB,evP,fl,gp,tab,simprocAttr,reduceCtorEq,reduceIte,hbl_len,hbl_get hlt]
  refine fin_run ?_ (hK _ ?_)<;>clear hK<;>clear K
  ·(first|exact trivial|omega|(simp only [In64] at *; omega)|(simp [In64] at *; omega)|(simp_all; done)|skip)
  refine qa ?_
  refine hk_cond rfl (fun hC2=>?_) (fun hC2=>?_)
  ·(try simp only [nhs] at hC2)
   refine qm ?_
   refine hk_region fun K hK=>runs_eval tab_ok ?_
   simp only [ev0,evA,evB,evP,fl,gp,tab,simprocAttr,reduceCtorEq,reduceIte]
   refine fin_run trivial (hK _ ?_)<;>clear hK<;>clear K
   refine qa (qk (qe (qb (qb (qe (qb ?_))))))
   simp only [Tryd.results131,enA,ev0,evA,evB,evP,fl,gp,tab,simprocAttr,reduceCtorEq,reduceIte]
   all_goals (unfold ixb; rw [fst_some hlt (by cases hg:g i<;>simp_all) fun j hj=>by simp [hi2 j hj]])
  ·(try simp only [nhs] at hC2)
   refine qh (qd (qa ?_))
   refine hk_region fun K hK=>runs_eval tab_ok ?_
   simp only [ev0,evA,evB,evP,fl,gp,tab,simprocAttr,reduceCtorEq,reduceIte]
   refine fin_run ?_ (hK _ ?_)<;>clear hK<;>clear K
   ·(first|exact trivial|omega|(simp only [In64] at *; omega)|(simp [In64] at *; omega)|(simp_all; done)|skip)
   refine qa ?_
   refine ⟨i + 1,[],⟨by omega,fun j hj=>?_⟩,by omega,?_⟩
   ·by_cases hj:j=i
    ·subst hj; (cases hg:g j<;>simp_all)
    ·exact hi2 j (by omega)
   ·simp only [leq,leA,ev0,evA,evB,evP,fl,gp,tab,simprocAttr,reduceCtorEq,reduceIte]<;>first|trivial|omega
 ·(try simp only [nhs] at hC1)
  refine qj (qc (qc (qf (qa (qm ?_)))))
  refine hk_region fun K hK=>runs_eval tab_ok ?_
  simp only [ev0,evA,evB,evP,fl,gp,tab,simprocAttr,reduceCtorEq,reduceIte]
  refine fin_run trivial (hK _ ?_)<;>clear hK<;>clear K
  refine qa (qk ?_)
  simp only [Tryd.results131,enA,ev0,evA,evB,evP,fl,gp,tab,simprocAttr,reduceCtorEq,reduceIte]
  all_goals (unfold ixb; rw [fst_none fun j hj=>by simp [hi2 j (by omega)]])

theorem containsB_c (n:Nat) (g:Nat→Bool) (hn:n≤1000000):FnC Tryd.prog 80 [.list (hbl n g),.bool false] (.bool (decide (ixb n g ≥ 0))):=by
 refine fnc_of tab_ok Tryd.func80 rfl (by kernel_rfl) (by rw [Tryd.ntmps80]; exact Nat.le_add_left 2 _) ?_; rw [Tryd.ntmps80]
 refine qm ?_
 refine hk_region fun K hK=>runs_eval tab_ok ?_
 simp only [ev0,evA,evB,evP,fl,gp,tab,simprocAttr,reduceCtorEq,reduceIte]
 refine fin_run trivial (hK _ ?_)<;>clear hK<;>clear K
 refine qa (qm ?_)
 refine hk_region fun K hK=>runs_eval tab_ok ?_
 simp only [ev0,evA,evB,evP,fl,gp,tab,simprocAttr,reduceCtorEq,reduceIte]
 refine fin_stop trivial (runs_call (indexB_c n g hn) rfl rfl rfl (by simp only [dstOk,Nat.reduceLT]) (by repeat (first|exact trivial|constructor)) (runs_eval tab_ok ?_))
 simp only [ev0,evA,evB,evP,fl,gp,tab,simprocAttr,reduceCtorEq,reduceIte]
 refine fin_run trivial (hK _ ?_)<;>clear hK<;>clear K
 refine qa (qk ?_)
 simp only [Tryd.results80,enA,ev0,evA,evB,evP,fl,gp,tab,simprocAttr,reduceCtorEq,reduceIte]
 all_goals ((first|exact rfl|exact ⟨rfl,rfl⟩|exact ⟨rfl,rfl,rfl⟩|exact ⟨trivial,rfl⟩|exact ⟨Nat.le_refl _,rfl⟩|trivial|(simp; done)))
end Go.Proofs.YtboadfahlflmhaaDoor

/-
  The semidirect product of two groups: plain laws, with no program in sight. Conditions: none.
-/
set_option linter.all false
namespace Go.Proofs.YtboadfahlflmhaaDoor
open Go.Pv

/-- A pair's product: the second acts on the other's first. -/
def smi (n' : Nat) (f f' al:Nat→Nat→Nat) (a b:Nat):Nat:=f (a / n') (al (a % n') (b / n')) * n' + f' (a % n') (b % n')

structure Acts (n n' : Nat) (f f' al:Nat→Nat→Nat):Prop where
 lt:∀ x i,x < n'→i < n→al x i < n
 hom:∀ x i j,x < n'→i < n→j < n→al x (f i j)=f (al x i) (al x j)
 onto:∀ x i,x < n'→i < n→∃ j,j < n∧al x j=i
 mul:∀ x y i,x < n'→y < n'→i < n→al (f' x y) i=al x (al y i)

section
variable {n n' e e' : Nat} {f f' al:Nat→Nat→Nat}

theorem pr_split {a:Nat} (hp:0 < n') (ha:a < n * n'):a / n' < n∧a % n' < n'∧a / n' * n' + a % n' = a:=
 ⟨Nat.div_lt_of_lt_mul (by rw [Nat.mul_comm]; exact ha),Nat.mod_lt _ hp,by rw [Nat.mul_comm]; exact Nat.div_add_mod a n'⟩

theorem Acts.one (A:Acts n n' f f' al) (G' : Grp n' f' e') {i:Nat} (hi:i < n):al e' i=i:=by
 obtain ⟨j,hj,rfl⟩:=A.onto e' i G'.el hi
 rw [← A.mul e' e' j G'.el G'.el hj,G'.one_l e' G'.el]
theorem Acts.el (A:Acts n n' f f' al) (G:Grp n f e) {x:Nat} (hx:x < n'):al x e=e:=by
 have h1:=A.lt x e hx G.el
 have h2:=A.hom x e e hx G.el G.el
 rw [G.one_l e G.el] at h2
 exact (G.idem h1).1 h2.symm

end
end Go.Proofs.YtboadfahlflmhaaDoor

/-
  Walks: the ring of so many things; tables by a rule. Conditions: none.
-/
set_option linter.all false
namespace Go.Proofs.YtboadfahlflmhaaDoor
open Go.Pv

theorem ringOf_c (n:Nat) (h1:1≤n) (hn:n≤60):FnC Tryd.prog 39 [.int .i64 n] (gp n (tbl (fun a b=>(((a + b) % n:Nat):Int)) n)):=by
 have hsq:=sq_le hn
 have hlen:=tbr_len (fun a b=>(((a + b) % n:Nat):Int)) n
 refine fnc_of tab_ok Tryd.func39 rfl (by kernel_rfl) (by rw [Tryd.ntmps39]; exact Nat.le_add_left 1 _) ?_; rw [Tryd.ntmps39]
 refine qm ?_
 refine hk_region fun K hK=>runs_eval tab_ok ?_
 simp only [ev0,evA,evB,evP,fl,gp,tab,simprocAttr,reduceCtorEq,reduceIte]
 refine fin_run ?_ (hK _ ?_)<;>clear hK<;>clear K
 ·(first|exact trivial|omega|(simp only [In64] at *; omega)|(simp [In64] at *; omega)|(simp_all; done)|skip)
 refine qa (qm ?_)
 refine hk_region fun K hK=>runs_eval tab_ok ?_
 simp only [ev0,evA,evB,evP,fl,gp,tab,simprocAttr,reduceCtorEq,reduceIte]
 refine fin_run ?_ (hK _ ?_)<;>clear hK<;>clear K
 ·(first|exact trivial|omega|(simp only [In64] at *; omega)|(simp [In64] at *; omega)|(simp_all; done)|skip)
 refine qa (qm (qm ?_))
 refine hk_own0c 1 1 rfl rfl ?_
 simp only [hset,List.cons_append,List.nil_append,List.set,List.length_cons,List.length_nil]
 refine hk_region fun K hK=>runs_eval tab_ok ?_
 simp only [ev0,evA,evB,evP,fl,gp,tab,simprocAttr,reduceCtorEq,reduceIte]
 refine fin_run trivial (hK _ ?_)<;>clear hK<;>clear K
 refine qa (ql ?_)
 refine hk_loop (ι:=Nat) (fun a=>⟨29,[(0,.p (.int .i64 n)),(2,.ptr 0 0),(3,.ptr 1 0),(4,.p (.int .i64 a))],[.own [.p (.int .i64 0),.p .nil],.own [.p (.int .i64 n),.sl 2 0 (tbr (fun a b=>(((a + b) % n:Nat):Int)) n (a * n)).length],.own (ol (tbr (fun a b=>(((a + b) % n:Nat):Int)) n (a * n)))]⟩) (fun a=>a≤n) (fun a=>n - a) 0 (Nat.zero_le _) [0,1,2] (by rw [Nat.zero_mul]; simp only [leq,leA,ev0,evA,evB,evP,fl,gp,tab,simprocAttr,reduceCtorEq,reduceIte]<;>simp [tbr,rg,ol_nil]) fun a ha=>?_
 refine qm (qm ?_)
 refine hk_region fun K hK=>runs_eval tab_ok ?_
 simp only [ev0,evA,evB,evP,fl,gp,tab,simprocAttr,reduceCtorEq,reduceIte]
 refine fin_run trivial (hK _ ?_)<;>clear hK<;>clear K
 refine qa ?_
 refine hk_cond rfl (fun hC1=>?_) (fun hC1=>?_)
 ·(try simp only [nhs] at hC1)
  have hal:a < n:=by omega
  refine qh (qa (qm (ql (qm ?_))))
  refine hk_region fun K hK=>runs_eval tab_ok ?_
  simp only [ev0,evA,evB,evP,fl,gp,tab,simprocAttr,reduceCtorEq,reduceIte]
  refine fin_run trivial (hK _ ?_)<;>clear hK<;>clear K
  refine qa (ql ?_)
  refine hk_loop (ι:=Nat) (fun b=>⟨29,[(0,.p (.int .i64 n)),(2,.ptr 0 0),(3,.ptr 1 0),(4,.p (.int .i64 a)),(5,.p (.int .i64 b))],[.own [.p (.int .i64 0),.p .nil],.own [.p (.int .i64 n),.sl 2 0 (tbr (fun a b=>(((a + b) % n:Nat):Int)) n (a * n + b)).length],.own (ol (tbr (fun a b=>(((a + b) % n:Nat):Int)) n (a * n + b)))]⟩) (fun b=>b≤n) (fun b=>n - b) 0 (Nat.zero_le _) [0,1,2] (by rw [Nat.add_zero]; simp only [leq,leA,ev0,evA,evB,evP,fl,gp,tab,simprocAttr,reduceCtorEq,reduceIte]<;>trivial) fun b hb=>?_
  refine qm (qm ?_)
  refine hk_region fun K hK=>runs_eval tab_ok ?_
  simp only [ev0,evA,evB,evP,fl,gp,tab,simprocAttr,reduceCtorEq,reduceIte]
  refine fin_run trivial (hK _ ?_)<;>clear hK<;>clear K
  refine qa ?_
  refine hk_cond rfl (fun hC2=>?_) (fun hC2=>?_)
  ·(try simp only [nhs] at hC2)
   have hbl:b < n:=by omega
   have hat:=at_lt hal hbl
   have hl:=hlen (a * n + b)
   have hab:(a:Int) + (b:Int)=((a + b:Nat):Int):=rfl
   refine qh (qa (qm (ql ?_)))
   refine hk_draw mixed (by kernel_rfl) fun K hK=>runs_eval tab_ok ?_
   simp only [ev0,evA,evB,evP,fl,gp,tab,simprocAttr,reduceCtorEq,reduceIte,hab,tm_nat]
   refine fin_run ?_ (hK _ ?_)<;>clear hK<;>clear K
   ·(first|exact trivial|omega|(simp only [In64] at *; omega)|(simp [In64] at *; omega)|(simp_all; done)|skip)
   refine qd (qa ?_)
   refine hk_region fun K hK=>runs_eval tab_ok ?_
   simp only [ev0,evA,evB,evP,fl,gp,tab,simprocAttr,reduceCtorEq,reduceIte]
   refine fin_run ?_ (hK _ ?_)<;>clear hK<;>clear K
   ·(first|exact trivial|omega|(simp only [In64] at *; omega)|(simp [In64] at *; omega)|(simp_all; done)|skip)
   refine qa ?_
   refine ⟨b + 1,[0,1,3],by omega,by omega,?_⟩
   rw [tbr_succ _ hbl]
   simp only [leq,leA,ev0,evA,evB,evP,fl,gp,tab,simprocAttr,reduceCtorEq,reduceIte]<;>first|trivial|omega
  ·(try simp only [nhs] at hC2)
   have hbn:b=n:=by omega
   refine qj (qc (qc (qf (qd (qa ?_)))))
   refine hk_region fun K hK=>runs_eval tab_ok ?_
   simp only [ev0,evA,evB,evP,fl,gp,tab,simprocAttr,reduceCtorEq,reduceIte]
   refine fin_run ?_ (hK _ ?_)<;>clear hK<;>clear K
   ·(first|exact trivial|omega|(simp only [In64] at *; omega)|(simp [In64] at *; omega)|(simp_all; done)|skip)
   refine qa ?_
   refine ⟨a + 1,[0,1,2],by omega,by omega,?_⟩
   rw [hbn,show (a + 1) * n=a * n + n by rw [Nat.add_mul,Nat.one_mul]]
   simp only [leq,leA,ev0,evA,evB,evP,fl,gp,tab,simprocAttr,reduceCtorEq,reduceIte]<;>first|trivial|omega
 ·(try simp only [nhs] at hC1)
  have han:a=n:=by omega
  refine qj (qc (qc (qf (qa (qm ?_)))))
  refine hk_region fun K hK=>runs_eval tab_ok ?_
  simp only [ev0,evA,evB,evP,fl,gp,tab,simprocAttr,reduceCtorEq,reduceIte]
  refine fin_run ?_ (hK _ ?_)<;>clear hK<;>clear K
  ·(first|exact trivial|omega|(simp only [In64] at *; omega)|(simp [In64] at *; omega)|(simp_all; done)|skip)
  refine qa (qk ?_)
  simp only [Tryd.results39,enA,ev0,evA,evB,evP,fl,gp,tab,simprocAttr,reduceCtorEq,reduceIte]
  all_goals (simp [han,tbl])
end Go.Proofs.YtboadfahlflmhaaDoor

/-
  Semidirect products: the fault, and what no fault says. Conditions: none.
-/
set_option linter.all false
namespace Go.Proofs.YtboadfahlflmhaaDoor
open Go.Pv

/-- The code of a row's fault: a map of the group to itself that is one to one. -/
def rwc (N:Int) (m l:List Int):Int:=if ¬ (homf N m N m l).1=0 then (homf N m N m l).1 else if ¬ onto1 l N.toNat then 10 else 0
def mgd (m' : List Int) (n' : Nat) (ls:List (List Int)) (x:Nat):Prop:=∀ y,y < n'→ls.getD (op m' n' x y) []=cmpl (ls.getD y []) (ls.getD x [])
instance (m' : List Int) (n' : Nat) (ls:List (List Int)) (x:Nat):Decidable (mgd m' n' ls x):=by unfold mgd; infer_instance
section
variable {N N' : Int} {m m' : List Int} {ls:List (List Int)} {n n' : Nat}
theorem rwc_ok {l:List Int} (h:rwc n m l=0):Hom m m l n n∧onto1 l n:=by
 unfold rwc at h
 by_cases h1:(homf n m n m l).1=0
 ·rw [if_neg (by simpa using h1)] at h
  by_cases h2:onto1 l (n:Int).toNat
  ·obtain ⟨a,e,a',e',g,g',hh,_⟩:=homf_ok h1
   have q1:=g.1
   have q2:=g'.1
   obtain rfl:a=n:=by omega
   obtain rfl:a' = a:=by omega
   exact ⟨hh,h2⟩
  ·rw [if_pos h2] at h; simp at h
 ·rw [if_pos h1] at h; exact absurd h h1

/-- What acts, as a rule. -/
def alp (ls:List (List Int)) (x i:Nat):Nat:=hv (ls.getD x []) i
theorem acts_of (hl:ls.length=n') (hr:∀ j,j < n'→rwc n m (ls.getD j [])=0) (hm:∀ j,j < n'→mgd m' n' ls j) (T:Tab n m):Acts n n' (op m n) (op m' n') (alp ls):=by
 refine ⟨fun x i hx hi=>((rwc_ok (hr x hx)).1.2.1 i hi).2,fun x i j hx hi hj=>((rwc_ok (hr x hx)).1.2.2 i hi j hj).symm,fun x i hx hi=>?_,fun x y i hx hy hi=>?_⟩
 ·obtain ⟨⟨h1,h2,_⟩,h4,_⟩:=rwc_ok (hr x hx)
  obtain ⟨j,hj,e⟩:=List.getElem_of_mem (h4 i hi)
  refine ⟨j,by omega,?_⟩
  unfold alp hv
  clear h2
  generalize ls.getD x []=p at *
  simp [List.getD,List.getElem?_eq_getElem hj,e]
 ·obtain ⟨⟨h1,h2,_⟩,_⟩:=rwc_ok (hr y hy)
  have e:=hm x hx y hy
  unfold alp
  rw [e]
  unfold hv cmpl
  have hiy:i < (ls.getD y []).length:=by omega
  clear h2 e
  generalize ls.getD x []=p at *
  generalize ls.getD y []=q at *
  simp only [List.getD,List.getElem?_map,List.getElem?_eq_getElem hiy,Option.map_some,Option.getD_some]
end
end Go.Proofs.YtboadfahlflmhaaDoor

/-
  Walks: prod.Semi. Conditions: none.
-/
set_option linter.all false
namespace Go.Proofs.YtboadfahlflmhaaDoor
open Go.Pv

/-- The group that acts on a group makes. -/
def sg (n n' : Nat) (m m' : List Int) (ls:List (List Int)):List Int:=tbl (fun a b=>(smi n' (op m n) (op m' n') (alp ls) a b:Nat)) (n * n')
def hits (l:List Int) (k i:Nat):Bool:=decide (((i:Nat):Int)∈l.take k)
def sgm (n n' : Nat) (m m' : List Int) (ls:List (List Int)) (a b:Nat):Int:=(smi n' (op m n) (op m' n') (alp ls) a b:Nat)

theorem hbl_new (n:Nat):List.replicate n (AV.p (.bool false))=opl (hbl n fun _=>false):=by
 refine List.ext_getElem (by simp [opl,hbl]) fun i h1 h2=>?_
 simp [opl,hbl]
theorem hbl_set (n:Nat) (g:Nat→Bool) (v:Nat):(opl (hbl n g)).set v (AV.p (.bool true))=opl (hbl n fun i=>decide (i=v) || g i):=by
 refine List.ext_getElem (by simp [opl,hbl]) fun i h1 h2=>?_
 simp only [opl,hbl,List.getElem_set,List.getElem_map,List.getElem_range]
 by_cases h:v=i
 ·subst h; simp
 ·rw [if_neg h]; simp [Ne.symm h]
theorem hits_zero (l:List Int) (i:Nat):hits l 0 i=false:=by simp [hits]
theorem hits_succ {l:List Int} {k v:Nat} (hk:k < l.length) (hv:l.getD k 0=((v:Nat):Int)) (i:Nat):hits l (k + 1) i=(decide (i=v) || hits l k i):=by
 unfold hits
 have e:l[k]=((v:Nat):Int):=by rw [← hv]; simp [List.getD,List.getElem?_eq_getElem hk]
 rw [List.take_succ_eq_append_getElem hk,e,Bool.eq_iff_iff]
 simp only [List.mem_append,List.mem_singleton,Bool.or_eq_true,decide_eq_true_eq]
 constructor
 ·rintro (h | h)
  ·exact .inr h
  ·exact .inl (by omega)
 ·rintro (h | h)
  ·exact .inr (by omega)
  ·exact .inl h
theorem hbl_congr {n:Nat} {g g' : Nat→Bool} (h:∀ i,i < n→g i=g' i):hbl n g=hbl n g':=by
 unfold hbl
 exact List.map_congr_left fun i hi=>by rw [h i (List.mem_range.1 hi)]

end Go.Proofs.YtboadfahlflmhaaDoor

/-
  Complements of a normal part: the program's, the document's. Conditions: none.
-/
set_option linter.all false
namespace Go.Proofs.YtboadfahlflmhaaDoor
open Go.Pv

section
variable {n e:Nat} {m:List Int}
end
end Go.Proofs.YtboadfahlflmhaaDoor

/-
  Walks: prod.Semi where there is no fault. Conditions: none.
-/
set_option linter.all false
namespace Go.Proofs.YtboadfahlflmhaaDoor
open Go.Pv

set_option maxRecDepth 20000 in
set_option maxHeartbeats 8000000 in
theorem semi_ok {n n' e e' : Nat} {m m' : List Int} {ls:List (List Int)} (h:GT n m n e) (h' : GT n' m' n' e') (hl:ls.length=n') (hr:∀ j,j < n'→rwc n m (ls.getD j [])=0) (hmg:∀ j,j < n'→mgd m' n' ls j) (hle:n * n'≤60) :
  FnC Tryd.prog 61 [gp n m,gp n' m',.list (ll ls)] (.tup [gp (n * n' : Nat) (sg n n' m m' ls),fl (0,0)]):=by
 have T:=h.2.1
 have T':=h'.2.1
 have G:=h.2.2
 have G':=h'.2.2
 have hs1:=T.big
 have hs2:=T'.big
 have hm:=T.len
 have hm':=T'.len
 have hq1:=sq_le hs1
 have hq2:=sq_le hs2
 have hK:=sq_le hle
 have hmul:(n:Int) * (n' : Int)=((n * n' : Nat):Int):=(Int.natCast_mul _ _).symm
 have A:=acts_of hl hr hmg T
 have hrow:∀ y,y < n'→(ls.getD y []).length=n∧∀ i,i < n→(ls.getD y []).getD i 0=((alp ls y i:Nat):Int):=fun y hy =>
  ⟨(rwc_ok (hr y hy)).1.1,fun i hi=>((rwc_ok (hr y hy)).1.2.1 i hi).1⟩
 have hho:∀ y,y < n'→homf n m n m (ls.getD y [])=(0,0):=fun y hy=>by
  have h1:=hr y hy
  unfold rwc at h1
  by_cases h2:(homf n m n m (ls.getD y [])).1=0
  ·obtain ⟨_,_,_,_,_,_,_,h3⟩:=homf_ok h2
   exact h3
  ·rw [if_pos h2] at h1; exact absurd h1 h2
 have hlen:=tbr_len (sgm n n' m m' ls) (n * n')
 refine fnc_of tab_ok Tryd.func61 rfl (by kernel_rfl) (by rw [Tryd.ntmps61]; exact Nat.le_add_left 3 _) ?_; rw [Tryd.ntmps61]
 refine qm ?_
 refine hk_region fun K hK=>runs_eval tab_ok ?_
 simp only [ev0,evA,evB,evP,fl,gp,tab,simprocAttr,reduceCtorEq,reduceIte]
 refine fin_run ?_ (hK _ ?_)<;>clear hK<;>clear K
 ·(first|exact trivial|omega|(simp only [In64] at *; omega)|(simp [In64] at *; omega)|(simp_all; done)|skip)
 refine qa (qm (qm ?_))
 refine hk_region fun K hK=>runs_eval tab_ok ?_
 simp only [ev0,evA,evB,evP,fl,gp,tab,simprocAttr,reduceCtorEq,reduceIte]
 refine fin_run ?_ (hK _ ?_)<;>clear hK<;>clear K
 ·(first|exact trivial|omega|(simp only [In64] at *; omega)|(simp [In64] at *; omega)|(simp_all; done)|skip)
 refine qa (ql ?_)
 refine hk_loop (ι:=Nat) (fun i=>⟨200,[(2,.p (.list (ll ls))),(3,.ptr 0 0),(4,.ptr 1 0),(6,.ptr 2 0),(7,.ptr 3 0),(29,.p (.nn [gp n m,gp n' m'])),(30,.p (.int .i64 2)),(31,.p (.int .i64 i))],[.own [.p (.int .i64 n),.p (.list (il m))],.own [.p (.int .i64 n'),.p (.list (il m'))],.own [.p (.int .i64 0),.p .nil],.own [.p (.int .i64 0),.p (.int .i64 0)]]⟩) (fun i=>i≤2) (fun i=>2 - i) 0 (by omega) [0,1,2,3] (by simp only [leq,leA,ev0,evA,evB,evP,fl,gp,tab,simprocAttr,reduceCtorEq,reduceIte]<;>trivial) fun i hi=>?_
 refine qm ?_
 refine hk_region fun K hK=>runs_eval tab_ok ?_
 simp only [ev0,evA,evB,evP,fl,gp,tab,simprocAttr,reduceCtorEq,reduceIte]
 refine fin_run trivial (hK _ ?_)<;>clear hK<;>clear K
 refine qa (qm ?_)
 refine hk_cond rfl (fun hC1=>?_) (fun hC1=>?_)
 ·(try simp only [nhs] at hC1)
  refine qh (qa (qm (ql (qm ?_))))
  rcases (show i=0∨i=1 by omega) with rfl | rfl
  ·refine hk_region fun K hK=>runs_eval tab_ok ?_
   simp only [ev0,evA,evB,evP,fl,gp,tab,simprocAttr,reduceCtorEq,reduceIte,List.getD_cons_zero,List.getD_cons_succ]
   refine fin_run ?_ (hK _ ?_)<;>clear hK<;>clear K
   ·(first|exact trivial|omega|(simp only [In64] at *; omega)|(simp [In64] at *; omega)|(simp_all; done)|skip)
   refine qa (qm ?_)
   refine hk_region fun K hK=>runs_eval tab_ok ?_
   simp only [ev0,evA,evB,evP,fl,gp,tab,simprocAttr,reduceCtorEq,reduceIte]
   refine fin_stop trivial (runs_call (check_c n m (by omega)) rfl rfl rfl (by simp only [dstOk,Nat.reduceLT]) (by repeat (first|exact trivial|constructor)) (runs_eval tab_ok ?_))
   simp only [ev0,evA,evB,evP,fl,gp,tab,simprocAttr,reduceCtorEq,reduceIte,gf_of h]
   refine fin_run ?_ (hK _ ?_)<;>clear hK<;>clear K
   ·(first|exact trivial|omega|(simp only [In64] at *; omega)|(simp [In64] at *; omega)|(simp_all; done)|skip)
   refine qa (qm ?_)
   refine hk_region fun K hK=>runs_eval tab_ok ?_
   simp only [ev0,evA,evB,evP,fl,gp,tab,simprocAttr,reduceCtorEq,reduceIte]
   refine fin_run ?_ (hK _ ?_)<;>clear hK<;>clear K
   ·(first|exact trivial|omega|(simp only [In64] at *; omega)|(simp [In64] at *; omega)|(simp_all; done)|skip)
   refine qa ?_
   refine hk_cond rfl (fun hC2=>?_) (fun hC2=>?_)
   ·cases hC2
   ·(try simp only [nhs] at hC2)
    refine qh (qd (qa ?_))
    refine hk_region fun K hK=>runs_eval tab_ok ?_
    simp only [ev0,evA,evB,evP,fl,gp,tab,simprocAttr,reduceCtorEq,reduceIte]
    refine fin_run ?_ (hK _ ?_)<;>clear hK<;>clear K
    ·(first|exact trivial|omega|(simp only [In64] at *; omega)|(simp [In64] at *; omega)|(simp_all; done)|skip)
    refine qa ?_
    refine ⟨1,[0,1,2,3],by omega,by omega,?_⟩
    simp only [leq,leA,ev0,evA,evB,evP,fl,gp,tab,simprocAttr,reduceCtorEq,reduceIte]<;>first|trivial|omega
  ·refine hk_region fun K hK=>runs_eval tab_ok ?_
   simp only [ev0,evA,evB,evP,fl,gp,tab,simprocAttr,reduceCtorEq,reduceIte,List.getD_cons_zero,List.getD_cons_succ]
   refine fin_run ?_ (hK _ ?_)<;>clear hK<;>clear K
   ·(first|exact trivial|omega|(simp only [In64] at *; omega)|(simp [In64] at *; omega)|(simp_all; done)|skip)
   refine qa (qm ?_)
   refine hk_region fun K hK=>runs_eval tab_ok ?_
   simp only [ev0,evA,evB,evP,fl,gp,tab,simprocAttr,reduceCtorEq,reduceIte]
   refine fin_stop trivial (runs_call (check_c n' m' (by omega)) rfl rfl rfl (by simp only [dstOk,Nat.reduceLT]) (by repeat (first|exact trivial|constructor)) (runs_eval tab_ok ?_))
   simp only [ev0,evA,evB,evP,fl,gp,tab,simprocAttr,reduceCtorEq,reduceIte,gf_of h']
   refine fin_run ?_ (hK _ ?_)<;>clear hK<;>clear K
   ·(first|exact trivial|omega|(simp only [In64] at *; omega)|(simp [In64] at *; omega)|(simp_all; done)|skip)
   refine qa (qm ?_)
   refine hk_region fun K hK=>runs_eval tab_ok ?_
   simp only [ev0,evA,evB,evP,fl,gp,tab,simprocAttr,reduceCtorEq,reduceIte]
   refine fin_run ?_ (hK _ ?_)<;>clear hK<;>clear K
   ·(first|exact trivial|omega|(simp only [In64] at *; omega)|(simp [In64] at *; omega)|(simp_all; done)|skip)
   refine qa ?_
   refine hk_cond rfl (fun hC2=>?_) (fun hC2=>?_)
   ·cases hC2
   ·(try simp only [nhs] at hC2)
    refine qh (qd (qa ?_))
    refine hk_region fun K hK=>runs_eval tab_ok ?_
    simp only [ev0,evA,evB,evP,fl,gp,tab,simprocAttr,reduceCtorEq,reduceIte]
    refine fin_run ?_ (hK _ ?_)<;>clear hK<;>clear K
    ·(first|exact trivial|omega|(simp only [In64] at *; omega)|(simp [In64] at *; omega)|(simp_all; done)|skip)
    refine qa ?_
    refine ⟨2,[0,1,2,3],by omega,by omega,?_⟩
    simp only [leq,leA,ev0,evA,evB,evP,fl,gp,tab,simprocAttr,reduceCtorEq,reduceIte]<;>first|trivial|omega
 ·(try simp only [nhs] at hC1)
  refine qj (qc (qc (qf (qa (qm (qm ?_))))))
  refine hk_region fun K hK=>runs_eval tab_ok ?_
  simp only [ev0,evA,evB,evP,fl,gp,tab,simprocAttr,reduceCtorEq,reduceIte,ll_length,hl]
  refine fin_run ?_ (hK _ ?_)<;>clear hK<;>clear K
  ·(first|exact trivial|omega|(simp only [In64] at *; omega)|(simp [In64] at *; omega)|(simp_all; done)|skip)
  refine qa ?_
  refine hk_cond rfl (fun hC3=>?_) (fun hC3=>?_)
  ·cases hC3
  ·(try simp only [nhs] at hC3)
   refine qh (qa (qm (qm ?_)))
   refine hk_region fun K hK=>runs_eval tab_ok ?_
   simp only [ev0,evA,evB,evP,fl,gp,tab,simprocAttr,reduceCtorEq,reduceIte,ll_length,hl]
   refine fin_run trivial (hK _ ?_)<;>clear hK<;>clear K
   refine qa (ql ?_)
   refine hk_loop (ι:=Nat) (fun i=>⟨200,[(2,.p (.list (ll ls))),(3,.ptr 0 0),(4,.ptr 1 0),(6,.ptr 2 0),(7,.ptr 3 0),(50,.p (.list (ll ls))),(51,.p (.int .i64 n')),(52,.p (.int .i64 i))],[.own [.p (.int .i64 n),.p (.list (il m))],.own [.p (.int .i64 n'),.p (.list (il m'))],.own [.p (.int .i64 0),.p .nil],.own [.p (.int .i64 0),.p (.int .i64 0)]]⟩) (fun i=>i≤n') (fun i=>n' - i) 0 (Nat.zero_le _) [0,1,2,3] (by simp only [leq,leA,ev0,evA,evB,evP,fl,gp,tab,simprocAttr,reduceCtorEq,reduceIte]<;>trivial) fun i hi=>?_
   refine qm ?_
   refine hk_region fun K hK=>runs_eval tab_ok ?_
   simp only [ev0,evA,evB,evP,fl,gp,tab,simprocAttr,reduceCtorEq,reduceIte]
   refine fin_run trivial (hK _ ?_)<;>clear hK<;>clear K
   refine qa (qm ?_)
   refine hk_cond rfl (fun hC4=>?_) (fun hC4=>?_)
   ·(try simp only [nhs] at hC4)
    have hlt:i < n':=by omega
    obtain ⟨hln,hval⟩:=hrow i hlt
    have hh:=hho i hlt
    obtain ⟨hH,hon⟩:=rwc_ok (hr i hlt)
    refine qh (qa (qm (ql (qm ?_))))
    refine hk_region fun K hK=>runs_eval tab_ok ?_
    simp only [ev0,evA,evB,evP,fl,gp,tab,simprocAttr,reduceCtorEq,reduceIte,ll_length,ll_get (show i < ls.length by omega)]
    refine fin_run ?_ (hK _ ?_)<;>clear hK<;>clear K
    ·(first|exact trivial|omega|(simp only [In64] at *; omega)|(simp [In64] at *; omega)|(simp_all; done)|skip)
    refine qa (qm (qm ?_))
    refine hk_region fun K hK=>runs_eval tab_ok ?_
    simp only [ev0,evA,evB,evP,fl,gp,tab,simprocAttr,reduceCtorEq,reduceIte]
    refine fin_stop trivial (runs_call (homCheck_c n m n m (ls.getD i []) (by omega) (by omega)) rfl rfl rfl (by simp only [dstOk,Nat.reduceLT]) (by repeat (first|exact trivial|constructor)) (runs_eval tab_ok ?_))
    simp only [ev0,evA,evB,evP,fl,gp,tab,simprocAttr,reduceCtorEq,reduceIte,hh]
    refine fin_run ?_ (hK _ ?_)<;>clear hK<;>clear K
    ·(first|exact trivial|omega|(simp only [In64] at *; omega)|(simp [In64] at *; omega)|(simp_all; done)|skip)
    refine qa (qm ?_)
    refine hk_region fun K hK=>runs_eval tab_ok ?_
    simp only [ev0,evA,evB,evP,fl,gp,tab,simprocAttr,reduceCtorEq,reduceIte]
    refine fin_run ?_ (hK _ ?_)<;>clear hK<;>clear K
    ·(first|exact trivial|omega|(simp only [In64] at *; omega)|(simp [In64] at *; omega)|(simp_all; done)|skip)
    refine qa ?_
    refine hk_cond rfl (fun hC5=>?_) (fun hC5=>?_)
    ·cases hC5
    ·(try simp only [nhs] at hC5)
     refine qh (qa (qm ?_))
     refine hk_region fun K hK=>runs_eval tab_ok ?_
     simp only [ev0,evA,evB,evP,fl,gp,tab,simprocAttr,reduceCtorEq,reduceIte,makeSliceA.eq_def,hbl_new]
     refine fin_run ?_ (hK _ ?_)<;>clear hK<;>clear K
     ·omega
     refine qa (qm (qm ?_))
     refine hk_region fun K hK=>runs_eval tab_ok ?_
     simp only [ev0,evA,evB,evP,fl,gp,tab,simprocAttr,reduceCtorEq,reduceIte,il_length,hln]
     refine fin_run trivial (hK _ ?_)<;>clear hK<;>clear K
     refine qa (ql ?_)
     refine hk_loop (ι:=Nat) (fun k=>⟨200,[(2,.p (.list (ll ls))),(3,.ptr 0 0),(4,.ptr 1 0),(6,.ptr 2 0),(7,.ptr 3 0),(11,.p (.int .i64 i)),(14,.sl 4 0 n),(50,.p (.list (ll ls))),(51,.p (.int .i64 n')),(52,.p (.int .i64 i)),(72,.p (.list (il (ls.getD i [])))),(73,.p (.int .i64 n)),(74,.p (.int .i64 k))],[.own [.p (.int .i64 n),.p (.list (il m))],.own [.p (.int .i64 n'),.p (.list (il m'))],.own [.p (.int .i64 0),.p .nil],.own [.p (.int .i64 0),.p (.int .i64 0)],.own (opl (hbl n (hits (ls.getD i []) k)))]⟩) (fun k=>k≤n) (fun k=>n - k) 0 (Nat.zero_le _) [0,1,2,3,5] (by simp only [show hits (ls.getD i []) 0=fun _=>false from funext (hits_zero _)]; simp only [leq,leA,ev0,evA,evB,evP,fl,gp,tab,simprocAttr,reduceCtorEq,reduceIte]<;>trivial) fun k hk=>?_
     refine qm ?_
     refine hk_region fun K hK=>runs_eval tab_ok ?_
     simp only [ev0,evA,evB,evP,fl,gp,tab,simprocAttr,reduceCtorEq,reduceIte]
     refine fin_run trivial (hK _ ?_)<;>clear hK<;>clear K
     refine qa (qm ?_)
     refine hk_cond rfl (fun hC6=>?_) (fun hC6=>?_)
     ·(try simp only [nhs] at hC6)
      have hkl:k < n:=by omega
      have ev:=hval k hkl
      have lv:=A.lt i k hlt hkl
      refine qh (qa (qm (ql (qm ?_))))
      refine hk_region fun K hK=>runs_eval tab_ok ?_
      simp only [ev0,evA,evB,evP,fl,gp,tab,simprocAttr,reduceCtorEq,reduceIte,il_get (show k < (ls.getD i []).length by omega),ev]
      refine fin_run ?_ (hK _ ?_)<;>clear hK<;>clear K
      ·(first|exact trivial|omega|(simp only [In64] at *; omega)|(simp [In64] at *; omega)|(simp_all; done)|skip)
      refine qa ?_
      refine hk_region fun K hK=>runs_eval tab_ok ?_
      simp only [ev0,evA,evB,evP,fl,gp,tab,simprocAttr,reduceCtorEq,reduceIte]
      refine fin_run ?_ (hK _ ?_)<;>clear hK<;>clear K
      ·rw [hbl_len]; omega
      refine qd (qa ?_)
      rw [hbl_set]
      refine hk_region fun K hK=>runs_eval tab_ok ?_
      simp only [ev0,evA,evB,evP,fl,gp,tab,simprocAttr,reduceCtorEq,reduceIte]
      refine fin_run ?_ (hK _ ?_)<;>clear hK<;>clear K
      ·(first|exact trivial|omega|(simp only [In64] at *; omega)|(simp [In64] at *; omega)|(simp_all; done)|skip)
      refine qa ?_
      refine ⟨k + 1,[0,1,2,3,4],by omega,by omega,?_⟩
      rw [hbl_congr (fun i' _=>hits_succ (l:=ls.getD i []) (by omega) ev i')]
      simp only [leq,leA,ev0,evA,evB,evP,fl,gp,tab,simprocAttr,reduceCtorEq,reduceIte]<;>first|trivial|omega
     ·(try simp only [nhs] at hC6)
      have hkn:k=n:=by omega
      subst hkn
      have hno:decide (ixb k (hits (ls.getD i []) k) ≥ 0)=false:=decide_eq_false fun hc=>by
       obtain ⟨v,v1,v2⟩:=(ixb_iff k (hits (ls.getD i []) k)).1 hc
       unfold hits at v2
       rw [List.take_of_length_le (by omega)] at v2
       exact (of_decide_eq_false v2) (hon.1 v v1)
      refine hk_sealp 14 4 (hbl_all k (hits (ls.getD i []) k)) (by show AV.sl 4 0 k=AV.sl 4 0 _; rw [hbl_len]) rfl ?_
      refine qj (qc (qc (qf (qa (qm ?_)))))
      refine hk_region fun K hK=>runs_eval tab_ok ?_
      simp only [ev0,evA,evB,evP,fl,gp,tab,simprocAttr,reduceCtorEq,reduceIte]
      refine fin_stop trivial (runs_call (containsB_c k (hits (ls.getD i []) k) (by omega)) rfl rfl rfl (by simp only [dstOk,Nat.reduceLT]) (by repeat (first|exact trivial|constructor)) (runs_eval tab_ok ?_))
      simp only [ev0,evA,evB,evP,fl,gp,tab,simprocAttr,reduceCtorEq,reduceIte,hno]
      refine fin_run trivial (hK _ ?_)<;>clear hK<;>clear K
      refine qa ?_
      refine hk_cond rfl (fun hC7=>?_) (fun hC7=>?_)
      ·cases hC7
      ·(try simp only [nhs] at hC7)
       refine qh (qd (qa ?_))
       refine hk_region fun K hK=>runs_eval tab_ok ?_
       simp only [ev0,evA,evB,evP,fl,gp,tab,simprocAttr,reduceCtorEq,reduceIte]
       refine fin_run ?_ (hK _ ?_)<;>clear hK<;>clear K
       ·(first|exact trivial|omega|(simp only [In64] at *; omega)|(simp [In64] at *; omega)|(simp_all; done)|skip)
       refine qa ?_
       refine ⟨i + 1,[0,1,2,3],by omega,by omega,?_⟩
       simp only [leq,leA,ev0,evA,evB,evP,fl,gp,tab,simprocAttr,reduceCtorEq,reduceIte]<;>first|trivial|omega
   ·(try simp only [nhs] at hC4)
    refine qj (qc (qc (qf (qa (qm (qm ?_))))))
    refine hk_region fun K hK=>runs_eval tab_ok ?_
    simp only [ev0,evA,evB,evP,fl,gp,tab,simprocAttr,reduceCtorEq,reduceIte]
    refine fin_run ?_ (hK _ ?_)<;>clear hK<;>clear K
    ·(first|exact trivial|omega|(simp only [In64] at *; omega)|(simp [In64] at *; omega)|(simp_all; done)|skip)
    refine qa (ql ?_)
    refine hk_loop (ι:=Nat) (fun a=>⟨200,[(2,.p (.list (ll ls))),(3,.ptr 0 0),(4,.ptr 1 0),(6,.ptr 2 0),(7,.ptr 3 0),(89,.p (.int .i64 n')),(90,.p (.int .i64 a))],[.own [.p (.int .i64 n),.p (.list (il m))],.own [.p (.int .i64 n'),.p (.list (il m'))],.own [.p (.int .i64 0),.p .nil],.own [.p (.int .i64 0),.p (.int .i64 0)]]⟩) (fun a=>a≤n') (fun a=>n' - a) 0 (Nat.zero_le _) [0,1,2,3] (by simp only [leq,leA,ev0,evA,evB,evP,fl,gp,tab,simprocAttr,reduceCtorEq,reduceIte]<;>trivial) fun a ha=>?_
    refine qm ?_
    refine hk_region fun K hK=>runs_eval tab_ok ?_
    simp only [ev0,evA,evB,evP,fl,gp,tab,simprocAttr,reduceCtorEq,reduceIte]
    refine fin_run trivial (hK _ ?_)<;>clear hK<;>clear K
    refine qa (qm ?_)
    refine hk_cond rfl (fun hC8=>?_) (fun hC8=>?_)
    ·(try simp only [nhs] at hC8)
     have hal:a < n':=by omega
     refine qh (qa (qm (ql (qm ?_))))
     refine hk_region fun K hK=>runs_eval tab_ok ?_
     simp only [ev0,evA,evB,evP,fl,gp,tab,simprocAttr,reduceCtorEq,reduceIte]
     refine fin_run trivial (hK _ ?_)<;>clear hK<;>clear K
     refine qa (qm ?_)
     refine hk_region fun K hK=>runs_eval tab_ok ?_
     simp only [ev0,evA,evB,evP,fl,gp,tab,simprocAttr,reduceCtorEq,reduceIte]
     refine fin_run ?_ (hK _ ?_)<;>clear hK<;>clear K
     ·(first|exact trivial|omega|(simp only [In64] at *; omega)|(simp [In64] at *; omega)|(simp_all; done)|skip)
     refine qa (ql ?_)
     refine hk_loop (ι:=Nat) (fun b=>⟨200,[(2,.p (.list (ll ls))),(3,.ptr 0 0),(4,.ptr 1 0),(6,.ptr 2 0),(7,.ptr 3 0),(17,.p (.int .i64 a)),(89,.p (.int .i64 n')),(90,.p (.int .i64 a)),(94,.p (.int .i64 n')),(95,.p (.int .i64 b))],[.own [.p (.int .i64 n),.p (.list (il m))],.own [.p (.int .i64 n'),.p (.list (il m'))],.own [.p (.int .i64 0),.p .nil],.own [.p (.int .i64 0),.p (.int .i64 0)]]⟩) (fun b=>b≤n') (fun b=>n' - b) 0 (Nat.zero_le _) [0,1,2,3] (by simp only [leq,leA,ev0,evA,evB,evP,fl,gp,tab,simprocAttr,reduceCtorEq,reduceIte]<;>trivial) fun b hb=>?_
     refine qm ?_
     refine hk_region fun K hK=>runs_eval tab_ok ?_
     simp only [ev0,evA,evB,evP,fl,gp,tab,simprocAttr,reduceCtorEq,reduceIte]
     refine fin_run trivial (hK _ ?_)<;>clear hK<;>clear K
     refine qa (qm ?_)
     refine hk_cond rfl (fun hC9=>?_) (fun hC9=>?_)
     ·(try simp only [nhs] at hC9)
      have hbl' : b < n':=by omega
      refine qh (qa (qm (ql (qm ?_))))
      refine hk_region fun K hK=>runs_eval tab_ok ?_
      simp only [ev0,evA,evB,evP,fl,gp,tab,simprocAttr,reduceCtorEq,reduceIte]
      refine fin_run trivial (hK _ ?_)<;>clear hK<;>clear K
      refine qa (qm ?_)
      refine hk_region fun K hK=>runs_eval tab_ok ?_
      simp only [ev0,evA,evB,evP,fl,gp,tab,simprocAttr,reduceCtorEq,reduceIte]
      refine fin_run ?_ (hK _ ?_)<;>clear hK<;>clear K
      ·(first|exact trivial|omega|(simp only [In64] at *; omega)|(simp [In64] at *; omega)|(simp_all; done)|skip)
      refine qa (ql ?_)
      refine hk_loop (ι:=Nat) (fun x=>⟨200,[(2,.p (.list (ll ls))),(3,.ptr 0 0),(4,.ptr 1 0),(6,.ptr 2 0),(7,.ptr 3 0),(17,.p (.int .i64 a)),(18,.p (.int .i64 b)),(89,.p (.int .i64 n')),(90,.p (.int .i64 a)),(94,.p (.int .i64 n')),(95,.p (.int .i64 b)),(99,.p (.int .i64 n)),(100,.p (.int .i64 x))],[.own [.p (.int .i64 n),.p (.list (il m))],.own [.p (.int .i64 n'),.p (.list (il m'))],.own [.p (.int .i64 0),.p .nil],.own [.p (.int .i64 0),.p (.int .i64 0)]]⟩) (fun x=>x≤n) (fun x=>n - x) 0 (Nat.zero_le _) [0,1,2,3] (by simp only [leq,leA,ev0,evA,evB,evP,fl,gp,tab,simprocAttr,reduceCtorEq,reduceIte]<;>trivial) fun x hx=>?_
      refine qm ?_
      refine hk_region fun K hK=>runs_eval tab_ok ?_
      simp only [ev0,evA,evB,evP,fl,gp,tab,simprocAttr,reduceCtorEq,reduceIte]
      refine fin_run trivial (hK _ ?_)<;>clear hK<;>clear K
      refine qa (qm ?_)
      refine hk_cond rfl (fun hC10=>?_) (fun hC10=>?_)
      ·(try simp only [nhs] at hC10)
       have hxl:x < n:=by omega
       have hab:=G'.cl a b hal hbl'
       have r1:=hrow _ hab
       have r2:=hrow a hal
       have r3:=hrow b hbl'
       have v1:=r1.2 x hxl
       have v3:=r3.2 x hxl
       have l3:=A.lt b x hbl' hxl
       have v2:=r2.2 _ l3
       have hmu:=A.mul a b x hal hbl' hxl
       rw [hmu] at v1
       refine qh (qa (qm (ql (qm ?_))))
       refine hk_region fun K hK=>runs_eval tab_ok ?_
       simp only [ev0,evA,evB,evP,fl,gp,tab,simprocAttr,reduceCtorEq,reduceIte]
       refine fin_run trivial (hK _ ?_)<;>clear hK<;>clear K
       refine qa (qm ?_)
       refine hk_draw mixed (by kernel_rfl) fun K hK=>runs_eval tab_ok ?_
       simp only [ev0,evA,evB,evP,fl,gp,tab,simprocAttr,reduceCtorEq,reduceIte,ll_length,ll_get (show op m' n' a b < ls.length by omega),ll_get (show a < ls.length by omega),ll_get (show b < ls.length by omega),il_length,il_get (show x < (ls.getD (op m' n' a b) []).length by omega),v1,il_get (show x < (ls.getD b []).length by omega),v3,il_get (show alp ls b x < (ls.getD a []).length by omega),v2]
       refine fin_stop ?_ (runs_call (of_c T' hal hbl') rfl rfl rfl (by simp only [dstOk,Nat.reduceLT]) (by repeat (first|exact trivial|constructor)) (runs_eval tab_ok ?_))
       ·(first|exact trivial|omega|(simp only [In64] at *; omega)|(simp [In64] at *; omega)|(simp_all; done)|skip)
       simp only [ev0,evA,evB,evP,fl,gp,tab,simprocAttr,reduceCtorEq,reduceIte,ll_length,ll_get (show op m' n' a b < ls.length by omega),ll_get (show a < ls.length by omega),ll_get (show b < ls.length by omega),il_length,il_get (show x < (ls.getD (op m' n' a b) []).length by omega),v1,il_get (show x < (ls.getD b []).length by omega),v3,il_get (show alp ls b x < (ls.getD a []).length by omega),v2]
       refine fin_run ?_ (hK _ ?_)<;>clear hK<;>clear K
       ·(first|exact trivial|omega|(simp only [In64] at *; omega)|(simp [In64] at *; omega)|(simp_all; done)|skip)
       refine qa ?_
       refine hk_cond rfl (fun hC11=>?_) (fun hC11=>?_)
       ·cases hC11
       ·(try simp only [nhs] at hC11)
        refine qh (qd (qa ?_))
        refine hk_region fun K hK=>runs_eval tab_ok ?_
        simp only [ev0,evA,evB,evP,fl,gp,tab,simprocAttr,reduceCtorEq,reduceIte]
        refine fin_run ?_ (hK _ ?_)<;>clear hK<;>clear K
        ·(first|exact trivial|omega|(simp only [In64] at *; omega)|(simp [In64] at *; omega)|(simp_all; done)|skip)
        refine qa ?_
        refine ⟨x + 1,[0,1,2,3],by omega,by omega,?_⟩
        simp only [leq,leA,ev0,evA,evB,evP,fl,gp,tab,simprocAttr,reduceCtorEq,reduceIte]<;>first|trivial|omega
      ·(try simp only [nhs] at hC10)
       refine qj (qc (qc (qf (qd (qa ?_)))))
       refine hk_region fun K hK=>runs_eval tab_ok ?_
       simp only [ev0,evA,evB,evP,fl,gp,tab,simprocAttr,reduceCtorEq,reduceIte]
       refine fin_run ?_ (hK _ ?_)<;>clear hK<;>clear K
       ·(first|exact trivial|omega|(simp only [In64] at *; omega)|(simp [In64] at *; omega)|(simp_all; done)|skip)
       refine qa ?_
       refine ⟨b + 1,[0,1,2,3],by omega,by omega,?_⟩
       simp only [leq,leA,ev0,evA,evB,evP,fl,gp,tab,simprocAttr,reduceCtorEq,reduceIte]<;>first|trivial|omega
     ·(try simp only [nhs] at hC9)
      refine qj (qc (qc (qf (qd (qa ?_)))))
      refine hk_region fun K hK=>runs_eval tab_ok ?_
      simp only [ev0,evA,evB,evP,fl,gp,tab,simprocAttr,reduceCtorEq,reduceIte]
      refine fin_run ?_ (hK _ ?_)<;>clear hK<;>clear K
      ·(first|exact trivial|omega|(simp only [In64] at *; omega)|(simp [In64] at *; omega)|(simp_all; done)|skip)
      refine qa ?_
      refine ⟨a + 1,[0,1,2,3],by omega,by omega,?_⟩
      simp only [leq,leA,ev0,evA,evB,evP,fl,gp,tab,simprocAttr,reduceCtorEq,reduceIte]<;>first|trivial|omega
    ·(try simp only [nhs] at hC8)
     refine qj (qc (qc (qf (qa (qm (qm ?_))))))
     refine hk_region fun K hK=>runs_eval tab_ok ?_
     simp only [ev0,evA,evB,evP,fl,gp,tab,simprocAttr,reduceCtorEq,reduceIte,hmul]
     refine fin_run ?_ (hK _ ?_)<;>clear hK<;>clear K
     ·(first|exact trivial|omega|(simp only [In64] at *; omega)|(simp [In64] at *; omega)|(simp_all; done)|skip)
     refine qa ?_
     refine hk_cond rfl (fun hC12=>?_) (fun hC12=>?_)
     ·(try simp only [nhs] at hC12)
      omega
     ·(try simp only [nhs] at hC12)
      refine qh (qa (qm ?_))
      refine hk_region fun K hK=>runs_eval tab_ok ?_
      simp only [ev0,evA,evB,evP,fl,gp,tab,simprocAttr,reduceCtorEq,reduceIte,hmul]
      refine fin_run ?_ (hK _ ?_)<;>clear hK<;>clear K
      ·(first|exact trivial|omega|(simp only [In64] at *; omega)|(simp [In64] at *; omega)|(simp_all; done)|skip)
      refine qa (qm (qm ?_))
      refine hk_own0c 4 1 rfl rfl ?_
      simp only [hset,List.cons_append,List.nil_append,List.set,List.length_cons,List.length_nil]
      refine hk_region fun K hK=>runs_eval tab_ok ?_
      simp only [ev0,evA,evB,evP,fl,gp,tab,simprocAttr,reduceCtorEq,reduceIte]
      refine fin_run ?_ (hK _ ?_)<;>clear hK<;>clear K
      ·(first|exact trivial|omega|(simp only [In64] at *; omega)|(simp [In64] at *; omega)|(simp_all; done)|skip)
      refine qa (ql ?_)
      refine hk_loop (ι:=Nat) (fun i=>⟨200,[(2,.p (.list (ll ls))),(3,.ptr 0 0),(4,.ptr 1 0),(6,.ptr 2 0),(7,.ptr 3 0),(20,.ptr 4 0),(148,.p (.int .i64 (n * n' : Nat))),(149,.p (.int .i64 i))],[.own [.p (.int .i64 n),.p (.list (il m))],.own [.p (.int .i64 n'),.p (.list (il m'))],.own [.p (.int .i64 0),.p .nil],.own [.p (.int .i64 0),.p (.int .i64 0)],.own [.p (.int .i64 (n * n' : Nat)),.sl 5 0 (tbr (sgm n n' m m' ls) (n * n') (i * (n * n'))).length],.own (ol (tbr (sgm n n' m m' ls) (n * n') (i * (n * n'))))]⟩) (fun i=>i≤n * n') (fun i=>n * n' - i) 0 (Nat.zero_le _) [0,1,2,3,4,5] (by rw [Nat.zero_mul]; simp only [leq,leA,ev0,evA,evB,evP,fl,gp,tab,simprocAttr,reduceCtorEq,reduceIte]<;>first|trivial|simp [tbr,rg,ol_nil]) fun i hi=>?_
      refine qm ?_
      refine hk_region fun K hK=>runs_eval tab_ok ?_
      simp only [ev0,evA,evB,evP,fl,gp,tab,simprocAttr,reduceCtorEq,reduceIte]
      refine fin_run trivial (hK _ ?_)<;>clear hK<;>clear K
      refine qa (qm ?_)
      refine hk_cond rfl (fun hC13=>?_) (fun hC13=>?_)
      ·(try simp only [nhs] at hC13)
       have hil:i < n * n':=by omega
       refine qh (qa (qm (ql (qm ?_))))
       refine hk_region fun K hK=>runs_eval tab_ok ?_
       simp only [ev0,evA,evB,evP,fl,gp,tab,simprocAttr,reduceCtorEq,reduceIte]
       refine fin_run trivial (hK _ ?_)<;>clear hK<;>clear K
       refine qa (qm ?_)
       refine hk_region fun K hK=>runs_eval tab_ok ?_
       simp only [ev0,evA,evB,evP,fl,gp,tab,simprocAttr,reduceCtorEq,reduceIte]
       refine fin_run ?_ (hK _ ?_)<;>clear hK<;>clear K
       ·(first|exact trivial|omega|(simp only [In64] at *; omega)|(simp [In64] at *; omega)|(simp_all; done)|skip)
       refine qa (ql ?_)
       refine hk_loop (ι:=Nat) (fun k=>⟨200,[(2,.p (.list (ll ls))),(3,.ptr 0 0),(4,.ptr 1 0),(6,.ptr 2 0),(7,.ptr 3 0),(20,.ptr 4 0),(21,.p (.int .i64 i)),(148,.p (.int .i64 (n * n' : Nat))),(149,.p (.int .i64 i)),(153,.p (.int .i64 (n * n' : Nat))),(154,.p (.int .i64 k))],[.own [.p (.int .i64 n),.p (.list (il m))],.own [.p (.int .i64 n'),.p (.list (il m'))],.own [.p (.int .i64 0),.p .nil],.own [.p (.int .i64 0),.p (.int .i64 0)],.own [.p (.int .i64 (n * n' : Nat)),.sl 5 0 (tbr (sgm n n' m m' ls) (n * n') (i * (n * n') + k)).length],.own (ol (tbr (sgm n n' m m' ls) (n * n') (i * (n * n') + k)))]⟩) (fun k=>k≤n * n') (fun k=>n * n' - k) 0 (Nat.zero_le _) [0,1,2,3,4,5] (by rw [Nat.add_zero]; simp only [leq,leA,ev0,evA,evB,evP,fl,gp,tab,simprocAttr,reduceCtorEq,reduceIte]<;>trivial) fun k hk=>?_
       refine qm ?_
       refine hk_region fun K hK=>runs_eval tab_ok ?_
       simp only [ev0,evA,evB,evP,fl,gp,tab,simprocAttr,reduceCtorEq,reduceIte]
       refine fin_run trivial (hK _ ?_)<;>clear hK<;>clear K
       refine qa (qm ?_)
       refine hk_cond rfl (fun hC14=>?_) (fun hC14=>?_)
       ·(try simp only [nhs] at hC14)
        have hkl:k < n * n':=by omega
        have hat:=at_lt hil hkl
        have hl':=hlen (i * (n * n') + k)
        obtain ⟨i1,i2,_⟩:=pr_split G'.pos hil
        obtain ⟨k1,k2,_⟩:=pr_split G'.pos hkl
        have hpos:=G'.pos
        have ra:=hrow _ i2
        have va:=ra.2 _ k1
        have la:=A.lt _ _ i2 k1
        have o1:=G.cl _ _ i1 la
        have o2:=G'.cl _ _ i2 k2
        have p1:op m n (i / n') (alp ls (i % n') (k / n')) * n'≤60 * 60:=Nat.mul_le_mul (by omega) hs2
        have p2:((op m n (i / n') (alp ls (i % n') (k / n')):Nat):Int) * (n' : Int)=((op m n (i / n') (alp ls (i % n') (k / n')) * n' : Nat):Int):=(Int.natCast_mul _ _).symm
        have p3:((op m n (i / n') (alp ls (i % n') (k / n')) * n' : Nat):Int) + ((op m' n' (i % n') (k % n'):Nat):Int)=sgm n n' m m' ls i k:=rfl
        refine qh (qa (qm (ql (qm ?_))))
        refine hk_region fun K hK=>runs_eval tab_ok ?_
        simp only [ev0,evA,evB,evP,fl,gp,tab,simprocAttr,reduceCtorEq,reduceIte]
        refine fin_run trivial (hK _ ?_)<;>clear hK<;>clear K
        refine qa (qm ?_)
        refine hk_draw mixed (by kernel_rfl) fun K hK=>runs_eval tab_ok ?_
        simp only [ev0,evA,evB,evP,fl,gp,tab,simprocAttr,reduceCtorEq,reduceIte,tm_nat,td_nat]
        refine fin_run ?_ (hK _ ?_)<;>clear hK<;>clear K
        ·generalize i / n' = s at *; generalize k / n' = t at *; generalize i % n' = u at *; generalize k % n' = v at *; simp only [In64]; omega
        refine qa ?_
        refine hk_draw2 mixed fun K hK=>runs2_eval tab_ok ?_
        simp only [evD,ev0,evA,evB,evP,fl,gp,tab,simprocAttr,reduceCtorEq,reduceIte,ll_length,ll_get (show i % n' < ls.length by omega),il_length,il_get (show k / n' < (ls.getD (i % n') []).length by omega),va,p2,p3]
        refine fin2_stop ?_ (runs2_call (of_c T i1 la) rfl rfl rfl rfl (by simp only [dstOk,Nat.reduceLT]) (by repeat (first|exact trivial|constructor)) (runs2_eval tab_ok ?_))
        ·generalize i / n' = s at *; generalize k / n' = t at *; generalize i % n' = u at *; generalize k % n' = v at *; omega
        simp only [evD,ev0,evA,evB,evP,fl,gp,tab,simprocAttr,reduceCtorEq,reduceIte,ll_length,ll_get (show i % n' < ls.length by omega),il_length,il_get (show k / n' < (ls.getD (i % n') []).length by omega),va,p2,p3]
        refine fin2_stop ?_ (runs2_call (of_c T' i2 k2) rfl rfl rfl rfl (by simp only [dstOk,Nat.reduceLT]) (by repeat (first|exact trivial|constructor)) (runs2_eval tab_ok ?_))
        ·(first|exact trivial|omega|(simp only [In64] at *; omega)|(simp [In64] at *; omega)|(simp_all; done)|skip)
        simp only [evD,ev0,evA,evB,evP,fl,gp,tab,simprocAttr,reduceCtorEq,reduceIte,ll_length,ll_get (show i % n' < ls.length by omega),il_length,il_get (show k / n' < (ls.getD (i % n') []).length by omega),va,p2,p3]
        refine fin2_run ?_ (hK _ _ (by first|kernel_rfl|rfl) ?_)<;>clear hK<;>clear K
        ·(first|exact trivial|omega|(simp only [In64] at *; omega)|(simp [In64] at *; omega)|(simp_all; done)|skip)
        refine qd (qa ?_)
        refine hk_region fun K hK=>runs_eval tab_ok ?_
        simp only [ev0,evA,evB,evP,fl,gp,tab,simprocAttr,reduceCtorEq,reduceIte]
        refine fin_run ?_ (hK _ ?_)<;>clear hK<;>clear K
        ·(first|exact trivial|omega|(simp only [In64] at *; omega)|(simp [In64] at *; omega)|(simp_all; done)|skip)
        refine qa ?_
        refine ⟨k + 1,[0,1,2,3,4,6],by omega,by omega,?_⟩
        rw [tbr_succ (sgm n n' m m' ls) hkl]
        simp only [leq,leA,ev0,evA,evB,evP,fl,gp,tab,simprocAttr,reduceCtorEq,reduceIte]<;>first|trivial|omega
       ·(try simp only [nhs] at hC14)
        have hkn:k=n * n':=by omega
        refine qj (qc (qc (qf (qd (qa ?_)))))
        refine hk_region fun K hK=>runs_eval tab_ok ?_
        simp only [ev0,evA,evB,evP,fl,gp,tab,simprocAttr,reduceCtorEq,reduceIte]
        refine fin_run ?_ (hK _ ?_)<;>clear hK<;>clear K
        ·(first|exact trivial|omega|(simp only [In64] at *; omega)|(simp [In64] at *; omega)|(simp_all; done)|skip)
        refine qa ?_
        refine ⟨i + 1,[0,1,2,3,4,5],by omega,by omega,?_⟩
        rw [hkn,show (i + 1) * (n * n')=i * (n * n') + n * n' by rw [Nat.add_mul,Nat.one_mul]]
        simp only [leq,leA,ev0,evA,evB,evP,fl,gp,tab,simprocAttr,reduceCtorEq,reduceIte]<;>first|trivial|omega
      ·(try simp only [nhs] at hC13)
       have hin:i=n * n':=by omega
       refine qj (qc (qc (qf (qa (qm ?_)))))
       refine hk_region fun K hK=>runs_eval tab_ok ?_
       simp only [ev0,evA,evB,evP,fl,gp,tab,simprocAttr,reduceCtorEq,reduceIte]
       refine fin_run ?_ (hK _ ?_)<;>clear hK<;>clear K
       ·(first|exact trivial|omega|(simp only [In64] at *; omega)|(simp [In64] at *; omega)|(simp_all; done)|skip)
       refine qa (qk ?_)
       simp only [Tryd.results61,enA,ev0,evA,evB,evP,fl,gp,tab,simprocAttr,reduceCtorEq,reduceIte]
       simp [hin,tbl,sg]
       rfl
end Go.Proofs.YtboadfahlflmhaaDoor

/-
  Walks: the document's example of a semidirect product. Conditions: none.
-/
set_option linter.all false
namespace Go.Proofs.YtboadfahlflmhaaDoor
open Go.Pv

def cyt (n:Nat):List Int:=tbl (fun a b=>(((a + b) % n:Nat):Int)) n
theorem cyt3:∃ e,GT (3:Nat) (cyt 3) 3 e:=by
 have hg:(gf 3 (cyt 3)).1=0:=by decide +kernel
 obtain ⟨n,e,h,_⟩:=gf_ok hg
 obtain rfl:n=3:=by have:=h.1; omega
 exact ⟨e,h⟩
theorem cyt2:∃ e,GT (2:Nat) (cyt 2) 2 e:=by
 have hg:(gf 2 (cyt 2)).1=0:=by decide +kernel
 obtain ⟨n,e,h,_⟩:=gf_ok hg
 obtain rfl:n=2:=by have:=h.1; omega
 exact ⟨e,h⟩
def s3t:List Int:=sg 3 2 (cyt 3) (cyt 2) [[0,1,2],[0,2,1]]
theorem s3_tab:Tab 6 s3t:=by
 have hg:(gf 6 s3t).1=0:=by decide +kernel
 obtain ⟨n,e,h,_⟩:=gf_ok hg
 obtain rfl:n=6:=by have:=h.1; omega
 exact h.2.1
theorem prodBegun_c:FnC Tryd.prog 60 [] (.bool true):=by
 obtain ⟨e,h⟩:=cyt3
 obtain ⟨e',h'⟩:=cyt2
 have hr:∀ j,j < 2→rwc (3:Nat) (cyt 3) (List.getD [[0,1,2],[0,2,1]] j [])=0:=by decide +kernel
 have hmg:∀ j,j < 2→mgd (cyt 2) 2 [[0,1,2],[0,2,1]] j:=by decide +kernel
 have hsemi:FnC Tryd.prog 61 [gp 3 (cyt 3),gp 2 (cyt 2),.list (ll [[0,1,2],[0,2,1]])] (.tup [gp 6 s3t,fl (0,0)]):=semi_ok h h' rfl hr hmg (by decide)
 have hr3:=ringOf_c 3 (by decide) (by decide)
 have hr2:=ringOf_c 2 (by decide) (by decide)
 have hab:decide (abel s3t 6)=false:=by decide +kernel
 have hco:=commutes_c s3_tab
 rw [hab] at hco
 refine fnc_of tab_ok Tryd.func60 rfl (by kernel_rfl) (by rw [Tryd.ntmps60]; exact Nat.le_add_left 0 _) ?_; rw [Tryd.ntmps60]
 refine qm ?_
 refine hk_region fun K hK=>runs_eval tab_ok ?_
 simp only [ev0,evA,evB,evP,fl,gp,tab,simprocAttr,reduceCtorEq,reduceIte]
 refine fin_run trivial (hK _ ?_)<;>clear hK<;>clear K
 refine qa (qm ?_)
 refine hk_region fun K hK=>runs_eval tab_ok ?_
 simp only [ev0,evA,evB,evP,fl,gp,tab,simprocAttr,reduceCtorEq,reduceIte]
 refine fin_stop trivial (runs_call (hr3) rfl rfl rfl (by simp only [dstOk,Nat.reduceLT]) (by repeat (first|exact trivial|constructor)) (runs_eval tab_ok ?_))
 simp only [ev0,evA,evB,evP,fl,gp,tab,simprocAttr,reduceCtorEq,reduceIte]
 refine fin_stop trivial (runs_call (hr2) rfl rfl rfl (by simp only [dstOk,Nat.reduceLT]) (by repeat (first|exact trivial|constructor)) (runs_eval tab_ok ?_))
 simp only [ev0,evA,evB,evP,fl,gp,tab,simprocAttr,reduceCtorEq,reduceIte]
 refine fin_stop ?_ (runs_call (FnC.weak (args':=[gp 3 (cyt 3),gp 2 (cyt 2),.nn [.nn (il [0,1,2]),.nn (il [0,2,1])]]) hsemi ⟨.rfl,.rfl,.nn2,trivial⟩) rfl rfl rfl (by simp only [dstOk,Nat.reduceLT]) (by repeat (first|exact trivial|constructor)) (runs_eval tab_ok ?_))
 ·(first|exact trivial|omega|(simp only [In64] at *; omega)|(simp [In64] at *; omega)|(simp_all; done)|skip)
 simp only [ev0,evA,evB,evP,fl,gp,tab,simprocAttr,reduceCtorEq,reduceIte]
 refine fin_run ?_ (hK _ ?_)<;>clear hK<;>clear K
 ·(first|exact trivial|omega|(simp only [In64] at *; omega)|(simp [In64] at *; omega)|(simp_all; done)|skip)
 refine qa (qm ?_)
 refine hk_region fun K hK=>runs_eval tab_ok ?_
 simp only [ev0,evA,evB,evP,fl,gp,tab,simprocAttr,reduceCtorEq,reduceIte]
 refine fin_stop trivial (runs_call (hco) rfl rfl rfl (by simp only [dstOk,Nat.reduceLT]) (by repeat (first|exact trivial|constructor)) (runs_eval tab_ok ?_))
 simp only [ev0,evA,evB,evP,fl,gp,tab,simprocAttr,reduceCtorEq,reduceIte]
 refine fin_run ?_ (hK _ ?_)<;>clear hK<;>clear K
 ·(first|exact trivial|omega|(simp only [In64] at *; omega)|(simp [In64] at *; omega)|(simp_all; done)|skip)
 refine qa (qk ?_)
 simp only [Tryd.results60,enA,ev0,evA,evB,evP,fl,gp,tab,simprocAttr,reduceCtorEq,reduceIte]
 all_goals (rfl)
end Go.Proofs.YtboadfahlflmhaaDoor

/-
  Walks: prod.Direct; the document's word for it. Conditions: none.
-/
set_option linter.all false
namespace Go.Proofs.YtboadfahlflmhaaDoor
open Go.Pv

theorem dufb_t:ufb true=(0,0):=rfl
theorem em3p (P Q:Prop):¬ P∨(P∧Q)∨(P∧¬ Q):=by
 by_cases h1:P<;>by_cases h2:Q<;>simp [h1,h2]

set_option maxHeartbeats 4000000 in
theorem direct_ok {n e:Nat} {m:List Int} (h:GT n m n e) {p q:Nat→Bool} (hp:Sub n (op m n) e p) (hq:Sub n (op m n) e q) (b:Bool) (hbs:b=true↔(mem n p).length * (mem n q).length=n∧(mem n fun x=>p x && q x).length=1∧Cmm n (op m n) p q):FnC Tryd.prog 67 [gp n m,.list (il (thl n p)),.list (il (thl n q))] (.tup [.bool b,fl (0,0)]):=by
 have G:=h.2.2
 have hb:=h.2.1.big
 have lp:=thl_le n p
 have lq:=thl_le n q
 have ep:(mem n p).length=(thl n p).length:=(thl_len n p).symm
 have eq' : (mem n q).length=(thl n q).length:=(thl_len n q).symm
 rw [ep,eq'] at hbs
 have hmi:((thl n p).length:Int) * ((thl n q).length:Int)=(((thl n p).length * (thl n q).length:Nat):Int):=(Int.natCast_mul _ _).symm
 have hml:(thl n p).length * (thl n q).length≤60 * 60:=Nat.mul_le_mul (by omega) (by omega)
 have hgr:=grow_c h 0 (Nat.two_pow_pos n) (onp e) (fun a ha=>G.gen_none (fun b _=>Nat.zero_testBit b) ha)
 have ho1:=of_s (thl n p) (by omega) (thl_rng hb p)
 have ho2:=of_s (thl n q) (by omega) (thl_rng hb q)
 rw [msk_thl] at ho1 ho2
 have hband:=bv_and (bo_lt64 hb p) (bo_lt64 hb q)
 rw [bo_and] at hband
 have hmeet:(mem n fun x=>p x && q x).length=1↔bo n (fun x=>p x && q x)=bo n (onp e):=by
  rw [G.meet_len hp hq]
  constructor
  ·intro h1
   refine bo_congr fun a ha=>?_
   rw [Bool.eq_iff_iff,Bool.and_eq_true,onp_iff]
   exact ⟨fun h2=>h1 a ha h2.1 h2.2,fun h2=>by rw [h2]; exact ⟨hp.one,hq.one⟩⟩
  ·intro h1 a ha h2 h3
   have:=bo_inj h1 ha
   simp only [h2,h3,Bool.and_self] at this
   exact onp_iff.1 this.symm
 refine fnc_of tab_ok Tryd.func67 rfl (by kernel_rfl) (by rw [Tryd.ntmps67]; exact Nat.le_add_left 3 _) ?_; rw [Tryd.ntmps67]
 refine qm ?_
 refine hk_region fun K hK=>runs_eval tab_ok ?_
 simp only [ev0,evA,evB,evP,fl,gp,tab,simprocAttr,reduceCtorEq,reduceIte]
 refine fin_run ?_ (hK _ ?_)<;>clear hK<;>clear K
 ·(first|exact trivial|omega|(simp only [In64] at *; omega)|(simp [In64] at *; omega)|(simp_all; done)|skip)
 refine qa (qm (qm ?_))
 refine hk_region fun K hK=>runs_eval tab_ok ?_
 simp only [ev0,evA,evB,evP,fl,gp,tab,simprocAttr,reduceCtorEq,reduceIte]
 refine fin_run ?_ (hK _ ?_)<;>clear hK<;>clear K
 ·(first|exact trivial|omega|(simp only [In64] at *; omega)|(simp [In64] at *; omega)|(simp_all; done)|skip)
 refine qa (ql ?_)
 refine hk_loop (ι:=Nat) (fun i=>⟨75,[(1,.p (.list (il (thl n p)))),(2,.p (.list (il (thl n q)))),(3,.ptr 0 0),(7,.ptr 1 0),(17,.p (.nn [.list (il (thl n p)),.list (il (thl n q))])),(18,.p (.int .i64 2)),(19,.p (.int .i64 i))],[.own [.p (.int .i64 n),.p (.list (il m))],.own [.p (.int .i64 0),.p (.int .i64 0)]]⟩) (fun i=>i≤2) (fun i=>2 - i) 0 (by omega) [0,1] (by simp only [leq,leA,ev0,evA,evB,evP,fl,gp,tab,simprocAttr,reduceCtorEq,reduceIte]<;>trivial) fun i hi=>?_
 refine qm ?_
 refine hk_region fun K hK=>runs_eval tab_ok ?_
 simp only [ev0,evA,evB,evP,fl,gp,tab,simprocAttr,reduceCtorEq,reduceIte]
 refine fin_run trivial (hK _ ?_)<;>clear hK<;>clear K
 refine qa (qm ?_)
 refine hk_cond rfl (fun hC1=>?_) (fun hC1=>?_)
 ·(try simp only [nhs] at hC1)
  refine qh (qa (qm (ql (qm ?_))))
  rcases (show i=0∨i=1 by omega) with rfl | rfl
  ·refine hk_region fun K hK=>runs_eval tab_ok ?_
   simp only [ev0,evA,evB,evP,fl,gp,tab,simprocAttr,reduceCtorEq,reduceIte,List.getD_cons_zero,List.getD_cons_succ]
   refine fin_run ?_ (hK _ ?_)<;>clear hK<;>clear K
   ·(first|exact trivial|omega|(simp only [In64] at *; omega)|(simp [In64] at *; omega)|(simp_all; done)|skip)
   refine qa (qm ?_)
   refine hk_region fun K hK=>runs_eval tab_ok ?_
   simp only [ev0,evA,evB,evP,fl,gp,tab,simprocAttr,reduceCtorEq,reduceIte]
   refine fin_stop trivial (runs_call (group_ok h p true (by simp [hp])) rfl rfl rfl (by simp only [dstOk,Nat.reduceLT]) (by repeat (first|exact trivial|constructor)) (runs_eval tab_ok ?_))
   simp only [ev0,evA,evB,evP,fl,gp,tab,simprocAttr,reduceCtorEq,reduceIte,dufb_t]
   refine fin_run ?_ (hK _ ?_)<;>clear hK<;>clear K
   ·(first|exact trivial|omega|(simp only [In64] at *; omega)|(simp [In64] at *; omega)|(simp_all; done)|skip)
   refine qa (qm ?_)
   refine hk_region fun K hK=>runs_eval tab_ok ?_
   simp only [ev0,evA,evB,evP,fl,gp,tab,simprocAttr,reduceCtorEq,reduceIte]
   refine fin_run ?_ (hK _ ?_)<;>clear hK<;>clear K
   ·(first|exact trivial|omega|(simp only [In64] at *; omega)|(simp [In64] at *; omega)|(simp_all; done)|skip)
   refine qa ?_
   refine hk_cond rfl (fun hC2=>?_) (fun hC2=>?_)
   ·cases hC2
   ·(try simp only [nhs] at hC2)
    refine qh (qd (qa ?_))
    refine hk_region fun K hK=>runs_eval tab_ok ?_
    simp only [ev0,evA,evB,evP,fl,gp,tab,simprocAttr,reduceCtorEq,reduceIte]
    refine fin_run ?_ (hK _ ?_)<;>clear hK<;>clear K
    ·(first|exact trivial|omega|(simp only [In64] at *; omega)|(simp [In64] at *; omega)|(simp_all; done)|skip)
    refine qa ?_
    refine ⟨1,[0,1],by omega,by omega,?_⟩
    simp only [leq,leA,ev0,evA,evB,evP,fl,gp,tab,simprocAttr,reduceCtorEq,reduceIte]<;>first|trivial|omega
  ·refine hk_region fun K hK=>runs_eval tab_ok ?_
   simp only [ev0,evA,evB,evP,fl,gp,tab,simprocAttr,reduceCtorEq,reduceIte,List.getD_cons_zero,List.getD_cons_succ]
   refine fin_run ?_ (hK _ ?_)<;>clear hK<;>clear K
   ·(first|exact trivial|omega|(simp only [In64] at *; omega)|(simp [In64] at *; omega)|(simp_all; done)|skip)
   refine qa (qm ?_)
   refine hk_region fun K hK=>runs_eval tab_ok ?_
   simp only [ev0,evA,evB,evP,fl,gp,tab,simprocAttr,reduceCtorEq,reduceIte]
   refine fin_stop trivial (runs_call (group_ok h q true (by simp [hq])) rfl rfl rfl (by simp only [dstOk,Nat.reduceLT]) (by repeat (first|exact trivial|constructor)) (runs_eval tab_ok ?_))
   simp only [ev0,evA,evB,evP,fl,gp,tab,simprocAttr,reduceCtorEq,reduceIte,dufb_t]
   refine fin_run ?_ (hK _ ?_)<;>clear hK<;>clear K
   ·(first|exact trivial|omega|(simp only [In64] at *; omega)|(simp [In64] at *; omega)|(simp_all; done)|skip)
   refine qa (qm ?_)
   refine hk_region fun K hK=>runs_eval tab_ok ?_
   simp only [ev0,evA,evB,evP,fl,gp,tab,simprocAttr,reduceCtorEq,reduceIte]
   refine fin_run ?_ (hK _ ?_)<;>clear hK<;>clear K
   ·(first|exact trivial|omega|(simp only [In64] at *; omega)|(simp [In64] at *; omega)|(simp_all; done)|skip)
   refine qa ?_
   refine hk_cond rfl (fun hC2=>?_) (fun hC2=>?_)
   ·cases hC2
   ·(try simp only [nhs] at hC2)
    refine qh (qd (qa ?_))
    refine hk_region fun K hK=>runs_eval tab_ok ?_
    simp only [ev0,evA,evB,evP,fl,gp,tab,simprocAttr,reduceCtorEq,reduceIte]
    refine fin_run ?_ (hK _ ?_)<;>clear hK<;>clear K
    ·(first|exact trivial|omega|(simp only [In64] at *; omega)|(simp [In64] at *; omega)|(simp_all; done)|skip)
    refine qa ?_
    refine ⟨2,[0,1],by omega,by omega,?_⟩
    simp only [leq,leA,ev0,evA,evB,evP,fl,gp,tab,simprocAttr,reduceCtorEq,reduceIte]<;>first|trivial|omega
 ·(try simp only [nhs] at hC1)
  refine qj (qc (qc (qf (qa (qm (qm ?_))))))
  rcases em3p ((thl n p).length * (thl n q).length=n) (bo n (fun x=>p x && q x)=bo n (onp e)) with k1 | ⟨k1,k2⟩ | ⟨k1,k2⟩
  ·refine hk_draw mixed (by kernel_rfl) fun K hK=>runs_eval tab_ok ?_
   simp only [ev0,evA,evB,evP,fl,gp,tab,simprocAttr,reduceCtorEq,reduceIte,il_length,hmi,decide_eq_false (show ¬ (((thl n p).length * (thl n q).length:Nat):Int)=(n:Int) by omega)]
   refine fin_run ?_ (hK _ ?_)<;>clear hK<;>clear K
   ·(first|exact trivial|omega|(simp only [In64] at *; omega)|(simp [In64] at *; omega)|(simp_all; done)|skip)
   refine qa ?_
   refine hk_cond rfl (fun hC3=>?_) (fun hC3=>?_)
   ·refine qm ?_
    refine hk_region fun K hK=>runs_eval tab_ok ?_
    simp only [ev0,evA,evB,evP,fl,gp,tab,simprocAttr,reduceCtorEq,reduceIte]
    refine fin_run ?_ (hK _ ?_)<;>clear hK<;>clear K
    ·(first|exact trivial|omega|(simp only [In64] at *; omega)|(simp [In64] at *; omega)|(simp_all; done)|skip)
    refine qa (qk (qb ?_))
    simp only [Tryd.results67,enA,ev0,evA,evB,evP,fl,gp,tab,simprocAttr,reduceCtorEq,reduceIte]
    have hbf:b=false:=by
     cases b with
     | false=>rfl
     | true=>exact absurd (hbs.1 rfl).1 k1
    rw [hbf]
   ·cases hC3
  ·refine hk_draw mixed (by kernel_rfl) fun K hK=>runs_eval tab_ok ?_
   simp only [ev0,evA,evB,evP,fl,gp,tab,simprocAttr,reduceCtorEq,reduceIte,il_length,hmi,decide_eq_true (show (((thl n p).length * (thl n q).length:Nat):Int)=(n:Int) by omega)]
   refine fin_stop ?_ (runs_call (ho1) rfl rfl rfl (by simp only [dstOk,Nat.reduceLT]) (by repeat (first|exact trivial|constructor)) (runs_eval tab_ok ?_))
   ·simp only [In64]; omega
   simp only [ev0,evA,evB,evP,fl,gp,tab,simprocAttr,reduceCtorEq,reduceIte,il_length,hmi,decide_eq_true (show (((thl n p).length * (thl n q).length:Nat):Int)=(n:Int) by omega)]
   refine fin_stop trivial (runs_call (ho2) rfl rfl rfl (by simp only [dstOk,Nat.reduceLT]) (by repeat (first|exact trivial|constructor)) (runs_eval tab_ok ?_))
   simp only [ev0,evA,evB,evP,fl,gp,tab,simprocAttr,reduceCtorEq,reduceIte,hband,il_length,hmi,decide_eq_true (show (((thl n p).length * (thl n q).length:Nat):Int)=(n:Int) by omega)]
   refine fin_stop trivial (runs_call (hgr) rfl rfl rfl (by simp only [dstOk,Nat.reduceLT]) (by repeat (first|exact trivial|constructor)) (runs_eval tab_ok ?_))
   simp only [ev0,evA,evB,evP,fl,gp,tab,simprocAttr,reduceCtorEq,reduceIte,decide_eq_true (show ((bo n (fun x=>p x && q x):Nat):Int)=((bo n (onp e):Nat):Int) by rw [k2]),il_length,hmi,decide_eq_true (show (((thl n p).length * (thl n q).length:Nat):Int)=(n:Int) by omega)]
   refine fin_run ?_ (hK _ ?_)<;>clear hK<;>clear K
   ·(first|exact trivial|omega|(simp only [In64] at *; omega)|(simp [In64] at *; omega)|(simp_all; done)|skip)
   refine qa ?_
   refine hk_cond rfl (fun hC3=>?_) (fun hC3=>?_)
   ·cases hC3
   ·(try simp only [nhs] at hC3)
    refine qh (qa (qm (qm ?_)))
    refine hk_region fun K hK=>runs_eval tab_ok ?_
    simp only [ev0,evA,evB,evP,fl,gp,tab,simprocAttr,reduceCtorEq,reduceIte,il_length]
    refine fin_run trivial (hK _ ?_)<;>clear hK<;>clear K
    refine qa (ql ?_)
    refine hk_loop (ι:=Nat) (fun i=>⟨75,[(2,.p (.list (il (thl n q)))),(3,.ptr 0 0),(7,.ptr 1 0),(50,.p (.list (il (thl n p)))),(51,.p (.int .i64 (thl n p).length)),(52,.p (.int .i64 i))],[.own [.p (.int .i64 n),.p (.list (il m))],.own [.p (.int .i64 0),.p (.int .i64 0)]]⟩) (fun i=>i≤(thl n p).length∧∀ a b k,a < n→b < n→k < i→(thl n p).getD k 0=(a:Int)→q b=true→op m n a b=op m n b a) (fun i=>(thl n p).length - i) 0 ⟨Nat.zero_le _,fun a b k _ _ hk=>by omega⟩ [0,1] (by simp only [leq,leA,ev0,evA,evB,evP,fl,gp,tab,simprocAttr,reduceCtorEq,reduceIte]<;>trivial) fun i hi=>?_
    obtain ⟨hi1,hi2⟩:=hi
    refine qm ?_
    refine hk_region fun K hK=>runs_eval tab_ok ?_
    simp only [ev0,evA,evB,evP,fl,gp,tab,simprocAttr,reduceCtorEq,reduceIte]
    refine fin_run trivial (hK _ ?_)<;>clear hK<;>clear K
    refine qa (qm ?_)
    refine hk_cond rfl (fun hC4=>?_) (fun hC4=>?_)
    ·(try simp only [nhs] at hC4)
     have hlt:i < (thl n p).length:=by omega
     obtain ⟨x,x1,x2,x3⟩:=thl_get hlt
     refine qh (qa (qm (ql (qm ?_))))
     refine hk_region fun K hK=>runs_eval tab_ok ?_
     simp only [ev0,evA,evB,evP,fl,gp,tab,simprocAttr,reduceCtorEq,reduceIte,il_get hlt,x3]
     refine fin_run ?_ (hK _ ?_)<;>clear hK<;>clear K
     ·(first|exact trivial|omega|(simp only [In64] at *; omega)|(simp [In64] at *; omega)|(simp_all; done)|skip)
     refine qa (qm ?_)
     refine hk_region fun K hK=>runs_eval tab_ok ?_
     simp only [ev0,evA,evB,evP,fl,gp,tab,simprocAttr,reduceCtorEq,reduceIte,il_length]
     refine fin_run trivial (hK _ ?_)<;>clear hK<;>clear K
     refine qa (ql ?_)
     refine hk_loop (ι:=Nat) (fun j=>⟨75,[(2,.p (.list (il (thl n q)))),(3,.ptr 0 0),(7,.ptr 1 0),(12,.p (.int .i64 x)),(50,.p (.list (il (thl n p)))),(51,.p (.int .i64 (thl n p).length)),(52,.p (.int .i64 i)),(56,.p (.list (il (thl n q)))),(57,.p (.int .i64 (thl n q).length)),(58,.p (.int .i64 j))],[.own [.p (.int .i64 n),.p (.list (il m))],.own [.p (.int .i64 0),.p (.int .i64 0)]]⟩) (fun j=>j≤(thl n q).length∧∀ b k,b < n→k < j→(thl n q).getD k 0=(b:Int)→op m n x b=op m n b x) (fun j=>(thl n q).length - j) 0 ⟨Nat.zero_le _,fun b k _ hk=>by omega⟩ [0,1] (by simp only [leq,leA,ev0,evA,evB,evP,fl,gp,tab,simprocAttr,reduceCtorEq,reduceIte]<;>trivial) fun j hj=>?_
     obtain ⟨hj1,hj2⟩:=hj
     refine qm ?_
     refine hk_region fun K hK=>runs_eval tab_ok ?_
     simp only [ev0,evA,evB,evP,fl,gp,tab,simprocAttr,reduceCtorEq,reduceIte]
     refine fin_run trivial (hK _ ?_)<;>clear hK<;>clear K
     refine qa (qm ?_)
     refine hk_cond rfl (fun hC5=>?_) (fun hC5=>?_)
     ·(try simp only [nhs] at hC5)
      have hjl:j < (thl n q).length:=by omega
      obtain ⟨y,y1,y2,y3⟩:=thl_get hjl
      refine qh (qa (qm (ql (qm ?_))))
      refine hk_region fun K hK=>runs_eval tab_ok ?_
      simp only [ev0,evA,evB,evP,fl,gp,tab,simprocAttr,reduceCtorEq,reduceIte,il_get hjl,y3]
      refine fin_run ?_ (hK _ ?_)<;>clear hK<;>clear K
      ·(first|exact trivial|omega|(simp only [In64] at *; omega)|(simp [In64] at *; omega)|(simp_all; done)|skip)
      refine qa (qm ?_)
      refine hk_draw mixed (by kernel_rfl) fun K hK=>runs_eval tab_ok ?_
      simp only [ev0,evA,evB,evP,fl,gp,tab,simprocAttr,reduceCtorEq,reduceIte]
      refine fin_stop trivial (runs_call (of_c h.2.1 x1 y1) rfl rfl rfl (by simp only [dstOk,Nat.reduceLT]) (by repeat (first|exact trivial|constructor)) (runs_eval tab_ok ?_))
      simp only [ev0,evA,evB,evP,fl,gp,tab,simprocAttr,reduceCtorEq,reduceIte]
      refine fin_stop trivial (runs_call (of_c h.2.1 y1 x1) rfl rfl rfl (by simp only [dstOk,Nat.reduceLT]) (by repeat (first|exact trivial|constructor)) (runs_eval tab_ok ?_))
      simp only [ev0,evA,evB,evP,fl,gp,tab,simprocAttr,reduceCtorEq,reduceIte]
      refine fin_run ?_ (hK _ ?_)<;>clear hK<;>clear K
      ·(first|exact trivial|omega|(simp only [In64] at *; omega)|(simp [In64] at *; omega)|(simp_all; done)|skip)
      refine qa ?_
      refine hk_cond rfl (fun hC6=>?_) (fun hC6=>?_)
      ·(try simp only [nhs] at hC6)
       refine qm ?_
       refine hk_region fun K hK=>runs_eval tab_ok ?_
       simp only [ev0,evA,evB,evP,fl,gp,tab,simprocAttr,reduceCtorEq,reduceIte]
       refine fin_run ?_ (hK _ ?_)<;>clear hK<;>clear K
       ·(first|exact trivial|omega|(simp only [In64] at *; omega)|(simp [In64] at *; omega)|(simp_all; done)|skip)
       refine qa (qk (qe (qb (qb (qe (qe (qb (qb (qe (qb ?_))))))))))
       simp only [Tryd.results67,enA,ev0,evA,evB,evP,fl,gp,tab,simprocAttr,reduceCtorEq,reduceIte]
       have hbf:b=false:=by
        cases b with
        | false=>rfl
        | true =>
         have:=(hbs.1 rfl).2.2 x y x1 y1 x2 y2
         omega
       rw [hbf]
      ·(try simp only [nhs] at hC6)
       refine qh (qd (qa ?_))
       refine hk_region fun K hK=>runs_eval tab_ok ?_
       simp only [ev0,evA,evB,evP,fl,gp,tab,simprocAttr,reduceCtorEq,reduceIte]
       refine fin_run ?_ (hK _ ?_)<;>clear hK<;>clear K
       ·(first|exact trivial|omega|(simp only [In64] at *; omega)|(simp [In64] at *; omega)|(simp_all; done)|skip)
       refine qa ?_
       refine ⟨j + 1,[0,1],⟨by omega,fun b k hb' hk hg=>?_⟩,by omega,?_⟩
       ·by_cases hkj:k=j
        ·rw [hkj,y3] at hg
         obtain rfl:y=b:=by omega
         omega
        ·exact hj2 b k hb' (by omega) hg
       ·simp only [leq,leA,ev0,evA,evB,evP,fl,gp,tab,simprocAttr,reduceCtorEq,reduceIte]<;>first|trivial|omega
     ·(try simp only [nhs] at hC5)
      refine qj (qc (qc (qf (qd (qa ?_)))))
      refine hk_region fun K hK=>runs_eval tab_ok ?_
      simp only [ev0,evA,evB,evP,fl,gp,tab,simprocAttr,reduceCtorEq,reduceIte]
      refine fin_run ?_ (hK _ ?_)<;>clear hK<;>clear K
      ·(first|exact trivial|omega|(simp only [In64] at *; omega)|(simp [In64] at *; omega)|(simp_all; done)|skip)
      refine qa ?_
      refine ⟨i + 1,[0,1],⟨by omega,fun a b k ha hb' hk hg hqb=>?_⟩,by omega,?_⟩
      ·by_cases hki:k=i
       ·rw [hki,x3] at hg
        obtain rfl:x=a:=by omega
        obtain ⟨j',j1,j2⟩:=thl_at hb' hqb
        exact hj2 b j' hb' (by omega) j2
       ·exact hi2 a b k ha hb' (by omega) hg hqb
      ·simp only [leq,leA,ev0,evA,evB,evP,fl,gp,tab,simprocAttr,reduceCtorEq,reduceIte]<;>first|trivial|omega
    ·(try simp only [nhs] at hC4)
     refine qj (qc (qc (qf (qa (qm ?_)))))
     refine hk_region fun K hK=>runs_eval tab_ok ?_
     simp only [ev0,evA,evB,evP,fl,gp,tab,simprocAttr,reduceCtorEq,reduceIte]
     refine fin_run ?_ (hK _ ?_)<;>clear hK<;>clear K
     ·(first|exact trivial|omega|(simp only [In64] at *; omega)|(simp [In64] at *; omega)|(simp_all; done)|skip)
     refine qa (qk ?_)
     simp only [Tryd.results67,enA,ev0,evA,evB,evP,fl,gp,tab,simprocAttr,reduceCtorEq,reduceIte]
     have hbt:b=true:=hbs.2 ⟨k1,hmeet.2 k2,fun a c ha hc h1 h2=>by
      obtain ⟨i',i1,i2⟩:=thl_at ha h1
      exact hi2 a c i' ha hc (by omega) i2 h2⟩
     rw [hbt]
  ·refine hk_draw mixed (by kernel_rfl) fun K hK=>runs_eval tab_ok ?_
   simp only [ev0,evA,evB,evP,fl,gp,tab,simprocAttr,reduceCtorEq,reduceIte,il_length,hmi,decide_eq_true (show (((thl n p).length * (thl n q).length:Nat):Int)=(n:Int) by omega)]
   refine fin_stop ?_ (runs_call (ho1) rfl rfl rfl (by simp only [dstOk,Nat.reduceLT]) (by repeat (first|exact trivial|constructor)) (runs_eval tab_ok ?_))
   ·simp only [In64]; omega
   simp only [ev0,evA,evB,evP,fl,gp,tab,simprocAttr,reduceCtorEq,reduceIte,il_length,hmi,decide_eq_true (show (((thl n p).length * (thl n q).length:Nat):Int)=(n:Int) by omega)]
   refine fin_stop trivial (runs_call (ho2) rfl rfl rfl (by simp only [dstOk,Nat.reduceLT]) (by repeat (first|exact trivial|constructor)) (runs_eval tab_ok ?_))
   simp only [ev0,evA,evB,evP,fl,gp,tab,simprocAttr,reduceCtorEq,reduceIte,hband,il_length,hmi,decide_eq_true (show (((thl n p).length * (thl n q).length:Nat):Int)=(n:Int) by omega)]
   refine fin_stop trivial (runs_call (hgr) rfl rfl rfl (by simp only [dstOk,Nat.reduceLT]) (by repeat (first|exact trivial|constructor)) (runs_eval tab_ok ?_))
   simp only [ev0,evA,evB,evP,fl,gp,tab,simprocAttr,reduceCtorEq,reduceIte,decide_eq_false (show ¬ ((bo n (fun x=>p x && q x):Nat):Int)=((bo n (onp e):Nat):Int) by omega),il_length,hmi,decide_eq_true (show (((thl n p).length * (thl n q).length:Nat):Int)=(n:Int) by omega)]
   refine fin_run ?_ (hK _ ?_)<;>clear hK<;>clear K
   ·(first|exact trivial|omega|(simp only [In64] at *; omega)|(simp [In64] at *; omega)|(simp_all; done)|skip)
   refine qa ?_
   refine hk_cond rfl (fun hC3=>?_) (fun hC3=>?_)
   ·(try simp only [nhs] at hC3)
    refine qm ?_
    refine hk_region fun K hK=>runs_eval tab_ok ?_
    simp only [ev0,evA,evB,evP,fl,gp,tab,simprocAttr,reduceCtorEq,reduceIte]
    refine fin_run ?_ (hK _ ?_)<;>clear hK<;>clear K
    ·(first|exact trivial|omega|(simp only [In64] at *; omega)|(simp [In64] at *; omega)|(simp_all; done)|skip)
    refine qa (qk (qb ?_))
    simp only [Tryd.results67,enA,ev0,evA,evB,evP,fl,gp,tab,simprocAttr,reduceCtorEq,reduceIte]
    have hbf:b=false:=by
     cases b with
     | false=>rfl
     | true=>exact absurd (hmeet.1 (hbs.1 rfl).2.1) k2
    rw [hbf]
   ·cases hC3
end Go.Proofs.YtboadfahlflmhaaDoor

/-
  The builtin clear, over a row of the call's own. Conditions: none; a library text.
-/
set_option linter.all false
namespace Go.Pv
open Go.RowKit

section
variable {P:Program} {T:TypeId→Option TI} {s:St}
end
end Go.Pv

/-
  Walks: rows without doubles. Conditions: none.
-/
set_option linter.all false
namespace Go.Proofs.YtboadfahlflmhaaDoor
open Go.Pv

section
variable {α:Type} [DecidableEq α]
/-- A row without what repeats what stands ahead of it. -/
def cpN (d:α) (xs:List α) (k:Nat):List α:=((List.range k).filter fun j=>j == 0 || decide (xs.getD j d ≠ xs.getD (j - 1) d)).map fun j=>xs.getD j d
theorem cpN_succ (d:α) (xs:List α) (k:Nat):cpN d xs (k + 1)=if k=0∨xs.getD k d ≠ xs.getD (k - 1) d then cpN d xs k++[xs.getD k d] else cpN d xs k:=by
 unfold cpN
 rw [List.range_succ,List.filter_append,List.map_append]
 by_cases h:k=0∨xs.getD k d ≠ xs.getD (k - 1) d
 ·rw [if_pos h]
  congr 1
  rw [List.filter_cons_of_pos (by
   simp only [Bool.or_eq_true,beq_iff_eq,decide_eq_true_eq]
   exact h)]
  rfl
 ·rw [if_neg h]
  rw [List.filter_cons_of_neg (by
   simp only [Bool.or_eq_true,beq_iff_eq,decide_eq_true_eq]
   exact h)]
  simp
/-- Within: what stands so far. -/
structure CpS (d:α) (xs:List α) (i0 k:Nat) (R:List α) (i:Nat):Prop where
 len:R.length=xs.length
 tk:R.take i=cpN d xs (i0 + k)
 il:(cpN d xs (i0 + k)).length=i
 lt:0 < i∧i + 1≤i0 + k
 le:i0 + k≤xs.length
 same:∀ j,i0 + k≤j + 1→j < xs.length→R.getD j d=xs.getD j d

theorem CpS.begin {d:α} {xs:List α} {i:Nat} (hi:i + 1 < xs.length) (h:cpN d xs (i + 1)=xs.take (i + 1)) (hd:xs.getD (i + 1) d=xs.getD i d):CpS d xs (i + 1) 1 xs (i + 1):=by
 have e:cpN d xs (i + 1 + 1)=xs.take (i + 1):=by
  rw [cpN_succ,if_neg (by simpa using hd),h]
 exact ⟨rfl,e.symm,by rw [e]; simp; omega,by omega,by omega,fun _ _ _=>rfl⟩
theorem CpS.skip {d:α} {xs R:List α} {i0 k i:Nat} (h:CpS d xs i0 k R i) (hk:i0 + k < xs.length) (hd:R.getD (i0 + k) d=R.getD (i0 + k - 1) d):CpS d xs i0 (k + 1) R i:=by
 have hl:=h.lt
 rw [h.same _ (by omega) hk,h.same _ (by omega) (by omega)] at hd
 have e:cpN d xs (i0 + (k + 1))=cpN d xs (i0 + k):=by
  rw [← Nat.add_assoc,cpN_succ,if_neg]
  rintro (h1 | h1)
  ·omega
  ·exact h1 hd
 exact ⟨h.len,by rw [e]; exact h.tk,by rw [e]; exact h.il,by omega,by omega,fun j h1 h2=>h.same j (by omega) h2⟩
theorem CpS.keep {d:α} {xs R:List α} {i0 k i:Nat} (h:CpS d xs i0 k R i) (hk:i0 + k < xs.length) (hd:R.getD (i0 + k) d ≠ R.getD (i0 + k - 1) d):CpS d xs i0 (k + 1) (R.set i (R.getD (i0 + k) d)) (i + 1):=by
 have hl:=h.lt
 have e0:=h.same (i0 + k) (by omega) hk
 rw [e0] at hd ⊢
 rw [h.same _ (by omega) (by omega)] at hd
 have e:cpN d xs (i0 + (k + 1))=cpN d xs (i0 + k)++[xs.getD (i0 + k) d]:=by
  rw [← Nat.add_assoc,cpN_succ,if_pos (.inr hd)]
 have hiR:i < R.length:=by rw [h.len]; omega
 refine ⟨by rw [List.length_set]; exact h.len,?_,by rw [e,List.length_append,h.il]; rfl,by omega,by omega,fun j h1 h2=>?_⟩
 ·rw [e,← h.tk,List.take_succ_eq_append_getElem (by rw [List.length_set]; exact hiR),List.take_set_of_le (Nat.le_refl _)]
  simp
 ·have hne:i ≠ j:=by omega
  rw [← h.same j (by omega) h2]
  simp only [List.getD,List.getElem?_set_ne hne]
end

theorem equal_c (v w:List Int) (hl:v.length≤1000000) (hw:w.length≤1000000):FnC Tryd.prog 86 [.list (il v),.list (il w)] (.bool (decide (v=w))):=by
 refine fnc_of tab_ok Tryd.func86 rfl (by kernel_rfl) (by rw [Tryd.ntmps86]; exact Nat.le_add_left 2 _) ?_; rw [Tryd.ntmps86]
 refine qm ?_
 refine hk_region fun K hK=>runs_eval tab_ok ?_
 simp only [ev0,evA,evB,evP,fl,gp,tab,simprocAttr,reduceCtorEq,reduceIte]
 refine fin_run trivial (hK _ ?_)<;>clear hK<;>clear K
 refine qa (qm (qm ?_))
 refine hk_region fun K hK=>runs_eval tab_ok ?_
 simp only [ev0,evA,evB,evP,fl,gp,tab,simprocAttr,reduceCtorEq,reduceIte,il_length]
 refine fin_run trivial (hK _ ?_)<;>clear hK<;>clear K
 refine qa ?_
 refine hk_cond rfl (fun hC1=>?_) (fun hC1=>?_)
 ·(try simp only [nhs] at hC1)
  have hne:v ≠ w:=fun h=>hC1 (by rw [h])
  refine qm ?_
  refine hk_region fun K hK=>runs_eval tab_ok ?_
  simp only [ev0,evA,evB,evP,fl,gp,tab,simprocAttr,reduceCtorEq,reduceIte]
  refine fin_run trivial (hK _ ?_)<;>clear hK<;>clear K
  refine qa (qk (qb ?_))
  simp only [Tryd.results86,enA,ev0,evA,evB,evP,fl,gp,tab,simprocAttr,reduceCtorEq,reduceIte]
  all_goals (simp [hne])
 ·(try simp only [nhs] at hC1)
  refine qh (qa (qm (qm ?_)))
  refine hk_region fun K hK=>runs_eval tab_ok ?_
  simp only [ev0,evA,evB,evP,fl,gp,tab,simprocAttr,reduceCtorEq,reduceIte,il_length]
  refine fin_run trivial (hK _ ?_)<;>clear hK<;>clear K
  refine qa (ql ?_)
  refine hk_loop (ι:=Nat) (fun k=>⟨26,[(0,.p (.list (il v))),(1,.p (.list (il w))),(12,.p (.int .i64 v.length)),(13,.p (.int .i64 k))],[]⟩) (fun k=>k≤v.length∧∀ j,j < k→v.getD j 0=w.getD j 0) (fun k=>v.length - k) 0 ⟨Nat.zero_le _,fun j hj=>absurd hj (Nat.not_lt_zero _)⟩ [] (by simp only [leq,leA,ev0,evA,evB,evP,fl,gp,tab,simprocAttr,reduceCtorEq,reduceIte]<;>trivial) fun k hk=>?_
  obtain ⟨hk1,hk2⟩:=hk
  refine qm ?_
  refine hk_region fun K hK=>runs_eval tab_ok ?_
  simp only [ev0,evA,evB,evP,fl,gp,tab,simprocAttr,reduceCtorEq,reduceIte]
  refine fin_run trivial (hK _ ?_)<;>clear hK<;>clear K
  refine qa (qm ?_)
  refine hk_cond rfl (fun hC2=>?_) (fun hC2=>?_)
  ·(try simp only [nhs] at hC2)
   have hkl:k < v.length:=by omega
   refine qh (qa (qm (ql (qm ?_))))
   refine hk_region fun K hK=>runs_eval tab_ok ?_
   simp only [ev0,evA,evB,evP,fl,gp,tab,simprocAttr,reduceCtorEq,reduceIte]
   refine fin_run trivial (hK _ ?_)<;>clear hK<;>clear K
   refine qa (qm ?_)
   refine hk_draw mixed (by kernel_rfl) fun K hK=>runs_eval tab_ok ?_
   simp only [ev0,evA,evB,evP,fl,gp,tab,simprocAttr,reduceCtorEq,reduceIte,il_get (show k < v.length by omega),il_get (show k < w.length by omega)]
   refine fin_run ?_ (hK _ ?_)<;>clear hK<;>clear K
   ·(first|exact trivial|omega|(simp only [In64] at *; omega)|(simp [In64] at *; omega)|(simp_all; done)|skip)
   refine qa ?_
   refine hk_cond rfl (fun hC3=>?_) (fun hC3=>?_)
   ·(try simp only [nhs] at hC3)
    have hne:v ≠ w:=fun h=>hC3 (by rw [h])
    refine qm ?_
    refine hk_region fun K hK=>runs_eval tab_ok ?_
    simp only [ev0,evA,evB,evP,fl,gp,tab,simprocAttr,reduceCtorEq,reduceIte]
    refine fin_run trivial (hK _ ?_)<;>clear hK<;>clear K
    refine qa (qk (qe (qb (qb (qe (qb ?_))))))
    simp only [Tryd.results86,enA,ev0,evA,evB,evP,fl,gp,tab,simprocAttr,reduceCtorEq,reduceIte]
    all_goals (simp [hne])
   ·(try simp only [nhs] at hC3)
    refine qh (qd (qa ?_))
    refine hk_region fun K hK=>runs_eval tab_ok ?_
    simp only [ev0,evA,evB,evP,fl,gp,tab,simprocAttr,reduceCtorEq,reduceIte]
    refine fin_run ?_ (hK _ ?_)<;>clear hK<;>clear K
    ·(first|exact trivial|omega|(simp only [In64] at *; omega)|(simp [In64] at *; omega)|(simp_all; done)|skip)
    refine qa ?_
    refine ⟨k + 1,[],⟨by omega,fun j hj=>?_⟩,by omega,?_⟩
    ·by_cases hjk:j=k
     ·rw [hjk]; simpa using hC3
     ·exact hk2 j (by omega)
    ·simp only [leq,leA,ev0,evA,evB,evP,fl,gp,tab,simprocAttr,reduceCtorEq,reduceIte]<;>first|trivial|omega
  ·(try simp only [nhs] at hC2)
   have he:v=w:=by
    refine List.ext_getElem (by omega) fun j h1 h2=>?_
    have:=hk2 j (by omega)
    simpa [List.getD,List.getElem?_eq_getElem h1,List.getElem?_eq_getElem h2] using this
   refine qj (qc (qc (qf (qa (qm ?_)))))
   refine hk_region fun K hK=>runs_eval tab_ok ?_
   simp only [ev0,evA,evB,evP,fl,gp,tab,simprocAttr,reduceCtorEq,reduceIte]
   refine fin_run trivial (hK _ ?_)<;>clear hK<;>clear K
   refine qa (qk ?_)
   simp only [Tryd.results86,enA,ev0,evA,evB,evP,fl,gp,tab,simprocAttr,reduceCtorEq,reduceIte]
   all_goals (simp [he])

end Go.Proofs.YtboadfahlflmhaaDoor

/-
  Composition series: parts of parts; the greatest normal subgroup; Composition walked. Conditions: none.
-/
set_option linter.all false
namespace Go.Proofs.YtboadfahlflmhaaDoor
open Go.Pv

/-! ### What a part has, in the whole -/

def lft (p q:Nat→Bool) (x:Nat):Bool:=p x && q (pix p x)
theorem lat_pix {n x:Nat} {p:Nat→Bool} (hx:x < n) (hp:p x=true):lat n p (pix p x)=x:=by
 have:=(pix_at hx hp).2
 unfold lat; rw [this]; rfl
theorem lat_low {n i:Nat} {p:Nat→Bool} (hi:i < (thl n p).length):lat (n + 1) p i=lat n p i:=by
 unfold lat
 rw [thl_succ,List.getD_eq_getElem?_getD,List.getElem?_append_left hi,← List.getD_eq_getElem?_getD]
theorem lft_thl (p q:Nat→Bool):∀ n,(thl (thl n p).length q).map (fun z=>((lat n p z.toNat:Nat):Int))=thl n (lft p q)
 | 0=>rfl
 | n + 1=>by
  have ih:=lft_thl p q n
  have hc:(thl (thl n p).length q).map (fun z=>((lat (n + 1) p z.toNat:Nat):Int))=thl n (lft p q):=by
   rw [← ih]
   refine List.map_congr_left fun z hz=>?_
   obtain ⟨i,i1,_,rfl⟩:=mem_thl.1 hz
   rw [Int.toNat_natCast,lat_low i1]
  rw [thl_succ n (lft p q)]
  by_cases hp:p n=true
  ·have hl:(thl (n + 1) p).length=(thl n p).length + 1:=by rw [thl_succ,if_pos hp]; simp
   have ha:lat (n + 1) p (thl n p).length=n:=by
    unfold lat
    rw [thl_succ,if_pos hp]; simp [List.getD]
   rw [hl,thl_succ,List.map_append,hc]
   have hv:lft p q n=q (thl n p).length:=by unfold lft pix; rw [hp]; rfl
   rw [hv]
   by_cases hq:q (thl n p).length=true
   ·rw [if_pos hq,if_pos hq]; simp [ha]
   ·rw [if_neg hq,if_neg hq]; rfl
  ·have hl:thl (n + 1) p=thl n p:=by rw [thl_succ,if_neg hp]; simp
   have hv:lft p q n=false:=by unfold lft; rw [Bool.not_eq_true] at hp; rw [hp]; rfl
   rw [hl,hv,if_neg (by simp),List.append_nil]
   exact hc

section
variable {n e:Nat} {f:Nat→Nat→Nat} {p q:Nat→Bool}

theorem pop_pix (hs:Sub n f e p) {a b:Nat} (ha:a < n) (hb:b < n) (pa:p a=true) (pb:p b=true):pop n f p (pix p a) (pix p b)=pix p (f a b):=by
 unfold pop; rw [lat_pix ha pa,lat_pix hb pb]
theorem cjr_in (G:Grp n f e) (hs:Sub n f e p) {x a:Nat} (hx:x < n) (ha:a < n) (px:p x=true) (pa:p a=true):p (cjr n f e x a)=true:=by
 have hi:=G.iv_lt ha
 have pi:=hs.inv _ ha pa
 exact hs.mul _ _ (G.cl _ _ hi hx) ha (hs.mul _ _ hi hx pi px) pa

/-- A normal subgroup of a subgroup, not all of it; with any thing more, and what that is conjugated to, it is all. -/
structure Mxn (n:Nat) (f:Nat→Nat→Nat) (e:Nat) (p p' : Nat→Bool):Prop where
 sub:Sub n f e p'
 le:∀ x,x < n→p' x=true→p x=true
 nml:∀ a x,a < n→x < n→p a=true→p' x=true→p' (cjr n f e x a)=true
 ne:∃ x,x < n∧p x=true∧p' x=false
 mx:∀ x,x < n→p x=true→p' x=false→∀ t:Nat→Bool,Sub n f e t→(∀ y,y < n→p' y=true→t y=true)→(∀ b,b < n→p b=true→t (cjr n f e x b)=true)→∀ y,y < n→p y=true→t y=true

def wth (q:Nat→Bool) (a x:Nat):Bool:=q x || decide (x=a)
/-- What the greatest normal subgroup is. -/
structure Grt (n:Nat) (f:Nat→Nat→Nat) (e:Nat) (q:Nat→Bool):Prop where
 sub:Sub n f e q
 nml:Nml n f e q
 ne:∃ x,x < n∧q x=false
 mx:∀ a,a < n→q a=false→∀ y,y < n→Gen n f e (cup n f e (wth q a)) y

theorem Mxn.lt (h:Mxn n f e p q):(mem n q).length < (mem n p).length:=mem_lt h.le fun hh=>by
 obtain ⟨x,x1,x2,x3⟩:=h.ne
 rw [hh x x1] at x3; rw [x3] at x2; cases x2
end

section
variable {n e:Nat} {f:Nat→Nat→Nat}
end

/-! ### greatest -/

/-! ### Composition -/

theorem Grt.cong {n e:Nat} {f g:Nat→Nat→Nat} {q:Nat→Bool} (G:Grp n f e) (h:∀ a b,a < n→b < n→g a b=f a b) (hq:Grt n g e q):Grt n f e q:=
 ⟨hq.sub.cong_op G h,hq.nml.cong_op G h,hq.ne,fun a ha hqa y hy=>(Gen.mono (fun b _ hb=>by rwa [cup_cong G h] at hb) (hq.mx a ha hqa y hy)).cong_op G h⟩

section
variable {n e:Nat} {m:List Int}
theorem ptb_GT (h:GT n m n e) {p:Nat→Bool} (hs:Sub n (op m n) e p):GT (thl n p).length (ptb n (op m n) p) (thl n p).length (pix p e):=by
 have:=thl_le n p
 have:=h.2.1.big
 exact tbl_GT' (by omega) (ptb_grp h.2.2 hs)
/-- A composition series: from all on, to one thing. -/
structure Cps (n:Nat) (f:Nat→Nat→Nat) (e:Nat) (T:Nat→Nat→Bool) (K:Nat):Prop where
 all:T 0=fun _=>true
 sub:∀ k,k≤K→Sub n f e (T k)
 mxn:∀ k,k < K→Mxn n f e (T k) (T (k + 1))
 last:(thl n (T K)).length=1
 short:K≤5

end
end Go.Proofs.YtboadfahlflmhaaDoor

/-
  Plain: chains of subgroups whose steps are as small as can be (Jordan and Hoelder). Conditions: none.
-/
set_option linter.all false
namespace Go.Proofs.YtboadfahlflmhaaDoor

section
variable {n e:Nat} {f:Nat→Nat→Nat} {p q a b:Nat→Bool}
theorem Mxn.nz (G:Grp n f e) (h:Mxn n f e p q) {c:Nat} (hc:c < n) (pc:p c=true):nzr n f e q c=true:=
 G.nzr_of h.sub hc fun y hy hh=>by
  obtain ⟨x,x1,x2,rfl⟩:=shf_iff.1 hh
  exact h.nml c x hc x1 pc x2
theorem Mxn.congr_l {p' : Nat→Bool} (h:Mxn n f e p q) (hp:∀ x,x < n→p' x=p x):Mxn n f e p' q where
 sub:=h.sub
 le x hx hq:=by rw [hp x hx]; exact h.le x hx hq
 nml c x hc hx pc:=h.nml c x hc hx (by rw [← hp c hc]; exact pc)
 ne:=by obtain ⟨x,x1,x2,x3⟩:=h.ne; exact ⟨x,x1,by rw [hp x x1]; exact x2,x3⟩
 mx x hx px qx t ht h1 h2 y hy py:=h.mx x hx (by rwa [← hp x hx]) qx t ht h1 (fun c hc pc=>h2 c hc (by rwa [hp c hc])) y hy (by rwa [← hp y hy])
theorem Mxn.congr_r {q' : Nat→Bool} (G:Grp n f e) (h:Mxn n f e p q) (hs:Sub n f e q') (hq:∀ x,x < n→q' x=q x):Mxn n f e p q' where
 sub:=hs
 le x hx hh:=h.le x hx (by rwa [← hq x hx])
 nml c x hc hx pc hh:=by
  rw [hq _ (G.cjr_lt hx hc)]
  exact h.nml c x hc hx pc (by rwa [← hq x hx])
 ne:=by obtain ⟨x,x1,x2,x3⟩:=h.ne; exact ⟨x,x1,x2,by rw [hq x x1]; exact x3⟩
 mx x hx px qx t ht h1 h2 y hy py:=h.mx x hx px (by rwa [← hq x hx]) t ht (fun y hy hh=>h1 y hy (by rwa [hq y hy])) h2 y hy py

theorem Mxn.top (G:Grp n f e) (ha:Mxn n f e p a) (hb:Mxn n f e p b) (hne:¬ ∀ x,x < n→a x=b x) {y:Nat} (hy:y < n) (py:p y=true):pr2 n f e a b y=true:=by
 by_cases hsub:∀ x,x < n→b x=true→a x=true
 ·exfalso
  have h1:∃ x,x < n∧a x=true∧b x=false:=by
   refine Classical.byContradiction fun hh=>hne fun x hx=>?_
   cases hbx:b x with
   | true=>exact hsub x hx hbx
   | false =>
    cases hax:a x with
    | false=>rfl
    | true=>exact absurd ⟨x,hx,hax,hbx⟩ hh
  obtain ⟨x,x1,x2,x3⟩:=h1
  obtain ⟨z,z1,z2,z3⟩:=ha.ne
  have:=hb.mx x x1 (ha.le x x1 x2) x3 a ha.sub hsub (fun c hc pc=>ha.nml c x hc x1 pc x2) z z1 z2
  rw [this] at z3; cases z3
 ·have h1:∃ x,x < n∧b x=true∧a x=false:=by
   refine Classical.byContradiction fun hh=>hsub fun x hx hbx=>?_
   cases hax:a x with
   | true=>rfl
   | false=>exact absurd ⟨x,hx,hbx,hax⟩ hh
  obtain ⟨x,x1,x2,x3⟩:=h1
  refine ha.mx x x1 (hb.le x x1 x2) x3 _ (G.nz_prod ha.sub hb.sub fun c hc bc=>ha.nz G hc (hb.le c hc bc)) (fun z hz az=>?_) (fun c hc pc=>?_) y hy py
  ·have:=G.pr2_mk (p:=a) (q:=b) hz G.el az hb.sub.one; rwa [G.one_r z hz] at this
  ·have hl:=G.cjr_lt x1 hc
   have:=G.pr2_mk (p:=a) (q:=b) G.el hl ha.sub.one (hb.nml c x hc x1 pc x2); rwa [G.one_l _ hl] at this

theorem Mxn.meet (G:Grp n f e) (hp:Sub n f e p) (ha:Mxn n f e p a) (hb:Mxn n f e p b) (hne:¬ ∀ x,x < n→a x=b x):Mxn n f e a fun x=>a x && b x where
 sub:=ha.sub.and hb.sub
 le x hx h:=by rw [Bool.and_eq_true] at h; exact h.1
 nml c x hc hx ac h:=by
  rw [Bool.and_eq_true] at h ⊢
  exact ⟨ha.nml c x hc hx (ha.le c hc ac) h.1,hb.nml c x hc hx (ha.le c hc ac) h.2⟩
 ne:=by
  refine Classical.byContradiction fun hh=>?_
  have hab:∀ x,x < n→a x=true→b x=true:=fun x hx ax=>by
   cases hbx:b x with
   | true=>rfl
   | false=>exact absurd ⟨x,hx,ax,by rw [hbx,Bool.and_false]⟩ hh
  obtain ⟨z,z1,z2,z3⟩:=hb.ne
  have h1:=ha.top G hb hne z1 z2
  obtain ⟨u,v,u1,v1,u2,v2,rfl⟩:=G.pr2_un z1 h1
  rw [hb.sub.mul _ _ u1 v1 (hab u u1 u2) v2] at z3
  cases z3
 mx x hx ax hdx t ht h1 h2 y hy ay:=by
  have bx:b x=false:=by rw [ax,Bool.true_and] at hdx; exact hdx
  have hs:=ht.and ha.sub
  have hpr:Sub n f e (pr2 n f e b fun x=>t x && a x):=G.nz_prod hb.sub hs fun c hc tc=>by
   rw [Bool.and_eq_true] at tc
   exact hb.nz G hc (ha.le c hc tc.2)
  have hall:=hb.mx x hx (ha.le x hx ax) bx _ hpr (fun z hz bz=>by
   have:=G.pr2_mk (p:=b) (q:=fun x=>t x && a x) hz G.el bz hs.one; rwa [G.one_r z hz] at this) (fun c hc pc=>?_) y hy (ha.le y hy ay)
  ·obtain ⟨w,v,w1,v1,w2,v2,rfl⟩:=G.pr2_un hy hall
   rw [Bool.and_eq_true] at v2
   have iv:=G.iv_lt v1
   have h3:a w=true:=by
    have:=ha.sub.mul _ _ hy iv ay (ha.sub.inv v v1 v2.2)
    rwa [G.assoc _ _ _ w1 v1 iv,G.mul_iv v1,G.one_r w w1] at this
   exact ht.mul _ _ w1 v1 (h1 w w1 (by rw [h3,w2]; rfl)) v2.1
  ·obtain ⟨u,v,u1,v1,u2,v2,rfl⟩:=G.pr2_un hc (ha.top G hb hne hc pc)
   have hyl:=G.cjr_lt hx u1
   have ty:=h2 u u1 u2
   have ayy:=ha.nml u x u1 hx (ha.le u u1 u2) ax
   have iyv:=G.iv_lt v1
   have iyy:=G.iv_lt hyl
   have hcv:=G.cjr_lt v1 iyy
   have e1:cjr n f e x (f u v)=f (f (iv n f e v) (cjr n f e v (iv n f e (cjr n f e x u)))) (cjr n f e x u):=by
    rw [← G.cjr_cjr hx u1 v1]
    show f (f (iv n f e v) (cjr n f e x u)) v=_
    have:cjr n f e v (iv n f e (cjr n f e x u))=f (f (cjr n f e x u) v) (iv n f e (cjr n f e x u)):=by
     show f (f (iv n f e (iv n f e (cjr n f e x u))) v) (iv n f e (cjr n f e x u))=_
     rw [G.iv_iv hyl]
    rw [this,G.assoc _ _ _ iyv (G.cl _ _ (G.cl _ _ hyl v1) iyy) hyl,G.assoc _ _ _ (G.cl _ _ hyl v1) iyy hyl,G.iv_mul hyl,G.one_r _ (G.cl _ _ hyl v1),G.assoc _ _ _ iyv hyl v1]
   rw [e1]
   refine G.pr2_mk (G.cl _ _ iyv hcv) hyl (hb.sub.mul _ _ iyv hcv (hb.sub.inv v v1 v2) ?_) (by rw [ty,ayy]; rfl)
   exact hb.nml _ v iyy v1 (hp.inv _ hyl (ha.le _ hyl ayy)) v2

/-- A chain from a subgroup down to the one. -/
def Chn (n:Nat) (f:Nat→Nat→Nat) (e:Nat):(Nat→Bool)→List (Nat→Bool)→Prop
 | p,[]=>∀ x,x < n→p x=true→x=e
 | p,q :: l=>Mxn n f e p q∧Chn n f e q l
def idx (n:Nat):(Nat→Bool)→List (Nat→Bool)→List Nat
 | _,[]=>[]
 | p,q :: l=>(mem n p).length / (mem n q).length :: idx n q l
theorem Chn.congr {p' : Nat→Bool} (hp:∀ x,x < n→p' x=p x):∀ {l:List (Nat→Bool)},Chn n f e p l→Chn n f e p' l∧idx n p' l=idx n p l
 | [],h=>⟨fun x hx hh=>h x hx (by rwa [← hp x hx]),rfl⟩
 | q :: l,h=>⟨⟨h.1.congr_l hp,h.2⟩,by show _ / _ :: _=_ / _ :: _; rw [mem_congr hp]⟩
theorem Mxn.le_len (G:Grp n f e) (hp:Sub n f e p) (h:Mxn n f e p q):(mem n p).length / (mem n q).length * (mem n q).length=(mem n p).length:=
 Nat.div_mul_cancel (h.sub.dvd G fun x y hx hy h1 h2=>hp.mul _ _ hx hy h1 (h.le y hy h2))
theorem Chn.prod (G:Grp n f e):∀ {l:List (Nat→Bool)} {p:Nat→Bool},Sub n f e p→Chn n f e p l→(idx n p l).foldl (· * ·) 1=(mem n p).length:=by
 have key:∀ (l:List (Nat→Bool)) (p:Nat→Bool) (c:Nat),Sub n f e p→Chn n f e p l→(idx n p l).foldl (· * ·) c=c * (mem n p).length:=by
  intro l
  induction l with
  | nil =>
   intro p c hp h
   show c=_
   rw [mem_one G.el fun x hx=>⟨h x hx,fun hh=>by rw [hh]; exact hp.one⟩,Nat.mul_one]
  | cons q l ih =>
   intro p c hp h
   show (idx n q l).foldl _ (c * _)=_
   rw [ih q _ h.1.sub h.2,Nat.mul_assoc,h.1.le_len G hp]
 intro l p hp h
 rw [key l p 1 hp h,Nat.one_mul]

end
end Go.Proofs.YtboadfahlflmhaaDoor

/-
  Plain: homomorphisms of a subgroup onto a group; chains go there and back; steps in which things commute. Conditions: none.
-/
set_option linter.all false
namespace Go.Proofs.YtboadfahlflmhaaDoor

/-- A homomorphism of a subgroup onto a group. -/
structure Hm (n:Nat) (f:Nat→Nat→Nat) (e:Nat) (p:Nat→Bool) (k:Nat) (g:Nat→Nat→Nat) (d:Nat) (φ:Nat→Nat):Prop where
 grp:Grp k g d
 sub:Sub n f e p
 lt:∀ x,x < n→p x=true→φ x < k
 mul:∀ x y,x < n→y < n→p x=true→p y=true→φ (f x y)=g (φ x) (φ y)
 onto:∀ i,i < k→∃ x,x < n∧p x=true∧φ x=i

section
variable {n e k d:Nat} {f g:Nat→Nat→Nat} {p:Nat→Bool} {φ:Nat→Nat}
theorem Hm.one (H:Hm n f e p k g d φ) (G:Grp n f e):φ e=d:=by
 have h1:=H.mul e e G.el G.el H.sub.one H.sub.one
 have hl:=H.lt e G.el H.sub.one
 rw [G.one_l e G.el] at h1
 have h2:g (φ e) d=g (φ e) (φ e):=by rw [← h1,H.grp.one_r _ hl]
 exact (H.grp.cancel_l hl H.grp.el hl h2).symm
theorem Hm.iv (H:Hm n f e p k g d φ) (G:Grp n f e) {x:Nat} (hx:x < n) (px:p x=true):φ (Go.Proofs.YtboadfahlflmhaaDoor.iv n f e x)=Go.Proofs.YtboadfahlflmhaaDoor.iv k g d (φ x):=by
 have ix:=G.iv_lt hx
 have pix:=H.sub.inv x hx px
 refine H.grp.iv_unique (H.lt x hx px) (H.lt _ ix pix) (.inl ?_)
 rw [← H.mul _ _ hx ix px pix,G.mul_iv hx,H.one G]
theorem Hm.cjr (H:Hm n f e p k g d φ) (G:Grp n f e) {x c:Nat} (hx:x < n) (hc:c < n) (px:p x=true) (pc:p c=true):φ (Go.Proofs.YtboadfahlflmhaaDoor.cjr n f e x c)=Go.Proofs.YtboadfahlflmhaaDoor.cjr k g d (φ x) (φ c):=by
 have ic:=G.iv_lt hc
 have pi:=H.sub.inv c hc pc
 show φ (f (f _ _) _)=g (g _ _) _
 rw [H.mul _ _ (G.cl _ _ ic hx) hc (H.sub.mul _ _ ic hx pi px) pc,H.mul _ _ ic hx pi px,H.iv G hc pc]
theorem Hm.cmt (H:Hm n f e p k g d φ) (G:Grp n f e) {x c:Nat} (hx:x < n) (hc:c < n) (px:p x=true) (pc:p c=true):φ (Go.Proofs.YtboadfahlflmhaaDoor.cmt n f e x c)=Go.Proofs.YtboadfahlflmhaaDoor.cmt k g d (φ x) (φ c):=by
 have ic:=G.iv_lt hc
 have ix:=G.iv_lt hx
 have pic:=H.sub.inv c hc pc
 have pix:=H.sub.inv x hx px
 show φ (f (f _ _) (f _ _))=g (g _ _) (g _ _)
 rw [H.mul _ _ (G.cl _ _ ix ic) (G.cl _ _ hx hc) (H.sub.mul _ _ ix ic pix pic) (H.sub.mul _ _ hx hc px pc),H.mul _ _ ix ic pix pic,H.mul _ _ hx hc px pc,H.iv G hc pc,H.iv G hx px]
theorem cmt_in {q:Nat→Bool} (G:Grp n f e) (hq:Sub n f e q) {x c:Nat} (hx:x < n) (hc:c < n) (px:q x=true) (pc:q c=true):q (cmt n f e x c)=true:=
 hq.mul _ _ (G.cl _ _ (G.iv_lt hx) (G.iv_lt hc)) (G.cl _ _ hx hc) (hq.mul _ _ (G.iv_lt hx) (G.iv_lt hc) (hq.inv _ hx px) (hq.inv _ hc pc)) (hq.mul _ _ hx hc px pc)

/-- What goes into a set. -/
def pre (p:Nat→Bool) (φ:Nat→Nat) (b:Nat→Bool) (x:Nat):Bool:=p x && b (φ x)
theorem pre_iff {b:Nat→Bool} {x:Nat} : pre p φ b x=true↔p x=true∧b (φ x)=true:=by unfold pre; rw [Bool.and_eq_true]
theorem Hm.pre_sub (H:Hm n f e p k g d φ) (G:Grp n f e) {b:Nat→Bool} (hb:Sub k g d b):Sub n f e (pre p φ b):=
 sub_of G (pre_iff.2 ⟨H.sub.one,by rw [H.one G]; exact hb.one⟩) fun x y hx hy h1 h2=>by
  obtain ⟨h1,h3⟩:=pre_iff.1 h1
  obtain ⟨h2,h4⟩:=pre_iff.1 h2
  exact pre_iff.2 ⟨H.sub.mul x y hx hy h1 h2,by rw [H.mul x y hx hy h1 h2]; exact hb.mul _ _ (H.lt x hx h1) (H.lt y hy h2) h3 h4⟩
theorem Hm.of_pre (H:Hm n f e p k g d φ) (G:Grp n f e) {a b:Nat→Bool} (hb:Sub k g d b) (h:Mxn n f e (pre p φ a) (pre p φ b)):Mxn k g d a b where
 sub:=hb
 le i hi bi:=by
  obtain ⟨x,x1,x2,rfl⟩:=H.onto i hi
  exact (pre_iff.1 (h.le x x1 (pre_iff.2 ⟨x2,bi⟩))).2
 nml c i hc hi ac bi:=by
  obtain ⟨x,x1,x2,rfl⟩:=H.onto i hi
  obtain ⟨y,y1,y2,rfl⟩:=H.onto c hc
  have:=(pre_iff.1 (h.nml y x y1 x1 (pre_iff.2 ⟨y2,ac⟩) (pre_iff.2 ⟨x2,bi⟩))).2
  rwa [H.cjr G x1 y1 x2 y2] at this
 ne:=by
  obtain ⟨x,x1,x2,x3⟩:=h.ne
  obtain ⟨px,ax⟩:=pre_iff.1 x2
  unfold pre at x3
  rw [px,Bool.true_and] at x3
  exact ⟨_,H.lt x x1 px,ax,x3⟩
 mx i hi ai bi t ht h1 h2 j hj aj:=by
  obtain ⟨x,x1,x2,rfl⟩:=H.onto i hi
  obtain ⟨y,y1,y2,rfl⟩:=H.onto j hj
  refine (pre_iff.1 (h.mx x x1 (pre_iff.2 ⟨x2,ai⟩) (by unfold pre; rw [bi,Bool.and_false]) (pre p φ t) (H.pre_sub G ht) (fun z hz hh=>?_) (fun c hc hh=>?_) y y1 (pre_iff.2 ⟨y2,aj⟩))).2
  ·obtain ⟨pz,bz⟩:=pre_iff.1 hh
   exact pre_iff.2 ⟨pz,h1 _ (H.lt z hz pz) bz⟩
  ·obtain ⟨pc,ac⟩:=pre_iff.1 hh
   exact pre_iff.2 ⟨cjr_in G H.sub x1 hc x2 pc,by rw [H.cjr G x1 hc x2 pc]; exact h2 _ (H.lt c hc pc) ac⟩

/-- Things of the first commute, up to the second. -/
def Abl (n:Nat) (f:Nat→Nat→Nat) (e:Nat) (p q:Nat→Bool):Prop:=∀ x y,x < n→y < n→p x=true→p y=true→q (cmt n f e x y)=true
def AbC (n:Nat) (f:Nat→Nat→Nat) (e:Nat):(Nat→Bool)→List (Nat→Bool)→Prop
 | _,[]=>True
 | p,q :: l=>Abl n f e p q∧AbC n f e q l
theorem AbC.congr {p' : Nat→Bool} (hp:∀ x,x < n→p' x=p x):∀ {l:List (Nat→Bool)},AbC n f e p l→AbC n f e p' l
 | [],_=>trivial
 | q :: l,h=>⟨fun x y hx hy h1 h2=>h.1 x y hx hy (by rwa [← hp x hx]) (by rwa [← hp y hy]),h.2⟩
theorem Chn.subs (G:Grp n f e):∀ {l:List (Nat→Bool)} {p:Nat→Bool},Chn n f e p l→∀ q∈l,Sub n f e q
 | [],_,_,q,hq=>by simp at hq
 | r :: l,p,h,q,hq=>by
  rcases List.mem_cons.1 hq with rfl | hq
  ·exact h.1.sub
  ·exact Chn.subs G h.2 q hq

end
end Go.Proofs.YtboadfahlflmhaaDoor

/-
  Plain: each step of a chain has its quotient; it is of a prime where things commute; what is solvable. Conditions: none.
-/
set_option linter.all false
namespace Go.Proofs.YtboadfahlflmhaaDoor

section
variable {n e:Nat} {f:Nat→Nat→Nat} {p q:Nat→Bool}
/-- The quotient of a group. -/
theorem quot_hm (G:Grp n f e) (hq:Sub n f e q) (hN:Nml n f e q):Hm n f e (fun _=>true) (cst n (dco n f q (onp e))).length (qop f (clq n (dco n f q (onp e))) (rpq n (dco n f q (onp e)))) (clq n (dco n f q (onp e)) e) (clq n (dco n f q (onp e))):=by
 have E:=G.dco_eqv hq G.onp_sub
 have Q:=cst_qm G E fun a b c d ha hb hc hd h1 h2=>G.rco_cong hq hN ha hb hc hd h1 h2
 exact ⟨Q.grp G,G.all_sub,fun x hx _=>Q.lt x hx,fun x y hx hy _ _=>(Q.op hx hy).symm,fun i hi=>⟨_,Q.rlt i hi,rfl,Q.at_ i hi⟩⟩
theorem quot_ker (G:Grp n f e) (hq:Sub n f e q) {x:Nat} (hx:x < n):clq n (dco n f q (onp e)) x=clq n (dco n f q (onp e)) e↔q x=true:=by
 have E:=G.dco_eqv hq G.onp_sub
 rw [clq_iff E hx G.el,G.rco_iff hx G.el,G.one_l _ (G.iv_lt hx)]
 exact ⟨fun h=>by have:=hq.inv _ (G.iv_lt hx) h; rwa [G.iv_iv hx] at this,fun h=>hq.inv x hx h⟩
theorem quot_num (G:Grp n f e) (hq:Sub n f e q):(cst n (dco n f q (onp e))).length * (mem n q).length=n:=by
 rw [cst_len]; exact G.rco_num hq
/-- The part of a group. -/
theorem part_hm (G:Grp n f e) (hp:Sub n f e p):Hm n f e p (thl n p).length (pop n f p) (pix p e) (pix p):=
 ⟨ptb_grp G hp,hp,fun x hx px=>(pix_at hx px).1,fun x y hx hy px py=>(pop_pix hp hx hy px py).symm,fun i hi=>⟨lat n p i,(lat_at hi).1,(lat_at hi).2.1,(lat_at hi).2.2.2⟩⟩
variable {k k2 d d2:Nat} {g g2:Nat→Nat→Nat} {φ ψ:Nat→Nat}
theorem Hm.comp (H:Hm n f e p k g d φ) (K:Hm k g d (fun _=>true) k2 g2 d2 ψ):Hm n f e p k2 g2 d2 fun x=>ψ (φ x) where
 grp:=K.grp
 sub:=H.sub
 lt x hx px:=K.lt _ (H.lt x hx px) rfl
 mul x y hx hy px py:=by
  show ψ (φ (f x y))=_
  rw [H.mul x y hx hy px py,K.mul _ _ (H.lt x hx px) (H.lt y hy py) rfl rfl]
 onto i hi:=by
  obtain ⟨y,y1,_,rfl⟩:=K.onto i hi
  obtain ⟨x,x1,x2,rfl⟩:=H.onto y y1
  exact ⟨x,x1,x2,rfl⟩
theorem Hm.cong_op (H:Hm n f e p k g d φ) (h:∀ a b,a < k→b < k→g2 a b=g a b) (G2:Grp k g2 d):Hm n f e p k g2 d φ:=
 ⟨G2,H.sub,H.lt,fun x y hx hy px py=>by rw [H.mul x y hx hy px py,h _ _ (H.lt x hx px) (H.lt y hy py)],H.onto⟩
/-- What stands of a smaller one in the part. -/
def dwn (n:Nat) (p q:Nat→Bool) (i:Nat):Bool:=q (lat n p i)
theorem lft_dwn (hle:∀ x,x < n→q x=true→p x=true):∀ x,x < n→lft p (dwn n p q) x=q x:=fun x hx=>by
 unfold lft dwn
 cases px:p x with
 | false =>
  cases qx:q x with
  | false=>rfl
  | true=>rw [hle x hx qx] at px; cases px
 | true=>rw [lat_pix hx px]; rfl
theorem dwn_sub (G:Grp n f e) (hp:Sub n f e p) (hq:Sub n f e q):Sub (thl n p).length (pop n f p) (pix p e) (dwn n p q):=
 sub_of (ptb_grp G hp) (by unfold dwn; rw [lat_pix G.el hp.one]; exact hq.one) fun i j hi hj h1 h2=>by
  unfold dwn at h1 h2 ⊢
  rw [(pop_at G hp hi hj).2]
  exact hq.mul _ _ (lat_at hi).1 (lat_at hj).1 h1 h2
theorem dwn_nml (G:Grp n f e) (hp:Sub n f e p):Nml (thl n p).length (pop n f p) (pix p e) (dwn n p q)↔∀ a x,a < n→x < n→p a=true→p x=true→q x=true→q (cjr n f e x a)=true:=by
 have H:=part_hm G hp
 constructor
 ·intro h a x ha hx pa px qx
  have:=h (pix p a) (pix_at ha pa).1 (pix p x) (pix_at hx px).1 (by unfold dwn; rw [lat_pix hx px]; exact qx)
  rw [← H.cjr G hx ha px pa] at this
  unfold dwn at this
  rwa [lat_pix (G.cjr_lt hx ha) (cjr_in G hp hx ha px pa)] at this
 ·intro h i hi j hj hd
  obtain ⟨a1,a2,_,a4⟩:=lat_at hi
  obtain ⟨b1,b2,_,b4⟩:=lat_at hj
  have:=h _ _ a1 b1 a2 b2 hd
  rw [← a4,← b4,← H.cjr G b1 a1 b2 a2]
  unfold dwn
  rwa [lat_pix (G.cjr_lt b1 a1) (cjr_in G hp b1 a1 b2 a2)]
theorem dwn_len (hle:∀ x,x < n→q x=true→p x=true):(mem (thl n p).length (dwn n p q)).length=(mem n q).length:=by
 have h1:=congrArg List.length (lft_thl p (dwn n p q) n)
 rw [List.length_map] at h1
 have e1:(thl (thl n p).length (dwn n p q)).length=(mem (thl n p).length (dwn n p q)).length:=thl_len _ _
 have e2:(thl n (lft p (dwn n p q))).length=(mem n (lft p (dwn n p q))).length:=thl_len _ _
 rw [← e1,h1,e2,mem_congr (lft_dwn hle)]

/-- The quotient of a subgroup by what is normal in it. -/
theorem step_hm (G:Grp n f e) (hp:Sub n f e p) (hq:Sub n f e q) (hle:∀ x,x < n→q x=true→p x=true) (hN:∀ a x,a < n→x < n→p a=true→p x=true→q x=true→q (cjr n f e x a)=true) :
  ∃ k g d φ,Hm n f e p k g d φ∧(∀ x,x < n→pre p φ (onp d) x=q x)∧k * (mem n q).length=(mem n p).length:=by
 have H:=part_hm G hp
 have P:=H.grp
 have ds:=dwn_sub G hp hq
 have K:=quot_hm P ds ((dwn_nml G hp).2 hN)
 refine ⟨_,_,_,_,H.comp K,fun x hx=>?_,?_⟩
 ·unfold pre
  cases px:p x with
  | false =>
   cases qx:q x with
   | false=>rfl
   | true=>rw [hle x hx qx] at px; cases px
  | true =>
   rw [Bool.true_and,Bool.eq_iff_iff,onp_iff,quot_ker P ds (H.lt x hx px)]
   unfold dwn
   rw [lat_pix hx px]
 ·have:=quot_num P ds
  rw [dwn_len hle] at this
  have e1:(thl n p).length=(mem n p).length:=thl_len _ _
  rw [← e1]; exact this
theorem Mxn.hm (G:Grp n f e) (hp:Sub n f e p) (h:Mxn n f e p q):∃ k g d φ,Hm n f e p k g d φ∧(∀ x,x < n→pre p φ (onp d) x=q x)∧k * (mem n q).length=(mem n p).length∧Mxn k g d (fun _=>true) (onp d):=by
 obtain ⟨k,g,d,φ,H,h1,h2⟩:=step_hm G hp h.sub h.le fun a x ha hx pa _ qx=>h.nml a x ha hx pa qx
 refine ⟨k,g,d,φ,H,h1,h2,H.of_pre G H.grp.onp_sub ?_⟩
 refine (h.congr_r G (H.pre_sub G H.grp.onp_sub) h1).congr_l fun x hx=>?_
 show (p x && true)=p x
 rw [Bool.and_true]

end
end Go.Proofs.YtboadfahlflmhaaDoor

/-
  Plain: homomorphisms, and how a map of some things is spread. Conditions: none.
-/
set_option linter.all false
namespace Go.Proofs.YtboadfahlflmhaaDoor

/-- A homomorphism. -/
structure Hmo (n:Nat) (f:Nat→Nat→Nat) (N:Nat) (g:Nat→Nat→Nat) (φ:Nat→Nat):Prop where
 lt:∀ a,a < n→φ a < N
 mul:∀ a b,a < n→b < n→φ (f a b)=g (φ a) (φ b)

/-- It takes some things where it is told. -/
def Ext (n:Nat) (f:Nat→Nat→Nat) (N:Nat) (g:Nat→Nat→Nat) (F T:List Nat) (φ:Nat→Nat):Prop:=Hmo n f N g φ∧∀ i,i < F.length→φ (F.getD i 0)=T.getD i 0

/-- What is reached: a thing, and what must stand for it. -/
inductive Rch (f:Nat→Nat→Nat) (e:Nat) (g:Nat→Nat→Nat) (d:Nat) (F T:List Nat):Nat→Nat→Prop
 | one:Rch f e g d F T e d
 | step {a y:Nat} (i:Nat) (hi:i < F.length) (h:Rch f e g d F T a y):Rch f e g d F T (f a (F.getD i 0)) (g y (T.getD i 0))

/-- A map as a row: -1 where nothing stands yet. -/
def prow (n:Nat) (S:Nat→Bool) (ψ:Nat→Nat):List Int:=(List.range n).map fun a=>if S a then ((ψ a:Nat):Int) else -1
def tbm (n:Nat) (φ:Nat→Nat):List Int:=(List.range n).map fun a=>((φ a:Nat):Int)
def upd1 (S:Nat→Bool) (b:Nat):Nat→Bool:=fun x=>S x || decide (x=b)
def updF (ψ:Nat→Nat) (b y:Nat):Nat→Nat:=fun x=>if x=b then y else ψ x

theorem prow_len (n:Nat) (S:Nat→Bool) (ψ:Nat→Nat):(prow n S ψ).length=n:=by simp [prow]
theorem tbm_len (n:Nat) (φ:Nat→Nat):(tbm n φ).length=n:=by simp [tbm]
theorem prow_get {n:Nat} {S:Nat→Bool} {ψ:Nat→Nat} {a:Nat} (ha:a < n):(prow n S ψ).getD a 0=if S a then ((ψ a:Nat):Int) else -1:=by
 simp [prow,List.getD,ha]
theorem tbm_get {n:Nat} {φ:Nat→Nat} {a:Nat} (ha:a < n):(tbm n φ).getD a 0=((φ a:Nat):Int):=by
 simp [tbm,List.getD,ha]
theorem prow_set {n:Nat} {S:Nat→Bool} {ψ:Nat→Nat} {b y:Nat} (hb:b < n) (hS:S b=false):(prow n S ψ).set b ((y:Nat):Int)=prow n (upd1 S b) (updF ψ b y):=by
 refine List.ext_getElem (by simp [prow]) fun i h1 h2=>?_
 rw [List.getElem_set]
 by_cases e:b=i
 ·subst e
  simp [prow,upd1,updF]
 ·rw [if_neg e]
  simp [prow,upd1,updF,Ne.symm e]
theorem prow_all {n:Nat} {S:Nat→Bool} {ψ φ:Nat→Nat} (h:∀ a,a < n→S a=true∧ψ a=φ a):prow n S ψ=tbm n φ:=by
 refine List.map_congr_left fun a ha=>?_
 obtain ⟨h1,h2⟩:=h a (List.mem_range.1 ha)
 rw [h1,h2]; rfl
theorem upd1_true {S:Nat→Bool} {b x:Nat} : upd1 S b x=true↔S x=true∨x=b:=by simp [upd1]
theorem updF_ne {ψ:Nat→Nat} {b y x:Nat} (h:x ≠ b):updF ψ b y x=ψ x:=by simp [updF,h]
theorem updF_eq {ψ:Nat→Nat} {b y:Nat} : updF ψ b y b=y:=by simp [updF]

/-- How many stand out. -/
def outs (n:Nat) (S:Nat→Bool):Nat:=(mem n fun a=>!S a).length
theorem outs_upd {n:Nat} {S:Nat→Bool} {b:Nat} (hb:b < n) (hS:S b=false):outs n (upd1 S b) + 1=outs n S:=by
 unfold outs mem
 induction n with
 | zero=>omega
 | succ n ih =>
  rw [List.range_succ,List.filter_append,List.filter_append,List.length_append,List.length_append]
  by_cases e:b=n
  ·subst e
   have h0:(List.range b).filter (fun a=>!upd1 S b a)=(List.range b).filter (fun a=>!S a):=List.filter_congr fun x hx=>by
    have:=List.mem_range.1 hx
    simp [upd1,show x ≠ b by omega]
   rw [h0]
   simp [upd1,hS]
  ·have:=ih (by omega)
   have h1:upd1 S b n=S n:=by simp [upd1,Ne.symm e]
   simp only [List.filter_cons,h1,List.filter_nil]
   omega

section
variable {n N e d:Nat} {f g:Nat→Nat→Nat} {F T:List Nat} {φ:Nat→Nat}
theorem Hmo.one (G:Grp n f e) (K:Grp N g d) (h:Hmo n f N g φ):φ e=d:=by
 have h1:=h.mul e e G.el G.el
 rw [G.one_l e G.el] at h1
 have h2:=h.lt e G.el
 have h3:=K.assoc (iv N g d (φ e)) (φ e) (φ e) (K.iv_lt h2) h2 h2
 rw [K.iv_mul h2,← h1,K.iv_mul h2,K.one_l _ h2] at h3
 exact h3
theorem Rch.fun_ (G:Grp n f e) (K:Grp N g d) (hF:∀ i,i < F.length→F.getD i 0 < n) (h:Ext n f N g F T φ) {a y:Nat} (hr:Rch f e g d F T a y):a < n∧φ a=y:=by
 induction hr with
 | one=>exact ⟨G.el,h.1.one G K⟩
 | step i hi _ ih =>
  obtain ⟨h1,h2⟩:=ih
  exact ⟨G.cl _ _ h1 (hF i hi),by rw [h.1.mul _ _ h1 (hF i hi),h2,h.2 i hi]⟩

/-- Where the spreading stands. -/
structure Sprd (n:Nat) (f:Nat→Nat→Nat) (e N:Nat) (g:Nat→Nat→Nat) (d:Nat) (F T:List Nat) (S:Nat→Bool) (ψ:Nat→Nat) (W:List Nat):Prop where
 one:S e=true∧ψ e=d
 lt:∀ a,a < n→S a=true→ψ a < N
 rch:∀ a,a < n→S a=true→Rch f e g d F T a (ψ a)
 wt:∀ a∈W,a < n∧S a=true
 cl:∀ a,a < n→S a=true→a ∉ W→∀ i,i < F.length→S (f a (F.getD i 0))=true∧ψ (f a (F.getD i 0))=g (ψ a) (T.getD i 0)

/-- Within a round. -/
structure Sprd2 (n:Nat) (f:Nat→Nat→Nat) (e N:Nat) (g:Nat→Nat→Nat) (d:Nat) (F T:List Nat) (a0 i0:Nat) (S:Nat→Bool) (ψ:Nat→Nat) (W:List Nat):Prop where
 one:S e=true∧ψ e=d
 lt:∀ a,a < n→S a=true→ψ a < N
 rch:∀ a,a < n→S a=true→Rch f e g d F T a (ψ a)
 wt:∀ a∈W,a < n∧S a=true
 ha:a0 < n∧S a0=true
 cl:∀ a,a < n→S a=true→a ∉ W→∀ i,i < F.length→(a=a0→i < i0)→S (f a (F.getD i 0))=true∧ψ (f a (F.getD i 0))=g (ψ a) (T.getD i 0)

theorem Sprd.begin (G:Grp n f e) (K:Grp N g d):Sprd n f e N g d F T (upd1 (fun _=>false) e) (updF (fun _=>0) e d) [e] where
 one:=⟨by simp [upd1],updF_eq⟩
 lt a ha h:=by
  have:a=e:=by simpa [upd1] using h
  rw [this,updF_eq]; exact K.el
 rch a ha h:=by
  have:a=e:=by simpa [upd1] using h
  rw [this,updF_eq]; exact .one
 wt a ha:=by
  have:a=e:=by simpa using ha
  rw [this]; exact ⟨G.el,by simp [upd1]⟩
 cl a ha h hw:=by
  have:a=e:=by simpa [upd1] using h
  exact absurd (by simp [this]) hw
theorem Sprd.pop {S:Nat→Bool} {ψ:Nat→Nat} {a:Nat} {W:List Nat} (h:Sprd n f e N g d F T S ψ (a :: W)):Sprd2 n f e N g d F T a 0 S ψ W where
 one:=h.one
 lt:=h.lt
 rch:=h.rch
 wt x hx:=h.wt x (by simp [hx])
 ha:=h.wt a (by simp)
 cl x hx hS hW i hi hai:=by
  by_cases e:x=a
  ·have:=hai e; omega
  ·exact h.cl x hx hS (by simp [e,hW]) i hi
theorem Sprd2.done {S:Nat→Bool} {ψ:Nat→Nat} {a:Nat} {W:List Nat} (h:Sprd2 n f e N g d F T a F.length S ψ W):Sprd n f e N g d F T S ψ W where
 one:=h.one
 lt:=h.lt
 rch:=h.rch
 wt:=h.wt
 cl x hx hS hW i hi:=h.cl x hx hS hW i hi fun _=>hi
theorem Sprd2.push (G:Grp n f e) (K:Grp N g d) (hF:∀ i,i < F.length→F.getD i 0 < n) (hT:∀ i,i < F.length→T.getD i 0 < N) {S:Nat→Bool} {ψ:Nat→Nat} {a i:Nat} {W:List Nat} (h:Sprd2 n f e N g d F T a i S ψ W) (hi:i < F.length) (hb:S (f a (F.getD i 0))=false) :
  Sprd2 n f e N g d F T a (i + 1) (upd1 S (f a (F.getD i 0))) (updF ψ (f a (F.getD i 0)) (g (ψ a) (T.getD i 0))) (W++[f a (F.getD i 0)]):=by
 have hbn:=G.cl _ _ h.ha.1 (hF i hi)
 have hne:∀ x,S x=true→x ≠ f a (F.getD i 0):=fun x hx e=>by rw [e,hb] at hx; cases hx
 refine ⟨⟨upd1_true.2 (.inl h.one.1),by rw [updF_ne (hne _ h.one.1)]; exact h.one.2⟩,fun x hx hS=>?_,fun x hx hS=>?_,fun x hx=>?_,⟨h.ha.1,upd1_true.2 (.inl h.ha.2)⟩,fun x hx hS hW j hj hji=>?_⟩
 ·rcases upd1_true.1 hS with h1 | rfl
  ·rw [updF_ne (hne _ h1)]; exact h.lt x hx h1
  ·rw [updF_eq]; exact K.cl _ _ (h.lt a h.ha.1 h.ha.2) (hT i hi)
 ·rcases upd1_true.1 hS with h1 | rfl
  ·rw [updF_ne (hne _ h1)]; exact h.rch x hx h1
  ·rw [updF_eq]; exact .step i hi (h.rch a h.ha.1 h.ha.2)
 ·rcases List.mem_append.1 hx with hx | hx
  ·obtain ⟨h1,h2⟩:=h.wt x hx
   exact ⟨h1,upd1_true.2 (.inl h2)⟩
  ·have:x=f a (F.getD i 0):=by simpa using hx
   rw [this]; exact ⟨hbn,upd1_true.2 (.inr rfl)⟩
 ·have hW1:x ∉ W:=fun hh=>hW (by simp [hh])
  have hxb:x ≠ f a (F.getD i 0):=fun hh=>hW (by simp [hh])
  have hSx:S x=true:=(upd1_true.1 hS).resolve_right hxb
  rw [updF_ne hxb]
  by_cases e:x=a∧j=i
  ·obtain ⟨rfl,rfl⟩:=e
   exact ⟨upd1_true.2 (.inr rfl),updF_eq⟩
  ·obtain ⟨k1,k2⟩:=h.cl x hx hSx hW1 j hj fun ea=>by
    have:=hji ea
    have:j ≠ i:=fun ej=>e ⟨ea,ej⟩
    omega
   exact ⟨upd1_true.2 (.inl k1),by rw [updF_ne (hne _ k1)]; exact k2⟩
theorem Sprd2.keep {S:Nat→Bool} {ψ:Nat→Nat} {a i:Nat} {W:List Nat} (h:Sprd2 n f e N g d F T a i S ψ W) (hb:S (f a (F.getD i 0))=true) (hv:ψ (f a (F.getD i 0))=g (ψ a) (T.getD i 0)) :
  Sprd2 n f e N g d F T a (i + 1) S ψ W:=
 ⟨h.one,h.lt,h.rch,h.wt,h.ha,fun x hx hS hW j hj hji=>by
  by_cases e:x=a∧j=i
  ·obtain ⟨rfl,rfl⟩:=e
   exact ⟨hb,hv⟩
  ·exact h.cl x hx hS hW j hj fun ea=>by
    have:=hji ea
    have:j ≠ i:=fun ej=>e ⟨ea,ej⟩
    omega⟩

/-- At the end all is reached, and it is a homomorphism. -/
theorem Sprd.fin (G:Grp n f e) (K:Grp N g d) (hF:∀ i,i < F.length→F.getD i 0 < n) (hT:∀ i,i < F.length→T.getD i 0 < N) (hgen:∀ a,a < n→Gen n f e (fun x=>decide (x∈F)) a) {S:Nat→Bool} {ψ:Nat→Nat} (h:Sprd n f e N g d F T S ψ []) :
  (∀ a,a < n→S a=true)∧Ext n f N g F T ψ:=by
 have hall:∀ a,a < n→S a=true:=fun a ha=>Gen.least (H:=fun a=>S a=true) h.one.1 (fun a b hga hb hp hSa=>by
  have hp:b∈F:=by simpa using hp
  obtain ⟨i,hi,rfl⟩:=List.getElem_of_mem hp
  have e1:F[i]=F.getD i 0:=by simp [List.getD,List.getElem?_eq_getElem hi]
  rw [e1]
  exact (h.cl a (hga.lt G) hSa (by simp) i hi).1) (hgen a ha)
 have hmul:∀ a,a < n→∀ b,b < n→ψ (f a b)=g (ψ a) (ψ b):=fun a ha b hb=>by
  refine Gen.least (H:=fun b=>ψ (f a b)=g (ψ a) (ψ b)) ?_ (fun c x hgc hx hp ih=>?_) (hgen b hb)
  ·rw [G.one_r a ha,h.one.2,K.one_r _ (h.lt a ha (hall a ha))]
  ·have hp:x∈F:=by simpa using hp
   obtain ⟨i,hi,rfl⟩:=List.getElem_of_mem hp
   have e1:F[i]=F.getD i 0:=by simp [List.getD,List.getElem?_eq_getElem hi]
   rw [e1]
   have hc:=hgc.lt G
   have hac:=G.cl a c ha hc
   rw [← G.assoc a c _ ha hc (hF i hi),(h.cl _ hac (hall _ hac) (by simp) i hi).2,(h.cl c hc (hall c hc) (by simp) i hi).2,ih,K.assoc _ _ _ (h.lt a ha (hall a ha)) (h.lt c hc (hall c hc)) (hT i hi)]
 refine ⟨hall,⟨fun a ha=>h.lt a ha (hall a ha),fun a b ha hb=>hmul a ha b hb⟩,fun i hi=>?_⟩
 have h1:=(h.cl e G.el h.one.1 (by simp) i hi).2
 rw [G.one_l _ (hF i hi),h.one.2,K.one_l _ (hT i hi)] at h1
 exact h1
end
end Go.Proofs.YtboadfahlflmhaaDoor

/-
  Walks: what makes a group, one by one; a map of some things, spread to all. Conditions: none.
-/
set_option linter.all false
namespace Go.Proofs.YtboadfahlflmhaaDoor
open Go.Pv

def nl (L:List Nat):List Int:=L.map fun x=>((x:Nat):Int)
theorem nl_len (L:List Nat):(nl L).length=L.length:=by simp [nl]
theorem nl_get {L:List Nat} {i:Nat} (hi:i < L.length):(nl L).getD i 0=((L.getD i 0:Nat):Int):=by
 simp [nl,List.getD,List.getElem?_eq_getElem hi]
theorem nl_snoc (L:List Nat) (x:Nat):nl (L++[x])=nl L++[((x:Nat):Int)]:=by simp [nl]
section
variable (n:Nat) (f:Nat→Nat→Nat) (e:Nat)
/-- The least things that make a group, one by one. -/
noncomputable def gl:Nat→List Nat
 | 0=>[]
 | a + 1=>if gn n f e (fun x=>decide (x∈gl a)) a then gl a else gl a++[a]
theorem gl_lt:∀ (a:Nat),∀ x∈gl n f e a,x < a
 | 0,x,h=>by simp [gl] at h
 | a + 1,x,h=>by
  unfold gl at h
  split at h
  ·have:=gl_lt a x h; omega
  ·rcases List.mem_append.1 h with h | h
   ·have:=gl_lt a x h; omega
   ·have:x=a:=by simpa using h
    omega
theorem gl_len:∀ a,(gl n f e a).length≤a
 | 0=>by simp [gl]
 | a + 1=>by
  have:=gl_len a
  unfold gl
  split
  ·omega
  ·simp; omega
theorem gl_mono {a b : Nat} (h : a ≤ b) : ∀ x ∈ gl n f e a, x ∈ gl n f e b := by
  induction b with
  | zero => obtain rfl : a = 0 := by omega
            exact fun x h => h
  | succ b ih =>
    by_cases hab : a = b + 1
    · subst hab; exact fun x h => h
    · intro x hx
      have := ih (by omega) x hx
      unfold gl
      split
      · exact this
      · exact List.mem_append.2 (.inl this)
theorem gl_gen (G:Grp n f e) (a:Nat) (ha:a < n):Gen n f e (fun x=>decide (x∈gl n f e n)) a:=by
 by_cases h:gn n f e (fun x=>decide (x∈gl n f e a)) a=true
 ·exact Gen.mono (fun b _ hb=>by simp only [decide_eq_true_eq] at hb ⊢; exact gl_mono n f e (Nat.le_of_lt ha) b hb) ((gn_iff _ a ha).1 h)
 ·have h1:a∈gl n f e (a + 1):=by
   unfold gl
   rw [if_neg h]; simp
  have h2:=gl_mono n f e (show a + 1≤n from ha) a h1
  exact Gen.mem G ha (by simpa using h2)
end

section
variable {n e:Nat} {m:List Int}
theorem gens_c (h : GT n m n e) : FnC Tryd.prog 128 [gp n m] (.list (il (nl (gl n (op m n) e n)))) := by
  have G := h.2.2
  have hb := h.2.1.big
  have hbt : ∀ p, bo n p < 2 ^ 64 := fun p => bo_lt64 hb p
  have hgen0 : ∀ a, a < n → (gn n (op m n) e (fun x => decide (x ∈ gl n (op m n) e 0)) a = true ↔ Gen n (op m n) e (Nat.testBit 0) a) := fun a ha => by
    rw [gn_iff _ a ha]
    exact ⟨Gen.mono fun b _ hb => by simp [gl] at hb, Gen.mono fun b _ hb => by simp at hb⟩
  refine fnc_of tab_ok Tryd.func128 rfl (by kernel_rfl) (by rw [Tryd.ntmps128]; exact Nat.le_add_left 1 _) ?_; rw [Tryd.ntmps128]
  refine qm ?_
  refine hk_region fun K hK => runs_eval tab_ok ?_
  simp only [ev0, evA, evB, evP, fl, gp, tab, simprocAttr, reduceCtorEq, reduceIte]
  refine fin_run ?_ (hK _ ?_) <;> clear hK <;> clear K
  · (first | exact trivial | omega | (simp only [In64] at *; omega) | (simp [In64] at *; omega) | (simp_all; done) | skip)
  refine qa (qm ?_)
  refine hk_region fun K hK => runs_eval tab_ok ?_
  simp only [ev0, evA, evB, evP, fl, gp, tab, simprocAttr, reduceCtorEq, reduceIte]
  refine fin_run trivial (hK _ ?_) <;> clear hK <;> clear K
  refine qa (qm ?_)
  refine hk_own0 3 rfl ?_
  refine hk_region fun K hK => runs_eval tab_ok ?_
  simp only [ev0, evA, evB, evP, fl, gp, tab, simprocAttr, reduceCtorEq, reduceIte]
  refine fin_stop trivial (runs_call (grow_c h 0 (Nat.pow_pos (by omega)) _ hgen0) rfl rfl rfl (by simp only [dstOk, Nat.reduceLT]) (by repeat (first | exact trivial | constructor)) (runs_eval tab_ok ?_))
  simp only [ev0, evA, evB, evP, fl, gp, tab, simprocAttr, reduceCtorEq, reduceIte]
  refine fin_run ?_ (hK _ ?_) <;> clear hK <;> clear K
  · (first | exact trivial | omega | (simp only [In64] at *; omega) | (simp [In64] at *; omega) | (simp_all; done) | skip)
  refine qa (qm (qm ?_))
  refine hk_region fun K hK => runs_eval tab_ok ?_
  simp only [ev0, evA, evB, evP, fl, gp, tab, simprocAttr, reduceCtorEq, reduceIte]
  refine fin_run ?_ (hK _ ?_) <;> clear hK <;> clear K
  · (first | exact trivial | omega | (simp only [In64] at *; omega) | (simp [In64] at *; omega) | (simp_all; done) | skip)
  refine qa (ql ?_)
  refine hk_loop (ι := Nat) (fun a => ⟨29, [(1, .ptr 0 0), (3, .sl 1 0 (nl (gl n (op m n) e a)).length), (4, .p (.int .u64 (bo n (gn n (op m n) e (fun x => decide (x ∈ gl n (op m n) e a)))))), (9, .p (.int .i64 n)), (10, .p (.int .i64 a))], [.own [.p (.int .i64 n), .p (.list (il m))], .own (ol (nl (gl n (op m n) e a)))]⟩) (fun a => a ≤ n) (fun a => n - a) 0 (Nat.zero_le _) [0, 1] (by simp only [leq, leA, ev0, evA, evB, evP, fl, gp, tab, simprocAttr, reduceCtorEq, reduceIte] <;> first | trivial | exact ⟨rfl, rfl⟩ | rfl) fun a ha => ?_
  refine qm ?_
  refine hk_region fun K hK => runs_eval tab_ok ?_
  simp only [ev0, evA, evB, evP, fl, gp, tab, simprocAttr, reduceCtorEq, reduceIte]
  refine fin_run trivial (hK _ ?_) <;> clear hK <;> clear K
  refine qa (qm ?_)
  refine hk_cond rfl (fun hC1 => ?_) (fun hC1 => ?_)
  · (try simp only [nhs] at hC1)
    have hal : a < n := by omega
    have hl := gl_len n (op m n) e a
    have hnl := nl_len (gl n (op m n) e a)
    have htk : List.take (nl (gl n (op m n) e a)).length (nl (gl n (op m n) e a)) = nl (gl n (op m n) e a) := List.take_length
    have hs : gl n (op m n) e (a + 1) = if gn n (op m n) e (fun x => decide (x ∈ gl n (op m n) e a)) a then gl n (op m n) e a else gl n (op m n) e a ++ [a] := rfl
    have hpw := pow_lt64 (b := a) (by omega)
    have hbb := bo_bit n (gn n (op m n) e (fun x => decide (x ∈ gl n (op m n) e a))) a
    rw [show decide (a < n) = true by simpa using hal, Bool.true_and] at hbb
    refine qh (qa (qm (ql (qm ?_))))
    refine hk_region fun K hK => runs_eval tab_ok ?_
    simp only [ev0, evA, evB, evP, fl, gp, tab, simprocAttr, reduceCtorEq, reduceIte]
    refine fin_run trivial (hK _ ?_) <;> clear hK <;> clear K
    refine qa (qm ?_)
    refine hk_region fun K hK => runs_eval tab_ok ?_
    simp only [ev0, evA, evB, evP, fl, gp, tab, simprocAttr, reduceCtorEq, reduceIte]
    refine fin_stop trivial (runs_call (has_s _ a (hbt _) (by omega)) rfl rfl rfl (by simp only [dstOk, Nat.reduceLT]) (by repeat (first | exact trivial | constructor)) (runs_eval tab_ok ?_))
    simp only [ev0, evA, evB, evP, fl, gp, tab, simprocAttr, reduceCtorEq, reduceIte, hbb]
    refine fin_run trivial (hK _ ?_) <;> clear hK <;> clear K
    refine qa ?_
    refine hk_cond rfl (fun hC2 => ?_) (fun hC2 => ?_)
    · (try simp only [nhs] at hC2)
      have hC2f : gn n (op m n) e (fun x => decide (x ∈ gl n (op m n) e a)) a = false := by simpa using hC2
      rw [if_neg (by simp [hC2f])] at hs
      have hst : ∀ y, y < n → (gn n (op m n) e (fun x => decide (x ∈ gl n (op m n) e (a + 1))) y = true ↔ Gen n (op m n) e (bo n (gn n (op m n) e (fun x => decide (x ∈ gl n (op m n) e a))) ||| 2 ^ a).testBit y) := fun y hy => by
        rw [gn_iff _ y hy, hs]
        constructor
        · intro hg
          refine Gen.least (H := fun y => Gen n (op m n) e (bo n (gn n (op m n) e (fun x => decide (x ∈ gl n (op m n) e a))) ||| 2 ^ a).testBit y) .one (fun c b hc hb1 hb2 ih => ?_) hg
          refine .step _ _ ih hb1 ?_
          rw [or_bit, Bool.or_eq_true, decide_eq_true_eq, bo_bit, Bool.and_eq_true, decide_eq_true_eq]
          rcases List.mem_append.1 (show b ∈ gl n (op m n) e a ++ [a] by simpa using hb2) with hb2 | hb2
          · exact .inl ⟨hb1, (gn_iff _ b hb1).2 (Gen.mem G hb1 (by simpa using hb2))⟩
          · exact .inr (by have : b = a := by simpa using hb2
                           omega)
        · intro hg
          refine Gen.least (H := fun y => Gen n (op m n) e (fun x => decide (x ∈ gl n (op m n) e a ++ [a])) y) .one (fun c b hc hb1 hb2 ih => ?_) hg
          refine Gen.mul G ih ?_
          rw [or_bit, Bool.or_eq_true, decide_eq_true_eq, bo_bit, Bool.and_eq_true, decide_eq_true_eq] at hb2
          rcases hb2 with hb2 | hb2
          · exact Gen.mono (fun x _ hx => by simp at hx ⊢; exact .inl hx) ((gn_iff _ b hb1).1 hb2.2)
          · exact Gen.mem G hb1 (by simp [hb2])
      refine qm ?_
      refine hk_region fun K hK => runs_eval tab_ok ?_
      simp only [ev0, evA, evB, evP, fl, gp, tab, simprocAttr, reduceCtorEq, reduceIte]
      refine fin_run ?_ (hK _ ?_) <;> clear hK <;> clear K
      · (first | exact trivial | omega | (simp only [In64] at *; omega) | (simp [In64] at *; omega) | (simp_all; done) | skip)
      refine qa ?_
      refine hk_draw mixed (by kernel_rfl) fun K hK => runs_eval tab_ok ?_
      simp only [ev0, evA, evB, evP, fl, gp, tab, simprocAttr, reduceCtorEq, reduceIte, shl_one (show a < 64 by omega), bv_or (hbt _) hpw]
      refine fin_stop ?_ (runs_call (grow_c h _ (Nat.or_lt_two_pow (bo_lt n _) (Nat.pow_lt_pow_right (by omega) hal)) _ hst) rfl rfl rfl (by simp only [dstOk, Nat.reduceLT]) (by repeat (first | exact trivial | constructor)) (runs_eval tab_ok ?_))
      · (first | exact trivial | omega | (simp only [In64] at *; omega) | (simp [In64] at *; omega) | (simp_all; done) | skip)
      simp only [ev0, evA, evB, evP, fl, gp, tab, simprocAttr, reduceCtorEq, reduceIte, shl_one (show a < 64 by omega), bv_or (hbt _) hpw]
      refine fin_run ?_ (hK _ ?_) <;> clear hK <;> clear K
      · (first | exact trivial | omega | (simp only [In64] at *; omega) | (simp [In64] at *; omega) | (simp_all; done) | skip)
      refine qd (qa ?_)
      refine hk_region fun K hK => runs_eval tab_ok ?_
      simp only [ev0, evA, evB, evP, fl, gp, tab, simprocAttr, reduceCtorEq, reduceIte]
      refine fin_run ?_ (hK _ ?_) <;> clear hK <;> clear K
      · (first | exact trivial | omega | (simp only [In64] at *; omega) | (simp [In64] at *; omega) | (simp_all; done) | skip)
      refine qa ?_
      refine ⟨a + 1, [0, 2], by omega, by omega, ?_⟩
      rw [hs, nl_snoc]
      simp only [leq, leA, ev0, evA, evB, evP, fl, gp, tab, simprocAttr, reduceCtorEq, reduceIte] <;> first | trivial | omega | (simp; done) | trace_state
    · (try simp only [nhs] at hC2)
      have hC2t : gn n (op m n) e (fun x => decide (x ∈ gl n (op m n) e a)) a = true := by simpa using hC2
      rw [if_pos hC2t] at hs
      refine qh (qd (qa ?_))
      refine hk_region fun K hK => runs_eval tab_ok ?_
      simp only [ev0, evA, evB, evP, fl, gp, tab, simprocAttr, reduceCtorEq, reduceIte]
      refine fin_run ?_ (hK _ ?_) <;> clear hK <;> clear K
      · (first | exact trivial | omega | (simp only [In64] at *; omega) | (simp [In64] at *; omega) | (simp_all; done) | skip)
      refine qa ?_
      refine ⟨a + 1, [0, 1], by omega, by omega, ?_⟩
      rw [hs]
      simp only [leq, leA, ev0, evA, evB, evP, fl, gp, tab, simprocAttr, reduceCtorEq, reduceIte] <;> first | trivial | omega
  · (try simp only [nhs] at hC1)
    obtain rfl : a = n := by omega
    refine qj (qc (qc (qf (qa (qm ?_)))))
    refine hk_seal 3 1 rfl rfl ?_
    refine hk_region fun K hK => runs_eval tab_ok ?_
    simp only [ev0, evA, evB, evP, fl, gp, tab, simprocAttr, reduceCtorEq, reduceIte]
    refine fin_run trivial (hK _ ?_) <;> clear hK <;> clear K
    refine qa (qk ?_)
    simp only [Tryd.results128, enA, ev0, evA, evB, evP, fl, gp, tab, simprocAttr, reduceCtorEq, reduceIte]
    all_goals ((first | exact rfl | exact ⟨rfl, rfl⟩ | exact ⟨rfl, rfl, rfl⟩ | exact ⟨trivial, rfl⟩ | exact ⟨Nat.le_refl _, rfl⟩ | trivial | (simp; done)))
end
end Go.Proofs.YtboadfahlflmhaaDoor

/-
  Loops over a function: rounds as values, the statement, who calls yield. Conditions: none; a library text.
-/
set_option linter.all false
namespace Go.Pv
open Go.RowKit

section
variable {P:Program} {T:TypeId→Option TI} {C:Ctx} {m:Map} {s:St} {tmps:Array Value} {w:World}

/-- A block that is none of cells turns. -/
theorem Rel.setRaw (R:Rel C m s tmps w) {g:Nat} {o' : Obj} {H' : Heap} (hB:C.B g) (hnc:∀ cur e sh,w.heap[g]? ≠ some (.cells cur e sh)) (hlen:H'.length=s.H.length)
  (hmut:∀ (k:Nat) (c:List AV),H'[k]? = some (.own c)→s.H[k]? = some (.own c)) (hfro:∀ (k:Nat) (c:List PV),H'[k]? = some (.fro c)→s.H[k]? = some (.fro c))
  (hmp:∀ (k:Nat) (kk:IntKind) (d:Int→Bool) (v:Int→PV),H'[k]? = some (Blk.mp kk d v)→s.H[k]? = some (Blk.mp kk d v)∧∀ l,m k=some l→l.g ≠ g)
  (hanc:∀ (k i j:Nat),H'[k]? = some (Blk.anc i j)→s.H[k]? = some (Blk.anc i j)) (hlp:LpAll C.B (w.putObj g o') m H'):Rel C m { s with H:=H' } tmps (w.putObj g o'):=by
 have hh:∀ b,b ≠ g→(w.putObj g o').heap[b]? = w.heap[b]?:=fun b hb=>World.putObj_heap_other hb
 have hsz:(w.putObj g o').heap.size=w.heap.size:=World.putObj_size
 have hcell:∀ (b o:Nat) (x:Value),w.cell? ⟨b,o,none⟩=some x→(w.putObj g o').cell? ⟨b,o,none⟩=some x:=fun b o x h=>by
  by_cases eb:b=g
  ·subst eb
   exfalso
   unfold World.cell? at h
   split at h
   ·rename_i hh; exact hnc _ _ _ hh
   ·cases h
  ·rw [World.cell?_of_block (w:=w) (hh b eb)]; exact h
 have hok:∀ b,OK C m s.H w b→OK C m H' (w.putObj g o') b:=fun b h=>⟨h.1,by rw [hsz]; exact h.2.1,fun k c l hk hl=>h.2.2 k c l (hmut k c hk) hl⟩
 have rdx:∀ p x,Reads (OK C m s.H w) w p x→Reads (OK C m H' (w.putObj g o')) (w.putObj g o') p x:=fun p x h=>h.extc hok fun b o y _ hc=>hcell b o y hc
 have hle:s.H.length≤H'.length:=by omega
 refine ⟨R.laid.ext rdx,R.below.trans ⟨rfl,rfl,rfl,by rw [hsz]; exact Nat.le_refl _,fun b hb=>hh b (fun e=>hb (by rw [e]; exact hB)),Nat.le_refl _⟩,by rw [hsz]; exact R.base,R.size,
  fun k k' c c' l l' h1 h2=>R.inj k k' c c' l l' (hmut k c h1) (hmut k' c' h2),fun k c h=>?_,fun k c h=>?_,fun t=>(R.slot t).ext rdx hle fun _ _=>rfl,fun k kk d v h=>?_,
  fun k k' kk d v kk' d' v' l l' h1 h2=>R.mp.2.1 k k' kk d v kk' d' v' l l' (hmp _ _ _ _ h1).1 (hmp _ _ _ _ h2).1,fun k i j h=>?_,hlp⟩
 ·have hb:=R.blk k c (hmut k c h)
  refine hb.ext rdx hle (fun _ _=>rfl) rfl fun l hl=>hh _ fun e=>?_
  rcases hb with ⟨_,hn⟩ | ⟨l2,cur,ee,a1,a2,a3,_⟩
  ·rw [hl] at hn; cases hn
  ·rw [hl] at a1; cases a1
   rw [e] at a3
   exact hnc _ _ _ a3
 ·rcases R.fro k c (hfro k c h) with h' | ⟨l2,vs2,b1,b2,b3,b4⟩
  ·exact .inl h'
  ·exact .inr ⟨l2,vs2,b1,hok _ b2,b3,fun i hi=>⟨hcell _ _ _ (b4 i hi).1,rdx _ _ (b4 i hi).2⟩⟩
 ·obtain ⟨h1,h2⟩:=hmp k kk d v h
  obtain ⟨l,ar,clk,vs,a1,a2,a3,a4,a5,a6,a7⟩:=R.mp.1 k kk d v h1
  exact ⟨l,ar,clk,vs,a1,a2,(hh _ (h2 l a1)).trans a3,a4,a5,a6,fun z hz=>rdx _ _ (a7 z hz)⟩
 ·obtain ⟨a1,a2⟩:=R.mp.2.2.1 k i j (hanc k i j h)
  exact ⟨by rw [hlen]; exact a1,a2⟩

/-- A block for deferred calls turns. -/
theorem Rel.setDef (R:Rel C m s tmps w) {g:Nat} {o o' : Option (List Deferred)} (hB:C.B g) (ho:w.heap[g]? = some (.deferred o)):Rel C m s tmps (w.putObj g (.deferred o')):=by
 refine R.setRaw (H':=s.H) hB (fun _ _ _ h=>by rw [ho] at h; cases h) rfl (fun _ _ h=>h) (fun _ _ h=>h) (fun k kk d v h=>⟨h,fun l hl e=>?_⟩) (fun _ _ _ h=>h) ?_
 ·obtain ⟨l2,ar,clk,vs,a1,a2,a3,_⟩:=R.mp.1 k kk d v h
  rw [hl] at a1; cases a1
  rw [e,ho] at a3; cases a3
 ·refine R.mp.2.2.2.ext id (fun _ _ h=>⟨h,rfl⟩) (fun _ _ _ _ _ _ h=>h) (fun k r l h hl h3=>World.putObj_heap_other fun e=>?_) fun _ _ _ _ _ h=>h
  rw [e,ho] at h3; cases h3

/-- A loop's record turns. -/
theorem Rel.setLp (R:Rel C m s tmps w) {κ:Nat} {r r' : Loop} (hκ:s.H[κ]? = some (.lp r)) {l:Loc} (hl:m κ=some l):Rel C m { s with H:=hset s.H κ (.lp r') } tmps (w.putObj l.g (.loop r')):=by
 obtain ⟨l',a1,a2,a3⟩:=R.mp.2.2.2.1 κ r hκ
 rw [hl] at a1; cases a1
 have hkl:κ < s.H.length:=(List.getElem?_eq_some_iff.1 hκ).1
 have hlt:l.g < w.heap.size:=(Array.getElem?_eq_some_iff.1 a3).1
 have hget:∀ (j:Nat) (b:Blk),(hset s.H κ (.lp r'))[j]? = some b→(j=κ∧b = .lp r')∨(j ≠ κ∧s.H[j]? = some b):=by
  intro j b h
  rw [hset_get] at h
  by_cases e:j=κ
  ·rw [if_pos ⟨e,hkl⟩] at h; exact .inl ⟨e,(Option.some.inj h).symm⟩
  ·rw [if_neg (by simp [e])] at h; exact .inr ⟨e,h⟩
 refine R.setRaw (H':=hset s.H κ (.lp r')) a2 (fun _ _ _ h=>by rw [a3] at h; cases h) (hset_length _ _ _) (fun k c h=>?_) (fun k c h=>?_) (fun k kk d v h=>?_) (fun k i j h=>?_) ⟨fun k rr h=>?_,fun k k' r1 r2 l1 l2 h1 h2 h3 h4 h5=>?_⟩
 ·rcases hget k _ h with ⟨_,e⟩ | ⟨_,h⟩
  ·cases e
  ·exact h
 ·rcases hget k _ h with ⟨_,e⟩ | ⟨_,h⟩
  ·cases e
  ·exact h
 ·rcases hget k _ h with ⟨_,e⟩ | ⟨_,h⟩
  ·cases e
  ·refine ⟨h,fun l2 hl2 e=>?_⟩
   obtain ⟨l3,ar,clk,vs,b1,b2,b3,_⟩:=R.mp.1 k kk d v h
   rw [hl2] at b1; cases b1
   rw [e,a3] at b3; cases b3
 ·rcases hget k _ h with ⟨_,e⟩ | ⟨_,h⟩
  ·cases e
  ·exact h
 ·rcases hget k _ h with ⟨rfl,e⟩ | ⟨hne,h⟩
  ·cases e
   exact ⟨l,hl,a2,World.putObj_heap_same hlt⟩
  ·obtain ⟨l2,b1,b2,b3⟩:=R.mp.2.2.2.1 k rr h
   refine ⟨l2,b1,b2,(World.putObj_heap_other fun e=>hne ?_).trans b3⟩
   exact R.mp.2.2.2.2 _ _ _ _ _ _ h hκ b1 hl e
 ·have g:∀ (j:Nat) (rr:Loop),(hset s.H κ (.lp r'))[j]? = some (Blk.lp rr)→∃ r0,s.H[j]? = some (Blk.lp r0):=by
   intro j rr h
   rcases hget j _ h with ⟨rfl,_⟩ | ⟨_,h⟩
   ·exact ⟨_,hκ⟩
   ·exact ⟨_,h⟩
  obtain ⟨_,c1⟩:=g _ _ h1
  obtain ⟨_,c2⟩:=g _ _ h2
  exact R.mp.2.2.2.2 _ _ _ _ _ _ c1 c2 h3 h4 h5

/-- A loop's record is laid: it is a block of the state's. -/
theorem Rel.addLp (R:Rel C m s tmps w) {g:Nat} {r:Loop} (hB:C.B g) (hg:w.heap[g]? = some (.loop r)) (hfr:∀ (k:Nat) (rr:Loop) (l:Loc),s.H[k]? = some (.lp rr)→m k=some l→l.g ≠ g) :
  Rel C (mput m s.H.length (some ⟨g,0,0⟩)) { s with H:=s.H++[.lp r] } tmps w:=by
 have hm:∀ k,k < s.H.length→mput m s.H.length (some ⟨g,0,0⟩) k=m k:=fun k hk=>by simp [mput,show k ≠ s.H.length by omega]
 have hmn:mput m s.H.length (some ⟨g,0,0⟩) s.H.length=some ⟨g,0,0⟩:=by simp [mput]
 have own:∀ (k:Nat) (b:Blk),(s.H++[Blk.lp r])[k]? = some b→(k < s.H.length∧s.H[k]? = some b)∨(k=s.H.length∧Blk.lp r=b):=fun k b h=>getElem?_snoc_cases h
 have old:∀ (k:Nat) (b:Blk),(∀ rr,b ≠ .lp rr)→(s.H++[Blk.lp r])[k]? = some b→k < s.H.length∧s.H[k]? = some b:=fun k b hb h=>by
  rcases own k b h with h | ⟨_,e⟩
  ·exact h
  ·exact absurd e.symm (hb r)
 have hok:∀ b,OK C m s.H w b→OK C (mput m s.H.length (some ⟨g,0,0⟩)) (s.H++[Blk.lp r]) w b:=fun b h=>⟨h.1,h.2.1,fun k c l hk hl=>by
  obtain ⟨h1,h2⟩:=old k _ (fun _ h=>by cases h) hk
  rw [hm k h1] at hl
  exact h.2.2 k c l h2 hl⟩
 have rd:∀ p x,Reads (OK C m s.H w) w p x→Reads (OK C (mput m s.H.length (some ⟨g,0,0⟩)) (s.H++[Blk.lp r]) w) w p x:=fun p x h=>h.mono hok
 have hlen:s.H.length≤(s.H++[Blk.lp r]).length:=by simp
 refine ⟨R.laid.ext rd,R.below,R.base,R.size,fun k k' c c' l l' h1 h2 h3 h4 h5=>?_,fun k c h=>?_,fun k c h=>?_,fun t=>(R.slot t).ext rd hlen hm,fun k kk d v h=>?_,fun k k' kk d v kk' d' v' l l' h1 h2 h3 h4 h5=>?_,fun k i j h=>?_,fun k rr h=>?_,fun k k' r1 r2 l1 l2 h1 h2 h3 h4 h5=>?_⟩
 ·obtain ⟨a1,a2⟩:=old k _ (fun _ h=>by cases h) h1
  obtain ⟨b1,b2⟩:=old k' _ (fun _ h=>by cases h) h2
  rw [hm k a1] at h3; rw [hm k' b1] at h4
  exact R.inj k k' c c' l l' a2 b2 h3 h4 h5
 ·obtain ⟨a1,a2⟩:=old k _ (fun _ h=>by cases h) h
  exact (R.blk k c a2).ext rd hlen hm (hm k a1) fun _ _=>rfl
 ·obtain ⟨a1,a2⟩:=old k _ (fun _ h=>by cases h) h
  exact (R.fro k c a2).ext hok (fun _ _=>rfl) (hm k a1)
 ·obtain ⟨a1,a2⟩:=old k _ (fun _ h=>by cases h) h
  exact (R.mp.1 k kk d v a2).ext hok (fun _ _=>rfl) (hm k a1) fun _ _=>rfl
 ·obtain ⟨a1,a2⟩:=old k _ (fun _ h=>by cases h) h1
  obtain ⟨b1,b2⟩:=old k' _ (fun _ h=>by cases h) h2
  rw [hm k a1] at h3; rw [hm k' b1] at h4
  exact R.mp.2.1 _ _ _ _ _ _ _ _ _ _ a2 b2 h3 h4 h5
 ·obtain ⟨a1,a2⟩:=old k _ (fun _ h=>by cases h) h
  obtain ⟨c1,c2⟩:=R.mp.2.2.1 k i j a2
  exact ⟨by simp; omega,by rw [hm j c1]; exact c2⟩
 ·rcases own k _ h with ⟨hk,h⟩ | ⟨rfl,e⟩
  ·obtain ⟨l,b1,b2,b3⟩:=R.mp.2.2.2.1 k rr h
   exact ⟨l,(hm k hk).trans b1,b2,b3⟩
  ·cases e
   exact ⟨_,hmn,hB,hg⟩
 ·rcases own k _ h1 with ⟨hk,h1⟩ | ⟨rfl,e⟩<;>rcases own k' _ h2 with ⟨hk',h2⟩ | ⟨rfl,e'⟩
  ·rw [hm _ hk] at h3; rw [hm _ hk'] at h4
   exact R.mp.2.2.2.2 _ _ _ _ _ _ h1 h2 h3 h4 h5
  ·rw [hm _ hk] at h3; rw [hmn] at h4; cases h4
   exact absurd h5 (hfr k r1 l1 h1 h3)
  ·rw [hm _ hk'] at h4; rw [hmn] at h3; cases h3
   exact absurd h5.symm (hfr k' r2 l2 h2 h4)
  ·rfl

/-! ### Contracts where the first q blocks stay -/

def FnQ (P:Program) (q:Nat) (f:FuncId) (args:List AV) (H0:Heap) (r:AV) (H1:Heap):Prop:=
 Fun P f∧∀ (C:Ctx) (m:Map) (w:World) (vals:Array Value),Rel C m ⟨args.length,entA 0 args,H0++ancs 0 q⟩ vals w →
  Calls P f vals w fun e w'=>∃ v m',e = .returned v∧Rel C m' ⟨1,[(0,r)],H1++ancs 0 q⟩ #[v] w'

theorem fnq_of (hT:∀ t ti,T t=some ti→tiOf P t=some ti) {q:Nat} {f:FuncId} {fn:Func} {c:Code} {args:List AV} {av:AV} {H0 H1:Heap} (hf:P.funcs[f]? = some fn) (hb:fn.body=some c) (hnm:(fn.name == "runtime.NumGoroutine")=false) (hn:args.length≤fn.ntmps)
  (h:Holds P c (PostG T fn.results.toList av (H1++ancs 0 q)) ⟨fn.ntmps,entA 0 args,H0++ancs 0 q⟩):FnQ P q f args H0 av H1:=by
 refine ⟨⟨fn,hf,hnm,by rw [hb]; rfl⟩,fun C m w vals R0=>calls_of_wp hf hb (wpR_none.1 ?_)⟩
 have hsz:vals.size=args.length:=R0.size
 have R:Rel C m ⟨fn.ntmps,entA 0 args,H0++ancs 0 q⟩ (vals++Array.replicate (fn.ntmps - vals.size) undef) w:=by
  refine ⟨R0.laid,R0.below,R0.base,by simp; omega,R0.inj,R0.blk,R0.fro,fun t=>?_,R0.mp⟩
  have hs:=R0.slot t
  by_cases ht:t < vals.size
  ·rw [Array.getD_eq_getD_getElem?,Array.getElem?_append_left ht,← Array.getD_eq_getD_getElem?]
   exact hs
  ·have e:lk (entA 0 args) t = .dead:=by
    rw [entA_lk,if_pos (Nat.zero_le _),List.getD_eq_getElem?_getD,List.getElem?_eq_none (by omega)]; rfl
   unfold St.get
   simp only
   rw [e]
   exact .dead _
 refine wpR_mono (h none [] _ _ { tmps:=vals++Array.replicate (fn.ntmps - vals.size) undef,defers:=[] } w R rfl) fun e a' w' ⟨s',m',h1,h2,h3⟩=>?_
 have fini:endG T fn.results.toList av (H1++ancs 0 q) s'→a'.defers=[]∧∃ v,(results fn a'.tmps).run P w' = .ok v w'∧∃ v_1 m'',Ending.returned v = .returned v_1∧Rel C m'' ⟨1,[(0,av)],H1++ancs 0 q⟩ #[v_1] w':=by
  intro he
  unfold endG at he
  split at he
  ·rename_i p l hl
   obtain ⟨hp,π,hav,hsc,hle⟩:=he
   obtain ⟨vs,e1,e2,e3⟩:=rvsA_run hT h2 fn.results.toList hl hp
   have hv:=mkTup_val (w:=w') e2 e3
   have R':=h2.weaken hle
   rw [hav] at hv
   have hlen:(H1++ancs 0 q).length=π.length:=(hle.2.2.1.get).1.symm
   have ho:=OK.weaken (C:=C) (m:=m') (w:=w') hle.2.2.1
   have hv2:=hv.unren (fun p v h=>h.mono ho) hlen hsc
   refine ⟨h3,(if h:vs.toArray.size=1 then vs.toArray[0] else .tuple vs.toArray),?_,_,_,rfl,R'.laid,R'.below,R'.base,rfl,R'.inj,R'.blk,R'.fro,fun t=>?_,R'.mp⟩
   ·rw [results_eq,Array.mapM_eq_mapM_toList]
    simp only [Sem.run_bind,Sem.run_map]
    rw [e1]
    simp only [Result.andThen_ok]
    rfl
   ·cases t with
    | zero=>exact hv2
    | succ t=>exact .dead _
  ·exact he.elim
 cases e with
 | normal=>exact fini h1
 | ret=>exact fini h1
 | _=>exact h1.elim

/-- Who is called: with what it has captured. -/
def clA:AV→Option (FuncId × List AV)
 | .cl g l=>some (g,l)
 | .p (.fn g l)=>some (g,l.map .p)
 | _=>none

theorem clA_val {a:Act} (R:Rel C m s a.tmps w) {fo:Operand} {g:FuncId} {cap:List AV} (h:clA (s.ev fo)=some (g,cap)) :
  ∃ vs:Array Value,a.eval fo = .func (.func g) #[] vs∧vs.size=cap.length∧∀ c (h:c < cap.length),AVal (Reads (OK C m s.H w) w) m s.H cap[c] (vs.getD c undef):=by
 have hv:=R.ev fo
 generalize a.eval fo=v at hv
 unfold clA at h
 split at h
 ·rename_i g' l e
  simp only [Option.some.injEq,Prod.mk.injEq] at h
  obtain ⟨rfl,rfl⟩:=h
  rw [e] at hv
  cases hv with
  | cl _ _ vs hl hr=>exact ⟨vs,rfl,hl,hr⟩
 ·rename_i g' l e
  simp only [Option.some.injEq,Prod.mk.injEq] at h
  obtain ⟨rfl,rfl⟩:=h
  rw [e] at hv
  have hv:=hv.p_inv
  cases hv with
  | fn _ _ vs hl hr =>
   refine ⟨vs,rfl,by simpa using hl,fun c hc=>?_⟩
   rw [List.getElem_map]
   exact .p _ _ (hr c (by simpa using hc))
 ·cases h

/-- The state of who is lent blocks. -/
theorem Rel.lend (R:Rel C m s tmps w) {q:Nat} {ks:List Nat} {avs:List AV} {H0:Heap} {vals:Array Value} (hle:LeH ks s.H ks H0) (hnd:ks.Nodup) (hq:q≤H0.length) (hna:H0.all notAnc=true) (hsz:vals.size=avs.length)
  (hv:∀ t (h:t < avs.length),AVal (Reads (OK (subC C m s.H ks H0 w) (mren m ks) H0 w) w) (mren m ks) H0 avs[t] (vals.getD t undef)):Rel (subC C m s.H ks H0 w) (mren m ks) ⟨avs.length,entA 0 avs,H0++ancs 0 q⟩ vals w:=by
 obtain ⟨g1,g2⟩:=hle.get
 have ho1:∀ b,OK C m s.H w b→OK (subC C m s.H ks H0 w) (mren m ks) H0 w b:=by
  refine fun b h=>⟨.inl h,h.2.1,fun k c l hk hl=>?_⟩
  obtain ⟨k',d,a1,a2,_⟩:=LeH.own g2 k c hk
  simp only [mren,a1,Option.bind_some] at hl
  exact h.2.2 k' _ l a2 hl
 have R0:Rel (subC C m s.H ks H0 w) (mren m ks) ⟨avs.length,entA 0 avs,H0⟩ vals w:=by
  refine R.weakenC (s1:=⟨avs.length,entA 0 avs,H0⟩) hsz hnd hle ho1 (BelowP.refl _ _) (fun b h=>.inl h) (fun k b l h hw hl _=>.inr ⟨k,b,l,h,hw,hl,rfl⟩) (fun k i j h=>?_) fun t=>?_
  ·exact absurd rfl (notAnc_spec ((List.all_eq_true.1 hna) _ (List.mem_of_getElem? h)) i j)
  ·unfold St.get
   simp only
   rw [entA_lk,if_pos (Nat.zero_le _),Nat.sub_zero]
   by_cases ht:t < avs.length
   ·have:=hv t ht
    simpa [List.getD,List.getElem?_eq_getElem ht] using this
   ·rw [List.getD_eq_getElem?_getD,List.getElem?_eq_none (by omega)]
    exact .dead _
 exact R0.addAnc (n:=q) hq fun i _=>rfl

theorem lend_ok {ks:List Nat} {H0:Heap} (hle:LeH ks s.H ks H0):∀ b,OK C m s.H w b→OK (subC C m s.H ks H0 w) (mren m ks) H0 w b:=by
 obtain ⟨g1,g2⟩:=hle.get
 refine fun b h=>⟨.inl h,h.2.1,fun k c l hk hl=>?_⟩
 obtain ⟨k',d,a1,a2,_⟩:=LeH.own g2 k c hk
 simp only [mren,a1,Option.bind_some] at hl
 exact h.2.2 k' _ l a2 hl

theorem scQ_parts {q:Nat} {r:AV} {H0 H1:Heap} (h:scQ q r H0 H1=true):q≤H1.length∧q≤H0.length∧H0.all notAnc=true:=by
 unfold scQ at h
 rw [Bool.and_eq_true,Bool.and_eq_true,Bool.and_eq_true,Bool.and_eq_true,Bool.and_eq_true,Bool.and_eq_true,decide_eq_true_eq,decide_eq_true_eq] at h
 exact ⟨h.1.1.1.1.2,h.1.1.1.2,h.2⟩

theorem call_doesQ {o:Oper} {fo:Operand} {args:Array Operand} {ts:Array TypeId} (ho:o.op = .call { callee:=.value fo,args:=args,argTypes:=ts }) {g:FuncId} {cap:List AV} (hfo:clA (s.ev fo)=some (g,cap)) {q:Nat} {ks:List Nat} {avs:List AV} {H0 H1:Heap} {r:AV}
  (hc:FnQ P q g avs H0 r H1) (hargs:argsM s.H ks (args.toList.map s.ev++cap) avs) (hle:LeH ks s.H ks H0) (hnd:ks.Nodup) (hks:ks.all (fun k=>decide (k < s.H.length))=true) (hsc:scQ q r H0 H1=true) :
  DoesW P o s (Go.Pv.ren (ks.take q++List.range' s.H.length (H1.length - q)) r) (putM (kills s.H (ks.drop q)) (ks.take q) (H1.map (Blk.ren (ks.take q++List.range' s.H.length (H1.length - q))))):=by
 intro C m a w K Q R hK
 have hks' : ∀ k∈ks,k < s.H.length:=fun k hk=>by simpa using (List.all_eq_true.1 hks) k hk
 obtain ⟨vs,hfe,hcl,hcr⟩:=clA_val R hfo
 obtain ⟨⟨fn,hfn,hnm,hbd⟩,hcalls⟩:=hc
 obtain ⟨_,hq,hna⟩:=scQ_parts hsc
 have hrun:(execOp a.eval o).run P w = .ok (.enter g (args.map a.eval++vs)) w:=by
  have hnm' : ¬ fn.name = "runtime.NumGoroutine":=by simpa using hnm
  have hbd' : ¬ fn.body=none:=by intro e; rw [e] at hbd; simp at hbd
  simp [execOp,ho,resolve,hfe,Deferred.ofValue,invoke,callFunc,hfn,hnm',hbd']
 refine opR_of_wp (by rw [ho]; rfl) ?_
 unfold Oper.wp
 rw [hrun]
 simp only [Oper.upon]
 have g1:=(hle.get).1
 obtain ⟨e1,e2⟩:=argsM_val R (rd':=Reads (OK (subC C m s.H ks H0 w) (mren m ks) H0 w) w) (H0:=H0) (fun p v h=>h.mono (lend_ok hle)) g1.symm _ avs (fun i=>(args.map a.eval++vs).getD i undef) hargs fun i hi=>by
  simp only [List.length_append,List.length_map,Array.length_toList] at hi
  by_cases hip:i < args.size
  ·rw [List.getElem_append_left (by simpa using hip)]
   simp only [Array.getD_eq_getD_getElem?]
   rw [Array.getElem?_append_left (by simpa using hip)]
   have:=R.ev args[i]
   simpa [Array.getElem?_eq_getElem hip] using this
  ·rw [List.getElem_append_right (by simp; omega)]
   simp only [Array.getD_eq_getD_getElem?]
   rw [Array.getElem?_append_right (by simp; omega)]
   simp only [List.length_map,Array.length_toList,Array.size_map]
   have:=hcr (i - args.size) (by omega)
   rw [Array.getD_eq_getD_getElem?] at this
   exact this
 have hsz:(args.map a.eval++vs).size=avs.length:=by
  rw [e1]; simp; omega
 have R0':=R.lend (q:=q) hle hnd hq hna hsz e2
 refine (hcalls _ _ w _ R0').mono fun e w' ⟨v,m',he,R1⟩=>?_
 subst he
 obtain ⟨m2,R2,hv,_⟩:=R.joinQ hle hks' R1 hsc
 exact hK v m2 w' R2 hv

/-- THE WORD OF THE WALK: a call that is lent blocks; the first q stay in their places. -/
theorem runs_callQ {all:Array Oper} {rest:List Oper} {K:St→Prop} {dst:Option Tmp} {ty:TypeId} {pos:String} {aft:Array Edge} {gd:Option (Nat × Bool)} {fo:Operand} {args:Array Operand} {ts:Array TypeId} {g:FuncId} {avs:List AV} {H0 H1:Heap} {r:AV} {q:Nat} (ks:List Nat)
  (hc:FnQ P q g avs H0 r H1) {cap:List AV} (hfo:clA (s.ev fo)=some (g,cap)) (hg:guardA all s { dst:=dst,op:=.call { callee:=.value fo,args:=args,argTypes:=ts },type:=ty,pos:=pos,after:=aft,guard:=gd } = some true)
  (hargs:argsM s.H ks (args.toList.map s.ev++cap) avs) (hle:LeH ks s.H ks H0) (hnd:ks.Nodup) (hks:ks.all (fun k=>decide (k < s.H.length))=true) (hsc:scQ q r H0 H1=true) (hd:dstOk s dst)
  (h:Runs P false all rest K (({ s with H:=putM (kills s.H (ks.drop q)) (ks.take q) (H1.map (Blk.ren (ks.take q++List.range' s.H.length (H1.length - q)))) } : St).put dst (Go.Pv.ren (ks.take q++List.range' s.H.length (H1.length - q)) r))) :
  Runs P false all ({ dst:=dst,op:=.call { callee:=.value fo,args:=args,argTypes:=ts },type:=ty,pos:=pos,after:=aft,guard:=gd } :: rest) K s:=by
 obtain ⟨s',hr,hK⟩:=h
 exact ⟨s',.cons (.op s _ _ hg (dstOk_spec hd) (call_doesQ rfl hfo hc hargs hle hnd hks hsc) fun h=>by cases h) hr,hK⟩

/-! ### Who calls yield -/

/-- THE CONTRACT OF A ROUND. -/
def YldQ (P:Program) (q κ:Nat) (rec:Loop) (l:List AV) (x:PV) (H0:Heap) (r:AV) (H1:Heap):Prop:=
 ∀ (C:Ctx) (m:Map) (w:World) (fv v:Value) (g:Nat),Rel C m ⟨2,[(0,.yv κ l rec.tmps),(1,.p x)],H0++ancs 0 q⟩ #[fv,v] w→fv = .func (.yield g) #[] #[]→w.heap[g]? = some (.loop rec) →
  RoundIn Fence.wide 0 P g rec.fn ((rec.params.zip #[v]).foldl (fun tmps (t,a)=>tmps.setIfInBounds t a) rec.tmps) rec.assign rec.body w fun e w'=>∃ v' m',e = .returned v'∧Rel C m' ⟨1,[(0,r)],H1++ancs 0 q⟩ #[v'] w'

theorem yield_doesQ {o:Oper} {fo x:Operand} {ts:Array TypeId} (ho:o.op = .call { callee:=.value fo,args:=#[x],argTypes:=ts }) {κ0:Nat} {l0:List AV} {q κ:Nat} {rec:Loop} {l:List AV} {xv:PV} {ks:List Nat} {H0 H1:Heap} {r:AV} (hfo:s.ev fo = .yv κ0 l0 rec.tmps)
  (hp:rec.params.size=1) (hlp:hget s.H κ0 = .lp rec) (hc:YldQ P q κ rec l xv H0 r H1) (hargs:argsM s.H ks [s.ev fo,s.ev x] [.yv κ l rec.tmps,.p xv]) (hle:LeH ks s.H ks H0) (hnd:ks.Nodup) (hks:ks.all (fun k=>decide (k < s.H.length))=true) (hsc:scQ q r H0 H1=true) :
  DoesW P o s (Go.Pv.ren (ks.take q++List.range' s.H.length (H1.length - q)) r) (putM (kills s.H (ks.drop q)) (ks.take q) (H1.map (Blk.ren (ks.take q++List.range' s.H.length (H1.length - q))))):=by
 intro C m a w K Q R hK
 have hks' : ∀ k∈ks,k < s.H.length:=fun k hk=>by simpa using (List.all_eq_true.1 hks) k hk
 obtain ⟨_,hq,hna⟩:=scQ_parts hsc
 have hfv:=R.ev fo
 have hxv:=R.ev x
 have hf2:=hfv
 rw [hfo] at hf2
 obtain ⟨lc,hm,hfe⟩:∃ lc,m κ0=some lc∧a.eval fo = .func (.yield lc.g) #[] #[]:=by
  generalize a.eval fo=v at hf2
  cases hf2 with
  | yv _ _ _ _ hk h hl hr=>exact h
 obtain ⟨lc2,b1,b2,b3⟩:=R.mp.2.2.2.1 κ0 rec (hget_some hlp (by simp))
 rw [hm] at b1; cases b1
 have hrun:(execOp a.eval o).run P w = .ok (.round lc.g rec.fn ((rec.params.zip #[a.eval x]).foldl (fun tmps (t,a)=>tmps.setIfInBounds t a) rec.tmps) rec.assign rec.body) w:=by
  have hy:=run_yield (P:=P) (args:=#[a.eval x]) b3 (by rw [hp]; rfl)
  simp only [execOp,ho,resolve,hfe,Deferred.ofValue,invoke,Sem.run_bind,Sem.run_pure,Result.andThen_ok,List.map_toArray,List.map_cons,List.map_nil,Array.append_empty]
  first|exact hy|simpa using hy
 refine ⟨by rw [ho]; rfl,?_⟩
 rw [hrun]
 have g1:=(hle.get).1
 obtain ⟨e1,e2⟩:=argsM_val R (rd':=Reads (OK (subC C m s.H ks H0 w) (mren m ks) H0 w) w) (H0:=H0) (fun p v h=>h.mono (lend_ok hle)) g1.symm _ _ (fun i=>(#[a.eval fo,a.eval x]:Array Value).getD i undef) hargs fun i hi=>by
  match i,hi with
  | 0,_=>exact hfv
  | 1,_=>exact hxv
 have R0':=R.lend (q:=q) (vals:=#[a.eval fo,a.eval x]) hle hnd hq hna rfl e2
 have:=hc _ _ w _ _ lc.g R0' hfe b3
 refine RoundIn.mono this fun e w' ⟨v,m',he,R1⟩=>?_
 subst he
 obtain ⟨m2,R2,hv,_⟩:=R.joinQ hle hks' R1 hsc
 exact hK v m2 w' R2 hv

/-- THE WORD OF THE WALK: a call of yield. -/
theorem runs_yield {all:Array Oper} {rest:List Oper} {K:St→Prop} {dst:Option Tmp} {ty:TypeId} {pos:String} {aft:Array Edge} {gd:Option (Nat × Bool)} {fo x:Operand} {ts:Array TypeId} {κ0:Nat} {l0:List AV} {q κ:Nat} {rec:Loop} {l:List AV} {xv:PV} {H0 H1:Heap} {r:AV} (ks:List Nat)
  (hc:YldQ P q κ rec l xv H0 r H1) (hp:rec.params.size=1) (hfo:s.ev fo = .yv κ0 l0 rec.tmps) (hlp:hget s.H κ0 = .lp rec) (hg:guardA all s { dst:=dst,op:=.call { callee:=.value fo,args:=#[x],argTypes:=ts },type:=ty,pos:=pos,after:=aft,guard:=gd } = some true)
  (hargs:argsM s.H ks [s.ev fo,s.ev x] [.yv κ l rec.tmps,.p xv]) (hle:LeH ks s.H ks H0) (hnd:ks.Nodup) (hks:ks.all (fun k=>decide (k < s.H.length))=true) (hsc:scQ q r H0 H1=true) (hd:dstOk s dst)
  (h:Runs P false all rest K (({ s with H:=putM (kills s.H (ks.drop q)) (ks.take q) (H1.map (Blk.ren (ks.take q++List.range' s.H.length (H1.length - q)))) } : St).put dst (Go.Pv.ren (ks.take q++List.range' s.H.length (H1.length - q)) r))) :
  Runs P false all ({ dst:=dst,op:=.call { callee:=.value fo,args:=#[x],argTypes:=ts },type:=ty,pos:=pos,after:=aft,guard:=gd } :: rest) K s:=by
 obtain ⟨s',hr,hK⟩:=h
 exact ⟨s',.cons (.op s _ _ hg (dstOk_spec hd) (yield_doesQ rfl hfo hp hlp hc hargs hle hnd hks hsc) fun h=>by cases h) hr,hK⟩

end
end Go.Pv

/-
  Walks: a map of some things, spread to all. Conditions: none.
-/
set_option linter.all false
namespace Go.Proofs.YtboadfahlflmhaaDoor
open Go.Pv

theorem nl_cons (a:Nat) (W:List Nat):nl (a :: W)=((a:Nat):Int) :: nl W:=rfl
theorem rgz_neg (n:Nat):rgz n (fun a=>if a < n then -1 else 0)=prow n (fun _=>false) (fun _=>0):=by
 unfold rgz prow
 exact List.map_congr_left fun a ha=>by simp [List.mem_range.1 ha]

theorem outs_le (n:Nat) (S:Nat→Bool):outs n S≤n:=by
 unfold outs mem
 exact Nat.le_trans (List.length_filter_le _ _) (by simp)
section
variable {n e N d:Nat} {m M:List Int}

set_option maxHeartbeats 4000000 in
theorem spread_yes (h:GT n m n e) (h' : GT N M N d) (F T:List Nat) (hFT:F.length=T.length) (hFl:F.length≤1000000) (hF:∀ i,i < F.length→F.getD i 0 < n) (hT:∀ i,i < F.length→T.getD i 0 < N) (hgen:∀ a,a < n→Gen n (op m n) e (fun x=>decide (x∈F)) a) {φ:Nat→Nat} (hφ:Ext n (op m n) N (op M N) F T φ):FnG Tryd.prog 130 [gp n m,gp N M,.list (il (nl F)),.list (il (nl T))] (.sl 0 0 (il (tbm n φ)).length) [.own (opl (il (tbm n φ)))]:=by
 have G:=h.2.2
 have K:=h'.2.2
 have Tb:=h.2.1
 have Tb':=h'.2.1
 have hb:=Tb.big
 have hb':=Tb'.big
 have hlF:=nl_len F
 have hlT:=nl_len T
 have hel:=G.el
 have hr0:=rgz_len n (fun a=>if a < n then -1 else 0)
 refine fng_of tab_ok Tryd.func130 rfl (by kernel_rfl) (by rw [Tryd.ntmps130]; exact Nat.le_add_left 4 _) ?_; rw [Tryd.ntmps130]
 refine qm ?_
 refine hk_region fun K hK=>runs_eval tab_ok ?_
 simp only [ev0,evA,evB,evP,fl,gp,tab,simprocAttr,reduceCtorEq,reduceIte]
 refine fin_run ?_ (hK _ ?_)<;>clear hK<;>clear K
 ·(first|exact trivial|omega|(simp only [In64] at *; omega)|(simp [In64] at *; omega)|(simp_all; done)|skip)
 refine qa (qm ?_)
 refine hk_region fun K hK=>runs_eval tab_ok ?_
 simp only [ev0,evA,evB,evP,fl,gp,tab,simprocAttr,reduceCtorEq,reduceIte,makeSliceA.eq_def,rgz_new]
 refine fin_run ?_ (hK _ ?_)<;>clear hK<;>clear K
 ·omega
 refine qa (qm (qm ?_))
 refine hk_region fun K hK=>runs_eval tab_ok ?_
 simp only [ev0,evA,evB,evP,fl,gp,tab,simprocAttr,reduceCtorEq,reduceIte]
 refine fin_run trivial (hK _ ?_)<;>clear hK<;>clear K
 refine qa (ql ?_)
 refine hk_loop (ι:=Nat) (fun i=>⟨88,[(2,.p (.list (il (nl F)))),(3,.p (.list (il (nl T)))),(4,.ptr 0 0),(5,.ptr 1 0),(9,.sl 2 0 n),(21,.p (.int .i64 n)),(22,.p (.int .i64 i))],[.own [.p (.int .i64 n),.p (.list (il m))],.own [.p (.int .i64 N),.p (.list (il M))],.own (ol (rgz n fun a=>if a < i then -1 else 0))]⟩) (fun i=>i≤n) (fun i=>n - i) 0 (Nat.zero_le _) [0,1,2] (by simp only [leq,leA,ev0,evA,evB,evP,fl,gp,tab,simprocAttr,reduceCtorEq,reduceIte]<;>first|trivial|(simp [rgz]; done)|(simp [rgz,List.take_of_length_le]; done)) fun i hi=>?_
 have hr:=rgz_len n (fun a=>if a < i then -1 else 0)
 refine qm ?_
 refine hk_region fun K hK=>runs_eval tab_ok ?_
 simp only [ev0,evA,evB,evP,fl,gp,tab,simprocAttr,reduceCtorEq,reduceIte]
 refine fin_run trivial (hK _ ?_)<;>clear hK<;>clear K
 refine qa (qm ?_)
 refine hk_cond rfl (fun hC1=>?_) (fun hC1=>?_)
 ·(try simp only [nhs] at hC1)
  have hlt:i < n:=by omega
  have hse:(rgz n fun a=>if a < i then -1 else 0).set i (-1)=rgz n fun a=>if a < i + 1 then -1 else 0:=by
   rw [rgz_set]
   exact rgz_congr fun a ha=>by
    by_cases e:a=i
    ·simp [e]
    ·by_cases e2:a < i
     ·simp [e,e2,show a < i + 1 by omega]
     ·simp [e,e2,show ¬ a < i + 1 by omega]
  refine qh (qa (qm (ql (qm ?_))))
  refine hk_region fun K hK=>runs_eval tab_ok ?_
  simp only [ev0,evA,evB,evP,fl,gp,tab,simprocAttr,reduceCtorEq,reduceIte]
  refine fin_run trivial (hK _ ?_)<;>clear hK<;>clear K
  refine qa ?_
  refine hk_region fun K hK=>runs_eval tab_ok ?_
  simp only [ev0,evA,evB,evP,fl,gp,tab,simprocAttr,reduceCtorEq,reduceIte,ol_set,hse]
  refine fin_run ?_ (hK _ ?_)<;>clear hK<;>clear K
  ·(first|exact trivial|omega|(simp only [In64] at *; omega)|(simp [In64] at *; omega)|(simp_all; done)|skip)
  refine qd (qa ?_)
  refine hk_region fun K hK=>runs_eval tab_ok ?_
  simp only [ev0,evA,evB,evP,fl,gp,tab,simprocAttr,reduceCtorEq,reduceIte]
  refine fin_run ?_ (hK _ ?_)<;>clear hK<;>clear K
  ·(first|exact trivial|omega|(simp only [In64] at *; omega)|(simp [In64] at *; omega)|(simp_all; done)|skip)
  refine qa ?_
  refine ⟨i + 1,[0,1,2],by omega,by omega,?_⟩
  simp only [leq,leA,ev0,evA,evB,evP,fl,gp,tab,simprocAttr,reduceCtorEq,reduceIte]<;>first|trivial|omega|(simp [ol_length,rgz_len]; done)
 ·(try simp only [nhs] at hC1)
  obtain rfl:i=n:=by omega
  rw [rgz_neg]
  have hp0:=prow_len i (fun _=>false) (fun _=>0)
  refine qj (qc (qc (qf (qa (qm ?_)))))
  refine hk_draw2 mixed fun K hK=>runs2_eval tab_ok ?_
  simp only [evD,ev0,evA,evB,evP,fl,gp,tab,simprocAttr,reduceCtorEq,reduceIte,ol_set,prow_set (S:=fun _=>false) (ψ:=fun _=>0) hel rfl]
  refine fin2_stop trivial (runs2_call (oneOf_c h) rfl rfl rfl rfl (by simp only [dstOk,Nat.reduceLT]) (by repeat (first|exact trivial|constructor)) (runs2_eval tab_ok ?_))
  simp only [evD,ev0,evA,evB,evP,fl,gp,tab,simprocAttr,reduceCtorEq,reduceIte,ol_set,prow_set (S:=fun _=>false) (ψ:=fun _=>0) hel rfl]
  refine fin2_stop trivial (runs2_call (oneOf_c h') rfl rfl rfl rfl (by simp only [dstOk,Nat.reduceLT]) (by repeat (first|exact trivial|constructor)) (runs2_eval tab_ok ?_))
  simp only [evD,ev0,evA,evB,evP,fl,gp,tab,simprocAttr,reduceCtorEq,reduceIte,ol_set,prow_set (S:=fun _=>false) (ψ:=fun _=>0) hel rfl]
  refine fin2_run ?_ (hK _ _ (by first|kernel_rfl|rfl) ?_)<;>clear hK<;>clear K
  ·(first|exact trivial|omega|(simp only [In64] at *; omega)|(simp [In64] at *; omega)|(simp_all; done)|skip)
  refine qa (qm ?_)
  refine hk_region fun K hK=>runs_eval tab_ok ?_
  simp only [ev0,evA,evB,evP,fl,gp,tab,simprocAttr,reduceCtorEq,reduceIte]
  refine fin_stop trivial (runs_call (oneOf_c h) rfl rfl rfl (by simp only [dstOk,Nat.reduceLT]) (by repeat (first|exact trivial|constructor)) (runs_op (buildOwn_does (n:=1) (l:=[.int .i64 ((e:Nat):Int)]) tab_ok rfl rfl rfl rfl rfl rfl rfl ⟨⟨rfl,rfl,rfl⟩,trivial⟩ rfl (by decide) rfl) rfl (show (37:Nat) < 88 by decide) (runs_eval tab_ok ?_)))
  simp only [ev0,evA,evB,evP,fl,gp,tab,simprocAttr,reduceCtorEq,reduceIte]
  refine fin_run ?_ (hK _ ?_)<;>clear hK<;>clear K
  ·trivial
  refine qa (qm (ql ?_))
  refine hk_loop (ι:=(Nat→Bool) × (Nat→Nat) × List Int × List Nat) (fun p=>⟨88,[(2,.p (.list (il (nl F)))),(3,.p (.list (il (nl T)))),(4,.ptr 0 0),(5,.ptr 1 0),(9,.sl 2 0 (prow i p.1 p.2.1).length),(11,.sl 3 p.2.2.1.length (nl p.2.2.2).length)],[.own [.p (.int .i64 i),.p (.list (il m))],.own [.p (.int .i64 N),.p (.list (il M))],.own (ol (prow i p.1 p.2.1)),.own (ol (p.2.2.1++nl p.2.2.2))]⟩) (fun p=>Sprd i (op m i) e N (op M N) d F T p.1 p.2.1 p.2.2.2∧2 * outs i p.1 + p.2.2.2.length≤200) (fun p=>2 * outs i p.1 + p.2.2.2.length) (upd1 (fun _=>false) e,updF (fun _=>0) e d,[],[e]) ⟨Sprd.begin G K,by have:=outs_le i (upd1 (fun _=>false) e); simp only [List.length_cons,List.length_nil]; omega⟩ [0,1,2,3] (by simp only [leq,leA,ev0,evA,evB,evP,fl,gp,tab,simprocAttr,reduceCtorEq,reduceIte]<;>first|trivial|exact ⟨rfl,rfl⟩|rfl|(simp [prow_len]; done)|(simp [ol,opl,il,nl,prow_len]; done)|(simp [prow_len,List.take_of_length_le]; done)) fun p hp=>?_
  obtain ⟨S,ψ,J,W⟩:=p
  obtain ⟨hp,hbd⟩:=hp
  simp only at hp hbd
  have hpl:=prow_len i S ψ
  have hnW:=nl_len W
  refine qm (qm ?_)
  refine hk_region fun K hK=>runs_eval tab_ok ?_
  simp only [ev0,evA,evB,evP,fl,gp,tab,simprocAttr,reduceCtorEq,reduceIte]
  refine fin_run trivial (hK _ ?_)<;>clear hK<;>clear K
  refine qa ?_
  refine hk_cond rfl (fun hC2=>?_) (fun hC2=>?_)
  ·(try simp only [nhs] at hC2)
   obtain ⟨a,W',rfl⟩:∃ a W',W=a :: W':=by
    cases W with
    | nil=>simp [nl] at hC2
    | cons x w'=>exact ⟨x,w',rfl⟩
   have hnc:=nl_cons a W'
   have hnW':=nl_len W'
   have hP2:=hp.pop
   simp only [List.length_cons] at hbd
   obtain ⟨ha,hSa⟩:=hP2.ha
   refine qh (qa (ql (qm ?_)))
   refine hk_region fun K hK=>runs_eval tab_ok ?_
   simp only [ev0,evA,evB,evP,fl,gp,tab,simprocAttr,reduceCtorEq,reduceIte,hnc,app_at,Nat.add_zero]
   refine fin_run ?_ (hK _ ?_)<;>clear hK<;>clear K
   ·simp only [List.length_append,List.length_cons]; omega
   refine qa (qm ?_)
   refine hk_region fun K hK=>runs_eval tab_ok ?_
   simp only [ev0,evA,evB,evP,fl,gp,tab,simprocAttr,reduceCtorEq,reduceIte]
   refine fin_run ?_ (hK _ ?_)<;>clear hK<;>clear K
   ·(first|exact trivial|omega|(simp only [In64] at *; omega)|(simp [In64] at *; omega)|(simp_all; done)|skip)
   refine qa (qm ?_)
   refine hk_region fun K hK=>runs_eval tab_ok ?_
   simp only [ev0,evA,evB,evP,fl,gp,tab,simprocAttr,reduceCtorEq,reduceIte]
   refine fin_run trivial (hK _ ?_)<;>clear hK<;>clear K
   refine qa (ql ?_)
   refine hk_loop (ι:=Nat × (Nat→Bool) × (Nat→Nat) × List Int × List Nat) (fun p=>⟨88,[(2,.p (.list (il (nl F)))),(3,.p (.list (il (nl T)))),(4,.ptr 0 0),(5,.ptr 1 0),(9,.sl 2 0 (prow i p.2.1 p.2.2.1).length),(11,.sl 3 p.2.2.2.1.length (nl p.2.2.2.2).length),(12,.p (.int .i64 a)),(46,.p (.list (il (nl F)))),(47,.p (.int .i64 F.length)),(48,.p (.int .i64 p.1))],[.own [.p (.int .i64 i),.p (.list (il m))],.own [.p (.int .i64 N),.p (.list (il M))],.own (ol (prow i p.2.1 p.2.2.1)),.own (ol (p.2.2.2.1++nl p.2.2.2.2))]⟩) (fun p=>p.1≤F.length∧Sprd2 i (op m i) e N (op M N) d F T a p.1 p.2.1 p.2.2.1 p.2.2.2.2∧2 * outs i p.2.1 + p.2.2.2.2.length≤2 * outs i S + W'.length) (fun p=>F.length - p.1) (0,S,ψ,J++[((a:Nat):Int)],W') ⟨Nat.zero_le _,hP2,Nat.le_refl _⟩ [0,1,2,3] (by simp only [leq,leA,ev0,evA,evB,evP,fl,gp,tab,simprocAttr,reduceCtorEq,reduceIte,hnc]<;>first|trivial|exact ⟨rfl,rfl⟩|rfl|(simp [nl]; done)|(simp [nl_len,il_length]; done)|omega|(rw [List.take_of_length_le (by simp only [List.length_append,List.length_cons]; omega)]; done)|exact congrArg ol (List.take_of_length_le (by simp only [List.length_append,List.length_cons]; omega)).symm|exact ⟨by rw [List.take_of_length_le (by simp only [List.length_append,List.length_cons]; omega),List.append_assoc]; rfl,by omega⟩|trace_state) fun p hp'=>?_
   obtain ⟨j,S2,ψ2,J2,W2⟩:=p
   obtain ⟨q1,q2,q3⟩:=hp'
   simp only at q1 q2 q3
   have hpl2:=prow_len i S2 ψ2
   have hnW2:=nl_len W2
   refine qm ?_
   refine hk_region fun K hK=>runs_eval tab_ok ?_
   simp only [ev0,evA,evB,evP,fl,gp,tab,simprocAttr,reduceCtorEq,reduceIte]
   refine fin_run trivial (hK _ ?_)<;>clear hK<;>clear K
   refine qa (qm ?_)
   refine hk_cond rfl (fun hC3=>?_) (fun hC3=>?_)
   ·(try simp only [nhs] at hC3)
    have hjl:j < F.length:=by omega
    have hFj:=hF j hjl
    have hTj:=hT j hjl
    obtain ⟨_,hSa2⟩:=q2.ha
    have hψa:=q2.lt a ha hSa2
    have hbl:=G.cl _ _ ha hFj
    have pa:=prow_get (S:=S2) (ψ:=ψ2) ha
    rw [hSa2,if_pos rfl] at pa
    have pb:=prow_get (S:=S2) (ψ:=ψ2) hbl
    refine qh (qa (qm (ql (qm ?_))))
    refine hk_region fun K hK=>runs_eval tab_ok ?_
    simp only [ev0,evA,evB,evP,fl,gp,tab,simprocAttr,reduceCtorEq,reduceIte,il_get (show j < (nl F).length by omega),nl_get hjl]
    refine fin_run ?_ (hK _ ?_)<;>clear hK<;>clear K
    ·(first|exact trivial|omega|(simp only [In64] at *; omega)|(simp [In64] at *; omega)|(simp_all; done)|skip)
    refine qa (qm ?_)
    refine hk_draw2 mixed fun K hK=>runs2_eval tab_ok ?_
    simp only [evD,ev0,evA,evB,evP,fl,gp,tab,simprocAttr,reduceCtorEq,reduceIte,il_get (show j < (nl T).length by omega),nl_get (show j < T.length by omega),ol_get (show a < (prow i S2 ψ2).length by omega),pa]
    refine fin2_stop trivial (runs2_call (of_c Tb ha hFj) rfl rfl rfl rfl (by simp only [dstOk,Nat.reduceLT]) (by repeat (first|exact trivial|constructor)) (runs2_eval tab_ok ?_))
    simp only [evD,ev0,evA,evB,evP,fl,gp,tab,simprocAttr,reduceCtorEq,reduceIte,il_get (show j < (nl T).length by omega),nl_get (show j < T.length by omega),ol_get (show a < (prow i S2 ψ2).length by omega),pa]
    refine fin2_stop ?_ (runs2_call (of_c Tb' hψa hTj) rfl rfl rfl rfl (by simp only [dstOk,Nat.reduceLT]) (by repeat (first|exact trivial|constructor)) (runs2_eval tab_ok ?_))
    ·(first|exact trivial|omega|(simp only [In64] at *; omega)|(simp [In64] at *; omega)|(simp_all; done)|skip)
    simp only [evD,ev0,evA,evB,evP,fl,gp,tab,simprocAttr,reduceCtorEq,reduceIte,il_get (show j < (nl T).length by omega),nl_get (show j < T.length by omega),ol_get (show a < (prow i S2 ψ2).length by omega),pa]
    refine fin2_run ?_ (hK _ _ (by first|kernel_rfl|rfl) ?_)<;>clear hK<;>clear K
    ·(first|exact trivial|omega|(simp only [In64] at *; omega)|(simp [In64] at *; omega)|(simp_all; done)|skip)
    refine qa (qm ?_)
    rcases Bool.eq_false_or_eq_true (S2 (op m i a (F.getD j 0))) with hSb | hSb<;>simp only [hSb,if_true,if_false,Bool.false_eq_true] at pb
    ·refine hk_region fun K hK=>runs_eval tab_ok ?_
     simp only [ev0,evA,evB,evP,fl,gp,tab,simprocAttr,reduceCtorEq,reduceIte,ol_get (show op m i a (F.getD j 0) < (prow i S2 ψ2).length by omega),pb,if_true,if_false,Bool.false_eq_true]
     refine fin_run ?_ (hK _ ?_)<;>clear hK<;>clear K
     ·(first|exact trivial|omega|(simp only [In64] at *; omega)|(simp [In64] at *; omega)|(simp_all; done)|skip)
     refine qa ?_
     refine hk_cond rfl (fun hC4=>?_) (fun hC4=>?_)
     ·(try simp only [nhs] at hC4)
      simp at hC4
      omega
     ·(try simp only [nhs] at hC4)
      have hdum:True:=trivial
      refine qm ?_
      refine hk_region fun K hK=>runs_eval tab_ok ?_
      simp only [ev0,evA,evB,evP,fl,gp,tab,simprocAttr,reduceCtorEq,reduceIte,ol_get (show op m i a (F.getD j 0) < (prow i S2 ψ2).length by omega),pb,if_true]
      refine fin_run ?_ (hK _ ?_)<;>clear hK<;>clear K
      ·(first|exact trivial|omega|(simp only [In64] at *; omega)|(simp [In64] at *; omega)|(simp_all; done)|skip)
      refine qa ?_
      refine hk_cond rfl (fun hC5=>?_) (fun hC5=>?_)
      ·(try simp only [nhs] at hC5)
       have h1:=((q2.rch _ hbl hSb).fun_ G K hF hφ).2
       have h2:=((Rch.step j hjl (q2.rch a ha hSa2)).fun_ G K hF hφ).2
       omega
      ·(try simp only [nhs] at hC5)
       refine qh (qd (qa ?_))
       refine hk_region fun K hK=>runs_eval tab_ok ?_
       simp only [ev0,evA,evB,evP,fl,gp,tab,simprocAttr,reduceCtorEq,reduceIte]
       refine fin_run ?_ (hK _ ?_)<;>clear hK<;>clear K
       ·(first|exact trivial|omega|(simp only [In64] at *; omega)|(simp [In64] at *; omega)|(simp_all; done)|skip)
       refine qa ?_
       have hv:ψ2 (op m i a (F.getD j 0))=op M N (ψ2 a) (T.getD j 0):=by omega
       refine ⟨(j + 1,S2,ψ2,J2,W2),[0,1,2,3],⟨by simp only; omega,q2.keep hSb hv,q3⟩,by simp only; omega,?_⟩
       simp only [leq,leA,ev0,evA,evB,evP,fl,gp,tab,simprocAttr,reduceCtorEq,reduceIte]<;>first|trivial|omega
    ·refine hk_region fun K hK=>runs_eval tab_ok ?_
     simp only [ev0,evA,evB,evP,fl,gp,tab,simprocAttr,reduceCtorEq,reduceIte,ol_get (show op m i a (F.getD j 0) < (prow i S2 ψ2).length by omega),pb,if_true,if_false,Bool.false_eq_true]
     refine fin_run ?_ (hK _ ?_)<;>clear hK<;>clear K
     ·(first|exact trivial|omega|(simp only [In64] at *; omega)|(simp [In64] at *; omega)|(simp_all; done)|skip)
     refine qa ?_
     refine hk_cond rfl (fun hC4=>?_) (fun hC4=>?_)
     ·(try simp only [nhs] at hC4)
      refine qm ?_
      refine hk_region fun K hK=>runs_eval tab_ok ?_
      simp only [ev0,evA,evB,evP,fl,gp,tab,simprocAttr,reduceCtorEq,reduceIte,ol_set,prow_set hbl hSb]
      refine fin_run ?_ (hK _ ?_)<;>clear hK<;>clear K
      ·(first|exact trivial|omega|(simp only [In64] at *; omega)|(simp [In64] at *; omega)|(simp_all; done)|skip)
      refine qa ?_
      refine hk_region fun K hK=>runs_eval tab_ok ?_
      simp only [ev0,evA,evB,evP,fl,gp,tab,simprocAttr,reduceCtorEq,reduceIte]
      refine fin_run ?_ (hK _ ?_)<;>clear hK<;>clear K
      ·simp only [List.length_append]; omega
      refine qd (qa ?_)
      refine hk_region fun K hK=>runs_eval tab_ok ?_
      simp only [ev0,evA,evB,evP,fl,gp,tab,simprocAttr,reduceCtorEq,reduceIte]
      refine fin_run ?_ (hK _ ?_)<;>clear hK<;>clear K
      ·(first|exact trivial|omega|(simp only [In64] at *; omega)|(simp [In64] at *; omega)|(simp_all; done)|skip)
      refine qa ?_
      have ho:=outs_upd hbl hSb
      refine ⟨(j + 1,upd1 S2 (op m i a (F.getD j 0)),updF ψ2 (op m i a (F.getD j 0)) (op M N (ψ2 a) (T.getD j 0)),[],W2++[op m i a (F.getD j 0)]),[0,1,2,4],⟨by simp only; omega,q2.push G K hF hT hjl hSb,by simp only [List.length_append,List.length_cons,List.length_nil]; omega⟩,by simp only; omega,?_⟩
      simp only [nl_snoc]
      simp only [leq,leA,ev0,evA,evB,evP,fl,gp,tab,simprocAttr,reduceCtorEq,reduceIte]<;>first|trivial|omega|(simp [prow_len]; done)|exact ⟨by rw [List.drop_left,List.take_length,List.take_of_length_le (by simp)],by rw [prow_len,prow_len]⟩|trace_state
     ·(try simp only [nhs] at hC4)
      simp at hC4
   ·(try simp only [nhs] at hC3)
    obtain rfl:j=F.length:=by omega
    refine qj (qc (qc (qf (qd (qa ?_)))))
    refine ⟨(S2,ψ2,J2,W2),[0,1,2,3],⟨q2.done,by simp only; omega⟩,by simp only [List.length_cons]; omega,?_⟩
    simp only [leq,leA,ev0,evA,evB,evP,fl,gp,tab,simprocAttr,reduceCtorEq,reduceIte]<;>first|trivial|omega
  ·(try simp only [nhs] at hC2)
   obtain rfl:W=[]:=by
    cases W with
    | nil=>rfl
    | cons x w=>simp [nl] at hC2
   obtain ⟨hall,hext⟩:=hp.fin G K hF hT hgen
   have hφe:∀ a,a < i→S a=true∧ψ a=φ a:=fun a ha=>⟨hall a ha,((hp.rch a ha (hall a ha)).fun_ G K hF hφ).2.symm⟩
   have htl:=tbm_len i φ
   rw [prow_all hφe]
   refine qj (qc (qc (qf (qa (qm ?_)))))
   refine hk_region fun K hK=>runs_eval tab_ok ?_
   simp only [ev0,evA,evB,evP,fl,gp,tab,simprocAttr,reduceCtorEq,reduceIte]
   refine fin_run trivial (hK _ ?_)<;>clear hK<;>clear K
   refine qa (qk ?_)
   simp only [Tryd.results130,PostG,endG,rvsA,rvA,mkTup,ev0,evA,evB,evP,fl,gp,tab,simprocAttr,reduceCtorEq,reduceIte]
   all_goals (exact ⟨[2],rfl,rfl,rfl,by simp,⟨⟨by rw [show opl (il (tbm i φ))=ol (tbm i φ) from rfl,ol_ren,take_len],opl_sc _ _⟩,trivial⟩,trivial⟩)

set_option maxHeartbeats 4000000 in
theorem spread_no (h:GT n m n e) (h' : GT N M N d) (F T:List Nat) (hFT:F.length=T.length) (hFl:F.length≤1000000) (hF:∀ i,i < F.length→F.getD i 0 < n) (hT:∀ i,i < F.length→T.getD i 0 < N) (hgen:∀ a,a < n→Gen n (op m n) e (fun x=>decide (x∈F)) a) (hφ:∀ φ,¬ Ext n (op m n) N (op M N) F T φ):FnG Tryd.prog 130 [gp n m,gp N M,.list (il (nl F)),.list (il (nl T))] (.p .nil) []:=by
 have G:=h.2.2
 have K:=h'.2.2
 have Tb:=h.2.1
 have Tb':=h'.2.1
 have hb:=Tb.big
 have hb':=Tb'.big
 have hlF:=nl_len F
 have hlT:=nl_len T
 have hel:=G.el
 have hr0:=rgz_len n (fun a=>if a < n then -1 else 0)
 refine fng_of tab_ok Tryd.func130 rfl (by kernel_rfl) (by rw [Tryd.ntmps130]; exact Nat.le_add_left 4 _) ?_; rw [Tryd.ntmps130]
 refine qm ?_
 refine hk_region fun K hK=>runs_eval tab_ok ?_
 simp only [ev0,evA,evB,evP,fl,gp,tab,simprocAttr,reduceCtorEq,reduceIte]
 refine fin_run ?_ (hK _ ?_)<;>clear hK<;>clear K
 ·(first|exact trivial|omega|(simp only [In64] at *; omega)|(simp [In64] at *; omega)|(simp_all; done)|skip)
 refine qa (qm ?_)
 refine hk_region fun K hK=>runs_eval tab_ok ?_
 simp only [ev0,evA,evB,evP,fl,gp,tab,simprocAttr,reduceCtorEq,reduceIte,makeSliceA.eq_def,rgz_new]
 refine fin_run ?_ (hK _ ?_)<;>clear hK<;>clear K
 ·omega
 refine qa (qm (qm ?_))
 refine hk_region fun K hK=>runs_eval tab_ok ?_
 simp only [ev0,evA,evB,evP,fl,gp,tab,simprocAttr,reduceCtorEq,reduceIte]
 refine fin_run trivial (hK _ ?_)<;>clear hK<;>clear K
 refine qa (ql ?_)
 refine hk_loop (ι:=Nat) (fun i=>⟨88,[(2,.p (.list (il (nl F)))),(3,.p (.list (il (nl T)))),(4,.ptr 0 0),(5,.ptr 1 0),(9,.sl 2 0 n),(21,.p (.int .i64 n)),(22,.p (.int .i64 i))],[.own [.p (.int .i64 n),.p (.list (il m))],.own [.p (.int .i64 N),.p (.list (il M))],.own (ol (rgz n fun a=>if a < i then -1 else 0))]⟩) (fun i=>i≤n) (fun i=>n - i) 0 (Nat.zero_le _) [0,1,2] (by simp only [leq,leA,ev0,evA,evB,evP,fl,gp,tab,simprocAttr,reduceCtorEq,reduceIte]<;>first|trivial|(simp [rgz]; done)|(simp [rgz,List.take_of_length_le]; done)) fun i hi=>?_
 have hr:=rgz_len n (fun a=>if a < i then -1 else 0)
 refine qm ?_
 refine hk_region fun K hK=>runs_eval tab_ok ?_
 simp only [ev0,evA,evB,evP,fl,gp,tab,simprocAttr,reduceCtorEq,reduceIte]
 refine fin_run trivial (hK _ ?_)<;>clear hK<;>clear K
 refine qa (qm ?_)
 refine hk_cond rfl (fun hC1=>?_) (fun hC1=>?_)
 ·(try simp only [nhs] at hC1)
  have hlt:i < n:=by omega
  have hse:(rgz n fun a=>if a < i then -1 else 0).set i (-1)=rgz n fun a=>if a < i + 1 then -1 else 0:=by
   rw [rgz_set]
   exact rgz_congr fun a ha=>by
    by_cases e:a=i
    ·simp [e]
    ·by_cases e2:a < i
     ·simp [e,e2,show a < i + 1 by omega]
     ·simp [e,e2,show ¬ a < i + 1 by omega]
  refine qh (qa (qm (ql (qm ?_))))
  refine hk_region fun K hK=>runs_eval tab_ok ?_
  simp only [ev0,evA,evB,evP,fl,gp,tab,simprocAttr,reduceCtorEq,reduceIte]
  refine fin_run trivial (hK _ ?_)<;>clear hK<;>clear K
  refine qa ?_
  refine hk_region fun K hK=>runs_eval tab_ok ?_
  simp only [ev0,evA,evB,evP,fl,gp,tab,simprocAttr,reduceCtorEq,reduceIte,ol_set,hse]
  refine fin_run ?_ (hK _ ?_)<;>clear hK<;>clear K
  ·(first|exact trivial|omega|(simp only [In64] at *; omega)|(simp [In64] at *; omega)|(simp_all; done)|skip)
  refine qd (qa ?_)
  refine hk_region fun K hK=>runs_eval tab_ok ?_
  simp only [ev0,evA,evB,evP,fl,gp,tab,simprocAttr,reduceCtorEq,reduceIte]
  refine fin_run ?_ (hK _ ?_)<;>clear hK<;>clear K
  ·(first|exact trivial|omega|(simp only [In64] at *; omega)|(simp [In64] at *; omega)|(simp_all; done)|skip)
  refine qa ?_
  refine ⟨i + 1,[0,1,2],by omega,by omega,?_⟩
  simp only [leq,leA,ev0,evA,evB,evP,fl,gp,tab,simprocAttr,reduceCtorEq,reduceIte]<;>first|trivial|omega|(simp [ol_length,rgz_len]; done)
 ·(try simp only [nhs] at hC1)
  obtain rfl:i=n:=by omega
  rw [rgz_neg]
  have hp0:=prow_len i (fun _=>false) (fun _=>0)
  refine qj (qc (qc (qf (qa (qm ?_)))))
  refine hk_draw2 mixed fun K hK=>runs2_eval tab_ok ?_
  simp only [evD,ev0,evA,evB,evP,fl,gp,tab,simprocAttr,reduceCtorEq,reduceIte,ol_set,prow_set (S:=fun _=>false) (ψ:=fun _=>0) hel rfl]
  refine fin2_stop trivial (runs2_call (oneOf_c h) rfl rfl rfl rfl (by simp only [dstOk,Nat.reduceLT]) (by repeat (first|exact trivial|constructor)) (runs2_eval tab_ok ?_))
  simp only [evD,ev0,evA,evB,evP,fl,gp,tab,simprocAttr,reduceCtorEq,reduceIte,ol_set,prow_set (S:=fun _=>false) (ψ:=fun _=>0) hel rfl]
  refine fin2_stop trivial (runs2_call (oneOf_c h') rfl rfl rfl rfl (by simp only [dstOk,Nat.reduceLT]) (by repeat (first|exact trivial|constructor)) (runs2_eval tab_ok ?_))
  simp only [evD,ev0,evA,evB,evP,fl,gp,tab,simprocAttr,reduceCtorEq,reduceIte,ol_set,prow_set (S:=fun _=>false) (ψ:=fun _=>0) hel rfl]
  refine fin2_run ?_ (hK _ _ (by first|kernel_rfl|rfl) ?_)<;>clear hK<;>clear K
  ·(first|exact trivial|omega|(simp only [In64] at *; omega)|(simp [In64] at *; omega)|(simp_all; done)|skip)
  refine qa (qm ?_)
  refine hk_region fun K hK=>runs_eval tab_ok ?_
  simp only [ev0,evA,evB,evP,fl,gp,tab,simprocAttr,reduceCtorEq,reduceIte]
  refine fin_stop trivial (runs_call (oneOf_c h) rfl rfl rfl (by simp only [dstOk,Nat.reduceLT]) (by repeat (first|exact trivial|constructor)) (runs_op (buildOwn_does (n:=1) (l:=[.int .i64 ((e:Nat):Int)]) tab_ok rfl rfl rfl rfl rfl rfl rfl ⟨⟨rfl,rfl,rfl⟩,trivial⟩ rfl (by decide) rfl) rfl (show (37:Nat) < 88 by decide) (runs_eval tab_ok ?_)))
  simp only [ev0,evA,evB,evP,fl,gp,tab,simprocAttr,reduceCtorEq,reduceIte]
  refine fin_run ?_ (hK _ ?_)<;>clear hK<;>clear K
  ·trivial
  refine qa (qm (ql ?_))
  refine hk_loop (ι:=(Nat→Bool) × (Nat→Nat) × List Int × List Nat) (fun p=>⟨88,[(2,.p (.list (il (nl F)))),(3,.p (.list (il (nl T)))),(4,.ptr 0 0),(5,.ptr 1 0),(9,.sl 2 0 (prow i p.1 p.2.1).length),(11,.sl 3 p.2.2.1.length (nl p.2.2.2).length)],[.own [.p (.int .i64 i),.p (.list (il m))],.own [.p (.int .i64 N),.p (.list (il M))],.own (ol (prow i p.1 p.2.1)),.own (ol (p.2.2.1++nl p.2.2.2))]⟩) (fun p=>Sprd i (op m i) e N (op M N) d F T p.1 p.2.1 p.2.2.2∧2 * outs i p.1 + p.2.2.2.length≤200) (fun p=>2 * outs i p.1 + p.2.2.2.length) (upd1 (fun _=>false) e,updF (fun _=>0) e d,[],[e]) ⟨Sprd.begin G K,by have:=outs_le i (upd1 (fun _=>false) e); simp only [List.length_cons,List.length_nil]; omega⟩ [0,1,2,3] (by simp only [leq,leA,ev0,evA,evB,evP,fl,gp,tab,simprocAttr,reduceCtorEq,reduceIte]<;>first|trivial|exact ⟨rfl,rfl⟩|rfl|(simp [prow_len]; done)|(simp [ol,opl,il,nl,prow_len]; done)|(simp [prow_len,List.take_of_length_le]; done)) fun p hp=>?_
  obtain ⟨S,ψ,J,W⟩:=p
  obtain ⟨hp,hbd⟩:=hp
  simp only at hp hbd
  have hpl:=prow_len i S ψ
  have hnW:=nl_len W
  refine qm (qm ?_)
  refine hk_region fun K hK=>runs_eval tab_ok ?_
  simp only [ev0,evA,evB,evP,fl,gp,tab,simprocAttr,reduceCtorEq,reduceIte]
  refine fin_run trivial (hK _ ?_)<;>clear hK<;>clear K
  refine qa ?_
  refine hk_cond rfl (fun hC2=>?_) (fun hC2=>?_)
  ·(try simp only [nhs] at hC2)
   obtain ⟨a,W',rfl⟩:∃ a W',W=a :: W':=by
    cases W with
    | nil=>simp [nl] at hC2
    | cons x w'=>exact ⟨x,w',rfl⟩
   have hnc:=nl_cons a W'
   have hnW':=nl_len W'
   have hP2:=hp.pop
   simp only [List.length_cons] at hbd
   obtain ⟨ha,hSa⟩:=hP2.ha
   refine qh (qa (ql (qm ?_)))
   refine hk_region fun K hK=>runs_eval tab_ok ?_
   simp only [ev0,evA,evB,evP,fl,gp,tab,simprocAttr,reduceCtorEq,reduceIte,hnc,app_at,Nat.add_zero]
   refine fin_run ?_ (hK _ ?_)<;>clear hK<;>clear K
   ·simp only [List.length_append,List.length_cons]; omega
   refine qa (qm ?_)
   refine hk_region fun K hK=>runs_eval tab_ok ?_
   simp only [ev0,evA,evB,evP,fl,gp,tab,simprocAttr,reduceCtorEq,reduceIte]
   refine fin_run ?_ (hK _ ?_)<;>clear hK<;>clear K
   ·(first|exact trivial|omega|(simp only [In64] at *; omega)|(simp [In64] at *; omega)|(simp_all; done)|skip)
   refine qa (qm ?_)
   refine hk_region fun K hK=>runs_eval tab_ok ?_
   simp only [ev0,evA,evB,evP,fl,gp,tab,simprocAttr,reduceCtorEq,reduceIte]
   refine fin_run trivial (hK _ ?_)<;>clear hK<;>clear K
   refine qa (ql ?_)
   refine hk_loop (ι:=Nat × (Nat→Bool) × (Nat→Nat) × List Int × List Nat) (fun p=>⟨88,[(2,.p (.list (il (nl F)))),(3,.p (.list (il (nl T)))),(4,.ptr 0 0),(5,.ptr 1 0),(9,.sl 2 0 (prow i p.2.1 p.2.2.1).length),(11,.sl 3 p.2.2.2.1.length (nl p.2.2.2.2).length),(12,.p (.int .i64 a)),(46,.p (.list (il (nl F)))),(47,.p (.int .i64 F.length)),(48,.p (.int .i64 p.1))],[.own [.p (.int .i64 i),.p (.list (il m))],.own [.p (.int .i64 N),.p (.list (il M))],.own (ol (prow i p.2.1 p.2.2.1)),.own (ol (p.2.2.2.1++nl p.2.2.2.2))]⟩) (fun p=>p.1≤F.length∧Sprd2 i (op m i) e N (op M N) d F T a p.1 p.2.1 p.2.2.1 p.2.2.2.2∧2 * outs i p.2.1 + p.2.2.2.2.length≤2 * outs i S + W'.length) (fun p=>F.length - p.1) (0,S,ψ,J++[((a:Nat):Int)],W') ⟨Nat.zero_le _,hP2,Nat.le_refl _⟩ [0,1,2,3] (by simp only [leq,leA,ev0,evA,evB,evP,fl,gp,tab,simprocAttr,reduceCtorEq,reduceIte,hnc]<;>first|trivial|exact ⟨rfl,rfl⟩|rfl|(simp [nl]; done)|(simp [nl_len,il_length]; done)|omega|(rw [List.take_of_length_le (by simp only [List.length_append,List.length_cons]; omega)]; done)|exact congrArg ol (List.take_of_length_le (by simp only [List.length_append,List.length_cons]; omega)).symm|exact ⟨by rw [List.take_of_length_le (by simp only [List.length_append,List.length_cons]; omega),List.append_assoc]; rfl,by omega⟩|trace_state) fun p hp'=>?_
   obtain ⟨j,S2,ψ2,J2,W2⟩:=p
   obtain ⟨q1,q2,q3⟩:=hp'
   simp only at q1 q2 q3
   have hpl2:=prow_len i S2 ψ2
   have hnW2:=nl_len W2
   refine qm ?_
   refine hk_region fun K hK=>runs_eval tab_ok ?_
   simp only [ev0,evA,evB,evP,fl,gp,tab,simprocAttr,reduceCtorEq,reduceIte]
   refine fin_run trivial (hK _ ?_)<;>clear hK<;>clear K
   refine qa (qm ?_)
   refine hk_cond rfl (fun hC3=>?_) (fun hC3=>?_)
   ·(try simp only [nhs] at hC3)
    have hjl:j < F.length:=by omega
    have hFj:=hF j hjl
    have hTj:=hT j hjl
    obtain ⟨_,hSa2⟩:=q2.ha
    have hψa:=q2.lt a ha hSa2
    have hbl:=G.cl _ _ ha hFj
    have pa:=prow_get (S:=S2) (ψ:=ψ2) ha
    rw [hSa2,if_pos rfl] at pa
    have pb:=prow_get (S:=S2) (ψ:=ψ2) hbl
    refine qh (qa (qm (ql (qm ?_))))
    refine hk_region fun K hK=>runs_eval tab_ok ?_
    simp only [ev0,evA,evB,evP,fl,gp,tab,simprocAttr,reduceCtorEq,reduceIte,il_get (show j < (nl F).length by omega),nl_get hjl]
    refine fin_run ?_ (hK _ ?_)<;>clear hK<;>clear K
    ·(first|exact trivial|omega|(simp only [In64] at *; omega)|(simp [In64] at *; omega)|(simp_all; done)|skip)
    refine qa (qm ?_)
    refine hk_draw2 mixed fun K hK=>runs2_eval tab_ok ?_
    simp only [evD,ev0,evA,evB,evP,fl,gp,tab,simprocAttr,reduceCtorEq,reduceIte,il_get (show j < (nl T).length by omega),nl_get (show j < T.length by omega),ol_get (show a < (prow i S2 ψ2).length by omega),pa]
    refine fin2_stop trivial (runs2_call (of_c Tb ha hFj) rfl rfl rfl rfl (by simp only [dstOk,Nat.reduceLT]) (by repeat (first|exact trivial|constructor)) (runs2_eval tab_ok ?_))
    simp only [evD,ev0,evA,evB,evP,fl,gp,tab,simprocAttr,reduceCtorEq,reduceIte,il_get (show j < (nl T).length by omega),nl_get (show j < T.length by omega),ol_get (show a < (prow i S2 ψ2).length by omega),pa]
    refine fin2_stop ?_ (runs2_call (of_c Tb' hψa hTj) rfl rfl rfl rfl (by simp only [dstOk,Nat.reduceLT]) (by repeat (first|exact trivial|constructor)) (runs2_eval tab_ok ?_))
    ·(first|exact trivial|omega|(simp only [In64] at *; omega)|(simp [In64] at *; omega)|(simp_all; done)|skip)
    simp only [evD,ev0,evA,evB,evP,fl,gp,tab,simprocAttr,reduceCtorEq,reduceIte,il_get (show j < (nl T).length by omega),nl_get (show j < T.length by omega),ol_get (show a < (prow i S2 ψ2).length by omega),pa]
    refine fin2_run ?_ (hK _ _ (by first|kernel_rfl|rfl) ?_)<;>clear hK<;>clear K
    ·(first|exact trivial|omega|(simp only [In64] at *; omega)|(simp [In64] at *; omega)|(simp_all; done)|skip)
    refine qa (qm ?_)
    rcases Bool.eq_false_or_eq_true (S2 (op m i a (F.getD j 0))) with hSb | hSb<;>simp only [hSb,if_true,if_false,Bool.false_eq_true] at pb
    ·refine hk_region fun K hK=>runs_eval tab_ok ?_
     simp only [ev0,evA,evB,evP,fl,gp,tab,simprocAttr,reduceCtorEq,reduceIte,ol_get (show op m i a (F.getD j 0) < (prow i S2 ψ2).length by omega),pb,if_true,if_false,Bool.false_eq_true]
     refine fin_run ?_ (hK _ ?_)<;>clear hK<;>clear K
     ·(first|exact trivial|omega|(simp only [In64] at *; omega)|(simp [In64] at *; omega)|(simp_all; done)|skip)
     refine qa ?_
     refine hk_cond rfl (fun hC4=>?_) (fun hC4=>?_)
     ·(try simp only [nhs] at hC4)
      simp at hC4
      omega
     ·(try simp only [nhs] at hC4)
      have hdum:True:=trivial
      refine qm ?_
      refine hk_region fun K hK=>runs_eval tab_ok ?_
      simp only [ev0,evA,evB,evP,fl,gp,tab,simprocAttr,reduceCtorEq,reduceIte,ol_get (show op m i a (F.getD j 0) < (prow i S2 ψ2).length by omega),pb,if_true]
      refine fin_run ?_ (hK _ ?_)<;>clear hK<;>clear K
      ·(first|exact trivial|omega|(simp only [In64] at *; omega)|(simp [In64] at *; omega)|(simp_all; done)|skip)
      refine qa ?_
      refine hk_cond rfl (fun hC5=>?_) (fun hC5=>?_)
      ·(try simp only [nhs] at hC5)
       refine qm ?_
       refine hk_region fun K hK=>runs_eval tab_ok ?_
       simp only [ev0,evA,evB,evP,fl,gp,tab,simprocAttr,reduceCtorEq,reduceIte]
       refine fin_run trivial (hK _ ?_)<;>clear hK<;>clear K
       refine qa (qk (qe (qb (qb (qe (qe (qb (qe (qb ?_)))))))))
       simp only [Tryd.results130,PostG,endG,rvsA,rvA,mkTup,ev0,evA,evB,evP,fl,gp,tab,simprocAttr,reduceCtorEq,reduceIte]
       all_goals (exact ⟨[],rfl,rfl,by simp only [leq,leA,ev0,evA,evB,evP,fl,gp,tab,simprocAttr,reduceCtorEq,reduceIte]<;>first|trivial|omega⟩)
      ·(try simp only [nhs] at hC5)
       refine qh (qd (qa ?_))
       refine hk_region fun K hK=>runs_eval tab_ok ?_
       simp only [ev0,evA,evB,evP,fl,gp,tab,simprocAttr,reduceCtorEq,reduceIte]
       refine fin_run ?_ (hK _ ?_)<;>clear hK<;>clear K
       ·(first|exact trivial|omega|(simp only [In64] at *; omega)|(simp [In64] at *; omega)|(simp_all; done)|skip)
       refine qa ?_
       have hv:ψ2 (op m i a (F.getD j 0))=op M N (ψ2 a) (T.getD j 0):=by omega
       refine ⟨(j + 1,S2,ψ2,J2,W2),[0,1,2,3],⟨by simp only; omega,q2.keep hSb hv,q3⟩,by simp only; omega,?_⟩
       simp only [leq,leA,ev0,evA,evB,evP,fl,gp,tab,simprocAttr,reduceCtorEq,reduceIte]<;>first|trivial|omega
    ·refine hk_region fun K hK=>runs_eval tab_ok ?_
     simp only [ev0,evA,evB,evP,fl,gp,tab,simprocAttr,reduceCtorEq,reduceIte,ol_get (show op m i a (F.getD j 0) < (prow i S2 ψ2).length by omega),pb,if_true,if_false,Bool.false_eq_true]
     refine fin_run ?_ (hK _ ?_)<;>clear hK<;>clear K
     ·(first|exact trivial|omega|(simp only [In64] at *; omega)|(simp [In64] at *; omega)|(simp_all; done)|skip)
     refine qa ?_
     refine hk_cond rfl (fun hC4=>?_) (fun hC4=>?_)
     ·(try simp only [nhs] at hC4)
      refine qm ?_
      refine hk_region fun K hK=>runs_eval tab_ok ?_
      simp only [ev0,evA,evB,evP,fl,gp,tab,simprocAttr,reduceCtorEq,reduceIte,ol_set,prow_set hbl hSb]
      refine fin_run ?_ (hK _ ?_)<;>clear hK<;>clear K
      ·(first|exact trivial|omega|(simp only [In64] at *; omega)|(simp [In64] at *; omega)|(simp_all; done)|skip)
      refine qa ?_
      refine hk_region fun K hK=>runs_eval tab_ok ?_
      simp only [ev0,evA,evB,evP,fl,gp,tab,simprocAttr,reduceCtorEq,reduceIte]
      refine fin_run ?_ (hK _ ?_)<;>clear hK<;>clear K
      ·simp only [List.length_append]; omega
      refine qd (qa ?_)
      refine hk_region fun K hK=>runs_eval tab_ok ?_
      simp only [ev0,evA,evB,evP,fl,gp,tab,simprocAttr,reduceCtorEq,reduceIte]
      refine fin_run ?_ (hK _ ?_)<;>clear hK<;>clear K
      ·(first|exact trivial|omega|(simp only [In64] at *; omega)|(simp [In64] at *; omega)|(simp_all; done)|skip)
      refine qa ?_
      have ho:=outs_upd hbl hSb
      refine ⟨(j + 1,upd1 S2 (op m i a (F.getD j 0)),updF ψ2 (op m i a (F.getD j 0)) (op M N (ψ2 a) (T.getD j 0)),[],W2++[op m i a (F.getD j 0)]),[0,1,2,4],⟨by simp only; omega,q2.push G K hF hT hjl hSb,by simp only [List.length_append,List.length_cons,List.length_nil]; omega⟩,by simp only; omega,?_⟩
      simp only [nl_snoc]
      simp only [leq,leA,ev0,evA,evB,evP,fl,gp,tab,simprocAttr,reduceCtorEq,reduceIte]<;>first|trivial|omega|(simp [prow_len]; done)|exact ⟨by rw [List.drop_left,List.take_length,List.take_of_length_le (by simp)],by rw [prow_len,prow_len]⟩|trace_state
     ·(try simp only [nhs] at hC4)
      simp at hC4
   ·(try simp only [nhs] at hC3)
    obtain rfl:j=F.length:=by omega
    refine qj (qc (qc (qf (qd (qa ?_)))))
    refine ⟨(S2,ψ2,J2,W2),[0,1,2,3],⟨q2.done,by simp only; omega⟩,by simp only [List.length_cons]; omega,?_⟩
    simp only [leq,leA,ev0,evA,evB,evP,fl,gp,tab,simprocAttr,reduceCtorEq,reduceIte]<;>first|trivial|omega
  ·(try simp only [nhs] at hC2)
   obtain rfl:W=[]:=by
    cases W with
    | nil=>rfl
    | cons x w=>simp [nl] at hC2
   obtain ⟨hall,hext⟩:=hp.fin G K hF hT hgen
   exact absurd hext (hφ ψ)
end
end Go.Proofs.YtboadfahlflmhaaDoor
