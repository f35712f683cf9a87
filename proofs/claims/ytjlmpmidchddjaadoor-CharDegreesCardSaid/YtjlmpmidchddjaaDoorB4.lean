/-
  Texts of this proof, one behind the other: what each says stands at its head. Conditions: none.
-/
import Derived.Test.YtjlmpmidchddjaaDoorB3
import Derived.Lib.SliceRun
import Derived.Test.YtjlmpmidchddjaaDoorB2
set_option linter.all false
namespace Go.Proofs.YtjlmpmidchddjaaDoor
open Go.Pv
theorem C9 {P:Program} {f:FuncId} {args l:List PV} (h:Ff P f args (.sl 0 0 l.length) [.own (bF l)]) (hone:l.all PV.one=true):bR P f args (.list l):=by
 refine ⟨h.1,fun okA w vals h1 h2 h3=>(h.2 okA w vals h1 h2 h3).mono fun e w' ⟨v,m',he,hbl,ho⟩=>⟨v,he,hbl,?_⟩⟩
 cases ho.val with
 | sl _ _ _ _ hk hs =>
  rcases hs with ⟨h0,ad,rfl⟩ | ⟨lc,cap,hm,rfl,hc1,hc2⟩
  ·have:l=[]:=List.eq_nil_of_length_eq_zero h0
   subst this
   exact .list0 _ _ fun _=>rfl
  rcases ho.blk 0 (bF l) rfl with ⟨hn,_⟩ | ⟨l',cur,e',hm2,hB,hh,hs1,hs3,hs2,hcells⟩
  ·have:l=[]:=List.map_eq_nil_iff.1 hn
   subst this
   exact .list0 _ _ fun h=>by cases h
  rw [hm] at hm2; cases hm2
  rw [bE] at hs2
  refine mg rfl hone ⟨.inr hB,(Array.getElem?_eq_some_iff.1 hh).1⟩ hc1 (fun j=>cur.getD (lc.o + j) undef) (fun j hj=>?_) fun j hj=>?_
  ·have:lc.o + 0 + j=lc.o + j:=by omega
   rw [this]; exact cell_of hh (by omega)
  have:=hcells j (by rw [bE]; exact hj)
  have e2:(bF l)[j]'(by rw [bE]; exact hj) = .p l[j]:=by simp [bF]
  rw [e2] at this
  exact this.aQ.mono fun b hb=>⟨hb.1,hb.2.1⟩
theorem As (s:Nat) (hs:s < 2 ^ 64):Ff Tryd.prog 68 [.int .u64 s] (.sl 0 0 (rI s).length) [.own (bF (il (rI s)))]:=by
 refine wx ae Tryd.func68 rfl (by kernel_rfl) (by rw [Tryd.ntmps68]; exact Nat.le_add_left 1 _) ?_; rw [Tryd.ntmps68]
 refine qm ?_
 refine ab fun K hK=>aa ae ?_
 simp only [aj,fl,gp,ai,simprocAttr]
 refine af trivial (hK _ ?_)<;>clear hK K
 refine qa (qm ?_)
 refine ab fun K hK=>aa ae ?_
 simp only [aj,fl,gp,ai,simprocAttr]
 refine af trivial (hK _ ?_)<;>clear hK K
 refine qa (qm (ql ?_))
 refine bN 3 rfl ?_
 refine aA (ι:=Nat × List Int) (fun p=>⟨16,[(0,.p (.int .u64 p.1)),(3,.sl 0 0 p.2.length)],[.own (ol p.2)]⟩) (fun p=>p.1 < 2 ^ 64∧p.2++rI p.1=rI s) (fun p=>p.1) (s,[]) ⟨hs,rfl⟩ [0] (by simp only [leq,bf,aj,fl,gp,ai,simprocAttr]<;>simp [iC]) fun p hp=>?_
 obtain ⟨t,out⟩:=p
 obtain ⟨ht,ho⟩:=hp
 simp only at ht ho
 refine qm (qm ?_)
 refine ab fun K hK=>aa ae ?_
 simp only [aj,fl,gp,ai,simprocAttr]
 refine af trivial (hK _ ?_)<;>clear hK K
 refine qa ?_
 refine ao rfl (fun hC1=>?_) (fun hC1=>?_)
 ·(try simp only [aG] at hC1)
  have h0:t ≠ 0:=by omega
  have ht1:t - 1 < 2 ^ 64:=by omega
  have hsub:IntKind.u64.wrap ((t:Int) - 1)=((t - 1:Nat):Int):=by rw [pj]; omega
  have hcut:t &&& (t - 1)=cut t:=rfl
  have hc:=Bb ht h0
  have hlen:out.length + 1≤64:=by
   have h1:=CO s
   rw [← ho,hc] at h1
   simp at h1; omega
  refine qh (qa (qm (ql ?_)))
  refine ab fun K hK=>aa ae ?_
  simp only [aj,fl,gp,ai,simprocAttr]
  refine an trivial (ak (HU t ht h0) rfl rfl rfl (by simp only [au,Nat.reduceLT]) (by repeat (first|exact trivial|constructor)) (aa ae ?_))
  simp only [aj,fl,gp,ai,simprocAttr]
  refine af ?_ (hK _ ?_)<;>clear hK K
  ·first|exact trivial|omega|(simp only [ah] at *; omega)|(simp [ah] at *; omega)|simp_all
  refine qd (qa ?_)
  refine ab fun K hK=>aa ae ?_
  simp only [aj,fl,gp,ai,simprocAttr,hsub,bv_and ht ht1,hcut]
  refine af ?_ (hK _ ?_)<;>clear hK K
  ·first|exact trivial|omega|(simp only [ah] at *; omega)|(simp [ah] at *; omega)|simp_all
  refine qa ?_
  refine ⟨(cut t,out++[(tz t:Int)]),[1],⟨?_,?_⟩,nh h0,?_⟩
  ·exact Nat.lt_trans (nh h0) ht
  ·show out++[(tz t:Int)]++rI (cut t)=rI s
   rw [← ho,hc]; simp
  simp only [leq,bf,aj,fl,gp,ai,simprocAttr]<;>first|trivial|omega
 (try simp only [aG] at hC1)
 have h0:t=0:=by omega
 rw [h0,BL,List.append_nil] at ho
 refine qj (qc (qc (qf (qa (qm ?_)))))
 refine ab fun K hK=>aa ae ?_
 simp only [aj,fl,gp,ai,simprocAttr]
 refine af trivial (hK _ ?_)<;>clear hK K
 refine qa (qk ?_)
 simp only [Tryd.results68,o9,o0,mN,Cp,js,aj,fl,gp,ai,simprocAttr]
 all_goals (rw [← ho]; exact ⟨[0],by simp only [leq,bf,aj,fl,gp,ai,simprocAttr]<;>simp [ol,bF]⟩)
theorem mD (s:Nat) (hs:s < 2 ^ 64):bR Tryd.prog 68 [.int .u64 s] (.list (il (rI s))):=by
 have h:=As s hs
 rw [← aH] at h
 exact C9 h (iw _)
def mc (l:List Int):Nat:=l.foldl (fun s a=>s ||| 2 ^ a.toNat) 0
theorem lS (l:List Int) (a:Int):mc (l++[a])=mc l ||| 2 ^ a.toNat:=by simp [mc,List.foldl_append]
theorem mb (l:List Int) (i:Nat):(mc l).testBit i=decide (∃ a∈l,a.toNat=i):=by
 have key:∀ (l:List Int) (s:Nat),(l.foldl (fun s a=>s ||| 2 ^ a.toNat) s).testBit i=(s.testBit i || decide (∃ a∈l,a.toNat=i)):=by
  intro l
  induction l with
  | nil=>intro s; simp
  | cons a r ih =>
   intro s
   rw [List.foldl_cons,ih,Nat.testBit_or,Nat.testBit_two_pow]
   by_cases h:a.toNat=i
   ·simp [h]
   simp [h]
 rw [mc,key]; simp
theorem mT {l:List Int} {n:Nat} (h:∀ a∈l,a.toNat < n):mc l < 2 ^ n:=by
 refine Nat.lt_pow_two_of_testBit _ fun i hi=>?_
 rw [mb,decide_eq_false_iff_not]
 rintro ⟨a,ha,rfl⟩
 have:=h a ha; omega
theorem zd (l:List Int) (hl:l.length≤1000000) (h:∀ a∈l,0≤a∧a < 64):bR Tryd.prog 66 [.list (il l)] (.int .u64 (mc l)):=by
 refine aI ae Tryd.func66 rfl (by kernel_rfl) (by rw [Tryd.ntmps66]; exact Nat.le_add_left 1 _) ?_; rw [Tryd.ntmps66]
 refine qm ?_
 refine ab fun K hK=>aa ae ?_
 simp only [aj,fl,gp,ai,simprocAttr]
 refine af trivial (hK _ ?_)<;>clear hK K
 refine qa (qm ?_)
 refine ab fun K hK=>aa ae ?_
 simp only [aj,fl,gp,ai,simprocAttr]
 refine af trivial (hK _ ?_)<;>clear hK K
 refine qa (qm (qm ?_))
 refine ab fun K hK=>aa ae ?_
 simp only [aj,fl,gp,ai,simprocAttr]
 refine af trivial (hK _ ?_)<;>clear hK K
 refine qa (ql ?_)
 refine aA (ι:=Nat) (fun i=>⟨18,[(3,.p (.int .u64 (mc (l.take i)))),(6,.p (.list (il l))),(7,.p (.int .i64 l.length)),(8,.p (.int .i64 i))],[]⟩) (fun i=>i≤l.length) (fun i=>l.length - i) 0 (Nat.zero_le _) [] (by simp only [leq,bf,aj,fl,gp,ai,simprocAttr]<;>simp [mc]) fun i hi=>?_
 refine qm ?_
 refine ab fun K hK=>aa ae ?_
 simp only [aj,fl,gp,ai,simprocAttr]
 refine af trivial (hK _ ?_)<;>clear hK K
 refine qa (qm ?_)
 refine ao rfl (fun hC1=>?_) (fun hC1=>?_)
 ·(try simp only [aG] at hC1)
  have hlt:i < l.length:=by omega
  have hmem:l.getD i 0∈l:=by simp [List.getD,List.getElem?_eq_getElem hlt]
  obtain ⟨a1,a2⟩:=h _ hmem
  obtain ⟨a,ha⟩:=Int.eq_ofNat_of_zero_le a1
  have ha64:a < 64:=by omega
  have hm:mc (l.take i) < 2 ^ 64:=mT fun x hx=>by have:=h x (List.mem_of_mem_take hx); omega
  have hp:2 ^ a < 2 ^ 64:=Nat.pow_lt_pow_right (by omega) ha64
  have hs:mc (l.take (i + 1))=mc (l.take i) ||| 2 ^ a:=by
   rw [List.take_succ_eq_append_getElem hlt,lS]
   have:l[i]=(a:Int):=by rw [← ha]; simp [List.getD,List.getElem?_eq_getElem hlt]
   rw [this]; rfl
  refine qh (qa (qm (ql (qm ?_))))
  refine ab fun K hK=>aa ae ?_
  simp only [aj,fl,gp,ai,simprocAttr,aL hlt,ha]
  refine af ?_ (hK _ ?_)<;>clear hK K
  ·first|exact trivial|omega|(simp only [ah] at *; omega)|(simp [ah] at *; omega)|simp_all
  refine qa ?_
  refine ab fun K hK=>aa ae ?_
  simp only [aj,fl,gp,ai,simprocAttr,iN ha64,nP hm hp]
  refine af ?_ (hK _ ?_)<;>clear hK K
  ·first|exact trivial|omega|(simp only [ah] at *; omega)|(simp [ah] at *; omega)|simp_all
  refine qd (qa ?_)
  refine ab fun K hK=>aa ae ?_
  simp only [aj,fl,gp,ai,simprocAttr]
  refine af ?_ (hK _ ?_)<;>clear hK K
  ·first|exact trivial|omega|(simp only [ah] at *; omega)|(simp [ah] at *; omega)|simp_all
  refine qa ?_
  refine ⟨i + 1,[],by omega,by omega,?_⟩
  rw [hs]
  simp only [leq,bf,aj,fl,gp,ai,simprocAttr]<;>first|trivial|omega
 (try simp only [aG] at hC1)
 have hin:i=l.length:=by omega
 refine qj (qc (qc (qf (qa (qm ?_)))))
 refine ab fun K hK=>aa ae ?_
 simp only [aj,fl,gp,ai,simprocAttr]
 refine af trivial (hK _ ?_)<;>clear hK K
 refine qa (qk ?_)
 simp only [Tryd.results66,bG,aj,fl,gp,ai,simprocAttr]
 all_goals (rw [hin,List.take_length])
theorem wH:∀ {l r:List Int},l.Pairwise (· < ·)→r.Pairwise (· < ·)→(∀ x,x∈l↔x∈r)→l=r
 | [],[],_,_,_=>rfl
 | [],b :: r,_,_,h=>by have:=(h b).2 (by simp); simp at this
 | a :: l,[],_,_,h=>by have:=(h a).1 (by simp); simp at this
 | a :: l,b :: r,h1,h2,h=>by
  rw [List.pairwise_cons] at h1 h2
  have hab:a=b:=by
   have ha:=(h a).1 (by simp)
   have hb:=(h b).2 (by simp)
   rcases List.mem_cons.1 ha with e | e
   ·exact e
   rcases List.mem_cons.1 hb with e' | e'
   ·exact e'.symm
   have:=h1.1 b e'; have:=h2.1 a e; omega
  subst hab
  rw [wH h1.2 h2.2 fun x=>?_]
  have hx:=h x
  constructor
  ·intro hm
   rcases List.mem_cons.1 (hx.1 (by simp [hm])) with e | e
   ·subst e; have:=h1.1 x hm; omega
   exact e
  intro hm
  rcases List.mem_cons.1 (hx.2 (by simp [hm])) with e | e
  ·subst e; have:=h2.1 x hm; omega
  exact e
theorem cD {n:Nat} {p:Nat→Bool} {x:Int} : x∈aS n p↔∃ a,a < n∧p a=true∧x=(a:Int):=by
 unfold aS
 rw [List.mem_map]
 constructor
 ·rintro ⟨a,ha,rfl⟩
  obtain ⟨h1,h2⟩:=ow.1 ha
  exact ⟨a,h1,h2,rfl⟩
 rintro ⟨a,h1,h2,rfl⟩
 exact ⟨a,ow.2 ⟨h1,h2⟩,rfl⟩
theorem rU (n:Nat) (p:Nat→Bool):(aS n p).Pairwise (· < ·):=by
 unfold aS gC
 rw [List.pairwise_map]
 refine (List.Pairwise.filter p List.pairwise_lt_range).imp fun {a b} h=>by omega
def EP (l:List Int) (a:Nat):Bool:=decide ((a:Int)∈l)
def vd (N:Int) (l:List Int) (i:Nat):Int × Int:=if ¬ Cy N l i then (3,(i:Int)) else if 0 < i∧l.getD i 0≤l.getD (i - 1) 0 then (5,(i:Int)) else (0,0)
def lf (N:Int) (l:List Int):Int × Int:=
 if (l.length:Int) > N then (2,0)
 else match bQ (fun i=>decide (¬ (vd N l i).1=0)) l.length with
  | some i=>vd N l i
  | none=>(0,0)
def sf (N:Int) (m l:List Int):Int × Int:=if ¬ (gf N m).1=0 then gf N m else lf N l
theorem CS {N:Int} {l:List Int} (h:(l.length:Int) > N):lf N l=(2,0):=by unfold lf; rw [if_pos h]
theorem zx {N:Int} {l:List Int} {i:Nat} {w:Int × Int} (h:¬ (l.length:Int) > N) (hi:i < l.length) (hw:vd N l i=w) (hn:¬ w.1=0) (hj:∀ j,j < i→(vd N l j).1=0):lf N l=w:=by
 have:bQ (fun i=>decide (¬ (vd N l i).1=0)) l.length=some i:=du hi (decide_eq_true (by rw [hw]; exact hn)) fun j h=>decide_eq_false fun h'=>h' (hj j h)
 unfold lf; rw [if_neg h,this]; exact hw
theorem wI {N:Int} {l:List Int} (h:¬ (l.length:Int) > N) (hj:∀ j,j < l.length→(vd N l j).1=0):lf N l=(0,0):=by
 have:bQ (fun i=>decide (¬ (vd N l i).1=0)) l.length=none:=eA fun j h=>decide_eq_false fun h'=>h' (hj j h)
 unfold lf; rw [if_neg h,this]
theorem EU {N:Int} {l:List Int} {i:Nat} (h:¬ Cy N l i):vd N l i=(3,(i:Int)):=by unfold vd; rw [if_pos h]
theorem HR {N:Int} {l:List Int} {i:Nat} (h:Cy N l i) (h2:0 < i) (h3:l.getD i 0≤l.getD (i - 1) 0):vd N l i=(5,(i:Int)):=by unfold vd; rw [if_neg (by simpa using h),if_pos ⟨h2,h3⟩]
theorem AR {N:Int} {l:List Int} {i:Nat} (h:Cy N l i) (h2:0 < i→¬ l.getD i 0≤l.getD (i - 1) 0):(vd N l i).1=0:=by unfold vd; rw [if_neg (by simpa using h),if_neg (fun h'=>h2 h'.1 h'.2)]
theorem jA (c a:Int):bR Tryd.prog 91 [.int .i64 c,.int .i64 a] (fl (c,a)):=by
 refine aI ae Tryd.func91 rfl (by kernel_rfl) (by rw [Tryd.ntmps91]; exact Nat.le_add_left 2 _) ?_; rw [Tryd.ntmps91]
 refine qm ?_
 refine ab fun K hK=>aa ae ?_
 simp only [aj,fl,gp,ai,simprocAttr]
 refine af ?_ (hK _ ?_)<;>clear hK K
 ·first|exact trivial|omega|(simp only [ah] at *; omega)|(simp [ah] at *; omega)|simp_all
 refine qa (qm ?_)
 refine ab fun K hK=>aa ae ?_
 simp only [aj,fl,gp,ai,simprocAttr]
 refine af ?_ (hK _ ?_)<;>clear hK K
 ·first|exact trivial|omega|(simp only [ah] at *; omega)|(simp [ah] at *; omega)|simp_all
 refine qa (qk ?_)
 simp only [Tryd.results91,bG,aj,fl,gp,ai,simprocAttr]
 all_goals (rfl)
set_option maxHeartbeats 2000000 in
theorem wg (N:Int) (m l:List Int) (hm:m.length≤1000000000000000) (hl:l.length≤1000000000000000):bR Tryd.prog 64 [gp N m,.list (il l)] (fl (sf N m l)):=by
 refine aI ae Tryd.func64 rfl (by kernel_rfl) (by rw [Tryd.ntmps64]; exact Nat.le_add_left 2 _) ?_; rw [Tryd.ntmps64]
 refine qm ?_
 refine ab fun K hK=>aa ae ?_
 simp only [aj,fl,gp,ai,simprocAttr]
 refine af ?_ (hK _ ?_)<;>clear hK K
 ·first|exact trivial|omega|(simp only [ah] at *; omega)|(simp [ah] at *; omega)|simp_all
 refine qa (qm (qm ?_))
 refine ab fun K hK=>aa ae ?_
 simp only [aj,fl,gp,ai,simprocAttr]
 refine an trivial (ak (jX N m hm) rfl rfl rfl (by simp only [au,Nat.reduceLT]) (by repeat (first|exact trivial|constructor)) (aa ae ?_))
 simp only [aj,fl,gp,ai,simprocAttr]
 refine af ?_ (hK _ ?_)<;>clear hK K
 ·first|exact trivial|omega|(simp only [ah] at *; omega)|(simp [ah] at *; omega)|simp_all
 refine qa (qm ?_)
 refine ab fun K hK=>aa ae ?_
 simp only [aj,fl,gp,ai,simprocAttr]
 refine af ?_ (hK _ ?_)<;>clear hK K
 ·first|exact trivial|omega|(simp only [ah] at *; omega)|(simp [ah] at *; omega)|simp_all
 refine qa ?_
 refine ao rfl (fun hC1=>?_) (fun hC1=>?_)
 ·(try simp only [aG] at hC1)
  refine qm ?_
  refine ab fun K hK=>aa ae ?_
  simp only [aj,fl,gp,ai,simprocAttr]
  refine af ?_ (hK _ ?_)<;>clear hK K
  ·first|exact trivial|omega|(simp only [ah] at *; omega)|(simp [ah] at *; omega)|simp_all
  refine qa (qk (qb ?_))
  simp only [Tryd.results64,bG,aj,fl,gp,ai,simprocAttr]
  all_goals (rw [sf,if_pos (by simpa using hC1)]; simp)
 (try simp only [aG] at hC1)
 have hg:(gf N m).1=0:=hC1
 refine qh (qa (qm (qm ?_)))
 refine ab fun K hK=>aa ae ?_
 simp only [aj,fl,gp,ai,simprocAttr]
 refine af ?_ (hK _ ?_)<;>clear hK K
 ·first|exact trivial|omega|(simp only [ah] at *; omega)|(simp [ah] at *; omega)|simp_all
 refine qa ?_
 refine ao rfl (fun hC2=>?_) (fun hC2=>?_)
 ·(try simp only [aG] at hC2)
  refine qm ?_
  refine ab fun K hK=>aa ae ?_
  simp only [aj,fl,gp,ai,simprocAttr]
  refine an trivial (ak (jA 2 0) rfl rfl rfl (by simp only [au,Nat.reduceLT]) (by repeat (first|exact trivial|constructor)) (aa ae ?_))
  simp only [aj,fl,gp,ai,simprocAttr]
  refine af ?_ (hK _ ?_)<;>clear hK K
  ·first|exact trivial|omega|(simp only [ah] at *; omega)|(simp [ah] at *; omega)|simp_all
  refine qa (qk (qb ?_))
  simp only [Tryd.results64,bG,aj,fl,gp,ai,simprocAttr]
  all_goals (rw [sf,if_neg (by simpa using hg),CS hC2]; simp)
 (try simp only [aG] at hC2)
 refine qh (qa (qm (qm ?_)))
 refine ab fun K hK=>aa ae ?_
 simp only [aj,fl,gp,ai,simprocAttr]
 refine af trivial (hK _ ?_)<;>clear hK K
 refine qa (ql ?_)
 refine aA (ι:=Nat) (fun i=>⟨52,[(1,.p (.list (il l))),(2,.ptr 0 0),(4,.ptr 1 0),(20,.p (.list (il l))),(21,.p (.int .i64 l.length)),(22,.p (.int .i64 i))],[.own [.p (.int .i64 N),.p (.list (il m))],.own [.p (.int .i64 0),.p (.int .i64 0)]]⟩) (fun i=>i≤l.length∧∀ j,j < i→(vd N l j).1=0) (fun i=>l.length - i) 0 ⟨Nat.zero_le _,fun j hj=>by omega⟩ [0,1] (by simp only [leq,bf,aj,fl,gp,ai,simprocAttr]<;>trivial) fun i hi=>?_
 obtain ⟨hi1,hi2⟩:=hi
 refine qm ?_
 refine ab fun K hK=>aa ae ?_
 simp only [aj,fl,gp,ai,simprocAttr]
 refine af trivial (hK _ ?_)<;>clear hK K
 refine qa (qm ?_)
 refine ao rfl (fun hC3=>?_) (fun hC3=>?_)
 ·(try simp only [aG] at hC3)
  have hlt:i < l.length:=by omega
  refine qh (qa (qm (ql (qm ?_))))
  refine ab fun K hK=>aa ae ?_
  simp only [aj,fl,gp,ai,simprocAttr,aL hlt]
  refine af ?_ (hK _ ?_)<;>clear hK K
  ·first|exact trivial|omega|(simp only [ah] at *; omega)|(simp [ah] at *; omega)|simp_all
  refine qa (qm (qm ?_))
  by_cases g9a:l.getD i 0 < 0
  ·refine ab fun K hK=>aa ae ?_
   simp only [aj,fl,gp,ai,simprocAttr,decide_eq_true g9a]
   refine af trivial (hK _ ?_)<;>clear hK K
   refine qa ?_
   refine ao rfl (fun hC4=>?_) (fun hC4=>?_)
   ·refine qm ?_
    refine ab fun K hK=>aa ae ?_
    simp only [aj,fl,gp,ai,simprocAttr]
    refine an trivial (ak (jA 3 i) rfl rfl rfl (by simp only [au,Nat.reduceLT]) (by repeat (first|exact trivial|constructor)) (aa ae ?_))
    simp only [aj,fl,gp,ai,simprocAttr]
    refine af ?_ (hK _ ?_)<;>clear hK K
    ·first|exact trivial|omega|(simp only [ah] at *; omega)|(simp [ah] at *; omega)|simp_all
    refine qa (qk (qb (qe (qb (qb (qe (qb ?_)))))))
    simp only [Tryd.results64,bG,aj,fl,gp,ai,simprocAttr]
    all_goals (rw [sf,if_neg (by simpa using hg),zx hC2 hlt (EU (fun h=>h (.inl g9a))) (by simp) hi2]; simp)
   cases hC4
  refine ab fun K hK=>aa ae ?_
  simp only [aj,fl,gp,ai,simprocAttr,decide_eq_false g9a]
  refine af ?_ (hK _ ?_)<;>clear hK K
  ·first|exact trivial|omega|(simp only [ah] at *; omega)|(simp [ah] at *; omega)|simp_all
  refine qa ?_
  refine ao rfl (fun hC4=>?_) (fun hC4=>?_)
  ·(try simp only [aG] at hC4)
   refine qm ?_
   refine ab fun K hK=>aa ae ?_
   simp only [aj,fl,gp,ai,simprocAttr]
   refine an trivial (ak (jA 3 i) rfl rfl rfl (by simp only [au,Nat.reduceLT]) (by repeat (first|exact trivial|constructor)) (aa ae ?_))
   simp only [aj,fl,gp,ai,simprocAttr]
   refine af ?_ (hK _ ?_)<;>clear hK K
   ·first|exact trivial|omega|(simp only [ah] at *; omega)|(simp [ah] at *; omega)|simp_all
   refine qa (qk (qb (qe (qb (qb (qe (qb ?_)))))))
   simp only [Tryd.results64,bG,aj,fl,gp,ai,simprocAttr]
   all_goals (rw [sf,if_neg (by simpa using hg),zx hC2 hlt (EU (fun h=>h (.inr hC4))) (by simp) hi2]; simp)
  (try simp only [aG] at hC4)
  have hok:Cy N l i:=by unfold Cy; omega
  refine qh (qa (qm ?_))
  by_cases g11a:(i:Int) > 0
  ·refine ab fun K hK=>aa ae ?_
   simp only [aj,fl,gp,ai,simprocAttr,aL hlt,rK,aL (show i - 1 < l.length by omega),decide_eq_true g11a]
   refine af ?_ (hK _ ?_)<;>clear hK K
   ·first|exact trivial|omega|(simp only [ah] at *; omega)|(simp [ah] at *; omega)|simp_all
   refine qa ?_
   refine ao rfl (fun hC5=>?_) (fun hC5=>?_)
   ·(try simp only [aG] at hC5)
    refine qm ?_
    refine ab fun K hK=>aa ae ?_
    simp only [aj,fl,gp,ai,simprocAttr]
    refine an trivial (ak (jA 5 i) rfl rfl rfl (by simp only [au,Nat.reduceLT]) (by repeat (first|exact trivial|constructor)) (aa ae ?_))
    simp only [aj,fl,gp,ai,simprocAttr]
    refine af ?_ (hK _ ?_)<;>clear hK K
    ·first|exact trivial|omega|(simp only [ah] at *; omega)|(simp [ah] at *; omega)|simp_all
    refine qa (qk (qe (qb (qb (qe (qb ?_))))))
    simp only [Tryd.results64,bG,aj,fl,gp,ai,simprocAttr]
    all_goals (rw [sf,if_neg (by simpa using hg),zx hC2 hlt (HR hok (by omega) hC5) (by simp) hi2]; simp)
   (try simp only [aG] at hC5)
   have h0:(vd N l i).1=0:=AR hok fun h=>by omega
   refine qh (qd (qa ?_))
   refine ab fun K hK=>aa ae ?_
   simp only [aj,fl,gp,ai,simprocAttr]
   refine af ?_ (hK _ ?_)<;>clear hK K
   ·first|exact trivial|omega|(simp only [ah] at *; omega)|(simp [ah] at *; omega)|simp_all
   refine qa ?_
   refine ⟨i + 1,[0,1],⟨by omega,fun j hj=>?_⟩,by omega,?_⟩
   ·by_cases hj:j=i
    ·subst hj; exact h0
    exact hi2 j (by omega)
   simp only [leq,bf,aj,fl,gp,ai,simprocAttr]<;>omega
  refine ab fun K hK=>aa ae ?_
  simp only [aj,fl,gp,ai,simprocAttr,aL hlt,rK,aL (show i - 1 < l.length by omega),decide_eq_false g11a]
  refine af trivial (hK _ ?_)<;>clear hK K
  refine qa ?_
  refine ao rfl (fun hC5=>?_) (fun hC5=>?_)
  ·cases hC5
  have h0:(vd N l i).1=0:=AR hok fun h=>by omega
  refine qh (qd (qa ?_))
  refine ab fun K hK=>aa ae ?_
  simp only [aj,fl,gp,ai,simprocAttr]
  refine af ?_ (hK _ ?_)<;>clear hK K
  ·first|exact trivial|omega|(simp only [ah] at *; omega)|(simp [ah] at *; omega)|simp_all
  refine qa ?_
  refine ⟨i + 1,[0,1],⟨by omega,fun j hj=>?_⟩,by omega,?_⟩
  ·by_cases hj:j=i
   ·subst hj; exact h0
   exact hi2 j (by omega)
  simp only [leq,bf,aj,fl,gp,ai,simprocAttr]<;>omega
 (try simp only [aG] at hC3)
 refine qj (qc (qc (qf (qa (qm ?_)))))
 refine ab fun K hK=>aa ae ?_
 simp only [aj,fl,gp,ai,simprocAttr]
 refine af ?_ (hK _ ?_)<;>clear hK K
 ·first|exact trivial|omega|(simp only [ah] at *; omega)|(simp [ah] at *; omega)|simp_all
 refine qa (qk ?_)
 simp only [Tryd.results64,bG,aj,fl,gp,ai,simprocAttr]
 all_goals (rw [sf,if_neg (by simpa using hg),wI hC2 (fun j hj=>hi2 j (by omega))]; simp)
theorem Ee (n:Nat) (m:List Int) (F:FuncId) (caps:List PV) (p:Nat→Bool) (hn:n≤1000000) (hF:∀ a,a < n→bR Tryd.prog F (.int .i64 a :: caps) (.bool (p a))):bR Tryd.prog 24 [gp n m,.fn F caps] (.list (il (aS n p))):=by
 refine aI ae Tryd.func24 rfl (by kernel_rfl) (by rw [Tryd.ntmps24]; exact Nat.le_add_left 2 _) ?_; rw [Tryd.ntmps24]
 refine qm ?_
 refine ab fun K hK=>aa ae ?_
 simp only [aj,fl,gp,ai,simprocAttr]
 refine af ?_ (hK _ ?_)<;>clear hK K
 ·first|exact trivial|omega|(simp only [ah] at *; omega)|(simp [ah] at *; omega)|simp_all
 refine qa (qm ?_)
 refine ab fun K hK=>aa ae ?_
 simp only [aj,fl,gp,ai,simprocAttr]
 refine af trivial (hK _ ?_)<;>clear hK K
 refine qa (qm (qm ?_))
 refine ab fun K hK=>aa ae ?_
 simp only [aj,fl,gp,ai,simprocAttr]
 refine af trivial (hK _ ?_)<;>clear hK K
 refine qa (ql ?_)
 refine bN 5 rfl ?_
 refine aA (ι:=Nat) (fun i=>⟨21,[(1,.p (.fn F caps)),(2,.ptr 0 0),(5,.sl 1 0 (aS i p).length),(6,.p (.int .i64 i))],[.own [.p (.int .i64 n),.p (.list (il m))],.own (ol (aS i p))]⟩) (fun i=>i≤n) (fun i=>n - i) 0 (Nat.zero_le _) [0,1] (by simp only [leq,bf,aj,fl,gp,ai,simprocAttr]<;>simp [aS,gC,iC]) fun i hi=>?_
 have hl:=b9 i p
 refine qm (qm ?_)
 refine ab fun K hK=>aa ae ?_
 simp only [aj,fl,gp,ai,simprocAttr]
 refine af ?_ (hK _ ?_)<;>clear hK K
 ·first|exact trivial|omega|(simp only [ah] at *; omega)|(simp [ah] at *; omega)|simp_all
 refine qa ?_
 refine ao rfl (fun hC1=>?_) (fun hC1=>?_)
 ·(try simp only [aG] at hC1)
  have hlt:i < n:=by omega
  have hs:=ma i p
  refine qh (qa (qm (ql (qm ?_))))
  refine ab fun K hK=>aa ae ?_
  simp only [aj,fl,gp,ai,simprocAttr]
  refine an trivial (ak (hF i hlt) rfl rfl rfl (by simp only [au,Nat.reduceLT]) (by repeat (first|exact trivial|constructor)) (aa ae ?_))
  simp only [aj,fl,gp,ai,simprocAttr]
  refine af trivial (hK _ ?_)<;>clear hK K
  refine qa ?_
  refine ao rfl (fun hC2=>?_) (fun hC2=>?_)
  ·(try simp only [aG] at hC2)
   rw [if_pos hC2] at hs
   refine ab fun K hK=>aa ae ?_
   simp only [aj,fl,gp,ai,simprocAttr]
   refine af ?_ (hK _ ?_)<;>clear hK K
   ·first|exact trivial|omega|(simp only [ah] at *; omega)|(simp [ah] at *; omega)|simp_all
   refine qd (qa ?_)
   refine ab fun K hK=>aa ae ?_
   simp only [aj,fl,gp,ai,simprocAttr]
   refine af ?_ (hK _ ?_)<;>clear hK K
   ·first|exact trivial|omega|(simp only [ah] at *; omega)|(simp [ah] at *; omega)|simp_all
   refine qa ?_
   refine ⟨i + 1,[0,2],by omega,by omega,?_⟩
   rw [hs]
   simp only [leq,bf,aj,fl,gp,ai,simprocAttr]<;>first|trivial|omega
  (try simp only [aG] at hC2)
  rw [if_neg (by rw [hC2]; simp)] at hs
  refine qh (qd (qa ?_))
  refine ab fun K hK=>aa ae ?_
  simp only [aj,fl,gp,ai,simprocAttr]
  refine af ?_ (hK _ ?_)<;>clear hK K
  ·first|exact trivial|omega|(simp only [ah] at *; omega)|(simp [ah] at *; omega)|simp_all
  refine qa ?_
  refine ⟨i + 1,[0,1],by omega,by omega,?_⟩
  rw [hs,List.append_nil]
  simp only [leq,bf,aj,fl,gp,ai,simprocAttr]<;>first|trivial|omega
 (try simp only [aG] at hC1)
 have hin:i=n:=by omega
 subst hin
 refine iA 5 1 rfl rfl ?_
 refine qj (qc (qc (qf (qa (qm ?_)))))
 refine ab fun K hK=>aa ae ?_
 simp only [aj,fl,gp,ai,simprocAttr]
 refine af trivial (hK _ ?_)<;>clear hK K
 refine qa (qk ?_)
 simp only [Tryd.results24,bG,aj,fl,gp,ai,simprocAttr]
 all_goals (rfl)
theorem Bl (n:Nat) (m:List Int) (F:FuncId) (caps:List PV) (p:Nat→Bool) (hn:n≤1000000) (hF:∀ a,a < n→bR Tryd.prog F (.int .i64 a :: caps) (.bool (p a))):bR Tryd.prog 94 [gp n m,.fn F caps] (.list (il (aS n p))):=by
 refine aI ae Tryd.func94 rfl (by kernel_rfl) (by rw [Tryd.ntmps94]; exact Nat.le_add_left 2 _) ?_; rw [Tryd.ntmps94]
 refine qm ?_
 refine ab fun K hK=>aa ae ?_
 simp only [aj,fl,gp,ai,simprocAttr]
 refine af ?_ (hK _ ?_)<;>clear hK K
 ·first|exact trivial|omega|(simp only [ah] at *; omega)|(simp [ah] at *; omega)|simp_all
 refine qa (qm ?_)
 refine ab fun K hK=>aa ae ?_
 simp only [aj,fl,gp,ai,simprocAttr]
 refine af trivial (hK _ ?_)<;>clear hK K
 refine qa (qm (qm ?_))
 refine bN 5 rfl ?_
 refine ab fun K hK=>aa ae ?_
 simp only [aj,fl,gp,ai,simprocAttr]
 refine af ?_ (hK _ ?_)<;>clear hK K
 ·first|exact trivial|omega|(simp only [ah] at *; omega)|(simp [ah] at *; omega)|simp_all
 refine qa (ql ?_)
 refine aA (ι:=Nat) (fun i=>⟨21,[(1,.p (.fn F caps)),(5,.sl 0 0 (aS i p).length),(8,.p (.int .i64 n)),(9,.p (.int .i64 i))],[.own (ol (aS i p))]⟩) (fun i=>i≤n) (fun i=>n - i) 0 (Nat.zero_le _) [1] (by simp only [leq,bf,aj,fl,gp,ai,simprocAttr]<;>simp [aS,gC,iC]) fun i hi=>?_
 have hl:=b9 i p
 refine qm ?_
 refine ab fun K hK=>aa ae ?_
 simp only [aj,fl,gp,ai,simprocAttr]
 refine af trivial (hK _ ?_)<;>clear hK K
 refine qa (qm ?_)
 refine ao rfl (fun hC1=>?_) (fun hC1=>?_)
 ·(try simp only [aG] at hC1)
  have hlt:i < n:=by omega
  have hs:=ma i p
  refine qh (qa (qm (ql (qm ?_))))
  refine ab fun K hK=>aa ae ?_
  simp only [aj,fl,gp,ai,simprocAttr]
  refine af trivial (hK _ ?_)<;>clear hK K
  refine qa (qm ?_)
  refine ab fun K hK=>aa ae ?_
  simp only [aj,fl,gp,ai,simprocAttr]
  refine an trivial (ak (hF i hlt) rfl rfl rfl (by simp only [au,Nat.reduceLT]) (by repeat (first|exact trivial|constructor)) (aa ae ?_))
  simp only [aj,fl,gp,ai,simprocAttr]
  refine af trivial (hK _ ?_)<;>clear hK K
  refine qa ?_
  refine ao rfl (fun hC2=>?_) (fun hC2=>?_)
  ·(try simp only [aG] at hC2)
   rw [if_pos hC2] at hs
   refine ab fun K hK=>aa ae ?_
   simp only [aj,fl,gp,ai,simprocAttr]
   refine af ?_ (hK _ ?_)<;>clear hK K
   ·first|exact trivial|omega|(simp only [ah] at *; omega)|(simp [ah] at *; omega)|simp_all
   refine qd (qa ?_)
   refine ab fun K hK=>aa ae ?_
   simp only [aj,fl,gp,ai,simprocAttr]
   refine af ?_ (hK _ ?_)<;>clear hK K
   ·first|exact trivial|omega|(simp only [ah] at *; omega)|(simp [ah] at *; omega)|simp_all
   refine qa ?_
   refine ⟨i + 1,[1],by omega,by omega,?_⟩
   rw [hs]
   simp only [leq,bf,aj,fl,gp,ai,simprocAttr]<;>first|trivial|omega
  (try simp only [aG] at hC2)
  rw [if_neg (by rw [hC2]; simp)] at hs
  refine qh (qd (qa ?_))
  refine ab fun K hK=>aa ae ?_
  simp only [aj,fl,gp,ai,simprocAttr]
  refine af ?_ (hK _ ?_)<;>clear hK K
  ·first|exact trivial|omega|(simp only [ah] at *; omega)|(simp [ah] at *; omega)|simp_all
  refine qa ?_
  refine ⟨i + 1,[0],by omega,by omega,?_⟩
  rw [hs,List.append_nil]
  simp only [leq,bf,aj,fl,gp,ai,simprocAttr]<;>first|trivial|omega
 (try simp only [aG] at hC1)
 have hin:i=n:=by omega
 subst hin
 refine iA 5 0 rfl rfl ?_
 refine qj (qc (qc (qf (qa (qm ?_)))))
 refine ab fun K hK=>aa ae ?_
 simp only [aj,fl,gp,ai,simprocAttr]
 refine af trivial (hK _ ?_)<;>clear hK K
 refine qa (qk ?_)
 simp only [Tryd.results94,bG,aj,fl,gp,ai,simprocAttr]
 all_goals (rfl)
structure GS (S:List Nat) (f:Nat→Nat→Nat) (e:Nat):Prop where
 nd:S.Nodup
 cl:∀ a b,a∈S→b∈S→f a b∈S
 el:e∈S
 one_l:∀ a,a∈S→f e a=a
 one_r:∀ a,a∈S→f a e=a
 assoc:∀ a b c,a∈S→b∈S→c∈S→f (f a b) c=f a (f b c)
 inv:∀ a,a∈S→∃ b,b∈S∧f a b=e∧f b a=e
theorem z7 {S:List Nat} (h:S.Nodup) {i j:Nat} (hi:i < S.length) (hj:j < S.length) (he:S.getD i 0=S.getD j 0):i=j:=by
 simp only [List.getD,List.getElem?_eq_getElem hi,List.getElem?_eq_getElem hj,Option.getD_some] at he
 rcases Nat.lt_trichotomy i j with hl | hl | hl
 ·exact absurd he (List.pairwise_iff_getElem.1 h i j hi hj hl)
 ·exact hl
 exact absurd he.symm (List.pairwise_iff_getElem.1 h j i hj hi hl)
section
variable {S:List Nat} {f:Nat→Nat→Nat} {e:Nat}
end
section
variable {n:Nat} {f:Nat→Nat→Nat} {e:Nat}
structure Sub (n:Nat) (f:Nat→Nat→Nat) (e:Nat) (H:Nat→Bool):Prop where
 one:H e=true
 mul:∀ a b,a < n→b < n→H a=true→H b=true→H (f a b)=true
 inv:∀ a,a < n→H a=true→H (iv n f e a)=true
def mem (n:Nat) (H:Nat→Bool):List Nat:=(List.range n).filter H
theorem aR {H:Nat→Bool} {a:Nat} : a∈mem n H↔a < n∧H a=true:=by simp [mem]
theorem Sub.gs {H:Nat→Bool} (G:bB n f e) (h:Sub n f e H):GS (mem n H) f e where
 nd:=List.nodup_range.filter _
 cl a b ha hb:=by
  obtain ⟨a1,a2⟩:=aR.1 ha
  obtain ⟨b1,b2⟩:=aR.1 hb
  exact aR.2 ⟨G.cl a b a1 b1,h.mul a b a1 b1 a2 b2⟩
 el:=aR.2 ⟨G.el,h.one⟩
 one_l a ha:=G.one_l a (aR.1 ha).1
 one_r a ha:=G.one_r a (aR.1 ha).1
 assoc a b c ha hb hc:=G.assoc a b c (aR.1 ha).1 (aR.1 hb).1 (aR.1 hc).1
 inv a ha:=by
  obtain ⟨a1,a2⟩:=aR.1 ha
  exact ⟨iv n f e a,aR.2 ⟨G.az a1,h.inv a a1 a2⟩,G.cR a1,G.cV a1⟩
end
open Go.Pv
inductive eh (n:Nat) (f:Nat→Nat→Nat) (e:Nat) (p:Nat→Bool):Nat→Prop
 | one:eh n f e p e
 | step (a b:Nat):eh n f e p a→b < n→p b=true→eh n f e p (f a b)
section
variable {n:Nat} {f:Nat→Nat→Nat} {e:Nat} {p q:Nat→Bool}
theorem eh.lt (G:bB n f e) {a:Nat} (h:eh n f e p a):a < n:=by
 induction h with
 | one=>exact G.el
 | step a b _ hb _ ih=>exact G.cl a b ih hb
theorem eh.mem (G:bB n f e) {b:Nat} (hb:b < n) (h:p b=true):eh n f e p b:=by
 have:=eh.step (f:=f) e b (eh.one) hb h
 rwa [G.one_l b hb] at this
theorem eh.mul (G:bB n f e) {a b:Nat} (ha:eh n f e p a) (hb:eh n f e p b):eh n f e p (f a b):=by
 induction hb with
 | one=>rw [G.one_r a (ha.lt G)]; exact ha
 | step c d hc hd hp ih =>
  rw [← G.assoc a c d (ha.lt G) (hc.lt G) hd]
  exact .step _ d ih hd hp
theorem eh.pw (G:bB n f e) {a:Nat} (ha:eh n f e p a):∀ k,eh n f e p (pw f e a k)
 | 0=>.one
 | k + 1=>eh.mul G (eh.pw G ha k) ha
theorem bB.E5 (G:bB n f e) {a:Nat} (ha:a < n):iv n f e a=Go.Proofs.YtjlmpmidchddjaaDoor.pw f e a (ord n f e a - 1):=by
 refine (G.ef ha (G.dG ha _) (.inr ?_)).symm
 have h:=G.sU ha
 have o:=G.oA ha
 rw [show ord n f e a=(ord n f e a - 1) + 1 by omega] at h
 exact h
theorem eh.iv (G:bB n f e) {a:Nat} (ha:eh n f e p a):eh n f e p (iv n f e a):=by
 rw [G.E5 (ha.lt G)]
 exact eh.pw G ha _
theorem eh.least {H:Nat→Prop} (h1:H e) (h2:∀ a b,eh n f e p a→b < n→p b=true→H a→H (f a b)) {a:Nat} (h:eh n f e p a):H a:=by
 induction h with
 | one=>exact h1
 | step a b ha hb hp ih=>exact h2 a b ha hb hp ih
theorem eh.sub {H:Nat→Bool} (G:bB n f e) (hH:Sub n f e H) (hp:∀ b,b < n→p b=true→H b=true) {a:Nat} (h:eh n f e p a):H a=true:=by
 induction h with
 | one=>exact hH.one
 | step a b ha hb hpb ih=>exact hH.mul a b (ha.lt G) hb ih (hp b hb hpb)
theorem eh.mono (h:∀ b,b < n→p b=true→q b=true) {a:Nat} (ha:eh n f e p a):eh n f e q a:=by
 induction ha with
 | one=>exact .one
 | step a b _ hb hp ih=>exact .step a b ih hb (h b hb hp)
theorem xa (G:bB n f e) (hq:∀ a,a < n→(q a=true↔eh n f e p a)):Sub n f e q where
 one:=(hq e G.el).2 .one
 mul a b ha hb h1 h2:=(hq _ (G.cl a b ha hb)).2 (eh.mul G ((hq a ha).1 h1) ((hq b hb).1 h2))
 inv a ha h:=(hq _ (G.az ha)).2 (eh.iv G ((hq a ha).1 h))
theorem Ce (n:Nat) (f:Nat→Nat→Nat) (e:Nat) (p:Nat→Bool):∃ q:Nat→Bool,∀ a,a < n→(q a=true↔eh n f e p a):=
 ⟨fun a=>@decide (eh n f e p a) (Classical.propDecidable _),fun a _=>by simp⟩
theorem Sub.gen (G:bB n f e) (hp:Sub n f e p) {a:Nat} (ha:a < n):p a=true↔eh n f e p a:=
 ⟨fun h=>eh.mem G ha h,fun h=>eh.sub G hp (fun _ _ h=>h) h⟩
theorem Fz (G:bB n f e) (h1:p e=true) (h2:∀ a b,a < n→b < n→p a=true→p b=true→p (f a b)=true):Sub n f e p where
 one:=h1
 mul:=h2
 inv a ha h:=by
  rw [G.E5 ha]
  generalize ord n f e a - 1=k
  induction k with
  | zero=>exact h1
  | succ k ih=>exact h2 _ _ (G.dG ha k) ha ih h
end
open Go.Pv
def bo (n:Nat) (p:Nat→Bool):Nat:=mc (aS n p)
theorem dK (n:Nat) (p:Nat→Bool) (i:Nat):(bo n p).testBit i=(decide (i < n) && p i):=by
 unfold bo
 rw [mb,Bool.eq_iff_iff,decide_eq_true_eq,Bool.and_eq_true,decide_eq_true_eq]
 constructor
 ·rintro ⟨x,hx,rfl⟩
  obtain ⟨a,h1,h2,rfl⟩:=cD.1 hx
  exact ⟨h1,h2⟩
 rintro ⟨h1,h2⟩
 exact ⟨(i:Int),cD.2 ⟨i,h1,h2,rfl⟩,rfl⟩
theorem AK (n:Nat) (p:Nat→Bool):bo n p < 2 ^ n:=mT fun x hx=>by
 obtain ⟨a,h1,_,rfl⟩:=cD.1 hx
 exact h1
theorem eR {n:Nat} (hn:n≤60) (p:Nat→Bool):bo n p < 2 ^ 64:=Nat.lt_of_lt_of_le (AK n p) (Nat.pow_le_pow_right (by omega) (by omega))
theorem IN {n s:Nat} {p:Nat→Bool} (hs:s < 2 ^ n) (h:∀ i,i < n→s.testBit i=p i):s=bo n p:=by
 refine Nat.eq_of_testBit_eq fun i=>?_
 rw [dK]
 by_cases hi:i < n
 ·rw [h i hi]; simp [hi]
 rw [Nat.testBit_lt_two_pow (Nat.lt_of_lt_of_le hs (Nat.pow_le_pow_right (by omega) (by omega)))]; simp [hi]
theorem dh {n:Nat} {p q:Nat→Bool} (h:∀ a,a < n→p a=q a):bo n p=bo n q:=by unfold bo; rw [mG h]
theorem sd {n:Nat} {p q:Nat→Bool} (h:bo n p=bo n q) {a:Nat} (ha:a < n):p a=q a:=by
 have h1:=dK n p a
 rw [h,dK] at h1
 simpa [ha] using h1.symm
theorem mY {n:Nat} (hn:n≤60) (p:Nat→Bool):rI (bo n p)=aS n p:=by
 rw [HN (by omega) (AK n p)]
 exact mG fun a ha=>by rw [dK]; simp [ha]
theorem lq (n:Nat) (p:Nat→Bool):mc (aS n p)=bo n p:=rfl
theorem kd {n:Nat} (hn:n≤60) (p:Nat→Bool):∀ x∈aS n p,0≤x∧x < 64:=by
 intro x hx
 obtain ⟨a,h1,_,rfl⟩:=cD.1 hx
 omega
theorem hU {b:Nat} (hb:b < 64):2 ^ b < 2 ^ 64:=Nat.pow_lt_pow_right (by omega) hb
theorem uT {n s:Nat} (hn:n≤60) (hs:s < 2 ^ n):s < 2 ^ 64:=Nat.lt_of_lt_of_le hs (Nat.pow_le_pow_right (by omega) (by omega))
theorem rz {n s i:Nat} (hs:s < 2 ^ n) (h:s.testBit i=true):i < n:=by
 rcases Nat.lt_or_ge i n with h1 | h1
 ·exact h1
 rw [Nat.testBit_lt_two_pow (Nat.lt_of_lt_of_le hs (Nat.pow_le_pow_right (by omega) h1))] at h; cases h
theorem F1 (pre w:List Int) (a:Int) (d:AV):(ol (pre++a :: w)).getD pre.length d = .p (.int .i64 a):=by
 simp [ol,il,List.getD]
structure oU (n:Nat) (f:Nat→Nat→Nat) (e s out:Nat) (w:List Int):Prop where
 lt:out < 2 ^ n
 one:out.testBit e=true
 gen:∀ a,out.testBit a=true→eh n f e s.testBit a
 wait:∀ x∈w,∃ a,x=((a:Nat):Int)∧out.testBit a=true
 nd:w.Nodup
theorem iT (s b i:Nat):(s ||| 2 ^ b).testBit i=(s.testBit i || decide (b=i)):=by rw [Nat.testBit_or,Nat.testBit_two_pow]
theorem oU.len {n e s out:Nat} {f:Nat→Nat→Nat} {w:List Int} (h:oU n f e s out w):w.length≤n:=by
 have h1:=List.Nodup.length_le_of_subset h.nd (l₂:=aS n fun _=>true) fun x hx=>by
  obtain ⟨a,rfl,ha⟩:=h.wait x hx
  exact cD.2 ⟨a,rz h.lt ha,rfl,rfl⟩
 exact Nat.le_trans h1 (b9 _ _)
theorem oU.add {n e s out a z:Nat} {f:Nat→Nat→Nat} {w:List Int} (h:oU n f e s out w) (ha:out.testBit a=true) (hz:s.testBit z=true) (hzn:z < n) (hn:f a z < n) (hno:out.testBit (f a z)=false) :
  oU n f e s (out ||| 2 ^ f a z) (w++[((f a z:Nat):Int)]) where
 lt:=Nat.or_lt_two_pow h.lt (Nat.pow_lt_pow_right (by omega) hn)
 one:=by rw [iT,h.one]; rfl
 gen y hy:=by
  rw [iT,Bool.or_eq_true,decide_eq_true_eq] at hy
  rcases hy with hy | rfl
  ·exact h.gen y hy
  exact .step a z (h.gen a ha) hzn hz
 wait x hx:=by
  rcases List.mem_append.1 hx with hx | hx
  ·obtain ⟨y,e1,e2⟩:=h.wait x hx
   exact ⟨y,e1,by rw [iT,e2]; rfl⟩
  exact ⟨_,List.mem_singleton.1 hx,by rw [iT]; simp⟩
 nd:=by
  refine List.nodup_append.2 ⟨h.nd,by simp,fun x hx y hy e=>?_⟩
  rw [List.mem_singleton] at hy
  obtain ⟨y',e1,e2⟩:=h.wait x hx
  have:y' = f a z:=by omega
  rw [this,hno] at e2; cases e2
theorem Bm {n e:Nat} {m:List Int} (h:GT n m n e) (s:Nat) (hs:s < 2 ^ n) (q:Nat→Bool) (hq:∀ a,a < n→(q a=true↔eh n (op m n) e s.testBit a)):bR Tryd.prog 67 [gp n m,.int .u64 s] (.int .u64 (bo n q)):=by
 have G:=h.2.2
 have T:=h.2.1
 have hb:=T.big
 have hel:=G.el
 have hs64:=uT hb hs
 have hone:=hU (b:=e) (by omega)
 have hbe:∀ a,(2 ^ e).testBit a=true→a=e:=fun a ha=>by rw [Nat.testBit_two_pow] at ha; simp at ha; exact ha.symm
 have hstl:∀ x∈rI (2 ^ e),x=(e:Int):=fun x hx=>by
  obtain ⟨a,_,h2,rfl⟩:=cD.1 hx
  rw [hbe a h2]
 have hstl2:(e:Int)∈rI (2 ^ e):=cD.2 ⟨e,by omega,by rw [Nat.testBit_two_pow]; simp,rfl⟩
 refine aI ae Tryd.func67 rfl (by kernel_rfl) (by rw [Tryd.ntmps67]; exact Nat.le_add_left 2 _) ?_; rw [Tryd.ntmps67]
 refine qm ?_
 refine ab fun K hK=>aa ae ?_
 simp only [aj,fl,gp,ai,simprocAttr]
 refine af ?_ (hK _ ?_)<;>clear hK K
 ·first|exact trivial|omega|(simp only [ah] at *; omega)|(simp [ah] at *; omega)|simp_all
 refine qa (qm ?_)
 refine ab fun K hK=>aa ae ?_
 simp only [aj,fl,gp,ai,simprocAttr]
 refine an trivial (ak (jV h) rfl rfl rfl (by simp only [au,Nat.reduceLT]) (by repeat (first|exact trivial|constructor)) (aa ae ?_))
 simp only [aj,fl,gp,ai,simprocAttr,iN (show e < 64 by omega)]
 refine af ?_ (hK _ ?_)<;>clear hK K
 ·first|exact trivial|omega|(simp only [ah] at *; omega)|(simp [ah] at *; omega)|simp_all
 refine qa (qm ?_)
 refine ab fun K hK=>aa ae ?_
 simp only [aj,fl,gp,ai,simprocAttr]
 refine an trivial (iD (As (2 ^ e) hone) rfl rfl (by first|rfl|(simp [Cw,bg,bt,bF]; done)|(simp only [Cw,List.all_cons,List.all_nil,fC,Bool.and_true]; rfl)) (by simp only [au,Nat.reduceLT]) (by repeat (first|exact trivial|constructor)) (aa ae ?_))
 simp only [Go.Pv.gT,List.range',aM.bl,jS,bl,bw,aj,fl,gp,ai,simprocAttr]
 refine af trivial (hK _ ?_)<;>clear hK K
 refine qa (qm (ql ?_))
 refine aA (ι:=Nat × List Int × List Int) (fun p=>⟨48,[(1,.p (.int .u64 s)),(2,.ptr 0 0),(5,.p (.int .u64 p.1)),(6,.sl 1 p.2.1.length p.2.2.length)],[.own [.p (.int .i64 n),.p (.list (il m))],.own (ol (p.2.1++p.2.2))]⟩) (fun p=>oU n (op m n) e s p.1 p.2.2∧∀ a,p.1.testBit a=true→((a:Nat):Int) ∉ p.2.2→∀ b,s.testBit b=true→p.1.testBit (op m n a b)=true) (fun p=>2 * (2 ^ 64 - p.1) + p.2.2.length) (2 ^ e,[],rI (2 ^ e)) ⟨⟨Nat.pow_lt_pow_right (by omega) hel,by rw [Nat.testBit_two_pow]; simp,fun a ha=>by rw [hbe a ha]; exact .one,fun x hx=>⟨e,hstl x hx,by rw [Nat.testBit_two_pow]; simp⟩,(rU _ _).imp fun h=>by omega⟩,fun a ha hn=>absurd (by rw [hbe a ha]; exact hstl2) hn⟩ [0,1] (by simp only [leq,bf,aj,fl,gp,ai,simprocAttr]<;>first|trivial|simp [ol,bF]) fun p hp=>?_
 obtain ⟨out,pre,w⟩:=p
 obtain ⟨⟨i1,i2,i3,i4,i6⟩,i5⟩:=hp
 simp only at i1 i2 i3 i4 i5
 refine qm (qm ?_)
 refine ab fun K hK=>aa ae ?_
 simp only [aj,fl,gp,ai,simprocAttr]
 refine af trivial (hK _ ?_)<;>clear hK K
 refine qa ?_
 refine ao rfl (fun hC1=>?_) (fun hC1=>?_)
 ·(try simp only [aG] at hC1)
  obtain ⟨x,w',rfl⟩:∃ x w',w=x :: w':=by
   cases w with
   | nil=>simp at hC1
   | cons x w'=>exact ⟨x,w',rfl⟩
  obtain ⟨a,rfl,hoa⟩:=i4 x (by simp)
  have hal:=rz i1 hoa
  refine qh (qa (ql (qm ?_)))
  refine ab fun K hK=>aa ae ?_
  simp only [aj,fl,gp,ai,simprocAttr,F1,Nat.add_zero]
  refine af ?_ (hK _ ?_)<;>clear hK K
  ·first|exact trivial|omega|(simp only [ah] at *; omega)|(simp [ah] at *; omega)|simp_all
  refine qa (qm ?_)
  refine ab fun K hK=>aa ae ?_
  simp only [aj,fl,gp,ai,simprocAttr]
  refine af ?_ (hK _ ?_)<;>clear hK K
  ·first|exact trivial|omega|(simp only [ah] at *; omega)|(simp [ah] at *; omega)|simp_all
  refine qa (qm ?_)
  refine ab fun K hK=>aa ae ?_
  simp only [aj,fl,gp,ai,simprocAttr]
  refine af trivial (hK _ ?_)<;>clear hK K
  refine qa (ql ?_)
  refine aA (ι:=Nat × Nat × List Int × List Int) (fun p=>⟨48,[(1,.p (.int .u64 s)),(2,.ptr 0 0),(5,.p (.int .u64 p.2.1)),(6,.sl 1 p.2.2.1.length p.2.2.2.length),(7,.p (.int .i64 a)),(8,.p (.int .u64 p.1))],[.own [.p (.int .i64 n),.p (.list (il m))],.own (ol (p.2.2.1++p.2.2.2))]⟩) (fun p=>oU n (op m n) e s p.2.1 p.2.2.2∧(∀ i,p.1.testBit i=true→s.testBit i=true)∧p.1 < 2 ^ 64∧(∀ y,p.2.1.testBit y=true→((y:Nat):Int) ∉ p.2.2.2→y ≠ a→∀ b,s.testBit b=true→p.2.1.testBit (op m n y b)=true)∧(∀ b,s.testBit b=true→p.1.testBit b=false→p.2.1.testBit (op m n a b)=true)∧p.2.1.testBit a=true∧2 * (2 ^ 64 - p.2.1) + p.2.2.2.length≤2 * (2 ^ 64 - out) + w'.length) (fun p=>p.1) (s,out,pre++[(a:Int)],w') ⟨⟨i1,i2,i3,fun x hx=>i4 x (by simp [hx]),(List.nodup_cons.1 i6).2⟩,fun i hi=>hi,hs64,fun y hy hn hya b hbs=>i5 y hy (by simp only [List.mem_cons,not_or]; exact ⟨by omega,hn⟩) b hbs,fun b hb1 hb2=>absurd (hb1.symm.trans hb2) (by simp),hoa,Nat.le_refl _⟩ [0,1] (by simp only [leq,bf,aj,fl,gp,ai,simprocAttr]<;>first|trivial|(simp; done)|(simp; rw [List.take_of_length_le (by simp; omega)])) fun p hp=>?_
  obtain ⟨t,out2,pre2,w2⟩:=p
  obtain ⟨jI,j5,j6,j7,j8,j9,j10⟩:=hp
  simp only at jI j5 j6 j7 j8 j9 j10
  have hw2:=jI.len
  have j1:=jI.lt
  refine qm (qm ?_)
  refine ab fun K hK=>aa ae ?_
  simp only [aj,fl,gp,ai,simprocAttr]
  refine af trivial (hK _ ?_)<;>clear hK K
  refine qa ?_
  refine ao rfl (fun hC2=>?_) (fun hC2=>?_)
  ·(try simp only [aG] at hC2)
   have h0:t ≠ 0:=by omega
   obtain ⟨z1,z2,z3⟩:=jP j6 h0
   have hzs:=j5 _ z2
   have hzn:=rz hs hzs
   have hfn:=G.cl a (tz t) hal hzn
   have ht1:t - 1 < 2 ^ 64:=by omega
   have hsub:IntKind.u64.wrap ((t:Int) - 1)=((t - 1:Nat):Int):=by rw [pj]; omega
   have hcut:t &&& (t - 1)=cut t:=rfl
   have ho64:=uT hb j1
   have hp64:=hU (b:=op m n a (tz t)) (by omega)
   refine qh (qa (qm (ql (qm ?_))))
   refine aT mixed (by kernel_rfl) fun K hK=>aa ae ?_
   simp only [aj,fl,gp,ai,simprocAttr]
   refine an trivial (ak (HU t j6 h0) rfl rfl rfl (by simp only [au,Nat.reduceLT]) (by repeat (first|exact trivial|constructor)) (aa ae ?_))
   simp only [aj,fl,gp,ai,simprocAttr]
   refine an trivial (ak (jt T hal hzn) rfl rfl rfl (by simp only [au,Nat.reduceLT]) (by repeat (first|exact trivial|constructor)) (aa ae ?_))
   simp only [aj,fl,gp,ai,simprocAttr]
   refine af ?_ (hK _ ?_)<;>clear hK K
   ·first|exact trivial|omega|(simp only [ah] at *; omega)|(simp [ah] at *; omega)|simp_all
   refine qa (qm ?_)
   refine ab fun K hK=>aa ae ?_
   simp only [aj,fl,gp,ai,simprocAttr]
   refine an trivial (ak (B9 out2 (op m n a (tz t)) ho64 (by omega)) rfl rfl rfl (by simp only [au,Nat.reduceLT]) (by repeat (first|exact trivial|constructor)) (aa ae ?_))
   simp only [aj,fl,gp,ai,simprocAttr]
   refine af trivial (hK _ ?_)<;>clear hK K
   refine qa ?_
   refine ao rfl (fun hC3=>?_) (fun hC3=>?_)
   ·(try simp only [aG] at hC3)
    have hno:out2.testBit (op m n a (tz t))=false:=hC3
    have hlt2:out2 < out2 ||| 2 ^ op m n a (tz t):=by
     rcases Nat.lt_or_eq_of_le (Nat.left_le_or (n:=out2) (m:=2 ^ op m n a (tz t))) with h1 | h1
     ·exact h1
     exfalso
     have h2:=iT out2 (op m n a (tz t)) (op m n a (tz t))
     rw [← h1,hno] at h2
     simp at h2
    refine qm ?_
    refine ab fun K hK=>aa ae ?_
    simp only [aj,fl,gp,ai,simprocAttr,iN (show op m n a (tz t) < 64 by omega),nP ho64 hp64]
    refine af ?_ (hK _ ?_)<;>clear hK K
    ·first|exact trivial|omega|(simp only [ah] at *; omega)|(simp [ah] at *; omega)|simp_all
    refine qa ?_
    refine ab fun K hK=>aa ae ?_
    simp only [aj,fl,gp,ai,simprocAttr]
    refine af ?_ (hK _ ?_)<;>clear hK K
    ·simp only [List.length_append]; omega
    refine qd (qa ?_)
    refine ab fun K hK=>aa ae ?_
    simp only [aj,fl,gp,ai,simprocAttr,hsub,bv_and j6 ht1,hcut]
    refine af ?_ (hK _ ?_)<;>clear hK K
    ·first|exact trivial|omega|(simp only [ah] at *; omega)|(simp [ah] at *; omega)|simp_all
    refine qa ?_
    have hI:=jI.add j9 hzs hzn hfn hno
    have hI1:=uT hb hI.lt
    refine ⟨(cut t,out2 ||| 2 ^ op m n a (tz t),[],w2++[((op m n a (tz t):Nat):Int)]),[0,2],⟨hI,fun i hi=>?_,?_,fun y hy hn hya b hbs=>?_,fun b hb1 hb2=>?_,?_,?_⟩,?_,?_⟩
    ·simp only [lv j6 h0,Bool.and_eq_true] at hi
     exact j5 i hi.1
    ·exact Nat.lt_trans (nh h0) j6
    ·simp only [iT,Bool.or_eq_true,decide_eq_true_eq] at hy ⊢
     simp only [List.mem_append,List.mem_singleton,not_or] at hn
     rcases hy with hy | hy
     ·exact .inl (j7 y hy hn.1 hya b hbs)
     exact absurd (by rw [hy]) hn.2
    ·simp only [lv j6 h0] at hb2
     simp only [iT,Bool.or_eq_true,decide_eq_true_eq]
     by_cases hbz:b=tz t
     ·right; rw [hbz]
     left
     refine j8 b hb1 ?_
     cases htb:t.testBit b with
     | false=>rfl
     | true=>rw [htb] at hb2; simp at hb2; exact absurd hb2 hbz
    ·simp only [iT,j9,Bool.true_or]
    ·simp only [List.length_append,List.length_cons,List.length_nil]
     omega
    ·exact nh h0
    simp only [leq,bf,aj,fl,gp,ai,simprocAttr]
    rw [List.drop_left,List.take_length,List.take_of_length_le (by simp)]
   (try simp only [aG] at hC3)
   refine qh (qd (qa ?_))
   refine ab fun K hK=>aa ae ?_
   simp only [aj,fl,gp,ai,simprocAttr,hsub,bv_and j6 ht1,hcut]
   refine af ?_ (hK _ ?_)<;>clear hK K
   ·first|exact trivial|omega|(simp only [ah] at *; omega)|(simp [ah] at *; omega)|simp_all
   refine qa ?_
   refine ⟨(cut t,out2,pre2,w2),[0,1],⟨jI,fun i hi=>?_,?_,j7,fun b hb1 hb2=>?_,j9,j10⟩,nh h0,?_⟩
   ·simp only [lv j6 h0,Bool.and_eq_true] at hi
    exact j5 i hi.1
   ·exact Nat.lt_trans (nh h0) j6
   ·simp only [lv j6 h0] at hb2
    by_cases hbz:b=tz t
    ·show out2.testBit (op m n a b)=true
     rw [hbz]; exact hC3
    refine j8 b hb1 ?_
    cases htb:t.testBit b with
    | false=>rfl
    | true=>rw [htb] at hb2; simp at hb2; exact absurd hb2 hbz
   simp only [leq,bf,aj,fl,gp,ai,simprocAttr]<;>first|trivial|omega
  (try simp only [aG] at hC2)
  have ht0:t=0:=by omega
  subst ht0
  refine qj (qc (qc (qf (qd (qa ?_)))))
  refine ⟨(out2,pre2,w2),[0,1],⟨jI,fun y hy hn b hbs=>?_⟩,?_,?_⟩
  ·by_cases hya:y=a
   ·rw [hya]; exact j8 b hbs (by simp)
   exact j7 y hy hn hya b hbs
  ·have ho:=uT hb j1
   have ho2:=uT hb i1
   simp only [List.length_cons]
   omega
  simp only [leq,bf,aj,fl,gp,ai,simprocAttr]<;>first|trivial|omega
 (try simp only [aG] at hC1)
 have hw0:w=[]:=by
  cases w with
  | nil=>rfl
  | cons x r=>simp at hC1
 subst hw0
 have hfin:out=bo n q:=by
  refine IN i1 fun i hi=>?_
  rw [Bool.eq_iff_iff,hq i hi]
  refine ⟨i3 i,fun hg=>?_⟩
  exact eh.least i2 (fun a b _ _ hb hH=>i5 a hH (by simp) b hb) hg
 refine qj (qc (qc (qf (qa (qm ?_)))))
 refine ab fun K hK=>aa ae ?_
 simp only [aj,fl,gp,ai,simprocAttr]
 refine af trivial (hK _ ?_)<;>clear hK K
 refine qa (qk ?_)
 simp only [Tryd.results67,bG,aj,fl,gp,ai,simprocAttr]
 all_goals (rw [hfin])
theorem nO {n:Nat} {p:Nat→Bool} {i j:Nat} (hij:i < j) (hj:j < (aS n p).length):(aS n p).getD i 0 < (aS n p).getD j 0:=by
 have:=List.pairwise_iff_getElem.1 (rU n p) i j (by omega) hj hij
 simpa [List.getD,List.getElem?_eq_getElem hj,List.getElem?_eq_getElem (show i < (aS n p).length by omega)] using this
theorem eQ {n:Nat} {p:Nat→Bool} {i:Nat} (hi:i < (aS n p).length):∃ a,a < n∧p a=true∧(aS n p).getD i 0=((a:Nat):Int):=by
 have:(aS n p).getD i 0∈aS n p:=by simp [List.getD,List.getElem?_eq_getElem hi]
 exact cD.1 this
theorem r8 {n:Nat} {p:Nat→Bool} {a:Nat} (ha:a < n) (h:p a=true):∃ i,i < (aS n p).length∧(aS n p).getD i 0=((a:Nat):Int):=by
 obtain ⟨i,hi,e⟩:=List.getElem_of_mem (cD.2 ⟨a,ha,h,rfl⟩)
 exact ⟨i,hi,by simp [List.getD,List.getElem?_eq_getElem hi,e]⟩
theorem bm {n:Nat} {p:Nat→Bool} {a:Nat} (ha:a < n):((a:Nat):Int)∈aS n p↔p a=true:=by
 rw [cD]
 constructor
 ·rintro ⟨b,_,h2,e⟩
  have:a=b:=by omega
  subst this; exact h2
 exact fun h=>⟨a,ha,h,rfl⟩
theorem Fv (n:Nat) (p:Nat→Bool):lf n (aS n p)=(0,0):=by
 refine wI (by have:=b9 n p; omega) fun j hj=>AR ?_ fun h0=>?_
 ·obtain ⟨a,h1,_,h3⟩:=eQ hj
  unfold Cy; rw [h3]; omega
 have:=nO (n:=n) (p:=p) (show j - 1 < j by omega) hj
 omega
theorem vp {n e:Nat} {m:List Int} (h:GT n m n e) (p:Nat→Bool):sf n m (aS n p)=(0,0):=by
 unfold sf; rw [qX h,if_neg (by simp),Fv]
theorem He {n e:Nat} {f:Nat→Nat→Nat} {p:Nat→Bool} {a:Nat} : eh n f e (bo n p).testBit a↔eh n f e p a:=
 ⟨eh.mono fun b hb h=>by rw [dK] at h; simpa [hb] using h,eh.mono fun b hb h=>by rw [dK]; simpa [hb] using h⟩
theorem HQ {n e:Nat} {m:List Int} (h:GT n m n e) (p:Nat→Bool) (b:Bool) (hbs:b=true↔Sub n (op m n) e p):bR Tryd.prog 117 [gp n m,.list (il (aS n p))] (.tup [.bool b,fl (0,0)]):=by
 have G:=h.2.2
 have hb:=h.2.1.big
 have hl:=b9 n p
 have hml:=h.2.1.len
 have hsq:=kq hb
 obtain ⟨q,hq⟩:=Ce n (op m n) e p
 have hqs:=xa G hq
 have hqp:(((bo n q:Nat):Int)=((bo n p:Nat):Int))↔b=true:=by
  rw [hbs]
  constructor
  ·intro he
   have he2:bo n q=bo n p:=by omega
   have hc:∀ a,a < n→q a=p a:=fun a ha=>sd he2 ha
   refine ⟨?_,fun a b ha hb h1 h2=>?_,fun a ha h1=>?_⟩
   ·rw [← hc e G.el]; exact hqs.one
   ·rw [← hc _ (G.cl a b ha hb)]; exact hqs.mul a b ha hb (by rw [hc a ha]; exact h1) (by rw [hc b hb]; exact h2)
   rw [← hc _ (G.az ha)]; exact hqs.inv a ha (by rw [hc a ha]; exact h1)
  intro hs
  have:bo n q=bo n p:=dh fun a ha=>by rw [Bool.eq_iff_iff,hq a ha,← hs.gen G ha]
  rw [this]
 have hpos:b=true→0 < (aS n p).length:=fun hb1=>by
  obtain ⟨i,hi,_⟩:=r8 G.el (hbs.1 hb1).one
  omega
 refine aI ae Tryd.func117 rfl (by kernel_rfl) (by rw [Tryd.ntmps117]; exact Nat.le_add_left 2 _) ?_; rw [Tryd.ntmps117]
 refine qm ?_
 refine ab fun K hK=>aa ae ?_
 simp only [aj,fl,gp,ai,simprocAttr]
 refine af ?_ (hK _ ?_)<;>clear hK K
 ·first|exact trivial|omega|(simp only [ah] at *; omega)|(simp [ah] at *; omega)|simp_all
 refine qa (qm (qm ?_))
 refine ab fun K hK=>aa ae ?_
 simp only [aj,fl,gp,ai,simprocAttr]
 refine an trivial (ak (wg n m (aS n p) (by omega) (by omega)) rfl rfl rfl (by simp only [au,Nat.reduceLT]) (by repeat (first|exact trivial|constructor)) (aa ae ?_))
 simp only [aj,fl,gp,ai,simprocAttr,vp h]
 refine af ?_ (hK _ ?_)<;>clear hK K
 ·first|exact trivial|omega|(simp only [ah] at *; omega)|(simp [ah] at *; omega)|simp_all
 refine qa (qm ?_)
 refine ab fun K hK=>aa ae ?_
 simp only [aj,fl,gp,ai,simprocAttr]
 refine af ?_ (hK _ ?_)<;>clear hK K
 ·first|exact trivial|omega|(simp only [ah] at *; omega)|(simp [ah] at *; omega)|simp_all
 refine qa ?_
 refine ao rfl (fun hC1=>?_) (fun hC1=>?_)
 ·cases hC1
 (try simp only [aG] at hC1)
 refine qh (qa (qm ?_))
 by_cases g4a:((aS n p).length:Int) > 0
 ·refine aT mixed (by kernel_rfl) fun K hK=>aa ae ?_
  simp only [aj,fl,gp,ai,simprocAttr,decide_eq_true g4a]
  refine an trivial (ak (zd (aS n p) (by omega) (kd hb p)) rfl rfl rfl (by simp only [au,Nat.reduceLT]) (by repeat (first|exact trivial|constructor)) (aa ae ?_))
  simp only [aj,fl,gp,ai,simprocAttr,lq,decide_eq_true g4a]
  refine an trivial (ak (Bm h (bo n p) (AK n p) q (fun a ha=>by rw [He]; exact hq a ha)) rfl rfl rfl (by simp only [au,Nat.reduceLT]) (by repeat (first|exact trivial|constructor)) (aa ae ?_))
  simp only [aj,fl,gp,ai,simprocAttr,decide_eq_true g4a]
  refine an trivial (ak (zd (aS n p) (by omega) (kd hb p)) rfl rfl rfl (by simp only [au,Nat.reduceLT]) (by repeat (first|exact trivial|constructor)) (aa ae ?_))
  simp only [aj,fl,gp,ai,simprocAttr,lq,decide_eq_true g4a]
  refine af ?_ (hK _ ?_)<;>clear hK K
  ·first|exact trivial|omega|(simp only [ah] at *; omega)|(simp [ah] at *; omega)|simp_all
  refine qa (qk ?_)
  simp only [Tryd.results117,bG,aj,fl,gp,ai,simprocAttr]
  all_goals (rw [Bool.eq_iff_iff,decide_eq_true_eq]; exact hqp)
 refine aT mixed (by kernel_rfl) fun K hK=>aa ae ?_
 simp only [aj,fl,gp,ai,simprocAttr,decide_eq_false g4a]
 refine af ?_ (hK _ ?_)<;>clear hK K
 ·first|exact trivial|omega|(simp only [ah] at *; omega)|(simp [ah] at *; omega)|simp_all
 refine qa (qk ?_)
 simp only [Tryd.results117,bG,aj,fl,gp,ai,simprocAttr]
 cases b with
 | false=>rfl
 | true=>have:=hpos rfl; omega
def I3 (r:Nat→Bool) (a i:Nat):Bool:=r i || decide (i=a)
def vE (g:Nat→Nat→Int) (n:Nat):Nat→List Int:=rg fun i=>g (i / n) (i % n)
def I8 (g:Nat→Nat→Int) (n:Nat):List Int:=vE g n (n * n)
theorem oI (g:Nat→Nat→Int) {n a b:Nat} (hb:b < n):vE g n (a * n + (b + 1))=vE g n (a * n + b)++[g a b]:=by
 unfold vE
 rw [← Nat.add_assoc,xc]
 have h1:(a * n + b) / n=a:=by
  rw [Nat.mul_comm,Nat.mul_add_div (by omega),Nat.div_eq_of_lt hb]; omega
 have h2:(a * n + b) % n=b:=by
  rw [Nat.mul_comm,Nat.mul_add_mod,Nat.mod_eq_of_lt hb]
 simp only [h1,h2]
theorem xS (g:Nat→Nat→Int) (n k:Nat):(vE g n k).length=k:=vZ _ k
def zm (n a b:Nat):Nat:=(a % n + (if a / n=1 then n - b % n else b % n)) % n + (a / n + b / n) % 2 * n
theorem Ae (a:Nat):Int.tmod (a:Int) 2=((a % 2:Nat):Int):=rfl
def I4 (p:Int→Bool) (l:List Int):Int:=match bQ (fun i=>p (l.getD i 0)) l.length with | some i=>(i:Int) | none=>-1
theorem uS (l:List Int) (F:FuncId) (caps:List PV) (p:Int→Bool) (hl:l.length≤1000000) (hF:∀ x∈l,bR Tryd.prog F (.int .i64 x :: caps) (.bool (p x))):bR Tryd.prog 102 [.list (il l),.fn F caps] (.int .i64 (I4 p l)):=by
 refine aI ae Tryd.func102 rfl (by kernel_rfl) (by rw [Tryd.ntmps102]; exact Nat.le_add_left 2 _) ?_; rw [Tryd.ntmps102]
 refine qm ?_
 refine ab fun K hK=>aa ae ?_
 simp only [aj,fl,gp,ai,simprocAttr]
 refine af trivial (hK _ ?_)<;>clear hK K
 refine qa (qm (qm ?_))
 refine ab fun K hK=>aa ae ?_
 simp only [aj,fl,gp,ai,simprocAttr]
 refine af trivial (hK _ ?_)<;>clear hK K
 refine qa (ql ?_)
 refine aA (ι:=Nat) (fun i=>⟨19,[(0,.p (.list (il l))),(1,.p (.fn F caps)),(7,.p (.int .i64 l.length)),(8,.p (.int .i64 i))],[]⟩) (fun i=>i≤l.length∧∀ j,j < i→p (l.getD j 0)=false) (fun i=>l.length - i) 0 ⟨Nat.zero_le _,fun j hj=>by omega⟩ [] (by simp only [leq,bf,aj,fl,gp,ai,simprocAttr]<;>trivial) fun i hi=>?_
 obtain ⟨hi1,hi2⟩:=hi
 refine qm ?_
 refine ab fun K hK=>aa ae ?_
 simp only [aj,fl,gp,ai,simprocAttr]
 refine af trivial (hK _ ?_)<;>clear hK K
 refine qa (qm ?_)
 refine ao rfl (fun hC1=>?_) (fun hC1=>?_)
 ·(try simp only [aG] at hC1)
  have hlt:i < l.length:=by omega
  have hmem:l.getD i 0∈l:=by simp [List.getD,List.getElem?_eq_getElem hlt]
  refine qh (qa (qm (ql (qm ?_))))
  refine ab fun K hK=>aa ae ?_
  simp only [aj,fl,gp,ai,simprocAttr]
  refine af trivial (hK _ ?_)<;>clear hK K
  refine qa (qm ?_)
  refine ab fun K hK=>aa ae ?_
  simp only [aj,fl,gp,ai,simprocAttr,aL hlt]
  refine an ?_ (ak (hF _ hmem) rfl rfl rfl (by simp only [au,Nat.reduceLT]) (by repeat (first|exact trivial|constructor)) (aa ae ?_))
  ·first|exact trivial|omega|(simp only [ah] at *; omega)|(simp [ah] at *; omega)|simp_all
  simp only [aj,fl,gp,ai,simprocAttr,aL hlt]
  refine af ?_ (hK _ ?_)<;>clear hK K
  ·first|exact trivial|omega|(simp only [ah] at *; omega)|(simp [ah] at *; omega)|simp_all
  refine qa ?_
  refine ao rfl (fun hC2=>?_) (fun hC2=>?_)
  ·(try simp only [aG] at hC2)
   refine qm ?_
   refine ab fun K hK=>aa ae ?_
   simp only [aj,fl,gp,ai,simprocAttr]
   refine af trivial (hK _ ?_)<;>clear hK K
   refine qa (qk (qe (qb (qb (qe (qb ?_))))))
   simp only [Tryd.results102,bG,aj,fl,gp,ai,simprocAttr]
   all_goals (unfold I4; rw [du hlt hC2 hi2])
  (try simp only [aG] at hC2)
  refine qh (qd (qa ?_))
  refine ab fun K hK=>aa ae ?_
  simp only [aj,fl,gp,ai,simprocAttr]
  refine af ?_ (hK _ ?_)<;>clear hK K
  ·first|exact trivial|omega|(simp only [ah] at *; omega)|(simp [ah] at *; omega)|simp_all
  refine qa ?_
  refine ⟨i + 1,[],⟨by omega,fun j hj=>?_⟩,by omega,?_⟩
  ·by_cases hj2:j=i
   ·subst hj2; exact hC2
   exact hi2 j (by omega)
  simp only [leq,bf,aj,fl,gp,ai,simprocAttr]<;>omega
 (try simp only [aG] at hC1)
 refine qj (qc (qc (qf (qa (qm ?_)))))
 refine ab fun K hK=>aa ae ?_
 simp only [aj,fl,gp,ai,simprocAttr]
 refine af trivial (hK _ ?_)<;>clear hK K
 refine qa (qk ?_)
 simp only [Tryd.results102,bG,aj,fl,gp,ai,simprocAttr]
 all_goals (unfold I4; rw [eA fun j hj=>hi2 j (by omega)])
def xM:List Int:=I8 (fun a b=>(zm 4 a b:Nat)) 8
theorem G9:(gf 8 xM).1=0:=by decide +kernel
theorem GP:∃ e,GT (8:Nat) xM 8 e:=by
 obtain ⟨n,e,h,_⟩:=Fo G9
 obtain rfl:n=8:=by have:=h.1; omega
 exact ⟨e,h⟩
theorem JB (a:Nat):Int.tmod (a:Int) 4=((a % 4:Nat):Int):=rfl
theorem JL (a:Nat):Int.tdiv (a:Int) 4=((a / 4:Nat):Int):=rfl
theorem BV:bR Tryd.prog 55 [] (gp 8 xM):=by
 have hlen:=xS (fun a b=>(zm 4 a b:Nat)) 8
 refine aI ae Tryd.func55 rfl (by kernel_rfl) (by rw [Tryd.ntmps55]; exact Nat.le_add_left 0 _) ?_; rw [Tryd.ntmps55]
 refine qm ?_
 refine ab fun K hK=>aa ae ?_
 simp only [aj,fl,gp,ai,simprocAttr]
 refine af ?_ (hK _ ?_)<;>clear hK K
 ·first|exact trivial|omega|(simp only [ah] at *; omega)|(simp [ah] at *; omega)|simp_all
 refine qa (qm ?_)
 refine ab fun K hK=>aa ae ?_
 simp only [aj,fl,gp,ai,simprocAttr]
 refine af ?_ (hK _ ?_)<;>clear hK K
 ·first|exact trivial|omega|(simp only [ah] at *; omega)|(simp [ah] at *; omega)|simp_all
 refine qa (qm (qm ?_))
 refine u0 1 1 rfl rfl ?_
 simp only [aE,List.cons_append,List.nil_append,List.set,List.length_cons,List.length_nil]
 refine ab fun K hK=>aa ae ?_
 simp only [aj,fl,gp,ai,simprocAttr]
 refine af trivial (hK _ ?_)<;>clear hK K
 refine qa (ql ?_)
 refine aA (ι:=Nat) (fun a=>⟨39,[(0,.ptr 0 0),(1,.ptr 1 0),(2,.p (.int .i64 a))],[.own [.p (.int .i64 0),.p .nil],.own [.p (.int .i64 8),.sl 2 0 (vE (fun a b=>(zm 4 a b:Nat)) 8 (a * 8)).length],.own (ol (vE (fun a b=>(zm 4 a b:Nat)) 8 (a * 8)))]⟩) (fun a=>a≤8) (fun a=>8 - a) 0 (Nat.zero_le _) [0,1,2] (by simp only [leq,bf,aj,fl,gp,ai,simprocAttr]<;>simp [vE,rg,iC]) fun a ha=>?_
 refine qm (qm ?_)
 refine ab fun K hK=>aa ae ?_
 simp only [aj,fl,gp,ai,simprocAttr]
 refine af trivial (hK _ ?_)<;>clear hK K
 refine qa ?_
 refine ao rfl (fun hC1=>?_) (fun hC1=>?_)
 ·(try simp only [aG] at hC1)
  have hal:a < 8:=by omega
  refine qh (qa (qm (ql (qm ?_))))
  refine ab fun K hK=>aa ae ?_
  simp only [aj,fl,gp,ai,simprocAttr]
  refine af trivial (hK _ ?_)<;>clear hK K
  refine qa (ql ?_)
  refine aA (ι:=Nat) (fun b=>⟨39,[(0,.ptr 0 0),(1,.ptr 1 0),(2,.p (.int .i64 a)),(3,.p (.int .i64 b))],[.own [.p (.int .i64 0),.p .nil],.own [.p (.int .i64 8),.sl 2 0 (vE (fun a b=>(zm 4 a b:Nat)) 8 (a * 8 + b)).length],.own (ol (vE (fun a b=>(zm 4 a b:Nat)) 8 (a * 8 + b)))]⟩) (fun b=>b≤8) (fun b=>8 - b) 0 (Nat.zero_le _) [0,1,2] (by rw [Nat.add_zero]; simp only [leq,bf,aj,fl,gp,ai,simprocAttr]<;>trivial) fun b hb=>?_
  refine qm (qm ?_)
  refine ab fun K hK=>aa ae ?_
  simp only [aj,fl,gp,ai,simprocAttr]
  refine af trivial (hK _ ?_)<;>clear hK K
  refine qa ?_
  refine ao rfl (fun hC2=>?_) (fun hC2=>?_)
  ·(try simp only [aG] at hC2)
   have hbl:b < 8:=by omega
   have hl:=hlen (a * 8 + b)
   have hs:(4:Int) - ((b % 4:Nat):Int)=((4 - b % 4:Nat):Int):=by omega
   have hm:(((a / 4 + b / 4) % 2:Nat):Int) * 4=(((a / 4 + b / 4) % 2 * 4:Nat):Int):=by omega
   refine qh (qa (qm (ql (qm ?_))))
   refine ab fun K hK=>aa ae ?_
   simp only [aj,fl,gp,ai,simprocAttr,JB]
   refine af ?_ (hK _ ?_)<;>clear hK K
   ·first|exact trivial|omega|(simp only [ah] at *; omega)|(simp [ah] at *; omega)|simp_all
   refine qa (qm (qm ?_))
   refine ab fun K hK=>aa ae ?_
   simp only [aj,fl,gp,ai,simprocAttr]
   refine af trivial (hK _ ?_)<;>clear hK K
   refine qa ?_
   refine ao rfl (fun hC3=>?_) (fun hC3=>?_)
   ·(try simp only [aG] at hC3)
    have hd:zm 4 a b=(a % 4 + (4 - b % 4)) % 4 + (a / 4 + b / 4) % 2 * 4:=by rw [zm,if_pos (by omega)]
    refine ab fun K hK=>aa ae ?_
    simp only [aj,fl,gp,ai,simprocAttr,hs]
    refine af ?_ (hK _ ?_)<;>clear hK K
    ·first|exact trivial|omega|(simp only [ah] at *; omega)|(simp [ah] at *; omega)|simp_all
    refine qa ?_
    refine ab fun K hK=>aa ae ?_
    simp only [aj,fl,gp,ai,simprocAttr,JB,JL,← Int.natCast_add,Ae,hm]
    refine af ?_ (hK _ ?_)<;>clear hK K
    ·simp only [ah]; omega
    refine qd (qa ?_)
    refine ab fun K hK=>aa ae ?_
    simp only [aj,fl,gp,ai,simprocAttr]
    refine af ?_ (hK _ ?_)<;>clear hK K
    ·first|exact trivial|omega|(simp only [ah] at *; omega)|(simp [ah] at *; omega)|simp_all
    refine qa ?_
    refine ⟨b + 1,[0,1,3],by omega,by omega,?_⟩
    rw [oI (fun a b=>(zm 4 a b:Nat)) hbl]
    simp only [hd]
    simp only [leq,bf,aj,fl,gp,ai,simprocAttr]<;>first|trivial|omega
   (try simp only [aG] at hC3)
   have hd:zm 4 a b=(a % 4 + b % 4) % 4 + (a / 4 + b / 4) % 2 * 4:=by rw [zm,if_neg (by omega)]
   refine qh (qa ?_)
   refine ab fun K hK=>aa ae ?_
   simp only [aj,fl,gp,ai,simprocAttr,JB,JL,← Int.natCast_add,Ae,hm]
   refine af ?_ (hK _ ?_)<;>clear hK K
   ·simp only [ah]; omega
   refine qd (qa ?_)
   refine ab fun K hK=>aa ae ?_
   simp only [aj,fl,gp,ai,simprocAttr]
   refine af ?_ (hK _ ?_)<;>clear hK K
   ·first|exact trivial|omega|(simp only [ah] at *; omega)|(simp [ah] at *; omega)|simp_all
   refine qa ?_
   refine ⟨b + 1,[0,1,3],by omega,by omega,?_⟩
   rw [oI (fun a b=>(zm 4 a b:Nat)) hbl]
   simp only [hd]
   simp only [leq,bf,aj,fl,gp,ai,simprocAttr]<;>first|trivial|omega
  (try simp only [aG] at hC2)
  have hbn:b=8:=by omega
  refine qj (qc (qc (qf (qd (qa ?_)))))
  refine ab fun K hK=>aa ae ?_
  simp only [aj,fl,gp,ai,simprocAttr]
  refine af ?_ (hK _ ?_)<;>clear hK K
  ·first|exact trivial|omega|(simp only [ah] at *; omega)|(simp [ah] at *; omega)|simp_all
  refine qa ?_
  refine ⟨a + 1,[0,1,2],by omega,by omega,?_⟩
  rw [hbn,show (a + 1) * 8=a * 8 + 8 by rw [Nat.add_mul,Nat.one_mul]]
  simp only [leq,bf,aj,fl,gp,ai,simprocAttr]<;>first|trivial|omega
 (try simp only [aG] at hC1)
 have han:a=8:=by omega
 refine qj (qc (qc (qf (qa (qm ?_)))))
 refine ab fun K hK=>aa ae ?_
 simp only [aj,fl,gp,ai,simprocAttr]
 refine af ?_ (hK _ ?_)<;>clear hK K
 ·first|exact trivial|omega|(simp only [ah] at *; omega)|(simp [ah] at *; omega)|simp_all
 refine qa (qk ?_)
 simp only [Tryd.results55,bG,aj,fl,gp,ai,simprocAttr]
 all_goals (simp [han,xM,I8])
def eG (p:Nat) (v:List Int):Prop:=∀ j,0≤v.getD j 0∧v.getD j 0 < p
theorem ot {p:Nat} {f:Nat→Int} {i j:Nat} {u:List Int} (hf:∀ t,0≤f t∧f t < p) (hu:eG p u):eG p (cU f i j u):=fun t=>by
 by_cases ht:t < u.length
 ·rw [dz ht]
  split
  ·exact hf t
  exact hu t
 have:=hu t
 simp only [List.getD,List.getElem?_eq_none (show u.length≤t by omega),Option.getD_none] at this
 simpa [List.getD,List.getElem?_eq_none (show (cU f i j u).length≤t by rw [bJ]; omega)] using this
theorem xG (p:Nat) (k:Int) (r b:List Int):(Cn p k r b).length=r.length:=bJ _ _ _ _
theorem B3 {p:Nat} (hp:0 < p) {k:Int} {r b:List Int} (h:eG p r):eG p (Cn p k r b):=ot (fun _=>bI hp _) h
theorem x8 (p:Nat) (k:Int) (r:List Int):(AL p k r).length=r.length:=bJ _ _ _ _
theorem vg {p:Nat} (hp:0 < p) {k:Int} {r:List Int} (h:eG p r):eG p (AL p k r):=ot (fun _=>bI hp _) h
theorem ik (p:Nat) (out:List (List Int)) (at' : List Int) (r:List Int):∀ i,(nH p out at' r i).length=r.length
 | 0=>rfl
 | i + 1=>by
  rw [nH]; split
  ·exact ik p out at' r i
  rw [xG]; exact ik p out at' r i
theorem mR {p:Nat} (hp:0 < p) {out:List (List Int)} {at' : List Int} {r:List Int} (h:eG p r):∀ i,eG p (nH p out at' r i)
 | 0=>h
 | i + 1=>by
  rw [nH]; split
  ·exact mR hp h i
  exact B3 hp (mR hp h i)
theorem CV (p j:Nat) (r b:List Int):(vY p j r b).length=b.length:=by
 unfold vY; split
 ·rfl
 exact xG _ _ _ _
theorem FJ {p:Nat} (hp:0 < p) {j:Nat} {r b:List Int} (h:eG p b):eG p (vY p j r b):=by
 unfold vY; split
 ·exact h
 exact B3 hp h
theorem jK (p j:Nat) (r:List Int) (out:List (List Int)) (i:Nat):(fA p j r out i).length=out.length:=by simp [fA]
theorem wQ {p j:Nat} {r:List Int} {out:List (List Int)} {i t:Nat} (h:t < out.length):(fA p j r out i).getD t []=if t < i then vY p j r (out.getD t []) else out.getD t []:=by
 simp [fA,List.getD,List.getElem?_map,List.getElem?_range h]
theorem BF (p j:Nat) (r:List Int) (out:List (List Int)):fA p j r out 0=out:=by
 refine List.ext_getElem (by simp [fA]) fun t h1 h2=>?_
 simp [fA,List.getD,List.getElem?_eq_getElem h2]
theorem EA {p j:Nat} {r:List Int} {out:List (List Int)} {i:Nat} (h:i < out.length):(fA p j r out i).set i (vY p j r (out.getD i []))=fA p j r out (i + 1):=by
 refine List.ext_getElem (by simp [fA]) fun t h1 h2=>?_
 have ht:t < out.length:=by simpa [fA] using h2
 rw [List.getElem_set]
 by_cases e:i=t
 ·subst e; simp [fA]
 rw [if_neg e]
 simp only [fA,List.getElem_map,List.getElem_range]
 by_cases e2:t < i
 ·rw [if_pos e2,if_pos (by omega)]
 rw [if_neg e2,if_neg (by omega)]
theorem aC {α:Type} {l:List α} {i:Nat} {d:α} (h:i < l.length):l.getD i d∈l:=by simp [List.getD,List.getElem?_eq_getElem h]
structure RI (p W:Nat) (S:List (List Int) × List Int):Prop where
 l1:S.2.length=S.1.length
 l2:∀ v∈S.1,v.length=W
 l3:∀ v∈S.1,eG p v
 l4:∀ i,i < S.2.length→0≤S.2.getD i 0∧S.2.getD i 0 < W
theorem xd {p j:Nat} {r:List Int} {out:List (List Int)} {i:Nat} {v:List Int} (h:v∈fA p j r out i):∃ b∈out,v=b∨v=vY p j r b:=by
 obtain ⟨t,ht,rfl⟩:=List.mem_map.1 h
 have:=List.mem_range.1 ht
 refine ⟨out.getD t [],aC this,?_⟩
 split
 ·exact .inr rfl
 exact .inl rfl
theorem C3 {p W:Nat} (hp:0 < p) {S:List (List Int) × List Int} (h:RI p W S) {r:List Int} (hr:r.length=W) (hg:eG p r):RI p W (pM p S r):=by
 unfold pM
 split
 ·exact h
 rename_i j hj
 obtain ⟨j1,j2,_⟩:=cH hj
 rw [ik] at j1
 refine ⟨by simp [jK,h.l1],fun v hv=>?_,fun v hv=>?_,fun i hi=>?_⟩
 ·rcases List.mem_append.1 hv with hv | hv
  ·obtain ⟨b,b1,rfl | rfl⟩:=xd hv
   ·exact h.l2 _ b1
   rw [CV]; exact h.l2 _ b1
  rw [List.mem_singleton.1 hv,x8,ik,hr]
 ·rcases List.mem_append.1 hv with hv | hv
  ·obtain ⟨b,b1,rfl | rfl⟩:=xd hv
   ·exact h.l3 _ b1
   exact FJ hp (h.l3 _ b1)
  rw [List.mem_singleton.1 hv]; exact vg hp (mR hp hg _)
 simp only [List.length_append,List.length_singleton] at hi
 by_cases e:i < S.2.length
 ·have:=h.l4 i e
  simpa [List.getD,List.getElem?_append_left e] using this
 have e2:i=S.2.length:=by omega
 subst e2
 simp [List.getD]
 omega
theorem fM {p W:Nat} (hp:0 < p) {M:List (List Int)} (h1:∀ v∈M,v.length=W) (h2:∀ v∈M,eG p v):∀ k,k≤M.length→RI p W (cE p M k)
 | 0,_=>⟨rfl,fun v hv=>by simp [cE] at hv,fun v hv=>by simp [cE] at hv,fun i hi=>by simp [cE] at hi⟩
 | k + 1,hk=>C3 hp (fM hp h1 h2 k (by omega)) (h1 _ (aC (by omega))) (h2 _ (aC (by omega)))
theorem B2 (p:Nat) (S:List (List Int) × List Int) (r:List Int):(pM p S r).1.length≤S.1.length + 1:=by
 unfold pM; split
 ·omega
 simp [jK]
theorem gU (p:Nat) (M:List (List Int)):∀ k,(cE p M k).1.length≤k
 | 0=>Nat.le_refl _
 | k + 1=>by have:=B2 p (cE p M k) (M.getD k []); have:=gU p M k; rw [cE]; omega
theorem cK {α:Type} (l:List α) (x d:α):(l++[x]).getD l.length d=x:=by simp [List.getD]
theorem ff {α:Type} {l:List α} (x d:α) {i:Nat} (h:i < l.length):(l++[x]).getD i d=l.getD i d:=by simp [List.getD,List.getElem?_append_left h]
theorem gS {α:Type} (l:List α) (x y:α):(l++[x]).set l.length y=l++[y]:=by simp
theorem zT {p:Nat} (hp:p≤1000000) {x k b:Int} (h1:0≤x∧x < p) (h2:0≤k∧k < p) (h3:0≤b∧b < p):ah (k * b)∧ah (x - k * b):=by
 have:=ku hp h2.1 h2.2 h3.1 h3.2
 simp only [ah]; omega
theorem n5 {S s:St} {W q L:Nat} {a:List Int} {M:List (List Int)} (hn:S.n=s.n) (hH:S.H=s.H) (e:s.H = .own (ca 2 W q) :: .own (ol a) :: tl M) (hL:M.length + 2=L) (hq:q≤M.length) (hsl:∀ p∈S.sl,s.get p.1=p.2∧bg L p.2=true):Le (List.range L) S s:=by
 have e1:s.H.length=L:=by rw [e]; simp [aD]; omega
 subst e1
 refine ob hn hH (fun b hb=>?_) hsl
 rw [e] at hb
 rcases List.mem_cons.1 hb with rfl | hb
 ·exact jy (by omega)
 rcases List.mem_cons.1 hb with rfl | hb
 ·exact fC _ _
 exact rD _ _ b hb
set_option maxHeartbeats 4000000 in
set_option maxRecDepth 20000 in
theorem uw {p W:Nat} (hp2:2≤p) (hp:p≤1000000) (hW:0 < W) (hW2:W≤1000) (M:List (List Int)) (hM:M.length≤1000) (h1:∀ v∈M,v.length=W) (h2:∀ v∈M,eG p v) :
  bR Tryd.prog 77 [.int .i64 p,.list (ll M)] (.tup [.list (ll (cE p M M.length).1),.list (il (cE p M M.length).2)]):=by
 refine aI ae Tryd.func77 rfl (by kernel_rfl) (by rw [Tryd.ntmps77]; exact Nat.le_add_left 2 _) ?_; rw [Tryd.ntmps77]
 refine qm ?_
 refine ab fun K hK=>aa ae ?_
 simp only [aj,fl,gp,ai,simprocAttr]
 refine af trivial (hK _ ?_)<;>clear hK K
 refine qa (qm ?_)
 refine ab fun K hK=>aa ae ?_
 simp only [aj,fl,gp,ai,simprocAttr]
 refine af trivial (hK _ ?_)<;>clear hK K
 refine qa (qm ?_)
 refine ab fun K hK=>aa ae ?_
 simp only [aj,fl,gp,ai,simprocAttr]
 refine af trivial (hK _ ?_)<;>clear hK K
 refine qa (qm (qm ?_))
 refine bN 6 rfl ?_
 refine bN 7 rfl ?_
 refine ab fun K hK=>aa ae ?_
 simp only [aj,fl,gp,ai,simprocAttr,aw]
 refine af trivial (hK _ ?_)<;>clear hK K
 refine qa (ql ?_)
 refine aA (ι:=Nat) (fun k=>⟨153,[(0,.p (.int .i64 p)),(6,.sl 0 0 (cE p M k).1.length),(7,.sl 1 0 (cE p M k).1.length),(21,.p (.list (ll M))),(22,.p (.int .i64 M.length)),(23,.p (.int .i64 k))],.own (ca 2 W (cE p M k).1.length) :: .own (ol (cE p M k).2) :: tl (cE p M k).1⟩) (fun k=>k≤M.length) (fun k=>M.length - k) 0 (Nat.zero_le _) [0,1] (by simp only [leq,bf,aj,fl,gp,ai,simprocAttr]<;>simp [cE,ca,tl,iC,ky]) fun k hk=>?_
 have hri:=fM (W:=W) (p:=p) (by omega) h1 h2 k hk
 have hql:=gU p M k
 have hsucc:cE p M (k + 1)=pM p (cE p M k) (M.getD k []):=rfl
 generalize hS:cE p M k=S at *
 obtain ⟨out,at'⟩:=S
 obtain ⟨l1,l2,l3,l4⟩:=hri
 simp only at l1 l2 l3 l4 hql hsucc
 obtain ⟨q,hq⟩:∃ q,out.length=q:=⟨_,rfl⟩
 simp only [hq] at l1 ⊢
 refine qm ?_
 refine ab fun K hK=>aa ae ?_
 simp only [aj,fl,gp,ai,simprocAttr]
 refine af trivial (hK _ ?_)<;>clear hK K
 refine qa (qm ?_)
 refine ao rfl (fun hC1=>?_) (fun hC1=>?_)
 ·(try simp only [aG] at hC1)
  have hkl:k < M.length:=by omega
  obtain ⟨r,hr⟩:∃ r,M.getD k []=r:=⟨_,rfl⟩
  have hrl:r.length=W:=by rw [← hr]; exact h1 _ (aC hkl)
  have hrg:eG p r:=by rw [← hr]; exact h2 _ (aC hkl)
  have hrn:r ≠ []:=by intro e; rw [e] at hrl; simp at hrl; omega
  rw [hr] at hsucc
  refine qh (qa (qm (ql (qm ?_))))
  refine ab fun K hK=>aa ae ?_
  simp only [aj,fl,gp,ai,simprocAttr,aw,cQ hkl,hr]
  refine af ?_ (hK _ ?_)<;>clear hK K
  ·omega
  refine qa (qm ?_)
  refine ab fun K hK=>aa ae ?_
  simp only [aj,fl,gp,ai,simprocAttr]
  refine an trivial (iD (xp r hrn (by omega)) rfl rfl (by first|rfl|(simp [Cw,bg,bt,bF]; done)|(simp only [Cw,List.all_cons,List.all_nil,fC,Bool.and_true]; rfl)) (by simp only [au,Nat.reduceLT]) (by repeat (first|exact trivial|constructor)) (aa ae ?_))
  simp only [Go.Pv.gT,List.range',aM.bl,jS,bl,bw,aj,fl,gp,ai,simprocAttr,aD,hq]
  refine af trivial (hK _ ?_)<;>clear hK K
  refine qa (qm (qm ?_))
  refine ab fun K hK=>aa ae ?_
  simp only [aj,fl,gp,ai,simprocAttr]
  refine af trivial (hK _ ?_)<;>clear hK K
  refine qa (ql ?_)
  refine aA (ι:=Nat) (fun i=>⟨153,[(0,.p (.int .i64 p)),(6,.sl 0 0 q),(7,.sl 1 0 q),(9,.sl (q + 2) 0 W),(21,.p (.list (ll M))),(22,.p (.int .i64 M.length)),(23,.p (.int .i64 k)),(29,.sl 0 0 q),(30,.p (.int .i64 q)),(31,.p (.int .i64 i))],.own (ca 2 W q) :: .own (ol at') :: tl (out++[nH p out at' r i])⟩) (fun i=>i≤q) (fun i=>q - i) 0 (Nat.zero_le _) (List.range (q + 3)) (n5 (W:=W) (q:=q) (a:=at') (M:=out++[r]) rfl (by simp [nH,tl]) (by simp [tl]) (by simp [hq]) (by simp [hq]) (by
   simp [St.get,lk,bg,bt,hrl])) fun i hi=>?_
  obtain ⟨x,hx⟩:∃ x,nH p out at' r i=x:=⟨_,rfl⟩
  have hxl:x.length=W:=by rw [← hx,ik,hrl]
  have hxg:eG p x:=by rw [← hx]; exact mR (by omega) hrg i
  rw [hx]
  refine qm ?_
  refine ab fun K hK=>aa ae ?_
  simp only [aj,fl,gp,ai,simprocAttr]
  refine af trivial (hK _ ?_)<;>clear hK K
  refine qa (qm ?_)
  refine ao rfl (fun hC2=>?_) (fun hC2=>?_)
  ·(try simp only [aG] at hC2)
   have hiq:i < q:=by omega
   obtain ⟨b,hb⟩:∃ b,out.getD i []=b:=⟨_,rfl⟩
   have hbl:b.length=W:=by rw [← hb]; exact l2 _ (aC (by omega))
   have hbg:eG p b:=by rw [← hb]; exact l3 _ (aC (by omega))
   obtain ⟨c,hc⟩:∃ c:Nat,at'.getD i 0=(c:Int):=⟨(at'.getD i 0).toNat,by have:=l4 i (by omega); omega⟩
   have hcW:c < W:=by have:=l4 i (by omega); omega
   have hgx:aq (tl (out++[x])) q = .own (ol x):=by rw [aV (by simp [hq]),← hq,cK]
   have hgb:∀ y,aq (tl (out++[y])) i = .own (ol b):=fun y=>by rw [aV (by simp [hq]; omega),ff _ _ (by omega),hb]
   have hsx:nH p out at' r (i + 1)=if x.getD c 0=0 then x else Cn p (x.getD c 0) x b:=by
    rw [nH,hx,hc,Int.toNat_natCast,hb]
   have hxc:=hxg c
   refine qh (qa (qm (ql (qm ?_))))
   refine ab fun K hK=>aa ae ?_
   simp only [aj,fl,gp,ai,simprocAttr,bx,lP hiq]
   refine af ?_ (hK _ ?_)<;>clear hK K
   ·omega
   refine qa (qm ?_)
   refine ab fun K hK=>aa ae ?_
   simp only [aj,fl,gp,ai,simprocAttr,bP (show i < at'.length by omega),hc,gZ,hgx,bP (show c < x.length by omega)]
   refine af ?_ (hK _ ?_)<;>clear hK K
   ·omega
   refine qa (qm ?_)
   refine ab fun K hK=>aa ae ?_
   simp only [aj,fl,gp,ai,simprocAttr]
   refine af trivial (hK _ ?_)<;>clear hK K
   refine qa ?_
   refine ao rfl (fun hC3=>?_) (fun hC3=>?_)
   ·(try simp only [aG] at hC3)
    have hne:¬ x.getD c 0=0:=by omega
    rw [if_neg hne] at hsx
    refine qm ?_
    refine ab fun K hK=>aa ae ?_
    simp only [aj,fl,gp,ai,simprocAttr]
    refine af trivial (hK _ ?_)<;>clear hK K
    refine qa (ql ?_)
    refine aA (ι:=Nat) (fun j=>⟨153,[(0,.p (.int .i64 p)),(6,.sl 0 0 q),(7,.sl 1 0 q),(9,.sl (q + 2) 0 W),(11,.sl (i + 2) 0 W),(12,.p (.int .i64 (x.getD c 0))),(21,.p (.list (ll M))),(22,.p (.int .i64 M.length)),(23,.p (.int .i64 k)),(29,.sl 0 0 q),(30,.p (.int .i64 q)),(31,.p (.int .i64 i)),(46,.p (.int .i64 W)),(47,.p (.int .i64 j))],.own (ca 2 W q) :: .own (ol at') :: tl (out++[cU (zh p (x.getD c 0) x b) 0 j x])⟩) (fun j=>j≤W) (fun j=>W - j) 0 (Nat.zero_le _) (List.range (q + 3)) (n5 (W:=W) (q:=q) (a:=at') (M:=out++[x]) rfl (by rw [dp]) rfl (by simp [hq]) (by simp [hq]) (by
     simp [St.get,lk,bg,bt]<;>omega)) fun j hj=>?_
    obtain ⟨y,hy⟩:∃ y,cU (zh p (x.getD c 0) x b) 0 j x=y:=⟨_,rfl⟩
    have hyl:y.length=W:=by rw [← hy,bJ,hxl]
    rw [hy]
    refine qm ?_
    refine ab fun K hK=>aa ae ?_
    simp only [aj,fl,gp,ai,simprocAttr]
    refine af trivial (hK _ ?_)<;>clear hK K
    refine qa (qm ?_)
    refine ao rfl (fun hC4=>?_) (fun hC4=>?_)
    ·(try simp only [aG] at hC4)
     have hjW:j < W:=by omega
     have hyj:y.getD j 0=x.getD j 0:=by rw [← hy,dz (by omega),if_neg (by omega)]
     have hgy:aq (tl (out++[y])) q = .own (ol y):=by rw [aV (by simp [hq]),← hq,cK]
     have hsy:∀ w,aE (tl (out++[y])) q (.own (ol w))=tl (out++[w]):=fun w=>by rw [iO,← hq,gS]
     have hst:y.set j ((x.getD j 0 - x.getD c 0 * b.getD j 0) % (p:Int))=cU (zh p (x.getD c 0) x b) 0 (j + 1) x:=by
      rw [← hy]; exact gz (f:=zh p (x.getD c 0) x b) (Nat.zero_le j) (by omega)
     have hrn:=zT hp (hxg j) hxc (hbg j)
     have ht1:=Int.lt_tmod_of_pos (x.getD j 0 - x.getD c 0 * b.getD j 0) (show (0:Int) < p by omega)
     have ht2:=Int.tmod_lt_of_pos (x.getD j 0 - x.getD c 0 * b.getD j 0) (show (0:Int) < p by omega)
     refine qh (qa (qm (ql (qm ?_))))
     refine ab fun K hK=>aa ae ?_
     simp only [aj,fl,gp,ai,simprocAttr]
     refine af trivial (hK _ ?_)<;>clear hK K
     refine qa ?_
     refine aT mixed (by kernel_rfl) fun K hK=>aa ae ?_
     simp only [aj,fl,gp,ai,simprocAttr,gZ,Au,hgy,hgb,bP (show j < y.length by omega),bP (show j < b.length by omega),hyj,zX (show 0 < p by omega),eB,hsy,hst]
     refine af ?_ (hK _ ?_)<;>clear hK K
     ·simp only [ah] at *; omega
     refine qd (qa ?_)
     refine ab fun K hK=>aa ae ?_
     simp only [aj,fl,gp,ai,simprocAttr]
     refine af ?_ (hK _ ?_)<;>clear hK K
     ·first|exact trivial|omega|(simp only [ah] at *; omega)|(simp [ah] at *; omega)|simp_all
     refine qa ?_
     refine ⟨j + 1,List.range (q + 3),by omega,by omega,n5 (W:=W) (q:=q) (a:=at') (M:=out++[cU (zh p (x.getD c 0) x b) 0 (j + 1) x]) rfl rfl rfl (by simp [hq]) (by simp [hq]) (by
      simp [St.get,lk,bg,bt]<;>omega)⟩
    (try simp only [aG] at hC4)
    have hjW:j=W:=by omega
    have hye:Cn p (x.getD c 0) x b=y:=by rw [← hy,Cn,hxl,hjW]
    rw [hye] at hsx
    refine qj (qc (qc (qf (qd (qa ?_)))))
    refine ab fun K hK=>aa ae ?_
    simp only [aj,fl,gp,ai,simprocAttr]
    refine af ?_ (hK _ ?_)<;>clear hK K
    ·first|exact trivial|omega|(simp only [ah] at *; omega)|(simp [ah] at *; omega)|simp_all
    refine qa ?_
    refine ⟨i + 1,List.range (q + 3),by omega,by omega,n5 (W:=W) (q:=q) (a:=at') (M:=out++[y]) rfl (by rw [hsx]) rfl (by simp [hq]) (by simp [hq]) (by
     simp [St.get,lk,bg,bt]<;>omega)⟩
   (try simp only [aG] at hC3)
   have hze:x.getD c 0=0:=by omega
   rw [if_pos hze] at hsx
   refine qh (qd (qa ?_))
   refine ab fun K hK=>aa ae ?_
   simp only [aj,fl,gp,ai,simprocAttr]
   refine af ?_ (hK _ ?_)<;>clear hK K
   ·first|exact trivial|omega|(simp only [ah] at *; omega)|(simp [ah] at *; omega)|simp_all
   refine qa ?_
   refine ⟨i + 1,List.range (q + 3),by omega,by omega,n5 (W:=W) (q:=q) (a:=at') (M:=out++[x]) rfl (by rw [hsx]) rfl (by simp [hq]) (by simp [hq]) (by
    simp [St.get,lk,bg,bt]<;>omega)⟩
  (try simp only [aG] at hC2)
  have hiq:i=q:=by omega
  have hxq:nH p out at' r out.length=x:=by rw [hq,← hiq]; exact hx
  have hixf:I4 (fun z=>decide (¬ z=0)) x=match GM x with | some i=>(i:Int) | none=>-1:=rfl
  have hgx:∀ y,aq (tl (out++[y])) q = .own (ol y):=fun y=>by rw [aV (by simp [hq]),← hq,cK]
  have htk:List.take W x=x:=List.take_of_length_le (by omega)
  refine qj (qc (qc (qf (qa (qm ?_)))))
  refine ab fun K hK=>aa ae ?_
  simp only [aj,fl,gp,ai,simprocAttr]
  refine an ?_ (ak (b:=false) (uS x _ [] (fun z=>decide (¬ z=0)) (by omega) (fun z _=>yD z)) rfl (by simp only [gq,cy,dO,dI,List.map_cons,List.map_nil,List.append_nil,bG,aj,fl,gp,ai,simprocAttr,gZ,hgx,htk,List.drop_zero,rA,xQ,gl,jZ,iw,aH,List.length_replicate,List.take_replicate,Nat.min_self]; rfl) rfl (by simp only [au,Nat.reduceLT]) ?_ (aa ae ?_))
  ·first|exact trivial|omega|(simp only [ah] at *; omega)|(simp [ah] at *; omega)|simp_all
  ·first|exact trivial|omega|(simp only [ah] at *; omega)|(simp [ah] at *; omega)|simp_all
  simp only [aj,fl,gp,ai,simprocAttr]
  refine af trivial (hK _ ?_)<;>clear hK K
  refine qa (qm (qm ?_))
  refine ab fun K hK=>aa ae ?_
  simp only [aj,fl,gp,ai,simprocAttr]
  refine af trivial (hK _ ?_)<;>clear hK K
  refine qa ?_
  refine ao rfl (fun hC5=>?_) (fun hC5=>?_)
  ·(try simp only [aG] at hC5)
   have hf:GM x=none:=by
    cases hf:GM x with
    | none=>rfl
    | some j=>rw [hf] at hixf; simp only at hixf; rw [hixf] at hC5; omega
   have hst:cE p M (k + 1)=(out,at'):=by rw [hsucc]; unfold pM; simp only [hxq,hf]
   refine qj (qc (qf (qa ?_)))
   refine ab fun K hK=>aa ae ?_
   simp only [aj,fl,gp,ai,simprocAttr]
   refine af ?_ (hK _ ?_)<;>clear hK K
   ·first|exact trivial|omega|(simp only [ah] at *; omega)|(simp [ah] at *; omega)|simp_all
   refine qa ?_
   refine ⟨k + 1,0 :: 1 :: List.range' 2 q,by omega,by omega,?_⟩
   rw [hst]
   simp only [hq]
   refine xu (W:=W) (q:=q) (a:=at') (M:=out) rfl rfl hq ⟨by omega,by omega,by omega⟩ rfl rfl (fun i hi=>?_) (by simp [kn,St.get,lk,Go.Pv.bl,bw,bg,bt])
   rw [Nat.add_comm 2 i,gZ,aV (by simp [hq]; omega),ff _ _ (by omega)]
  (try simp only [aG] at hC5)
  obtain ⟨j,hj⟩:∃ j,GM x=some j:=by
   cases hf:GM x with
   | none=>rw [hf] at hixf; simp only at hixf; rw [hixf] at hC5; omega
   | some j=>exact ⟨j,rfl⟩
  rw [hj] at hixf
  simp only at hixf
  have hjW:j < W:=by have:=(cH hj).1; omega
  rw [hixf]
  obtain ⟨kk,hkk⟩:∃ kk,dQ p (x.getD j 0)=kk:=⟨_,rfl⟩
  have hkr:0≤kk∧kk < p:=by rw [← hkk]; exact lT hp2 _
  refine qh (qa (qm ?_))
  refine ab fun K hK=>aa ae ?_
  simp only [aj,fl,gp,ai,simprocAttr,gZ,hgx,bP (show j < x.length by omega)]
  refine an ?_ (ak (uO hp2 hp (hxg j).1 (by have:=(hxg j).2; omega)) rfl rfl rfl (by simp only [au,Nat.reduceLT]) (by repeat (first|exact trivial|constructor)) (aa ae ?_))
  ·omega
  simp only [aj,fl,gp,ai,simprocAttr,hkk,gZ,hgx,bP (show j < x.length by omega)]
  refine af ?_ (hK _ ?_)<;>clear hK K
  ·first|exact trivial|omega|(simp only [ah] at *; omega)|(simp [ah] at *; omega)|simp_all
  refine qa (qm (qm ?_))
  refine ab fun K hK=>aa ae ?_
  simp only [aj,fl,gp,ai,simprocAttr]
  refine af trivial (hK _ ?_)<;>clear hK K
  refine qa (ql ?_)
  refine aA (ι:=Nat) (fun i=>⟨153,[(0,.p (.int .i64 p)),(6,.sl 0 0 q),(7,.sl 1 0 q),(9,.sl (q + 2) 0 W),(14,.p (.int .i64 j)),(15,.p (.int .i64 kk)),(21,.p (.list (ll M))),(22,.p (.int .i64 M.length)),(23,.p (.int .i64 k)),(83,.p (.int .i64 W)),(84,.p (.int .i64 i))],.own (ca 2 W q) :: .own (ol at') :: tl (out++[cU (zy p kk x) 0 i x])⟩) (fun i=>i≤W) (fun i=>W - i) 0 (Nat.zero_le _) (List.range (q + 3)) (n5 (W:=W) (q:=q) (a:=at') (M:=out++[x]) rfl (by rw [dp]) rfl (by simp [hq]) (by simp [hq]) (by
   simp [St.get,lk,bg,bt]<;>omega)) fun i hi=>?_
  obtain ⟨y,hy⟩:∃ y,cU (zy p kk x) 0 i x=y:=⟨_,rfl⟩
  have hyl:y.length=W:=by rw [← hy,bJ,hxl]
  rw [hy]
  refine qm ?_
  refine ab fun K hK=>aa ae ?_
  simp only [aj,fl,gp,ai,simprocAttr]
  refine af trivial (hK _ ?_)<;>clear hK K
  refine qa (qm ?_)
  refine ao rfl (fun hC6=>?_) (fun hC6=>?_)
  ·(try simp only [aG] at hC6)
   have hiW:i < W:=by omega
   have hyi:y.getD i 0=x.getD i 0:=by rw [← hy,dz (by omega),if_neg (by omega)]
   have hsy:∀ w,aE (tl (out++[y])) q (.own (ol w))=tl (out++[w]):=fun w=>by rw [iO,← hq,gS]
   have hst:y.set i (x.getD i 0 * kk % (p:Int))=cU (zy p kk x) 0 (i + 1) x:=by
    rw [← hy]; exact gz (f:=zy p kk x) (Nat.zero_le i) (by omega)
   have hm:=ku hp (hxg i).1 (hxg i).2 hkr.1 hkr.2
   have htm:Int.tmod (x.getD i 0 * kk) p=x.getD i 0 * kk % p:=Int.tmod_eq_emod_of_nonneg hm.1
   refine qh (qa (qm (ql (qm ?_))))
   refine ab fun K hK=>aa ae ?_
   simp only [aj,fl,gp,ai,simprocAttr]
   refine af trivial (hK _ ?_)<;>clear hK K
   refine qa ?_
   refine ab fun K hK=>aa ae ?_
   simp only [aj,fl,gp,ai,simprocAttr,gZ,Au,hgx,bP (show i < y.length by omega),hyi,htm,eB,hsy,hst]
   refine af ?_ (hK _ ?_)<;>clear hK K
   ·simp only [ah] at *; omega
   refine qd (qa ?_)
   refine ab fun K hK=>aa ae ?_
   simp only [aj,fl,gp,ai,simprocAttr]
   refine af ?_ (hK _ ?_)<;>clear hK K
   ·first|exact trivial|omega|(simp only [ah] at *; omega)|(simp [ah] at *; omega)|simp_all
   refine qa ?_
   refine ⟨i + 1,List.range (q + 3),by omega,by omega,n5 (W:=W) (q:=q) (a:=at') (M:=out++[cU (zy p kk x) 0 (i + 1) x]) rfl rfl rfl (by simp [hq]) (by simp [hq]) (by
    simp [St.get,lk,bg,bt]<;>omega)⟩
  (try simp only [aG] at hC6)
  have hiW:i=W:=by omega
  have hye:AL p kk x=y:=by rw [← hy,AL,hxl,hiW]
  have hyg:eG p y:=by rw [← hye]; exact vg (by omega) hxg
  have hsuc2:cE p M (k + 1)=(fA p j y out q++[y],at'++[(j:Int)]):=by
   rw [hsucc]; unfold pM; simp only [hq] at hxq ⊢; simp only [hxq,hj,hkk,hye]
  refine qj (qc (qc (qf (qa (qm (qm ?_))))))
  refine ab fun K hK=>aa ae ?_
  simp only [aj,fl,gp,ai,simprocAttr]
  refine af trivial (hK _ ?_)<;>clear hK K
  refine qa (ql ?_)
  refine aA (ι:=Nat) (fun i=>⟨153,[(0,.p (.int .i64 p)),(6,.sl 0 0 q),(7,.sl 1 0 q),(9,.sl (q + 2) 0 W),(14,.p (.int .i64 j)),(21,.p (.list (ll M))),(22,.p (.int .i64 M.length)),(23,.p (.int .i64 k)),(99,.sl 0 0 q),(100,.p (.int .i64 q)),(101,.p (.int .i64 i))],.own (ca 2 W q) :: .own (ol at') :: tl (fA p j y out i++[y])⟩) (fun i=>i≤q) (fun i=>q - i) 0 (Nat.zero_le _) (List.range (q + 3)) (n5 (W:=W) (q:=q) (a:=at') (M:=out++[y]) rfl (by rw [BF]) rfl (by simp [hq]) (by simp [hq]) (by
   simp [St.get,lk,bg,bt]<;>omega)) fun i hi=>?_
  have hbl:=jK p j y out i
  refine qm ?_
  refine ab fun K hK=>aa ae ?_
  simp only [aj,fl,gp,ai,simprocAttr]
  refine af trivial (hK _ ?_)<;>clear hK K
  refine qa (qm ?_)
  refine ao rfl (fun hC7=>?_) (fun hC7=>?_)
  ·(try simp only [aG] at hC7)
   have hiq:i < q:=by omega
   obtain ⟨b,hb⟩:∃ b,out.getD i []=b:=⟨_,rfl⟩
   have hbl2:b.length=W:=by rw [← hb]; exact l2 _ (aC (by omega))
   have hbg:eG p b:=by rw [← hb]; exact l3 _ (aC (by omega))
   have hbi:(fA p j y out i).getD i []=b:=by rw [wQ (by omega),if_neg (by omega),hb]
   have hgb:aq (tl (fA p j y out i++[y])) i = .own (ol b):=by rw [aV (by simp [hbl]; omega),ff _ _ (by omega),hbi]
   have hsn:=EA (p:=p) (j:=j) (r:=y) (show i < out.length by omega)
   rw [hb] at hsn
   have hbj:=hbg j
   refine qh (qa (qm (ql (qm ?_))))
   refine ab fun K hK=>aa ae ?_
   simp only [aj,fl,gp,ai,simprocAttr,bx,lP hiq]
   refine af ?_ (hK _ ?_)<;>clear hK K
   ·omega
   refine qa (qm ?_)
   refine ab fun K hK=>aa ae ?_
   simp only [aj,fl,gp,ai,simprocAttr,gZ,hgb,bP (show j < b.length by omega)]
   refine af ?_ (hK _ ?_)<;>clear hK K
   ·omega
   refine qa (qm ?_)
   refine ab fun K hK=>aa ae ?_
   simp only [aj,fl,gp,ai,simprocAttr]
   refine af trivial (hK _ ?_)<;>clear hK K
   refine qa ?_
   refine ao rfl (fun hC8=>?_) (fun hC8=>?_)
   ·(try simp only [aG] at hC8)
    have hne:¬ b.getD j 0=0:=by omega
    have hbk:vY p j y b=Cn p (b.getD j 0) b y:=by unfold vY; rw [if_neg hne]
    have hset0:(fA p j y out i).set i b=fA p j y out i:=by
     refine List.ext_getElem (by simp) fun t g1 g2=>?_
     rw [List.getElem_set]
     split
     ·rename_i e
      subst e
      rw [List.getD_eq_getElem?_getD,List.getElem?_eq_getElem g2] at hbi
      exact hbi.symm
     rfl
    refine qm ?_
    refine ab fun K hK=>aa ae ?_
    simp only [aj,fl,gp,ai,simprocAttr]
    refine af trivial (hK _ ?_)<;>clear hK K
    refine qa (ql ?_)
    refine aA (ι:=Nat) (fun m=>⟨153,[(0,.p (.int .i64 p)),(6,.sl 0 0 q),(7,.sl 1 0 q),(9,.sl (q + 2) 0 W),(14,.p (.int .i64 j)),(17,.p (.int .i64 i)),(18,.sl (i + 2) 0 W),(19,.p (.int .i64 (b.getD j 0))),(21,.p (.list (ll M))),(22,.p (.int .i64 M.length)),(23,.p (.int .i64 k)),(99,.sl 0 0 q),(100,.p (.int .i64 q)),(101,.p (.int .i64 i)),(113,.p (.int .i64 W)),(114,.p (.int .i64 m))],.own (ca 2 W q) :: .own (ol at') :: tl ((fA p j y out i).set i (cU (zh p (b.getD j 0) b y) 0 m b)++[y])⟩) (fun m=>m≤W) (fun m=>W - m) 0 (Nat.zero_le _) (List.range (q + 3)) (n5 (W:=W) (q:=q) (a:=at') (M:=fA p j y out i++[y]) rfl (by rw [dp,hset0]) rfl (by simp [hq,hbl]) (by simp [hq,hbl]) (by
     simp [St.get,lk,bg,bt]<;>omega)) fun m hm=>?_
    obtain ⟨z,hz⟩:∃ z,cU (zh p (b.getD j 0) b y) 0 m b=z:=⟨_,rfl⟩
    have hzl:z.length=W:=by rw [← hz,bJ,hbl2]
    rw [hz]
    refine qm ?_
    refine ab fun K hK=>aa ae ?_
    simp only [aj,fl,gp,ai,simprocAttr]
    refine af trivial (hK _ ?_)<;>clear hK K
    refine qa (qm ?_)
    refine ao rfl (fun hC9=>?_) (fun hC9=>?_)
    ·(try simp only [aG] at hC9)
     have hmW:m < W:=by omega
     have hzm:z.getD m 0=b.getD m 0:=by rw [← hz,dz (by omega),if_neg (by omega)]
     have hgz:aq (tl ((fA p j y out i).set i z++[y])) i = .own (ol z):=by rw [aV (by simp [hbl]; omega),ff _ _ (by simp [hbl]; omega)]; simp [List.getD,hbl,hq,hiq]
     have hgy:aq (tl ((fA p j y out i).set i z++[y])) q = .own (ol y):=by
      rw [aV (by simp [hbl,hq]),show q=((fA p j y out i).set i z).length by simp [hbl,hq],cK]
     have hsz:∀ w,aE (tl ((fA p j y out i).set i z++[y])) i (.own (ol w))=tl ((fA p j y out i).set i w++[y]):=fun w=>by rw [iO,List.set_append_left _ _ (by simp [hbl]; omega),List.set_set]
     have hst:z.set m ((b.getD m 0 - b.getD j 0 * y.getD m 0) % (p:Int))=cU (zh p (b.getD j 0) b y) 0 (m + 1) b:=by
      rw [← hz]; exact gz (f:=zh p (b.getD j 0) b y) (Nat.zero_le m) (by omega)
     have hrn:=zT hp (hbg m) hbj (hyg m)
     have ht1:=Int.lt_tmod_of_pos (b.getD m 0 - b.getD j 0 * y.getD m 0) (show (0:Int) < p by omega)
     have ht2:=Int.tmod_lt_of_pos (b.getD m 0 - b.getD j 0 * y.getD m 0) (show (0:Int) < p by omega)
     refine qh (qa (qm (ql (qm ?_))))
     refine ab fun K hK=>aa ae ?_
     simp only [aj,fl,gp,ai,simprocAttr]
     refine af trivial (hK _ ?_)<;>clear hK K
     refine qa ?_
     refine aT mixed (by kernel_rfl) fun K hK=>aa ae ?_
     simp only [aj,fl,gp,ai,simprocAttr,bx,lP hiq,gZ,Au,hgz,hgy,bP (show m < z.length by omega),bP (show m < y.length by omega),hzm,zX (show 0 < p by omega),eB,hsz,hst]
     refine af ?_ (hK _ ?_)<;>clear hK K
     ·simp only [ah] at *; omega
     refine qd (qa ?_)
     refine ab fun K hK=>aa ae ?_
     simp only [aj,fl,gp,ai,simprocAttr]
     refine af ?_ (hK _ ?_)<;>clear hK K
     ·first|exact trivial|omega|(simp only [ah] at *; omega)|(simp [ah] at *; omega)|simp_all
     refine qa ?_
     refine ⟨m + 1,List.range (q + 3),by omega,by omega,n5 (W:=W) (q:=q) (a:=at') (M:=(fA p j y out i).set i (cU (zh p (b.getD j 0) b y) 0 (m + 1) b)++[y]) rfl rfl rfl (by simp [hq,hbl]) (by simp [hq,hbl]) (by
      simp [St.get,lk,bg,bt]<;>omega)⟩
    (try simp only [aG] at hC9)
    have hmW:m=W:=by omega
    have hze:vY p j y b=z:=by rw [hbk,← hz,Cn,hbl2,hmW]
    rw [hze] at hsn
    refine qj (qc (qc (qf (qd (qa ?_)))))
    refine ab fun K hK=>aa ae ?_
    simp only [aj,fl,gp,ai,simprocAttr]
    refine af ?_ (hK _ ?_)<;>clear hK K
    ·first|exact trivial|omega|(simp only [ah] at *; omega)|(simp [ah] at *; omega)|simp_all
    refine qa ?_
    refine ⟨i + 1,List.range (q + 3),by omega,by omega,n5 (W:=W) (q:=q) (a:=at') (M:=(fA p j y out i).set i z++[y]) rfl (by rw [hsn]) rfl (by simp [hq,hbl]) (by simp [hq,hbl]) (by
     simp [St.get,lk,bg,bt]<;>omega)⟩
   (try simp only [aG] at hC8)
   have hze:b.getD j 0=0:=by omega
   have hbk:vY p j y b=b:=by unfold vY; rw [if_pos hze]
   have hset0:(fA p j y out i).set i b=fA p j y out i:=by
    refine List.ext_getElem (by simp) fun t g1 g2=>?_
    rw [List.getElem_set]
    split
    ·rename_i e
     subst e
     rw [List.getD_eq_getElem?_getD,List.getElem?_eq_getElem g2] at hbi
     exact hbi.symm
    rfl
   rw [hbk,hset0] at hsn
   refine qh (qd (qa ?_))
   refine ab fun K hK=>aa ae ?_
   simp only [aj,fl,gp,ai,simprocAttr]
   refine af ?_ (hK _ ?_)<;>clear hK K
   ·first|exact trivial|omega|(simp only [ah] at *; omega)|(simp [ah] at *; omega)|simp_all
   refine qa ?_
   refine ⟨i + 1,List.range (q + 3),by omega,by omega,n5 (W:=W) (q:=q) (a:=at') (M:=fA p j y out i++[y]) rfl (by rw [hsn]) rfl (by simp [hq,hbl]) (by simp [hq,hbl]) (by
    simp [St.get,lk,bg,bt]<;>omega)⟩
  (try simp only [aG] at hC7)
  have hiq:i=q:=by omega
  rw [hiq]
  obtain ⟨X,hX⟩:∃ X,tl (fA p j y out q++[y])=X:=⟨_,rfl⟩
  have hXl:X.length=q + 1:=by rw [← hX,aD]; simp [jK,hq]
  have hXg:∀ b,aq (X++[b]) (q + 1)=b:=fun b=>by rw [← hXl]; exact bc X b
  have hat:List.take q at' = at':=List.take_of_length_le (by omega)
  have hrw:List.take q (ca 2 W q)=ca 2 W q:=lJ rfl
  rw [hX]
  refine qj (qc (qc (qf (qa ?_))))
  refine ab fun K hK=>aa ae ?_
  simp only [aj,fl,gp,ai,simprocAttr,hXl,gZ,hXg,List.length_append,hat,hrw,gi,sS,bx,l1]
  refine an ?_ (eT (cu ae rfl rfl rfl rfl rfl rfl) rfl (by simp only [au,Nat.reduceLT]) (aa ae ?_))
  ·first|exact trivial|omega|(simp only [ah] at *; omega)|(simp [ah] at *; omega)|simp_all
  simp only [aj,fl,gp,ai,simprocAttr,hXl,List.length_append,hXl,gZ,hXg,List.length_append,hat,hrw,gi,sS,bx,l1]
  refine af ?_ (hK _ ?_)<;>clear hK K
  ·exact ⟨⟨vl _ _ _,by omega,by omega,by omega⟩,by omega,by omega,by omega⟩
  refine qd (qa ?_)
  refine ab fun K hK=>aa ae ?_
  simp only [aj,fl,gp,ai,simprocAttr]
  refine af ?_ (hK _ ?_)<;>clear hK K
  ·first|exact trivial|omega|(simp only [ah] at *; omega)|(simp [ah] at *; omega)|simp_all
  refine qa ?_
  refine ⟨k + 1,(q + 4) :: (q + 5) :: List.range' 2 (q + 1),by omega,by omega,?_⟩
  rw [hsuc2]
  have e1:(fA p j y out q++[y]).length=q + 1:=by simp [jK,hq]
  simp only [e1]
  refine xu (W:=W) (q:=q + 1) (a:=at'++[(j:Int)]) (M:=fA p j y out q++[y]) rfl rfl e1 ⟨by omega,by omega,by omega⟩ ?_ ?_ (fun i hi=>?_) (by simp [kn,St.get,lk,Go.Pv.bl,bw,bg,bt])
  ·exact Ix hXl _ _ _
  ·exact IP hXl _ _ _
  rw [Nat.add_comm 2 i]
  show aq (X++_++_++_) i=_
  rw [GJ (by omega),← hX,aV (by omega)]
 (try simp only [aG] at hC1)
 have hkM:k=M.length:=by omega
 refine qj (qc (qc (qf (qa (qm ?_)))))
 have hMk:cE p M M.length=(out,at'):=by rw [← hkM]; exact hS
 refine lX 6 0 2 q hq l2 rfl (.inl (by omega)) rfl (fun i hi=>?_) fun H' a1 a2=>?_
 ·rw [Nat.add_comm 2 i,gZ,aV (by omega)]
 refine iA 7 1 (w:=at') ?_ ?_ ?_
 ·simp [St.get,lk,l1]
 ·show aq H' 1=_
  rw [a2 1 (by omega) (by omega)]; rfl
 rw [hMk]
 refine ab fun K hK=>aa ae ?_
 simp only [aj,fl,gp,ai,simprocAttr]
 refine af trivial (hK _ ?_)<;>clear hK K
 refine qa (qk ?_)
 simp only [Tryd.results77,bG,aj,fl,gp,ai,simprocAttr]
 all_goals ((first|exact rfl|exact ⟨rfl,rfl⟩|exact ⟨rfl,rfl,rfl⟩|exact ⟨trivial,rfl⟩|exact ⟨Nat.le_refl _,rfl⟩|trivial|(simp; done)))
end Go.Proofs.YtjlmpmidchddjaaDoor
namespace Go.Pv
open Go.RowKit
section
variable {P:Program} {T:TypeId→Option TI} {s:St}
section
variable {C:Ctx} {m:Map} {tmps:Array Value} {w:World}
end
end
open Go.RowKit
section
variable {P:Program} {T:TypeId→Option TI} {s:St}
theorem ze (hT:∀ t ti,T t=some ti→bu P t=some ti) {o:Oper} {t t2:TypeId} {x y:Operand} (ho:o.op = .call { callee:=.builtin .copy,args:=#[x,y],argTypes:=#[t,t2] }) {ti te:TI} (ht:T t=some ti) {e:TypeId} (hk:ti.kind = .slice e) (hte:T e=some te) (hsz:te.size=1)
  {k L:Nat} {c:List AV} {v:List Int} (hx:s.ev x = .sl k 0 L) (hy:s.ev y = .p (.list (il v))) (hg:aq s.H k = .own c) (hle:L≤c.length) (hv0:v.length≤L) (hv1:0 < v.length):fj P o s (.p (.int .i64 v.length)) (aE s.H k (.own (iB c 0 (ol v)))):=by
 intro C m a w K Q R hK
 obtain ⟨dst,op,type,pos,after,guard⟩:=o
 simp only at ho
 subst ho
 have hu:=cY (hT _ _ ht) hk
 obtain ⟨i,d,z',h1,h2,h3,h4,h5,h6,h7,h8⟩:=ba (hT _ _ hte)
 have hv:=R.ev x
 rw [hx] at hv
 obtain ⟨news,⟨⟨ax,cx,hsl⟩,hfc⟩,hnl,hnv⟩:=fS (P:=P) R (x:=y) (p:=(il v).all PV.one=true) (xs:=(il v).map .p) (by rw [hy]; rfl) (iw v)
 have hnl' : news.length=v.length:=by rw [hnl]; simp [il]
 have hnint:∀ j,j < v.length→news.getD j undef = .int .i64 (v.getD j 0):=fun j hj=>by
  have h:=hnv j (by simp [il]; exact hj)
  have e:((il v).map AV.p)[j]'(by simp [il]; exact hj) = .p (.int .i64 (v.getD j 0)):=by
   simp [il,List.getD,List.getElem?_eq_getElem hj]
  rw [e] at h
  exact h.aQ.dC
 refine eK (by rfl) ?_
 unfold Oper.wp
 generalize hvx:a.eval x=vx at hv
 cases hv with
 | sl _ _ _ _ hkl hs =>
  rcases hs with ⟨hn,_⟩ | ⟨l,cap,hm,rfl,hc1,hc2⟩
  ·omega
  rcases R.blk k c (bn hg) with ⟨_,hn⟩ | ⟨l',cur,e',hm2,hB,hh,hs1,hs3,hs2,hcells⟩
  ·rw [hm] at hn; cases hn
  rw [hm] at hm2; cases hm2
  have hst:=run_storeCells_at P l.g (l.o + 0) e' news 0 cur w hh (by simp; omega) (fun u hu=>by
   obtain ⟨j,hj⟩:=List.getElem?_of_mem hu
   have hjl:j < v.length:=by have:=(List.getElem?_eq_some_iff.1 hj).1; omega
   have:=hnint j hjl
   rw [List.getD_eq_getElem?_getD,hj,Option.getD_some] at this
   rw [this]; rfl)
  simp only [Nat.add_zero] at hst
  have hf:=hfc w rfl
  have hmin:v.length.min L=v.length:=Nat.min_eq_left (by omega)
  rw [hnl'] at hf
  have hlo:(Builtin.lenOf (a.eval y)).run P w = .ok news.length w:=by rw [hsl]; rfl
  have hss:(sizeOf e).run P w = .ok 1 w:=by simp [sizeOf,typeInfo,h1,h4,hsz]
  have hc:(Builtin.copy_ #[t,t2] type #[.slice (some ⟨l.g,l.o,none⟩) L cap,a.eval y]).run P w = .ok (.int .i64 v.length) (w.setRow l.g (cur.toList.take l.o++news++cur.toList.drop (l.o + news.length)).toArray):=by
   simp [Builtin.copy_,run_underlying hu,hlo,hss,hnl',hmin,hf,hst,goInt]
  have hrun:(execOp a.eval { dst:=dst,op:=.call { callee:=.builtin .copy,args:=#[x,y],argTypes:=#[t,t2] },type:=type,pos:=pos,after:=after,guard:=guard }).run P w = .ok (.value (.int .i64 v.length)) (w.setRow l.g (cur.toList.take l.o++news++cur.toList.drop (l.o + news.length)).toArray):=by
   simp only [BigFrame.execOp_builtin,BigFrame.builtin_copy,List.map_toArray,List.map_cons,List.map_nil,hvx,Nat.add_zero,Sem.run_bind,hc,Result.andThen_ok,Sem.run_pure]
  rw [hrun]
  have g3:0 + (ol v).length≤c.length:=by rw [c6]; omega
  refine hK _ m _ ?_ (.p _ _ (.int _ _))
  refine R.wy (bn hg) hm ?_ ?_ (setRow_heap w l.g cur _ e' _ hh) ?_ ?_ ?_
  ·exact ⟨rfl,rfl,rfl,by simp [World.setRow],fun b hb=>setRow_other w l.g b _ (fun e=>hb (by rw [e]; exact hB)),Nat.le_refl _⟩
  ·exact fun b hb=>setRow_other w l.g b _ hb
  ·simp only [List.size_toArray,List.length_append,List.length_take,List.length_drop,Array.length_toList]
   omega
  ·rw [gJ _ _ _ g3]; exact hs2
  refine pN g3 (fun j hj hn=>?_) fun j hj=>?_
  ·have:=@fe cur news l.o (l.o + j) (by omega)
   rw [c6] at hn
   rw [this,if_neg (by omega)]
   exact hcells j hj
  have:=@fe cur news l.o (l.o + (0 + j)) (by omega)
  rw [c6] at hj
  rw [this,if_pos (by omega),show l.o + (0 + j) - l.o=j by omega]
  have h:=hnv j (by simp [il]; exact hj)
  have e:(ol v)[j]'(by rw [c6]; exact hj)=((il v).map AV.p)[j]'(by simp [il]; exact hj):=rfl
  rw [e]
  rw [hnint j hj]
  have e2:((il v).map AV.p)[j]'(by simp [il]; exact hj) = .p (.int .i64 (v.getD j 0)):=by
   simp [il,List.getD,List.getElem?_eq_getElem hj]
  rw [e2]
  exact .p _ _ (.int _ _)
end
end Go.Pv
namespace Go.Proofs.YtjlmpmidchddjaaDoor
open Go.Pv
theorem aY (ls:List (List Int)):(ll ls).take ls.length=ll ls:=List.take_of_length_le (by rw [aw]; exact Nat.le_refl _)
theorem cX (ls:List (List Int)) (x:List Int):(ll (ls++[x])).take (ls.length + 1)=ll (ls++[x]):=List.take_of_length_le (by rw [aw]; simp)
theorem AY {n:Nat} {r:List Int} (h:r.length=n) (h0:0 < n):iB (ol (List.replicate (n + n) 0)) 0 (ol r)=ol (r++List.replicate n 0):=by
 have e:(ol (List.replicate (n + n) 0)).drop n=ol (List.replicate n 0):=by rw [rA,List.drop_replicate,Nat.add_sub_cancel]
 unfold iB
 split
 ·rename_i x hx
  have h1:r.length=1:=by rw [← c6 r,hx]; rfl
  have hn:n=1:=by omega
  subst hn
  match r,h1 with
  | [y],_ =>
   simp only [ol,il,List.map_cons,List.map_nil,List.cons.injEq,and_true] at hx
   subst hx
   rfl
 rw [List.take_zero,List.nil_append,Nat.zero_add,c6,h,e,qG]
theorem DA {n:Nat} {r:List Int} {i:Nat} (h:r.length=n):(r++List.replicate n 0).set (n + i) 1=r++(List.replicate n (0:Int)).set i 1:=by
 rw [List.set_append_right _ _ (by omega),h,Nat.add_sub_cancel_left]
theorem Am {n:Nat} {m:List (List Int)} (hm:∀ v∈m,v.length=n) {i:Nat} (hi:i < m.length):(ph n m i).length=n + n:=by
 have:=hm _ (aC (d:=[]) hi)
 simp only [ph,List.length_append,List.length_set,List.length_replicate,this]
theorem CB {p n:Nat} (hp:2≤p) {m:List (List Int)} (hm:∀ v∈m,v.length=n) (hg:∀ v∈m,eG p v) {i:Nat} (hi:i < m.length):eG p (ph n m i):=fun j=>by
 have hl:=hm _ (aC (d:=[]) hi)
 have h1:=hg _ (aC (d:=[]) hi)
 unfold ph
 by_cases hj:j < n
 ·rw [List.getD_eq_getElem?_getD,List.getElem?_append_left (by omega),← List.getD_eq_getElem?_getD]; exact h1 j
 rw [List.getD_eq_getElem?_getD,List.getElem?_append_right (by omega),List.getElem?_set]
 split
 ·split
  ·simp only [Option.getD_some]; omega
  simp only [Option.getD_none]; omega
 rw [List.getElem?_replicate]
 split
 ·simp only [Option.getD_some]; omega
 simp only [Option.getD_none]; omega
theorem dy (n:Nat) (m:List (List Int)) (i:Nat):(exts n m i).length=i:=by simp [exts]
theorem yS (n:Nat) (m:List (List Int)) (i:Nat):exts n m (i + 1)=exts n m i++[ph n m i]:=by simp [exts,List.range_succ]
theorem pF {n:Nat} {m:List (List Int)} (hm:∀ v∈m,v.length=n) {i:Nat} (hi:i≤m.length):∀ v∈exts n m i,v.length=n + n:=fun v hv=>by
 obtain ⟨t,ht,rfl⟩:=List.mem_map.1 hv
 exact Am hm (by have:=List.mem_range.1 ht; omega)
theorem rE {p n:Nat} (hp:2≤p) {m:List (List Int)} (hm:∀ v∈m,v.length=n) (hg:∀ v∈m,eG p v) {i:Nat} (hi:i≤m.length):∀ v∈exts n m i,eG p v:=fun v hv=>by
 obtain ⟨t,ht,rfl⟩:=List.mem_map.1 hv
 exact CB hp hm hg (by have:=List.mem_range.1 ht; omega)
theorem pI (n:Nat) (S:List (List Int) × List Int):∀ i,(gb n S i).length≤i
 | 0=>Nat.le_refl _
 | i + 1=>by
  have:=pI n S i
  rw [gb]; split
  ·simp; omega
  omega
set_option maxHeartbeats 4000000 in
set_option maxRecDepth 20000 in
theorem Ad {p n:Nat} (hp2:2≤p) (hp:p≤1000000) (hn:0 < n) (hn2:n≤100) (m:List (List Int)) (hm:m.length=n) (h1:∀ v∈m,v.length=n) (h2:∀ v∈m,eG p v) :
  bR Tryd.prog 79 [.int .i64 p,.list (ll m)] (.list (ll (ec p m))):=by
 have hmn:(m.length:Int)=(n:Int):=by omega
 have h2n:(2:Int) * (n:Int)=((n + n:Nat):Int):=by omega
 refine aI ae Tryd.func79 rfl (by kernel_rfl) (by rw [Tryd.ntmps79]; exact Nat.le_add_left 2 _) ?_; rw [Tryd.ntmps79]
 refine qm ?_
 refine ab fun K hK=>aa ae ?_
 simp only [aj,fl,gp,ai,simprocAttr]
 refine af trivial (hK _ ?_)<;>clear hK K
 refine qa (qm ?_)
 refine ab fun K hK=>aa ae ?_
 simp only [aj,fl,gp,ai,simprocAttr,aw,hmn]
 refine af trivial (hK _ ?_)<;>clear hK K
 refine qa (qm ?_)
 refine ab fun K hK=>aa ae ?_
 simp only [aj,fl,gp,ai,simprocAttr]
 refine af trivial (hK _ ?_)<;>clear hK K
 refine qa (qm (qm ?_))
 refine bN 6 rfl ?_
 refine ab fun K hK=>aa ae ?_
 simp only [aj,fl,gp,ai,simprocAttr,aw,hmn]
 refine af trivial (hK _ ?_)<;>clear hK K
 refine qa (ql ?_)
 refine aA (ι:=Nat) (fun k=>⟨67,[(0,.p (.int .i64 p)),(5,.p (.int .i64 n)),(6,.sl 0 0 k),(17,.p (.list (ll m))),(18,.p (.int .i64 n)),(19,.p (.int .i64 k))],.own (ca 1 (n + n) k) :: tl (exts n m k)⟩) (fun k=>k≤n) (fun k=>n - k) 0 (Nat.zero_le _) [0] (by simp only [leq,bf,aj,fl,gp,ai,simprocAttr]<;>simp [exts,ca,tl,ky]) fun k hk=>?_
 refine qm ?_
 refine ab fun K hK=>aa ae ?_
 simp only [aj,fl,gp,ai,simprocAttr]
 refine af trivial (hK _ ?_)<;>clear hK K
 refine qa (qm ?_)
 refine ao rfl (fun hC1=>?_) (fun hC1=>?_)
 ·(try simp only [aG] at hC1)
  have hkn:k < m.length:=by omega
  obtain ⟨r,hr⟩:∃ r,m.getD k []=r:=⟨_,rfl⟩
  have hrl:r.length=n:=by rw [← hr]; exact h1 _ (aC hkn)
  have hgX:∀ y,aq (tl (exts n m k)++[y]) k=y:=fun y=>by
   have:=bc (tl (exts n m k)) y
   rwa [aD,dy] at this
  have hsX:∀ y z,aE (tl (exts n m k)++[y]) k z=tl (exts n m k)++[z]:=fun y z=>by
   rw [df,List.set_append_right _ _ (by rw [aD,dy]; exact Nat.le_refl _),aD,dy,Nat.sub_self]; rfl
  have hex:(r++List.replicate n 0).set (n + k) 1=ph n m k:=by rw [DA hrl,ph,hr]
  refine qh (qa (qm (ql (qm ?_))))
  refine ab fun K hK=>aa ae ?_
  simp only [aj,fl,gp,ai,simprocAttr,aw,cQ hkn,hr]
  refine af ?_ (hK _ ?_)<;>clear hK K
  ·omega
  refine qa (qm ?_)
  refine ab fun K hK=>aa ae ?_
  simp only [aj,fl,gp,ai,simprocAttr,h2n,aD,dy,cC]
  refine af ?_ (hK _ ?_)<;>clear hK K
  ·simp only [ah]; omega
  refine qa (qm ?_)
  refine ab fun K hK=>aa ae ?_
  simp only [aj,fl,gp,ai,simprocAttr]
  refine an ?_ (eT (ze (k:=k + 1) (L:=n + n) (v:=r) (c:=ol (List.replicate (n + n) 0)) ae rfl rfl rfl rfl rfl rfl rfl (hgX _) (by rw [c6,List.length_replicate]; exact Nat.le_refl _) (by omega) (by omega)) rfl (by simp only [au,Nat.reduceLT]) (aa ae ?_))
  ·first|exact trivial|omega|(simp only [ah] at *; omega)|(simp [ah] at *; omega)|simp_all
  simp only [aj,fl,gp,ai,simprocAttr]
  refine af ?_ (hK _ ?_)<;>clear hK K
  ·first|exact trivial|omega|(simp only [ah] at *; omega)|(simp [ah] at *; omega)|simp_all
  refine qa (qm ?_)
  rw [hsX,AY hrl hn]
  have htn:((n:Int) + (k:Int)).toNat=n + k:=by omega
  refine ab fun K hK=>aa ae ?_
  simp only [aj,fl,gp,ai,simprocAttr,htn,hex,dH,uJ,hgX,hsX,c6,eB]
  refine af ?_ (hK _ ?_)<;>clear hK K
  ·simp only [ah,List.length_append,List.length_replicate,hrl]; omega
  refine qa ?_
  obtain ⟨X,hX⟩:∃ X,tl (exts n m k)++[.own (ol (ph n m k))]=X:=⟨_,rfl⟩
  have hXl:X.length=k + 1:=by rw [← hX]; simp [aD,dy]
  have hXg:∀ b,aq (X++[b]) (k + 1)=b:=fun b=>by rw [← hXl]; exact bc X b
  have hrw:List.take k (ca 1 (n + n) k)=ca 1 (n + n) k:=lJ rfl
  rw [hX]
  refine ab fun K hK=>aa ae ?_
  simp only [aj,fl,gp,ai,simprocAttr,hXl,dH,hXg,List.length_append,hrw,gi,bx]
  refine an ?_ (eT (cu ae rfl rfl rfl rfl rfl rfl) rfl (by simp only [au,Nat.reduceLT]) (aa ae ?_))
  ·first|exact trivial|omega|(simp only [ah] at *; omega)|(simp [ah] at *; omega)|simp_all
  simp only [aj,fl,gp,ai,simprocAttr,hXl,List.length_append,hXl,dH,hXg,List.length_append,hrw,gi,bx]
  refine af ?_ (hK _ ?_)<;>clear hK K
  ·exact ⟨vl _ _ _,by omega,by omega,by omega⟩
  refine qd (qa ?_)
  refine ab fun K hK=>aa ae ?_
  simp only [aj,fl,gp,ai,simprocAttr]
  refine af ?_ (hK _ ?_)<;>clear hK K
  ·first|exact trivial|omega|(simp only [ah] at *; omega)|(simp [ah] at *; omega)|simp_all
  refine qa ?_
  refine ⟨k + 1,(k + 3) :: List.range' 1 (k + 1),by omega,by omega,?_⟩
  refine Cj (W:=n + n) (q:=k + 1) (M:=exts n m (k + 1)) rfl rfl (dy _ _ _) (.inr (by omega)) ?_ (fun i hi=>?_) (by simp [kn,St.get,lk,Go.Pv.bl,bw,bg,bt])
  ·exact Ic hXl _ _
  rw [Nat.add_comm 1 i]
  show aq (X++_++_) i=_
  rw [ID (by omega),← hX,lU,← yS,aV (by rw [dy]; omega)]
 (try simp only [aG] at hC1)
 have hkn:k=n:=by omega
 rw [hkn]
 have hml:(exts n m n).length=n:=dy _ _ _
 have hMr:=pF (n:=n) h1 (i:=n) (by omega)
 have hMg:=rE (n:=n) hp2 h1 h2 (i:=n) (by omega)
 refine qj (qc (qc (qf (qa (qm ?_)))))
 refine lX 6 0 1 n hml hMr rfl (.inl (by omega)) rfl (fun i hi=>?_) fun H' a1 a2=>?_
 ·rw [Nat.add_comm 1 i,dH,aV (by omega)]
 refine ab fun K hK=>aa ae ?_
 simp only [aj,fl,gp,ai,simprocAttr]
 refine an trivial (ak (uw hp2 hp (show 0 < n + n by omega) (by omega) (exts n m n) (by omega) hMr hMg) rfl rfl rfl (by simp only [au,Nat.reduceLT]) (by repeat (first|exact trivial|constructor)) (aa ae ?_))
 simp only [aj,fl,gp,ai,simprocAttr]
 refine af trivial (hK _ ?_)<;>clear hK K
 refine qa (qm ?_)
 obtain ⟨S,hS⟩:∃ S,cE p (exts n m n) (exts n m n).length=S:=⟨_,rfl⟩
 have hri:=fM (W:=n + n) (p:=p) (by omega) hMr hMg (exts n m n).length (Nat.le_refl _)
 have hql:=gU p (exts n m n) (exts n m n).length
 have hker:ec p m=gb n S S.1.length:=by unfold ec; rw [hm,← hS,hml]
 rw [hker]
 rw [hS] at hri hql ⊢
 rw [hml] at hql
 clear hker hS
 obtain ⟨out,at'⟩:=S
 obtain ⟨l1,l2,l3,l4⟩:=hri
 simp only at l1 l2 l3 l4 hql ⊢
 have hHl:H'.length=n + 1:=by rw [a1]; simp [aD,dy]
 refine ab fun K hK=>aa ae ?_
 simp only [aj,fl,gp,ai,simprocAttr]
 refine af trivial (hK _ ?_)<;>clear hK K
 refine qa (qm (qm ?_))
 refine bN 12 rfl ?_
 refine ab fun K hK=>aa ae ?_
 simp only [aj,fl,gp,ai,simprocAttr,aw,hHl]
 refine af trivial (hK _ ?_)<;>clear hK K
 refine qa (ql ?_)
 refine aA (ι:=Nat) (fun i=>⟨67,[(5,.p (.int .i64 n)),(11,.p (.list (il at'))),(12,.sl 0 0 (gb n (out,at') i).length),(46,.p (.list (ll out))),(47,.p (.int .i64 out.length)),(48,.p (.int .i64 i))],[.own (bF (ll (gb n (out,at') i)))]⟩) (fun i=>i≤out.length) (fun i=>out.length - i) 0 (Nat.zero_le _) [n + 1] (nj rfl (by simp) rfl (fun j hj=>by
  have:j=0:=by simpa using hj
  subst this
  exact sO (l:=[]) (by show aq (H'++[.own []]) (n + 1)=_; rw [← hHl]; exact bc H' _)) (by simp [kn,St.get,lk,Go.Pv.bl,bw,bg,bt,gb])) fun i hi=>?_
 have hkl:=pI n (out,at') i
 refine qm ?_
 refine ab fun K hK=>aa ae ?_
 simp only [aj,fl,gp,ai,simprocAttr]
 refine af trivial (hK _ ?_)<;>clear hK K
 refine qa (qm ?_)
 refine ao rfl (fun hC2=>?_) (fun hC2=>?_)
 ·(try simp only [aG] at hC2)
  have hil:i < out.length:=by omega
  refine qh (qa (qm (ql (qm ?_))))
  refine ab fun K hK=>aa ae ?_
  simp only [aj,fl,gp,ai,simprocAttr,aw,cQ hil]
  refine af ?_ (hK _ ?_)<;>clear hK K
  ·first|exact trivial|omega|(simp only [ah] at *; omega)|(simp [ah] at *; omega)|simp_all
  refine qa (qm ?_)
  refine ab fun K hK=>aa ae ?_
  simp only [aj,fl,gp,ai,simprocAttr,aL (show i < at'.length by omega)]
  refine af ?_ (hK _ ?_)<;>clear hK K
  ·first|exact trivial|omega|(simp only [ah] at *; omega)|(simp [ah] at *; omega)|simp_all
  refine qa ?_
  refine ao rfl (fun hC3=>?_) (fun hC3=>?_)
  ·(try simp only [aG] at hC3)
   have hge:(n:Int)≤at'.getD i 0:=by omega
   have hker:gb n (out,at') (i + 1)=gb n (out,at') i++[(out.getD i []).drop n]:=by rw [gb,if_pos hge]
   have hol:(out.getD i []).length=n + n:=l2 _ (aC hil)
   refine ab fun K hK=>aa ae ?_
   simp only [aj,fl,gp,ai,simprocAttr]
   refine af ?_ (hK _ ?_)<;>clear hK K
   ·exact ⟨by omega,vO (by rw [aY]; exact iz _),by omega,by omega,by omega⟩
   refine qd (qa ?_)
   rw [aY,bL,← hker,show (gb n (out,at') i).length + 1=(gb n (out,at') (i + 1)).length by rw [hker]; simp]
   refine ab fun K hK=>aa ae ?_
   simp only [aj,fl,gp,ai,simprocAttr]
   refine af ?_ (hK _ ?_)<;>clear hK K
   ·first|exact trivial|omega|(simp only [ah] at *; omega)|(simp [ah] at *; omega)|simp_all
   refine qa ?_
   refine ⟨i + 1,[1],by omega,by omega,?_⟩
   simp only [leq,bf,aj,fl,gp,ai,simprocAttr]<;>first|trivial|(rw [aY]; done)|skip
  (try simp only [aG] at hC3)
  have hge:¬ (n:Int)≤at'.getD i 0:=by omega
  have hker:gb n (out,at') (i + 1)=gb n (out,at') i:=by rw [gb,if_neg hge]
  refine qh (qd (qa ?_))
  refine ab fun K hK=>aa ae ?_
  simp only [aj,fl,gp,ai,simprocAttr]
  refine af ?_ (hK _ ?_)<;>clear hK K
  ·first|exact trivial|omega|(simp only [ah] at *; omega)|(simp [ah] at *; omega)|simp_all
  refine qa ?_
  refine ⟨i + 1,[0],by omega,by omega,?_⟩
  rw [hker]
  simp only [leq,bf,aj,fl,gp,ai,simprocAttr]<;>first|trivial|(rw [aY]; done)|skip
 (try simp only [aG] at hC2)
 have hio:i=out.length:=by omega
 rw [hio]
 refine qj (qc (qc (qf (qa (qm ?_)))))
 refine ab fun K hK=>aa ae ?_
 simp only [aj,fl,gp,ai,simprocAttr]
 refine af trivial (hK _ ?_)<;>clear hK K
 refine qa (qk ?_)
 simp only [Tryd.results79,bG,aj,fl,gp,ai,simprocAttr]
 all_goals (exact ⟨⟨Nat.le_refl _,by rw [aY]; exact iz _⟩,aY _⟩)
def c5:List (List (List Int))→Nat
 | []=>0
 | s :: r=>1 + s.length + c5 r
def gP (b:Nat):List (List (List Int))→List AV
 | []=>[]
 | s :: r=>.sl b 0 s.length :: gP (b + 1 + s.length) r
def ir (W b:Nat):List (List (List Int))→ay
 | []=>[]
 | s :: r=>.own (ca (b + 1) W s.length) :: (tl s++ir W (b + 1 + s.length) r)
theorem r9 (b:Nat):∀ Sp,(gP b Sp).length=Sp.length:=fun Sp=>by
 induction Sp generalizing b with
 | nil=>rfl
 | cons s r ih=>simp [gP,ih]
theorem cF (W b:Nat):∀ Sp,(ir W b Sp).length=c5 Sp:=fun Sp=>by
 induction Sp generalizing b with
 | nil=>rfl
 | cons s r ih=>simp [ir,c5,ih,aD]; omega
theorem BX (Sp:List (List (List Int))) (s:List (List Int)):c5 (Sp++[s])=c5 Sp + (1 + s.length):=by
 induction Sp with
 | nil=>simp [c5]
 | cons t r ih=>simp [c5,ih]; omega
theorem zL (b:Nat) (Sp:List (List (List Int))) (s:List (List Int)):gP b (Sp++[s])=gP b Sp++[.sl (b + c5 Sp) 0 s.length]:=by
 induction Sp generalizing b with
 | nil=>simp [gP,c5]
 | cons t r ih=>simp [gP,c5,ih]; omega
theorem zP (W b:Nat) (Sp:List (List (List Int))) (s:List (List Int)):ir W b (Sp++[s])=ir W b Sp++(.own (ca (b + c5 Sp + 1) W s.length) :: tl s):=by
 induction Sp generalizing b with
 | nil=>simp [ir,c5]
 | cons t r ih =>
  simp only [List.cons_append,ir,ih,c5,List.append_assoc]
  rw [show b + 1 + t.length + c5 r + 1=b + (1 + t.length + c5 r) + 1 by omega]
theorem oy (W b:Nat) (Sp:List (List (List Int))):∀ j,j < c5 Sp→(∃ v,aq (ir W b Sp) j = .own (ol v))∨∃ d q,aq (ir W b Sp) j = .own (ca d W q)∧b≤d∧d + q≤b + c5 Sp:=by
 induction Sp generalizing b with
 | nil=>intro j hj; simp [c5] at hj
 | cons s r ih =>
  intro j hj
  simp only [c5] at hj
  match j,hj with
  | 0,_=>exact .inr ⟨b + 1,s.length,rfl,by omega,by simp only [c5]; omega⟩
  | j + 1,hj =>
   simp only [ir,dH]
   by_cases h:j < s.length
   ·exact .inl ⟨_,AZ h⟩
   rw [a8 (by rw [aD]; omega),aD]
   rcases ih (b + 1 + s.length) (j - s.length) (by omega) with h | ⟨d,q,h1,h2,h3⟩
   ·exact .inl h
   exact .inr ⟨d,q,h1,by omega,by simp only [c5]; omega⟩
theorem sr (b:Nat) (Sp:List (List (List Int))):∀ x∈gP b Sp,∃ c l,x = .sl c 0 l∧b≤c∧c < b + c5 Sp:=by
 induction Sp generalizing b with
 | nil=>intro x hx; simp [gP] at hx
 | cons s r ih =>
  intro x hx
  rcases List.mem_cons.1 hx with rfl | hx
  ·exact ⟨b,s.length,rfl,Nat.le_refl _,by simp only [c5]; omega⟩
  obtain ⟨c,l,e,h1,h2⟩:=ih _ x hx
  exact ⟨c,l,e,by omega,by simp only [c5]; omega⟩
theorem G7 (b:Nat) (Sp:List (List (List Int))):(gP b Sp).all br=true:=by
 rw [List.all_eq_true]
 intro x hx
 obtain ⟨c,l,rfl,_⟩:=sr b Sp x hx
 rfl
theorem Ay {π:List Nat} {H:ay} {k b:Nat} {Sp:List (List (List Int))} (h:aq H k = .own (gP b Sp)) (hp:∀ c,b≤c→c < b + c5 Sp→c < π.length∧π.getD c 0=c):kg π H k (.own (gP b Sp)):=by
 simp only [kg,h]
 refine ⟨?_,?_⟩
 ·rw [List.take_of_length_le (Nat.le_refl _)]
  have:=List.map_congr_left (f:=Go.Pv.bl π) (g:=id) (l:=gP b Sp) fun x hx=>by
   obtain ⟨c,l,rfl,h1,h2⟩:=sr b Sp x hx
   simp only [Go.Pv.bl,bw,(hp c h1 h2).2,id]
  rw [this,List.map_id]
 rw [List.all_eq_true]
 intro x hx
 obtain ⟨c,l,rfl,h1,h2⟩:=sr b Sp x hx
 have:=(hp c h1 h2).1
 simp [bg,bt]; omega
theorem zY {π:List Nat} {H:ay} {W b k j:Nat} {Sp:List (List (List Int))} (hj:j < c5 Sp) (h:aq H k=aq (ir W b Sp) j) (hp:∀ c,b≤c→c < b + c5 Sp→c < π.length∧π.getD c 0=c):kg π H k (aq (ir W b Sp) j):=by
 rcases oy W b Sp j hj with ⟨v,hv⟩ | ⟨d,q,hv,h1,h2⟩
 ·rw [hv] at h ⊢; exact iF h
 rw [hv] at h ⊢; exact jU h fun i hi=>hp _ (by omega) (by omega)
theorem jR {κ a n c:Nat} {r:List Nat} (h1:1≤c) (h2:c < 1 + n):c < (κ :: (List.range' 1 n++r)).length∧(κ :: (List.range' 1 n++r)).getD c 0=c:=by
 obtain ⟨c,rfl⟩:∃ d,c=d + 1:=⟨c - 1,by omega⟩
 refine ⟨by simp; omega,?_⟩
 rw [List.getD_cons_succ,List.getD_eq_getElem?_getD,List.getElem?_append_left (by simp; omega),List.getElem?_range' (by omega)]
 simp; omega
theorem od {κ n:Nat} {r:List Nat} {j:Nat} : (κ :: (List.range' 1 n++r)).getD (1 + n + j) 0=r.getD j 0:=by
 rw [show 1 + n + j=n + j + 1 by omega,List.getD_cons_succ,List.getD_eq_getElem?_getD,List.getElem?_append_right (by simp),List.length_range',Nat.add_sub_cancel_left,List.getD_eq_getElem?_getD]
theorem oP {S s:St} {κ0 W:Nat} {Sp:List (List (List Int))} (hn:S.n=s.n) (hS:S.H = .own (gP 1 Sp) :: ir W 1 Sp) (hd:κ0 < 1∨1 + c5 Sp≤κ0) (g0:aq s.H κ0 = .own (gP 1 Sp)) (g1:∀ j,j < c5 Sp→aq s.H (1 + j)=aq (ir W 1 Sp) j)
  (hsl:kn (κ0 :: (List.range' 1 (c5 Sp)++[])) S.sl s):Le (κ0 :: (List.range' 1 (c5 Sp)++[])) S s:=by
 refine nj hn ?_ ?_ (fun j hj=>?_) hsl
 ·rw [List.append_nil]
  refine List.nodup_cons.2 ⟨?_,List.nodup_range'⟩
  simp only [List.mem_range'_1]; omega
 ·rw [hS]; simp [cF]
 rw [hS] at hj ⊢
 match j,hj with
 | 0,_=>exact Ay g0 fun c h1 h2=>jR (a:=0) h1 h2
 | j + 1,hj =>
  have hjq:j < c5 Sp:=by simpa [cF] using hj
  have:=(jR (κ:=κ0) (a:=0) (n:=c5 Sp) (c:=j + 1) (r:=[]) (by omega) (by omega)).2
  rw [this,dH]
  exact zY hjq (by rw [Nat.add_comm j 1]; exact g1 j hjq) fun c h1 h2=>jR (a:=0) h1 h2
theorem xB {S s:St} {κ0 κ1 d k W z:Nat} {Sp:List (List (List Int))} {M:List (List Int)} (hz:c5 Sp=z) (hM:M.length=k) (hn:S.n=s.n) (hS:S.H = .own (gP 1 Sp) :: (ir W 1 Sp++(.own (ca (z + 2) W k) :: tl M)))
  (hd:(κ0 < 1∨1 + z≤κ0)∧1 + z≤κ1∧1 + z≤d∧κ0 ≠ κ1∧(κ0 < d∨d + k≤κ0)∧(κ1 < d∨d + k≤κ1)) (g0:aq s.H κ0 = .own (gP 1 Sp)) (g1:∀ j,j < z→aq s.H (1 + j)=aq (ir W 1 Sp) j) (g2:aq s.H κ1 = .own (ca d W k)) (g3:∀ i,i < k→aq s.H (d + i) = .own (ol (M.getD i [])))
  (hsl:kn (κ0 :: (List.range' 1 z++(κ1 :: List.range' d k))) S.sl s):Le (κ0 :: (List.range' 1 z++(κ1 :: List.range' d k))) S s:=by
 subst hz
 refine nj hn ?_ ?_ (fun j hj=>?_) hsl
 ·refine List.nodup_cons.2 ⟨?_,List.nodup_append.2 ⟨List.nodup_range',List.nodup_cons.2 ⟨?_,List.nodup_range'⟩,fun a ha b hb=>?_⟩⟩
  ·simp only [List.mem_append,List.mem_cons,List.mem_range'_1]; omega
  ·simp only [List.mem_range'_1]; omega
  simp only [List.mem_cons,List.mem_range'_1] at ha hb; omega
 ·rw [hS]; simp [cF,aD,hM]
 rw [hS] at hj ⊢
 match j,hj with
 | 0,_=>exact Ay g0 fun c h1 h2=>jR (a:=0) h1 h2
 | j + 1,hj =>
  rw [dH]
  by_cases hjq:j < c5 Sp
  ·have:=(jR (κ:=κ0) (a:=0) (n:=c5 Sp) (c:=j + 1) (r:=κ1 :: List.range' d k) (by omega) (by omega)).2
   rw [this,aF (by rw [cF]; exact hjq)]
   exact zY hjq (by rw [Nat.add_comm j 1]; exact g1 j hjq) fun c h1 h2=>jR (a:=0) h1 h2
  have hjl:j < c5 Sp + (1 + k):=by
   simp only [List.length_cons,List.length_append,cF,aD,hM] at hj; omega
  obtain ⟨i,rfl⟩:∃ i,j=c5 Sp + i:=⟨j - c5 Sp,by omega⟩
  rw [show c5 Sp + i + 1=1 + c5 Sp + i by omega,od,a8 (by rw [cF]; omega),cF,Nat.add_sub_cancel_left]
  match i with
  | 0 =>
   refine jU g2 fun t ht=>⟨by simp; omega,?_⟩
   rw [show c5 Sp + 2 + t=1 + c5 Sp + (t + 1) by omega,od,List.getD_cons_succ,eL ht]
  | i + 1 =>
   have hik:i < k:=by omega
   rw [dH,aV (by omega),List.getD_cons_succ,eL hik]
   exact iF (g3 i hik)
def vI (p:Nat) (m:List (List Int)) (w:List Int) (j k:Nat):List Int:=(List.range m.length).map fun t=>if t < j then H3 p m w t else if t=j then iR p (m.getD t []) w k else 0
theorem FP (p:Nat) (m:List (List Int)) (w:List Int) (j k:Nat):(vI p m w j k).length=m.length:=by simp [vI]
theorem Gb {p:Nat} {m:List (List Int)} {w:List Int} {j k:Nat} (h:j < m.length):(vI p m w j k).getD j 0=iR p (m.getD j []) w k:=by
 simp [vI,List.getD,List.getElem?_map,List.getElem?_range h]
theorem FC {p:Nat} {m:List (List Int)} {w:List Int} {j k:Nat} : (vI p m w j k).set j (iR p (m.getD j []) w (k + 1))=vI p m w j (k + 1):=by
 refine List.ext_getElem (by simp [vI]) fun t h1 h2=>?_
 rw [List.getElem_set]
 by_cases e:j=t
 ·subst e; simp [vI]
 rw [if_neg e]
 simp only [vI,List.getElem_map,List.getElem_range]
 by_cases e2:t < j
 ·rw [if_pos e2,if_pos e2]
 rw [if_neg e2,if_neg e2,if_neg (fun h=>e h.symm),if_neg (fun h=>e h.symm)]
theorem Du {p:Nat} {m:List (List Int)} {w:List Int} {j:Nat} : vI p m w j w.length=vI p m w (j + 1) 0:=by
 refine List.ext_getElem (by simp [vI]) fun t h1 h2=>?_
 simp only [vI,List.getElem_map,List.getElem_range]
 by_cases e2:t < j
 ·rw [if_pos e2,if_pos (by omega)]
 rw [if_neg e2]
 by_cases e3:t=j
 ·rw [if_pos e3,if_pos (by omega),H3]
 rw [if_neg e3,if_neg (by omega),iR]; split<;>rfl
theorem C6 {p:Nat} {m:List (List Int)} {w:List Int} : vI p m w 0 0=List.replicate m.length 0:=by
 refine List.ext_getElem (by simp [vI]) fun t h1 h2=>?_
 simp [vI,iR]
theorem G6 {p:Nat} {m:List (List Int)} {w:List Int} {k:Nat} : vI p m w m.length k=r7 p m w:=by
 refine List.ext_getElem (by simp [vI,r7]) fun t h1 h2=>?_
 have:t < m.length:=by simpa [r7] using h2
 simp [vI,r7,this]
theorem xC {p:Nat} (hp:0 < p) (b w:List Int):∀ k,0≤iR p b w k∧iR p b w k < p
 | 0=>by simp only [iR]; omega
 | k + 1=>bI hp _
theorem rB (p:Nat) (m:List (List Int)) (w:List Int):(r7 p m w).length=m.length:=by simp [r7]
theorem AA {p:Nat} (hp:0 < p) (m:List (List Int)) (w:List Int):eG p (r7 p m w):=fun j=>by
 by_cases h:j < m.length
 ·have:(r7 p m w).getD j 0=iR p (m.getD j []) w w.length:=by simp [r7,H3,List.getD,List.getElem?_map,List.getElem?_range h]
  rw [this]; exact xC hp _ _ _
 simp [List.getD,List.getElem?_eq_none (show (r7 p m w).length≤j by rw [rB]; omega)]; omega
def rl (v at' : List Int) (q:Nat):List Int:=cU (fun t=>v.getD (at'.getD t 0).toNat 0) 0 q (List.replicate at'.length 0)
theorem AW {p:Nat} {m:List (List Int)} {at' w:List Int} : rl (r7 p m w) at' at'.length=je p m at' w:=by
 refine List.ext_getElem (by simp [rl,je,cU]) fun t h1 h2=>?_
 have ht:t < at'.length:=by simpa [je] using h2
 simp [rl,je,cU,ht]
theorem jm (p:Nat) (m:List (List Int)) (at' w:List Int):(je p m at' w).length=at'.length:=by simp [je]
theorem rW {p:Nat} (hp:0 < p) (m:List (List Int)) (at' w:List Int):eG p (je p m at' w):=fun j=>by
 by_cases h:j < at'.length
 ·have:(je p m at' w).getD j 0=(r7 p m w).getD (at'.getD j 0).toNat 0:=by simp [je,List.getD,List.getElem?_map,List.getElem?_eq_getElem h]
  rw [this]; exact AA hp m w _
 simp [List.getD,List.getElem?_eq_none (show (je p m at' w).length≤j by rw [jm]; omega)]; omega
theorem lK (p:Nat) (m s:List (List Int)) (at' : List Int) (i:Nat):(fy p m s at' i).length=i:=by simp [fy]
theorem za (p:Nat) (m s:List (List Int)) (at' : List Int) (i:Nat):fy p m s at' (i + 1)=fy p m s at' i++[je p m at' (s.getD i [])]:=by simp [fy,List.range_succ]
theorem po {p:Nat} {m s:List (List Int)} {at' : List Int} {i j:Nat} (h:j < i):(fy p m s at' i).getD j []=je p m at' (s.getD j []):=by
 simp [fy,List.getD,List.getElem?_map,List.getElem?_range h]
theorem sY (p v:Nat) (a:List (List Int)) (i:Nat):(kh p v a i).length=i:=by simp [kh]
theorem B8 (p v:Nat) (a:List (List Int)) (i:Nat):kh p v a (i + 1)=kh p v a i++[zg p v a i]:=by simp [kh,List.range_succ]
theorem sb (p v:Nat) (a:List (List Int)) (i:Nat):(zg p v a i).length=(a.getD i []).length:=by simp [zg]
theorem vQ {p:Nat} (hp:0 < p) {v:Nat} {a:List (List Int)} {i:Nat} (h:eG p (a.getD i [])):eG p (zg p v a i):=fun j=>by
 unfold zg
 rw [List.getD_eq_getElem?_getD,List.getElem?_set]
 split
 ·split
  ·exact bI hp _
  simp only [Option.getD_none]; omega
 rw [← List.getD_eq_getElem?_getD]; exact h j
theorem Ej (p:Nat) (x:Int) (w b:List Int):(Hu p x w b).length=w.length:=bJ _ _ _ _
theorem FU {p:Nat} (hp:0 < p) {x:Int} {w b:List Int} (h:eG p w):eG p (Hu p x w b):=ot (fun _=>bI hp _) h
theorem oq (p W:Nat) (s:List (List Int)) (v:List Int):∀ i,(qR p W s v i).length=W
 | 0=>by simp [qR]
 | i + 1=>by rw [qR,Ej]; exact oq p W s v i
theorem vn {p:Nat} (hp:0 < p) (W:Nat) (s:List (List Int)) (v:List Int):∀ i,eG p (qR p W s v i)
 | 0=>fun j=>by
  rw [qR,List.getD_eq_getElem?_getD,List.getElem?_replicate]
  split
  ·simp only [Option.getD_some]; omega
  simp only [Option.getD_none]; omega
 | i + 1=>FU hp (vn hp W s v i)
theorem pR {n:Nat} {S:List (List Int) × List Int} : ∀ i,i≤S.1.length→∀ v∈gb n S i,∃ r∈S.1,v=r.drop n
 | 0,_,v,hv=>by simp [gb] at hv
 | i + 1,hi,v,hv=>by
  rw [gb] at hv
  split at hv
  ·rcases List.mem_append.1 hv with hv | hv
   ·exact pR i (by omega) v hv
   exact ⟨_,aC (by omega),List.mem_singleton.1 hv⟩
  exact pR i (by omega) v hv
theorem oJ {p n:Nat} (hp:2≤p) {m:List (List Int)} (hm:m.length=n) (h1:∀ v∈m,v.length=n) (h2:∀ v∈m,eG p v):(∀ v∈ec p m,v.length=n∧eG p v)∧(ec p m).length≤n:=by
 have hMr:=pF (n:=n) h1 (i:=n) (by omega)
 have hMg:=rE (n:=n) hp h1 h2 (i:=n) (by omega)
 have hml:(exts n m n).length=n:=dy _ _ _
 have hri:=fM (W:=n + n) (p:=p) (by omega) hMr hMg n (by omega)
 have hql:=gU p (exts n m n) n
 unfold ec
 rw [hm]
 refine ⟨fun v hv=>?_,Nat.le_trans (pI _ _ _) hql⟩
 obtain ⟨r,r1,rfl⟩:=pR _ (Nat.le_refl _) v hv
 refine ⟨by rw [List.length_drop,hri.l2 r r1]; omega,fun j=>?_⟩
 have:=hri.l3 r r1 (n + j)
 simpa [List.getD,List.getElem?_drop] using this
end Go.Proofs.YtjlmpmidchddjaaDoor
namespace Go.Proofs.YtjlmpmidchddjaaDoor
open Lean.Grind
attribute [local instance] Lean.Grind.Semiring.natCast Lean.Grind.Ring.intCast
section
variable {K:Type} [CommRing K]
structure Rd (K:Type) [CommRing K] (p:Nat):Prop where
 two:2≤p
 fld:nt K
 ker:∀ x:Int,(x:K)=0↔x % (p:Int)=0
 fer:∀ x:Int,¬ x % (p:Int)=0→((x ^ (p - 2):Int):K) * (x:K)=1
theorem Rd.mod {p:Nat} (R:Rd K p) (x:Int):((x % (p:Int):Int):K)=(x:K):=by
 have h:(((x - x % (p:Int)):Int):K)=0:=(R.ker _).2 (by rw [Int.sub_emod,qP,Int.sub_self]; rfl)
 rw [Ring.intCast_sub] at h
 grind
theorem Rd.zero {p:Nat} (R:Rd K p) {x:Int} (h:0≤x∧x < p):(x:K)=0↔x=0:=by
 rw [R.ker,Int.emod_eq_of_lt h.1 h.2]
theorem Rd.inv {p:Nat} (R:Rd K p) {x:Int} (h:0≤x∧x < p) (h0:¬ x=0):(x:K) * (dQ p x:K)=1:=by
 have:=R.fer x (by rw [Int.emod_eq_of_lt h.1 h.2]; exact h0)
 unfold dQ
 rw [R.mod]; grind
def vc (r:List Int) (j:Nat):K:=((r.getD j 0:Int):K)
theorem gL {r:List Int} {j:Nat} (h:r.length≤j):(vc r j:K)=0:=by
 unfold vc
 rw [List.getD_eq_getElem?_getD,List.getElem?_eq_none h]
 exact Ring.intCast_zero
theorem vf {p:Nat} {f:Nat→Int} {r:List Int} {g:Nat→K} (hf:∀ j,j < r.length→((f j:Int):K)=g j) (hg:∀ j,r.length≤j→g j=0):(vc (cU f 0 r.length r):Nat→K)=g:=by
 funext j
 by_cases h:j < r.length
 ·unfold vc
  rw [dz h,if_pos ⟨Nat.zero_le _,h⟩,hf j h]
 rw [gL (by rw [bJ]; omega),hg j (by omega)]
theorem EY {p:Nat} (R:Rd K p) {k:Int} {r b:List Int} (h:r.length=b.length):(vc (Cn p k r b):Nat→K)=fun j=>vc r j - (k:K) * vc b j:=by
 unfold Cn
 refine vf (p:=p) (fun j hj=>?_) fun j hj=>?_
 ·unfold zh
  rw [R.mod,Ring.intCast_sub,Ring.intCast_mul]; rfl
 rw [gL hj,gL (by omega)]; grind
theorem EX {p:Nat} (R:Rd K p) {k:Int} {r:List Int} : (vc (AL p k r):Nat→K)=fun j=>vc r j * (k:K):=by
 unfold AL
 refine vf (p:=p) (fun j hj=>?_) fun j hj=>?_
 ·unfold zy
  rw [R.mod,Ring.intCast_mul]; rfl
 rw [gL hj]; grind
theorem Is {p:Nat} (R:Rd K p) {x:Int} {w b:List Int} (h:b.length≤w.length):(vc (Hu p x w b):Nat→K)=fun j=>vc w j + (x:K) * vc b j:=by
 unfold Hu
 refine vf (p:=p) (fun j hj=>?_) fun j hj=>?_
 ·unfold F6
  rw [R.mod,Ring.intCast_add,Ring.intCast_mul]; rfl
 rw [gL hj,gL (by omega)]; grind
theorem IF {p:Nat} (R:Rd K p) {r:List Int} (h:eG p r) (j:Nat):(vc r j:K)=0↔r.getD j 0=0:=R.zero (h j)
structure iE (S:(Nat→K)→Prop):Prop where
 zero:S fun _=>0
 add:∀ u v,S u→S v→S fun j=>u j + v j
 smul:∀ k u,S u→S fun j=>k * u j
theorem iE.sum {S:(Nat→K)→Prop} (h:iE S) {y:Nat→Nat→K} {c:Nat→K} : ∀ {n:Nat},(∀ i,i < n→S (y i))→S fun j=>sm (fun i=>c i * y i j) n
 | 0,_=>h.zero
 | n + 1,hy=>h.add _ _ (h.sum fun i hi=>hy i (by omega)) (h.smul _ _ (hy n (by omega)))
theorem iE.sub {S:(Nat→K)→Prop} (h:iE S) {u v:Nat→K} (hu:S u) (hv:S v):S fun j=>u j - v j:=by
 have:=h.add _ _ hu (h.smul (-1) _ hv)
 have e:(fun j=>u j - v j)=fun j=>u j + -1 * v j:=by funext j; grind
 rw [e]; exact this
def bV (L:List (List Int)) (i:Nat):Nat→K:=vc (L.getD i [])
def bC (L:List (List Int)) (u:Nat→K):Prop:=∃ C:Nat→K,∀ j,u j=sm (fun i=>C i * bV L i j) L.length
theorem bC.mO (L : List (List Int)) : iE (bC (K := K) L) :=
  ⟨⟨fun _ => 0, fun j => (aW fun i _ => by grind).symm⟩,
   fun u v ⟨C, hC⟩ ⟨D, hD⟩ => ⟨fun i => C i + D i, fun j => by show u j + v j = _; rw [hC, hD, ← kB]; exact al fun i _ => by grind⟩,
   fun k u ⟨C, hC⟩ => ⟨fun i => k * C i, fun j => by show k * u j = _; rw [hC, ← aN]; exact al fun i _ => by grind⟩⟩
theorem bC.least {L:List (List Int)} {S:(Nat→K)→Prop} (h:iE S) (hL:∀ r∈L,S (vc r)) {u:Nat→K} (hu:bC L u):S u:=by
 obtain ⟨C,hC⟩:=hu
 have:u=fun j=>sm (fun i=>C i * bV L i j) L.length:=funext hC
 rw [this]
 exact h.sum fun i hi=>hL _ (aC hi)
theorem bC.get {L:List (List Int)} {i:Nat} (hi:i < L.length):bC L (bV (K:=K) L i):=
 ⟨fun t=>if t=i then 1 else 0,fun j=>by
  rw [bj (i:=i) hi fun t ht hne=>by show (if t=i then (1:K) else 0) * _=0; rw [if_neg hne]; grind]
  show _=(if i=i then (1:K) else 0) * _
  rw [if_pos rfl]; grind⟩
theorem bC.mem {L:List (List Int)} {r:List Int} (h:r∈L):bC L (vc (K:=K) r):=by
 obtain ⟨i,hi,e⟩:=List.getElem_of_mem h
 have:bV (K:=K) L i=vc r:=by unfold bV; rw [← e]; simp [List.getD,List.getElem?_eq_getElem hi]
 rw [← this]; exact bC.get hi
theorem bC.mono {L L' : List (List Int)} (h:∀ r∈L,bC L' (vc (K:=K) r)) {u:Nat→K} (hu:bC L u):bC L' u:=bC.least (bC.mO L') h hu
structure RE (S:List (List Int) × List Int):Prop where
 at' : ∀ i k,i < S.1.length→k < S.1.length→(bV (K:=K) S.1 i (S.2.getD k 0).toNat)=if i=k then 1 else 0
 bef:∀ i j,i < S.1.length→j < (S.2.getD i 0).toNat→bV (K:=K) S.1 i j=0
theorem td {p W:Nat} (R:Rd K p) {S:List (List Int) × List Int} (hri:RI p W S) (he:RE (K:=K) S) {r:List Int} (hr:r.length=W) (hg:eG p r):∀ i,i≤S.1.length→(∀ k,k < i→(vc (nH p S.1 S.2 r i) (S.2.getD k 0).toNat:K)=0)∧bC S.1 fun j=>(vc (nH p S.1 S.2 r i) j:K) - vc r j
 | 0,_=>⟨fun k hk=>absurd hk (Nat.not_lt_zero _),by
   have:=(bC.mO (K:=K) S.1).zero
   have e:(fun j=>(vc (nH p S.1 S.2 r 0) j:K) - vc r j)=fun _=>0:=by funext j; simp only [nH]; grind
   rw [e]; exact this⟩
 | i + 1,hi=>by
  obtain ⟨h1,h2⟩:=td R hri he hr hg i (by omega)
  have hgx:=mR (by have:=R.two; omega) hg (p:=p) (out:=S.1) (at':=S.2) i
  have hxl:=ik p S.1 S.2 r i
  rw [nH]
  generalize nH p S.1 S.2 r i=x at *
  split
  ·rename_i h0
   refine ⟨fun k hk=>?_,h2⟩
   by_cases e:k=i
   ·rw [e]; unfold vc; rw [h0]; exact Ring.intCast_zero
   exact h1 k (by omega)
  have hb:(S.1.getD i []).length=x.length:=by rw [hri.l2 _ (aC (by omega)),hxl,hr]
  have e:=EY R (k:=x.getD (S.2.getD i 0).toNat 0) hb.symm
  rw [e]
  refine ⟨fun k hk=>?_,?_⟩
  ·have h3:=he.at' i k (by omega) (by omega)
   unfold bV at h3
   simp only
   rw [h3]
   by_cases e2:i=k
   ·subst e2
    rw [if_pos rfl]
    show vc x _ - vc x _ * 1=0
    grind
   rw [if_neg e2,h1 k (by omega)]; grind
  have h3:=(bC.mO S.1).smul ((x.getD (S.2.getD i 0).toNat 0:Int):K) _ (bC.get (K:=K) (show i < S.1.length by omega))
  have h4:=(bC.mO S.1).sub h2 h3
  have e2:(fun j=>(vc x j:K) - ((x.getD (S.2.getD i 0).toNat 0:Int):K) * vc (S.1.getD i []) j - vc r j)=fun j=>vc x j - vc r j - ((x.getD (S.2.getD i 0).toNat 0:Int):K) * bV S.1 i j:=by funext j; unfold bV; grind
  rw [e2]; exact h4
theorem HI {p:Nat} (R:Rd K p) {j:Nat} {r b:List Int} (h:b.length=r.length):(vc (vY p j r b):Nat→K)=fun t=>vc b t - vc b j * vc r t:=by
 unfold vY
 split
 ·rename_i h0
  have:(vc b j:K)=0:=by unfold vc; rw [h0]; exact Ring.intCast_zero
  funext t; rw [this]; grind
 rw [EY R h]; rfl
theorem yY {p W:Nat} (R:Rd K p) {S:List (List Int) × List Int} (hri:RI p W S) (he:RE (K:=K) S) {L:List (List Int)} (hs:∀ u:Nat→K,bC S.1 u↔bC L u) {r:List Int} (hr:r.length=W) (hg:eG p r) :
  RE (K:=K) (pM p S r)∧∀ u:Nat→K,bC (pM p S r).1 u↔bC (L++[r]) u:=by
 have hp0:0 < p:=by have:=R.two; omega
 obtain ⟨c1,c2⟩:=td (K:=K) R hri he hr hg S.1.length (Nat.le_refl _)
 have hgx:=mR hp0 hg (p:=p) (out:=S.1) (at':=S.2) S.1.length
 have hxl:=ik p S.1 S.2 r S.1.length
 have hLr:∀ u:Nat→K,bC L u→bC (L++[r]) u:=fun u hu=>bC.mono (fun q hq=>bC.mem (by simp [hq])) hu
 have hrr:bC (L++[r]) (vc (K:=K) r):=bC.mem (by simp)
 unfold pM
 generalize nH p S.1 S.2 r S.1.length=x at *
 have hxr:bC (L++[r]) (vc (K:=K) x):=by
  have:=(bC.mO (L++[r])).add _ _ (hLr _ ((hs _).1 c2)) hrr
  have e:(fun j=>(vc x j:K) - vc r j + vc r j)=vc x:=by funext j; grind
  rw [e] at this; exact this
 cases hf:GM x with
 | none =>
  have hx0:∀ j,(vc x j:K)=0:=fun j=>by
   by_cases hj:j < x.length
   ·have:=cg hf j hj
    simp only [decide_eq_false_iff_not,Classical.not_not] at this
    unfold vc; rw [this]; exact Ring.intCast_zero
   exact gL (by omega)
  refine ⟨he,fun u=>⟨fun hu=>hLr u ((hs u).1 hu),fun hu=>bC.mono (fun q hq=>?_) hu⟩⟩
  rcases List.mem_append.1 hq with hq | hq
  ·exact (hs _).2 (bC.mem hq)
  rw [List.mem_singleton.1 hq]
  have:=(bC.mO (K:=K) S.1).smul (-1) _ c2
  have e:(fun j=>(-1:K) * (vc x j - vc r j))=vc r:=by funext j; rw [hx0]; grind
  rw [e] at this; exact this
 | some j =>
  obtain ⟨j1,j2,j3⟩:=cH hf
  simp only [decide_eq_true_eq] at j2
  simp only
  have hiv:=R.inv (hgx j) j2
  obtain ⟨k,hk⟩:∃ k:K,((dQ p (x.getD j 0):Int):K)=k:=⟨_,rfl⟩
  obtain ⟨y,hy⟩:∃ y,AL p (dQ p (x.getD j 0)) x=y:=⟨_,rfl⟩
  have hyv:(vc y:Nat→K)=fun t=>vc x t * k:=by rw [← hy,EX R,hk]
  have hxj:(vc x j:K) * k=1:=by rw [← hk]; exact hiv
  have hyl:y.length=W:=by rw [← hy,x8,hxl,hr]
  have hyj:(vc y j:K)=1:=by rw [hyv]; exact hxj
  have hyb:∀ t,t < j→(vc y t:K)=0:=fun t ht=>by
   rw [hyv]
   have:=j3 t ht
   simp only [decide_eq_false_iff_not,Classical.not_not] at this
   have e:(vc x t:K)=0:=by unfold vc; rw [this]; exact Ring.intCast_zero
   simp only; rw [e]; grind
  have hyk:∀ i,i < S.1.length→(vc y (S.2.getD i 0).toNat:K)=0:=fun i hi=>by
   rw [hyv]; simp only; rw [c1 i hi]; grind
  rw [hy]
  have hol:(fA p j y S.1 S.1.length).length=S.1.length:=jK _ _ _ _ _
  have hog:∀ i,i < S.1.length→bV (K:=K) (fA p j y S.1 S.1.length++[y]) i=fun t=>bV S.1 i t - bV S.1 i j * vc y t:=fun i hi=>by
   unfold bV
   rw [ff _ _ (by omega),wQ hi,if_pos hi]
   exact HI R (by rw [hri.l2 _ (aC hi),hyl])
  have hoy:bV (K:=K) (fA p j y S.1 S.1.length++[y]) S.1.length=vc y:=by
   unfold bV
   have:=cK (fA p j y S.1 S.1.length) y []
   rw [hol] at this
   rw [this]
  have hai:∀ i,i < S.1.length→(S.2++[(j:Int)]).getD i 0=S.2.getD i 0:=fun i hi=>ff _ _ (by rw [hri.l1]; exact hi)
  have haj:(S.2++[(j:Int)]).getD S.1.length 0=(j:Int):=by
   have:=cK S.2 (j:Int) 0
   rwa [hri.l1] at this
  have hnl:(fA p j y S.1 S.1.length++[y]).length=S.1.length + 1:=by simp [hol]
  refine ⟨⟨fun i k hi hk=>?_,fun i t hi ht=>?_⟩,fun u=>⟨fun hu=>bC.mono (fun q hq=>?_) hu,fun hu=>?_⟩⟩
  ·simp only [hnl] at hi hk
   simp only
   by_cases ei:i=S.1.length
   ·rw [ei,hoy]
    by_cases ek:k=S.1.length
    ·rw [ek,haj,Int.toNat_natCast,hyj,if_pos rfl]
    rw [hai k (by omega),hyk k (by omega),if_neg (fun h=>ek h.symm)]
   rw [hog i (by omega)]
   by_cases ek:k=S.1.length
   ·rw [ek,haj,Int.toNat_natCast]
    simp only
    rw [hyj,if_neg ei]; grind
   rw [hai k (by omega)]
   simp only
   rw [hyk k (by omega),he.at' i k (by omega) (by omega)]; grind
  ·simp only [hnl] at hi
   simp only at ht ⊢
   by_cases ei:i=S.1.length
   ·rw [ei,haj,Int.toNat_natCast] at ht
    rw [ei,hoy]; exact hyb t ht
   rw [hai i (by omega)] at ht
   rw [hog i (by omega)]
   simp only
   rw [he.bef i t (by omega) ht]
   by_cases htj:t < j
   ·rw [hyb t htj]; grind
   rw [he.bef i j (by omega) (by omega)]; grind
  ·have hyL:bC (L++[r]) (vc (K:=K) y):=by
    have:=(bC.mO (L++[r])).smul k _ hxr
    rw [hyv]
    have e:(fun t=>(vc x t:K) * k)=fun t=>k * vc x t:=by funext t; grind
    rw [e]; exact this
   rcases List.mem_append.1 hq with hq | hq
   ·obtain ⟨i,hi,e⟩:=List.getElem_of_mem hq
    rw [hol] at hi
    have h1:=hog i hi
    have h2:bV (K:=K) (fA p j y S.1 S.1.length++[y]) i=vc q:=by
     unfold bV; rw [ff _ _ (by omega),← e]; simp [List.getD,List.getElem?_eq_getElem (show i < (fA p j y S.1 S.1.length).length by omega)]
    rw [← h2,h1]
    exact (bC.mO (L++[r])).sub (hLr _ ((hs _).1 (bC.get hi))) ((bC.mO (L++[r])).smul _ _ hyL)
   rw [List.mem_singleton.1 hq]; exact hyL
  have hy' : bC (fA p j y S.1 S.1.length++[y]) (vc (K:=K) y):=bC.mem (by simp)
  have ho' : ∀ i,i < S.1.length→bC (fA p j y S.1 S.1.length++[y]) (bV (K:=K) S.1 i):=fun i hi=>by
   have h1:=bC.get (K:=K) (L:=fA p j y S.1 S.1.length++[y]) (i:=i) (by omega)
   have h2:=(bC.mO (fA p j y S.1 S.1.length++[y])).add _ _ h1 ((bC.mO _).smul (bV S.1 i j) _ hy')
   rw [hog i hi] at h2
   have e:(fun t=>bV (K:=K) S.1 i t - bV S.1 i j * vc y t + bV S.1 i j * vc y t)=bV S.1 i:=by funext t; grind
   rw [e] at h2; exact h2
  have hS' : ∀ v:Nat→K,bC S.1 v→bC (fA p j y S.1 S.1.length++[y]) v:=fun v hv=>by
   obtain ⟨C,hC⟩:=hv
   have:v=fun t=>sm (fun i=>C i * bV S.1 i t) S.1.length:=funext hC
   rw [this]
   exact (bC.mO _).sum ho'
  refine bC.mono (fun q hq=>?_) hu
  rcases List.mem_append.1 hq with hq | hq
  ·exact hS' _ ((hs _).2 (bC.mem hq))
  rw [List.mem_singleton.1 hq]
  have h1:=hS' _ c2
  have h2:=(bC.mO (fA p j y S.1 S.1.length++[y])).smul (vc x j) _ hy'
  have h3:=(bC.mO (fA p j y S.1 S.1.length++[y])).sub h2 h1
  have e:(fun t=>(vc x j:K) * vc y t - (vc x t - vc r t))=vc r:=by
   funext t
   rw [hyv]
   simp only
   have:(vc x j:K) * (vc x t * k)=vc x t:=by
    have:(vc x j:K) * (vc x t * k)=(vc x j * k) * vc x t:=by grind
    rw [this,hxj]; grind
   rw [this]; grind
  rw [e] at h3; exact h3
theorem mu {p W:Nat} (R:Rd K p) {M:List (List Int)} (h1:∀ v∈M,v.length=W) (h2:∀ v∈M,eG p v):∀ k,k≤M.length→RE (K:=K) (cE p M k)∧∀ u:Nat→K,bC (cE p M k).1 u↔bC (M.take k) u
 | 0,_=>⟨⟨fun i k hi=>absurd hi (Nat.not_lt_zero _),fun i j hi=>absurd hi (Nat.not_lt_zero _)⟩,fun u=>by rw [List.take_zero]; exact Iff.rfl⟩
 | k + 1,hk=>by
  obtain ⟨a1,a2⟩:=mu R h1 h2 k (by omega)
  have hri:=fM (p:=p) (by have:=R.two; omega) h1 h2 k (by omega)
  have:=yY (K:=K) R hri a1 a2 (h1 _ (aC (d:=[]) (show k < M.length by omega))) (h2 _ (aC (by omega)))
  have e:M.take (k + 1)=M.take k++[M.getD k []]:=by
   rw [List.take_succ_eq_append_getElem (by omega)]; simp [List.getD,List.getElem?_eq_getElem (show k < M.length by omega)]
  rw [e,cE]; exact this
end
end Go.Proofs.YtjlmpmidchddjaaDoor
namespace Go.Proofs.YtjlmpmidchddjaaDoor
open Lean.Grind
attribute [local instance] Lean.Grind.Semiring.natCast Lean.Grind.Ring.intCast
section
variable {K:Type} [CommRing K]
def yO (n:Nat) (S:List (List Int) × List Int) (i:Nat):List Nat:=(List.range i).filter fun s=>decide ((n:Int)≤S.2.getD s 0)
theorem xq (n:Nat) (S:List (List Int) × List Int):∀ i,gb n S i=(yO n S i).map fun s=>(S.1.getD s []).drop n
 | 0=>rfl
 | i + 1=>by
  rw [gb,xq n S i]
  unfold yO
  rw [List.range_succ,List.filter_append,List.map_append]
  by_cases h:(n:Int)≤S.2.getD i 0
  ·rw [if_pos h]
   have:[i].filter (fun s=>decide ((n:Int)≤S.2.getD s 0))=[i]:=by simp only [List.filter_cons,decide_eq_true h]; rfl
   rw [this]; rfl
  rw [if_neg h]
  have:[i].filter (fun s=>decide ((n:Int)≤S.2.getD s 0))=[]:=by simp only [List.filter_cons,decide_eq_false h]; rfl
  rw [this]; simp
theorem zV {n:Nat} {S:List (List Int) × List Int} {i s:Nat} : s∈yO n S i↔s < i∧(n:Int)≤S.2.getD s 0:=by
 unfold yO
 rw [List.mem_filter,List.mem_range,decide_eq_true_iff]
theorem CY (n:Nat) (S:List (List Int) × List Int) (i:Nat):(yO n S i).Nodup:=List.nodup_range.filter _
theorem oC (n:Nat) (r:List Int) (j:Nat):(vc (r.drop n) j:K)=vc r (n + j):=by
 unfold vc
 simp [List.getD,List.getElem?_drop]
theorem Gf (r r' : List Int) (j:Nat):(vc (r++r') j:K)=if j < r.length then vc r j else vc r' (j - r.length):=by
 unfold vc
 by_cases h:j < r.length
 ·rw [if_pos h]; simp [List.getD,List.getElem?_append_left h]
 rw [if_neg h]; simp [List.getD,List.getElem?_append_right (show r.length≤j by omega)]
theorem xV {n i j:Nat} (hi:i < n):(vc ((List.replicate n (0:Int)).set i 1) j:K)=if j=i then 1 else 0:=by
 unfold vc
 rw [List.getD_eq_getElem?_getD,List.getElem?_set]
 by_cases e:i=j
 ·subst e
  rw [if_pos rfl,if_pos (by simpa using hi),if_pos rfl]
  exact Ring.intCast_one
 rw [if_neg e,if_neg (fun h=>e h.symm),List.getElem?_replicate]
 split
 ·exact Ring.intCast_zero
 exact Ring.intCast_zero
theorem iH {n:Nat} {m:List (List Int)} (hm:m.length=n) (h1:∀ v∈m,v.length=n) {i:Nat} (hi:i < n) (j:Nat):bV (K:=K) (exts n m n) i j=if j < n then bV m i j else if j=n + i then 1 else 0:=by
 have e:(exts n m n).getD i []=ph n m i:=by simp [exts,List.getD,List.getElem?_map,List.getElem?_range hi]
 unfold bV
 rw [e]
 unfold ph
 rw [Gf,h1 _ (aC (by omega))]
 by_cases hj:j < n
 ·rw [if_pos hj,if_pos hj]
 rw [if_neg hj,if_neg hj,xV hi]
 by_cases e:j=n + i
 ·rw [if_pos e,if_pos (by omega)]
 rw [if_neg e,if_neg (by omega)]
def vq (n:Nat) (m:List (List Int)) (u:Nat→K):Prop:=(∀ j,n≤j→u j=0)∧∀ j,j < n→sm (fun i=>u i * bV m i j) n=0
theorem vq.mO (n : Nat) (m : List (List Int)) : iE (vq (K := K) n m) :=
  ⟨⟨fun _ _ => rfl, fun j _ => aW fun i _ => by grind⟩,
   fun u v ⟨a, b⟩ ⟨c, d⟩ => ⟨fun j hj => by show u j + v j = 0; rw [a j hj, c j hj]; grind, fun j hj => by
     have : sm (fun i => (u i + v i) * bV m i j) n = sm (fun i => u i * bV m i j) n + sm (fun i => v i * bV m i j) n := by rw [← kB]; exact al fun i _ => by grind
     show sm (fun i => (u i + v i) * bV m i j) n = 0
     rw [this, b j hj, d j hj]; grind⟩,
   fun k u ⟨a, b⟩ => ⟨fun j hj => by show k * u j = 0; rw [a j hj]; grind, fun j hj => by
     have : sm (fun i => (k * u i) * bV m i j) n = k * sm (fun i => u i * bV m i j) n := by rw [← aN]; exact al fun i _ => by grind
     show sm (fun i => (k * u i) * bV m i j) n = 0
     rw [this, b j hj]; grind⟩⟩
theorem Bo {p n:Nat} (R:Rd K p) {m:List (List Int)} (hm:m.length=n) (h1:∀ v∈m,v.length=n) (h2:∀ v∈m,eG p v) :
  (∀ u:Nat→K,bC (ec p m) u↔vq n m u)∧jd (bV (K:=K) (ec p m)) (ec p m).length:=by
 have hMr:=pF (n:=n) h1 (i:=n) (by omega)
 have hMg:=rE (n:=n) R.two h1 h2 (i:=n) (by omega)
 have hml:(exts n m n).length=n:=dy _ _ _
 have hri:=fM (W:=n + n) (p:=p) (by have:=R.two; omega) hMr hMg n (by omega)
 obtain ⟨he,hsp⟩:=mu (K:=K) R hMr hMg n (by omega)
 rw [List.take_of_length_le (by omega)] at hsp
 have hk:ec p m=gb n (cE p (exts n m n) n) (cE p (exts n m n) n).1.length:=by unfold ec; rw [hm]
 rw [hk]
 generalize cE p (exts n m n) n=S at *
 rw [xq]
 have hXm:=fun s=>zV (n:=n) (S:=S) (i:=S.1.length) (s:=s)
 have hXn:=CY n S S.1.length
 generalize yO n S S.1.length=X at *
 have hat:∀ i,i < S.1.length→(S.2.getD i 0).toNat < n + n∧((S.2.getD i 0).toNat:Int)=S.2.getD i 0:=fun i hi=>by
  have:=hri.l4 i (by rw [hri.l1]; exact hi)
  omega
 have hrl:∀ s,s∈X→((S.1.getD s []).length=n + n):=fun s hs=>hri.l2 _ (aC ((hXm s).1 hs).1)
 have hex:∀ w:Nat→K,bC S.1 w→∀ j,j < n→w j=sm (fun i=>w (n + i) * bV m i j) n:=fun w hw j hj=>by
  obtain ⟨C,hC⟩:=(hsp w).1 hw
  rw [hml] at hC
  have e1:∀ i,i < n→w (n + i)=C i:=fun i hi=>by
   rw [hC,bj (i:=i) hi fun t ht hne=>?_,iH hm h1 hi,if_neg (by omega),if_pos rfl]
   ·grind
   rw [iH hm h1 ht,if_neg (by omega),if_neg (by omega)]; grind
  rw [hC]
  refine al fun i hi=>?_
  rw [e1 i hi,iH hm h1 hi,if_pos hj]
 have hrow:∀ s∈X,vq n m (vc (K:=K) ((S.1.getD s []).drop n)):=fun s hs=>by
  obtain ⟨s1,s2⟩:=(hXm s).1 hs
  refine ⟨fun j hj=>?_,fun j hj=>?_⟩
  ·rw [oC]; exact gL (by rw [hrl s hs]; omega)
  have h3:=hex _ (bC.get s1) j hj
  have h4:=he.bef s j s1 (by have:=(hat s s1).2; omega)
  rw [h4] at h3
  rw [al (g:=fun i=>bV S.1 s (n + i) * bV m i j) fun i _=>by rw [oC]; rfl,← h3]
 refine ⟨fun u=>⟨fun hu=>bC.least (vq.mO n m) (fun r hr=>?_) hu,fun hu=>?_⟩,?_⟩
 ·obtain ⟨s,hs,rfl⟩:=List.mem_map.1 hr
  exact hrow s hs
 ·obtain ⟨k1,k2⟩:=hu
  have hw:bC (exts n m n) fun j=>if j < n then (0:K) else u (j - n):=by
   refine ⟨u,fun j=>?_⟩
   rw [hml]
   by_cases hj:j < n
   ·show (if j < n then (0:K) else u (j - n))=_
    rw [if_pos hj,← k2 j hj]
    exact al fun i hi=>by rw [iH hm h1 hi,if_pos hj]
   show (if j < n then (0:K) else u (j - n))=_
   rw [if_neg hj]
   by_cases hj2:j - n < n
   ·rw [bj (i:=j - n) hj2 fun t ht hne=>?_,iH hm h1 hj2,if_neg hj,if_pos (by omega)]
    ·grind
    rw [iH hm h1 ht,if_neg hj,if_neg (by omega)]; grind
   rw [k1 _ (by omega)]
   refine (aW fun t ht=>?_).symm
   rw [iH hm h1 ht,if_neg hj,if_neg (by omega)]; grind
  obtain ⟨C,hC⟩:=(hsp _).2 hw
  have hCk:∀ k,k < S.1.length→k ∉ X→C k=0:=fun k hk hkX=>by
   have h3:=hC (S.2.getD k 0).toNat
   have h4:¬ (n:Int)≤S.2.getD k 0:=fun h=>hkX ((hXm k).2 ⟨hk,h⟩)
   have h5:=(hat k hk).2
   simp only at h3
   rw [if_pos (by omega),bj (i:=k) hk fun t ht hne=>by rw [he.at' t k ht hk,if_neg hne]; grind,he.at' k k hk hk,if_pos rfl] at h3
   grind
  have hu2:u=fun j=>sm (fun k=>C k * (if k∈X then bV S.1 k (n + j) else 0)) S.1.length:=by
   funext j
   have h3:=hC (n + j)
   simp only at h3
   rw [if_neg (by omega),Nat.add_sub_cancel_left] at h3
   rw [h3]
   refine al fun k hk=>?_
   by_cases hkX:k∈X
   ·rw [if_pos hkX]
   rw [if_neg hkX,hCk k hk hkX]; grind
  rw [hu2]
  refine (bC.mO _).sum (y:=fun k j=>if k∈X then bV S.1 k (n + j) else 0) fun k hk=>?_
  by_cases hkX:k∈X
  ·have e:(fun j=>if k∈X then bV (K:=K) S.1 k (n + j) else 0)=vc ((S.1.getD k []).drop n):=by
    funext j; rw [if_pos hkX,oC]; rfl
   rw [e]
   exact bC.mem (List.mem_map.2 ⟨k,hkX,rfl⟩)
  have e:(fun j=>if k∈X then bV (K:=K) S.1 k (n + j) else 0)=fun _=>0:=by funext j; rw [if_neg hkX]
  rw [e]; exact (bC.mO _).zero
 intro x hx t ht
 rw [List.length_map] at ht hx
 have hXt:X.getD t 0∈X:=aC ht
 obtain ⟨s1,s2⟩:=(hXm _).1 hXt
 have h5:=(hat _ s1).2
 have h3:=hx ((S.2.getD (X.getD t 0) 0).toNat - n)
 have hg:∀ i,i < X.length→bV (K:=K) (X.map fun s=>(S.1.getD s []).drop n) i ((S.2.getD (X.getD t 0) 0).toNat - n)=bV S.1 (X.getD i 0) (S.2.getD (X.getD t 0) 0).toNat:=fun i hi=>by
  have e:(X.map fun s=>(S.1.getD s []).drop n).getD i []=(S.1.getD (X.getD i 0) []).drop n:=by
   simp [List.getD,List.getElem?_map,List.getElem?_eq_getElem hi]
  unfold bV
  rw [e,oC]
  congr 1; omega
 rw [bj (i:=t) ht fun i hi hne=>?_,hg t ht,he.at' _ _ s1 s1,if_pos rfl] at h3
 ·grind
 rw [hg i hi,he.at' _ _ ((hXm _).1 (aC (d:=0) hi)).1 s1,if_neg]
 ·grind
 intro e
 refine hne ?_
 exact z7 hXn hi ht e
end
end Go.Proofs.YtjlmpmidchddjaaDoor
namespace Go.Proofs.YtjlmpmidchddjaaDoor
open Go.Pv
def oe (d n i k:Nat):List AV:=ca d n i++List.replicate k (.p .nil)
theorem l6 (d n i k:Nat):(oe d n i k).length=i + k:=by simp [oe,bx]
theorem sZ {d n i k x:Nat} : (oe d n i (k + 1)).set i (.sl x 0 n)=ca d n i++(.sl x 0 n :: List.replicate k (.p .nil)):=by
 unfold oe
 rw [List.set_append_right _ _ (by rw [bx]; exact Nat.le_refl _),bx,Nat.sub_self,List.replicate_succ,List.set_cons_zero]
theorem pX {d n i k:Nat} : ca d n i++(.sl (i + d) 0 n :: List.replicate k (.p .nil))=oe d n (i + 1) k:=by
 unfold oe
 rw [← gi,List.append_assoc]; rfl
theorem FR {d n i k x:Nat} (e:AV):(ca d n i++(AV.sl x 0 n :: List.replicate k (AV.p .nil))).getD i e=AV.sl x 0 n:=by
 simp [List.getD,bx]
theorem wE {d n i k x L:Nat} (h:d + i≤L) (hx:x < L):(ca d n i++(.sl x 0 n :: List.replicate k (AV.p .nil))).all (bg L)=true:=by
 rw [List.all_append,jy (by omega),Bool.true_and,List.all_cons,Bool.and_eq_true]
 refine ⟨by simp [bg,bt,hx],List.all_eq_true.2 fun y hy=>?_⟩
 rw [List.eq_of_mem_replicate hy]; rfl
theorem kM {d n i k L:Nat} (h:d + i≤L):(oe d n i k).all (bg L)=true:=by
 unfold oe
 rw [List.all_append,jy (by omega),Bool.true_and]
 refine List.all_eq_true.2 fun y hy=>?_
 rw [List.eq_of_mem_replicate hy]; rfl
theorem Dt {d n i k t:Nat} (h:t < i) (e:AV):(oe d n i k).getD t e = .sl (t + d) 0 n:=by
 unfold oe
 rw [List.getD_eq_getElem?_getD,List.getElem?_append_left (by rw [bx]; exact h),← List.getD_eq_getElem?_getD,lP h]
theorem pD (d n k:Nat):oe d n 0 k=List.replicate k (.p .nil):=by simp [oe,ca]
theorem uv (d n i:Nat):oe d n i 0=ca d n i:=by simp [oe]
theorem yR {S s:St} {c:List AV} {M:List (List Int)} {L:Nat} (hn:S.n=s.n) (hH:S.H=s.H) (e:s.H = .own c :: tl M) (hL:M.length + 1=L) (hc:c.all (bg L)=true) (hsl:∀ p∈S.sl,s.get p.1=p.2∧bg L p.2=true):Le (List.range L) S s:=by
 have e1:s.H.length=L:=by rw [e]; simp [aD]; omega
 subst e1
 refine ob hn hH (fun b hb=>?_) hsl
 rw [e] at hb
 rcases List.mem_cons.1 hb with rfl | hb
 ·exact hc
 exact rD _ _ b hb
theorem GQ {S s:St} {n i k:Nat} {M:List (List Int)} (hi:M.length=i) (hn:S.n=s.n) {x v:List Int} (hS:S.H = .own (oe 1 n (i + 1) k) :: tl (M++[x])) (e:s.H = .own (ca 1 n i++(.sl (i + 2) 0 n :: List.replicate k (.p .nil))) :: tl (M++[v]++[x]))
  (hsl:kn (0 :: (List.range' 1 i++[i + 2])) S.sl s):Le (0 :: (List.range' 1 i++[i + 2])) S s:=by
 subst hi
 refine nj hn ?_ ?_ (fun j hj=>?_) hsl
 ·refine List.nodup_cons.2 ⟨?_,List.nodup_append.2 ⟨List.nodup_range',by simp,fun a ha b hb=>?_⟩⟩
  ·simp only [List.mem_append,List.mem_singleton,List.mem_range'_1]; omega
  simp only [List.mem_singleton,List.mem_range'_1] at ha hb; omega
 ·rw [hS]; simp [aD]
 rw [hS] at hj ⊢
 rw [e]
 match j,hj with
 | 0,_ =>
  simp only [kg,aq,List.getD_cons_zero]
  rw [List.take_of_length_le (by simp [l6,bx]; omega)]
  refine ⟨?_,kM (by simp; omega)⟩
  rw [← pX,List.map_append,List.map_cons]
  congr 1
  ·refine List.ext_getElem (by simp) fun t h1 h2=>?_
   have ht:t < M.length:=by simpa [bx] using h2
   simp only [ca,List.getElem_map,List.getElem_range,Go.Pv.bl,bw,List.getD_cons_succ]
   rw [List.getD_eq_getElem?_getD,List.getElem?_append_left (by simp; exact ht),List.getElem?_range' ht]
   simp; omega
  congr 1
  ·simp only [Go.Pv.bl,bw,List.getD_cons_succ]
   rw [List.getD_eq_getElem?_getD,List.getElem?_append_right (by simp)]
   simp
  rw [List.map_replicate]; rfl
 | j + 1,hj =>
  have hjq:j < M.length + 1:=by simpa [aD] using hj
  simp only [List.getD_cons_succ,dH]
  rw [aV (by simpa using hjq)]
  by_cases h:j < M.length
  ·rw [List.getD_eq_getElem?_getD,List.getElem?_append_left (by simp; exact h),List.getElem?_range' h]
   refine iF ?_
   simp only [Option.getD_some,Nat.one_mul]
   rw [Nat.add_comm 1 j,dH,aV (by simp; omega),List.append_assoc]
   simp [List.getD,List.getElem?_append_left h]
  obtain rfl:j=M.length:=by omega
  rw [List.getD_eq_getElem?_getD,List.getElem?_append_right (by simp)]
  refine iF ?_
  simp only [List.length_range',Nat.sub_self,List.getElem?_cons_zero,Option.getD_some]
  rw [dH,aV (by simp)]
  simp [List.getD]
theorem Hn {X:ay} {z:Nat} (h:X.length=z) (o h' : aM) (T:ay):aq (o :: (X++(h' :: T))) (z + 1)=h':=by
 rw [dH,a8 (by omega),h,Nat.sub_self]; rfl
theorem JA {X:ay} {z i:Nat} (h:X.length=z) (o h' : aM) {M:List (List Int)} (hi:i < M.length):aq (o :: (X++(h' :: tl M))) (i + (z + 2)) = .own (ol (M.getD i [])):=by
 rw [show i + (z + 2)=z + (i + 1) + 1 by omega,dH,a8 (by omega),h,Nat.add_sub_cancel_left,dH,aV hi]
theorem I6 {X:ay} {z:Nat} (h:X.length=z) (o h' b:aM) (T:ay):aE (o :: (X++(h' :: T))) (z + 1) b=o :: (X++(b :: T)):=by
 rw [uJ,df,List.set_append_right _ _ (by omega),h,Nat.sub_self]; rfl
theorem J1 {X:ay} {z i:Nat} (h:X.length=z) (o h' : aM) {M:List (List Int)} (w:List Int):aE (o :: (X++(h' :: tl M))) (i + (z + 2)) (.own (ol w))=o :: (X++(h' :: tl (M.set i w))):=by
 rw [show i + (z + 2)=z + (i + 1) + 1 by omega,uJ,df,List.set_append_right _ _ (by omega),h,Nat.add_sub_cancel_left,List.set_cons_succ,← df,iO]
theorem Hz {X:ay} {T:ay} {z t:Nat} (h:X.length=z) (ht:T.length=t) (o h' b:aM):aq (o :: (X++(h' :: (T++[b])))) (z + (t + 1) + 1)=b:=by
 rw [dH,a8 (by omega),h,Nat.add_sub_cancel_left,dH,a8 (by omega),ht,Nat.sub_self]; rfl
theorem JO {X:ay} {T:ay} {z t:Nat} (h:X.length=z) (ht:T.length=t) (o h' a b:aM):aq (o :: (X++(h' :: (T++([a]++[b]))))) (z + (t + 1 + 1) + 1)=b:=by
 rw [show T++([a]++[b])=(T++[a])++[b] by simp]
 exact Hz h (by simp [ht]) o h' b
theorem Kf {X:ay} {T:ay} {z i:Nat} (h:X.length=z) (hi:i < T.length) (o h' : aM) (Y:ay):aq (o :: (X++(h' :: (T++Y)))) (z + 2 + i)=aq T i:=by
 rw [show z + 2 + i=z + (i + 1) + 1 by omega,dH,a8 (by omega),h,Nat.add_sub_cancel_left,dH,aF hi]
theorem yQ {S s:St} {c:List AV} {X:ay} {o:List AV} {M:List (List Int)} {z L:Nat} (hX:X.length=z) (hn:S.n=s.n) (hH:S.H=s.H) (e:s.H = .own o :: (X++(.own c :: tl M))) (hL:M.length + z + 2=L) (hc:c.all (bg L)=true) (ho:o.all (bg L)=true) (hXs:∀ b∈X,eD L b=true) (hsl:∀ p∈S.sl,s.get p.1=p.2∧bg L p.2=true):Le (List.range L) S s:=by
 have e1:s.H.length=L:=by rw [e]; simp [aD,hX]; omega
 subst e1
 refine ob hn hH (fun b hb=>?_) hsl
 rw [e] at hb
 rcases List.mem_cons.1 hb with rfl | hb
 ·exact ho
 rcases List.mem_append.1 hb with hb | hb
 ·exact hXs b hb
 rcases List.mem_cons.1 hb with rfl | hb
 ·exact hc
 exact rD _ _ b hb
theorem sG {W b L:Nat} {Sp:List (List (List Int))} (h:b + c5 Sp≤L):∀ x∈ir W b Sp,eD L x=true:=fun x hx=>by
 obtain ⟨j,hj⟩:=List.getElem?_of_mem hx
 have hjl:=(List.getElem?_eq_some_iff.1 hj).1
 rw [cF] at hjl
 have e:aq (ir W b Sp) j=x:=by rw [fG,List.getD_eq_getElem?_getD,hj]; rfl
 rcases oy W b Sp j hjl with ⟨v,hv⟩ | ⟨d,q,hv,h1,h2⟩
 ·rw [← e,hv]; exact fC _ _
 rw [← e,hv]; exact jy (by omega)
theorem su {b L:Nat} {Sp:List (List (List Int))} (h:b + c5 Sp≤L):(gP b Sp).all (bg L)=true:=by
 rw [List.all_eq_true]
 intro x hx
 obtain ⟨c,l,rfl,h1,h2⟩:=sr b Sp x hx
 simp [bg,bt]; omega
theorem yh {p : Nat} {s a : List (List Int)} {left : Int} {v : Nat} {out : List (List (List Int))} (h1 : v < p) (h2 : 0 < left) : im p s a (p - v) left v out = if ec p (kh p v a s.length) = [] then im p s a (p - (v + 1)) left (v + 1) out
       else im p s a (p - (v + 1)) (left - (ec p (kh p v a s.length)).length) (v + 1) (out ++ [(ec p (kh p v a s.length)).map (vh p s)]) := by
  rw [show p - v = (p - (v + 1)) + 1 by omega, im, if_pos ⟨h1, h2⟩]
theorem mB {p:Nat} {s a:List (List Int)} {f:Nat} {left:Int} {v:Nat} {out:List (List (List Int))} (h:f=0∨¬ (v < p∧0 < left)):im p s a f left v out=out:=by
 cases f with
 | zero=>rfl
 | succ f=>rw [im,if_neg (by rcases h with h | h; cases h; exact h)]
theorem BM {p W:Nat} (w:List Int) (m:PV):Hq Tryd.prog 44 [.p (.int .i64 p),.sl 0 0 1,.p m] [.own (ca 1 W 1),.own (ol w)] (.sl 2 0 1) [.own (ca 1 W 1),.own (ol w),.own [.sl 0 0 1]]:=by
 refine FW ae Tryd.func44 rfl (by kernel_rfl) (by rw [Tryd.ntmps44]; exact Nat.le_add_left 3 _) ?_; rw [Tryd.ntmps44]; simp only [dL,mL,List.length_cons,List.length_nil,List.cons_append,List.nil_append,Nat.reduceAdd,Nat.zero_add]
 refine qm ?_
 refine ab fun K hK=>aa ae ?_
 simp only [aj,fl,gp,ai,simprocAttr]
 refine af trivial (hK _ ?_)<;>clear hK K
 refine qa (qm (qm ?_))
 refine ab fun K hK=>aa ae ?_
 simp only [aj,fl,gp,ai,simprocAttr]
 refine af trivial (hK _ ?_)<;>clear hK K
 refine qa ?_
 refine ao rfl (fun hC1=>?_) (fun hC1=>?_)
 ·(try simp only [aG] at hC1)
  refine qm ?_
  refine ab fun K hK=>aa ae ?_
  simp only [aj,fl,gp,ai,simprocAttr]
  refine an ?_ (eT (cu ae rfl rfl rfl rfl rfl rfl) rfl (by simp only [au,Nat.reduceLT]) (aa ae ?_))
  ·first|exact trivial|omega|(simp only [ah] at *; omega)|(simp [ah] at *; omega)|simp_all
  simp only [aj,fl,gp,ai,simprocAttr]
  refine af ?_ (hK _ ?_)<;>clear hK K
  ·first|exact trivial|omega|(simp only [ah] at *; omega)|(simp [ah] at *; omega)|simp_all
  refine qa (qk (qb ?_))
  simp only [Tryd.results44,o9,o0,mN,Cp,js,aj,fl,gp,ai,simprocAttr]
  refine ⟨[0,1,4,2,3],rfl,rfl,nj rfl (by decide) rfl (fun j hj=>?_) trivial⟩
  match j,hj with
  | 0,_=>exact jU rfl fun i hi=>⟨by simp; omega,by have h0:i=0:=(by omega); subst h0; rfl⟩
  | 1,_=>exact iF rfl
  | 2,_=>exact ⟨rfl,rfl⟩
  | 3,_=>exact xT rfl (by decide) rfl
  | 4,_=>exact xT rfl (by decide) rfl
 (try simp only [aG] at hC1)
 first|exact absurd rfl hC1|exact hC1.elim|cases hC1|(simp at hC1; done)
theorem EE {p:Nat} (hp:p≤1000000) {v a x:Int} (h1:0≤v∧v < p) (h2:0≤a∧a≤1000) (h3:0≤x∧x < p):0≤v + a * x∧ah (a * x)∧ah (v + a * x):=by
 have h4:=Int.mul_nonneg h2.1 h3.1
 have h5:a * x≤1000 * 1000000:=Int.mul_le_mul h2.2 (by omega) h3.1 (by omega)
 simp only [ah]; omega
set_option maxHeartbeats 8000000 in
set_option maxRecDepth 20000 in
theorem A4 {p W:Nat} (hp2:2≤p) (hp:p≤1000000) (hW:0 < W) (hW2:W≤100) (s m:List (List Int)) (hs1:s.length ≠ 1) (hs2:s.length≤100) (h1:∀ v∈s,v.length=W) (h2:∀ v∈s,eG p v) (hm:m.length=W) (hm1:∀ v∈m,v.length=W) (hm2:∀ v∈m,∀ j,0≤v.getD j 0∧v.getD j 0≤1000) :
  Ff Tryd.prog 44 [.int .i64 p,.list (ll s),.list (ll m)] (.sl 0 0 (gE p s m).length) (.own (gP 1 (gE p s m)) :: ir W 1 (gE p s m)):=by
 have hsi:¬ (s.length:Int)=1:=by omega
 have hri:=fM (W:=W) (p:=p) (by omega) h1 h2 s.length (Nat.le_refl _)
 have hql:=gU p s s.length
 have hred:=uw hp2 hp hW (by omega) s (by omega) h1 h2
 have hspl:gE p s m=im p (cE p s s.length).1 (fy p m (cE p s s.length).1 (cE p s s.length).2 (cE p s s.length).1.length) p (cE p s s.length).1.length 0 []:=by rw [gE,if_neg hs1]
 rw [hspl]
 generalize cE p s s.length=Z at *
 obtain ⟨s',at'⟩:=Z
 obtain ⟨l1,l2,l3,l4⟩:=hri
 simp only at l1 l2 l3 l4 hql hred ⊢
 obtain ⟨n,hn⟩:∃ n,s'.length=n:=⟨_,rfl⟩
 rw [hn] at l1 hql ⊢
 have hn100:n≤100:=by omega
 refine wx ae Tryd.func44 rfl (by kernel_rfl) (by rw [Tryd.ntmps44]; exact Nat.le_add_left 3 _) ?_; rw [Tryd.ntmps44]
 refine qm ?_
 refine ab fun K hK=>aa ae ?_
 simp only [aj,fl,gp,ai,simprocAttr]
 refine af trivial (hK _ ?_)<;>clear hK K
 refine qa (qm (qm ?_))
 refine ab fun K hK=>aa ae ?_
 simp only [aj,fl,gp,ai,simprocAttr,aw]
 refine af trivial (hK _ ?_)<;>clear hK K
 refine qa ?_
 refine ao rfl (fun hC1=>?_) (fun hC1=>?_)
 ·(try simp only [aG] at hC1)
  omega
 (try simp only [aG] at hC1)
 refine qh (qa (qm ?_))
 refine ab fun K hK=>aa ae ?_
 simp only [aj,fl,gp,ai,simprocAttr]
 refine an trivial (ak (hred) rfl rfl rfl (by simp only [au,Nat.reduceLT]) (by repeat (first|exact trivial|constructor)) (aa ae ?_))
 simp only [aj,fl,gp,ai,simprocAttr]
 refine af trivial (hK _ ?_)<;>clear hK K
 refine qa (qm ?_)
 refine ab fun K hK=>aa ae ?_
 simp only [aj,fl,gp,ai,simprocAttr,aw,hn]
 refine af trivial (hK _ ?_)<;>clear hK K
 refine qa (qm ?_)
 refine ab fun K hK=>aa ae ?_
 simp only [aj,fl,gp,ai,simprocAttr]
 refine af ?_ (hK _ ?_)<;>clear hK K
 ·first|exact trivial|omega|(simp only [ah] at *; omega)|(simp [ah] at *; omega)|simp_all
 refine qa (qm (qm ?_))
 refine ab fun K hK=>aa ae ?_
 simp only [aj,fl,gp,ai,simprocAttr,aw,hn]
 refine af trivial (hK _ ?_)<;>clear hK K
 refine qa (ql ?_)
 refine aA (ι:=Nat) (fun i=>⟨224,[(0,.p (.int .i64 p)),(1,.p (.list (ll s'))),(2,.p (.list (ll m))),(7,.p (.list (il at'))),(8,.p (.int .i64 n)),(9,.sl 0 0 n),(47,.p (.list (ll s'))),(48,.p (.int .i64 n)),(49,.p (.int .i64 i))],.own (oe 1 n i (n - i)) :: tl (fy p m s' at' i)⟩) (fun i=>i≤n) (fun i=>n - i) 0 (Nat.zero_le _) [0] (by simp only [leq,bf,aj,fl,gp,ai,simprocAttr]<;>simp [pD,fy,tl,ky,Go.Pv.bl,bw,bg,bt]) fun i hi=>?_
 refine qm ?_
 refine ab fun K hK=>aa ae ?_
 simp only [aj,fl,gp,ai,simprocAttr]
 refine af trivial (hK _ ?_)<;>clear hK K
 refine qa (qm ?_)
 refine ao rfl (fun hC2=>?_) (fun hC2=>?_)
 ·(try simp only [aG] at hC2)
  have hin:i < n:=by omega
  obtain ⟨w,hw⟩:∃ w,s'.getD i []=w:=⟨_,rfl⟩
  have hwl:w.length=W:=by rw [← hw]; exact l2 _ (aC (by omega))
  have hwg:eG p w:=by rw [← hw]; exact l3 _ (aC (by omega))
  obtain ⟨A,hA⟩:∃ A,fy p m s' at' i=A:=⟨_,rfl⟩
  have hAl:A.length=i:=by rw [← hA,lK]
  rw [hA]
  refine qh (qa (qm (ql (qm ?_))))
  refine ab fun K hK=>aa ae ?_
  simp only [aj,fl,gp,ai,simprocAttr,aw,cQ (show i < s'.length by omega),hw]
  refine af ?_ (hK _ ?_)<;>clear hK K
  ·omega
  refine qa (qm ?_)
  refine ab fun K hK=>aa ae ?_
  simp only [aj,fl,gp,ai,simprocAttr,aw,hm,aD,hAl,cC]
  refine af ?_ (hK _ ?_)<;>clear hK K
  ·first|exact trivial|omega|(simp only [ah] at *; omega)|(simp [ah] at *; omega)|simp_all
  refine qa (qm (qm ?_))
  refine ab fun K hK=>aa ae ?_
  simp only [aj,fl,gp,ai,simprocAttr,aw,hm]
  refine af trivial (hK _ ?_)<;>clear hK K
  refine qa (ql ?_)
  refine aA (ι:=Nat) (fun j=>⟨224,[(0,.p (.int .i64 p)),(1,.p (.list (ll s'))),(2,.p (.list (ll m))),(7,.p (.list (il at'))),(8,.p (.int .i64 n)),(9,.sl 0 0 n),(10,.p (.int .i64 i)),(11,.p (.list (il w))),(12,.sl (i + 1) 0 W),(47,.p (.list (ll s'))),(48,.p (.int .i64 n)),(49,.p (.int .i64 i)),(58,.p (.int .i64 W)),(59,.p (.int .i64 j))],.own (oe 1 n i (n - i)) :: tl (A++[vI p m w j 0])⟩) (fun j=>j≤W) (fun j=>W - j) 0 (Nat.zero_le _) (List.range (i + 2)) (yR (c:=oe 1 n i (n - i)) (M:=A++[List.replicate W 0]) rfl (by simp [C6,hm,tl]) (by simp [tl]) (by simp [hAl]) (kM (by omega)) (by
   simp [St.get,lk,bg,bt,hm]<;>omega)) fun j hj=>?_
  refine qm ?_
  refine ab fun K hK=>aa ae ?_
  simp only [aj,fl,gp,ai,simprocAttr]
  refine af trivial (hK _ ?_)<;>clear hK K
  refine qa (qm ?_)
  refine ao rfl (fun hC3=>?_) (fun hC3=>?_)
  ·(try simp only [aG] at hC3)
   have hjW:j < W:=by omega
   obtain ⟨b,hb⟩:∃ b,m.getD j []=b:=⟨_,rfl⟩
   have hbl:b.length=W:=by rw [← hb]; exact hm1 _ (aC (by omega))
   have hbg:∀ t,0≤b.getD t 0∧b.getD t 0≤1000:=by rw [← hb]; exact hm2 _ (aC (by omega))
   refine qh (qa (qm (ql (qm ?_))))
   refine ab fun K hK=>aa ae ?_
   simp only [aj,fl,gp,ai,simprocAttr]
   refine af trivial (hK _ ?_)<;>clear hK K
   refine qa (qm ?_)
   refine ab fun K hK=>aa ae ?_
   simp only [aj,fl,gp,ai,simprocAttr]
   refine af trivial (hK _ ?_)<;>clear hK K
   refine qa (ql ?_)
   refine aA (ι:=Nat) (fun k=>⟨224,[(0,.p (.int .i64 p)),(1,.p (.list (ll s'))),(2,.p (.list (ll m))),(7,.p (.list (il at'))),(8,.p (.int .i64 n)),(9,.sl 0 0 n),(10,.p (.int .i64 i)),(11,.p (.list (il w))),(12,.sl (i + 1) 0 W),(13,.p (.int .i64 j)),(47,.p (.list (ll s'))),(48,.p (.int .i64 n)),(49,.p (.int .i64 i)),(58,.p (.int .i64 W)),(59,.p (.int .i64 j)),(62,.p (.list (il w))),(63,.p (.int .i64 W)),(64,.p (.int .i64 k))],.own (oe 1 n i (n - i)) :: tl (A++[vI p m w j k])⟩) (fun k=>k≤W) (fun k=>W - k) 0 (Nat.zero_le _) (List.range (i + 2)) (yR (c:=oe 1 n i (n - i)) (M:=A++[vI p m w j 0]) rfl rfl rfl (by simp [hAl]) (kM (by omega)) (by
    simp [St.get,lk,bg,bt,aH,hwl]<;>omega)) fun k hk=>?_
   obtain ⟨v,hv⟩:∃ v,vI p m w j k=v:=⟨_,rfl⟩
   have hvl:v.length=W:=by rw [← hv,FP,hm]
   rw [hv]
   refine qm ?_
   refine ab fun K hK=>aa ae ?_
   simp only [aj,fl,gp,ai,simprocAttr]
   refine af trivial (hK _ ?_)<;>clear hK K
   refine qa (qm ?_)
   refine ao rfl (fun hC4=>?_) (fun hC4=>?_)
   ·(try simp only [aG] at hC4)
    have hkW:k < W:=by omega
    have hvj:v.getD j 0=iR p b w k:=by rw [← hv,Gb (by omega),hb]
    have hgv:aq (tl (A++[v])) i = .own (ol v):=by rw [aV (by simp [hAl]),← hAl,cK]
    have hsv:∀ x,aE (tl (A++[v])) i (.own (ol x))=tl (A++[x]):=fun x=>by rw [iO,← hAl,gS]
    have hst:v.set j ((iR p b w k + b.getD k 0 * w.getD k 0) % (p:Int))=vI p m w j (k + 1):=by
     have:=FC (p:=p) (m:=m) (w:=w) (j:=j) (k:=k)
     rw [hv,hb] at this
     rw [← this,iR]
    have hd:=xC (p:=p) (by omega) b w k
    have hr:=EE hp hd (hbg k) (hwg k)
    have htm:Int.tmod (iR p b w k + b.getD k 0 * w.getD k 0) p=(iR p b w k + b.getD k 0 * w.getD k 0) % p:=Int.tmod_eq_emod_of_nonneg hr.1
    refine qh (qa (qm (ql (qm ?_))))
    refine ab fun K hK=>aa ae ?_
    simp only [aj,fl,gp,ai,simprocAttr,aL (show k < w.length by omega)]
    refine af ?_ (hK _ ?_)<;>clear hK K
    ·omega
    refine qa ?_
    refine aT mixed (by kernel_rfl) fun K hK=>aa ae ?_
    simp only [aj,fl,gp,ai,simprocAttr,dH,uJ,hgv,bP (show j < v.length by omega),cQ (show j < m.length by omega),hb,aL (show k < b.length by omega),hvj,htm,eB,hsv,hst]
    refine af ?_ (hK _ ?_)<;>clear hK K
    ·obtain ⟨_,r2,r3⟩:=hr
     simp only [ah] at *; omega
    refine qd (qa ?_)
    refine ab fun K hK=>aa ae ?_
    simp only [aj,fl,gp,ai,simprocAttr]
    refine af ?_ (hK _ ?_)<;>clear hK K
    ·first|exact trivial|omega|(simp only [ah] at *; omega)|(simp [ah] at *; omega)|simp_all
    refine qa ?_
    refine ⟨k + 1,List.range (i + 2),by omega,by omega,yR (c:=oe 1 n i (n - i)) (M:=A++[vI p m w j (k + 1)]) rfl rfl rfl (by simp [hAl]) (kM (by omega)) (by
     simp [St.get,lk,bg,bt]<;>omega)⟩
   (try simp only [aG] at hC4)
   have hkW:k=W:=by omega
   have hvn:v=vI p m w (j + 1) 0:=by rw [← hv,hkW,← hwl,Du]
   refine qj (qc (qc (qf (qd (qa ?_)))))
   refine ab fun K hK=>aa ae ?_
   simp only [aj,fl,gp,ai,simprocAttr]
   refine af ?_ (hK _ ?_)<;>clear hK K
   ·first|exact trivial|omega|(simp only [ah] at *; omega)|(simp [ah] at *; omega)|simp_all
   refine qa ?_
   refine ⟨j + 1,List.range (i + 2),by omega,by omega,yR (c:=oe 1 n i (n - i)) (M:=A++[v]) rfl (by rw [hvn]) rfl (by simp [hAl]) (kM (by omega)) (by
    simp [St.get,lk,bg,bt]<;>omega)⟩
  (try simp only [aG] at hC3)
  have hjW:j=W:=by omega
  have hve:vI p m w j 0=r7 p m w:=by rw [hjW,← hm,G6]
  have hnk:n - i=(n - i - 1) + 1:=by omega
  rw [hve]
  obtain ⟨v,hv⟩:∃ v,r7 p m w=v:=⟨_,rfl⟩
  have hvl:v.length=W:=by rw [← hv,rB,hm]
  rw [hv]
  obtain ⟨c,hc⟩:∃ c,n - i=c + 1:=⟨n - i - 1,by omega⟩
  rw [hc]
  have hvg:eG p v:=by rw [← hv]; exact AA (by omega) m w
  refine qj (qc (qc (qf (qa (qm ?_)))))
  refine ab fun K hK=>aa ae ?_
  simp only [aj,fl,gp,ai,simprocAttr,aD,hAl,List.length_append,cC,sZ,l6]
  refine af ?_ (hK _ ?_)<;>clear hK K
  ·omega
  refine qa (qm ?_)
  refine ab fun K hK=>aa ae ?_
  simp only [aj,fl,gp,ai,simprocAttr,aH,l1]
  refine af trivial (hK _ ?_)<;>clear hK K
  refine qa (ql ?_)
  refine aA (ι:=Nat) (fun q=>⟨224,[(0,.p (.int .i64 p)),(1,.p (.list (ll s'))),(2,.p (.list (ll m))),(7,.p (.list (il at'))),(8,.p (.int .i64 n)),(9,.sl 0 0 n),(10,.p (.int .i64 i)),(12,.sl (i + 1) 0 W),(47,.p (.list (ll s'))),(48,.p (.int .i64 n)),(49,.p (.int .i64 i)),(95,.p (.list (il at'))),(96,.p (.int .i64 n)),(97,.p (.int .i64 q))],.own (ca 1 n i++(.sl (i + 2) 0 n :: List.replicate c (.p .nil))) :: tl (A++[v]++[rl v at' q])⟩) (fun q=>q≤n) (fun q=>n - q) 0 (Nat.zero_le _) (List.range (i + 3)) (yR (c:=ca 1 n i++(.sl (i + 2) 0 n :: List.replicate c (.p .nil))) (M:=A++[v]++[List.replicate n 0]) rfl (by simp [rl,dp,l1,tl]) (by simp [tl]) (by simp [hAl]) (wE (by omega) (by omega)) (by
   simp [St.get,lk,bg,bt]<;>omega)) fun q hq=>?_
  obtain ⟨x,hx⟩:∃ x,rl v at' q=x:=⟨_,rfl⟩
  have hxl:x.length=n:=by rw [← hx,rl,bJ,List.length_replicate,l1]
  rw [hx]
  refine qm ?_
  refine ab fun K hK=>aa ae ?_
  simp only [aj,fl,gp,ai,simprocAttr]
  refine af trivial (hK _ ?_)<;>clear hK K
  refine qa (qm ?_)
  refine ao rfl (fun hC5=>?_) (fun hC5=>?_)
  ·(try simp only [aG] at hC5)
   have hqn:q < n:=by omega
   obtain ⟨t,ht⟩:∃ t:Nat,at'.getD q 0=(t:Int):=⟨(at'.getD q 0).toNat,by have:=l4 q (by omega); omega⟩
   have htW:t < W:=by have:=l4 q (by omega); omega
   have hgv:aq (tl (A++[v]++[x])) i = .own (ol v):=by rw [aV (by simp [hAl]<;>omega),ff _ _ (by simp [hAl]<;>omega),← hAl,cK]
   have hgx:aq (tl (A++[v]++[x])) (i + 1) = .own (ol x):=by rw [aV (by simp [hAl]),show i + 1=(A++[v]).length by simp [hAl],cK]
   have hsx:∀ y,aE (tl (A++[v]++[x])) (i + 1) (.own (ol y))=tl (A++[v]++[y]):=fun y=>by rw [iO,show i + 1=(A++[v]).length by simp [hAl],gS]
   have hst:x.set q (v.getD t 0)=rl v at' (q + 1):=by
    rw [← hx]
    have:=gz (f:=fun t=>v.getD (at'.getD t 0).toNat 0) (u:=List.replicate at'.length 0) (Nat.zero_le q) (by rw [List.length_replicate]; omega)
    rw [ht,Int.toNat_natCast] at this
    exact this
   have hcl:(ca 1 n i++(AV.sl (i + 2) 0 n :: List.replicate c (AV.p .nil))).length=n:=by simp [bx]; omega
   refine qh (qa (qm (ql (qm ?_))))
   refine ab fun K hK=>aa ae ?_
   simp only [aj,fl,gp,ai,simprocAttr,aL (show q < at'.length by omega),ht]
   refine af ?_ (hK _ ?_)<;>clear hK K
   ·omega
   refine qa ?_
   refine aT mixed (by kernel_rfl) fun K hK=>aa ae ?_
   simp only [aj,fl,gp,ai,simprocAttr,FR,hcl,dH,uJ,hgv,hgx,bP (show t < v.length by omega),eB,hsx,hst]
   refine af ?_ (hK _ ?_)<;>clear hK K
   ·omega
   refine qd (qa ?_)
   refine ab fun K hK=>aa ae ?_
   simp only [aj,fl,gp,ai,simprocAttr]
   refine af ?_ (hK _ ?_)<;>clear hK K
   ·first|exact trivial|omega|(simp only [ah] at *; omega)|(simp [ah] at *; omega)|simp_all
   refine qa ?_
   refine ⟨q + 1,List.range (i + 3),by omega,by omega,yR (c:=ca 1 n i++(.sl (i + 2) 0 n :: List.replicate c (.p .nil))) (M:=A++[v]++[rl v at' (q + 1)]) rfl rfl rfl (by simp [hAl]) (wE (by omega) (by omega)) (by
    simp [St.get,lk,bg,bt]<;>omega)⟩
  (try simp only [aG] at hC5)
  have hqn:q=n:=by omega
  have hxe:x=je p m at' w:=by rw [← hx,hqn,← hv,← l1,AW]
  have hA1:fy p m s' at' (i + 1)=A++[x]:=by rw [za,hA,hw,hxe]
  refine qj (qc (qc (qf (qd (qa ?_)))))
  refine ab fun K hK=>aa ae ?_
  simp only [aj,fl,gp,ai,simprocAttr]
  refine af ?_ (hK _ ?_)<;>clear hK K
  ·first|exact trivial|omega|(simp only [ah] at *; omega)|(simp [ah] at *; omega)|simp_all
  refine qa ?_
  refine ⟨i + 1,0 :: (List.range' 1 i++[i + 2]),by omega,by omega,?_⟩
  refine GQ (n:=n) (k:=c) (x:=x) (v:=v) hAl rfl ?_ rfl (by simp [kn,St.get,lk,Go.Pv.bl,bw,bg,bt])
  show _=_
  rw [hA1,show n - (i + 1)=c by omega]
 (try simp only [aG] at hC2)
 have hin:i=n:=by omega
 rw [hin,Nat.sub_self,uv]
 obtain ⟨a,ha⟩:∃ a,fy p m s' at' n=a:=⟨_,rfl⟩
 have hal:a.length=n:=by rw [← ha,lK]
 have har:∀ v∈a,v.length=n:=fun v hv=>by
  rw [← ha] at hv
  obtain ⟨t,_,rfl⟩:=List.mem_map.1 hv
  rw [jm,l1]
 have hag:∀ v∈a,eG p v:=fun v hv=>by
  rw [← ha] at hv
  obtain ⟨t,_,rfl⟩:=List.mem_map.1 hv
  exact rW (by omega) m at' _
 rw [ha]
 refine qj (qc (qc (qf (qa (qm ?_)))))
 refine lX 9 0 1 n hal har rfl (.inl (by omega)) rfl (fun i hi=>?_) fun H' a1 a2=>?_
 ·rw [Nat.add_comm 1 i,dH,aV (by omega)]
 have hHl:H'.length=n + 1:=by rw [a1]; simp [aD,hal]
 refine ab fun K hK=>aa ae ?_
 simp only [aj,fl,gp,ai,simprocAttr]
 refine af trivial (hK _ ?_)<;>clear hK K
 refine qa (qm ?_)
 refine bN 18 rfl ?_
 refine ab fun K hK=>aa ae ?_
 simp only [aj,fl,gp,ai,simprocAttr]
 refine af trivial (hK _ ?_)<;>clear hK K
 refine qa (qm (qm ?_))
 refine ab fun K hK=>aa ae ?_
 simp only [aj,fl,gp,ai,simprocAttr]
 refine af trivial (hK _ ?_)<;>clear hK K
 refine qa (ql ?_)
 refine aA (ι:=Nat × Int × List (List (List Int))) (fun x=>⟨224,[(0,.p (.int .i64 p)),(1,.p (.list (ll s'))),(8,.p (.int .i64 n)),(9,.p (.list (ll a))),(18,.sl 0 0 x.2.2.length),(19,.p (.int .i64 x.2.1)),(20,.p (.int .i64 x.1))],.own (gP 1 x.2.2) :: ir W 1 x.2.2⟩) (fun x=>x.1≤p∧-1000≤x.2.1∧x.2.1≤n∧x.2.2.length≤x.1∧im p s' a (p - x.1) x.2.1 x.1 x.2.2=im p s' a p n 0 []) (fun x=>p - x.1) (0,(n:Int),[]) ⟨Nat.zero_le _,by simp only; omega,by simp only; omega,Nat.le_refl _,rfl⟩ ((n + 1) :: (List.range' 1 (c5 [])++[])) (oP (W:=W) (Sp:=[]) rfl rfl (.inr (by simp [c5])) (by show aq (H'++[.own []]) (n + 1)=_; rw [← hHl]; exact bc H' _) (fun j hj=>by simp [c5] at hj) (by simp [kn,St.get,lk,Go.Pv.bl,bw,bg,bt,c5,hHl])) fun x hx=>?_
 obtain ⟨v,left,Out⟩:=x
 obtain ⟨x1,x2,x3,x4,x5⟩:=hx
 simp only at x1 x2 x3 x4 x5
 obtain ⟨z,hz⟩:∃ z,c5 Out=z:=⟨_,rfl⟩
 obtain ⟨X,hX⟩:∃ X,ir W 1 Out=X:=⟨_,rfl⟩
 have hXl:X.length=z:=by rw [← hX,cF,hz]
 rw [hX]
 refine qm (qm ?_)
 rcases Nat.lt_or_ge v p with hvp | hvp
 ·refine ab fun K hK=>aa ae ?_
  simp only [aj,fl,gp,ai,simprocAttr,decide_eq_true (show (v:Int) < (p:Int) by omega)]
  refine af trivial (hK _ ?_)<;>clear hK K
  refine qa ?_
  refine ao rfl (fun hC6=>?_) (fun hC6=>?_)
  ·(try simp only [aG] at hC6)
   have hlp:0 < left:=by simpa using hC6
   have hstep:=yh (s:=s') (a:=a) (out:=Out) hvp hlp
   rw [x5,hn] at hstep
   refine qh (qa (qm (ql (qm ?_))))
   refine ab fun K hK=>aa ae ?_
   simp only [aj,fl,gp,ai,simprocAttr,hXl,List.length_append]
   refine af ?_ (hK _ ?_)<;>clear hK K
   ·first|exact trivial|omega|(simp only [ah] at *; omega)|(simp [ah] at *; omega)|simp_all
   refine qa (qm (qm ?_))
   refine ab fun K hK=>aa ae ?_
   simp only [aj,fl,gp,ai,simprocAttr,aw,hal]
   refine af trivial (hK _ ?_)<;>clear hK K
   refine qa (ql ?_)
   refine aA (ι:=Nat) (fun i=>⟨224,[(0,.p (.int .i64 p)),(1,.p (.list (ll s'))),(8,.p (.int .i64 n)),(9,.p (.list (ll a))),(18,.sl 0 0 Out.length),(19,.p (.int .i64 left)),(20,.p (.int .i64 v)),(21,.sl (z + 1) 0 n),(127,.p (.int .i64 n)),(128,.p (.int .i64 i))],.own (gP 1 Out) :: (X++(.own (oe (z + 2) n i (n - i)) :: tl (kh p v a i)))⟩) (fun i=>i≤n) (fun i=>n - i) 0 (Nat.zero_le _) (List.range (z + 2)) (yQ (c:=List.replicate n (.p .nil)) (M:=[]) (X:=X) (o:=gP 1 Out) hXl rfl (by simp [pD,kh,tl]) rfl (by simp) (by rw [← pD 1 1]; exact kM (by omega)) (su (by omega)) (by rw [← hX]; exact sG (by omega)) (by
    simp [St.get,lk,bg,bt,hXl]<;>omega)) fun i hi=>?_
   obtain ⟨B,hB⟩:∃ B,kh p v a i=B:=⟨_,rfl⟩
   have hBl:B.length=i:=by rw [← hB,sY]
   rw [hB]
   refine qm ?_
   refine ab fun K hK=>aa ae ?_
   simp only [aj,fl,gp,ai,simprocAttr]
   refine af trivial (hK _ ?_)<;>clear hK K
   refine qa (qm ?_)
   refine ao rfl (fun hC7=>?_) (fun hC7=>?_)
   ·(try simp only [aG] at hC7)
    have hin:i < n:=by omega
    obtain ⟨r,hr⟩:∃ r,a.getD i []=r:=⟨_,rfl⟩
    have hrl:r.length=n:=by rw [← hr]; exact har _ (aC (by omega))
    have hrg:eG p r:=by rw [← hr]; exact hag _ (aC (by omega))
    have hrn:r ≠ []:=by intro e; rw [e] at hrl; simp at hrl; omega
    obtain ⟨c,hc⟩:∃ c,n - i=c + 1:=⟨n - i - 1,by omega⟩
    rw [hc]
    have hix:z + (i + 1) + 1=i + (z + 2):=by omega
    refine qh (qa (qm (ql (qm ?_))))
    refine ab fun K hK=>aa ae ?_
    simp only [aj,fl,gp,ai,simprocAttr]
    refine af trivial (hK _ ?_)<;>clear hK K
    refine qa (qm ?_)
    refine ab fun K hK=>aa ae ?_
    simp only [aj,fl,gp,ai,simprocAttr,aw,hal,cQ (show i < a.length by omega),hr,hrl,List.length_append,List.length_cons,hXl,aD,hBl,hix,List.append_assoc,List.cons_append,lU,Hn hXl,I6 hXl,sZ,pX,l6]
    refine an ?_ (iD (xp r hrn (by omega)) rfl rfl (by first|rfl|(simp [Cw,bg,bt,bF]; done)|(simp only [Cw,List.all_cons,List.all_nil,fC,Bool.and_true]; rfl)) (by simp only [au,Nat.reduceLT]) (by repeat (first|exact trivial|constructor)) (aa ae ?_))
    ·omega
    simp only [Go.Pv.gT,List.range',aM.bl,jS,bl,bw,aj,fl,gp,ai,simprocAttr,aw,hal,cQ (show i < a.length by omega),hr,hrl,List.length_append,List.length_cons,hXl,aD,hBl,hix,List.append_assoc,List.cons_append,lU,Hn hXl,I6 hXl,sZ,pX,l6]
    refine af ?_ (hK _ ?_)<;>clear hK K
    ·omega
    refine qa ?_
    have hBr:(B++[r]).getD i []=r:=by rw [← hBl,cK]
    have hsB:∀ y,(B++[r]).set i y=B++[y]:=fun y=>by rw [← hBl,gS]
    have hsb:r.set i ((r.getD i 0 - (v:Int)) % (p:Int))=zg p v a i:=by rw [zg,hr]
    have hri:=hrg i
    have ht1:=Int.lt_tmod_of_pos (r.getD i 0 - (v:Int)) (show (0:Int) < p by omega)
    have ht2:=Int.tmod_lt_of_pos (r.getD i 0 - (v:Int)) (show (0:Int) < p by omega)
    have hBS:kh p v a (i + 1)=B++[zg p v a i]:=by rw [B8,hB]
    refine aT mixed (by kernel_rfl) fun K hK=>aa ae ?_
    simp only [aj,fl,gp,ai,simprocAttr,l6,Dt (Nat.lt_succ_self i),Hn hXl,JA hXl _ _ (show i < (B++[r]).length by simp [hBl]),hBr,bP (show i < r.length by omega),zX (show 0 < p by omega),eB,J1 hXl,hsB,hsb]
    refine af ?_ (hK _ ?_)<;>clear hK K
    ·simp only [ah] at *; omega
    refine qd (qa ?_)
    refine ab fun K hK=>aa ae ?_
    simp only [aj,fl,gp,ai,simprocAttr]
    refine af ?_ (hK _ ?_)<;>clear hK K
    ·first|exact trivial|omega|(simp only [ah] at *; omega)|(simp [ah] at *; omega)|simp_all
    refine qa ?_
    refine ⟨i + 1,List.range (z + 2 + (i + 1)),by omega,by omega,yQ (c:=oe (z + 2) n (i + 1) c) (M:=B++[zg p v a i]) (X:=X) (o:=gP 1 Out) hXl rfl (by rw [hBS,show n - (i + 1)=c by omega]) rfl (by simp [hBl]; omega) (kM (by omega)) (su (by omega)) (by rw [← hX]; exact sG (by omega)) (by
     simp [St.get,lk,bg,bt]<;>omega)⟩
   (try simp only [aG] at hC7)
   have hin:i=n:=by omega
   rw [hin] at hB hBl ⊢
   rw [Nat.sub_self,uv]
   have hBr:∀ y∈B,y.length=n∧eG p y:=fun y hy=>by
    rw [← hB] at hy
    obtain ⟨t,ht,rfl⟩:=List.mem_map.1 hy
    have ht:=List.mem_range.1 ht
    exact ⟨by rw [sb]; exact har _ (aC (by omega)),vQ (by omega) (hag _ (aC (by omega)))⟩
   have hkr:=oJ hp2 hBl (fun v hv=>(hBr v hv).1) (fun v hv=>(hBr v hv).2)
   rw [hB] at hstep
   refine qj (qc (qc (qf (qa (qm ?_)))))
   refine lX 21 (z + 1) (z + 2) n hBl (fun v hv=>(hBr v hv).1) rfl (.inl (by omega)) (Hn hXl _ _ _) (fun i hi=>?_) fun H2 b1 b2=>?_
   ·rw [Nat.add_comm (z + 2) i]; exact JA hXl _ _ (by omega)
   have hg0:aq H2 0 = .own (gP 1 Out):=by rw [b2 0 (by omega) (by omega)]; rfl
   have hgj:∀ j,j < z→aq H2 (1 + j)=aq (ir W 1 Out) j:=fun j hj=>by
    rw [b2 (1 + j) (by omega) (by omega),Nat.add_comm 1 j,hX]
    show aq (X++_) j=_
    rw [aF (by omega)]
   have hH2:H2.length=z + 2 + n:=by rw [b1]; simp [hXl,aD,hBl]; omega
   obtain ⟨Kr,hKr⟩:∃ Kr,ec p B=Kr:=⟨_,rfl⟩
   rw [hKr] at hstep hkr
   refine ab fun K hK=>aa ae ?_
   simp only [aj,fl,gp,ai,simprocAttr]
   refine an trivial (ak (Ad hp2 hp (show 0 < n by omega) hn100 B hBl (fun v hv=>(hBr v hv).1) (fun v hv=>(hBr v hv).2)) rfl rfl rfl (by simp only [au,Nat.reduceLT]) (by repeat (first|exact trivial|constructor)) (aa ae ?_))
   simp only [aj,fl,gp,ai,simprocAttr,hKr]
   refine af trivial (hK _ ?_)<;>clear hK K
   refine qa (qm (qm ?_))
   refine ab fun K hK=>aa ae ?_
   simp only [aj,fl,gp,ai,simprocAttr,aw]
   refine af trivial (hK _ ?_)<;>clear hK K
   refine qa ?_
   refine ao rfl (fun hC8=>?_) (fun hC8=>?_)
   ·(try simp only [aG] at hC8)
    have hK0:Kr=[]:=List.length_eq_zero_iff.1 (by omega)
    rw [if_pos hK0] at hstep
    refine qj (qc (qf (qa ?_)))
    refine ab fun K hK=>aa ae ?_
    simp only [aj,fl,gp,ai,simprocAttr]
    refine af ?_ (hK _ ?_)<;>clear hK K
    ·first|exact trivial|omega|(simp only [ah] at *; omega)|(simp [ah] at *; omega)|simp_all
    refine qa ?_
    refine ⟨(v + 1,left,Out),0 :: (List.range' 1 (c5 Out)++[]),⟨by simp only; omega,by simp only; omega,by simp only; omega,by simp only; omega,hstep.symm⟩,by simp only; omega,?_⟩
    refine oP (W:=W) rfl rfl (.inl (by omega)) hg0 (by rw [hz]; exact hgj) (by simp [kn,St.get,lk,Go.Pv.bl,bw,bg,bt])
   (try simp only [aG] at hC8)
   have hK0:¬ Kr=[]:=fun e=>hC8 (by rw [e]; rfl)
   rw [if_neg hK0] at hstep
   refine qh (qa (qm ?_))
   refine ab fun K hK=>aa ae ?_
   simp only [aj,fl,gp,ai,simprocAttr,aw]
   refine af ?_ (hK _ ?_)<;>clear hK K
   ·simp only [ah]; omega
   refine qa (qm ?_)
   refine ab fun K hK=>aa ae ?_
   simp only [aj,fl,gp,ai,simprocAttr]
   refine af trivial (hK _ ?_)<;>clear hK K
   refine qa (qm (qm ?_))
   refine bN 24 rfl ?_
   refine ab fun K hK=>aa ae ?_
   simp only [aj,fl,gp,ai,simprocAttr,aw]
   refine af trivial (hK _ ?_)<;>clear hK K
   refine qa (ql ?_)
   have hs0:s'.getD 0 []∈s':=aC (by omega)
   have hs0l:(s'.getD 0 []).length=W:=l2 _ hs0
   have hcmr:∀ vv,vh p s' vv=qR p W s' vv vv.length:=fun vv=>by rw [vh,hs0l]
   obtain ⟨q,hq⟩:∃ q,Kr.length=q:=⟨_,rfl⟩
   obtain ⟨RW,hRW⟩:∃ RW,Kr.map (vh p s')=RW:=⟨_,rfl⟩
   have hRWl:RW.length=q:=by rw [← hRW,List.length_map,hq]
   rw [hq]
   rw [hq,hRW] at hstep
   refine aA (ι:=Nat) (fun k=>⟨224,[(0,.p (.int .i64 p)),(1,.p (.list (ll s'))),(8,.p (.int .i64 n)),(9,.p (.list (ll a))),(18,.sl 0 0 Out.length),(19,.p (.int .i64 (left - (q:Int)))),(20,.p (.int .i64 v)),(24,.sl (z + 1) 0 k),(171,.p (.list (ll Kr))),(172,.p (.int .i64 q)),(173,.p (.int .i64 k))],.own (gP 1 Out) :: (ir W 1 Out++(.own (ca (z + 2) W k) :: tl (RW.take k)))⟩) (fun k=>k≤q) (fun k=>q - k) 0 (Nat.zero_le _) (0 :: (List.range' 1 z++(H2.length :: List.range' (z + 1) 0))) (xB (W:=W) hz (M:=[]) rfl rfl (by simp [tl]) ⟨.inl (by omega),by omega,by omega,by omega,.inl (by omega),.inr (by omega)⟩ (by show aq (H2++_) 0=_; rw [aF (by omega)]; exact hg0) (fun j hj=>by show aq (H2++_) _=_; rw [aF (by omega)]; exact hgj j hj) (by show aq (H2++[.own []]) _=_; rw [bc]; rfl) (fun i hi=>absurd hi (Nat.not_lt_zero _)) (by
    have e1:(0 :: (List.range' 1 z++(H2.length :: List.range' (z + 1) 0))).getD (z + 1) 0=H2.length:=by
     have:=od (κ:=0) (n:=z) (r:=H2.length :: List.range' (z + 1) 0) (j:=0)
     rw [show 1 + z + 0=z + 1 by omega] at this
     exact this
    simp only [kn,St.get,lk,Go.Pv.bl,bw,bg,bt,e1]
    simp)) fun k hk=>?_
   rw [hX]
   obtain ⟨D,hD⟩:∃ D,RW.take k=D:=⟨_,rfl⟩
   have hDl:D.length=k:=by rw [← hD,List.length_take]; omega
   rw [hD]
   refine qm ?_
   refine ab fun K hK=>aa ae ?_
   simp only [aj,fl,gp,ai,simprocAttr]
   refine af trivial (hK _ ?_)<;>clear hK K
   refine qa (qm ?_)
   refine ao rfl (fun hC9=>?_) (fun hC9=>?_)
   ·(try simp only [aG] at hC9)
    have hkq:k < q:=by omega
    obtain ⟨vv,hvv⟩:∃ vv,Kr.getD k []=vv:=⟨_,rfl⟩
    have hvm:vv∈Kr:=by rw [← hvv]; exact aC (by omega)
    have hvl:vv.length=n:=(hkr.1 vv hvm).1
    have hvg:eG p vv:=(hkr.1 vv hvm).2
    have hRk:RW.take (k + 1)=D++[qR p W s' vv n]:=by
     rw [List.take_succ_eq_append_getElem (by omega),hD]
     congr 2
     have e:Kr[k]'(by omega)=vv:=by rw [← hvv]; simp [List.getD,List.getElem?_eq_getElem (show k < Kr.length by omega)]
     simp only [← hRW,List.getElem_map,e]
     rw [hcmr,hvl]
    refine qh (qa (qm (ql (qm ?_))))
    refine ab fun K hK=>aa ae ?_
    simp only [aj,fl,gp,ai,simprocAttr,aw,cQ (show k < Kr.length by omega),hvv]
    refine af ?_ (hK _ ?_)<;>clear hK K
    ·omega
    refine qa (qm ?_)
    refine ab fun K hK=>aa ae ?_
    simp only [aj,fl,gp,ai,simprocAttr,aw,cQ (show 0 < s'.length by omega),aH,hs0l,List.length_append,List.length_cons,hXl,aD,hDl,cC]
    refine af ?_ (hK _ ?_)<;>clear hK K
    ·omega
    refine qa (qm (qm ?_))
    refine ab fun K hK=>aa ae ?_
    simp only [aj,fl,gp,ai,simprocAttr,aH,hvl]
    refine af trivial (hK _ ?_)<;>clear hK K
    refine qa (ql ?_)
    have hDc:(ca (z + 2) W k).all (bg (z + 3 + k))=true:=jy (by omega)
    have hOc:(gP 1 Out).all (bg (z + 3 + k))=true:=su (by omega)
    have hXc:∀ b∈X,eD (z + 3 + k) b=true:=by rw [← hX]; exact sG (by omega)
    refine aA (ι:=Nat) (fun i=>⟨224,[(0,.p (.int .i64 p)),(1,.p (.list (ll s'))),(8,.p (.int .i64 n)),(9,.p (.list (ll a))),(18,.sl 0 0 Out.length),(19,.p (.int .i64 (left - (q:Int)))),(20,.p (.int .i64 v)),(24,.sl (z + 1) 0 k),(27,.sl (k + (z + 2)) 0 W),(171,.p (.list (ll Kr))),(172,.p (.int .i64 q)),(173,.p (.int .i64 k)),(182,.p (.list (il vv))),(183,.p (.int .i64 n)),(184,.p (.int .i64 i))],.own (gP 1 Out) :: (X++(.own (ca (z + 2) W k) :: tl (D++[qR p W s' vv i])))⟩) (fun i=>i≤n) (fun i=>n - i) 0 (Nat.zero_le _) (List.range (z + 3 + k)) (yQ (c:=ca (z + 2) W k) (M:=D++[qR p W s' vv 0]) (X:=X) (o:=gP 1 Out) hXl rfl (by simp [tl,qR]) (by simp [tl,qR]) (by simp [hDl]; omega) hDc hOc hXc (by
     simp [St.get,lk,bg,bt]<;>omega)) fun i hi=>?_
    obtain ⟨w0,hw0⟩:∃ w0,qR p W s' vv i=w0:=⟨_,rfl⟩
    have hw0l:w0.length=W:=by rw [← hw0,oq]
    have hw0g:eG p w0:=by rw [← hw0]; exact vn (by omega) _ _ _ _
    rw [hw0]
    refine qm ?_
    refine ab fun K hK=>aa ae ?_
    simp only [aj,fl,gp,ai,simprocAttr]
    refine af trivial (hK _ ?_)<;>clear hK K
    refine qa (qm ?_)
    refine ao rfl (fun hC10=>?_) (fun hC10=>?_)
    ·(try simp only [aG] at hC10)
     have hin:i < n:=by omega
     obtain ⟨b,hb⟩:∃ b,s'.getD i []=b:=⟨_,rfl⟩
     have hbl:b.length=W:=by rw [← hb]; exact l2 _ (aC (by omega))
     have hbg:eG p b:=by rw [← hb]; exact l3 _ (aC (by omega))
     obtain ⟨x,hx⟩:∃ x,vv.getD i 0=x:=⟨_,rfl⟩
     have hxg:0≤x∧x < p:=by rw [← hx]; exact hvg i
     refine qh (qa (qm (ql (qm ?_))))
     refine ab fun K hK=>aa ae ?_
     simp only [aj,fl,gp,ai,simprocAttr,aL (show i < vv.length by omega),hx]
     refine af ?_ (hK _ ?_)<;>clear hK K
     ·omega
     refine qa (qm ?_)
     refine ab fun K hK=>aa ae ?_
     simp only [aj,fl,gp,ai,simprocAttr,aw,cQ (show i < s'.length by omega),hb,aH,hbl]
     refine af ?_ (hK _ ?_)<;>clear hK K
     ·omega
     refine qa (ql ?_)
     refine aA (ι:=Nat) (fun j=>⟨224,[(0,.p (.int .i64 p)),(1,.p (.list (ll s'))),(8,.p (.int .i64 n)),(9,.p (.list (ll a))),(18,.sl 0 0 Out.length),(19,.p (.int .i64 (left - (q:Int)))),(20,.p (.int .i64 v)),(24,.sl (z + 1) 0 k),(27,.sl (k + (z + 2)) 0 W),(29,.p (.int .i64 x)),(171,.p (.list (ll Kr))),(172,.p (.int .i64 q)),(173,.p (.int .i64 k)),(182,.p (.list (il vv))),(183,.p (.int .i64 n)),(184,.p (.int .i64 i)),(192,.p (.list (il b))),(193,.p (.int .i64 W)),(194,.p (.int .i64 j))],.own (gP 1 Out) :: (X++(.own (ca (z + 2) W k) :: tl (D++[cU (F6 p x w0 b) 0 j w0])))⟩) (fun j=>j≤W) (fun j=>W - j) 0 (Nat.zero_le _) (List.range (z + 3 + k)) (yQ (c:=ca (z + 2) W k) (M:=D++[w0]) (X:=X) (o:=gP 1 Out) hXl rfl (by rw [dp]) rfl (by simp [hDl]; omega) hDc hOc hXc (by
      simp [St.get,lk,bg,bt]<;>omega)) fun j hj=>?_
     obtain ⟨y,hy⟩:∃ y,cU (F6 p x w0 b) 0 j w0=y:=⟨_,rfl⟩
     have hyl:y.length=W:=by rw [← hy,bJ,hw0l]
     rw [hy]
     refine qm ?_
     refine ab fun K hK=>aa ae ?_
     simp only [aj,fl,gp,ai,simprocAttr]
     refine af trivial (hK _ ?_)<;>clear hK K
     refine qa (qm ?_)
     refine ao rfl (fun hC11=>?_) (fun hC11=>?_)
     ·(try simp only [aG] at hC11)
      have hjW:j < W:=by omega
      have hyj:y.getD j 0=w0.getD j 0:=by rw [← hy,dz (by omega),if_neg (by omega)]
      have hDy:(D++[y]).getD k []=y:=by rw [← hDl,cK]
      have hDs:∀ u,(D++[y]).set k u=D++[u]:=fun u=>by rw [← hDl,gS]
      have hst:y.set j ((w0.getD j 0 + x * b.getD j 0) % (p:Int))=cU (F6 p x w0 b) 0 (j + 1) w0:=by
       rw [← hy]; exact gz (f:=F6 p x w0 b) (Nat.zero_le j) (by omega)
      have hm1:=ku hp hxg.1 hxg.2 (hbg j).1 (hbg j).2
      have hwj:=hw0g j
      have htm:Int.tmod (w0.getD j 0 + x * b.getD j 0) p=(w0.getD j 0 + x * b.getD j 0) % p:=Int.tmod_eq_emod_of_nonneg (by omega)
      refine qh (qa (qm (ql (qm ?_))))
      refine ab fun K hK=>aa ae ?_
      simp only [aj,fl,gp,ai,simprocAttr,aL (show j < b.length by omega)]
      refine af ?_ (hK _ ?_)<;>clear hK K
      ·omega
      refine qa ?_
      refine ab fun K hK=>aa ae ?_
      simp only [aj,fl,gp,ai,simprocAttr,JA hXl _ _ (show k < (D++[y]).length by simp [hDl]),hDy,bP (show j < y.length by omega),hyj,htm,eB,J1 hXl,hDs,hst]
      refine af ?_ (hK _ ?_)<;>clear hK K
      ·simp only [ah] at *; omega
      refine qd (qa ?_)
      refine ab fun K hK=>aa ae ?_
      simp only [aj,fl,gp,ai,simprocAttr]
      refine af ?_ (hK _ ?_)<;>clear hK K
      ·first|exact trivial|omega|(simp only [ah] at *; omega)|(simp [ah] at *; omega)|simp_all
      refine qa ?_
      refine ⟨j + 1,List.range (z + 3 + k),by omega,by omega,yQ (c:=ca (z + 2) W k) (M:=D++[cU (F6 p x w0 b) 0 (j + 1) w0]) (X:=X) (o:=gP 1 Out) hXl rfl rfl rfl (by simp [hDl]; omega) hDc hOc hXc (by
       simp [St.get,lk,bg,bt]<;>omega)⟩
     (try simp only [aG] at hC11)
     have hjW:j=W:=by omega
     have hye:qR p W s' vv (i + 1)=y:=by rw [qR,hw0,hx,hb,Hu,hw0l,← hjW,hy]
     refine qj (qc (qc (qf (qd (qa ?_)))))
     refine ab fun K hK=>aa ae ?_
     simp only [aj,fl,gp,ai,simprocAttr]
     refine af ?_ (hK _ ?_)<;>clear hK K
     ·first|exact trivial|omega|(simp only [ah] at *; omega)|(simp [ah] at *; omega)|simp_all
     refine qa ?_
     refine ⟨i + 1,List.range (z + 3 + k),by omega,by omega,yQ (c:=ca (z + 2) W k) (M:=D++[y]) (X:=X) (o:=gP 1 Out) hXl rfl (by rw [hye]) rfl (by simp [hDl]; omega) hDc hOc hXc (by
      simp [St.get,lk,bg,bt]<;>omega)⟩
    (try simp only [aG] at hC10)
    have hin:i=n:=by omega
    rw [hin] at hw0
    rw [hw0] at hRk
    obtain ⟨T,hT⟩:∃ T,tl (D++[w0])=T:=⟨_,rfl⟩
    have hTl:T.length=k + 1:=by rw [← hT,aD]; simp [hDl]
    have hrw:List.take k (ca (z + 2) W k)=ca (z + 2) W k:=lJ rfl
    rw [hT]
    refine qj (qc (qc (qf (qa ?_))))
    refine ab fun K hK=>aa ae ?_
    simp only [aj,fl,gp,ai,simprocAttr,List.append_assoc,List.cons_append,hXl,hTl,List.length_append,List.length_cons,Hn hXl,I6 hXl,Hz hXl hTl,hrw,gi,bx]
    refine an ?_ (eT (cu ae rfl rfl rfl rfl rfl rfl) rfl (by simp only [au,Nat.reduceLT]) (aa ae ?_))
    ·first|exact trivial|omega|(simp only [ah] at *; omega)|(simp [ah] at *; omega)|simp_all
    simp only [aj,fl,gp,ai,simprocAttr,hXl,hTl,List.length_append,List.length_cons,List.append_assoc,List.cons_append,hXl,hTl,List.length_append,List.length_cons,Hn hXl,I6 hXl,Hz hXl hTl,hrw,gi,bx]
    refine af ?_ (hK _ ?_)<;>clear hK K
    ·exact ⟨vl _ _ _,by omega,by omega,by omega⟩
    refine qd (qa ?_)
    refine ab fun K hK=>aa ae ?_
    simp only [aj,fl,gp,ai,simprocAttr]
    refine af ?_ (hK _ ?_)<;>clear hK K
    ·first|exact trivial|omega|(simp only [ah] at *; omega)|(simp [ah] at *; omega)|simp_all
    refine qa ?_
    refine ⟨k + 1,0 :: (List.range' 1 z++((z + (k + 1 + 1 + 1) + 1) :: List.range' (z + 2) (k + 1))),by omega,by omega,?_⟩
    rw [hRk]
    refine xB (W:=W) hz (M:=D++[w0]) (by simp [hDl]) rfl (by rw [hX]) ⟨.inl (by omega),by omega,by omega,by omega,.inl (by omega),.inr (by omega)⟩ rfl (fun j hj=>?_) (JO hXl hTl _ _ _ _) (fun i hi=>?_) ?_
    ·rw [Nat.add_comm 1 j,hX]
     show aq (X++_) j=_
     rw [aF (by omega)]
    ·refine (Kf hXl (by omega) _ _ _).trans ?_
     rw [← hT,aV (by simp [hDl]; omega)]
    have e1:(0 :: (List.range' 1 z++((z + (k + 1 + 1 + 1) + 1) :: List.range' (z + 2) (k + 1)))).getD (z + 1) 0=z + (k + 1 + 1 + 1) + 1:=by
     have:=od (κ:=0) (n:=z) (r:=(z + (k + 1 + 1 + 1) + 1) :: List.range' (z + 2) (k + 1)) (j:=0)
     rw [show 1 + z + 0=z + 1 by omega] at this
     exact this
    simp only [kn,St.get,lk,Go.Pv.bl,bw,bg,bt,e1]
    simp
   (try simp only [aG] at hC9)
   have hkq:k=q:=by omega
   have hDR:D=RW:=by rw [← hD,hkq,← hRWl,List.take_length]
   rw [hkq,hDR]
   have hht:List.take Out.length (gP 1 Out)=gP 1 Out:=List.take_of_length_le (by rw [r9]; exact Nat.le_refl _)
   have hsn:gP 1 Out++[.sl (z + 1) 0 q]=gP 1 (Out++[RW]):=by rw [zL,hz,hRWl,Nat.add_comm 1 z]
   have htR:(tl RW).length=q:=by rw [aD,hRWl]
   refine qj (qc (qc (qf (qa ?_))))
   refine ab fun K hK=>aa ae ?_
   simp only [aj,fl,gp,ai,simprocAttr,List.append_assoc,List.cons_append,hXl,htR,List.length_append,List.length_cons,Hz hXl htR,hht,hsn,r9]
   refine an ?_ (eT (cu ae rfl rfl rfl rfl rfl rfl) rfl (by simp only [au,Nat.reduceLT]) (aa ae ?_))
   ·first|exact trivial|omega|(simp only [ah] at *; omega)|(simp [ah] at *; omega)|simp_all
   simp only [aj,fl,gp,ai,simprocAttr,hXl,htR,List.length_append,List.length_cons,List.append_assoc,List.cons_append,hXl,htR,List.length_append,List.length_cons,Hz hXl htR,hht,hsn,r9]
   refine af ?_ (hK _ ?_)<;>clear hK K
   ·exact ⟨G7 _ _,by omega,by omega,by omega⟩
   refine qd (qa ?_)
   refine ab fun K hK=>aa ae ?_
   simp only [aj,fl,gp,ai,simprocAttr]
   refine af ?_ (hK _ ?_)<;>clear hK K
   ·first|exact trivial|omega|(simp only [ah] at *; omega)|(simp [ah] at *; omega)|simp_all
   refine qa ?_
   have hzS:c5 (Out++[RW])=z + (1 + q):=by rw [BX,hz,hRWl]
   refine ⟨(v + 1,left - (q:Int),Out++[RW]),(z + (q + 1 + 1) + 1) :: (List.range' 1 (c5 (Out++[RW]))++[]),⟨by simp only; omega,by simp only; omega,by simp only; omega,by simp only [List.length_append,List.length_singleton]; omega,hstep.symm⟩,by simp only; omega,?_⟩
   have hch:ir W 1 (Out++[RW])=X++(.own (ca (z + 2) W q) :: tl RW):=by rw [zP,hX,hz,hRWl,show 1 + z + 1=z + 2 by omega]
   refine oP (W:=W) rfl rfl (.inr (by omega)) (JO hXl htR _ _ _ _) (fun j hj=>?_) (by simp [kn,St.get,lk,Go.Pv.bl,bw,bg,bt])
   rw [Nat.add_comm 1 j,hch]
   show aq (X++(_ :: (tl RW++_))) j=_
   rw [← List.cons_append,← List.append_assoc,aF (by simp [hXl,htR]; omega)]
  (try simp only [aG] at hC6)
  refine qj (qc (qc (qf (qa (qm ?_)))))
  refine ab fun K hK=>aa ae ?_
  simp only [aj,fl,gp,ai,simprocAttr]
  refine af trivial (hK _ ?_)<;>clear hK K
  refine qa (qk ?_)
  simp only [Tryd.results44,o9,o0,mN,Cp,js,aj,fl,gp,ai,simprocAttr]
  have hR:im p s' a p n 0 []=Out:=by rw [← x5]; exact mB (by first|(left; omega)|(right; simp at hC6; omega))
  rw [hR]
  refine ⟨0 :: (List.range' 1 (c5 Out)++[]),rfl,by simp [bg,bt],oP (W:=W) rfl rfl (.inl (by omega)) rfl (fun j hj=>?_) trivial⟩
  rw [Nat.add_comm 1 j,hX]; rfl
 refine ab fun K hK=>aa ae ?_
 simp only [aj,fl,gp,ai,simprocAttr,decide_eq_false (show ¬ (v:Int) < (p:Int) by omega)]
 refine af trivial (hK _ ?_)<;>clear hK K
 refine qa ?_
 refine ao rfl (fun hC6=>?_) (fun hC6=>?_)
 ·cases hC6
 refine qj (qc (qc (qf (qa (qm ?_)))))
 refine ab fun K hK=>aa ae ?_
 simp only [aj,fl,gp,ai,simprocAttr]
 refine af trivial (hK _ ?_)<;>clear hK K
 refine qa (qk ?_)
 simp only [Tryd.results44,o9,o0,mN,Cp,js,aj,fl,gp,ai,simprocAttr]
 have hR:im p s' a p n 0 []=Out:=by rw [← x5]; exact mB (by first|(left; omega)|(right; simp at hC6; omega))
 rw [hR]
 refine ⟨0 :: (List.range' 1 (c5 Out)++[]),rfl,by simp [bg,bt],oP (W:=W) rfl rfl (.inl (by omega)) rfl (fun j hj=>?_) trivial⟩
 rw [Nat.add_comm 1 j,hX]; rfl
section
variable {n:Nat} {f:Nat→Nat→Nat} {e:Nat}
end
theorem tZ (m:List Int) (n e:Nat):(yx m n e).length=n:=vZ _ _
theorem Av (m:List Int) {n e a:Nat} (ha:a < n):(yx m n e).getD a 0=((ord n (op m n) e a:Nat):Int):=Gt _ ha
open Go.Pv
def fL (m:List Int) (n e:Nat):Nat→Nat
 | 0=>1
 | i + 1=>Nat.lcm (fL m n e i) (ord n (op m n) e i)
theorem jz {m:List Int} {n e:Nat} (h:GT n m n e):∀ i,i≤n→fL m n e i ∣ n
 | 0,_=>Nat.one_dvd n
 | i + 1,hi=>Nat.lcm_dvd (jz h i (by omega)) (h.2.2.CG (by omega))
theorem pU {m:List Int} {n e:Nat} (h:GT n m n e) {i:Nat} (hi:i≤n):1≤fL m n e i∧fL m n e i≤60:=by
 have hp:=h.2.1.pos
 have hb:=h.2.1.big
 have hd:=jz h i hi
 exact ⟨Nat.pos_of_dvd_of_pos hd hp,Nat.le_trans (Nat.le_of_dvd hp hd) hb⟩
theorem tO {n e:Nat} {m:List Int} (h:GT n m n e):bR Tryd.prog 75 [gp n m] (.tup [.int .i64 (fL m n e n:Nat),fl (0,0)]):=by
 have G:=h.2.2
 have hb:=h.2.1.big
 have ll:=tZ m n e
 refine aI ae Tryd.func75 rfl (by kernel_rfl) (by rw [Tryd.ntmps75]; exact Nat.le_add_left 1 _) ?_; rw [Tryd.ntmps75]
 refine qm ?_
 refine ab fun K hK=>aa ae ?_
 simp only [aj,fl,gp,ai,simprocAttr]
 refine af ?_ (hK _ ?_)<;>clear hK K
 ·first|exact trivial|omega|(simp only [ah] at *; omega)|(simp [ah] at *; omega)|simp_all
 refine qa (qm ?_)
 refine ab fun K hK=>aa ae ?_
 simp only [aj,fl,gp,ai,simprocAttr]
 refine an trivial (ak (y7 h) rfl rfl rfl (by simp only [au,Nat.reduceLT]) (by repeat (first|exact trivial|constructor)) (aa ae ?_))
 simp only [aj,fl,gp,ai,simprocAttr]
 refine af ?_ (hK _ ?_)<;>clear hK K
 ·first|exact trivial|omega|(simp only [ah] at *; omega)|(simp [ah] at *; omega)|simp_all
 refine qa (qm (qm ?_))
 refine ab fun K hK=>aa ae ?_
 simp only [aj,fl,gp,ai,simprocAttr]
 refine af ?_ (hK _ ?_)<;>clear hK K
 ·first|exact trivial|omega|(simp only [ah] at *; omega)|(simp [ah] at *; omega)|simp_all
 refine qa ?_
 refine ao rfl (fun hC1=>?_) (fun hC1=>?_)
 ·cases hC1
 (try simp only [aG] at hC1)
 refine qh (qa (qm ?_))
 refine ab fun K hK=>aa ae ?_
 simp only [aj,fl,gp,ai,simprocAttr]
 refine af trivial (hK _ ?_)<;>clear hK K
 refine qa (qm (qm ?_))
 refine ab fun K hK=>aa ae ?_
 simp only [aj,fl,gp,ai,simprocAttr,tZ]
 refine af trivial (hK _ ?_)<;>clear hK K
 refine qa (ql ?_)
 refine aA (ι:=Nat) (fun i=>⟨37,[(3,.ptr 0 0),(5,.ptr 1 0),(6,.p (.int .i64 (fL m n e i:Nat))),(19,.p (.list (il (yx m n e)))),(20,.p (.int .i64 n)),(21,.p (.int .i64 i))],[.own [.p (.int .i64 0),.p (.int .i64 0)],.own [.p (.int .i64 0),.p (.int .i64 0)]]⟩) (fun i=>i≤n) (fun i=>n - i) 0 (Nat.zero_le _) [1,2] (by simp only [leq,bf,aj,fl,gp,ai,simprocAttr]<;>trivial) fun i hi=>?_
 refine qm ?_
 refine ab fun K hK=>aa ae ?_
 simp only [aj,fl,gp,ai,simprocAttr]
 refine af trivial (hK _ ?_)<;>clear hK K
 refine qa (qm ?_)
 refine ao rfl (fun hC2=>?_) (fun hC2=>?_)
 ·(try simp only [aG] at hC2)
  have hlt:i < n:=by omega
  have hg:=Av m (e:=e) hlt
  have o1:=G.oA hlt
  obtain ⟨e1,e2⟩:=pU h hi
  obtain ⟨_,l2⟩:=pU h (show i + 1≤n from hlt)
  have hL:fL m n e (i + 1)=Nat.lcm (fL m n e i) (ord n (op m n) e i):=rfl
  obtain ⟨q,hq⟩:=Nat.dvd_lcm_left (fL m n e i) (ord n (op m n) e i)
  have hdo:=Nat.dvd_lcm_right (fL m n e i) (ord n (op m n) e i)
  have hleast:∀ j,ord n (op m n) e i ∣ fL m n e i * j→Nat.lcm (fL m n e i) (ord n (op m n) e i) ∣ fL m n e i * j:=fun j hj=>Nat.lcm_dvd (Nat.dvd_mul_right _ _) hj
  rw [hL] at l2
  rw [hq] at l2 hdo hleast hL
  have hq1:1≤q:=by
   rcases Nat.eq_zero_or_pos q with h0 | h0
   ·subst h0
    have:=(pU h (show i + 1≤n from hlt)).1
    rw [hL] at this; omega
   exact h0
  generalize hx:fL m n e i=x at *
  refine qh (qa (qm (ql (qm ?_))))
  refine ab fun K hK=>aa ae ?_
  simp only [aj,fl,gp,ai,simprocAttr,aL (show i < (yx m n e).length by omega),hg]
  refine af ?_ (hK _ ?_)<;>clear hK K
  ·first|exact trivial|omega|(simp only [ah] at *; omega)|(simp [ah] at *; omega)|simp_all
  refine qa (qm ?_)
  refine ab fun K hK=>aa ae ?_
  simp only [aj,fl,gp,ai,simprocAttr]
  refine af trivial (hK _ ?_)<;>clear hK K
  refine qa (qm (ql ?_))
  refine aA (ι:=Nat) (fun j=>⟨37,[(3,.ptr 0 0),(5,.ptr 1 0),(6,.p (.int .i64 (x:Nat))),(8,.p (.int .i64 (ord n (op m n) e i:Nat))),(9,.p (.int .i64 (x * j:Nat))),(19,.p (.list (il (yx m n e)))),(20,.p (.int .i64 n)),(21,.p (.int .i64 i))],[.own [.p (.int .i64 0),.p (.int .i64 0)],.own [.p (.int .i64 0),.p (.int .i64 0)]]⟩) (fun j=>1≤j∧j≤q) (fun j=>q - j) 1 ⟨Nat.le_refl _,hq1⟩ [0,1] (by rw [Nat.mul_one]; simp only [leq,bf,aj,fl,gp,ai,simprocAttr]<;>trivial) fun j hj=>?_
  obtain ⟨hj1,hj2⟩:=hj
  have hxj:x * j≤x * q:=Nat.mul_le_mul_left _ hj2
  refine qm (qm ?_)
  refine ab fun K hK=>aa ae ?_
  simp only [aj,fl,gp,ai,simprocAttr,zW]
  refine af ?_ (hK _ ?_)<;>clear hK K
  ·omega
  refine qa ?_
  refine ao rfl (fun hC3=>?_) (fun hC3=>?_)
  ·(try simp only [aG] at hC3)
   have hjq:j ≠ q:=by
    intro hh
    subst hh
    have:=Nat.mod_eq_zero_of_dvd hdo
    omega
   refine qh (qa (ql ?_))
   refine ab fun K hK=>aa ae ?_
   simp only [aj,fl,gp,ai,simprocAttr]
   refine af ?_ (hK _ ?_)<;>clear hK K
   ·first|exact trivial|omega|(simp only [ah] at *; omega)|(simp [ah] at *; omega)|simp_all
   refine qd (qa ?_)
   refine ⟨j + 1,[0,1],⟨by omega,by omega⟩,by omega,?_⟩
   rw [Nat.mul_succ]
   simp only [leq,bf,aj,fl,gp,ai,simprocAttr]<;>first|trivial|omega
  (try simp only [aG] at hC3)
  have hjq:j=q:=by
   have hd:=hleast j (Nat.dvd_of_mod_eq_zero (by omega))
   have hpos:0 < x * j:=Nat.mul_pos e1 hj1
   have:=Nat.le_of_dvd hpos hd
   have:=Nat.le_of_mul_le_mul_left this e1
   omega
  refine qj (qc (qc (qf (qa ?_))))
  refine ab fun K hK=>aa ae ?_
  simp only [aj,fl,gp,ai,simprocAttr]
  refine af trivial (hK _ ?_)<;>clear hK K
  refine qd (qa ?_)
  refine ab fun K hK=>aa ae ?_
  simp only [aj,fl,gp,ai,simprocAttr]
  refine af ?_ (hK _ ?_)<;>clear hK K
  ·first|exact trivial|omega|(simp only [ah] at *; omega)|(simp [ah] at *; omega)|simp_all
  refine qa ?_
  refine ⟨i + 1,[0,1],by omega,by omega,?_⟩
  rw [hL,← hjq]
  simp only [leq,bf,aj,fl,gp,ai,simprocAttr]<;>first|trivial|omega
 (try simp only [aG] at hC2)
 have hin:i=n:=by omega
 refine qj (qc (qc (qf (qa (qm ?_)))))
 refine aT mixed (by kernel_rfl) fun K hK=>aa ae ?_
 simp only [aj,fl,gp,ai,simprocAttr]
 refine af ?_ (hK _ ?_)<;>clear hK K
 ·first|exact trivial|omega|(simp only [ah] at *; omega)|(simp [ah] at *; omega)|simp_all
 refine qa (qk ?_)
 simp only [Tryd.results75,bG,aj,fl,gp,ai,simprocAttr]
 all_goals (rw [hin])
def zF (E N k:Nat):Bool:=decide (2 * N < E * (k + 1) + 1) && qi (E * (k + 1) + 1)
def yH (E N:Nat):Nat:=(bQ (zF E N) 200).getD 0
def Cx (E N:Nat):Nat:=E * (yH E N + 1) + 1
def Ie:Bool:=(List.range 61).all fun N=>(List.range 61).all fun E=>decide (N=0) || decide (¬ N % E=0) || (bQ (zF E N) 200).isSome
theorem De:Ie=true:=by decide +kernel
theorem GD {E N:Nat} (h1:1≤N) (h2:N≤60) (hd:E ∣ N):bQ (zF E N) 200=some (yH E N):=by
 have h:=List.all_eq_true.1 De N (List.mem_range.2 (by omega))
 have hE:=Nat.le_of_dvd (by omega) hd
 have h:=List.all_eq_true.1 h E (List.mem_range.2 (by omega))
 simp only [Bool.or_eq_true,decide_eq_true_eq] at h
 rcases h with (h | h) | h
 ·omega
 ·exact absurd (Nat.mod_eq_zero_of_dvd hd) h
 unfold yH
 obtain ⟨k,hk⟩:=Option.isSome_iff_exists.1 h
 rw [hk]; rfl
theorem tc {E N:Nat} (h1:1≤N) (h2:N≤60) (hd:E ∣ N):yH E N < 200∧zF E N (yH E N)=true∧∀ j,j < yH E N→zF E N j=false:=cH (GD h1 h2 hd)
theorem GN {E N:Nat} (h1:1≤N) (h2:N≤60) (hd:E ∣ N):2 * N < Cx E N∧Cx E N≤20000∧qi (Cx E N)=true:=by
 obtain ⟨k1,k2,_⟩:=tc h1 h2 hd
 have hE:=Nat.le_of_dvd (by omega) hd
 have:=Nat.mul_le_mul hE (show yH E N + 1≤200 by omega)
 simp only [zF,Bool.and_eq_true,decide_eq_true_eq] at k2
 exact ⟨k2.1,by unfold Cx; omega,k2.2⟩
theorem yk {n e:Nat} {m:List Int} (h:GT n m n e):bR Tryd.prog 43 [gp n m] (.int .i64 (Cx (fL m n e n) n:Nat)):=by
 have hb:=h.2.1.big
 have hp:=h.2.1.pos
 have hd:=jz h n (Nat.le_refl _)
 obtain ⟨k1,k2,k3⟩:=tc hp hb hd
 have hEl:=Nat.le_of_dvd (by omega) hd
 have hmr:Cx (fL m n e n) n=fL m n e n * (yH (fL m n e n) n + 1) + 1:=rfl
 have hexp:=tO h
 generalize fL m n e n=E at *
 have e0:(E:Int) + 1=((E * (0 + 1) + 1:Nat):Int):=by simp
 refine aI ae Tryd.func43 rfl (by kernel_rfl) (by rw [Tryd.ntmps43]; exact Nat.le_add_left 1 _) ?_; rw [Tryd.ntmps43]
 refine qm ?_
 refine ab fun K hK=>aa ae ?_
 simp only [aj,fl,gp,ai,simprocAttr]
 refine af ?_ (hK _ ?_)<;>clear hK K
 ·first|exact trivial|omega|(simp only [ah] at *; omega)|(simp [ah] at *; omega)|simp_all
 refine qa (qm ?_)
 refine ab fun K hK=>aa ae ?_
 simp only [aj,fl,gp,ai,simprocAttr]
 refine an trivial (ak (hexp) rfl rfl rfl (by simp only [au,Nat.reduceLT]) (by repeat (first|exact trivial|constructor)) (aa ae ?_))
 simp only [aj,fl,gp,ai,simprocAttr]
 refine af ?_ (hK _ ?_)<;>clear hK K
 ·first|exact trivial|omega|(simp only [ah] at *; omega)|(simp [ah] at *; omega)|simp_all
 refine qa (qm ?_)
 refine ab fun K hK=>aa ae ?_
 simp only [aj,fl,gp,ai,simprocAttr,e0]
 refine af ?_ (hK _ ?_)<;>clear hK K
 ·first|exact trivial|omega|(simp only [ah] at *; omega)|(simp [ah] at *; omega)|simp_all
 refine qa (qm (ql ?_))
 refine aA (ι:=Nat) (fun k=>⟨27,[(1,.ptr 0 0),(3,.p (.int .i64 E)),(5,.p (.int .i64 (E * (k + 1) + 1:Nat)))],[.own [.p (.int .i64 n),.p (.list (il m))]]⟩) (fun k=>k≤yH E n) (fun k=>yH E n - k) 0 (Nat.zero_le _) [0] (by simp only [leq,bf,aj,fl,gp,ai,simprocAttr]) fun k hk=>?_
 have hEk:E * (k + 1)≤60 * 200:=Nat.mul_le_mul (by omega) (by omega)
 obtain ⟨q,hq⟩:∃ q,E * (k + 1) + 1=q:=⟨_,rfl⟩
 have hpr:=DS (p:=q) (by omega)
 have hmc:zF E n k=(decide (2 * n < q) && qi q):=by rw [zF,hq]
 have hnx:E * (k + 1 + 1)=E * (k + 1) + E:=Nat.mul_succ _ _
 rw [hq]
 refine qm (qm ?_)
 rcases Nat.lt_or_ge (2 * n) q with hlt | hlt
 ·refine ab fun K hK=>aa ae ?_
  simp only [aj,fl,gp,ai,simprocAttr,decide_eq_false (show ¬ (q:Int)≤2 * (n:Int) by omega)]
  refine an ?_ (ak (hpr) rfl rfl rfl (by simp only [au,Nat.reduceLT]) (by repeat (first|exact trivial|constructor)) (aa ae ?_))
  ·(first|omega|(simp only [ah] at *; done)|(simp only [ah] at *; omega))
  simp only [aj,fl,gp,ai,simprocAttr,decide_eq_false (show ¬ (q:Int)≤2 * (n:Int) by omega)]
  refine af ?_ (hK _ ?_)<;>clear hK K
  ·first|exact trivial|omega|(simp only [ah] at *; omega)|(simp [ah] at *; omega)|simp_all
  refine qa ?_
  refine ao rfl (fun hC1=>?_) (fun hC1=>?_)
  ·(try simp only [aG] at hC1)
   have hmf:zF E n k=false:=by
    rw [hmc]
    cases hb:qi q with
    | false=>simp
    | true=>rw [hb] at hC1; simp at hC1
   have hkl:k < yH E n:=by
    refine Nat.lt_of_le_of_ne hk fun e=>?_
    rw [e,k2] at hmf; cases hmf
   refine qh (qa (ql ?_))
   refine ab fun K hK=>aa ae ?_
   simp only [aj,fl,gp,ai,simprocAttr]
   refine af ?_ (hK _ ?_)<;>clear hK K
   ·(first|omega|(simp only [ah] at *; done)|(simp only [ah] at *; omega))
   refine qd (qa ?_)
   refine ⟨k + 1,[0],by omega,by omega,by simp only [leq,bf,aj,fl,gp,ai,simprocAttr]<;>omega⟩
  (try simp only [aG] at hC1)
  have hmt:zF E n k=true:=by
   rw [hmc,decide_eq_true hlt,Bool.true_and]
   cases hb:qi q with
   | true=>rfl
   | false=>rw [hb] at hC1; simp at hC1
  have hkl:k=yH E n:=by
   refine Nat.le_antisymm hk (Nat.le_of_not_lt fun hl=>?_)
   rw [k3 k hl] at hmt; cases hmt
  refine qj (qc (qc (qf (qa (qm ?_)))))
  refine ab fun K hK=>aa ae ?_
  simp only [aj,fl,gp,ai,simprocAttr]
  refine af trivial (hK _ ?_)<;>clear hK K
  refine qa (qk ?_)
  simp only [Tryd.results43,bG,aj,fl,gp,ai,simprocAttr]
  congr 2
  rw [hmr,← hkl,hq]
 refine ab fun K hK=>aa ae ?_
 simp only [aj,fl,gp,ai,simprocAttr,decide_eq_true (show (q:Int)≤2 * (n:Int) by omega)]
 refine af ?_ (hK _ ?_)<;>clear hK K
 ·first|exact trivial|omega|(simp only [ah] at *; omega)|(simp [ah] at *; omega)|simp_all
 refine qa ?_
 refine ao rfl (fun hC1=>?_) (fun hC1=>?_)
 ·have hmf:zF E n k=false:=by rw [hmc,decide_eq_false (by omega),Bool.false_and]
  have hkl:k < yH E n:=by
   refine Nat.lt_of_le_of_ne hk fun e=>?_
   rw [e,k2] at hmf; cases hmf
  refine qh (qa (ql ?_))
  refine ab fun K hK=>aa ae ?_
  simp only [aj,fl,gp,ai,simprocAttr]
  refine af ?_ (hK _ ?_)<;>clear hK K
  ·(first|omega|(simp only [ah] at *; done)|(simp only [ah] at *; omega))
  refine qd (qa ?_)
  refine ⟨k + 1,[0],by omega,by omega,by simp only [leq,bf,aj,fl,gp,ai,simprocAttr]<;>omega⟩
 cases hC1
section
variable {n:Nat} {f:Nat→Nat→Nat} {e:Nat}
end
open Go.Pv
theorem iJ {α β:Type} (R:α→β→Bool) (L1:List α):∀ L2:List β,(L1.map fun a=>(L2.filter (R a)).length).sum=(L2.map fun b=>(L1.filter fun a=>R a b).length).sum
 | []=>by induction L1 with
  | nil=>rfl
  | cons a t ih=>simpa using ih
 | b :: t=>by
  have ih:=iJ R L1 t
  have:(L1.map fun a=>((b :: t).filter (R a)).length).sum=(L1.filter fun a=>R a b).length + (L1.map fun a=>(t.filter (R a)).length).sum:=by
   clear ih
   induction L1 with
   | nil=>rfl
   | cons a u ihu =>
    have h1:((b :: t).filter (R a)).length=(if R a b then 1 else 0) + (t.filter (R a)).length:=by
     rw [List.filter_cons]; cases R a b<;>simp<;>omega
    have h2:((a :: u).filter fun a=>R a b).length=(if R a b then 1 else 0) + (u.filter fun a=>R a b).length:=by
     rw [List.filter_cons]; cases R a b<;>simp<;>omega
    rw [List.map_cons,List.sum_cons,ihu,List.map_cons,List.sum_cons,h1,h2]
    omega
  rw [this,ih]; simp
theorem jQ {α:Type} {g:α→Nat} {c:Nat} : ∀ {l:List α},(∀ a∈l,g a=c)→(l.map g).sum=l.length * c
 | [],_=>by simp
 | a :: t,h=>by
  rw [List.map_cons,List.sum_cons,h a (by simp),jQ (fun x hx=>h x (by simp [hx])),List.length_cons,Nat.succ_mul]; omega
theorem Kb {α β:Type} (R:α→β→Bool) {L1:List α} {L2:List β} {c1 c2:Nat} (h1:∀ a∈L1,(L2.filter (R a)).length=c1) (h2:∀ b∈L2,(L1.filter fun a=>R a b).length=c2):L1.length * c1=L2.length * c2:=by
 rw [← jQ h1,← jQ h2,iJ]
section
variable {n:Nat} {f:Nat→Nat→Nat} {e:Nat}
def Fp (f:Nat→Nat→Nat) (y x:Nat):Bool:=decide (f x y=f y x)
theorem lB {y x:Nat} : Fp f y x=true↔f x y=f y x:=by simp [Fp]
end
open Go.Pv
section
variable {n:Nat} {f:Nat→Nat→Nat} {e:Nat}
theorem Sub.and {a b:Nat→Bool} (ha:Sub n f e a) (hb:Sub n f e b):Sub n f e fun x=>a x && b x where
 one:=by simp [ha.one,hb.one]
 mul x y hx hy h1 h2:=by
  rw [Bool.and_eq_true] at *
  exact ⟨ha.mul x y hx hy h1.1 h2.1,hb.mul x y hx hy h1.2 h2.2⟩
 inv x hx h:=by
  rw [Bool.and_eq_true] at *
  exact ⟨ha.inv x hx h.1,hb.inv x hx h.2⟩
theorem EB {p:Nat→Bool} (he:e < n) (h:∀ a,a < n→(p a=true↔a=e)):(mem n p).length=1:=by
 have:(mem n p).length=[e].length:=ga (List.nodup_range.filter _) (by simp) fun x=>by
  rw [aR,List.mem_singleton]
  constructor
  ·rintro ⟨h1,h2⟩; exact (h x h1).1 h2
  rintro rfl; exact ⟨he,(h x he).2 rfl⟩
 exact this
theorem xf {p:Nat→Bool} : (mem n p).length=n↔∀ a,a < n→p a=true:=by
 constructor
 ·intro h a ha
  have h1:(mem n p).length=(List.range n).length:=by rw [h,List.length_range]
  have h2:=List.length_filter_eq_length_iff.1 h1
  exact h2 a (List.mem_range.2 ha)
 intro h
 have:mem n p=List.range n:=List.filter_eq_self.2 fun a ha=>h a (List.mem_range.1 ha)
 rw [this,List.length_range]
end
open Go.Pv
def lead (r:Nat→Nat→Bool) (a:Nat):Bool:=r a a && decide (∀ b,b < a→r a b=false)
theorem fZ {r:Nat→Nat→Bool} {a:Nat} : lead r a=true↔r a a=true∧∀ b,b < a→r a b=false:=by
 unfold lead; rw [Bool.and_eq_true,decide_eq_true_eq]
structure p9 (n:Nat) (r:Nat→Nat→Bool):Prop where
 refl:∀ a,a < n→r a a=true
 symm:∀ a b,a < n→b < n→r a b=true→r b a=true
 trans:∀ a b c,a < n→b < n→c < n→r a b=true→r b c=true→r a c=true
theorem p9.least {n:Nat} {r:Nat→Nat→Bool} (h:p9 n r) {y:Nat} (hy:y < n):∃ x,x < n∧lead r x=true∧r x y=true:=by
 cases hf:bQ (r y) n with
 | none=>have:=cg hf y hy; rw [h.refl y hy] at this; cases this
 | some x =>
  obtain ⟨h1,h2,h3⟩:=cH hf
  refine ⟨x,h1,fZ.2 ⟨h.refl x h1,fun b hb=>?_⟩,h.symm y x hy h1 h2⟩
  cases hb2:r x b with
  | false=>rfl
  | true=>have:=h.trans y x b hy h1 (by omega) h2 hb2; rw [h3 b hb] at this; cases this
theorem p9.yd {n:Nat} {r:Nat→Nat→Bool} (h:p9 n r) {x y:Nat} (hx:x < n) (hy:y < n) (lx:lead r x=true) (ly:lead r y=true) (hr:r x y=true):x=y:=by
 rcases Nat.lt_trichotomy x y with h1 | h1 | h1
 ·have:=(fZ.1 ly).2 x h1; rw [h.symm x y hx hy hr] at this; cases this
 ·exact h1
 have:=(fZ.1 lx).2 y h1; rw [hr] at this; cases this
theorem p9.one {n:Nat} {r:Nat→Nat→Bool} (h:p9 n r) {y:Nat} (hy:y < n):((mem n (lead r)).filter fun x=>r x y).length=1:=by
 obtain ⟨x,x1,x2,x3⟩:=h.least hy
 have:((mem n (lead r)).filter fun x=>r x y).length=[x].length:=ga ((List.nodup_range.filter _).filter _) (by simp) fun z=>by
  rw [List.mem_filter,aR,List.mem_singleton]
  constructor
  ·rintro ⟨⟨z1,z2⟩,z3⟩
   exact h.yd z1 x1 z2 x2 (h.trans z y x z1 hy x1 z3 (h.symm x y x1 hy x3))
  rintro rfl
  exact ⟨⟨x1,x2⟩,x3⟩
 exact this
theorem p9.sum {n:Nat} {r:Nat→Nat→Bool} (h:p9 n r):((mem n (lead r)).map fun x=>(mem n (r x)).length).sum=n:=by
 have h1:=iJ (fun x y=>r x y) (mem n (lead r)) (List.range n)
 have h2:((List.range n).map fun y=>((mem n (lead r)).filter fun x=>r x y).length).sum=(List.range n).length * 1:=jQ fun y hy=>h.one (List.mem_range.1 hy)
 rw [List.length_range,Nat.mul_one] at h2
 exact h1.trans h2
theorem uP {l:List Nat} (h:l.Nodup) {a:Nat} (ha:a∈l):(l.filter fun w=>decide (a=w)).length=1:=by
 have:(l.filter fun w=>decide (a=w)).length=[a].length:=ga (h.filter _) (by simp) fun x=>by
  rw [List.mem_filter,decide_eq_true_eq,List.mem_singleton]
  constructor
  ·rintro ⟨_,h⟩; exact h.symm
  rintro rfl; exact ⟨ha,rfl⟩
 exact this
section
variable {n:Nat} {f:Nat→Nat→Nat} {e:Nat}
def bY (n:Nat) (f:Nat→Nat→Nat) (e x y:Nat):Bool:=decide (∃ a,a < n∧f (f (iv n f e a) x) a=y)
theorem dV {x y:Nat} : bY n f e x y=true↔∃ a,a < n∧f (f (iv n f e a) x) a=y:=by unfold bY; exact decide_eq_true_iff
theorem bB.sI (G:bB n f e) {x a b:Nat} (hx:x < n) (ha:a < n) (hb:b < n):f (f (iv n f e b) (f (f (iv n f e a) x) a)) b=f (f (iv n f e (f a b)) x) (f a b):=by
 have ia:=G.az ha
 have ib:=G.az hb
 have h1:=G.cl _ _ ia hx
 rw [G.cr ha hb,← G.assoc _ (f (iv n f e a) x) a ib h1 ha,G.assoc (f (iv n f e b) (f (iv n f e a) x)) a b (G.cl _ _ ib h1) ha hb,← G.assoc _ _ x ib ia hx]
theorem bB.fO (G:bB n f e):p9 n (bY n f e) where
 refl a ha:=dV.2 ⟨e,G.el,by rw [G.eJ,G.one_l a ha,G.one_r a ha]⟩
 symm a b ha hb h:=by
  obtain ⟨c,hc,rfl⟩:=dV.1 h
  refine dV.2 ⟨iv n f e c,G.az hc,?_⟩
  rw [G.sI ha hc (G.az hc),G.cR hc,G.eJ,G.one_l a ha,G.one_r a ha]
 trans a b c ha hb hc h1 h2:=by
  obtain ⟨x,hx,rfl⟩:=dV.1 h1
  obtain ⟨y,hy,rfl⟩:=dV.1 h2
  exact dV.2 ⟨f x y,G.cl _ _ hx hy,(G.sI ha hx hy).symm⟩
theorem bB.qQ (G:bB n f e) {x:Nat} (hx:x < n):(mem n (Fp f x)).length * (mem n (bY n f e x)).length=n:=by
 have hl:∀ a,a < n→f (f (iv n f e a) x) a < n:=fun a ha=>G.cl _ _ (G.cl _ _ (G.az ha) hx) ha
 have:=Kb (fun a y=>decide (f (f (iv n f e a) x) a=y)) (L1:=List.range n) (L2:=mem n (bY n f e x)) (c1:=1) (c2:=(mem n (Fp f x)).length) (fun a ha=>?_) fun y hy=>?_
 ·rw [List.length_range,Nat.mul_one] at this
  rw [Nat.mul_comm]; exact this.symm
 ·have a1:=List.mem_range.1 ha
  exact uP (List.nodup_range.filter _) (aR.2 ⟨hl a a1,dV.2 ⟨a,a1,rfl⟩⟩)
 obtain ⟨y1,y2⟩:=aR.1 hy
 obtain ⟨a0,a1,rfl⟩:=dV.1 y2
 rw [← List.length_map (f:=fun c=>f c a0) («as»:=mem n (Fp f x))]
 refine ga (List.nodup_range.filter _) (fU (List.nodup_range.filter _) fun u hu v hv he=>G.lM a1 (aR.1 hu).1 (aR.1 hv).1 he) fun b=>?_
 rw [List.mem_filter,List.mem_range,decide_eq_true_eq,List.mem_map]
 have key:∀ b,b < n→(f (f (iv n f e b) x) b=f (f (iv n f e a0) x) a0↔f (f b (iv n f e a0)) x=f x (f b (iv n f e a0))):=by
  intro b hb
  have ib:=G.az hb
  have ia:=G.az a1
  have hbi:=G.cl _ _ hb ia
  constructor
  ·intro h
   have h1:f b (f (f (iv n f e b) x) b)=f b (f (f (iv n f e a0) x) a0):=by rw [h]
   rw [← G.assoc b _ b hb (G.cl _ _ ib hx) hb,← G.assoc b _ x hb ib hx,G.cR hb,G.one_l x hx,← G.assoc b _ a0 hb (G.cl _ _ ia hx) a1,← G.assoc b _ x hb ia hx] at h1
   have h2:f (f x b) (iv n f e a0)=f (f (f (f b (iv n f e a0)) x) a0) (iv n f e a0):=by rw [h1]
   rw [G.assoc _ a0 _ (G.cl _ _ hbi hx) a1 ia,G.cR a1,G.one_r _ (G.cl _ _ hbi hx),G.assoc x b _ hx hb ia] at h2
   exact h2.symm
  intro h
  refine G.gy hb (G.cl _ _ (G.cl _ _ ib hx) hb) (G.cl _ _ (G.cl _ _ ia hx) a1) ?_
  rw [← G.assoc b _ b hb (G.cl _ _ ib hx) hb,← G.assoc b _ x hb ib hx,G.cR hb,G.one_l x hx,← G.assoc b _ a0 hb (G.cl _ _ ia hx) a1,← G.assoc b _ x hb ia hx,h,G.assoc x _ a0 hx hbi a1,G.assoc b _ a0 hb ia a1,G.cV a1,G.one_r b hb]
 constructor
 ·rintro ⟨b1,b2⟩
  refine ⟨f b (iv n f e a0),aR.2 ⟨G.cl _ _ b1 (G.az a1),lB.2 ((key b b1).1 b2)⟩,?_⟩
  show f (f b (iv n f e a0)) a0=b
  rw [G.assoc b _ a0 b1 (G.az a1) a1,G.cV a1,G.one_r b b1]
 rintro ⟨c,hc,rfl⟩
 obtain ⟨c1,c2⟩:=aR.1 hc
 rw [lB] at c2
 have hca:=G.cl _ _ c1 a1
 refine ⟨hca,(key _ hca).2 ?_⟩
 rw [G.assoc c a0 _ c1 a1 (G.az a1),G.cR a1,G.one_r c c1]
 exact c2
end
open Go.Pv
section
variable {n:Nat} {f:Nat→Nat→Nat} {e:Nat}
def ux (p:Nat):Prop:=2≤p∧p≤100∧∀ d,d < p→2≤d→¬ p % d=0
instance (p:Nat):Decidable (ux p):=by unfold ux; infer_instance
theorem ux.div {p:Nat} (h:ux p) {d:Nat} (hd:d ∣ p):d=1∨d=p:=by
 obtain ⟨h1,_,h3⟩:=h
 have hp:=Nat.pos_of_dvd_of_pos hd (by omega)
 have hl:=Nat.le_of_dvd (by omega) hd
 by_cases hd1:d=1
 ·exact .inl hd1
 by_cases hd2:d=p
 ·exact .inr hd2
 exact absurd (Nat.mod_eq_zero_of_dvd hd) (h3 d (by omega) (by omega))
theorem ux.Ki {p:Nat} (h:ux p) {s:Nat} (hs:¬ p ∣ s):Nat.gcd p s=1:=by
 rcases h.div (Nat.gcd_dvd_left p s) with h1 | h1
 ·exact h1
 exact absurd (h1 ▸ Nat.gcd_dvd_right p s) hs
theorem ux.part {p:Nat} (h:ux p) {k d:Nat} (hd:d ∣ p ^ k) (h1:d ≠ 1):p ∣ d:=by
 by_cases hp:p ∣ d
 ·exact hp
 exfalso
 have hc:Nat.Coprime d (p ^ k):=Nat.Coprime.pow_right _ (Nat.Coprime.symm (h.Ki hp))
 have:d ∣ Nat.gcd d (p ^ k):=Nat.dvd_gcd (Nat.dvd_refl d) hd
 rw [hc] at this
 exact h1 (Nat.dvd_one.1 this)
end
end Go.Proofs.YtjlmpmidchddjaaDoor
