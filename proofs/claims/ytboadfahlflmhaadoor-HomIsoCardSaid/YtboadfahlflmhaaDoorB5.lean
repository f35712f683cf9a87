/-
  Texts of this proof, one behind the other: what each says stands at its head. Conditions: none.
-/
import Derived.Test.YtboadfahlflmhaaDoorB4
import Derived.Test.YtboadfahlflmhaaDoorB3
import Derived.Shelf.SlSortCmp.Whole1
import Derived.Test.YtboadfahlflmhaaDoorProg
import Derived.Shelf.SlLaysF
import Derived.Test.YtboadfahlflmhaaDoorB2
import Derived.Lib.SliceRun
import Derived.Shelf.Sort.Plain
import Derived.Shelf.Slices.In.SortNone
import Derived.Shelf.Lays

/-
  Walks: all homomorphisms, handed out one by one. Conditions: none.
-/
set_option linter.all false
namespace Go.Pv
open Go.RowKit

theorem fnc_of_p {P:Program} {f:FuncId} {args:List PV} {pv:PV} (h:FnG P f args (.p pv) []) (hf:pv.flatOnly=true):FnC P f args pv:=
 ⟨h.1,fun okA w vals h1 h2 h3=>(h.2 okA w vals h1 h2 h3).mono fun e w' ⟨v,m',he,hbl,ho⟩=>⟨v,he,hbl,flatOnly_reads ho.val.p_inv hf⟩⟩

/-- What a loop over a function does, round by round: what its blocks hold; whether it goes on; how it goes on. -/
structure Prot (σ:Type) where
 c4:σ→PV
 c51:σ→PV
 c52:σ→PV
 R:σ→List PV
 go:σ→PV→Bool
 nx:σ→PV→σ
 ok:σ→Prop
 okx:PV→Prop
 ok_nx:∀ i x,ok i→okx x→go i x=true→ok (nx i x)
 ones:∀ i,ok i→(R i).all PV.one=true

variable {σ:Type}
def foldS (p:Prot σ):σ→List PV→σ × Bool
 | i,[]=>(i,true)
 | i,x :: xs=>if p.go i x then foldS p (p.nx i x) xs else (p.nx i x,false)
theorem foldS_app (p:Prot σ):∀ (i:σ) (xs ys:List PV),foldS p i (xs++ys)=if (foldS p i xs).2 then foldS p (foldS p i xs).1 ys else foldS p i xs
 | i,[],ys=>by simp [foldS]
 | i,x :: xs,ys=>by
  simp only [List.cons_append,foldS]
  split
  ·exact foldS_app p _ xs ys
  ·rfl
theorem foldS_ok (p:Prot σ):∀ (i:σ) (xs:List PV),p.ok i→(∀ x∈xs,p.okx x)→(foldS p i xs).2=true→p.ok (foldS p i xs).1
 | i,[],h,_,_=>h
 | i,x :: xs,h,hx,hb=>by
  simp only [foldS] at hb ⊢
  split at hb
  ·rename_i hg
   rw [if_pos hg]
   exact foldS_ok p _ xs (p.ok_nx i x h (hx x (by simp)) hg) (fun y hy=>hx y (by simp [hy])) hb
  ·cases hb

/-- The blocks of who loops. -/
def HU (p:Prot σ) (i:σ) (b:Blk):Heap:=[.own [.p (p.c4 i)],.own [.p (p.c51 i),.p (p.c52 i)],.own [.sl 4 0 (p.R i).length],b,.own (opl (p.R i))]

/-- All rounds are as told. -/
def Rounds (P:Program) (p:Prot σ) (rec:Loop) (l:List AV):Prop:=∀ i x,p.ok i→p.okx x→YldQ P 4 3 rec l x (HU p i (.lp rec)) (.p (.bool (p.go i x))) (HU p (p.nx i x) (.lp (recB (p.go i x) rec)))
end Go.Pv
namespace Go.Proofs.YtboadfahlflmhaaDoor
open Go.Pv

section
variable {n e N d:Nat} {m M:List Int}
open Classical in
/-- Where things that make the group go so: the homomorphism, if there is one. -/
noncomputable def hlf (n:Nat) (f:Nat→Nat→Nat) (N:Nat) (g:Nat→Nat→Nat) (L T:List Nat):List (List Int):=if h:∃ φ,Ext n f N g L T φ then [tbm n (Classical.choose h)] else []
/-- All that come, where some places are chosen. -/
noncomputable def hsq (n:Nat) (f:Nat→Nat→Nat) (e N:Nat) (g:Nat→Nat→Nat) (d:Nat) (L:List Nat):List Nat→List Nat→List (List Int)
 | [],t=>hlf n f N g L t
 | x :: r,t=>((List.range N).filter fun y=>decide (ord n f e x % ord N g d y=0)).flatMap fun y=>hsq n f e N g d L r (t++[y])
/-- Up to a place. -/
noncomputable def hsu (n:Nat) (f:Nat→Nat→Nat) (e N:Nat) (g:Nat→Nat→Nat) (d:Nat) (L r t:List Nat) (x y:Nat):List (List Int):=
 ((List.range y).filter fun y=>decide (ord n f e x % ord N g d y=0)).flatMap fun y=>hsq n f e N g d L r (t++[y])
def pls (l:List (List Int)):List PV:=l.map fun w=>.list (il w)
theorem pls_app (a b:List (List Int)):pls (a++b)=pls a++pls b:=by simp [pls]
theorem hsu_succ {f g:Nat→Nat→Nat} {L r t:List Nat} {x y:Nat} : hsu n f e N g d L r t x (y + 1)=if ord n f e x % ord N g d y=0 then hsu n f e N g d L r t x y++hsq n f e N g d L r (t++[y]) else hsu n f e N g d L r t x y:=by
 unfold hsu
 rw [List.range_succ,List.filter_append,List.flatMap_append]
 by_cases h:ord n f e x % ord N g d y=0
 ·rw [if_pos h]; simp [h]
 ·rw [if_neg h]; simp [h]

/-- A row that is filled so far. -/
def rwd (t:List Nat) (n:Nat):List AV:=opl (il (nl t))++List.replicate (n - t.length) .dead
theorem rwd_len {t:List Nat} {n:Nat} (h:t.length≤n):(rwd t n).length=n:=by
 simp [rwd,opl_length,il_length,nl_len]; omega
theorem rwd_full {t:List Nat} {n:Nat} (h:t.length=n):rwd t n=opl (il (nl t)):=by simp [rwd,h]
theorem rwd_ren (t:List Nat) (n:Nat) (π:List Nat):(rwd t n).map (Go.Pv.ren π)=rwd t n:=by
 rw [rwd,List.map_append,opl_ren,List.map_replicate]; rfl
theorem rwd_sc (t:List Nat) (n k:Nat):(rwd t n).all (scA k)=true:=by
 rw [rwd,List.all_append,opl_sc,List.all_replicate]; simp [scA,sc1]
theorem rwd_set {t:List Nat} {n y:Nat} (h:t.length < n):(rwd t n).set t.length (.p (.int .i64 ((y:Nat):Int)))=rwd (t++[y]) n:=by
 have e1:(opl (il (nl t))).length=t.length:=by simp [opl_length,il_length,nl_len]
 obtain ⟨k,rfl⟩:∃ k,n=t.length + 1 + k:=⟨n - (t.length + 1),by omega⟩
 rw [rwd,rwd,List.set_append_right _ _ (by omega),e1,Nat.sub_self,show t.length + 1 + k - t.length=k + 1 by omega,List.replicate_succ,List.set_cons_zero,
  List.length_append,List.length_cons,List.length_nil,show t.length + 1 + k - (t.length + (0 + 1))=k by omega,nl_snoc]
 simp [opl,il]
theorem rwd_get {t:List Nat} {n j:Nat} (h:j < t.length):(rwd t n)[j]? = some (.p (.int .i64 ((t.getD j 0:Nat):Int))):=by
 rw [rwd,List.getElem?_append_left (by rw [opl_length,il_length,nl_len]; exact h)]
 simp [opl,il,nl,List.getElem?_eq_getElem h]
theorem rwd_dead {t:List Nat} {n j:Nat} (h:t.length≤j) (hn:j < n):(rwd t n)[j]? = some .dead:=by
 rw [rwd,List.getElem?_append_right (by rw [opl_length,il_length,nl_len]; exact h),opl_length,il_length,nl_len,List.getElem?_replicate,if_pos (by omega)]
/-- Back to what stood. -/
theorem hk_back {P:Program} {Q:Exit→St→Prop} {s:St} {c:Code} (k:Nat) {t:List Nat} {y n:Nat} (hk:hget s.H k = .own (rwd (t++[y]) n)) (hl:t.length < n) (h:Holds P c Q { s with H:=hset s.H k (.own (rwd t n)) }):Holds P c Q s:=by
 have hl1:(t++[y]).length≤n:=by simp; omega
 refine hk_cells k hk (by rw [rwd_len (by omega),rwd_len hl1]) (fun C m tmps w R j h1 h2 v hv=>?_) h
 by_cases hj:j < t.length
 ·have e:(rwd (t++[y]) n)[j]=(rwd t n)[j]:=Option.some.inj (by
   rw [← List.getElem?_eq_getElem h1,← List.getElem?_eq_getElem h2,rwd_get hj,rwd_get (by simp; omega)]
   simp [List.getElem?_append_left hj])
  rw [← e]; exact hv
 ·have e:(rwd t n)[j] = .dead:=Option.some.inj (by rw [← List.getElem?_eq_getElem h2,rwd_dead (by omega) (by rw [rwd_len (by omega)] at h2; exact h2)])
  rw [e]; exact .dead _

variable {σ:Type}
/-- The blocks of who searches. -/
def HN (p : Prot σ) (n : Nat) (m : List Int) (N : Nat) (M : List Int) (L : List Nat) (lN : List AV) (vs : Array Value) (t : List Nat) (i : σ) (b : Blk) : Heap :=
  [.own [.sl 7 0 L.length], .own [.yv 6 lN vs], .own [.cl 129 [.p (.ptr [.list (il (nl L))]), .p (.ptr [.int .i64 n, .list (il m)]), .p (.ptr [.int .i64 N, .list (il M)]), .ptr 0 0, .ptr 1 0, .ptr 2 0]],
   .own [.p (p.c4 i)], .own [.p (p.c51 i), .p (p.c52 i)], .own [.sl 8 0 (p.R i).length], b, .own (rwd t L.length), .own (opl (p.R i))]

def NextC (p:Prot σ) (n:Nat) (m:List Int) (e N:Nat) (M:List Int) (d:Nat) (L:List Nat) (rec:Loop) (lN:List AV) (r t:List Nat) (i:σ):Prop:=
 FnQ Tryd.prog 8 129 [.p (.int .i64 t.length),.p (.ptr [.list (il (nl L))]),.p (.ptr [.int .i64 n,.list (il m)]),.p (.ptr [.int .i64 N,.list (il M)]),.ptr 0 0,.ptr 1 0,.ptr 2 0]
  (HN p n m N M L lN rec.tmps t i (.lp rec)) (.p (.bool (foldS p i (pls (hsq n (op m n) e N (op M N) d L r t))).2)) (HN p n m N M L lN rec.tmps t (foldS p i (pls (hsq n (op m n) e N (op M N) d L r t))).1 (.lp (recB (foldS p i (pls (hsq n (op m n) e N (op M N) d L r t))).2 rec)))

theorem sc1_up {a b:Nat} {x:AV} (h:a≤b) (hx:sc1 a x=true):sc1 b x=true:=by
 cases x<;>simp [sc1] at hx ⊢<;>omega
theorem all_up {a b:Nat} {l:List AV} (h:a≤b) (hx:l.all (sc1 a)=true):l.all (sc1 b)=true:=by
 rw [List.all_eq_true] at hx ⊢
 exact fun x hm=>sc1_up h (hx x hm)
theorem fix1 {x:AV} {π:List Nat} (h:sc1 4 x=true) (hπ:π.take 7=[0,1,2,3,4,5,6]):sc1 7 (ren1 [3,4,5,6,8] x)=true∧ren1 π (ren1 [3,4,5,6,8] x)=ren1 [3,4,5,6,8] x:=by
 have hg:∀ k,k < 4→[3,4,5,6,8].getD k 0 < 7∧π.getD ([3,4,5,6,8].getD k 0) 0=[3,4,5,6,8].getD k 0:=fun k hk=>by
  have e:∀ j,j < 7→π.getD j 0=j:=fun j hj=>by
   have:=congrArg (fun l=>l.getD j 0) hπ
   simp only [List.getD_eq_getElem?_getD,List.getElem?_take,hj,if_true] at this ⊢
   rw [this]
   exact (show ∀ j,j < 7→([0,1,2,3,4,5,6]:List Nat)[j]?.getD 0=j by decide) j hj
  have:∀ k,k < 4→[3,4,5,6,8].getD k 0 < 7:=by decide
  exact ⟨this k hk,e _ (this k hk)⟩
 cases x<;>simp only [sc1,decide_eq_true_eq] at h<;>first|(cases h; done)|(simp only [ren1,sc1,decide_eq_true_eq,(hg _ h).2]; exact ⟨(hg _ h).1,trivial⟩)|exact ⟨rfl,rfl⟩
theorem fixL {l lN:List AV} (hl:l.all (sc1 4)=true) (hlN:l.map (ren1 [3,4,5,6,8])=lN):lN.all (sc1 7)=true∧∀ π:List Nat,π.take 7=[0,1,2,3,4,5,6]→lN.map (ren1 π)=lN:=by
 rw [List.all_eq_true] at hl
 subst hlN
 refine ⟨?_,fun π hπ=>?_⟩
 ·rw [List.all_eq_true]
  intro y hy
  obtain ⟨x,hx,rfl⟩:=List.mem_map.1 hy
  exact (fix1 (π:=[0,1,2,3,4,5,6]) (hl x hx) rfl).1
 ·rw [List.map_map]
  exact List.map_congr_left fun x hx=>(fix1 (hl x hx) hπ).2
theorem recB_true (rec:Loop):recB true rec=rec:=rfl

set_option maxHeartbeats 8000000 in
set_option maxRecDepth 20000 in
theorem next_leaf1 (p:Prot σ) (h:GT n m n e) (h' : GT N M N d) (L:List Nat) (hL:L=gl n (op m n) e n) {rec:Loop} (hrp:rec.params.size=1) {l lN:List AV} (hY:Rounds Tryd.prog p rec l) (hokx:∀ φ,Hmo n (op m n) N (op M N) φ→p.okx (.list (il (tbm n φ))))
  (hl:l.all (sc1 4)=true) (hlN:l.map (ren1 [3,4,5,6,8])=lN) (t:List Nat) (i:σ) (htl:t.length=L.length) (hty:∀ y∈t,y < N) (hi:p.ok i) (hex:∃ φ,Ext n (op m n) N (op M N) L t φ):NextC p n m e N M d L rec lN [] t i:=by
 have hn:=h.2.1.big
 have hpos:0 < n:=h.2.1.pos
 have hll:=gl_len n (op m n) e n
 rw [← hL] at hll
 have hLlt:=gl_lt n (op m n) e n
 have hLg:=gl_gen n (op m n) e h.2.2
 rw [← hL] at hLlt hLg
 have hF:∀ i,i < L.length→L.getD i 0 < n:=fun i hi=>hLlt _ (by simp [List.getD,List.getElem?_eq_getElem hi])
 have hT:∀ i,i < L.length→t.getD i 0 < N:=fun i hi=>hty _ (by simp [List.getD,List.getElem?_eq_getElem (show i < t.length by omega)])
 have hnt:=nl_len t
 have hnL:=nl_len L
 have hone:=p.ones i hi
 have hnn:(nl L).length=(nl t).length:=by omega
 have hlS:=fixL hl hlN
 unfold NextC
 have hs:hsq n (op m n) e N (op M N) d L [] t=[tbm n (Classical.choose hex)]:=by unfold hsq hlf; rw [dif_pos hex]
 have hφ:=Classical.choose_spec hex
 generalize Classical.choose hex=φ at hs hφ
 have hsp:=spread_yes h h' L t htl.symm (by omega) hF hT hLg hφ
 have hpl:pls (hsq n (op m n) e N (op M N) d L [] t)=[.list (il (tbm n φ))]:=by rw [hs]; rfl
 have hY1:=hY i _ hi (hokx φ hφ.1)
 have htb:=tbm_len n φ
 have hne:il (tbm n φ) ≠ []:=by intro hh; have:=congrArg List.length hh; rw [il_length,htb] at this; simp at this; omega
 rw [hpl]
 have hf1:foldS p i [PV.list (il (tbm n φ))]=(p.nx i (.list (il (tbm n φ))),p.go i (.list (il (tbm n φ)))):=by
  simp only [foldS]
  split<;>simp_all
 rw [hf1]
 unfold HU at hY1
 simp only
 refine fnq_of (q:=8) tab_ok Tryd.func129 rfl (by kernel_rfl) (by rw [Tryd.ntmps129]; exact Nat.le_add_left 7 _) ?_; rw [Tryd.ntmps129]; simp only [ancs,entA,List.length_cons,List.length_nil,List.cons_append,List.nil_append,Nat.reduceAdd,Nat.zero_add]
 simp only [HN,rwd_full htl,List.append_nil,List.cons_append,List.nil_append]
 rw [show L.length=(nl t).length by omega]
 refine qm ?_
 refine hk_region fun K hK=>runs_eval tab_ok ?_
 simp only [ev0,evA,evB,evP,fl,gp,tab,simprocAttr,reduceCtorEq,reduceIte]
 refine fin_run trivial (hK _ ?_)<;>clear hK<;>clear K
 refine qa (qm (qm ?_))
 refine hk_region fun K hK=>runs_eval tab_ok ?_
 simp only [ev0,evA,evB,evP,fl,gp,tab,simprocAttr,reduceCtorEq,reduceIte,il_length,hnn]
 refine fin_run ?_ (hK _ ?_)<;>clear hK<;>clear K
 ·(first|exact trivial|omega|(simp only [In64] at *; omega)|(simp [In64] at *; omega)|(simp_all; done)|skip)
 refine qa ?_
 refine hk_cond rfl (fun hC1=>?_) (fun hC1=>?_)
 ·(try simp only [nhs] at hC1)
  refine qm ?_
  refine hk_region fun K hK=>runs_eval tab_ok ?_
  simp only [ev0,evA,evB,evP,fl,gp,tab,simprocAttr,reduceCtorEq,reduceIte]
  refine fin_stop ?_ (runs_callF (FnG_fnf hsp (by simp [il,PV.sc])) rfl (by simp only [callA,peekList,peekG,peekS,List.map_cons,List.map_nil,List.append_nil,enA,ev0,evA,evB,evP,fl,gp,tab,simprocAttr,reduceCtorEq,reduceIte,List.drop_zero,ol_drop,ol_take,take_len,ol_allP,il_all,il_length]; rfl) (by simp only [dstOk,Nat.reduceLT]) ?_ (runs_eval tab_ok ?_))
  ·(first|exact trivial|omega|(simp only [In64] at *; omega)|(simp [In64] at *; omega)|(simp_all; done)|skip)
  ·(first|exact trivial|omega|(simp only [In64] at *; omega)|(simp [In64] at *; omega)|(simp_all; done)|skip)
  simp only [ev0,evA,evB,evP,fl,gp,tab,simprocAttr,reduceCtorEq,reduceIte]
  refine fin_run ?_ (hK _ ?_)<;>clear hK<;>clear K
  ·(first|exact trivial|omega|(simp only [In64] at *; omega)|(simp [In64] at *; omega)|(simp_all; done)|skip)
  refine qa (qm ?_)
  refine hk_region fun K hK=>runs_eval tab_ok ?_
  simp only [ev0,evA,evB,evP,fl,gp,tab,simprocAttr,reduceCtorEq,reduceIte,binA.eq_def,Option.map_some]
  refine fin_stop ?_ (runs_yield [3,4,5,6,8] (hY1) hrp rfl rfl rfl ?_ (by simp only [leA,ev0,evA,evB,evP,fl,gp,tab,simprocAttr,reduceCtorEq,reduceIte]; first|trivial|(simp only [ll_takeL]; first|trivial|(repeat constructor; done))|(repeat constructor)) (by decide) (by first|rfl|(simp only [List.length_cons,List.length_nil,List.length_append]; decide)) (by first|rfl|(simp [scQ,scA,sc1,mpKeep,notAnc,Blk.spc,opl_sc]; done)) (by simp only [dstOk,Nat.reduceLT]) (runs_eval tab_ok ?_))
  ·(first|exact trivial|omega|(simp only [In64] at *; omega)|(simp [In64] at *; omega)|(simp_all; done)|skip)
  ·(simp only [argsM,argM1,peekG,peekS,scA,sc1,ren,ren1,List.map_cons,List.map_nil,List.append_nil,List.cons_append,List.nil_append,enA,ev0,evA,evB,evP,fl,gp,tab,simprocAttr,reduceCtorEq,reduceIte]; try trivial)
   exact ⟨by rw [hlN],all_up (by decide) hl⟩
  simp only [putM,kills,hset,List.take_succ_cons,List.take_zero,List.drop_succ_cons,List.drop_zero,List.range',Blk.ren,ren,ren1,List.map_cons,List.map_nil,List.cons_append,List.nil_append,List.append_nil,List.length_cons,List.length_nil,ev0,evA,evB,evP,fl,gp,tab,simprocAttr,reduceCtorEq,reduceIte,binA.eq_def,Option.map_some]
  refine fin_run ?_ (hK _ ?_)<;>clear hK<;>clear K
  ·(first|exact trivial|omega|(simp only [In64] at *; omega)|(simp [In64] at *; omega)|(simp_all; done)|skip)
  refine qa (qk (qb ?_))
  simp only [Tryd.results129,PostG,endG,rvsA,rvA,mkTup,ev0,evA,evB,evP,fl,gp,tab,simprocAttr,reduceCtorEq,reduceIte]
  all_goals (exact ⟨[0,1,2,3,4,5,6,7,17,9,10,11,12,13,14,15,16],rfl,rfl,by simp only [leq,leA,ev0,evA,evB,evP,fl,gp,tab,simprocAttr,reduceCtorEq,reduceIte]<;>first|trivial|exact ⟨by rw [hlS.2 _ rfl],all_up (by decide) hlS.1⟩|trace_state⟩)
 ·(try simp only [nhs] at hC1)
  omega
set_option maxHeartbeats 8000000 in
set_option maxRecDepth 20000 in
theorem next_leaf2 (p:Prot σ) (h:GT n m n e) (h' : GT N M N d) (L:List Nat) (hL:L=gl n (op m n) e n) {rec:Loop} (hrp:rec.params.size=1) {l lN:List AV} (hY:Rounds Tryd.prog p rec l) (hokx:∀ φ,Hmo n (op m n) N (op M N) φ→p.okx (.list (il (tbm n φ))))
  (hl:l.all (sc1 4)=true) (hlN:l.map (ren1 [3,4,5,6,8])=lN) (t:List Nat) (i:σ) (htl:t.length=L.length) (hty:∀ y∈t,y < N) (hi:p.ok i) (hex:¬ ∃ φ,Ext n (op m n) N (op M N) L t φ):NextC p n m e N M d L rec lN [] t i:=by
 have hn:=h.2.1.big
 have hpos:0 < n:=h.2.1.pos
 have hll:=gl_len n (op m n) e n
 rw [← hL] at hll
 have hLlt:=gl_lt n (op m n) e n
 have hLg:=gl_gen n (op m n) e h.2.2
 rw [← hL] at hLlt hLg
 have hF:∀ i,i < L.length→L.getD i 0 < n:=fun i hi=>hLlt _ (by simp [List.getD,List.getElem?_eq_getElem hi])
 have hT:∀ i,i < L.length→t.getD i 0 < N:=fun i hi=>hty _ (by simp [List.getD,List.getElem?_eq_getElem (show i < t.length by omega)])
 have hnt:=nl_len t
 have hnL:=nl_len L
 have hone:=p.ones i hi
 have hnn:(nl L).length=(nl t).length:=by omega
 have hlS:=fixL hl hlN
 unfold NextC
 have hs:hsq n (op m n) e N (op M N) d L [] t=[]:=by unfold hsq hlf; rw [dif_neg hex]
 have hsp:=fnc_of_p (spread_no h h' L t htl.symm (by omega) hF hT hLg fun φ hφ=>hex ⟨φ,hφ⟩) rfl
 have hpl:pls (hsq n (op m n) e N (op M N) d L [] t)=[]:=by rw [hs]; rfl
 rw [hpl]
 simp only [foldS]
 refine fnq_of (q:=8) tab_ok Tryd.func129 rfl (by kernel_rfl) (by rw [Tryd.ntmps129]; exact Nat.le_add_left 7 _) ?_; rw [Tryd.ntmps129]; simp only [ancs,entA,List.length_cons,List.length_nil,List.cons_append,List.nil_append,Nat.reduceAdd,Nat.zero_add]
 simp only [HN,rwd_full htl,List.append_nil,List.cons_append,List.nil_append]
 rw [show L.length=(nl t).length by omega]
 refine qm ?_
 refine hk_region fun K hK=>runs_eval tab_ok ?_
 simp only [ev0,evA,evB,evP,fl,gp,tab,simprocAttr,reduceCtorEq,reduceIte]
 refine fin_run trivial (hK _ ?_)<;>clear hK<;>clear K
 refine qa (qm (qm ?_))
 refine hk_region fun K hK=>runs_eval tab_ok ?_
 simp only [ev0,evA,evB,evP,fl,gp,tab,simprocAttr,reduceCtorEq,reduceIte,il_length,hnn]
 refine fin_run ?_ (hK _ ?_)<;>clear hK<;>clear K
 ·(first|exact trivial|omega|(simp only [In64] at *; omega)|(simp [In64] at *; omega)|(simp_all; done)|skip)
 refine qa ?_
 refine hk_cond rfl (fun hC1=>?_) (fun hC1=>?_)
 ·(try simp only [nhs] at hC1)
  refine qm ?_
  refine hk_region fun K hK=>runs_eval tab_ok ?_
  simp only [ev0,evA,evB,evP,fl,gp,tab,simprocAttr,reduceCtorEq,reduceIte]
  refine fin_stop ?_ (runs_call (b:=false) (hsp) rfl (by simp only [callA,peekList,peekG,peekS,List.map_cons,List.map_nil,List.append_nil,enA,ev0,evA,evB,evP,fl,gp,tab,simprocAttr,reduceCtorEq,reduceIte,List.drop_zero,ol_drop,ol_take,take_len,ol_allP,il_all,il_length,List.length_replicate,List.take_replicate,Nat.min_self]; rfl) rfl (by simp only [dstOk,Nat.reduceLT]) ?_ (runs_eval tab_ok ?_))
  ·(first|exact trivial|omega|(simp only [In64] at *; omega)|(simp [In64] at *; omega)|(simp_all; done)|skip)
  ·(first|exact trivial|omega|(simp only [In64] at *; omega)|(simp [In64] at *; omega)|(simp_all; done)|skip)
  simp only [ev0,evA,evB,evP,fl,gp,tab,simprocAttr,reduceCtorEq,reduceIte]
  refine fin_run ?_ (hK _ ?_)<;>clear hK<;>clear K
  ·(first|exact trivial|omega|(simp only [In64] at *; omega)|(simp [In64] at *; omega)|(simp_all; done)|skip)
  refine qa (qm ?_)
  refine hk_region fun K hK=>runs_eval tab_ok ?_
  simp only [ev0,evA,evB,evP,fl,gp,tab,simprocAttr,reduceCtorEq,reduceIte,binA.eq_def,Option.map_some]
  refine fin_run trivial (hK _ ?_)<;>clear hK<;>clear K
  refine qa (qk (qb ?_))
  simp only [Tryd.results129,PostG,endG,rvsA,rvA,mkTup,ev0,evA,evB,evP,fl,gp,tab,simprocAttr,reduceCtorEq,reduceIte]
  all_goals (exact ⟨[0,1,2,3,4,5,6,7,8,9,10,11,12,13,14,15,16],rfl,rfl,by simp only [leq,leA,ev0,evA,evB,evP,fl,gp,tab,simprocAttr,reduceCtorEq,reduceIte]<;>first|trivial|exact ⟨⟨by rw [hlS.2 _ rfl],all_up (by decide) hlS.1⟩,rfl⟩|trace_state⟩)
 ·(try simp only [nhs] at hC1)
  omega
theorem hsq_mem {f g:Nat→Nat→Nat} {L:List Nat} : ∀ (r t:List Nat) (w:List Int),w∈hsq n f e N g d L r t→∃ φ,Hmo n f N g φ∧w=tbm n φ
 | [],t,w,h=>by
  unfold hsq hlf at h
  split at h
  ·rename_i hex
   exact ⟨_,(Classical.choose_spec hex).1,by simpa using h⟩
  ·simp at h
 | x :: r,t,w,h=>by
  unfold hsq at h
  obtain ⟨y,_,h⟩:=List.mem_flatMap.1 h
  exact hsq_mem r _ w h
theorem hsu_mem {f g:Nat→Nat→Nat} {L r t:List Nat} {x y:Nat} (w:List Int) (h:w∈hsu n f e N g d L r t x y):∃ φ,Hmo n f N g φ∧w=tbm n φ:=by
 unfold hsu at h
 obtain ⟨y,_,h⟩:=List.mem_flatMap.1 h
 exact hsq_mem r _ w h
theorem hsu_end {f g:Nat→Nat→Nat} {L r t:List Nat} {x:Nat} : hsq n f e N g d L (x :: r) t=hsu n f e N g d L r t x N:=by
 rw [hsq]; rfl
theorem hsu_pre {f g:Nat→Nat→Nat} {L r t:List Nat} {x y:Nat} (h:y≤N):∃ z,hsq n f e N g d L (x :: r) t=hsu n f e N g d L r t x y++z:=by
 rw [hsu_end]
 have:∀ k,∃ z,hsu n f e N g d L r t x (y + k)=hsu n f e N g d L r t x y++z:=by
  intro k
  induction k with
  | zero=>exact ⟨[],by simp⟩
  | succ k ih =>
   obtain ⟨z,hz⟩:=ih
   rw [← Nat.add_assoc,hsu_succ,hz]
   split
   ·exact ⟨_,List.append_assoc _ _ _⟩
   ·exact ⟨z,rfl⟩
 obtain ⟨k,hk⟩:∃ k,N=y + k:=⟨N - y,by omega⟩
 have:=this k
 rwa [← hk] at this
theorem foldS_pre (p:Prot σ) {i:σ} {a b:List PV} (h:(foldS p i a).2=false):foldS p i (a++b)=foldS p i a:=by
 rw [foldS_app,h]; rfl
theorem foldS_on (p:Prot σ) {i:σ} {a b:List PV} (h:(foldS p i a).2=true):foldS p i (a++b)=foldS p (foldS p i a).1 b:=by
 rw [foldS_app,h]; rfl

set_option maxHeartbeats 8000000 in
set_option maxRecDepth 20000 in
theorem next_step (p:Prot σ) (h:GT n m n e) (h' : GT N M N d) (L:List Nat) (hL:L=gl n (op m n) e n) {rec:Loop} {lN:List AV} (hlS:lN.all (sc1 7)=true∧∀ π:List Nat,π.take 7=[0,1,2,3,4,5,6]→lN.map (ren1 π)=lN) (hokx:∀ φ,Hmo n (op m n) N (op M N) φ→p.okx (.list (il (tbm n φ))))
  (x:Nat) (r t:List Nat) (i:σ) (hx:L.getD t.length 0=x) (htl:t.length < L.length) (hi:p.ok i)
  (IH:∀ y,y < N→∀ i,p.ok i→NextC p n m e N M d L rec lN r (t++[y]) i):NextC p n m e N M d L rec lN (x :: r) t i:=by
 have hn:=h.2.1.big
 have hN:=h'.2.1.big
 have hpos:0 < n:=h.2.1.pos
 have hll:=gl_len n (op m n) e n
 rw [← hL] at hll
 have hLlt:=gl_lt n (op m n) e n
 rw [← hL] at hLlt
 have hxn:x < n:=by rw [← hx]; exact hLlt _ (by simp [List.getD,List.getElem?_eq_getElem htl])
 have hnt:=nl_len t
 have hnL:=nl_len L
 have hone:=p.ones i hi
 have hox:∀ y,∀ v∈pls (hsu n (op m n) e N (op M N) d L r t x y),p.okx v:=fun y v hv=>by
  obtain ⟨w,hw,rfl⟩:=List.mem_map.1 hv
  obtain ⟨φ,hφ,rfl⟩:=hsu_mem w hw
  exact hokx φ hφ
 have hrl:=rwd_len (Nat.le_of_lt htl)
 have h00:foldS p i (pls (hsu n (op m n) e N (op M N) d L r t x 0))=(i,true):=rfl
 have hL17:=hlS.2 [0,1,2,3,4,5,6,7,8,9,10,11,12,13,14,15,16] rfl
 have hlS17:lN.all (sc1 17)=true:=all_up (by decide) hlS.1
 have hL9:=hlS.2 [0,1,2,3,4,5,6,7,8] rfl
 have hL9':=hlS.2 [0,1,2,3,4,5,6,7,17] rfl
 have hL17':=hlS.2 [0,1,2,3,4,5,6,7,17,9,10,11,12,13,14,15,16] rfl
 have hlS9:lN.all (sc1 9)=true:=all_up (by decide) hlS.1
 unfold NextC
 refine fnq_of (q:=8) tab_ok Tryd.func129 rfl (by kernel_rfl) (by rw [Tryd.ntmps129]; exact Nat.le_add_left 7 _) ?_; rw [Tryd.ntmps129]; simp only [ancs,entA,List.length_cons,List.length_nil,List.cons_append,List.nil_append,Nat.reduceAdd,Nat.zero_add]
 simp only [HN,List.append_nil,List.cons_append,List.nil_append]
 refine qm ?_
 refine hk_region fun K hK=>runs_eval tab_ok ?_
 simp only [ev0,evA,evB,evP,fl,gp,tab,simprocAttr,reduceCtorEq,reduceIte]
 refine fin_run trivial (hK _ ?_)<;>clear hK<;>clear K
 refine qa (qm (qm ?_))
 refine hk_region fun K hK=>runs_eval tab_ok ?_
 simp only [ev0,evA,evB,evP,fl,gp,tab,simprocAttr,reduceCtorEq,reduceIte,il_length,hnL]
 refine fin_run ?_ (hK _ ?_)<;>clear hK<;>clear K
 ·(first|exact trivial|omega|(simp only [In64] at *; omega)|(simp [In64] at *; omega)|(simp_all; done)|skip)
 refine qa ?_
 refine hk_cond rfl (fun hC1=>?_) (fun hC1=>?_)
 ·(try simp only [nhs] at hC1)
  omega
 ·(try simp only [nhs] at hC1)
  refine qh (qa (qm ?_))
  refine hk_draw mixed (by kernel_rfl) fun K hK=>runs_eval tab_ok ?_
  simp only [ev0,evA,evB,evP,fl,gp,tab,simprocAttr,reduceCtorEq,reduceIte,il_get (show t.length < (nl L).length by omega),nl_get htl,hx]
  refine fin_stop ?_ (runs_call (orderOf_c h hxn) rfl rfl rfl (by simp only [dstOk,Nat.reduceLT]) (by repeat (first|exact trivial|constructor)) (runs_eval tab_ok ?_))
  ·exact ⟨by omega,by omega⟩
  simp only [ev0,evA,evB,evP,fl,gp,tab,simprocAttr,reduceCtorEq,reduceIte,il_get (show t.length < (nl L).length by omega),nl_get htl,hx]
  refine fin_run ?_ (hK _ ?_)<;>clear hK<;>clear K
  ·(first|exact trivial|omega|(simp only [In64] at *; omega)|(simp [In64] at *; omega)|(simp_all; done)|skip)
  refine qa (qm (qm ?_))
  refine hk_region fun K hK=>runs_eval tab_ok ?_
  simp only [ev0,evA,evB,evP,fl,gp,tab,simprocAttr,reduceCtorEq,reduceIte]
  refine fin_run ?_ (hK _ ?_)<;>clear hK<;>clear K
  ·(first|exact trivial|omega|(simp only [In64] at *; omega)|(simp [In64] at *; omega)|(simp_all; done)|skip)
  refine qa (ql ?_)
  refine hk_loop (ι:=Nat) (fun y=>⟨55,[(0,.p (.int .i64 t.length)),(3,.p (.ptr [.int .i64 N,.list (il M)])),(4,.ptr 0 0),(6,.ptr 2 0),(10,.p (.int .i64 (ord n (op m n) e x:Nat))),(35,.p (.int .i64 N)),(36,.p (.int .i64 y))],[.own [.sl 7 0 L.length],.own [.yv 6 lN rec.tmps],.own [.cl 129 [.p (.ptr [.list (il (nl L))]),.p (.ptr [.int .i64 n,.list (il m)]),.p (.ptr [.int .i64 N,.list (il M)]),.ptr 0 0,.ptr 1 0,.ptr 2 0]],.own [.p (p.c4 (foldS p i (pls (hsu n (op m n) e N (op M N) d L r t x y))).1)],.own [.p (p.c51 (foldS p i (pls (hsu n (op m n) e N (op M N) d L r t x y))).1),.p (p.c52 (foldS p i (pls (hsu n (op m n) e N (op M N) d L r t x y))).1)],.own [.sl 8 0 (p.R (foldS p i (pls (hsu n (op m n) e N (op M N) d L r t x y))).1).length],.lp rec,.own (rwd t L.length),.own (opl (p.R (foldS p i (pls (hsu n (op m n) e N (op M N) d L r t x y))).1)),.anc 0 0,.anc 1 1,.anc 2 2,.anc 3 3,.anc 4 4,.anc 5 5,.anc 6 6,.anc 7 7]⟩) (fun y=>y≤N∧(foldS p i (pls (hsu n (op m n) e N (op M N) d L r t x y))).2=true) (fun y=>N - y) 0 ⟨Nat.zero_le _,rfl⟩ [0,1,2,3,4,5,6,7,8,9,10,11,12,13,14,15,16] (by simp only [leq,leA,ev0,evA,evB,evP,fl,gp,tab,simprocAttr,reduceCtorEq,reduceIte,h00,hL17,rwd_ren,rwd_sc,hlS17]<;>first|trivial|trace_state) fun y hy=>?_
  obtain ⟨hy1,hy2⟩:=hy
  have hok:=foldS_ok p i _ hi (hox y) hy2
  have hsc:=@hsu_succ n e N d (op m n) (op M N) L r t x y
  obtain ⟨j,hj⟩:∃ j,(foldS p i (pls (hsu n (op m n) e N (op M N) d L r t x y))).1=j:=⟨_,rfl⟩
  rw [hj] at hok ⊢
  refine qm ?_
  refine hk_region fun K hK=>runs_eval tab_ok ?_
  simp only [ev0,evA,evB,evP,fl,gp,tab,simprocAttr,reduceCtorEq,reduceIte]
  refine fin_run trivial (hK _ ?_)<;>clear hK<;>clear K
  refine qa (qm ?_)
  refine hk_cond rfl (fun hC2=>?_) (fun hC2=>?_)
  ·(try simp only [nhs] at hC2)
   have hyN:y < N:=by omega
   have hoy:=h'.2.2.ord_pos hyN
   refine qh (qa (qm (ql (qm ?_))))
   refine hk_region fun K hK=>runs_eval tab_ok ?_
   simp only [ev0,evA,evB,evP,fl,gp,tab,simprocAttr,reduceCtorEq,reduceIte]
   refine fin_run trivial (hK _ ?_)<;>clear hK<;>clear K
   refine qa (qm ?_)
   refine hk_region fun K hK=>runs_eval tab_ok ?_
   simp only [ev0,evA,evB,evP,fl,gp,tab,simprocAttr,reduceCtorEq,reduceIte]
   refine fin_stop trivial (runs_call (orderOf_c h' hyN) rfl rfl rfl (by simp only [dstOk,Nat.reduceLT]) (by repeat (first|exact trivial|constructor)) (runs_eval tab_ok ?_))
   simp only [ev0,evA,evB,evP,fl,gp,tab,simprocAttr,reduceCtorEq,reduceIte]
   refine fin_run ?_ (hK _ ?_)<;>clear hK<;>clear K
   ·(first|exact trivial|omega|(simp only [In64] at *; omega)|(simp [In64] at *; omega)|(simp_all; done)|skip)
   refine qa ?_
   refine hk_cond rfl (fun hC3=>?_) (fun hC3=>?_)
   ·(try simp only [nhs] at hC3)
    have hIH:=IH y hyN j hok
    have hto:=foldS_on p (b:=pls (hsq n (op m n) e N (op M N) d L r (t++[y]))) hy2
    rw [hj] at hto
    unfold NextC at hIH
    obtain ⟨B,hB⟩:∃ B,(foldS p j (pls (hsq n (op m n) e N (op M N) d L r (t++[y])))).2=B:=⟨_,rfl⟩
    obtain ⟨j2,hj2⟩:∃ j2,(foldS p j (pls (hsq n (op m n) e N (op M N) d L r (t++[y])))).1=j2:=⟨_,rfl⟩
    rw [hB,hj2] at hIH
    have hcn:((t++[y]).length:Int)=(t.length:Int) + 1:=by simp
    rw [hcn] at hIH
    simp only [HN] at hIH
    refine qm ?_
    refine hk_region fun K hK=>runs_eval tab_ok ?_
    simp only [ev0,evA,evB,evP,fl,gp,tab,simprocAttr,reduceCtorEq,reduceIte,rwd_set htl,hrl]
    refine fin_run ?_ (hK _ ?_)<;>clear hK<;>clear K
    ·(first|exact trivial|omega|(simp only [In64] at *; omega)|(simp [In64] at *; omega)|(simp_all; done)|skip)
    refine qa (qm ?_)
    refine hk_region fun K hK=>runs_eval tab_ok ?_
    simp only [ev0,evA,evB,evP,fl,gp,tab,simprocAttr,reduceCtorEq,reduceIte]
    refine fin_stop ?_ (runs_callQ [0,1,2,3,4,5,6,7,8] (hIH) rfl rfl ?_ (by simp only [leA,ev0,evA,evB,evP,fl,gp,tab,simprocAttr,reduceCtorEq,reduceIte,hL9,hL9',rwd_ren,rwd_sc,hlS9]; first|trivial|(simp only [ll_takeL]; first|trivial|(repeat constructor; done))|(repeat constructor)) (by decide) (by first|rfl|(simp only [List.length_cons,List.length_nil,List.length_append]; decide)) (by first|rfl|(simp [scQ,scA,sc1,mpKeep,notAnc,Blk.spc,opl_sc,hL9,hL9',rwd_ren,rwd_sc,hlS9]; done)) (by simp only [dstOk,Nat.reduceLT]) (runs_eval tab_ok ?_))
    ·(first|exact trivial|omega|(simp only [In64] at *; omega)|(simp [In64] at *; omega)|(simp_all; done)|skip)
    ·(simp only [argsM,argM1,peekG,peekS,scA,sc1,ren,ren1,List.map_cons,List.map_nil,List.append_nil,List.cons_append,List.nil_append,enA,ev0,evA,evB,evP,fl,gp,tab,simprocAttr,reduceCtorEq,reduceIte]; try trivial)
    simp only [putM,kills,hset,List.take_succ_cons,List.take_zero,List.drop_succ_cons,List.drop_zero,List.range',Blk.ren,ren,ren1,List.map_cons,List.map_nil,List.cons_append,List.nil_append,List.append_nil,List.length_cons,List.length_nil,ev0,evA,evB,evP,fl,gp,tab,simprocAttr,reduceCtorEq,reduceIte,recB_true,hL9,hL9',rwd_ren,rwd_sc,hlS9]
    refine fin_run ?_ (hK _ ?_)<;>clear hK<;>clear K
    ·(first|exact trivial|omega|(simp only [In64] at *; omega)|(simp [In64] at *; omega)|(simp_all; done)|skip)
    refine qa ?_
    refine hk_back 7 rfl htl ?_
    refine hk_cond rfl (fun hC4=>?_) (fun hC4=>?_)
    ·(try simp only [nhs] at hC4)
     subst hC4
     have hm:ord n (op m n) e x % ord N (op M N) d y=0:=by omega
     rw [if_pos hm] at hsc
     obtain ⟨z,hz⟩:=@hsu_pre n e N d (op m n) (op M N) L r t x (y + 1) (by omega)
     have hfin:foldS p i (pls (hsq n (op m n) e N (op M N) d L (x :: r) t))=(j2,false):=by
      have e1:foldS p i (pls (hsu n (op m n) e N (op M N) d L r t x (y + 1)))=(j2,false):=by
       rw [hsc,pls_app,hto,← hj2,← hB]
      rw [hz,pls_app,foldS_pre p (by rw [e1]),e1]
     rw [hfin]
     refine qm ?_
     refine hk_region fun K hK=>runs_eval tab_ok ?_
     simp only [ev0,evA,evB,evP,fl,gp,tab,simprocAttr,reduceCtorEq,reduceIte]
     refine fin_run trivial (hK _ ?_)<;>clear hK<;>clear K
     refine qa (qk (qe (qb (qb (qe (qb ?_))))))
     simp only [Tryd.results129,PostG,endG,rvsA,rvA,mkTup,ev0,evA,evB,evP,fl,gp,tab,simprocAttr,reduceCtorEq,reduceIte]
     all_goals (exact ⟨[0,1,2,3,4,5,6,7,17,9,10,11,12,13,14,15,16],rfl,rfl,by simp only [leq,leA,ev0,evA,evB,evP,fl,gp,tab,simprocAttr,reduceCtorEq,reduceIte,hL17,hL17',rwd_ren,rwd_sc,hlS17]<;>first|trivial|trace_state⟩)
    ·(try simp only [nhs] at hC4)
     obtain rfl:B=true:=by simpa using hC4
     rw [recB_true]
     have hm:ord n (op m n) e x % ord N (op M N) d y=0:=by omega
     rw [if_pos hm] at hsc
     have e1:foldS p i (pls (hsu n (op m n) e N (op M N) d L r t x (y + 1)))=(j2,true):=by
      rw [hsc,pls_app,hto,← hj2,← hB]
     refine qh (qd (qa ?_))
     refine hk_region fun K hK=>runs_eval tab_ok ?_
     simp only [ev0,evA,evB,evP,fl,gp,tab,simprocAttr,reduceCtorEq,reduceIte]
     refine fin_run ?_ (hK _ ?_)<;>clear hK<;>clear K
     ·(first|exact trivial|omega|(simp only [In64] at *; omega)|(simp [In64] at *; omega)|(simp_all; done)|skip)
     refine qa ?_
     refine ⟨y + 1,[0,1,2,3,4,5,6,7,17,9,10,11,12,13,14,15,16],⟨by omega,by rw [e1]⟩,by omega,?_⟩
     simp only [leq,leA,ev0,evA,evB,evP,fl,gp,tab,simprocAttr,reduceCtorEq,reduceIte,e1,hL17,hL17',rwd_ren,rwd_sc,hlS17]<;>first|trivial|omega|trace_state
   ·(try simp only [nhs] at hC3)
    have hm:¬ ord n (op m n) e x % ord N (op M N) d y=0:=by omega
    rw [if_neg hm] at hsc
    have e1:foldS p i (pls (hsu n (op m n) e N (op M N) d L r t x (y + 1)))=(j,true):=by
     rw [hsc,← hj,← hy2]
    refine qh (qd (qa ?_))
    refine hk_region fun K hK=>runs_eval tab_ok ?_
    simp only [ev0,evA,evB,evP,fl,gp,tab,simprocAttr,reduceCtorEq,reduceIte]
    refine fin_run ?_ (hK _ ?_)<;>clear hK<;>clear K
    ·(first|exact trivial|omega|(simp only [In64] at *; omega)|(simp [In64] at *; omega)|(simp_all; done)|skip)
    refine qa ?_
    refine ⟨y + 1,[0,1,2,3,4,5,6,7,8,9,10,11,12,13,14,15,16],⟨by omega,by rw [e1]⟩,by omega,?_⟩
    simp only [leq,leA,ev0,evA,evB,evP,fl,gp,tab,simprocAttr,reduceCtorEq,reduceIte,e1,hL17,hL17',rwd_ren,rwd_sc,hlS17]<;>first|trivial|omega|trace_state
  ·(try simp only [nhs] at hC2)
   obtain rfl:y=N:=by omega
   have hfin:foldS p i (pls (hsq n (op m n) e y (op M y) d L (x :: r) t))=(j,true):=by
    rw [hsu_end,← hj,← hy2]
   rw [hfin]
   refine qj (qc (qc (qf (qa (qm ?_)))))
   refine hk_region fun K hK=>runs_eval tab_ok ?_
   simp only [ev0,evA,evB,evP,fl,gp,tab,simprocAttr,reduceCtorEq,reduceIte]
   refine fin_run trivial (hK _ ?_)<;>clear hK<;>clear K
   refine qa (qk ?_)
   simp only [Tryd.results129,PostG,endG,rvsA,rvA,mkTup,ev0,evA,evB,evP,fl,gp,tab,simprocAttr,reduceCtorEq,reduceIte]
   all_goals (exact ⟨[0,1,2,3,4,5,6,7,8,9,10,11,12,13,14,15,16],rfl,rfl,by simp only [leq,leA,ev0,evA,evB,evP,fl,gp,tab,simprocAttr,reduceCtorEq,reduceIte,hL17,hL17',rwd_ren,rwd_sc,hlS17]<;>first|trivial|trace_state⟩)
end
end Go.Proofs.YtboadfahlflmhaaDoor

/-
  Walks: the search begun; loops over all homomorphisms. Conditions: none.
-/
set_option linter.all false
namespace Go.Pv
open Go.RowKit
theorem back1 {ks:List Nat} (h0:ks.getD 3 0=0) (h1:ks.getD 4 0=1) (h2:ks.getD 5 0=2) (h3:ks.getD 6 0=3) {x:AV} (h:sc1 4 x=true):ren1 ks (ren1 [3,4,5,6,8] x)=x:=by
 have hg:∀ k,k < 4→ks.getD ([3,4,5,6,8].getD k 0) 0=k:=fun k hk=>by
  match k,hk with
  | 0,_=>exact h0
  | 1,_=>exact h1
  | 2,_=>exact h2
  | 3,_=>exact h3
 cases x<;>simp only [sc1,decide_eq_true_eq] at h<;>first|(cases h; done)|(simp only [ren1,hg _ h]; done)|rfl
theorem backL {ks:List Nat} (h0:ks.getD 3 0=0) (h1:ks.getD 4 0=1) (h2:ks.getD 5 0=2) (h3:ks.getD 6 0=3) {l:List AV} (h:l.all (sc1 4)=true):(l.map (ren1 [3,4,5,6,8])).map (ren1 ks)=l:=by
 rw [List.all_eq_true] at h
 rw [List.map_map]
 exact (List.map_congr_left fun x hx=>back1 h0 h1 h2 h3 (h x hx)).trans (List.map_id _)
theorem hk_forget {P:Program} {Q:Exit→St→Prop} {s:St} {c:Code} (k:Nat) {b:List AV} (hk:hget s.H k = .own b) (h:Holds P c Q { s with H:=hset s.H k (.own (List.replicate b.length .dead)) }):Holds P c Q s:=
 hk_cells k hk (by simp) (fun C m tmps w R j h1 h2 v hv=>by rw [List.getElem_replicate]; exact .dead _) h
end Go.Pv
namespace Go.Proofs.YtboadfahlflmhaaDoor
open Go.Pv
section
variable {n e N d:Nat} {m M:List Int} {σ:Type}
theorem next_c (p:Prot σ) (h:GT n m n e) (h' : GT N M N d) (L:List Nat) (hL:L=gl n (op m n) e n) {rec:Loop} (hrp:rec.params.size=1) {l lN:List AV} (hY:Rounds Tryd.prog p rec l) (hokx:∀ φ,Hmo n (op m n) N (op M N) φ→p.okx (.list (il (tbm n φ))))
  (hl:l.all (sc1 4)=true) (hlN:l.map (ren1 [3,4,5,6,8])=lN):∀ (r t:List Nat) (i:σ),t.length≤L.length→L.drop t.length=r→(∀ y∈t,y < N)→p.ok i→NextC p n m e N M d L rec lN r t i
 | [],t,i,h1,h2,h3,hi=>by
  have htl:t.length=L.length:=by
   have:=congrArg List.length h2
   simp at this; omega
  by_cases hex:∃ φ,Ext n (op m n) N (op M N) L t φ
  ·exact next_leaf1 p h h' L hL hrp hY hokx hl hlN t i htl h3 hi hex
  ·exact next_leaf2 p h h' L hL hrp hY hokx hl hlN t i htl h3 hi hex
 | x :: r,t,i,h1,h2,h3,hi=>by
  have htl:t.length < L.length:=by
   have:=congrArg List.length h2
   simp at this; omega
  have hd:L.drop t.length=L[t.length] :: L.drop (t.length + 1):=List.drop_eq_getElem_cons htl
  rw [h2] at hd
  obtain ⟨e1,e2⟩:=List.cons.inj hd
  refine next_step p h h' L hL (fixL hl hlN) hokx x r t i (by simp [List.getD,List.getElem?_eq_getElem htl,e1]) htl hi fun y hy j hj=>?_
  exact next_c p h h' L hL hrp hY hokx hl hlN r (t++[y]) j (by simp; omega) (by rw [List.length_append]; exact e2.symm) (fun z hz=>by
   rcases List.mem_append.1 hz with hz | hz
   ·exact h3 z hz
   ·have:z=y:=by simpa using hz
    omega) hj

set_option maxHeartbeats 8000000 in
set_option maxRecDepth 20000 in
theorem each_c (p:Prot σ) (h:GT n m n e) (h' : GT N M N d) (L:List Nat) (hL:L=gl n (op m n) e n) {rec:Loop} (hrp:rec.params.size=1) {l:List AV} (hY:Rounds Tryd.prog p rec l) (hokx:∀ φ,Hmo n (op m n) N (op M N) φ→p.okx (.list (il (tbm n φ))))
  (hl:l.all (sc1 4)=true) (i:σ) (hi:p.ok i) {j:σ} {b:Bool} (hf:foldS p i (pls (hsq n (op m n) e N (op M N) d L L []))=(j,b)) :
  FnQ Tryd.prog 4 79 [.p (gp n m),.p (gp N M),.yv 3 l rec.tmps] (HU p i (.lp rec)) (.p (.tup [])) (HU p j (.lp (recB b rec))):=by
 have hlN:l.map (ren1 [3,4,5,6,8])=l.map (ren1 [3,4,5,6,8]):=rfl
 have hNx:=next_c p h h' L hL hrp hY hokx hl hlN L [] i (Nat.zero_le _) rfl (fun y hy=>by simp at hy) hi
 unfold NextC at hNx
 rw [hf] at hNx
 have hc0:((([]:List Nat).length:Nat):Int)=0:=rfl
 rw [hc0] at hNx
 have hbk:∀ ks:List Nat,ks.getD 3 0=0→ks.getD 4 0=1→ks.getD 5 0=2→ks.getD 6 0=3→(l.map (ren1 [3,4,5,6,8])).map (ren1 ks)=l:=fun ks h0 h1 h2 h3=>backL h0 h1 h2 h3 hl
 have hlS:=fixL hl hlN
 generalize l.map (ren1 [3,4,5,6,8])=lN at hNx hbk hlS
 simp only [HN] at hNx
 have hL9:=hbk [14,11,15,0,1,2,3,13,4] rfl rfl rfl rfl
 have hlS9:lN.all (sc1 9)=true:=all_up (by decide) hlS.1
 have hll:=gl_len n (op m n) e n
 have hn:=h.2.1.big
 rw [← hL] at hll
 have hrw:List.replicate (List.replicate L.length (AV.p (.int .i64 0))).length AV.dead=rwd [] L.length:=by simp [rwd,nl,il,opl]
 have hnL:=nl_len L
 have hgn:=gens_c h
 rw [← hL] at hgn
 have hone:=p.ones i hi
 refine fnq_of (q:=4) tab_ok Tryd.func79 rfl (by kernel_rfl) (by rw [Tryd.ntmps79]; exact Nat.le_add_left 3 _) ?_; rw [Tryd.ntmps79]; simp only [ancs,entA,List.length_cons,List.length_nil,List.cons_append,List.nil_append,Nat.reduceAdd,Nat.zero_add]
 simp only [HU,List.append_nil,List.cons_append,List.nil_append]
 refine qm ?_
 refine hk_region fun K hK=>runs_eval tab_ok ?_
 simp only [ev0,evA,evB,evP,fl,gp,tab,simprocAttr,reduceCtorEq,reduceIte]
 refine fin_run ?_ (hK _ ?_)<;>clear hK<;>clear K
 ·(first|exact trivial|omega|(simp only [In64] at *; omega)|(simp [In64] at *; omega)|(simp_all; done)|skip)
 refine qa (qm ?_)
 refine hk_region fun K hK=>runs_eval tab_ok ?_
 simp only [ev0,evA,evB,evP,fl,gp,tab,simprocAttr,reduceCtorEq,reduceIte]
 refine fin_stop trivial (runs_call (hgn) rfl rfl rfl (by simp only [dstOk,Nat.reduceLT]) (by repeat (first|exact trivial|constructor)) (runs_eval tab_ok ?_))
 simp only [ev0,evA,evB,evP,fl,gp,tab,simprocAttr,reduceCtorEq,reduceIte]
 refine fin_run ?_ (hK _ ?_)<;>clear hK<;>clear K
 ·(first|exact trivial|omega|(simp only [In64] at *; omega)|(simp [In64] at *; omega)|(simp_all; done)|skip)
 refine qa (qm ?_)
 refine hk_region fun K hK=>runs_eval tab_ok ?_
 simp only [ev0,evA,evB,evP,fl,gp,tab,simprocAttr,reduceCtorEq,reduceIte]
 refine fin_run ?_ (hK _ ?_)<;>clear hK<;>clear K
 ·rw [hnL]; exact ⟨by omega,by omega,by omega,by omega⟩
 refine qa (qm ?_)
 refine hk_region fun K hK=>runs_eval tab_ok ?_
 simp only [ev0,evA,evB,evP,fl,gp,tab,simprocAttr,reduceCtorEq,reduceIte]
 refine fin_run ?_ (hK _ ?_)<;>clear hK<;>clear K
 ·(first|exact trivial|omega|(simp only [In64] at *; omega)|(simp [In64] at *; omega)|(simp_all; done)|skip)
 refine qa (qm ?_)
 refine hk_freeze 12 rfl rfl ?_
 refine hk_freeze 9 rfl rfl ?_
 refine hk_freeze 10 rfl rfl ?_
 refine hk_forget 13 rfl ?_
 simp only [hset,hrw,hnL]
 refine hk_pure 6 rfl (Nat.zero_le _) ?_
 refine hk_pure 3 rfl (Nat.zero_le _) ?_
 refine hk_pure 4 rfl (Nat.zero_le _) ?_
 refine hk_region fun K hK=>runs_eval tab_ok ?_
 simp only [ev0,evA,evB,evP,fl,gp,tab,simprocAttr,reduceCtorEq,reduceIte]
 refine fin_stop ?_ (runs_op (makeCl_does rfl rfl) rfl (by simp only [dstOk,Nat.reduceLT]) (runs_eval tab_ok ?_))
 ·(first|exact trivial|omega|(simp only [In64] at *; omega)|(simp [In64] at *; omega)|(simp_all; done)|skip)
 simp only [ev0,evA,evB,evP,fl,gp,tab,simprocAttr,reduceCtorEq,reduceIte]
 refine fin_run ?_ (hK _ ?_)<;>clear hK<;>clear K
 ·(first|exact trivial|omega|(simp only [In64] at *; omega)|(simp [In64] at *; omega)|(simp_all; done)|skip)
 refine qa ?_
 refine hk_region fun K hK=>runs_eval tab_ok ?_
 simp only [ev0,evA,evB,evP,fl,gp,tab,simprocAttr,reduceCtorEq,reduceIte]
 refine fin_stop ?_ (runs_callQ [14,11,15,0,1,2,3,13,4] (hNx) rfl rfl ?_ (by simp only [leA,ev0,evA,evB,evP,fl,gp,tab,simprocAttr,reduceCtorEq,reduceIte,hL9,rwd_ren,rwd_sc,hlS9]; first|trivial|(simp only [ll_takeL]; first|trivial|(repeat constructor; done))|(repeat constructor)) (by decide) (by first|rfl|(simp only [List.length_cons,List.length_nil,List.length_append]; decide)) (by first|rfl|(simp [scQ,scA,sc1,mpKeep,notAnc,Blk.spc,opl_sc,hL9,rwd_ren,rwd_sc,hlS9]; done)) (by simp only [dstOk,Nat.reduceLT]) (runs_eval tab_ok ?_))
 ·(first|exact trivial|omega|(simp only [In64] at *; omega)|(simp [In64] at *; omega)|(simp_all; done)|skip)
 ·(simp only [argsM,argM1,peekG,peekS,scA,sc1,ren,ren1,List.map_cons,List.map_nil,List.append_nil,List.cons_append,List.nil_append,enA,ev0,evA,evB,evP,fl,gp,tab,simprocAttr,reduceCtorEq,reduceIte]; try trivial)
 simp only [putM,kills,hset,List.take_succ_cons,List.take_zero,List.drop_succ_cons,List.drop_zero,List.range',Blk.ren,ren,ren1,List.map_cons,List.map_nil,List.cons_append,List.nil_append,List.append_nil,List.length_cons,List.length_nil,ev0,evA,evB,evP,fl,gp,tab,simprocAttr,reduceCtorEq,reduceIte,hL9,rwd_ren,rwd_sc,hlS9]
 refine fin_run ?_ (hK _ ?_)<;>clear hK<;>clear K
 ·(first|exact trivial|omega|(simp only [In64] at *; omega)|(simp [In64] at *; omega)|(simp_all; done)|skip)
 simp only [Tryd.results79,PostG,endG,rvsA,rvA,mkTup,ev0,evA,evB,evP,fl,gp,tab,simprocAttr,reduceCtorEq,reduceIte]
 all_goals (exact ⟨[0,1,2,3,16,5,6,7,8],rfl,rfl,by simp only [leq,leA,ev0,evA,evB,evP,fl,gp,tab,simprocAttr,reduceCtorEq,reduceIte]<;>first|trivial|trace_state⟩)
end
end Go.Proofs.YtboadfahlflmhaaDoor

/-
  Walks: all homomorphisms, handed out one by one to who keeps no list. Conditions: none.
-/
set_option linter.all false
namespace Go.Pv
open Go.RowKit
variable {σ:Type}
/-- The blocks of who loops and keeps no list. -/
def HV (p:Prot σ) (i:σ) (b:Blk):Heap:=[.own [.p (p.c4 i)],.own [.p (p.c51 i),.p (p.c52 i)],b]
def RoundsV (P:Program) (p:Prot σ) (rec:Loop) (l:List AV):Prop:=∀ i x,p.ok i→p.okx x→YldQ P 3 2 rec l x (HV p i (.lp rec)) (.p (.bool (p.go i x))) (HV p (p.nx i x) (.lp (recB (p.go i x) rec)))
theorem fixV1 {x:AV} {π:List Nat} (h:sc1 3 x=true) (hπ:π.take 6=[0,1,2,3,4,5]):sc1 6 (ren1 [3,4,5] x)=true∧ren1 π (ren1 [3,4,5] x)=ren1 [3,4,5] x:=by
 have hg:∀ k,k < 3→[3,4,5].getD k 0 < 6∧π.getD ([3,4,5].getD k 0) 0=[3,4,5].getD k 0:=fun k hk=>by
  have e:∀ j,j < 6→π.getD j 0=j:=fun j hj=>by
   have:=congrArg (fun l=>l.getD j 0) hπ
   simp only [List.getD_eq_getElem?_getD,List.getElem?_take,hj,if_true] at this ⊢
   rw [this]
   exact (show ∀ j,j < 6→([0,1,2,3,4,5]:List Nat)[j]?.getD 0=j by decide) j hj
  have:∀ k,k < 3→[3,4,5].getD k 0 < 6:=by decide
  exact ⟨this k hk,e _ (this k hk)⟩
 cases x<;>simp only [sc1,decide_eq_true_eq] at h<;>first|(cases h; done)|(simp only [ren1,sc1,decide_eq_true_eq,(hg _ h).2]; exact ⟨(hg _ h).1,trivial⟩)|exact ⟨rfl,rfl⟩
theorem fixV {l lN:List AV} (hl:l.all (sc1 3)=true) (hlN:l.map (ren1 [3,4,5])=lN):lN.all (sc1 6)=true∧∀ π:List Nat,π.take 6=[0,1,2,3,4,5]→lN.map (ren1 π)=lN:=by
 rw [List.all_eq_true] at hl
 subst hlN
 refine ⟨?_,fun π hπ=>?_⟩
 ·rw [List.all_eq_true]
  intro y hy
  obtain ⟨x,hx,rfl⟩:=List.mem_map.1 hy
  exact (fixV1 (π:=[0,1,2,3,4,5]) (hl x hx) rfl).1
 ·rw [List.map_map]
  exact List.map_congr_left fun x hx=>(fixV1 (hl x hx) hπ).2
theorem backV {ks:List Nat} (h0:ks.getD 3 0=0) (h1:ks.getD 4 0=1) (h2:ks.getD 5 0=2) {l:List AV} (h:l.all (sc1 3)=true):(l.map (ren1 [3,4,5])).map (ren1 ks)=l:=by
 have hg:∀ k,k < 3→ks.getD ([3,4,5].getD k 0) 0=k:=fun k hk=>by
  match k,hk with
  | 0,_=>exact h0
  | 1,_=>exact h1
  | 2,_=>exact h2
 have h1:∀ x,sc1 3 x=true→ren1 ks (ren1 [3,4,5] x)=x:=fun x h=>by
  cases x<;>simp only [sc1,decide_eq_true_eq] at h<;>first|(cases h; done)|(simp only [ren1,hg _ h]; done)|rfl
 rw [List.all_eq_true] at h
 rw [List.map_map]
 exact (List.map_congr_left fun x hx=>h1 x (h x hx)).trans (List.map_id _)
end Go.Pv
namespace Go.Proofs.YtboadfahlflmhaaDoor
open Go.Pv
section
variable {n e N d:Nat} {m M:List Int} {σ:Type}
/-- The blocks of who searches. -/
def HNV (p : Prot σ) (n : Nat) (m : List Int) (N : Nat) (M : List Int) (L : List Nat) (lN : List AV) (vs : Array Value) (t : List Nat) (i : σ) (b : Blk) : Heap :=
  [.own [.sl 6 0 L.length], .own [.yv 5 lN vs], .own [.cl 129 [.p (.ptr [.list (il (nl L))]), .p (.ptr [.int .i64 n, .list (il m)]), .p (.ptr [.int .i64 N, .list (il M)]), .ptr 0 0, .ptr 1 0, .ptr 2 0]],
   .own [.p (p.c4 i)], .own [.p (p.c51 i), .p (p.c52 i)], b, .own (rwd t L.length)]

def NextV (p:Prot σ) (n:Nat) (m:List Int) (e N:Nat) (M:List Int) (d:Nat) (L:List Nat) (rec:Loop) (lN:List AV) (r t:List Nat) (i:σ):Prop:=
 FnQ Tryd.prog 7 129 [.p (.int .i64 t.length),.p (.ptr [.list (il (nl L))]),.p (.ptr [.int .i64 n,.list (il m)]),.p (.ptr [.int .i64 N,.list (il M)]),.ptr 0 0,.ptr 1 0,.ptr 2 0]
  (HNV p n m N M L lN rec.tmps t i (.lp rec)) (.p (.bool (foldS p i (pls (hsq n (op m n) e N (op M N) d L r t))).2)) (HNV p n m N M L lN rec.tmps t (foldS p i (pls (hsq n (op m n) e N (op M N) d L r t))).1 (.lp (recB (foldS p i (pls (hsq n (op m n) e N (op M N) d L r t))).2 rec)))

set_option maxHeartbeats 8000000 in
set_option maxRecDepth 20000 in
theorem vleaf1 (p:Prot σ) (h:GT n m n e) (h' : GT N M N d) (L:List Nat) (hL:L=gl n (op m n) e n) {rec:Loop} (hrp:rec.params.size=1) {l lN:List AV} (hY:RoundsV Tryd.prog p rec l) (hokx:∀ φ,Hmo n (op m n) N (op M N) φ→p.okx (.list (il (tbm n φ))))
  (hl:l.all (sc1 3)=true) (hlN:l.map (ren1 [3,4,5])=lN) (t:List Nat) (i:σ) (htl:t.length=L.length) (hty:∀ y∈t,y < N) (hi:p.ok i) (hex:∃ φ,Ext n (op m n) N (op M N) L t φ):NextV p n m e N M d L rec lN [] t i:=by
 have hn:=h.2.1.big
 have hpos:0 < n:=h.2.1.pos
 have hll:=gl_len n (op m n) e n
 rw [← hL] at hll
 have hLlt:=gl_lt n (op m n) e n
 have hLg:=gl_gen n (op m n) e h.2.2
 rw [← hL] at hLlt hLg
 have hF:∀ i,i < L.length→L.getD i 0 < n:=fun i hi=>hLlt _ (by simp [List.getD,List.getElem?_eq_getElem hi])
 have hT:∀ i,i < L.length→t.getD i 0 < N:=fun i hi=>hty _ (by simp [List.getD,List.getElem?_eq_getElem (show i < t.length by omega)])
 have hnt:=nl_len t
 have hnL:=nl_len L
 have hone:=p.ones i hi
 have hnn:(nl L).length=(nl t).length:=by omega
 have hlS:=fixV hl hlN
 unfold NextV
 have hs:hsq n (op m n) e N (op M N) d L [] t=[tbm n (Classical.choose hex)]:=by unfold hsq hlf; rw [dif_pos hex]
 have hφ:=Classical.choose_spec hex
 generalize Classical.choose hex=φ at hs hφ
 have hsp:=spread_yes h h' L t htl.symm (by omega) hF hT hLg hφ
 have hpl:pls (hsq n (op m n) e N (op M N) d L [] t)=[.list (il (tbm n φ))]:=by rw [hs]; rfl
 have hY1:=hY i _ hi (hokx φ hφ.1)
 have htb:=tbm_len n φ
 have hne:il (tbm n φ) ≠ []:=by intro hh; have:=congrArg List.length hh; rw [il_length,htb] at this; simp at this; omega
 rw [hpl]
 have hf1:foldS p i [PV.list (il (tbm n φ))]=(p.nx i (.list (il (tbm n φ))),p.go i (.list (il (tbm n φ)))):=by
  simp only [foldS]
  split<;>simp_all
 rw [hf1]
 unfold HV at hY1
 simp only
 refine fnq_of (q:=7) tab_ok Tryd.func129 rfl (by kernel_rfl) (by rw [Tryd.ntmps129]; exact Nat.le_add_left 7 _) ?_; rw [Tryd.ntmps129]; simp only [ancs,entA,List.length_cons,List.length_nil,List.cons_append,List.nil_append,Nat.reduceAdd,Nat.zero_add]
 simp only [HNV,rwd_full htl,List.append_nil,List.cons_append,List.nil_append]
 rw [show L.length=(nl t).length by omega]
 refine qm ?_
 refine hk_region fun K hK=>runs_eval tab_ok ?_
 simp only [ev0,evA,evB,evP,fl,gp,tab,simprocAttr,reduceCtorEq,reduceIte]
 refine fin_run trivial (hK _ ?_)<;>clear hK<;>clear K
 refine qa (qm (qm ?_))
 refine hk_region fun K hK=>runs_eval tab_ok ?_
 simp only [ev0,evA,evB,evP,fl,gp,tab,simprocAttr,reduceCtorEq,reduceIte,il_length,hnn]
 refine fin_run ?_ (hK _ ?_)<;>clear hK<;>clear K
 ·(first|exact trivial|omega|(simp only [In64] at *; omega)|(simp [In64] at *; omega)|(simp_all; done)|skip)
 refine qa ?_
 refine hk_cond rfl (fun hC1=>?_) (fun hC1=>?_)
 ·(try simp only [nhs] at hC1)
  refine qm ?_
  refine hk_region fun K hK=>runs_eval tab_ok ?_
  simp only [ev0,evA,evB,evP,fl,gp,tab,simprocAttr,reduceCtorEq,reduceIte]
  refine fin_stop ?_ (runs_callF (FnG_fnf hsp (by simp [il,PV.sc])) rfl (by simp only [callA,peekList,peekG,peekS,List.map_cons,List.map_nil,List.append_nil,enA,ev0,evA,evB,evP,fl,gp,tab,simprocAttr,reduceCtorEq,reduceIte,List.drop_zero,ol_drop,ol_take,take_len,ol_allP,il_all,il_length]; rfl) (by simp only [dstOk,Nat.reduceLT]) ?_ (runs_eval tab_ok ?_))
  ·(first|exact trivial|omega|(simp only [In64] at *; omega)|(simp [In64] at *; omega)|(simp_all; done)|skip)
  ·(first|exact trivial|omega|(simp only [In64] at *; omega)|(simp [In64] at *; omega)|(simp_all; done)|skip)
  simp only [ev0,evA,evB,evP,fl,gp,tab,simprocAttr,reduceCtorEq,reduceIte]
  refine fin_run ?_ (hK _ ?_)<;>clear hK<;>clear K
  ·(first|exact trivial|omega|(simp only [In64] at *; omega)|(simp [In64] at *; omega)|(simp_all; done)|skip)
  refine qa (qm ?_)
  refine hk_region fun K hK=>runs_eval tab_ok ?_
  simp only [ev0,evA,evB,evP,fl,gp,tab,simprocAttr,reduceCtorEq,reduceIte,binA.eq_def,Option.map_some]
  refine fin_stop ?_ (runs_yield [3,4,5] (hY1) hrp rfl rfl rfl ?_ (by simp only [leA,ev0,evA,evB,evP,fl,gp,tab,simprocAttr,reduceCtorEq,reduceIte]; first|trivial|(simp only [ll_takeL]; first|trivial|(repeat constructor; done))|(repeat constructor)) (by decide) (by first|rfl|(simp only [List.length_cons,List.length_nil,List.length_append]; decide)) (by first|rfl|(simp [scQ,scA,sc1,mpKeep,notAnc,Blk.spc,opl_sc]; done)) (by simp only [dstOk,Nat.reduceLT]) (runs_eval tab_ok ?_))
  ·(first|exact trivial|omega|(simp only [In64] at *; omega)|(simp [In64] at *; omega)|(simp_all; done)|skip)
  ·(simp only [argsM,argM1,peekG,peekS,scA,sc1,ren,ren1,List.map_cons,List.map_nil,List.append_nil,List.cons_append,List.nil_append,enA,ev0,evA,evB,evP,fl,gp,tab,simprocAttr,reduceCtorEq,reduceIte]; try trivial)
   exact ⟨by rw [hlN],all_up (by decide) hl⟩
  simp only [putM,kills,hset,List.take_succ_cons,List.take_zero,List.drop_succ_cons,List.drop_zero,List.range',Blk.ren,ren,ren1,List.map_cons,List.map_nil,List.cons_append,List.nil_append,List.append_nil,List.length_cons,List.length_nil,ev0,evA,evB,evP,fl,gp,tab,simprocAttr,reduceCtorEq,reduceIte,binA.eq_def,Option.map_some]
  refine fin_run ?_ (hK _ ?_)<;>clear hK<;>clear K
  ·(first|exact trivial|omega|(simp only [In64] at *; omega)|(simp [In64] at *; omega)|(simp_all; done)|skip)
  refine qa (qk (qb ?_))
  simp only [Tryd.results129,PostG,endG,rvsA,rvA,mkTup,ev0,evA,evB,evP,fl,gp,tab,simprocAttr,reduceCtorEq,reduceIte]
  all_goals (exact ⟨[0,1,2,3,4,5,6,7,8,9,10,11,12,13],rfl,rfl,by simp only [leq,leA,ev0,evA,evB,evP,fl,gp,tab,simprocAttr,reduceCtorEq,reduceIte]<;>first|trivial|exact ⟨by rw [hlS.2 _ rfl],all_up (by decide) hlS.1⟩|trace_state⟩)
 ·(try simp only [nhs] at hC1)
  omega
set_option maxHeartbeats 8000000 in
set_option maxRecDepth 20000 in
theorem vleaf2 (p:Prot σ) (h:GT n m n e) (h' : GT N M N d) (L:List Nat) (hL:L=gl n (op m n) e n) {rec:Loop} (hrp:rec.params.size=1) {l lN:List AV} (hY:RoundsV Tryd.prog p rec l) (hokx:∀ φ,Hmo n (op m n) N (op M N) φ→p.okx (.list (il (tbm n φ))))
  (hl:l.all (sc1 3)=true) (hlN:l.map (ren1 [3,4,5])=lN) (t:List Nat) (i:σ) (htl:t.length=L.length) (hty:∀ y∈t,y < N) (hi:p.ok i) (hex:¬ ∃ φ,Ext n (op m n) N (op M N) L t φ):NextV p n m e N M d L rec lN [] t i:=by
 have hn:=h.2.1.big
 have hpos:0 < n:=h.2.1.pos
 have hll:=gl_len n (op m n) e n
 rw [← hL] at hll
 have hLlt:=gl_lt n (op m n) e n
 have hLg:=gl_gen n (op m n) e h.2.2
 rw [← hL] at hLlt hLg
 have hF:∀ i,i < L.length→L.getD i 0 < n:=fun i hi=>hLlt _ (by simp [List.getD,List.getElem?_eq_getElem hi])
 have hT:∀ i,i < L.length→t.getD i 0 < N:=fun i hi=>hty _ (by simp [List.getD,List.getElem?_eq_getElem (show i < t.length by omega)])
 have hnt:=nl_len t
 have hnL:=nl_len L
 have hone:=p.ones i hi
 have hnn:(nl L).length=(nl t).length:=by omega
 have hlS:=fixV hl hlN
 unfold NextV
 have hs:hsq n (op m n) e N (op M N) d L [] t=[]:=by unfold hsq hlf; rw [dif_neg hex]
 have hsp:=fnc_of_p (spread_no h h' L t htl.symm (by omega) hF hT hLg fun φ hφ=>hex ⟨φ,hφ⟩) rfl
 have hpl:pls (hsq n (op m n) e N (op M N) d L [] t)=[]:=by rw [hs]; rfl
 rw [hpl]
 simp only [foldS]
 refine fnq_of (q:=7) tab_ok Tryd.func129 rfl (by kernel_rfl) (by rw [Tryd.ntmps129]; exact Nat.le_add_left 7 _) ?_; rw [Tryd.ntmps129]; simp only [ancs,entA,List.length_cons,List.length_nil,List.cons_append,List.nil_append,Nat.reduceAdd,Nat.zero_add]
 simp only [HNV,rwd_full htl,List.append_nil,List.cons_append,List.nil_append]
 rw [show L.length=(nl t).length by omega]
 refine qm ?_
 refine hk_region fun K hK=>runs_eval tab_ok ?_
 simp only [ev0,evA,evB,evP,fl,gp,tab,simprocAttr,reduceCtorEq,reduceIte]
 refine fin_run trivial (hK _ ?_)<;>clear hK<;>clear K
 refine qa (qm (qm ?_))
 refine hk_region fun K hK=>runs_eval tab_ok ?_
 simp only [ev0,evA,evB,evP,fl,gp,tab,simprocAttr,reduceCtorEq,reduceIte,il_length,hnn]
 refine fin_run ?_ (hK _ ?_)<;>clear hK<;>clear K
 ·(first|exact trivial|omega|(simp only [In64] at *; omega)|(simp [In64] at *; omega)|(simp_all; done)|skip)
 refine qa ?_
 refine hk_cond rfl (fun hC1=>?_) (fun hC1=>?_)
 ·(try simp only [nhs] at hC1)
  refine qm ?_
  refine hk_region fun K hK=>runs_eval tab_ok ?_
  simp only [ev0,evA,evB,evP,fl,gp,tab,simprocAttr,reduceCtorEq,reduceIte]
  refine fin_stop ?_ (runs_call (b:=false) (hsp) rfl (by simp only [callA,peekList,peekG,peekS,List.map_cons,List.map_nil,List.append_nil,enA,ev0,evA,evB,evP,fl,gp,tab,simprocAttr,reduceCtorEq,reduceIte,List.drop_zero,ol_drop,ol_take,take_len,ol_allP,il_all,il_length,List.length_replicate,List.take_replicate,Nat.min_self]; rfl) rfl (by simp only [dstOk,Nat.reduceLT]) ?_ (runs_eval tab_ok ?_))
  ·(first|exact trivial|omega|(simp only [In64] at *; omega)|(simp [In64] at *; omega)|(simp_all; done)|skip)
  ·(first|exact trivial|omega|(simp only [In64] at *; omega)|(simp [In64] at *; omega)|(simp_all; done)|skip)
  simp only [ev0,evA,evB,evP,fl,gp,tab,simprocAttr,reduceCtorEq,reduceIte]
  refine fin_run ?_ (hK _ ?_)<;>clear hK<;>clear K
  ·(first|exact trivial|omega|(simp only [In64] at *; omega)|(simp [In64] at *; omega)|(simp_all; done)|skip)
  refine qa (qm ?_)
  refine hk_region fun K hK=>runs_eval tab_ok ?_
  simp only [ev0,evA,evB,evP,fl,gp,tab,simprocAttr,reduceCtorEq,reduceIte,binA.eq_def,Option.map_some]
  refine fin_run trivial (hK _ ?_)<;>clear hK<;>clear K
  refine qa (qk (qb ?_))
  simp only [Tryd.results129,PostG,endG,rvsA,rvA,mkTup,ev0,evA,evB,evP,fl,gp,tab,simprocAttr,reduceCtorEq,reduceIte]
  all_goals (exact ⟨[0,1,2,3,4,5,6,7,8,9,10,11,12,13],rfl,rfl,by simp only [leq,leA,ev0,evA,evB,evP,fl,gp,tab,simprocAttr,reduceCtorEq,reduceIte]<;>first|trivial|exact ⟨⟨by rw [hlS.2 _ rfl],all_up (by decide) hlS.1⟩,rfl⟩|trace_state⟩)
 ·(try simp only [nhs] at hC1)
  omega
set_option maxHeartbeats 8000000 in
set_option maxRecDepth 20000 in
theorem vstep (p:Prot σ) (h:GT n m n e) (h' : GT N M N d) (L:List Nat) (hL:L=gl n (op m n) e n) {rec:Loop} {lN:List AV} (hlS:lN.all (sc1 6)=true∧∀ π:List Nat,π.take 6=[0,1,2,3,4,5]→lN.map (ren1 π)=lN) (hokx:∀ φ,Hmo n (op m n) N (op M N) φ→p.okx (.list (il (tbm n φ))))
  (x:Nat) (r t:List Nat) (i:σ) (hx:L.getD t.length 0=x) (htl:t.length < L.length) (hi:p.ok i)
  (IH:∀ y,y < N→∀ i,p.ok i→NextV p n m e N M d L rec lN r (t++[y]) i):NextV p n m e N M d L rec lN (x :: r) t i:=by
 have hn:=h.2.1.big
 have hN:=h'.2.1.big
 have hpos:0 < n:=h.2.1.pos
 have hll:=gl_len n (op m n) e n
 rw [← hL] at hll
 have hLlt:=gl_lt n (op m n) e n
 rw [← hL] at hLlt
 have hxn:x < n:=by rw [← hx]; exact hLlt _ (by simp [List.getD,List.getElem?_eq_getElem htl])
 have hnt:=nl_len t
 have hnL:=nl_len L
 have hone:=p.ones i hi
 have hox:∀ y,∀ v∈pls (hsu n (op m n) e N (op M N) d L r t x y),p.okx v:=fun y v hv=>by
  obtain ⟨w,hw,rfl⟩:=List.mem_map.1 hv
  obtain ⟨φ,hφ,rfl⟩:=hsu_mem w hw
  exact hokx φ hφ
 have hrl:=rwd_len (Nat.le_of_lt htl)
 have h00:foldS p i (pls (hsu n (op m n) e N (op M N) d L r t x 0))=(i,true):=rfl
 have hL17:=hlS.2 [0,1,2,3,4,5,6,7,8,9,10,11,12,13] rfl
 have hlS17:lN.all (sc1 14)=true:=all_up (by decide) hlS.1
 have hL9:=hlS.2 [0,1,2,3,4,5,6] rfl
 have hL9':=hlS.2 [0,1,2,3,4,5,6] rfl
 have hL17':=hlS.2 [0,1,2,3,4,5,6,7,8,9,10,11,12,13] rfl
 have hlS9:lN.all (sc1 7)=true:=all_up (by decide) hlS.1
 unfold NextV
 refine fnq_of (q:=7) tab_ok Tryd.func129 rfl (by kernel_rfl) (by rw [Tryd.ntmps129]; exact Nat.le_add_left 7 _) ?_; rw [Tryd.ntmps129]; simp only [ancs,entA,List.length_cons,List.length_nil,List.cons_append,List.nil_append,Nat.reduceAdd,Nat.zero_add]
 simp only [HNV,List.append_nil,List.cons_append,List.nil_append]
 refine qm ?_
 refine hk_region fun K hK=>runs_eval tab_ok ?_
 simp only [ev0,evA,evB,evP,fl,gp,tab,simprocAttr,reduceCtorEq,reduceIte]
 refine fin_run trivial (hK _ ?_)<;>clear hK<;>clear K
 refine qa (qm (qm ?_))
 refine hk_region fun K hK=>runs_eval tab_ok ?_
 simp only [ev0,evA,evB,evP,fl,gp,tab,simprocAttr,reduceCtorEq,reduceIte,il_length,hnL]
 refine fin_run ?_ (hK _ ?_)<;>clear hK<;>clear K
 ·(first|exact trivial|omega|(simp only [In64] at *; omega)|(simp [In64] at *; omega)|(simp_all; done)|skip)
 refine qa ?_
 refine hk_cond rfl (fun hC1=>?_) (fun hC1=>?_)
 ·(try simp only [nhs] at hC1)
  omega
 ·(try simp only [nhs] at hC1)
  refine qh (qa (qm ?_))
  refine hk_draw mixed (by kernel_rfl) fun K hK=>runs_eval tab_ok ?_
  simp only [ev0,evA,evB,evP,fl,gp,tab,simprocAttr,reduceCtorEq,reduceIte,il_get (show t.length < (nl L).length by omega),nl_get htl,hx]
  refine fin_stop ?_ (runs_call (orderOf_c h hxn) rfl rfl rfl (by simp only [dstOk,Nat.reduceLT]) (by repeat (first|exact trivial|constructor)) (runs_eval tab_ok ?_))
  ·exact ⟨by omega,by omega⟩
  simp only [ev0,evA,evB,evP,fl,gp,tab,simprocAttr,reduceCtorEq,reduceIte,il_get (show t.length < (nl L).length by omega),nl_get htl,hx]
  refine fin_run ?_ (hK _ ?_)<;>clear hK<;>clear K
  ·(first|exact trivial|omega|(simp only [In64] at *; omega)|(simp [In64] at *; omega)|(simp_all; done)|skip)
  refine qa (qm (qm ?_))
  refine hk_region fun K hK=>runs_eval tab_ok ?_
  simp only [ev0,evA,evB,evP,fl,gp,tab,simprocAttr,reduceCtorEq,reduceIte]
  refine fin_run ?_ (hK _ ?_)<;>clear hK<;>clear K
  ·(first|exact trivial|omega|(simp only [In64] at *; omega)|(simp [In64] at *; omega)|(simp_all; done)|skip)
  refine qa (ql ?_)
  refine hk_loop (ι:=Nat) (fun y=>⟨55,[(0,.p (.int .i64 t.length)),(3,.p (.ptr [.int .i64 N,.list (il M)])),(4,.ptr 0 0),(6,.ptr 2 0),(10,.p (.int .i64 (ord n (op m n) e x:Nat))),(35,.p (.int .i64 N)),(36,.p (.int .i64 y))],[.own [.sl 6 0 L.length],.own [.yv 5 lN rec.tmps],.own [.cl 129 [.p (.ptr [.list (il (nl L))]),.p (.ptr [.int .i64 n,.list (il m)]),.p (.ptr [.int .i64 N,.list (il M)]),.ptr 0 0,.ptr 1 0,.ptr 2 0]],.own [.p (p.c4 (foldS p i (pls (hsu n (op m n) e N (op M N) d L r t x y))).1)],.own [.p (p.c51 (foldS p i (pls (hsu n (op m n) e N (op M N) d L r t x y))).1),.p (p.c52 (foldS p i (pls (hsu n (op m n) e N (op M N) d L r t x y))).1)],.lp rec,.own (rwd t L.length),.anc 0 0,.anc 1 1,.anc 2 2,.anc 3 3,.anc 4 4,.anc 5 5,.anc 6 6]⟩) (fun y=>y≤N∧(foldS p i (pls (hsu n (op m n) e N (op M N) d L r t x y))).2=true) (fun y=>N - y) 0 ⟨Nat.zero_le _,rfl⟩ [0,1,2,3,4,5,6,7,8,9,10,11,12,13] (by simp only [leq,leA,ev0,evA,evB,evP,fl,gp,tab,simprocAttr,reduceCtorEq,reduceIte,h00,hL17,rwd_ren,rwd_sc,hlS17]<;>first|trivial|trace_state) fun y hy=>?_
  obtain ⟨hy1,hy2⟩:=hy
  have hok:=foldS_ok p i _ hi (hox y) hy2
  have hsc:=@hsu_succ n e N d (op m n) (op M N) L r t x y
  obtain ⟨j,hj⟩:∃ j,(foldS p i (pls (hsu n (op m n) e N (op M N) d L r t x y))).1=j:=⟨_,rfl⟩
  rw [hj] at hok ⊢
  refine qm ?_
  refine hk_region fun K hK=>runs_eval tab_ok ?_
  simp only [ev0,evA,evB,evP,fl,gp,tab,simprocAttr,reduceCtorEq,reduceIte]
  refine fin_run trivial (hK _ ?_)<;>clear hK<;>clear K
  refine qa (qm ?_)
  refine hk_cond rfl (fun hC2=>?_) (fun hC2=>?_)
  ·(try simp only [nhs] at hC2)
   have hyN:y < N:=by omega
   have hoy:=h'.2.2.ord_pos hyN
   refine qh (qa (qm (ql (qm ?_))))
   refine hk_region fun K hK=>runs_eval tab_ok ?_
   simp only [ev0,evA,evB,evP,fl,gp,tab,simprocAttr,reduceCtorEq,reduceIte]
   refine fin_run trivial (hK _ ?_)<;>clear hK<;>clear K
   refine qa (qm ?_)
   refine hk_region fun K hK=>runs_eval tab_ok ?_
   simp only [ev0,evA,evB,evP,fl,gp,tab,simprocAttr,reduceCtorEq,reduceIte]
   refine fin_stop trivial (runs_call (orderOf_c h' hyN) rfl rfl rfl (by simp only [dstOk,Nat.reduceLT]) (by repeat (first|exact trivial|constructor)) (runs_eval tab_ok ?_))
   simp only [ev0,evA,evB,evP,fl,gp,tab,simprocAttr,reduceCtorEq,reduceIte]
   refine fin_run ?_ (hK _ ?_)<;>clear hK<;>clear K
   ·(first|exact trivial|omega|(simp only [In64] at *; omega)|(simp [In64] at *; omega)|(simp_all; done)|skip)
   refine qa ?_
   refine hk_cond rfl (fun hC3=>?_) (fun hC3=>?_)
   ·(try simp only [nhs] at hC3)
    have hIH:=IH y hyN j hok
    have hto:=foldS_on p (b:=pls (hsq n (op m n) e N (op M N) d L r (t++[y]))) hy2
    rw [hj] at hto
    unfold NextV at hIH
    obtain ⟨B,hB⟩:∃ B,(foldS p j (pls (hsq n (op m n) e N (op M N) d L r (t++[y])))).2=B:=⟨_,rfl⟩
    obtain ⟨j2,hj2⟩:∃ j2,(foldS p j (pls (hsq n (op m n) e N (op M N) d L r (t++[y])))).1=j2:=⟨_,rfl⟩
    rw [hB,hj2] at hIH
    have hcn:((t++[y]).length:Int)=(t.length:Int) + 1:=by simp
    rw [hcn] at hIH
    simp only [HNV] at hIH
    refine qm ?_
    refine hk_region fun K hK=>runs_eval tab_ok ?_
    simp only [ev0,evA,evB,evP,fl,gp,tab,simprocAttr,reduceCtorEq,reduceIte,rwd_set htl,hrl]
    refine fin_run ?_ (hK _ ?_)<;>clear hK<;>clear K
    ·(first|exact trivial|omega|(simp only [In64] at *; omega)|(simp [In64] at *; omega)|(simp_all; done)|skip)
    refine qa (qm ?_)
    refine hk_region fun K hK=>runs_eval tab_ok ?_
    simp only [ev0,evA,evB,evP,fl,gp,tab,simprocAttr,reduceCtorEq,reduceIte]
    refine fin_stop ?_ (runs_callQ [0,1,2,3,4,5,6] (hIH) rfl rfl ?_ (by simp only [leA,ev0,evA,evB,evP,fl,gp,tab,simprocAttr,reduceCtorEq,reduceIte,hL9,hL9',rwd_ren,rwd_sc,hlS9]; first|trivial|(simp only [ll_takeL]; first|trivial|(repeat constructor; done))|(repeat constructor)) (by decide) (by first|rfl|(simp only [List.length_cons,List.length_nil,List.length_append]; decide)) (by first|rfl|(simp [scQ,scA,sc1,mpKeep,notAnc,Blk.spc,opl_sc,hL9,hL9',rwd_ren,rwd_sc,hlS9]; done)) (by simp only [dstOk,Nat.reduceLT]) (runs_eval tab_ok ?_))
    ·(first|exact trivial|omega|(simp only [In64] at *; omega)|(simp [In64] at *; omega)|(simp_all; done)|skip)
    ·(simp only [argsM,argM1,peekG,peekS,scA,sc1,ren,ren1,List.map_cons,List.map_nil,List.append_nil,List.cons_append,List.nil_append,enA,ev0,evA,evB,evP,fl,gp,tab,simprocAttr,reduceCtorEq,reduceIte]; try trivial)
    simp only [putM,kills,hset,List.take_succ_cons,List.take_zero,List.drop_succ_cons,List.drop_zero,List.range',Blk.ren,ren,ren1,List.map_cons,List.map_nil,List.cons_append,List.nil_append,List.append_nil,List.length_cons,List.length_nil,ev0,evA,evB,evP,fl,gp,tab,simprocAttr,reduceCtorEq,reduceIte,recB_true,hL9,hL9',rwd_ren,rwd_sc,hlS9]
    refine fin_run ?_ (hK _ ?_)<;>clear hK<;>clear K
    ·(first|exact trivial|omega|(simp only [In64] at *; omega)|(simp [In64] at *; omega)|(simp_all; done)|skip)
    refine qa ?_
    refine hk_back 6 rfl htl ?_
    refine hk_cond rfl (fun hC4=>?_) (fun hC4=>?_)
    ·(try simp only [nhs] at hC4)
     subst hC4
     have hm:ord n (op m n) e x % ord N (op M N) d y=0:=by omega
     rw [if_pos hm] at hsc
     obtain ⟨z,hz⟩:=@hsu_pre n e N d (op m n) (op M N) L r t x (y + 1) (by omega)
     have hfin:foldS p i (pls (hsq n (op m n) e N (op M N) d L (x :: r) t))=(j2,false):=by
      have e1:foldS p i (pls (hsu n (op m n) e N (op M N) d L r t x (y + 1)))=(j2,false):=by
       rw [hsc,pls_app,hto,← hj2,← hB]
      rw [hz,pls_app,foldS_pre p (by rw [e1]),e1]
     rw [hfin]
     refine qm ?_
     refine hk_region fun K hK=>runs_eval tab_ok ?_
     simp only [ev0,evA,evB,evP,fl,gp,tab,simprocAttr,reduceCtorEq,reduceIte]
     refine fin_run trivial (hK _ ?_)<;>clear hK<;>clear K
     refine qa (qk (qe (qb (qb (qe (qb ?_))))))
     simp only [Tryd.results129,PostG,endG,rvsA,rvA,mkTup,ev0,evA,evB,evP,fl,gp,tab,simprocAttr,reduceCtorEq,reduceIte]
     all_goals (exact ⟨[0,1,2,3,4,5,6,7,8,9,10,11,12,13],rfl,rfl,by simp only [leq,leA,ev0,evA,evB,evP,fl,gp,tab,simprocAttr,reduceCtorEq,reduceIte,hL17,hL17',rwd_ren,rwd_sc,hlS17]<;>first|trivial|trace_state⟩)
    ·(try simp only [nhs] at hC4)
     obtain rfl:B=true:=by simpa using hC4
     rw [recB_true]
     have hm:ord n (op m n) e x % ord N (op M N) d y=0:=by omega
     rw [if_pos hm] at hsc
     have e1:foldS p i (pls (hsu n (op m n) e N (op M N) d L r t x (y + 1)))=(j2,true):=by
      rw [hsc,pls_app,hto,← hj2,← hB]
     refine qh (qd (qa ?_))
     refine hk_region fun K hK=>runs_eval tab_ok ?_
     simp only [ev0,evA,evB,evP,fl,gp,tab,simprocAttr,reduceCtorEq,reduceIte]
     refine fin_run ?_ (hK _ ?_)<;>clear hK<;>clear K
     ·(first|exact trivial|omega|(simp only [In64] at *; omega)|(simp [In64] at *; omega)|(simp_all; done)|skip)
     refine qa ?_
     refine ⟨y + 1,[0,1,2,3,4,5,6,7,8,9,10,11,12,13],⟨by omega,by rw [e1]⟩,by omega,?_⟩
     simp only [leq,leA,ev0,evA,evB,evP,fl,gp,tab,simprocAttr,reduceCtorEq,reduceIte,e1,hL17,hL17',rwd_ren,rwd_sc,hlS17]<;>first|trivial|omega|trace_state
   ·(try simp only [nhs] at hC3)
    have hm:¬ ord n (op m n) e x % ord N (op M N) d y=0:=by omega
    rw [if_neg hm] at hsc
    have e1:foldS p i (pls (hsu n (op m n) e N (op M N) d L r t x (y + 1)))=(j,true):=by
     rw [hsc,← hj,← hy2]
    refine qh (qd (qa ?_))
    refine hk_region fun K hK=>runs_eval tab_ok ?_
    simp only [ev0,evA,evB,evP,fl,gp,tab,simprocAttr,reduceCtorEq,reduceIte]
    refine fin_run ?_ (hK _ ?_)<;>clear hK<;>clear K
    ·(first|exact trivial|omega|(simp only [In64] at *; omega)|(simp [In64] at *; omega)|(simp_all; done)|skip)
    refine qa ?_
    refine ⟨y + 1,[0,1,2,3,4,5,6,7,8,9,10,11,12,13],⟨by omega,by rw [e1]⟩,by omega,?_⟩
    simp only [leq,leA,ev0,evA,evB,evP,fl,gp,tab,simprocAttr,reduceCtorEq,reduceIte,e1,hL17,hL17',rwd_ren,rwd_sc,hlS17]<;>first|trivial|omega|trace_state
  ·(try simp only [nhs] at hC2)
   obtain rfl:y=N:=by omega
   have hfin:foldS p i (pls (hsq n (op m n) e y (op M y) d L (x :: r) t))=(j,true):=by
    rw [hsu_end,← hj,← hy2]
   rw [hfin]
   refine qj (qc (qc (qf (qa (qm ?_)))))
   refine hk_region fun K hK=>runs_eval tab_ok ?_
   simp only [ev0,evA,evB,evP,fl,gp,tab,simprocAttr,reduceCtorEq,reduceIte]
   refine fin_run trivial (hK _ ?_)<;>clear hK<;>clear K
   refine qa (qk ?_)
   simp only [Tryd.results129,PostG,endG,rvsA,rvA,mkTup,ev0,evA,evB,evP,fl,gp,tab,simprocAttr,reduceCtorEq,reduceIte]
   all_goals (exact ⟨[0,1,2,3,4,5,6,7,8,9,10,11,12,13],rfl,rfl,by simp only [leq,leA,ev0,evA,evB,evP,fl,gp,tab,simprocAttr,reduceCtorEq,reduceIte,hL17,hL17',rwd_ren,rwd_sc,hlS17]<;>first|trivial|trace_state⟩)
theorem vnext_c (p:Prot σ) (h:GT n m n e) (h' : GT N M N d) (L:List Nat) (hL:L=gl n (op m n) e n) {rec:Loop} (hrp:rec.params.size=1) {l lN:List AV} (hY:RoundsV Tryd.prog p rec l) (hokx:∀ φ,Hmo n (op m n) N (op M N) φ→p.okx (.list (il (tbm n φ))))
  (hl:l.all (sc1 3)=true) (hlN:l.map (ren1 [3,4,5])=lN):∀ (r t:List Nat) (i:σ),t.length≤L.length→L.drop t.length=r→(∀ y∈t,y < N)→p.ok i→NextV p n m e N M d L rec lN r t i
 | [],t,i,h1,h2,h3,hi=>by
  have htl:t.length=L.length:=by
   have:=congrArg List.length h2
   simp at this; omega
  by_cases hex:∃ φ,Ext n (op m n) N (op M N) L t φ
  ·exact vleaf1 p h h' L hL hrp hY hokx hl hlN t i htl h3 hi hex
  ·exact vleaf2 p h h' L hL hrp hY hokx hl hlN t i htl h3 hi hex
 | x :: r,t,i,h1,h2,h3,hi=>by
  have htl:t.length < L.length:=by
   have:=congrArg List.length h2
   simp at this; omega
  have hd:L.drop t.length=L[t.length] :: L.drop (t.length + 1):=List.drop_eq_getElem_cons htl
  rw [h2] at hd
  obtain ⟨e1,e2⟩:=List.cons.inj hd
  refine vstep p h h' L hL (fixV hl hlN) hokx x r t i (by simp [List.getD,List.getElem?_eq_getElem htl,e1]) htl hi fun y hy j hj=>?_
  exact vnext_c p h h' L hL hrp hY hokx hl hlN r (t++[y]) j (by simp; omega) (by rw [List.length_append]; exact e2.symm) (fun z hz=>by
   rcases List.mem_append.1 hz with hz | hz
   ·exact h3 z hz
   ·have:z=y:=by simpa using hz
    omega) hj

set_option maxHeartbeats 8000000 in
set_option maxRecDepth 20000 in
theorem veach_c (p:Prot σ) (h:GT n m n e) (h' : GT N M N d) (L:List Nat) (hL:L=gl n (op m n) e n) {rec:Loop} (hrp:rec.params.size=1) {l:List AV} (hY:RoundsV Tryd.prog p rec l) (hokx:∀ φ,Hmo n (op m n) N (op M N) φ→p.okx (.list (il (tbm n φ))))
  (hl:l.all (sc1 3)=true) (i:σ) (hi:p.ok i) {j:σ} {b:Bool} (hf:foldS p i (pls (hsq n (op m n) e N (op M N) d L L []))=(j,b)) :
  FnQ Tryd.prog 3 79 [.p (gp n m),.p (gp N M),.yv 2 l rec.tmps] (HV p i (.lp rec)) (.p (.tup [])) (HV p j (.lp (recB b rec))):=by
 have hlN:l.map (ren1 [3,4,5])=l.map (ren1 [3,4,5]):=rfl
 have hNx:=vnext_c p h h' L hL hrp hY hokx hl hlN L [] i (Nat.zero_le _) rfl (fun y hy=>by simp at hy) hi
 unfold NextV at hNx
 rw [hf] at hNx
 have hc0:((([]:List Nat).length:Nat):Int)=0:=rfl
 rw [hc0] at hNx
 have hbk:∀ ks:List Nat,ks.getD 3 0=0→ks.getD 4 0=1→ks.getD 5 0=2→(l.map (ren1 [3,4,5])).map (ren1 ks)=l:=fun ks h0 h1 h2=>backV h0 h1 h2 hl
 have hlS:=fixV hl hlN
 generalize l.map (ren1 [3,4,5])=lN at hNx hbk hlS
 simp only [HNV] at hNx
 have hL9:=hbk [11,8,12,0,1,2,10] rfl rfl rfl
 have hlS9:lN.all (sc1 7)=true:=all_up (by decide) hlS.1
 have hll:=gl_len n (op m n) e n
 have hn:=h.2.1.big
 rw [← hL] at hll
 have hrw:List.replicate (List.replicate L.length (AV.p (.int .i64 0))).length AV.dead=rwd [] L.length:=by simp [rwd,nl,il,opl]
 have hnL:=nl_len L
 have hgn:=gens_c h
 rw [← hL] at hgn
 have hone:=p.ones i hi
 refine fnq_of (q:=3) tab_ok Tryd.func79 rfl (by kernel_rfl) (by rw [Tryd.ntmps79]; exact Nat.le_add_left 3 _) ?_; rw [Tryd.ntmps79]; simp only [ancs,entA,List.length_cons,List.length_nil,List.cons_append,List.nil_append,Nat.reduceAdd,Nat.zero_add]
 simp only [HV,List.append_nil,List.cons_append,List.nil_append]
 refine qm ?_
 refine hk_region fun K hK=>runs_eval tab_ok ?_
 simp only [ev0,evA,evB,evP,fl,gp,tab,simprocAttr,reduceCtorEq,reduceIte]
 refine fin_run ?_ (hK _ ?_)<;>clear hK<;>clear K
 ·(first|exact trivial|omega|(simp only [In64] at *; omega)|(simp [In64] at *; omega)|(simp_all; done)|skip)
 refine qa (qm ?_)
 refine hk_region fun K hK=>runs_eval tab_ok ?_
 simp only [ev0,evA,evB,evP,fl,gp,tab,simprocAttr,reduceCtorEq,reduceIte]
 refine fin_stop trivial (runs_call (hgn) rfl rfl rfl (by simp only [dstOk,Nat.reduceLT]) (by repeat (first|exact trivial|constructor)) (runs_eval tab_ok ?_))
 simp only [ev0,evA,evB,evP,fl,gp,tab,simprocAttr,reduceCtorEq,reduceIte]
 refine fin_run ?_ (hK _ ?_)<;>clear hK<;>clear K
 ·(first|exact trivial|omega|(simp only [In64] at *; omega)|(simp [In64] at *; omega)|(simp_all; done)|skip)
 refine qa (qm ?_)
 refine hk_region fun K hK=>runs_eval tab_ok ?_
 simp only [ev0,evA,evB,evP,fl,gp,tab,simprocAttr,reduceCtorEq,reduceIte]
 refine fin_run ?_ (hK _ ?_)<;>clear hK<;>clear K
 ·rw [hnL]; exact ⟨by omega,by omega,by omega,by omega⟩
 refine qa (qm ?_)
 refine hk_region fun K hK=>runs_eval tab_ok ?_
 simp only [ev0,evA,evB,evP,fl,gp,tab,simprocAttr,reduceCtorEq,reduceIte]
 refine fin_run ?_ (hK _ ?_)<;>clear hK<;>clear K
 ·(first|exact trivial|omega|(simp only [In64] at *; omega)|(simp [In64] at *; omega)|(simp_all; done)|skip)
 refine qa (qm ?_)
 refine hk_freeze 9 rfl rfl ?_
 refine hk_freeze 6 rfl rfl ?_
 refine hk_freeze 7 rfl rfl ?_
 refine hk_forget 10 rfl ?_
 simp only [hset,hrw,hnL]
 refine hk_pure 6 rfl (Nat.zero_le _) ?_
 refine hk_pure 3 rfl (Nat.zero_le _) ?_
 refine hk_pure 4 rfl (Nat.zero_le _) ?_
 refine hk_region fun K hK=>runs_eval tab_ok ?_
 simp only [ev0,evA,evB,evP,fl,gp,tab,simprocAttr,reduceCtorEq,reduceIte]
 refine fin_stop ?_ (runs_op (makeCl_does rfl rfl) rfl (by simp only [dstOk,Nat.reduceLT]) (runs_eval tab_ok ?_))
 ·(first|exact trivial|omega|(simp only [In64] at *; omega)|(simp [In64] at *; omega)|(simp_all; done)|skip)
 simp only [ev0,evA,evB,evP,fl,gp,tab,simprocAttr,reduceCtorEq,reduceIte]
 refine fin_run ?_ (hK _ ?_)<;>clear hK<;>clear K
 ·(first|exact trivial|omega|(simp only [In64] at *; omega)|(simp [In64] at *; omega)|(simp_all; done)|skip)
 refine qa ?_
 refine hk_region fun K hK=>runs_eval tab_ok ?_
 simp only [ev0,evA,evB,evP,fl,gp,tab,simprocAttr,reduceCtorEq,reduceIte]
 refine fin_stop ?_ (runs_callQ [11,8,12,0,1,2,10] (hNx) rfl rfl ?_ (by simp only [leA,ev0,evA,evB,evP,fl,gp,tab,simprocAttr,reduceCtorEq,reduceIte,hL9,rwd_ren,rwd_sc,hlS9]; first|trivial|(simp only [ll_takeL]; first|trivial|(repeat constructor; done))|(repeat constructor)) (by decide) (by first|rfl|(simp only [List.length_cons,List.length_nil,List.length_append]; decide)) (by first|rfl|(simp [scQ,scA,sc1,mpKeep,notAnc,Blk.spc,opl_sc,hL9,rwd_ren,rwd_sc,hlS9]; done)) (by simp only [dstOk,Nat.reduceLT]) (runs_eval tab_ok ?_))
 ·(first|exact trivial|omega|(simp only [In64] at *; omega)|(simp [In64] at *; omega)|(simp_all; done)|skip)
 ·(simp only [argsM,argM1,peekG,peekS,scA,sc1,ren,ren1,List.map_cons,List.map_nil,List.append_nil,List.cons_append,List.nil_append,enA,ev0,evA,evB,evP,fl,gp,tab,simprocAttr,reduceCtorEq,reduceIte]; try trivial)
 simp only [putM,kills,hset,List.take_succ_cons,List.take_zero,List.drop_succ_cons,List.drop_zero,List.range',Blk.ren,ren,ren1,List.map_cons,List.map_nil,List.cons_append,List.nil_append,List.append_nil,List.length_cons,List.length_nil,ev0,evA,evB,evP,fl,gp,tab,simprocAttr,reduceCtorEq,reduceIte,hL9,rwd_ren,rwd_sc,hlS9]
 refine fin_run ?_ (hK _ ?_)<;>clear hK<;>clear K
 ·(first|exact trivial|omega|(simp only [In64] at *; omega)|(simp [In64] at *; omega)|(simp_all; done)|skip)
 simp only [Tryd.results79,PostG,endG,rvsA,rvA,mkTup,ev0,evA,evB,evP,fl,gp,tab,simprocAttr,reduceCtorEq,reduceIte]
 all_goals (exact ⟨[0,1,2,3,4,5],rfl,rfl,by simp only [leq,leA,ev0,evA,evB,evP,fl,gp,tab,simprocAttr,reduceCtorEq,reduceIte]<;>first|trivial|trace_state⟩)
end
end Go.Proofs.YtboadfahlflmhaaDoor

/-
  Sylow's subgroups, as the program has them: look, Cauchy, one. Conditions: none.
-/
set_option linter.all false
namespace Go.Proofs.YtboadfahlflmhaaDoor
open Go.Pv

section
variable {n e P:Nat} {m:List Int}
end
end Go.Proofs.YtboadfahlflmhaaDoor

/-
  Sylow's subgroups, as the program grows one. Conditions: none.
-/
set_option linter.all false
namespace Go.Proofs.YtboadfahlflmhaaDoor
open Go.Pv

section
variable {n e P:Nat} {m:List Int}
end
end Go.Proofs.YtboadfahlflmhaaDoor

/-
  Plain law: conjugated sets in a list that rises. Conditions: none.
-/
set_option linter.all false
namespace Go.Proofs.YtboadfahlflmhaaDoor
open Go.Pv

/-- All sets that a set is conjugated to, in their order. -/
structure SyS (n:Nat) (f:Nat→Nat→Nat) (e:Nat) (s:Nat→Bool) (SL:List Nat):Prop where
 all:∀ x,x∈SL↔∃ a,a < n∧x=bo n (shf n f e s a)
 rise:SL.Pairwise fun x y=>cmpL (stl x) (stl y) < 0
section
variable {n e:Nat} {f:Nat→Nat→Nat} {s:Nat→Bool} {SL:List Nat}
theorem SyS.nodup (h:SyS n f e s SL):SL.Nodup:=h.rise.imp fun {x y} hxy he=>by
 subst he; rw [cmpL_self] at hxy; exact absurd hxy (by decide)
theorem SyS.pos (h:SyS n f e s SL) (G:Grp n f e):0 < SL.length:=List.length_pos_of_mem ((h.all _).2 ⟨e,G.el,rfl⟩)
theorem SyS.len (h:SyS n f e s SL):SL.length≤n:=by
 have h1:=List.Nodup.length_le_of_subset h.nodup (l₂:=(List.range n).map fun a=>bo n (shf n f e s a)) fun x hx=>by
  obtain ⟨a,h1,h2⟩:=(h.all x).1 hx
  exact List.mem_map.2 ⟨a,List.mem_range.2 h1,h2.symm⟩
 simpa using h1
theorem SyS.num (h:SyS n f e s SL) (G:Grp n f e) (hs:Sub n f e s):SL.length * (mem n (nzr n f e s)).length=n:=
 G.conj_num hs (code:=bo n) (fun p q=>⟨fun he y hy=>by
  have:=congrArg (fun x=>Nat.testBit x y) he
  simpa [bo_bit,hy] using this,fun he=>bo_congr he⟩) h.nodup h.all
end
end Go.Proofs.YtboadfahlflmhaaDoor

/-
  The library's sort by a comparison, over a row of the caller's own: what it leaves. Conditions: none; a library text.
-/
set_option linter.all false
namespace Go.Pv
open Go.RowKit

theorem below_grow {w w' : World} (h:Below w.heap.size w w'):∃ q os,w' = Go.Sort.grow (w.drewN q) os:=by
 refine ⟨w'.drawn - w.drawn,w'.heap.extract w.heap.size w'.heap.size,?_⟩
 obtain ⟨h1,h2,h3,h4,h5,h6⟩:=h
 cases w with
 | mk heap tape drawn os output =>
  cases w' with
  | mk heap' tape' drawn' os' output' =>
   simp only at h1 h2 h3 h4 h5 h6
   subst h1 h2 h3
   have hh:heap' = heap++heap'.extract heap.size heap'.size:=by
    apply Array.ext_getElem?
    intro k
    by_cases hk:k < heap.size
    ·rw [Array.getElem?_append_left hk]; exact h5 k hk
    ·rw [Array.getElem?_append_right (by omega),Array.getElem?_extract]
     by_cases hk2:k < heap'.size
     ·rw [if_pos (by simp; omega),show heap.size + (k - heap.size)=k by omega]
     ·rw [if_neg (by simp; omega),Array.getElem?_eq_none (by omega)]
   have hd:drawn' = drawn + (drawn' - drawn):=by omega
   show World.mk heap' tape' drawn' os' output' = World.mk (heap++heap'.extract heap.size heap'.size) tape' (drawn + (drawn' - drawn)) os' output'
   rw [← hh,← hd]

theorem below_sortWorld {α:Type} [Inhabited α] (enc:α→Value) (w:World) (blk off m:Nat) (dk:Array α) (os:Array Obj):∀ b,b ≠ blk→b < w.heap.size→(Go.Proofs.sortWorld enc w blk off m dk os).heap[b]? = w.heap[b]?:=by
 intro b hb hs
 unfold Go.Proofs.sortWorld
 rw [Go.Sort.heap_grow_old _ _ (by simpa using hs)]
 simp only [Go.Sort.putRow,Go.Sort.mapBlock,Array.getElem?_modify]
 rw [if_neg (Ne.symm hb)]
 rfl

theorem perm_sorted_unique {lt:PV→PV→Prop} : ∀ (xs ys:List PV),xs.Perm ys→(∀ x∈xs,∀ y∈xs,¬ lt x y→¬ lt y x→x=y)→xs.Pairwise (fun x y=>¬ lt y x)→ys.Pairwise (fun x y=>¬ lt y x)→xs=ys
 | [],ys,h,_,_,_=>by simpa using h.symm.eq_nil.symm
 | x :: r,[],h,_,_,_=>by simpa using h.eq_nil
 | x :: r,y :: s,h,ha,h1,h2=>by
  have hxy:x=y:=by
   have hx:x∈y :: s:=h.mem_iff.1 (by simp)
   have hy:y∈x :: r:=h.mem_iff.2 (by simp)
   rcases List.mem_cons.1 hx with hx | hx
   ·exact hx
   ·rcases List.mem_cons.1 hy with hy' | hy'
    ·exact hy'.symm
    ·have a1:=(List.pairwise_cons.1 h1).1 y hy'
     have a2:=(List.pairwise_cons.1 h2).1 x hx
     exact ha x (by simp) y hy a2 a1
  subst hxy
  rw [perm_sorted_unique r s (List.Perm.cons_inv h) (fun a ha' b hb'=>ha a (by simp [ha']) b (by simp [hb'])) (List.pairwise_cons.1 h1).2 (List.pairwise_cons.1 h2).2]

section
variable {P:Program} {ρ:Go.Shelf.Ren}

/-- slices.SortFunc: a row of the caller's own; a pure comparison that parts whatever two things; behind it the row holds the one list that rises. -/
theorem sort_m (L:Go.Proofs.SlLaysF.n6 P ρ) {g:FuncId} {cap:List PV} (xs ys:List PV) (cf:PV→PV→Int) (hne:xs ≠ []) (hone:∀ x∈xs,x.one=true)
  (irr:∀ x∈xs,¬ cf x x < 0) (tr:∀ x∈xs,∀ y∈xs,∀ z∈xs,cf x y < 0→cf y z < 0→cf x z < 0) (ntr:∀ x∈xs,∀ y∈xs,∀ z∈xs,¬ cf x y < 0→¬ cf y z < 0→¬ cf x z < 0)
  (anti:∀ x∈xs,∀ y∈xs,¬ cf x y < 0→¬ cf y x < 0→x=y) (hc:∀ x∈xs,∀ y∈xs,FnC P g (x :: y :: cap) (.int .i64 (cf x y)))
  (hperm:xs.Perm ys) (hs:ys.Pairwise fun x y=>¬ cf y x < 0) (hlen:xs.length < 4611686018427387904) :
  FnM P (ρ.f 6) [.sl 0 0 xs.length,.p (.fn g cap)] [.own (opl xs)] (.p (.tup [])) [.own (opl ys)]:=by
 have hpos:0 < xs.length:=List.length_pos_iff.2 hne
 refine ⟨?_,fun C m w vals R=>?_⟩
 ·obtain ⟨nm,h1,h2⟩:=L.f6
  exact ⟨_,h2,h1,rfl⟩
 have hsz:vals.size=2:=R.size
 have s0:=R.slot 0
 have s1:=R.slot 1
 simp only [St.get,entA,lk,BEq.rfl,cond_true,show ((0:Nat) == 1)=false from rfl,cond_false] at s0 s1
 generalize hv0:vals.getD 0 undef=v0 at s0
 generalize hv1:vals.getD 1 undef=v1 at s1
 have hvals:vals = #[v0,v1]:=by
  apply Array.ext
  ·simpa using hsz
  ·intro i h1 h2
   simp only [Array.getD_eq_getD_getElem?] at hv0 hv1
   match i,h2 with
   | 0,_=>rw [Array.getElem?_eq_getElem h1] at hv0; simpa using hv0
   | 1,_=>rw [Array.getElem?_eq_getElem h1] at hv1; simpa using hv1
 subst hvals
 have s1:=s1.p_inv
 cases s1 with
 | fn _ _ vs hcl hcr =>
 cases s0 with
 | sl _ _ _ _ hk0 h0 =>
 rcases h0 with ⟨h0,_⟩ | ⟨l,cp,hm,rfl,hle,hlo⟩
 ·omega
 rcases R.blk 0 (opl xs) rfl with ⟨hx,_⟩ | ⟨l',cur,e,hm',hB,hg,hcs,hmx,hol,hcell⟩
 ·exact absurd (show xs=[] by simpa [opl] using hx) hne
 rw [hm] at hm'; cases hm'
 rw [opl_length] at hol
 generalize hok:OK C m ([.own (opl xs)]++ancs 0 [Blk.own (opl xs)].length) w=ok at *
 have hokne:∀ b,ok b→b ≠ l.g:=fun b hb=>by
  subst hok
  exact fun e=>hb.2.2 0 _ l rfl hm e.symm
 have hoklt:∀ b,ok b→b < w.heap.size:=fun b hb=>by subst hok; exact hb.2.1
 have hblk:l.g < w.heap.size:=(Array.getElem?_eq_some_iff.1 hg).1
 have hrd:∀ j (h:j < xs.length),Reads ok w xs[j] (cur.getD (l.o + j) undef):=fun j h=>by
  have:=hcell j (by rw [opl_length]; exact h)
  simp only [opl,List.getElem_map] at this
  subst hok
  exact this.p_inv
 let α:={p:PV × Value // p.1∈xs∧Reads ok w p.1 p.2}
 have inh:α:=⟨(xs[0],cur.getD (l.o + 0) undef),List.getElem_mem hpos,hrd 0 hpos⟩
 letI:Inhabited α:=⟨inh⟩
 let enc:α→Value:=fun x=>x.1.2
 let cf' : α→α→Int:=fun x y=>cf x.1.1 y.1.1
 let d:Array α:=Array.ofFn fun j:Fin xs.length=>(⟨(xs[j],cur.getD (l.o + j) undef),List.getElem_mem j.2,hrd j j.2⟩:α)
 have hd:d.size=xs.length:=by simp [d]
 have hdj:∀ j (h:j < xs.length),d[j]! = (⟨(xs[j],cur.getD (l.o + j) undef),List.getElem_mem h,hrd j h⟩:α):=fun j h=>by
  rw [getElem!_pos d j (by omega)]
  simp [d]
 have h1:Go.Proofs.OneCell enc:=fun x=>(Reads.one x.2.2 (hone _ x.2.1)).1
 have hO:Go.Sort.SWO (Go.Proofs.ltOf cf'):=by
  refine ⟨fun x=>?_,fun x y z h1 h2=>?_,fun x y z h1 h2=>?_⟩
  ·exact decide_eq_false (irr _ x.2.1)
  ·exact decide_eq_true (tr _ x.2.1 _ y.2.1 _ z.2.1 (of_decide_eq_true h1) (of_decide_eq_true h2))
  ·exact decide_eq_false (ntr _ x.2.1 _ y.2.1 _ z.2.1 (of_decide_eq_false h1) (of_decide_eq_false h2))
 have hH:Go.Sort.Holds enc w l.g (l.o + 0) d:=fun j hj=>by
  rw [hd] at hj
  have hjc:l.o + j < cur.size:=by omega
  refine ⟨?_,?_⟩
  ·rw [hdj j hj]
   show w.cell? ⟨l.g,l.o + 0 + j,none⟩=some (cur.getD (l.o + j) undef)
   simp only [World.cell?,hg,Nat.add_zero]
   simp [Array.getD_eq_getD_getElem?,Array.getElem?_eq_getElem hjc]
  ·simp [World.frozen?,hg]
 have eg:∀ args w,(callFunc g args).run P w = .ok (.enter g args) w:=by
  obtain ⟨fn,f1,f2,f3⟩:=(hc _ (List.getElem_mem hpos) _ (List.getElem_mem hpos)).1
  obtain ⟨c,hcb⟩:=Option.ne_none_iff_exists'.1 (show fn.body ≠ none by intro e; rw [e] at f3; simp at f3)
  exact Go.Proofs.enters_of f1 f2 hcb
 have hcmp:Go.Proofs.CmpLays1 P g vs enc cf' l.g (l.o + 0) d.size w:=fun m1 os dk hs x y=>by
  have hheap:∀ b,ok b→(Go.Proofs.sortWorld enc w l.g (l.o + 0) m1 dk os).heap[b]? = w.heap[b]?:=fun b hb=>below_sortWorld enc w l.g _ m1 dk os b (hokne b hb) (hoklt b hb)
  have hsw:w.heap.size≤(Go.Proofs.sortWorld enc w l.g (l.o + 0) m1 dk os).heap.size:=by simp [Go.Proofs.sortWorld]
  refine ((hc _ x.2.1 _ y.2.1).2 ok _ (#[enc x,enc y]++vs) ⟨fun b hb=>Nat.lt_of_lt_of_le (hoklt b hb) hsw,fun gg ll hgg=>?_⟩ (by simp [hcl]; omega) fun i hi=>?_).mono fun e' w2 ⟨v,he,hbl,hv⟩=>?_
  ·have:=R.laid gg ll hgg
   rw [hok] at this
   exact this.ext (fun _ h=>h) hheap
  ·match i,hi with
   | 0,_ =>
    have e0:(#[enc x,enc y]++vs).getD 0 undef=enc x:=by simp [Array.getD_eq_getD_getElem?,Array.getElem?_append]
    rw [e0]
    exact x.2.2.ext (fun _ h=>h) hheap
   | 1,_ =>
    have e0:(#[enc x,enc y]++vs).getD 1 undef=enc y:=by simp [Array.getD_eq_getD_getElem?,Array.getElem?_append]
    rw [e0]
    exact y.2.2.ext (fun _ h=>h) hheap
   | i + 2,hi =>
    have hi' : i < cap.length:=by simpa using hi
    have e2:(#[enc x,enc y]++vs).getD (i + 2) undef=vs.getD i undef:=by
     simp only [Array.getD_eq_getD_getElem?]
     rw [Array.getElem?_append_right (by simp)]
     simp
    rw [e2]
    exact (hcr i hi').ext (fun _ h=>h) hheap
  ·subst he
   cases hv
   exact ⟨rfl,below_grow hbl⟩
 have hcall:=Go.Proofs.Any.slices_SortFunc L enc h1 cf' hO g vs l.g (l.o + 0) cp d w eg hcmp hH hblk (by omega)
 rw [hd] at hcall
 refine hcall.mono fun e2 w2 ⟨he,d',n,os,hp,hso,hw⟩=>?_
 subst he
 refine ⟨.tuple #[],m,rfl,?_⟩
 have hs' : d'.size=xs.length:=by rw [hp.1,hd]
 have hdl:d.toList.map (fun x=>x.1.1)=xs:=by
  apply List.ext_getElem
  ·simp [d]
  ·intro i h1 h2
   simp [d]
 have hperm2:(d'.toList.map fun x=>x.1.1).Perm xs:=by
  have:=hp.2.2
  rw [← hd,Array.extract_size] at this
  have h3:d'.extract 0 d.size=d':=by rw [hd,← hs',Array.extract_size]
  rw [h3] at this
  have h4:=this.map (fun x:α=>x.1.1)
  rwa [hdl] at h4
 have hys:d'.toList.map (fun x=>x.1.1)=ys:=by
  refine perm_sorted_unique (lt:=fun x y=>cf x y < 0) _ _ (hperm2.trans hperm) (fun x hx y hy=>anti x (hperm2.mem_iff.1 hx) y (hperm2.mem_iff.1 hy)) ?_ hs
  rw [List.pairwise_iff_getElem]
  intro i j hi hj hij
  simp only [List.length_map,Array.length_toList] at hi hj
  have:=hso i j (Nat.zero_le _) hij (by omega)
  rw [getElem!_pos d' i hi,getElem!_pos d' j hj] at this
  simpa using of_decide_eq_false this
 have hyl:ys.length=xs.length:=hperm.length_eq.symm
 
 have R1:Rel C m ⟨2,entA 0 [.sl 0 0 xs.length,.p (.fn g cap)],hset ([.own (opl xs)]++ancs 0 [Blk.own (opl xs)].length) 0 (.own (opl ys))⟩ #[.slice (some ⟨l.g,l.o + 0,none⟩) xs.length cp,.func (.func g) #[] vs] (Go.Sort.putRow enc (Go.Sort.ahead w n) l.g (l.o + 0) d'):=by
  refine R.setBlk (a:={ tmps:=#[.slice (some ⟨l.g,l.o + 0,none⟩) xs.length cp,.func (.func g) #[] vs],defers:=[] }) (c:=opl xs) rfl hm ⟨rfl,rfl,rfl,by simp,fun k hk=>?_,by simp⟩ (fun b hb=>?_) (cur:=Go.Sort.putCells enc (l.o + 0) d' cur) (e:=e) ?_ (by simp [Go.Sort.putCells,hcs]) (by rw [opl_length]; omega) fun j hj=>?_
  ·simp only [Go.Sort.putRow,Go.Sort.mapBlock,Array.getElem?_modify]
   rw [if_neg (fun e=>hk (by rw [← e]; exact hB))]; rfl
  ·simp only [Go.Sort.putRow,Go.Sort.mapBlock,Array.getElem?_modify]
   rw [if_neg (Ne.symm hb)]; rfl
  ·simp only [Go.Sort.putRow,Go.Sort.mapBlock,Array.getElem?_modify]
   rw [if_pos trivial]
   show Option.map _ (w.heap[l.g]?)=_
   rw [hg]; rfl
  ·rw [opl_length] at hj
   have hjd:j < d'.size:=by omega
   have hjc:l.o + j < cur.size:=by omega
   have e3:(Go.Sort.putCells enc (l.o + 0) d' cur).getD (l.o + j) undef=enc d'[j]:=by
    simp only [Go.Sort.putCells,Array.getD_eq_getD_getElem?,Array.getElem?_mapIdx,Array.getElem?_eq_getElem hjc,Option.map_some,Option.getD_some]
    rw [if_pos ⟨by omega,by omega⟩,show l.o + j - (l.o + 0)=j by omega,getElem!_pos d' j hjd]
   rw [e3]
   have e4:ys[j]=d'[j].1.1:=by
    have:=hys
    subst this
    simp
   have e5:(opl ys)[j]'(by rw [opl_length]; exact hj) = .p ys[j]:=by simp [opl]
   rw [e5,e4]
   have h6:=d'[j].2.2
   refine .p _ _ ?_
   show Reads (OK C m ([.own (opl xs)]++ancs 0 [Blk.own (opl xs)].length) w) w _ _
   rw [hok]
   exact h6
 have R2:=R1.later (w':=w2) (by
  rw [hw]
  refine ⟨rfl,rfl,rfl,by simp [Go.Proofs.sortWorld],fun k hk=>?_,Nat.le_refl _⟩
  unfold Go.Proofs.sortWorld
  exact Go.Sort.heap_grow_old _ _ hk)
 exact ⟨R2.laid,R2.below,R2.base,rfl,R2.inj,R2.blk,R2.fro,fun t=>by
  cases t with
  | zero=>exact .p _ _ (.tup [] #[] rfl fun c h=>absurd h (by simp))
  | succ t=>exact .dead _,R2.mp⟩

end
end Go.Pv

/-
  Contracts of the library, laid at this dump: numbers, and that each body is the same. Conditions: none; written by a program of this repo out of the kit's own tool.
-/
set_option linter.all false
namespace Go.Proofs
open Go.Shelf
def Tryd.sortL_ren:Go.Shelf.Ren:=⟨fun | 6=>81 | 15=>133 | 14=>132 | 28=>159 | 29=>160 | 20=>151 | 21=>152 | 22=>153 | 23=>154 | 24=>155 | 25=>156 | 26=>157 | 27=>158 | 46=>173 | 47=>174 | 48=>175 | 49=>176 | 50=>177 | 57=>189 | n=>n,fun | 22=>25 | 24=>22 | 25=>86 | 3=>3 | 39=>107 | 0=>0 | 53=>127 | 55=>93 | 4=>4 | 46=>120 | 45=>119 | 50=>124 | 5=>5 | 9=>9 | 66=>137 | 70=>141 | 76=>150 | 77=>151 | n=>n,fun | n=>n⟩
theorem Tryd.sortL : Go.Proofs.SlLaysF.n6 Tryd.prog Tryd.sortL_ren := {
  mixed := by kernel_rfl
  f6 := ⟨Tryd.f81.name, by decide, Tryd.func81.trans (congrArg some (by kernel_rfl))⟩
  f14 := ⟨Tryd.f132.name, by decide, Tryd.func132.trans (congrArg some (by kernel_rfl))⟩
  f15 := Tryd.func133.trans (congrArg some (by kernel_rfl))
  f20 := ⟨Tryd.f151.name, by decide, Tryd.func151.trans (congrArg some (by kernel_rfl))⟩
  f21 := ⟨Tryd.f152.name, by decide, Tryd.func152.trans (congrArg some (by kernel_rfl))⟩
  f22 := ⟨Tryd.f153.name, by decide, Tryd.func153.trans (congrArg some (by kernel_rfl))⟩
  f23 := ⟨Tryd.f154.name, by decide, Tryd.func154.trans (congrArg some (by kernel_rfl))⟩
  f24 := ⟨Tryd.f155.name, by decide, Tryd.func155.trans (congrArg some (by kernel_rfl))⟩
  f25 := ⟨Tryd.f156.name, by decide, Tryd.func156.trans (congrArg some (by kernel_rfl))⟩
  f26 := ⟨Tryd.f157.name, by decide, Tryd.func157.trans (congrArg some (by kernel_rfl))⟩
  f27 := ⟨Tryd.f158.name, by decide, Tryd.func158.trans (congrArg some (by kernel_rfl))⟩
  f28 := Tryd.func159.trans (congrArg some (by kernel_rfl))
  f29 := Tryd.func160.trans (congrArg some (by kernel_rfl))
  f46 := ⟨Tryd.f173.name, by decide, Tryd.func173.trans (congrArg some (by kernel_rfl))⟩
  f47 := Tryd.func174.trans (congrArg some (by kernel_rfl))
  f48 := Tryd.func175.trans (congrArg some (by kernel_rfl))
  f49 := ⟨Tryd.f176.name, by decide, Tryd.func176.trans (congrArg some (by kernel_rfl))⟩
  f50 := ⟨Tryd.f177.name, by decide, Tryd.func177.trans (congrArg some (by kernel_rfl))⟩
  f57 := ⟨Tryd.f189.name, by decide, Tryd.func189.trans (congrArg some (by kernel_rfl))⟩
  t0 := Tryd.underlying0
  a0 := Tryd.isAgg0
  z0 := Tryd.sizeOf0
  v0 := Tryd.zeroValue0
  t3 := Tryd.underlying3
  a3 := Tryd.isAgg3
  z3 := Tryd.sizeOf3
  v3 := Tryd.zeroValue3
  t4 := Tryd.underlying4
  a4 := Tryd.isAgg4
  z4 := Tryd.sizeOf4
  v4 := Tryd.zeroValue4
  t5 := Tryd.underlying5
  a5 := Tryd.isAgg5
  z5 := Tryd.sizeOf5
  v5 := Tryd.zeroValue5
  t9 := Tryd.underlying9
  a9 := Tryd.isAgg9
  z9 := Tryd.sizeOf9
  v9 := Tryd.zeroValue9
  t22 := Tryd.underlying25
  a22 := Tryd.isAgg25
  z22 := Tryd.sizeOf25
  v22 := Tryd.zeroValue25
  a24 := Tryd.isAgg22
  z24 := Tryd.sizeOf22
  t25 := Tryd.underlying86
  a25 := Tryd.isAgg86
  z25 := Tryd.sizeOf86
  v25 := Tryd.zeroValue86
  t39 := Tryd.underlying107
  a39 := Tryd.isAgg107
  z39 := Tryd.sizeOf107
  v39 := Tryd.zeroValue107
  t45 := Tryd.underlying119
  a45 := Tryd.isAgg119
  z45 := Tryd.sizeOf119
  v45 := Tryd.zeroValue119
  t46 := Tryd.underlying120
  a46 := Tryd.isAgg120
  z46 := Tryd.sizeOf120
  v46 := Tryd.zeroValue120
  t50 := Tryd.underlying124
  a50 := Tryd.isAgg124
  z50 := Tryd.sizeOf124
  v50 := Tryd.zeroValue124
  t53 := Tryd.underlying127
  a53 := Tryd.isAgg127
  z53 := Tryd.sizeOf127
  v53 := Tryd.zeroValue127
  t55 := Tryd.underlying93
  a55 := Tryd.isAgg93
  z55 := Tryd.sizeOf93
  v55 := Tryd.zeroValue93
  t66 := Tryd.underlying137
  a66 := Tryd.isAgg137
  z66 := Tryd.sizeOf137
  v66 := Tryd.zeroValue137
  t70 := Tryd.underlying141
  a70 := Tryd.isAgg141
  z70 := Tryd.sizeOf141
  v70 := Tryd.zeroValue141
  t76 := Tryd.underlying150
  a76 := Tryd.isAgg150
  z76 := Tryd.sizeOf150
  v76 := Tryd.zeroValue150
  t77 := Tryd.underlying151
  a77 := Tryd.isAgg151
  z77 := Tryd.sizeOf151
  v77 := Tryd.zeroValue151 }
end Go.Proofs

/-
  All of Sylow's subgroups, as the program has them. Conditions: none.
-/
set_option linter.all false
namespace Go.Proofs.YtboadfahlflmhaaDoor
open Go.Pv

def pvi:PV→Int
 | .int _ x=>x
 | _=>0
theorem pvi_il (v:List Int):(il v).map pvi=v:=by
 unfold il
 rw [List.map_map]
 exact (List.map_congr_left fun _ _=>rfl).trans (List.map_id v)
def cfL:PV→PV→Int
 | .list a,.list b=>cmpL (a.map pvi) (b.map pvi)
 | _,_=>0
theorem cfL_il (v w:List Int):cfL (.list (il v)) (.list (il w))=cmpL v w:=by
 show cmpL ((il v).map pvi) ((il w).map pvi)=_
 rw [pvi_il,pvi_il]
theorem mem_ll {x:PV} {ls:List (List Int)} (h:x∈ll ls):∃ v∈ls,x = .list (il v):=by
 obtain ⟨v,hv,rfl⟩:=List.mem_map.1 h
 exact ⟨v,hv,rfl⟩

theorem sortL_c {xs ys:List (List Int)} (hne:xs ≠ []) (hl:xs.length≤1000000) (hr:∀ v∈xs,v.length≤1000000) (hperm:xs.Perm ys) (hs:ys.Pairwise fun v w=>cmpL v w < 0) :
  FnM Tryd.prog 81 [.sl 0 0 (ll xs).length,.p (.fn 82 [])] [.own (opl (ll xs))] (.p (.tup [])) [.own (opl (ll ys))]:=
 sort_m Go.Proofs.Tryd.sortL (ll xs) (ll ys) cfL (fun h=>hne (by cases xs with
   | nil=>rfl
   | cons a r=>cases h)) (fun x hx=>by obtain ⟨v,_,rfl⟩:=mem_ll hx; rfl)
  (fun x hx=>by obtain ⟨v,_,rfl⟩:=mem_ll hx; rw [cfL_il,cmpL_self]; decide)
  (fun x hx y hy z hz h1 h2=>by
   obtain ⟨u,_,rfl⟩:=mem_ll hx; obtain ⟨v,_,rfl⟩:=mem_ll hy; obtain ⟨w,_,rfl⟩:=mem_ll hz
   rw [cfL_il] at *; exact cmpL_trans _ _ _ h1 h2)
  (fun x hx y hy z hz h1 h2=>by
   obtain ⟨u,_,rfl⟩:=mem_ll hx; obtain ⟨v,_,rfl⟩:=mem_ll hy; obtain ⟨w,_,rfl⟩:=mem_ll hz
   rw [cfL_il] at *; exact cmpL_ntrans _ _ _ h1 h2)
  (fun x hx y hy h1 h2=>by
   obtain ⟨u,_,rfl⟩:=mem_ll hx; obtain ⟨v,_,rfl⟩:=mem_ll hy
   rw [cfL_il] at *; rw [cmpL_tot _ _ h1 h2])
  (fun x hx y hy=>by
   obtain ⟨u,hu,rfl⟩:=mem_ll hx; obtain ⟨v,hv,rfl⟩:=mem_ll hy
   rw [cfL_il]; have h1:=hr u hu; have h2:=hr v hv; exact compareL_c u v (by omega) (by omega))
  (hperm.map _) (by
   unfold ll
   rw [List.pairwise_map]
   exact hs.imp fun {x y} hxy h2=>by
    rw [cfL_il] at h2
    have:=cmpL_trans _ _ _ hxy h2
    rw [cmpL_self] at this; exact absurd this (by decide)) (by rw [ll_length]; omega)

section
variable {n e P:Nat} {m:List Int}
end
end Go.Proofs.YtboadfahlflmhaaDoor

/-
  Walks: all homomorphisms of two groups. Conditions: none.
-/
set_option linter.all false
namespace Go.Pv
open Go.RowKit
/-- A list of up to a thousand, and one more where there are too many. -/
def prA (f:PV→Bool) (ox:List Int→Prop):Prot (List PV) where
 c4 _:=.nil
 c51 l:=.int .i64 (if l.length≤1000 then 0 else 9)
 c52 _:=.int .i64 0
 R l:=l
 go l x:=!f x || decide (l.length + 1≤1000)
 nx l x:=if f x then l++[x] else l
 ok l:=l.length≤1000∧l.all PV.one=true
 okx x:=∃ v,x = .list (il v)∧ox v
 ok_nx l x h hx hg:=by
  by_cases hf:f x=true
  ·rw [if_pos hf]
   simp [hf] at hg
   refine ⟨by simp; omega,?_⟩
   rw [List.all_append,h.2]
   obtain ⟨v,rfl,_⟩:=hx
   rfl
  ·rw [if_neg hf]; exact h
 ones l h:=h.2
theorem foldA (f:PV→Bool) (ox:List Int→Prop):∀ (xs l:List PV),l.length≤1000→(l++xs.filter f).length≤1000→foldS (prA f ox) l xs=(l++xs.filter f,true)
 | [],l,h,_=>by simp [foldS]
 | x :: xs,l,h,hl=>by
  unfold foldS
  by_cases hf:f x=true
  ·rw [List.filter_cons_of_pos hf] at hl ⊢
   have h1:l.length + 1≤1000:=by simp at hl; omega
   have h2:(prA f ox).go l x=true:=by simp [prA,hf]; omega
   have h3:(prA f ox).nx l x=l++[x]:=by simp [prA,hf]
   rw [if_pos h2,h3,foldA f ox xs _ (by simp; omega) (by simpa using hl)]
   simp
  ·rw [List.filter_cons_of_neg hf] at hl ⊢
   have h2:(prA f ox).go l x=true:=by simp [prA,hf]
   have h3:(prA f ox).nx l x=l:=by simp [prA,hf]
   rw [if_pos h2,h3,foldA f ox xs _ h hl]
theorem foldA_no (f:PV→Bool) (ox:List Int→Prop):∀ (xs l:List PV),l.length≤1000→¬ (l++xs.filter f).length≤1000→∃ j,foldS (prA f ox) l xs=(j,false)∧¬ j.length≤1000
 | [],l,h,h2=>absurd h (by simpa using h2)
 | x :: xs,l,h,hl=>by
  unfold foldS
  by_cases hf:f x=true
  ·rw [List.filter_cons_of_pos hf] at hl
   have h3:(prA f ox).nx l x=l++[x]:=by simp [prA,hf]
   by_cases h1:l.length + 1≤1000
   ·have h2:(prA f ox).go l x=true:=by simp [prA,hf]; omega
    rw [if_pos h2,h3]
    exact foldA_no f ox xs _ (by simp; omega) (by simpa using hl)
   ·have h2:¬ (prA f ox).go l x=true:=by simp [prA,hf]; omega
    rw [if_neg h2,h3]
    exact ⟨_,rfl,by simp; omega⟩
  ·rw [List.filter_cons_of_neg hf] at hl
   have h2:(prA f ox).go l x=true:=by simp [prA,hf]
   have h3:(prA f ox).nx l x=l:=by simp [prA,hf]
   rw [if_pos h2,h3]
   exact foldA_no f ox xs _ h hl
section
variable {P:Program} {Q:Exit→St→Prop} {s:St} {C:Ctx} {m:Map} {tmps:Array Value} {w:World}
/-- A function that has pure things with it, as one with blocks. -/
theorem Rel.toCl (R:Rel C m s tmps w) {t:Nat} {f:FuncId} {ps:List PV} (h:s.get t = .p (.fn f ps)):Rel C m { s with sl:=(t,.cl f (ps.map AV.p)) :: s.sl } tmps w:=by
 refine ⟨R.laid,R.below,R.base,R.size,R.inj,R.blk,R.fro,fun t'=>?_,R.mp⟩
 by_cases e:t=t'
 ·subst e
  have e2:({ s with sl:=(t,.cl f (ps.map AV.p)) :: s.sl } : St).get t = .cl f (ps.map AV.p):=by simp [St.get,lk]
  rw [e2]
  have hv:=R.slot t
  rw [h] at hv
  have hv:=hv.p_inv
  generalize tmps.getD t undef=v at hv
  cases hv with
  | fn _ _ vs hl hr =>
   refine .cl _ _ vs (by simpa using hl) fun c hc=>?_
   rw [List.getElem_map]
   exact .p _ _ (hr c (by simpa using hc))
 ·have e2:({ s with sl:=(t,.cl f (ps.map AV.p)) :: s.sl } : St).get t' = s.get t':=by simp [St.get,lk,show (t == t')=false by simpa using e]
  rw [e2]
  exact R.slot t'
theorem hr_cl {c:Code} (t:Nat) {f:FuncId} {ps:List PV} (h:s.get t = .p (.fn f ps)) (h' : HoldsR P c Q { s with sl:=(t,.cl f (ps.map AV.p)) :: s.sl }):HoldsR P c Q s:=
 fun C0 C m a w hS R hd=>h' C0 C m a w hS (R.toCl h) hd
end
end Go.Pv
namespace Go.Proofs.YtboadfahlflmhaaDoor
open Go.Pv
section
variable {n e N d:Nat} {m M:List Int} {σ:Type}
theorem tg_ok (h:GT n m n e) (h' : GT N M N d):tg n m N M=(0,0):=by
 unfold tg
 rw [gf_of h,gf_of h']; rfl
end
end Go.Proofs.YtboadfahlflmhaaDoor

/-
  Walks: lists of lists, one to one, one map then another. Conditions: none.
-/
set_option linter.all false
namespace Go.Proofs.YtboadfahlflmhaaDoor
open Go.Pv

theorem hhas_r (l:List Int) (x:Int) (hl:l.length≤1000000000000000):FnC Tryd.prog 53 [.list (il l),.int .i64 x] (.bool (decide (x∈l))):=by
 refine fnc_of tab_ok Tryd.func53 rfl (by kernel_rfl) (by rw [Tryd.ntmps53]; exact Nat.le_add_left 2 _) ?_; rw [Tryd.ntmps53]
 refine qm ?_
 refine hk_region fun K hK=>runs_eval tab_ok ?_
 simp only [ev0,evA,evB,evP,fl,gp,tab,simprocAttr,reduceCtorEq,reduceIte]
 refine fin_run trivial (hK _ ?_)<;>clear hK<;>clear K
 refine qa (qm (qm ?_))
 refine hk_region fun K hK=>runs_eval tab_ok ?_
 simp only [ev0,evA,evB,evP,fl,gp,tab,simprocAttr,reduceCtorEq,reduceIte]
 refine fin_run trivial (hK _ ?_)<;>clear hK<;>clear K
 refine qa (ql ?_)
 refine hk_loop (ι:=Nat) (fun i=>⟨18,[(0,.p (.list (il l))),(1,.p (.int .i64 x)),(5,.p (.int .i64 i))],[]⟩) (fun i=>i≤l.length∧∀ j,j < i→l.getD j 0 ≠ x) (fun i=>l.length - i) 0 ⟨Nat.zero_le _,fun j hj=>by omega⟩ [] (by simp only [leq,leA,ev0,evA,evB,evP,fl,gp,tab,simprocAttr,reduceCtorEq,reduceIte]<;>trivial) fun i hi=>?_
 obtain ⟨hi1,hi2⟩:=hi
 refine qm (qm ?_)
 refine hk_region fun K hK=>runs_eval tab_ok ?_
 simp only [ev0,evA,evB,evP,fl,gp,tab,simprocAttr,reduceCtorEq,reduceIte]
 refine fin_run trivial (hK _ ?_)<;>clear hK<;>clear K
 refine qa ?_
 refine hk_cond rfl (fun hC1=>?_) (fun hC1=>?_)
 ·(try simp only [nhs] at hC1)
  have hlt:i < l.length:=by omega
  refine qh (qa (qm (ql (qm ?_))))
  refine hk_region fun K hK=>runs_eval tab_ok ?_
  simp only [ev0,evA,evB,evP,fl,gp,tab,simprocAttr,reduceCtorEq,reduceIte,il_get hlt]
  refine fin_run ?_ (hK _ ?_)<;>clear hK<;>clear K
  ·(first|exact trivial|omega|(simp only [In64] at *; omega)|(simp [In64] at *; omega)|(simp_all; done)|skip)
  refine qa ?_
  refine hk_cond rfl (fun hC2=>?_) (fun hC2=>?_)
  ·(try simp only [nhs] at hC2)
   refine qm ?_
   refine hk_region fun K hK=>runs_eval tab_ok ?_
   simp only [ev0,evA,evB,evP,fl,gp,tab,simprocAttr,reduceCtorEq,reduceIte]
   refine fin_run trivial (hK _ ?_)<;>clear hK<;>clear K
   refine qa (qk (qe (qb (qb (qe (qb ?_))))))
   simp only [Tryd.results53,enA,ev0,evA,evB,evP,fl,gp,tab,simprocAttr,reduceCtorEq,reduceIte]
   all_goals (rw [eq_comm]; refine decide_eq_true ?_; rw [← hC2]; simp [List.getD,List.getElem?_eq_getElem hlt])
  ·(try simp only [nhs] at hC2)
   refine qh (qd (qa ?_))
   refine hk_region fun K hK=>runs_eval tab_ok ?_
   simp only [ev0,evA,evB,evP,fl,gp,tab,simprocAttr,reduceCtorEq,reduceIte]
   refine fin_run ?_ (hK _ ?_)<;>clear hK<;>clear K
   ·(first|exact trivial|omega|(simp only [In64] at *; omega)|(simp [In64] at *; omega)|(simp_all; done)|skip)
   refine qa ?_
   refine ⟨i + 1,[],⟨by omega,fun j hj=>?_⟩,by omega,?_⟩
   ·by_cases hj:j=i
    ·subst hj; exact hC2
    ·exact hi2 j (by omega)
   ·simp only [leq,leA,ev0,evA,evB,evP,fl,gp,tab,simprocAttr,reduceCtorEq,reduceIte]<;>omega
 ·(try simp only [nhs] at hC1)
  refine qj (qc (qc (qf (qa (qm ?_)))))
  refine hk_region fun K hK=>runs_eval tab_ok ?_
  simp only [ev0,evA,evB,evP,fl,gp,tab,simprocAttr,reduceCtorEq,reduceIte]
  refine fin_run trivial (hK _ ?_)<;>clear hK<;>clear K
  refine qa (qk ?_)
  simp only [Tryd.results53,enA,ev0,evA,evB,evP,fl,gp,tab,simprocAttr,reduceCtorEq,reduceIte]
  all_goals (rw [eq_comm]; refine decide_eq_false fun hm=>?_; obtain ⟨j,hj,e⟩:=List.getElem_of_mem hm; exact hi2 j (by omega) (by simp [List.getD,List.getElem?_eq_getElem hj,e]))

/-- A list of so many things has each of them. -/
def onto1 (l:List Int) (n:Nat):Prop:=(∀ i,i < n→((i:Nat):Int)∈l)∧l.length=n
instance (l:List Int) (n:Nat):Decidable (onto1 l n):=by unfold onto1; infer_instance

theorem oneToOne_r (l:List Int) (n:Nat) (hl:l.length≤1000000) (hn:n≤1000000):FnC Tryd.prog 26 [.list (il l),.int .i64 n] (.bool (decide (onto1 l n))):=by
 refine fnc_of tab_ok Tryd.func26 rfl (by kernel_rfl) (by rw [Tryd.ntmps26]; exact Nat.le_add_left 2 _) ?_; rw [Tryd.ntmps26]
 refine qm ?_
 refine hk_region fun K hK=>runs_eval tab_ok ?_
 simp only [ev0,evA,evB,evP,fl,gp,tab,simprocAttr,reduceCtorEq,reduceIte]
 refine fin_run trivial (hK _ ?_)<;>clear hK<;>clear K
 refine qa (qm (qm ?_))
 refine hk_region fun K hK=>runs_eval tab_ok ?_
 simp only [ev0,evA,evB,evP,fl,gp,tab,simprocAttr,reduceCtorEq,reduceIte]
 refine fin_run trivial (hK _ ?_)<;>clear hK<;>clear K
 refine qa (ql ?_)
 refine hk_loop (ι:=Nat) (fun i=>⟨19,[(0,.p (.list (il l))),(1,.p (.int .i64 n)),(5,.p (.int .i64 i))],[]⟩) (fun i=>i≤n∧∀ j,j < i→((j:Nat):Int)∈l) (fun i=>n - i) 0 ⟨Nat.zero_le _,fun j hj=>by omega⟩ [] (by simp only [leq,leA,ev0,evA,evB,evP,fl,gp,tab,simprocAttr,reduceCtorEq,reduceIte]<;>trivial) fun i hi=>?_
 obtain ⟨hi1,hi2⟩:=hi
 refine qm (qm ?_)
 refine hk_region fun K hK=>runs_eval tab_ok ?_
 simp only [ev0,evA,evB,evP,fl,gp,tab,simprocAttr,reduceCtorEq,reduceIte]
 refine fin_run trivial (hK _ ?_)<;>clear hK<;>clear K
 refine qa ?_
 refine hk_cond rfl (fun hC1=>?_) (fun hC1=>?_)
 ·(try simp only [nhs] at hC1)
  have hlt:i < n:=by omega
  refine qh (qa (qm (ql (qm ?_))))
  refine hk_region fun K hK=>runs_eval tab_ok ?_
  simp only [ev0,evA,evB,evP,fl,gp,tab,simprocAttr,reduceCtorEq,reduceIte]
  refine fin_stop trivial (runs_call (hhas_r l i (by omega)) rfl rfl rfl (by simp only [dstOk,Nat.reduceLT]) (by repeat (first|exact trivial|constructor)) (runs_eval tab_ok ?_))
  simp only [ev0,evA,evB,evP,fl,gp,tab,simprocAttr,reduceCtorEq,reduceIte]
  refine fin_run trivial (hK _ ?_)<;>clear hK<;>clear K
  refine qa ?_
  refine hk_cond rfl (fun hC2=>?_) (fun hC2=>?_)
  ·(try simp only [nhs] at hC2)
   refine qm ?_
   refine hk_region fun K hK=>runs_eval tab_ok ?_
   simp only [ev0,evA,evB,evP,fl,gp,tab,simprocAttr,reduceCtorEq,reduceIte]
   refine fin_run trivial (hK _ ?_)<;>clear hK<;>clear K
   refine qa (qk (qe (qb (qb (qe (qb ?_))))))
   simp only [Tryd.results26,enA,ev0,evA,evB,evP,fl,gp,tab,simprocAttr,reduceCtorEq,reduceIte]
   all_goals (rw [eq_comm]; exact decide_eq_false fun h=>hC2 (h.1 i hlt))
  ·(try simp only [nhs] at hC2)
   refine qh (qd (qa ?_))
   refine hk_region fun K hK=>runs_eval tab_ok ?_
   simp only [ev0,evA,evB,evP,fl,gp,tab,simprocAttr,reduceCtorEq,reduceIte]
   refine fin_run ?_ (hK _ ?_)<;>clear hK<;>clear K
   ·(first|exact trivial|omega|(simp only [In64] at *; omega)|(simp [In64] at *; omega)|(simp_all; done)|skip)
   refine qa ?_
   refine ⟨i + 1,[],⟨by omega,fun j hj=>?_⟩,by omega,?_⟩
   ·by_cases hj:j=i
    ·subst hj; exact hC2
    ·exact hi2 j (by omega)
   ·simp only [leq,leA,ev0,evA,evB,evP,fl,gp,tab,simprocAttr,reduceCtorEq,reduceIte]<;>omega
 ·(try simp only [nhs] at hC1)
  have hin:i=n:=by omega
  refine qj (qc (qc (qf (qa (qm ?_)))))
  refine hk_region fun K hK=>runs_eval tab_ok ?_
  simp only [ev0,evA,evB,evP,fl,gp,tab,simprocAttr,reduceCtorEq,reduceIte]
  refine fin_run trivial (hK _ ?_)<;>clear hK<;>clear K
  refine qa (qk ?_)
  simp only [Tryd.results26,enA,ev0,evA,evB,evP,fl,gp,tab,simprocAttr,reduceCtorEq,reduceIte]
  all_goals (rw [decide_eq_decide]; unfold onto1; exact ⟨fun h=>⟨fun j hj=>hi2 j (by omega),by omega⟩,fun h=>by have:=h.2; omega⟩)

/-- One map, then another. -/
def cmpl (p q:List Int):List Int:=p.map fun x=>q.getD x.toNat 0

end Go.Proofs.YtboadfahlflmhaaDoor

/-
  Walks: rows of yes and no; the ring of so many things. Conditions: none.
-/
set_option linter.all false
namespace Go.Proofs.YtboadfahlflmhaaDoor
open Go.Pv

/-- A row of yes and no. -/
def hbl (n:Nat) (g:Nat→Bool):List PV:=(List.range n).map fun i=>.bool (g i)
theorem hbl_len (n:Nat) (g:Nat→Bool):(hbl n g).length=n:=by simp [hbl]
theorem hbl_get {n:Nat} {g:Nat→Bool} {i:Nat} (h:i < n):(hbl n g).getD i default = .bool (g i):=by
 simp [hbl,List.getD,List.getElem?_eq_getElem,h]
theorem hbl_all (n:Nat) (g:Nat→Bool):(hbl n g).all PV.one=true:=by simp [hbl,PV.one]

def ixb (n:Nat) (g:Nat→Bool):Int:=match fst' (fun i=>!g i) n with | some i=>(i:Int) | none=>-1
theorem ixb_iff (n:Nat) (g:Nat→Bool):ixb n g ≥ 0↔∃ i,i < n∧g i=false:=by
 unfold ixb
 cases h:fst' (fun i=>!g i) n with
 | none =>
  constructor
  ·intro h; simp at h
  ·rintro ⟨i,hi,e⟩
   have:=fst_spec0 h i hi
   rw [e] at this; simp at this
 | some i =>
  obtain ⟨h1,h2,_⟩:=fst_spec h
  exact ⟨fun _=>⟨i,h1,by simpa using h2⟩,fun _=>by simp⟩

theorem indexB_c (n:Nat) (g:Nat→Bool) (hn:n≤1000000):FnC Tryd.prog 131 [.list (hbl n g),.bool false] (.int .i64 (ixb n g)):=by
 refine fnc_of tab_ok Tryd.func131 rfl (by kernel_rfl) (by rw [Tryd.ntmps131]; exact Nat.le_add_left 2 _) ?_; rw [Tryd.ntmps131]
 refine qm ?_
 refine hk_region fun K hK=>runs_eval tab_ok ?_
 simp only [ev0,evA,evB,evP,fl,gp,tab,simprocAttr,reduceCtorEq,reduceIte]
 refine fin_run trivial (hK _ ?_)<;>clear hK<;>clear K
 refine qa (qm (qm ?_))
 refine hk_region fun K hK=>runs_eval tab_ok ?_
 simp only [ev0,evA,evB,evP,fl,gp,tab,simprocAttr,reduceCtorEq,reduceIte,hbl_len]
 refine fin_run trivial (hK _ ?_)<;>clear hK<;>clear K
 refine qa (ql ?_)
 refine hk_loop (ι:=Nat) (fun i=>⟨19,[(0,.p (.list (hbl n g))),(1,.p (.bool false)),(7,.p (.int .i64 n)),(8,.p (.int .i64 i))],[]⟩) (fun i=>i≤n∧∀ j,j < i→g j=true) (fun i=>n - i) 0 ⟨Nat.zero_le _,fun j hj=>by omega⟩ [] (by simp only [leq,leA,ev0,evA,evB,evP,fl,gp,tab,simprocAttr,reduceCtorEq,reduceIte,hbl_len]<;>trivial) fun i hi=>?_
 obtain ⟨hi1,hi2⟩:=hi
 refine qm ?_
 refine hk_region fun K hK=>runs_eval tab_ok ?_
 simp only [ev0,evA,evB,evP,fl,gp,tab,simprocAttr,reduceCtorEq,reduceIte]
 refine fin_run trivial (hK _ ?_)<;>clear hK<;>clear K
 refine qa (qm ?_)
 refine hk_cond rfl (fun hC1=>?_) (fun hC1=>?_)
 ·(try simp only [nhs] at hC1)
  have hlt:i < n:=by omega
  refine qh (qa (qm (ql (qm ?_))))
  refine hk_region fun K hK=>runs_eval tab_ok ?_
  simp only [ev0,evA,evB,evP,fl,gp,tab,simprocAttr,reduceCtorEq,reduceIte]
  refine fin_run trivial (hK _ ?_)<;>clear hK<;>clear K
  refine qa (qm ?_)
  refine hk_region fun K hK=>runs_eval tab_ok ?_
  simp only [ev0,evA,evB,evP,fl,gp,tab,simprocAttr,reduceCtorEq,reduceIte,hbl_len,hbl_get hlt]
  refine fin_run ?_ (hK _ ?_)<;>clear hK<;>clear K
  ·(first|exact trivial|omega|(simp only [In64] at *; omega)|(simp [In64] at *; omega)|(simp_all; done)|skip)
  refine qa ?_
  refine hk_cond rfl (fun hC2=>?_) (fun hC2=>?_)
  ·(try simp only [nhs] at hC2)
   refine qm ?_
   refine hk_region fun K hK=>runs_eval tab_ok ?_
   simp only [ev0,evA,evB,evP,fl,gp,tab,simprocAttr,reduceCtorEq,reduceIte]
   refine fin_run trivial (hK _ ?_)<;>clear hK<;>clear K
   refine qa (qk (qe (qb (qb (qe (qb ?_))))))
   simp only [Tryd.results131,enA,ev0,evA,evB,evP,fl,gp,tab,simprocAttr,reduceCtorEq,reduceIte]
   all_goals (unfold ixb; rw [fst_some hlt (by cases hg:g i<;>simp_all) fun j hj=>by simp [hi2 j hj]])
  ·(try simp only [nhs] at hC2)
   refine qh (qd (qa ?_))
   refine hk_region fun K hK=>runs_eval tab_ok ?_
   simp only [ev0,evA,evB,evP,fl,gp,tab,simprocAttr,reduceCtorEq,reduceIte]
   refine fin_run ?_ (hK _ ?_)<;>clear hK<;>clear K
   ·(first|exact trivial|omega|(simp only [In64] at *; omega)|(simp [In64] at *; omega)|(simp_all; done)|skip)
   refine qa ?_
   refine ⟨i + 1,[],⟨by omega,fun j hj=>?_⟩,by omega,?_⟩
   ·by_cases hj:j=i
    ·subst hj; (cases hg:g j<;>simp_all)
    ·exact hi2 j (by omega)
   ·simp only [leq,leA,ev0,evA,evB,evP,fl,gp,tab,simprocAttr,reduceCtorEq,reduceIte]<;>first|trivial|omega
 ·(try simp only [nhs] at hC1)
  refine qj (qc (qc (qf (qa (qm ?_)))))
  refine hk_region fun K hK=>runs_eval tab_ok ?_
  simp only [ev0,evA,evB,evP,fl,gp,tab,simprocAttr,reduceCtorEq,reduceIte]
  refine fin_run trivial (hK _ ?_)<;>clear hK<;>clear K
  refine qa (qk ?_)
  simp only [Tryd.results131,enA,ev0,evA,evB,evP,fl,gp,tab,simprocAttr,reduceCtorEq,reduceIte]
  all_goals (unfold ixb; rw [fst_none fun j hj=>by simp [hi2 j (by omega)]])

theorem containsB_c (n:Nat) (g:Nat→Bool) (hn:n≤1000000):FnC Tryd.prog 80 [.list (hbl n g),.bool false] (.bool (decide (ixb n g ≥ 0))):=by
 refine fnc_of tab_ok Tryd.func80 rfl (by kernel_rfl) (by rw [Tryd.ntmps80]; exact Nat.le_add_left 2 _) ?_; rw [Tryd.ntmps80]
 refine qm ?_
 refine hk_region fun K hK=>runs_eval tab_ok ?_
 simp only [ev0,evA,evB,evP,fl,gp,tab,simprocAttr,reduceCtorEq,reduceIte]
 refine fin_run trivial (hK _ ?_)<;>clear hK<;>clear K
 refine qa (qm ?_)
 refine hk_region fun K hK=>runs_eval tab_ok ?_
 simp only [ev0,evA,evB,evP,fl,gp,tab,simprocAttr,reduceCtorEq,reduceIte]
 refine fin_stop trivial (runs_call (indexB_c n g hn) rfl rfl rfl (by simp only [dstOk,Nat.reduceLT]) (by repeat (first|exact trivial|constructor)) (runs_eval tab_ok ?_))
 simp only [ev0,evA,evB,evP,fl,gp,tab,simprocAttr,reduceCtorEq,reduceIte]
 refine fin_run trivial (hK _ ?_)<;>clear hK<;>clear K
 refine qa (qk ?_)
 simp only [Tryd.results80,enA,ev0,evA,evB,evP,fl,gp,tab,simprocAttr,reduceCtorEq,reduceIte]
 all_goals ((first|exact rfl|exact ⟨rfl,rfl⟩|exact ⟨rfl,rfl,rfl⟩|exact ⟨trivial,rfl⟩|exact ⟨Nat.le_refl _,rfl⟩|trivial|(simp; done)))
end Go.Proofs.YtboadfahlflmhaaDoor

/-
  The semidirect product of two groups: plain laws, with no program in sight. Conditions: none.
-/
set_option linter.all false
namespace Go.Proofs.YtboadfahlflmhaaDoor
open Go.Pv

structure Acts (n n' : Nat) (f f' al:Nat→Nat→Nat):Prop where
 lt:∀ x i,x < n'→i < n→al x i < n
 hom:∀ x i j,x < n'→i < n→j < n→al x (f i j)=f (al x i) (al x j)
 onto:∀ x i,x < n'→i < n→∃ j,j < n∧al x j=i
 mul:∀ x y i,x < n'→y < n'→i < n→al (f' x y) i=al x (al y i)

section
variable {n n' e e' : Nat} {f f' al:Nat→Nat→Nat}

theorem Acts.one (A:Acts n n' f f' al) (G' : Grp n' f' e') {i:Nat} (hi:i < n):al e' i=i:=by
 obtain ⟨j,hj,rfl⟩:=A.onto e' i G'.el hi
 rw [← A.mul e' e' j G'.el G'.el hj,G'.one_l e' G'.el]
theorem Acts.el (A:Acts n n' f f' al) (G:Grp n f e) {x:Nat} (hx:x < n'):al x e=e:=by
 have h1:=A.lt x e hx G.el
 have h2:=A.hom x e e hx G.el G.el
 rw [G.one_l e G.el] at h2
 exact (G.idem h1).1 h2.symm

end
end Go.Proofs.YtboadfahlflmhaaDoor

/-
  Walks: the ring of so many things; tables by a rule. Conditions: none.
-/
set_option linter.all false
namespace Go.Proofs.YtboadfahlflmhaaDoor
open Go.Pv

end Go.Proofs.YtboadfahlflmhaaDoor

/-
  Semidirect products: the fault, and what no fault says. Conditions: none.
-/
set_option linter.all false
namespace Go.Proofs.YtboadfahlflmhaaDoor
open Go.Pv

def mgd (m' : List Int) (n' : Nat) (ls:List (List Int)) (x:Nat):Prop:=∀ y,y < n'→ls.getD (op m' n' x y) []=cmpl (ls.getD y []) (ls.getD x [])
instance (m' : List Int) (n' : Nat) (ls:List (List Int)) (x:Nat):Decidable (mgd m' n' ls x):=by unfold mgd; infer_instance
section
variable {N N' : Int} {m m' : List Int} {ls:List (List Int)} {n n' : Nat}
end
end Go.Proofs.YtboadfahlflmhaaDoor

/-
  Walks: prod.Semi. Conditions: none.
-/
set_option linter.all false
namespace Go.Proofs.YtboadfahlflmhaaDoor
open Go.Pv

def hits (l:List Int) (k i:Nat):Bool:=decide (((i:Nat):Int)∈l.take k)
theorem hbl_new (n:Nat):List.replicate n (AV.p (.bool false))=opl (hbl n fun _=>false):=by
 refine List.ext_getElem (by simp [opl,hbl]) fun i h1 h2=>?_
 simp [opl,hbl]
theorem hbl_set (n:Nat) (g:Nat→Bool) (v:Nat):(opl (hbl n g)).set v (AV.p (.bool true))=opl (hbl n fun i=>decide (i=v) || g i):=by
 refine List.ext_getElem (by simp [opl,hbl]) fun i h1 h2=>?_
 simp only [opl,hbl,List.getElem_set,List.getElem_map,List.getElem_range]
 by_cases h:v=i
 ·subst h; simp
 ·rw [if_neg h]; simp [Ne.symm h]
theorem hits_zero (l:List Int) (i:Nat):hits l 0 i=false:=by simp [hits]
theorem hits_succ {l:List Int} {k v:Nat} (hk:k < l.length) (hv:l.getD k 0=((v:Nat):Int)) (i:Nat):hits l (k + 1) i=(decide (i=v) || hits l k i):=by
 unfold hits
 have e:l[k]=((v:Nat):Int):=by rw [← hv]; simp [List.getD,List.getElem?_eq_getElem hk]
 rw [List.take_succ_eq_append_getElem hk,e,Bool.eq_iff_iff]
 simp only [List.mem_append,List.mem_singleton,Bool.or_eq_true,decide_eq_true_eq]
 constructor
 ·rintro (h | h)
  ·exact .inr h
  ·exact .inl (by omega)
 ·rintro (h | h)
  ·exact .inr (by omega)
  ·exact .inl h
theorem hbl_congr {n:Nat} {g g' : Nat→Bool} (h:∀ i,i < n→g i=g' i):hbl n g=hbl n g':=by
 unfold hbl
 exact List.map_congr_left fun i hi=>by rw [h i (List.mem_range.1 hi)]

end Go.Proofs.YtboadfahlflmhaaDoor

/-
  Walks: all automorphisms of a group. Conditions: none.
-/
set_option linter.all false
namespace Go.Proofs.YtboadfahlflmhaaDoor
open Go.Pv
section
variable {n e N d:Nat} {m M:List Int} {σ:Type}
theorem autos1_c (p:Prot σ) (h:GT n m n e) (L:List Nat) (hL:L=gl n (op m n) e n) {rec:Loop} (hrp:rec.params.size=1) {l:List AV} (hY:Rounds Tryd.prog p rec l) (hokx:∀ φ,Hmo n (op m n) n (op m n) φ→p.okx (.list (il (tbm n φ))))
  (hl:l.all (sc1 4)=true) (i:σ) (hi:p.ok i) {j:σ} {b:Bool} (hf:foldS p i (pls (hsq n (op m n) e n (op m n) e L L []))=(j,b)) :
  FnQ Tryd.prog 4 78 [.yv 3 l rec.tmps,.p (.ptr [.int .i64 n,.list (il m)])] (HU p i (.lp rec)) (.p (.tup [])) (HU p j (.lp (recB b rec))):=by
 have hE:=each_c p h h L hL hrp hY hokx hl i hi hf
 have hl4:l.map (ren1 [0,1,2,3,4])=l:=(List.map_congr_left fun x hx=>ren1_range (n:=5) (List.all_eq_true.1 (all_up (by decide) hl) x hx)).trans (List.map_id _)
 unfold HU at hE ⊢
 refine fnq_of (q:=4) tab_ok Tryd.func78 rfl (by kernel_rfl) (by rw [Tryd.ntmps78]; exact Nat.le_add_left 2 _) ?_; rw [Tryd.ntmps78]; simp only [ancs,entA,List.length_cons,List.length_nil,List.cons_append,List.nil_append,Nat.reduceAdd,Nat.zero_add]
 refine hk_region fun K hK=>runs_eval tab_ok ?_
 simp only [ev0,evA,evB,evP,fl,gp,tab,simprocAttr,reduceCtorEq,reduceIte]
 refine fin_stop ?_ (runs_callQ [0,1,2,3,4] (hE) rfl rfl ?_ (by simp only [leA,ev0,evA,evB,evP,fl,gp,tab,simprocAttr,reduceCtorEq,reduceIte]; first|trivial|(simp only [ll_takeL]; first|trivial|(repeat constructor; done))|(repeat constructor)) (by decide) (by first|rfl|(simp only [List.length_cons,List.length_nil,List.length_append]; decide)) (by first|rfl|(simp [scQ,scA,sc1,mpKeep,notAnc,Blk.spc,opl_sc]; done)) (by simp only [dstOk,Nat.reduceLT]) (runs_eval tab_ok ?_))
 ·(first|exact trivial|omega|(simp only [In64] at *; omega)|(simp [In64] at *; omega)|(simp_all; done)|skip)
 ·(simp only [argsM,argM1,peekG,peekS,scA,sc1,ren,ren1,List.map_cons,List.map_nil,List.append_nil,List.cons_append,List.nil_append,enA,ev0,evA,evB,evP,fl,gp,tab,simprocAttr,reduceCtorEq,reduceIte]; try trivial)
  exact ⟨by rw [hl4],all_up (by decide) hl⟩
 simp only [putM,kills,hset,List.take_succ_cons,List.take_zero,List.drop_succ_cons,List.drop_zero,List.range',Blk.ren,ren,ren1,List.map_cons,List.map_nil,List.cons_append,List.nil_append,List.append_nil,List.length_cons,List.length_nil,ev0,evA,evB,evP,fl,gp,tab,simprocAttr,reduceCtorEq,reduceIte]
 refine fin_run ?_ (hK _ ?_)<;>clear hK<;>clear K
 ·(first|exact trivial|omega|(simp only [In64] at *; omega)|(simp [In64] at *; omega)|(simp_all; done)|skip)
 simp only [Tryd.results78,PostG,endG,rvsA,rvA,mkTup,ev0,evA,evB,evP,fl,gp,tab,simprocAttr,reduceCtorEq,reduceIte]
 all_goals (exact ⟨[0,1,2,3,9,5,6,7,8],rfl,rfl,by simp only [leq,leA,ev0,evA,evB,evP,fl,gp,tab,simprocAttr,reduceCtorEq,reduceIte]<;>first|trivial|trace_state⟩)

def fA (n:Nat):PV→Bool
 | .list l=>decide (onto1 (l.map pvi) n)
 | _=>false
def oA (n:Nat) (v:List Int):Prop:=v.length=n∧∀ k,k < n→∃ y:Nat,y < n∧v.getD k 0=((y:Nat):Int)
theorem fA_il (n:Nat) (v:List Int):fA n (.list (il v))=decide (onto1 v n):=by
 show decide (onto1 ((il v).map pvi) n)=_
 rw [pvi_il]
theorem fA_ll (n:Nat) (W:List (List Int)):(pls W).filter (fA n)=ll (W.filter fun v=>decide (onto1 v n)):=by
 unfold pls ll
 rw [List.filter_map]
 congr 1
 exact List.filter_congr fun v _=>fA_il n v

set_option maxHeartbeats 8000000 in
set_option maxRecDepth 20000 in
theorem autos_c (h:GT n m n e) (hn:n≤24) (hm:m.length≤1000000000000000) (W X:List (List Int)) (hW:W=hsq n (op m n) e n (op m n) e (gl n (op m n) e n) (gl n (op m n) e n) []) (hX:X=W.filter fun v=>decide (onto1 v n)) (hne:X ≠ [])
  (ys:List (List Int)) (hperm:X.Perm ys) (hs:ys.Pairwise fun v w=>cmpL v w < 0) :
  FnC Tryd.prog 13 [gp n m] (.tup [if X.length≤1000 then .list (ll ys) else .list [],fl (if X.length≤1000 then 0 else 9,0)]):=by
 have hgf:=gf_of h
 have hb:=check_c n m hm
 rw [hgf] at hb
 have hyl:=hperm.length_eq
 have htk:List.take X.length (ll ys)=ll ys:=List.take_of_length_le (by rw [ll_length]; omega)
 have hpX:=fA_ll n W
 rw [← hX] at hpX
 have hlX:=ll_length X
 obtain ⟨j,b,hf,hj1,hj2⟩:∃ j b,foldS (prA (fA n) (oA n)) [] (pls W)=(j,b)∧(X.length≤1000→b=true∧j=ll X)∧(¬ X.length≤1000→b=false∧¬ j.length≤1000):=by
  have e1:([]++(pls W).filter (fA n))=ll X:=by rw [List.nil_append,hpX]
  by_cases hw:X.length≤1000
  ·have:=foldA (fA n) (oA n) (pls W) [] (by simp) (by rw [e1]; omega)
   rw [e1] at this
   exact ⟨_,_,this,fun _=>⟨rfl,rfl⟩,fun h=>absurd hw h⟩
  ·obtain ⟨j,h1,h2⟩:=foldA_no (fA n) (oA n) (pls W) [] (by simp) (by rw [e1]; omega)
   exact ⟨j,false,h1,fun h=>absurd h hw,fun _=>⟨rfl,h2⟩⟩
 refine fnc_ofR tab_ok Tryd.func13 rfl (by kernel_rfl) (by rw [Tryd.ntmps13]; exact Nat.le_add_left 1 _) ?_; rw [Tryd.ntmps13]
 refine hr_seqH ?_
 refine hk_region fun K hK=>runs_eval tab_ok ?_
 simp only [ev0,evA,evB,evP,fl,gp,tab,simprocAttr,reduceCtorEq,reduceIte]
 refine fin_run ?_ (hK _ ?_)<;>clear hK<;>clear K
 ·(first|exact trivial|omega|(simp only [In64] at *; omega)|(simp [In64] at *; omega)|(simp_all; done)|skip)
 refine qa (hr_seqH (qm ?_))
 refine hk_region fun K hK=>runs_eval tab_ok ?_
 simp only [ev0,evA,evB,evP,fl,gp,tab,simprocAttr,reduceCtorEq,reduceIte]
 refine fin_stop trivial (runs_call (hb) rfl rfl rfl (by simp only [dstOk,Nat.reduceLT]) (by repeat (first|exact trivial|constructor)) (runs_eval tab_ok ?_))
 simp only [ev0,evA,evB,evP,fl,gp,tab,simprocAttr,reduceCtorEq,reduceIte]
 refine fin_run ?_ (hK _ ?_)<;>clear hK<;>clear K
 ·(first|exact trivial|omega|(simp only [In64] at *; omega)|(simp [In64] at *; omega)|(simp_all; done)|skip)
 refine qa (qm ?_)
 refine hk_region fun K hK=>runs_eval tab_ok ?_
 simp only [ev0,evA,evB,evP,fl,gp,tab,simprocAttr,reduceCtorEq,reduceIte]
 refine fin_run ?_ (hK _ ?_)<;>clear hK<;>clear K
 ·(first|exact trivial|omega|(simp only [In64] at *; omega)|(simp [In64] at *; omega)|(simp_all; done)|skip)
 refine qa ?_
 refine hk_cond rfl (fun hC1=>?_) (fun hC1=>?_)
 ·(try simp only [nhs] at hC1)
  simp at hC1
 ·(try simp only [nhs] at hC1)
  refine qh (qa (hr_seqH (qm ?_)))
  refine hk_region fun K hK=>runs_eval tab_ok ?_
  simp only [ev0,evA,evB,evP,fl,gp,tab,simprocAttr,reduceCtorEq,reduceIte]
  refine fin_run ?_ (hK _ ?_)<;>clear hK<;>clear K
  ·(first|exact trivial|omega|(simp only [In64] at *; omega)|(simp [In64] at *; omega)|(simp_all; done)|skip)
  refine qa ?_
  refine hk_cond rfl (fun hC2=>?_) (fun hC2=>?_)
  ·(try simp only [nhs] at hC2)
   omega
  ·(try simp only [nhs] at hC2)
   refine qh (qa (hr_seqH ?_))
   refine hk_region fun K hK=>runs_eval tab_ok ?_
   simp only [ev0,evA,evB,evP,fl,gp,tab,simprocAttr,reduceCtorEq,reduceIte]
   refine fin_run ?_ (hK _ ?_)<;>clear hK<;>clear K
   ·(first|exact trivial|omega|(simp only [In64] at *; omega)|(simp [In64] at *; omega)|(simp_all; done)|skip)
   refine qa (hr_seq (hr_seqH ?_))
   refine hk_freeze 0 rfl rfl ?_
   refine hk_own0c 4 0 rfl rfl ?_
   simp only [hset,List.cons_append,List.nil_append,List.set_cons_zero,List.length_cons,List.length_nil,Nat.reduceAdd,Nat.zero_add]
   refine hk_pure 1 rfl (Nat.zero_le _) ?_
   refine hk_region fun K hK=>runs_eval tab_ok ?_
   simp only [ev0,evA,evB,evP,fl,gp,tab,simprocAttr,reduceCtorEq,reduceIte]
   refine fin_run ?_ (hK _ ?_)<;>clear hK<;>clear K
   ·(first|exact trivial|omega|(simp only [In64] at *; omega)|(simp [In64] at *; omega)|(simp_all; done)|skip)
   refine qa (hr_block ?_)
   refine hr_cl 20 rfl ?_
   refine hr_range (gs:=20) (pp:=21) (κ:=3) (q:=4) (n:=49) (sl:=[(1,.p (.ptr [.int .i64 n,.list (il m)])),(2,.ptr 0 0),(3,.ptr 1 0),(5,.ptr 2 0)]) (Hs0:=HU (prA (fA n) (oA n)) []) (Hf:=HU (prA (fA n) (oA n)) j) (b:=b) (gf:=78) (cap:=[.p (.ptr [.int .i64 n,.list (il m)])]) (rv:=.p (.tup [])) [1,2,4,6,5] rfl rfl
    (fun r0=>by simp only [HU,prA]; simp only [leq,leA,ev0,evA,evB,evP,fl,gp,tab,simprocAttr,reduceCtorEq,reduceIte]<;>first|trivial|trace_state) rfl (by decide) ⟨fun _=>rfl,fun _ _=>rfl⟩ ⟨fun _=>rfl,fun _ _=>rfl⟩ (fun r0=>rfl) rfl rfl (fun r0 r1=>by simp only [HU,prA]; exact (by first|rfl|(simp [scQ,scA,sc1,mpKeep,notAnc,Blk.spc,opl_sc]; done)))
    (fun rec hr=>autos1_c (prA (fA n) (oA n)) h _ rfl (by rw [hr.params]; rfl) (fun i x hi hx=>yld_of hr (by decide) rfl (by decide) (sl1:=(6,.p x) :: [(1,.p (.ptr [.int .i64 n,.list (il m)])),(2,.ptr 0 0),(3,.ptr 1 0),(5,.ptr 2 0)]) (H0:=HU (prA (fA n) (oA n)) i) (H1:=HU (prA (fA n) (oA n)) (Prot.nx (prA (fA n) (oA n)) i x)) ⟨fun _=>rfl,fun _ _=>rfl⟩ ⟨fun _=>rfl,fun _ _=>rfl⟩ (fun r0=>?_) (fun r0=>?_)) (fun φ hφ=>⟨_,rfl,tbm_len n φ,fun k hk=>⟨φ k,hφ.lt k hk,tbm_get hk⟩⟩) rfl [] ⟨by decide,rfl⟩ (hW ▸ hf)) ?_ ?_
   ·simp only [HU,prA,ancs,List.cons_append,List.nil_append,Nat.reduceAdd,Nat.zero_add]
    refine hk_region fun K hK=>runs_eval tab_ok ?_
    simp only [ev0,evA,evB,evP,fl,gp,tab,simprocAttr,reduceCtorEq,reduceIte]
    refine fin_run trivial (hK _ ?_)<;>clear hK<;>clear K
    refine ⟨rfl,[0,1,2,3,4,5,6,7,8],?_⟩
    simp only [leq,leA,ev0,evA,evB,evP,fl,gp,tab,simprocAttr,reduceCtorEq,reduceIte]<;>first|trivial|trace_state
   ·obtain ⟨v,rfl,hvl,hvn⟩:=hx
    obtain ⟨hi1,hi2⟩:=hi
    have hio:=opl_ok hi2
    simp only [HU,prA,ancs,List.cons_append,List.nil_append,Nat.reduceAdd,Nat.zero_add]
    simp only [fA_il]
    have ei:(if i.length≤1000 then (0:Int) else 9)=0:=if_pos hi1
    rw [ei]
    refine ql (qm ?_)
    refine hk_region fun K hK=>runs_eval tab_ok ?_
    simp only [ev0,evA,evB,evP,fl,gp,tab,simprocAttr,reduceCtorEq,reduceIte,makeSliceA.eq_def,hbl_new]
    refine fin_run ?_ (hK _ ?_)<;>clear hK<;>clear K
    ·omega
    refine qa (qm (qm ?_))
    refine hk_region fun K hK=>runs_eval tab_ok ?_
    simp only [ev0,evA,evB,evP,fl,gp,tab,simprocAttr,reduceCtorEq,reduceIte,il_length,hvl]
    refine fin_run trivial (hK _ ?_)<;>clear hK<;>clear K
    refine qa (ql ?_)
    refine hk_loop (ι:=Nat) (fun k=>⟨49,[(2,.ptr 0 0),(3,.ptr 1 0),(5,.ptr 2 0),(6,.p (.list (il v))),(7,.sl 9 0 n),(25,.p (.list (il v))),(26,.p (.int .i64 n)),(27,.p (.int .i64 k))],[.own [.p .nil],.own [.p (.int .i64 0),.p (.int .i64 0)],.own [.sl 4 0 i.length],.lp r0,.own (opl i),.anc 0 0,.anc 1 1,.anc 2 2,.anc 3 3,.own (opl (hbl n (hits v k)))]⟩) (fun k=>k≤n) (fun k=>n - k) 0 (Nat.zero_le _) [0,1,2,3,4,5,6,7,8,9] (by simp only [show hits v 0=fun _=>false from funext (hits_zero _)]; simp only [leq,leA,ev0,evA,evB,evP,fl,gp,tab,simprocAttr,reduceCtorEq,reduceIte]<;>trivial) fun k hk=>?_
    refine qm ?_
    refine hk_region fun K hK=>runs_eval tab_ok ?_
    simp only [ev0,evA,evB,evP,fl,gp,tab,simprocAttr,reduceCtorEq,reduceIte]
    refine fin_run trivial (hK _ ?_)<;>clear hK<;>clear K
    refine qa (qm ?_)
    refine hk_cond rfl (fun hC3=>?_) (fun hC3=>?_)
    ·(try simp only [nhs] at hC3)
     have hkl:k < n:=by omega
     obtain ⟨y,lv,ev⟩:=hvn k hkl
     refine qh (qa (qm (ql (qm ?_))))
     refine hk_region fun K hK=>runs_eval tab_ok ?_
     simp only [ev0,evA,evB,evP,fl,gp,tab,simprocAttr,reduceCtorEq,reduceIte,il_get (show k < v.length by omega),ev]
     refine fin_run ?_ (hK _ ?_)<;>clear hK<;>clear K
     ·(first|exact trivial|omega|(simp only [In64] at *; omega)|(simp [In64] at *; omega)|(simp_all; done)|skip)
     refine qa ?_
     refine hk_region fun K hK=>runs_eval tab_ok ?_
     simp only [ev0,evA,evB,evP,fl,gp,tab,simprocAttr,reduceCtorEq,reduceIte]
     refine fin_run ?_ (hK _ ?_)<;>clear hK<;>clear K
     ·rw [hbl_len]; omega
     refine qd (qa ?_)
     rw [hbl_set]
     refine hk_region fun K hK=>runs_eval tab_ok ?_
     simp only [ev0,evA,evB,evP,fl,gp,tab,simprocAttr,reduceCtorEq,reduceIte]
     refine fin_run ?_ (hK _ ?_)<;>clear hK<;>clear K
     ·(first|exact trivial|omega|(simp only [In64] at *; omega)|(simp [In64] at *; omega)|(simp_all; done)|skip)
     refine qa ?_
     refine ⟨k + 1,[0,1,2,3,4,5,6,7,8,9],by omega,by omega,?_⟩
     rw [hbl_congr (fun i' _=>hits_succ (l:=v) (by omega) ev i')]
     simp only [leq,leA,ev0,evA,evB,evP,fl,gp,tab,simprocAttr,reduceCtorEq,reduceIte]<;>first|trivial|omega
    ·(try simp only [nhs] at hC3)
     have hkn:k=n:=by omega
     rw [hkn]
     have hon:decide (ixb n (hits v n) ≥ 0)=decide (¬ onto1 v n):=decide_eq_decide.2 (by
      rw [ixb_iff]
      unfold hits onto1
      rw [List.take_of_length_le (by omega)]
      constructor
      ·rintro ⟨z,v1,v2⟩ ho
       exact (of_decide_eq_false v2) (ho.1 z v1)
      ·intro ho
       by_cases hh:∃ z,z < n∧¬ ((z:Nat):Int)∈v
       ·obtain ⟨z,v1,v2⟩:=hh
        exact ⟨z,v1,decide_eq_false v2⟩
       ·exact absurd ⟨fun z hz=>Classical.byContradiction fun h'=>hh ⟨z,hz,h'⟩,hvl⟩ ho)
     refine hk_sealp 7 9 (hbl_all n (hits v n)) (by show AV.sl 9 0 n=AV.sl 9 0 _; rw [hbl_len]) rfl ?_
     refine qj (qc (qc (qf (qa (qm (qm ?_))))))
     refine hk_region fun K hK=>runs_eval tab_ok ?_
     simp only [ev0,evA,evB,evP,fl,gp,tab,simprocAttr,reduceCtorEq,reduceIte]
     refine fin_stop trivial (runs_call (containsB_c n (hits v n) (by omega)) rfl rfl rfl (by simp only [dstOk,Nat.reduceLT]) (by repeat (first|exact trivial|constructor)) (runs_eval tab_ok ?_))
     simp only [ev0,evA,evB,evP,fl,gp,tab,simprocAttr,reduceCtorEq,reduceIte,hon]
     refine fin_run trivial (hK _ ?_)<;>clear hK<;>clear K
     refine qa ?_
     refine hk_cond rfl (fun hC4=>?_) (fun hC4=>?_)
     ·(try simp only [nhs] at hC4)
      have ho:¬ onto1 v n:=by simpa using hC4
      simp only [ho,decide_false,Bool.not_false,Bool.true_or,if_true,Bool.false_eq_true,if_false]
      refine qj (qc (qf ?_))
      refine ⟨rfl,[0,1,2,3,4,5,6,7,8],?_⟩
      rw [ei]
      simp only [leq,leA,ev0,evA,evB,evP,fl,gp,tab,simprocAttr,reduceCtorEq,reduceIte]<;>first|trivial|(simp; done)|trace_state
     ·(try simp only [nhs] at hC4)
      have ho:onto1 v n:=by simpa using hC4
      simp only [ho,decide_true,Bool.not_true,Bool.false_or,if_true]
      refine qh (qa (qm ?_))
      refine hk_region fun K hK=>runs_eval tab_ok ?_
      simp only [ev0,evA,evB,evP,fl,gp,tab,simprocAttr,reduceCtorEq,reduceIte]
      refine fin_run ?_ (hK _ ?_)<;>clear hK<;>clear K
      ·exact ⟨hio,Nat.le_refl _,by omega,by omega⟩
      refine qa (qm ?_)
      refine hk_region fun K hK=>runs_eval tab_ok ?_
      simp only [ev0,evA,evB,evP,fl,gp,tab,simprocAttr,reduceCtorEq,reduceIte]
      refine fin_run ?_ (hK _ ?_)<;>clear hK<;>clear K
      ·(first|exact trivial|omega|(simp only [In64] at *; omega)|(simp [In64] at *; omega)|(simp_all; done)|skip)
      refine qa ?_
      refine hk_cond rfl (fun hC5=>?_) (fun hC5=>?_)
      ·(try simp only [nhs] at hC5)
       refine qm ?_
       refine hk_region fun K hK=>runs_eval tab_ok ?_
       simp only [ev0,evA,evB,evP,fl,gp,tab,simprocAttr,reduceCtorEq,reduceIte]
       refine fin_stop trivial (runs_call (homFlt_c 9 0) rfl rfl rfl (by simp only [dstOk,Nat.reduceLT]) (by repeat (first|exact trivial|constructor)) (runs_eval tab_ok ?_))
       simp only [ev0,evA,evB,evP,fl,gp,tab,simprocAttr,reduceCtorEq,reduceIte]
       refine fin_run ?_ (hK _ ?_)<;>clear hK<;>clear K
       ·(first|exact trivial|omega|(simp only [In64] at *; omega)|(simp [In64] at *; omega)|(simp_all; done)|skip)
       refine qa (qk (qe ?_))
       have e9:¬ (i++[PV.list (il v)]).length≤1000:=by simp; omega
       refine ⟨by rw [if_neg (by simp; omega)],[0,1,2,3,10,5,6,7,8],?_⟩
       rw [if_neg e9]
       simp only [leq,leA,ev0,evA,evB,evP,fl,gp,tab,simprocAttr,reduceCtorEq,reduceIte]<;>first|trivial|(simp; done)|trace_state
      ·(try simp only [nhs] at hC5)
       refine qh (qd ?_)
       have e9:(i++[PV.list (il v)]).length≤1000:=by simp; omega
       refine ⟨by rw [if_pos (by simp; omega)],[0,1,2,3,10,5,6,7,8],?_⟩
       rw [if_pos e9]
       simp only [leq,leA,ev0,evA,evB,evP,fl,gp,tab,simprocAttr,reduceCtorEq,reduceIte]<;>first|trivial|(simp; done)|trace_state
   ·intro hbt
    have hw:X.length≤1000:=Classical.byContradiction fun hw=>by rw [(hj2 hw).1] at hbt; cases hbt
    obtain ⟨_,hjW⟩:=hj1 hw
    subst hjW
    simp only [hw,if_true]
    simp only [HU,prA,ancs,List.cons_append,List.nil_append,Nat.reduceAdd,Nat.zero_add]
    refine qd (qa (hr_seqH ?_))
    refine hk_region fun K hK=>runs_eval tab_ok ?_
    simp only [ev0,evA,evB,evP,fl,gp,tab,simprocAttr,reduceCtorEq,reduceIte]
    refine fin_stop ?_ (runs_callM [4] (sortL_c hne (by omega) (fun v hv=>by
     rw [hX] at hv
     have hv:=(List.mem_filter.1 hv).1
     rw [hW] at hv
     obtain ⟨φ,_,rfl⟩:=hsq_mem _ _ v hv
     rw [tbm_len]; omega) hperm hs) rfl rfl ?_ (by simp only [leA,ev0,evA,evB,evP,fl,gp,tab,simprocAttr,reduceCtorEq,reduceIte]; first|trivial|(simp only [ll_takeL]; first|trivial|(repeat constructor; done))|(repeat constructor)) (by decide) (by first|rfl|(simp only [List.length_cons,List.length_nil,List.length_append]; decide)) (by first|rfl|(simp only [scM,opl_sc,List.all_cons,List.all_nil,List.length_cons,List.length_nil]; first|rfl|decide)|(simp [scM,scA,sc1,mpKeep,notAnc]; done)) (by simp only [dstOk,Nat.reduceLT]) (runs_eval tab_ok ?_))
    ·(first|exact trivial|omega|(simp only [In64] at *; omega)|(simp [In64] at *; omega)|(simp_all; done)|skip)
    ·(simp only [argsM,argM1,peekG,peekS,scA,sc1,ren,ren1,List.map_cons,List.map_nil,List.append_nil,List.cons_append,List.nil_append,enA,ev0,evA,evB,evP,fl,gp,tab,simprocAttr,reduceCtorEq,reduceIte]; try trivial)
    simp only [putM,hset,List.range',Blk.ren,ren,ren1,List.map_cons,List.map_nil,List.cons_append,List.nil_append,List.append_nil,List.length_cons,List.length_nil,ev0,evA,evB,evP,fl,gp,tab,simprocAttr,reduceCtorEq,reduceIte]
    refine fin_run ?_ (hK _ ?_)<;>clear hK<;>clear K
    ·(first|exact trivial|omega|(simp only [In64] at *; omega)|(simp [In64] at *; omega)|(simp_all; done)|skip)
    refine qa (hr_seqH ?_)
    refine hk_region fun K hK=>runs_eval tab_ok ?_
    simp only [ev0,evA,evB,evP,fl,gp,tab,simprocAttr,reduceCtorEq,reduceIte]
    refine fin_run ?_ (hK _ ?_)<;>clear hK<;>clear K
    ·(first|exact trivial|omega|(simp only [In64] at *; omega)|(simp [In64] at *; omega)|(simp_all; done)|skip)
    refine qa (hr_of_hk (qk ?_))
    simp only [Tryd.results13,enA,ev0,evA,evB,evP,fl,gp,tab,simprocAttr,reduceCtorEq,reduceIte]
    rw [htk]
    exact ⟨⟨by omega,ll_all _⟩,rfl⟩
   ·intro hbf
    have hw:¬ X.length≤1000:=fun hw=>by rw [(hj1 hw).1] at hbf; cases hbf
    have hj3:=(hj2 hw).2
    simp only [hw,if_false]
    simp only [HU,prA,ancs,List.cons_append,List.nil_append,Nat.reduceAdd,Nat.zero_add,hj3,if_false]
    refine qe (qb ?_)
    simp only [Tryd.results13,enA,ev0,evA,evB,evP,fl,gp,tab,simprocAttr,reduceCtorEq,reduceIte]
    all_goals (trace_state)
end
end Go.Proofs.YtboadfahlflmhaaDoor

/-
  The builtin clear, over a row of the call's own. Conditions: none; a library text.
-/
set_option linter.all false
namespace Go.Pv
open Go.RowKit

section
variable {P:Program} {T:TypeId→Option TI} {s:St}
/-- What is cleared. -/
def clrC (c:List AV) (lo len:Nat) (z:Value):List AV:=c.take lo++List.replicate len (cv z)++c.drop (lo + len)
theorem setC_rep (c:List AV) (lo len:Nat) (z:Value) (h:lo + len≤c.length):setC c lo (List.replicate len (cv z))=clrC c lo len z:=by
 unfold setC clrC
 split
 ·rename_i x hx
  have hl:len=1:=by have:=congrArg List.length hx; simpa using this
  subst hl
  obtain rfl:cv z=x:=by simpa using hx
  rw [List.set_eq_take_append_cons_drop,if_pos (by omega)]
  simp
 ·simp
theorem clear_does (hT:∀ t ti,T t=some ti→tiOf P t=some ti) {o:Oper} {t:TypeId} {x:Operand} (ho:o.op = .call { callee:=.builtin .clear,args:=#[x],argTypes:=#[t] }) {ti te:TI} (ht:T t=some ti) {e:TypeId} (hk:ti.kind = .slice e) (hte:T e=some te) {z:Value} (hz:te.zero=[z]) (hz1:z.oneCell' = true)
  {k lo len:Nat} {c:List AV} (hx:s.ev x = .sl k lo len) (hg:hget s.H k = .own c) (hle:lo + len≤c.length):DoesW P o s (.p (.tup [])) (hset s.H k (.own (clrC c lo len z))):=by
 intro C m a w K Q R hK
 obtain ⟨dst,op,type,pos,after,guard⟩:=o
 simp only at ho
 subst ho
 have hu:=ti_slice (hT _ _ ht) hk
 obtain ⟨i,d,z',h1,h2,h3,h4,h5,h6,h7,h8⟩:=tiOf_parts (hT _ _ hte)
 have hzc:z'.cells = #[z]:=by
  rw [hz] at h6
  have:=congrArg List.toArray h6
  simpa using this
 have hv:=R.ev x
 rw [hx] at hv
 have hset0:∀ (m' : Map) (w' : World),hset s.H k (.own c)=s.H:=fun _ _=>by
  refine List.ext_getElem? fun j=>?_
  rw [hset_get]
  split
  ·rename_i hj
   rw [← hget_mut hg,hj.1]
  ·rfl
 refine opR_of_wp (by rfl) ?_
 unfold Oper.wp
 generalize hvx:a.eval x=v at hv
 have main:∀ w',(execOp a.eval { dst:=dst,op:=.call { callee:=.builtin .clear,args:=#[x],argTypes:=#[t] },type:=type,pos:=pos,after:=after,guard:=guard }).run P w = .ok (.value (.tuple #[])) w'→Rel C m { s with H:=hset s.H k (.own (clrC c lo len z)) } a.tmps w' →
   (match (execOp a.eval { dst:=dst,op:=.call { callee:=.builtin .clear,args:=#[x],argTypes:=#[t] },type:=type,pos:=pos,after:=after,guard:=guard }).run P w with | r=>True)→True:=fun _ _ _ _=>trivial
 by_cases h0:len=0
 ·have hrun:(execOp a.eval { dst:=dst,op:=.call { callee:=.builtin .clear,args:=#[x],argTypes:=#[t] },type:=type,pos:=pos,after:=after,guard:=guard }).run P w = .ok (.value (.tuple #[])) w:=by
   subst h0
   have:∃ ad cap,v = .slice ad 0 cap:=by
    cases hv with
    | sl _ _ _ _ _ hs =>
     rcases hs with ⟨_,ad,rfl⟩ | ⟨l',cap,_,rfl,_⟩
     ·exact ⟨_,_,rfl⟩
     ·exact ⟨_,_,rfl⟩
   obtain ⟨ad,cap,rfl⟩:=this
   have hc:(Builtin.clear_ #[t] type #[.slice ad 0 cap]).run P w = .ok (.tuple #[]) w:=by
    cases ad<;>simp [Builtin.clear_,run_underlying hu]
   simp only [BigFrame.execOp_builtin,BigFrame.builtin_clear,List.map_toArray,List.map_cons,List.map_nil,hvx,Sem.run_bind,hc,Result.andThen_ok,Sem.run_pure]
  rw [hrun]
  have e:clrC c lo len z=c:=by subst h0; simp [clrC]
  rw [e,hset0 m w] at hK
  exact hK _ m w R (.p _ _ (.tup _ _ rfl (fun c h=>by simp at h)))
 ·cases hv with
  | sl _ _ _ _ hkl hs =>
   rcases hs with ⟨hn,_⟩ | ⟨l,cap,hm,rfl,hc1,hc2⟩
   ·exact absurd hn h0
   ·rcases R.blk k c (hget_mut hg) with ⟨_,hn⟩ | ⟨l',cur,e',hm2,hB,hh,hs1,hs3,hs2,hcells⟩
    ·rw [hm] at hn; cases hn
    ·rw [hm] at hm2; cases hm2
     have hst:=run_storeCells_at P l.g (l.o + lo) e' (List.replicate len z) 0 cur w hh (by simp; omega) (fun v hv=>by rw [List.eq_of_mem_replicate hv]; exact hz1)
     simp only [Nat.add_zero,List.length_replicate] at hst
     have hzl:(Builtin.zeroCells z'.cells len).toList=List.replicate len z:=by
      rw [hzc]
      simp [Builtin.zeroCells]
      refine List.ext_getElem (by simp) fun i h1 h2=>by simp [Nat.mod_one]
     obtain ⟨len',rfl⟩:∃ q,len=q + 1:=⟨len - 1,by omega⟩
     have hc:(Builtin.clear_ #[t] type #[.slice (some ⟨l.g,l.o + lo,none⟩) (len' + 1) cap]).run P w = .ok (.tuple #[]) (w.setRow l.g (cur.toList.take (l.o + lo)++List.replicate (len' + 1) z++cur.toList.drop (l.o + lo + (len' + 1))).toArray):=by
      simp [Builtin.clear_,run_underlying hu,zeroValue,h1,h3,hzl,hst,typeInfo]
     have hrun:(execOp a.eval { dst:=dst,op:=.call { callee:=.builtin .clear,args:=#[x],argTypes:=#[t] },type:=type,pos:=pos,after:=after,guard:=guard }).run P w = .ok (.value (.tuple #[])) (w.setRow l.g (cur.toList.take (l.o + lo)++List.replicate (len' + 1) z++cur.toList.drop (l.o + lo + (len' + 1))).toArray):=by
      simp only [BigFrame.execOp_builtin,BigFrame.builtin_clear,List.map_toArray,List.map_cons,List.map_nil,hvx,Sem.run_bind,hc,Result.andThen_ok,Sem.run_pure]
     rw [hrun]
     have g3:lo + (List.replicate (len' + 1) (cv z)).length≤c.length:=by simpa using hle
     refine hK _ m _ ?_ (.p _ _ (.tup _ _ rfl (fun c h=>by simp at h)))
     rw [← setC_rep c lo (len' + 1) z hle]
     refine R.setBlk (hget_mut hg) hm ?_ ?_ (setRow_heap w l.g cur _ e' _ hh) ?_ ?_ ?_
     ·exact ⟨rfl,rfl,rfl,by simp [World.setRow],fun b hb=>setRow_other w l.g b _ (fun e=>hb (by rw [e]; exact hB)),Nat.le_refl _⟩
     ·exact fun b hb=>setRow_other w l.g b _ hb
     ·simp only [List.size_toArray,List.length_append,List.length_take,List.length_drop,Array.length_toList,List.length_replicate]
      omega
     ·rw [setC_length _ _ _ g3]; exact hs2
     ·refine setC_val g3 (fun j hj hn=>?_) fun j hj=>?_
      ·have:=@stored_getD cur (List.replicate (len' + 1) z) (l.o + lo) (l.o + j) (by simp; omega)
       simp only [List.length_replicate] at this hn
       rw [this,if_neg (by omega)]
       exact hcells j hj
      ·have:=@stored_getD cur (List.replicate (len' + 1) z) (l.o + lo) (l.o + (lo + j)) (by simp; omega)
       simp only [List.length_replicate] at this hj
       rw [this,if_pos (by omega),List.getElem_replicate]
       have e2:(List.replicate (len' + 1) z).getD (l.o + (lo + j) - (l.o + lo)) undef=z:=by
        simp only [List.getD,List.getElem?_replicate]
        rw [if_pos (by omega)]; rfl
       rw [e2]
       exact cv_val _
end
end Go.Pv

/-
  All subgroups, as the program has them: AllOf, All, Frattini. Conditions: none.
-/
set_option linter.all false
namespace Go.Proofs.YtboadfahlflmhaaDoor
open Go.Pv

theorem getD_memN {L:List Nat} {j:Nat} (hj:j < L.length):L.getD j 0∈L:=by
 rw [List.getD_eq_getElem?_getD,List.getElem?_eq_getElem hj]; exact List.getElem_mem hj
theorem mem_getDN {L:List Nat} {x:Nat} (hx:x∈L):∃ j,j < L.length∧L.getD j 0=x:=by
 obtain ⟨j,hj,rfl⟩:=List.getElem_of_mem hx
 exact ⟨j,hj,by rw [List.getD_eq_getElem?_getD,List.getElem?_eq_getElem hj]; rfl⟩

section
variable {n e:Nat} {m:List Int}

/-- Where the search stands: at row i, things below a are done. -/
structure Srch (n:Nat) (f:Nat→Nat→Nat) (e:Nat) (i:Nat) (L:List Nat):Prop where
 inv:AllI n f e L
 done:∀ j,j < i→∀ a,a < n→Dn n f e (L.getD j 0) a L

end
end Go.Proofs.YtboadfahlflmhaaDoor

/-
  All subgroups in lists: All; what no set needs: Frattini. Conditions: none.
-/
set_option linter.all false
namespace Go.Proofs.YtboadfahlflmhaaDoor
open Go.Pv

def sll (SL:List Nat):List (List Int):=SL.map stl
theorem sll_get {SL:List Nat} {i:Nat} (hi:i < SL.length):(sll SL).getD i []=stl (SL.getD i 0):=by
 simp [sll,List.getD,List.getElem?_eq_getElem hi]
section
variable {n e:Nat} {m:List Int}
end
end Go.Proofs.YtboadfahlflmhaaDoor

/-
  What no set needs: Frattini. Conditions: none.
-/
set_option linter.all false
namespace Go.Proofs.YtboadfahlflmhaaDoor
open Go.Pv

def andn (a b:Nat):Nat:=(BitVec.ofInt 64 (a:Int) &&& ~~~(BitVec.ofInt 64 (b:Int))).toNat
theorem andn_zero {a b:Nat} (ha:a < 2 ^ 64) (hb:b < 2 ^ 64):andn a b=0↔∀ i,a.testBit i=true→b.testBit i=true:=by
 have key:∀ i,i < 64→(andn a b).testBit i=(a.testBit i && !b.testBit i):=fun i hi=>by
  unfold andn
  rw [BitVec.testBit_toNat,BitVec.getLsbD_and,BitVec.getLsbD_not,← BitVec.testBit_toNat,← BitVec.testBit_toNat,ofInt_n ha,ofInt_n hb]
  simp [hi]
 constructor
 ·intro h i hi
  have hl:=bit_lt ha hi
  have:=key i hl
  rw [h,Nat.zero_testBit,hi] at this
  simpa using this
 ·intro h
  refine Nat.eq_of_testBit_eq fun i=>?_
  rw [Nat.zero_testBit]
  by_cases hl:i < 64
  ·rw [key i hl]
   cases ha' : a.testBit i with
   | false=>rfl
   | true=>rw [h i ha']; rfl
  ·exact Nat.testBit_lt_two_pow (Nat.lt_of_lt_of_le (BitVec.isLt _) (Nat.pow_le_pow_right (by omega) (Nat.le_of_not_lt hl)))

/-! ### Rows of sets -/

/-! ### Frattini -/

/-- t is another set that has all of s. -/
def ovr (s t:Nat):Bool:=decide (¬ s=t) && decide (andn s t=0)
/-- Row i has no other one over it, but the last. -/
def mxr (SL:List Nat) (i:Nat):Bool:=!decide (∃ j,j < SL.length - 1∧(i < j∧ovr (SL.getD i 0) (SL.getD j 0)=true))
section
variable {n e:Nat} {m:List Int}
end
end Go.Proofs.YtboadfahlflmhaaDoor

/-
  Walks: the law SubProducts. Conditions: none.
-/
set_option linter.all false
namespace Go.Proofs.YtboadfahlflmhaaDoor
open Go.Pv

end Go.Proofs.YtboadfahlflmhaaDoor

/-
  Walks: the law SubMeets. Conditions: none.
-/
set_option linter.all false
namespace Go.Proofs.YtboadfahlflmhaaDoor
open Go.Pv

theorem AllS.len {n e:Nat} {f:Nat→Nat→Nat} {SL:List Nat} (h:AllS n f e SL) (hn:n≤24):SL.length≤16777216:=by
 have h1:SL.length≤2 ^ n:=nodup_lt h.nodup fun x hx=>by
  obtain ⟨p,_,rfl⟩:=h.subs x hx
  exact bo_lt n p
 have h24:2 ^ n≤16777216:=Nat.le_trans (Nat.pow_le_pow_right (by omega) hn) (by decide)
 omega
theorem AllS.row {n e:Nat} {f:Nat→Nat→Nat} {SL:List Nat} (h:AllS n f e SL) (hn:n≤60) {i:Nat} (hi:i < SL.length):∃ p,Sub n f e p∧(sll SL).getD i []=thl n p:=by
 obtain ⟨p,hp,hx⟩:=h.subs _ (getD_memN hi)
 exact ⟨p,hp,by rw [sll_get hi,hx,stl_bo hn]⟩
theorem AllS.at {n e:Nat} {f:Nat→Nat→Nat} {SL:List Nat} (h:AllS n f e SL) (hn:n≤60) {p:Nat→Bool} (hp:Sub n f e p):∃ i,i < SL.length∧(sll SL).getD i []=thl n p:=by
 obtain ⟨i,hi,hx⟩:=mem_getDN (h.all p hp)
 exact ⟨i,hi,by rw [sll_get hi,hx,stl_bo hn]⟩
section
variable {n e:Nat} {m:List Int}
end
end Go.Proofs.YtboadfahlflmhaaDoor

/-
  Walks: the law SubNeedless. Conditions: none.
-/
set_option linter.all false
namespace Go.Proofs.YtboadfahlflmhaaDoor
open Go.Pv

theorem AllS.pos {n e:Nat} {f:Nat→Nat→Nat} {SL:List Nat} (G:Grp n f e) (h:AllS n f e SL):0 < SL.length:=List.length_pos_of_mem (h.all _ G.onp_sub)
theorem AllS.pair {n e:Nat} {f:Nat→Nat→Nat} {SL:List Nat} (h:AllS n f e SL) {i j:Nat} (hij:i < j) (hj:j < SL.length):cmpS (stl (SL.getD i 0)) (stl (SL.getD j 0)) < 0:=by
 have:=(List.pairwise_iff_getElem.1 h.rise) i j (by omega) hj hij
 simpa [List.getD,List.getElem?_eq_getElem hj,List.getElem?_eq_getElem (show i < SL.length by omega)] using this
theorem all_len (n:Nat):(thl n fun _=>true).length=n:=by rw [thl_len]; unfold thn'; rw [List.filter_eq_self.2 fun _ _=>rfl,List.length_range]
theorem len_all {n:Nat} {p:Nat→Bool} (h:¬ (thl n p).length < n):∀ y,y < n→p y=true:=by
 intro y hy
 cases hp:p y with
 | true=>rfl
 | false =>
  exfalso
  have:=mem_lt (n:=n) (p:=fun _=>true) (q:=p) (fun _ _ _=>rfl) (fun hh=>by have:=hh y hy; rw [hp] at this; cases this)
  have e1:(thl n p).length=(mem n p).length:=thl_len _ _
  have e2:(mem n fun _=>true).length=n:=by unfold mem; rw [List.filter_eq_self.2 fun _ _=>rfl,List.length_range]
  omega
theorem AllS.last {n e:Nat} {f:Nat→Nat→Nat} {SL:List Nat} (G:Grp n f e) (h:AllS n f e SL) (hn:n≤60):SL.getD (SL.length - 1) 0=bo n fun _=>true:=by
 have hpos:=h.pos G
 obtain ⟨t,ht,hx⟩:=mem_getDN (h.all _ G.all_sub)
 by_cases htl:t=SL.length - 1
 ·rw [← htl]; exact hx
 ·exfalso
  have hp:=h.pair (i:=t) (j:=SL.length - 1) (by omega) (by omega)
  obtain ⟨p,_,hpl⟩:=h.subs _ (getD_memN (show SL.length - 1 < SL.length by omega))
  rw [hx,hpl,stl_bo hn,stl_bo hn,cmpS_lt,all_len] at hp
  have:=thl_le n p
  rcases hp with hp | ⟨hp,hp2⟩
  ·omega
  ·have:thl n p=thl n fun _=>true:=thl_congr fun y hy=>len_all (by omega) y hy
   rw [this,cmpL_self] at hp2; omega
theorem ovr_bo {n:Nat} (hn:n≤60) (p q:Nat→Bool):ovr (bo n p) (bo n q)=true↔(¬ ∀ a,a < n→p a=q a)∧∀ a,a < n→p a=true→q a=true:=by
 unfold ovr
 rw [Bool.and_eq_true,decide_eq_true_eq,decide_eq_true_eq,andn_zero (bo_lt64 hn p) (bo_lt64 hn q)]
 refine and_congr (not_congr ⟨fun h a ha=>bo_inj h ha,fun h=>bo_congr h⟩) ⟨fun h a ha hp=>?_,fun h i hi=>?_⟩
 ·have:=h a (by rw [bo_bit]; simp [ha,hp])
  rw [bo_bit] at this; simpa [ha] using this
 ·rw [bo_bit,Bool.and_eq_true,decide_eq_true_eq] at hi ⊢
  exact ⟨hi.1,h i hi.1 hi.2⟩

section
variable {n e:Nat} {m:List Int}
/-- A subgroup that is not all stands in one that nothing but all stands over. -/
theorem AllS.max {f:Nat→Nat→Nat} {SL:List Nat} (G:Grp n f e) (h:AllS n f e SL) (hn:n≤60) {r:Nat→Bool} (hr:Sub n f e r) (hne:¬ ∀ a,a < n→r a=true) :
  ∃ i p,i < SL.length - 1∧SL.getD i 0=bo n p∧Sub n f e p∧mxr SL i=true∧(∀ a,a < n→r a=true→p a=true)∧¬ ∀ a,a < n→p a=true:=by
 have hpos:=h.pos G
 have hlast:=h.last G hn
 have notlast:∀ i p,i < SL.length→SL.getD i 0=bo n p→(¬ ∀ a,a < n→p a=true)→i < SL.length - 1:=fun i p hi hx hp=>by
  by_cases hil:i=SL.length - 1
  ·exfalso
   rw [hil,hlast] at hx
   exact hp fun a ha=>(bo_inj hx ha).symm
  ·omega
 have go:∀ c i p,SL.length - i≤c→i < SL.length→SL.getD i 0=bo n p→Sub n f e p→(∀ a,a < n→r a=true→p a=true)→(¬ ∀ a,a < n→p a=true) →
   ∃ i p,i < SL.length - 1∧SL.getD i 0=bo n p∧Sub n f e p∧mxr SL i=true∧(∀ a,a < n→r a=true→p a=true)∧¬ ∀ a,a < n→p a=true:=by
  intro c
  induction c with
  | zero=>intro i p hc hi; omega
  | succ c ih =>
   intro i p hc hi hx hp hrp hpn
   cases hm:mxr SL i with
   | true=>exact ⟨i,p,notlast i p hi hx hpn,hx,hp,hm,hrp,hpn⟩
   | false =>
    unfold mxr at hm
    rw [Bool.not_eq_false',decide_eq_true_eq] at hm
    obtain ⟨j,j1,j2,j3⟩:=hm
    obtain ⟨q,hq,hqx⟩:=h.subs _ (getD_memN (show j < SL.length by omega))
    rw [hx,hqx,ovr_bo hn] at j3
    refine ih j q (by omega) (by omega) hqx hq (fun a ha h1=>j3.2 a ha (hrp a ha h1)) fun hall=>?_
    have:j=SL.length - 1:=by
     by_cases hjl:j < SL.length - 1
     ·exfalso
      have hpq:=h.pair (i:=j) (j:=SL.length - 1) hjl (by omega)
      rw [hlast,hqx,bo_congr (q:=fun _=>true) (fun a ha=>hall a ha)] at hpq
      exact cmpS_self _ hpq
     ·omega
    omega
 obtain ⟨i,hi,hx⟩:=mem_getDN (h.all r hr)
 exact go _ i r (Nat.le_refl _) hi hx hr (fun a _ h=>h) hne
end
end Go.Proofs.YtboadfahlflmhaaDoor

/-
  All subgroups as the document has them: from cyclic ones on, by what two make; put in order. Conditions: none.
-/
set_option linter.all false
namespace Go.Proofs.YtboadfahlflmhaaDoor
open Go.Pv

theorem oll_get {ls:List (List Int)} {i:Nat} (hlt:i < ls.length) (d:AV):(opl (ll ls)).getD i d = .p (.list (il (ls.getD i []))):=by simp [opl,ll,List.getD,List.getElem?_eq_getElem hlt]
end Go.Proofs.YtboadfahlflmhaaDoor

/-
  Walks: rows without doubles. Conditions: none.
-/
set_option linter.all false
namespace Go.Proofs.YtboadfahlflmhaaDoor
open Go.Pv

section
variable {α:Type} [DecidableEq α]
/-- A row without what repeats what stands ahead of it. -/
def cpN (d:α) (xs:List α) (k:Nat):List α:=((List.range k).filter fun j=>j == 0 || decide (xs.getD j d ≠ xs.getD (j - 1) d)).map fun j=>xs.getD j d
def cps (d:α) (xs:List α):List α:=cpN d xs xs.length
theorem cpN_succ (d:α) (xs:List α) (k:Nat):cpN d xs (k + 1)=if k=0∨xs.getD k d ≠ xs.getD (k - 1) d then cpN d xs k++[xs.getD k d] else cpN d xs k:=by
 unfold cpN
 rw [List.range_succ,List.filter_append,List.map_append]
 by_cases h:k=0∨xs.getD k d ≠ xs.getD (k - 1) d
 ·rw [if_pos h]
  congr 1
  rw [List.filter_cons_of_pos (by
   simp only [Bool.or_eq_true,beq_iff_eq,decide_eq_true_eq]
   exact h)]
  rfl
 ·rw [if_neg h]
  rw [List.filter_cons_of_neg (by
   simp only [Bool.or_eq_true,beq_iff_eq,decide_eq_true_eq]
   exact h)]
  simp
/-- Up to the first double. -/
theorem cpN_take (d:α) (xs:List α) {k:Nat} (hk:k < xs.length) (h:cpN d xs k=xs.take k) (hd:k=0∨xs.getD k d ≠ xs.getD (k - 1) d):cpN d xs (k + 1)=xs.take (k + 1):=by
 rw [cpN_succ,if_pos hd,h,List.take_succ_eq_append_getElem hk]
 simp [List.getD,List.getElem?_eq_getElem hk]

/-- Within: what stands so far. -/
structure CpS (d:α) (xs:List α) (i0 k:Nat) (R:List α) (i:Nat):Prop where
 len:R.length=xs.length
 tk:R.take i=cpN d xs (i0 + k)
 il:(cpN d xs (i0 + k)).length=i
 lt:0 < i∧i + 1≤i0 + k
 le:i0 + k≤xs.length
 same:∀ j,i0 + k≤j + 1→j < xs.length→R.getD j d=xs.getD j d

theorem CpS.begin {d:α} {xs:List α} {i:Nat} (hi:i + 1 < xs.length) (h:cpN d xs (i + 1)=xs.take (i + 1)) (hd:xs.getD (i + 1) d=xs.getD i d):CpS d xs (i + 1) 1 xs (i + 1):=by
 have e:cpN d xs (i + 1 + 1)=xs.take (i + 1):=by
  rw [cpN_succ,if_neg (by simpa using hd),h]
 exact ⟨rfl,e.symm,by rw [e]; simp; omega,by omega,by omega,fun _ _ _=>rfl⟩
theorem CpS.skip {d:α} {xs R:List α} {i0 k i:Nat} (h:CpS d xs i0 k R i) (hk:i0 + k < xs.length) (hd:R.getD (i0 + k) d=R.getD (i0 + k - 1) d):CpS d xs i0 (k + 1) R i:=by
 have hl:=h.lt
 rw [h.same _ (by omega) hk,h.same _ (by omega) (by omega)] at hd
 have e:cpN d xs (i0 + (k + 1))=cpN d xs (i0 + k):=by
  rw [← Nat.add_assoc,cpN_succ,if_neg]
  rintro (h1 | h1)
  ·omega
  ·exact h1 hd
 exact ⟨h.len,by rw [e]; exact h.tk,by rw [e]; exact h.il,by omega,by omega,fun j h1 h2=>h.same j (by omega) h2⟩
theorem CpS.keep {d:α} {xs R:List α} {i0 k i:Nat} (h:CpS d xs i0 k R i) (hk:i0 + k < xs.length) (hd:R.getD (i0 + k) d ≠ R.getD (i0 + k - 1) d):CpS d xs i0 (k + 1) (R.set i (R.getD (i0 + k) d)) (i + 1):=by
 have hl:=h.lt
 have e0:=h.same (i0 + k) (by omega) hk
 rw [e0] at hd ⊢
 rw [h.same _ (by omega) (by omega)] at hd
 have e:cpN d xs (i0 + (k + 1))=cpN d xs (i0 + k)++[xs.getD (i0 + k) d]:=by
  rw [← Nat.add_assoc,cpN_succ,if_pos (.inr hd)]
 have hiR:i < R.length:=by rw [h.len]; omega
 refine ⟨by rw [List.length_set]; exact h.len,?_,by rw [e,List.length_append,h.il]; rfl,by omega,by omega,fun j h1 h2=>?_⟩
 ·rw [e,← h.tk,List.take_succ_eq_append_getElem (by rw [List.length_set]; exact hiR),List.take_set_of_le (Nat.le_refl _)]
  simp
 ·have hne:i ≠ j:=by omega
  rw [← h.same j (by omega) h2]
  simp only [List.getD,List.getElem?_set_ne hne]
end

theorem equal_c (v w:List Int) (hl:v.length≤1000000) (hw:w.length≤1000000):FnC Tryd.prog 86 [.list (il v),.list (il w)] (.bool (decide (v=w))):=by
 refine fnc_of tab_ok Tryd.func86 rfl (by kernel_rfl) (by rw [Tryd.ntmps86]; exact Nat.le_add_left 2 _) ?_; rw [Tryd.ntmps86]
 refine qm ?_
 refine hk_region fun K hK=>runs_eval tab_ok ?_
 simp only [ev0,evA,evB,evP,fl,gp,tab,simprocAttr,reduceCtorEq,reduceIte]
 refine fin_run trivial (hK _ ?_)<;>clear hK<;>clear K
 refine qa (qm (qm ?_))
 refine hk_region fun K hK=>runs_eval tab_ok ?_
 simp only [ev0,evA,evB,evP,fl,gp,tab,simprocAttr,reduceCtorEq,reduceIte,il_length]
 refine fin_run trivial (hK _ ?_)<;>clear hK<;>clear K
 refine qa ?_
 refine hk_cond rfl (fun hC1=>?_) (fun hC1=>?_)
 ·(try simp only [nhs] at hC1)
  have hne:v ≠ w:=fun h=>hC1 (by rw [h])
  refine qm ?_
  refine hk_region fun K hK=>runs_eval tab_ok ?_
  simp only [ev0,evA,evB,evP,fl,gp,tab,simprocAttr,reduceCtorEq,reduceIte]
  refine fin_run trivial (hK _ ?_)<;>clear hK<;>clear K
  refine qa (qk (qb ?_))
  simp only [Tryd.results86,enA,ev0,evA,evB,evP,fl,gp,tab,simprocAttr,reduceCtorEq,reduceIte]
  all_goals (simp [hne])
 ·(try simp only [nhs] at hC1)
  refine qh (qa (qm (qm ?_)))
  refine hk_region fun K hK=>runs_eval tab_ok ?_
  simp only [ev0,evA,evB,evP,fl,gp,tab,simprocAttr,reduceCtorEq,reduceIte,il_length]
  refine fin_run trivial (hK _ ?_)<;>clear hK<;>clear K
  refine qa (ql ?_)
  refine hk_loop (ι:=Nat) (fun k=>⟨26,[(0,.p (.list (il v))),(1,.p (.list (il w))),(12,.p (.int .i64 v.length)),(13,.p (.int .i64 k))],[]⟩) (fun k=>k≤v.length∧∀ j,j < k→v.getD j 0=w.getD j 0) (fun k=>v.length - k) 0 ⟨Nat.zero_le _,fun j hj=>absurd hj (Nat.not_lt_zero _)⟩ [] (by simp only [leq,leA,ev0,evA,evB,evP,fl,gp,tab,simprocAttr,reduceCtorEq,reduceIte]<;>trivial) fun k hk=>?_
  obtain ⟨hk1,hk2⟩:=hk
  refine qm ?_
  refine hk_region fun K hK=>runs_eval tab_ok ?_
  simp only [ev0,evA,evB,evP,fl,gp,tab,simprocAttr,reduceCtorEq,reduceIte]
  refine fin_run trivial (hK _ ?_)<;>clear hK<;>clear K
  refine qa (qm ?_)
  refine hk_cond rfl (fun hC2=>?_) (fun hC2=>?_)
  ·(try simp only [nhs] at hC2)
   have hkl:k < v.length:=by omega
   refine qh (qa (qm (ql (qm ?_))))
   refine hk_region fun K hK=>runs_eval tab_ok ?_
   simp only [ev0,evA,evB,evP,fl,gp,tab,simprocAttr,reduceCtorEq,reduceIte]
   refine fin_run trivial (hK _ ?_)<;>clear hK<;>clear K
   refine qa (qm ?_)
   refine hk_draw mixed (by kernel_rfl) fun K hK=>runs_eval tab_ok ?_
   simp only [ev0,evA,evB,evP,fl,gp,tab,simprocAttr,reduceCtorEq,reduceIte,il_get (show k < v.length by omega),il_get (show k < w.length by omega)]
   refine fin_run ?_ (hK _ ?_)<;>clear hK<;>clear K
   ·(first|exact trivial|omega|(simp only [In64] at *; omega)|(simp [In64] at *; omega)|(simp_all; done)|skip)
   refine qa ?_
   refine hk_cond rfl (fun hC3=>?_) (fun hC3=>?_)
   ·(try simp only [nhs] at hC3)
    have hne:v ≠ w:=fun h=>hC3 (by rw [h])
    refine qm ?_
    refine hk_region fun K hK=>runs_eval tab_ok ?_
    simp only [ev0,evA,evB,evP,fl,gp,tab,simprocAttr,reduceCtorEq,reduceIte]
    refine fin_run trivial (hK _ ?_)<;>clear hK<;>clear K
    refine qa (qk (qe (qb (qb (qe (qb ?_))))))
    simp only [Tryd.results86,enA,ev0,evA,evB,evP,fl,gp,tab,simprocAttr,reduceCtorEq,reduceIte]
    all_goals (simp [hne])
   ·(try simp only [nhs] at hC3)
    refine qh (qd (qa ?_))
    refine hk_region fun K hK=>runs_eval tab_ok ?_
    simp only [ev0,evA,evB,evP,fl,gp,tab,simprocAttr,reduceCtorEq,reduceIte]
    refine fin_run ?_ (hK _ ?_)<;>clear hK<;>clear K
    ·(first|exact trivial|omega|(simp only [In64] at *; omega)|(simp [In64] at *; omega)|(simp_all; done)|skip)
    refine qa ?_
    refine ⟨k + 1,[],⟨by omega,fun j hj=>?_⟩,by omega,?_⟩
    ·by_cases hjk:j=k
     ·rw [hjk]; simpa using hC3
     ·exact hk2 j (by omega)
    ·simp only [leq,leA,ev0,evA,evB,evP,fl,gp,tab,simprocAttr,reduceCtorEq,reduceIte]<;>first|trivial|omega
  ·(try simp only [nhs] at hC2)
   have he:v=w:=by
    refine List.ext_getElem (by omega) fun j h1 h2=>?_
    have:=hk2 j (by omega)
    simpa [List.getD,List.getElem?_eq_getElem h1,List.getElem?_eq_getElem h2] using this
   refine qj (qc (qc (qf (qa (qm ?_)))))
   refine hk_region fun K hK=>runs_eval tab_ok ?_
   simp only [ev0,evA,evB,evP,fl,gp,tab,simprocAttr,reduceCtorEq,reduceIte]
   refine fin_run trivial (hK _ ?_)<;>clear hK<;>clear K
   refine qa (qk ?_)
   simp only [Tryd.results86,enA,ev0,evA,evB,evP,fl,gp,tab,simprocAttr,reduceCtorEq,reduceIte]
   all_goals (simp [he])

theorem oll_set2 (l:List (List Int)) (i:Nat) (x:List Int):(opl (ll l)).set i (.p (.list (il x)))=opl (ll (l.set i x)):=by
 simp [opl,ll,List.map_set]
set_option maxHeartbeats 4000000 in
theorem compactL_c (xs:List (List Int)) (hl:xs.length≤1000000) (hr:∀ v∈xs,v.length≤1000000):FnM Tryd.prog 85 [.sl 0 0 xs.length,.p (.fn 86 [])] [.own (opl (ll xs))] (.sl 0 0 (cps [] xs).length) [.own (opl (ll (cps [] xs)++List.replicate (xs.length - (cps [] xs).length) .nil))]:=by
 have hrx:∀ j,(xs.getD j []).length≤1000000:=fun j=>by
  by_cases hj:j < xs.length
  ·exact hr _ (by simp [List.getD,List.getElem?_eq_getElem hj])
  ·simp [List.getD,List.getElem?_eq_none (show xs.length≤j by omega)]
 have hoxl:(opl (ll xs)).length=xs.length:=by rw [opl_length,ll_length]
 have hst:0 < xs.length→cpN [] xs (0 + 1)=xs.take (0 + 1):=fun h=>cpN_take [] xs h (by simp [cpN]) (.inl rfl)
 refine fnm_of tab_ok Tryd.func85 rfl (by kernel_rfl) (by rw [Tryd.ntmps85]; exact Nat.le_add_left 2 _) ?_; rw [Tryd.ntmps85]; simp only [ancs,entA,List.length_cons,List.length_nil,List.cons_append,List.nil_append,Nat.reduceAdd,Nat.zero_add]
 refine qm ?_
 refine hk_region fun K hK=>runs_eval tab_ok ?_
 simp only [ev0,evA,evB,evP,fl,gp,tab,simprocAttr,reduceCtorEq,reduceIte]
 refine fin_run trivial (hK _ ?_)<;>clear hK<;>clear K
 refine qa (qm (qm ?_))
 refine hk_region fun K hK=>runs_eval tab_ok ?_
 simp only [ev0,evA,evB,evP,fl,gp,tab,simprocAttr,reduceCtorEq,reduceIte]
 refine fin_run trivial (hK _ ?_)<;>clear hK<;>clear K
 refine qa ?_
 refine hk_cond rfl (fun hC1=>?_) (fun hC1=>?_)
 ·(try simp only [nhs] at hC1)
  have he:cps [] xs=xs:=by
   unfold cps
   match xs,hC1 with
   | [],_=>rfl
   | [x],_=>rw [List.length_singleton,hst (by simp)]; rfl
   | x :: y :: r,h=>simp at h; omega
  rw [he,Nat.sub_self,List.replicate_zero,List.append_nil]
  refine qm ?_
  refine hk_region fun K hK=>runs_eval tab_ok ?_
  simp only [ev0,evA,evB,evP,fl,gp,tab,simprocAttr,reduceCtorEq,reduceIte]
  refine fin_run trivial (hK _ ?_)<;>clear hK<;>clear K
  refine qa (qk (qb ?_))
  simp only [Tryd.results85,PostG,endG,rvsA,rvA,mkTup,ev0,evA,evB,evP,fl,gp,tab,simprocAttr,reduceCtorEq,reduceIte]
  all_goals (exact ⟨[0,1],rfl,rfl,by simp only [leq,leA,ev0,evA,evB,evP,fl,gp,tab,simprocAttr,reduceCtorEq,reduceIte,ll_takeL]<;>first|trivial|(rw [List.take_of_length_le (by simp [ll_length])]; done)|trace_state⟩)
 ·(try simp only [nhs] at hC1)
  have hst:=hst (by omega)
  refine qh (qa (qm (qm ?_)))
  refine hk_region fun K hK=>runs_eval tab_ok ?_
  simp only [ev0,evA,evB,evP,fl,gp,tab,simprocAttr,reduceCtorEq,reduceIte]
  refine fin_run trivial (hK _ ?_)<;>clear hK<;>clear K
  refine qa (ql ?_)
  refine hk_loop (ι:=Nat) (fun i=>⟨66,[(0,.sl 0 0 xs.length),(1,.p (.fn 86 [])),(5,.p (.int .i64 ((i + 1:Nat):Int)))],[.own (opl (ll xs)),.anc 0 0]⟩) (fun i=>i + 1≤xs.length∧cpN [] xs (i + 1)=xs.take (i + 1)) (fun i=>xs.length - i) 0 ⟨by omega,hst⟩ [0,1] (by simp only [leq,leA,ev0,evA,evB,evP,fl,gp,tab,simprocAttr,reduceCtorEq,reduceIte,ll_takeL]<;>first|trivial|trace_state) fun i hi=>?_
  obtain ⟨hi1,hi2⟩:=hi
  have ei:((i + 1:Nat):Int) - 1=((i:Nat):Int):=by omega
  refine qm (qm ?_)
  refine hk_region fun K hK=>runs_eval tab_ok ?_
  simp only [ev0,evA,evB,evP,fl,gp,tab,simprocAttr,reduceCtorEq,reduceIte]
  refine fin_run trivial (hK _ ?_)<;>clear hK<;>clear K
  refine qa ?_
  refine hk_cond rfl (fun hC2=>?_) (fun hC2=>?_)
  ·(try simp only [nhs] at hC2)
   have hil:i + 1 < xs.length:=by omega
   refine qh (qa (qm (ql (qm ?_))))
   refine hk_draw mixed (by kernel_rfl) fun K hK=>runs_eval tab_ok ?_
   simp only [ev0,evA,evB,evP,fl,gp,tab,simprocAttr,reduceCtorEq,reduceIte,ei,oll_get (show i + 1 < xs.length by omega),oll_get (show i < xs.length by omega)]
   refine fin_stop ?_ (runs_call (equal_c (xs.getD (i + 1) []) (xs.getD i []) (hrx _) (hrx _)) rfl rfl rfl (by simp only [dstOk,Nat.reduceLT]) (by repeat (first|exact trivial|constructor)) (runs_eval tab_ok ?_))
   ·exact ⟨⟨⟨⟨⟨by omega,by omega⟩,by omega⟩,by simp only [In64]; omega⟩,by omega,by omega⟩,by omega⟩
   simp only [ev0,evA,evB,evP,fl,gp,tab,simprocAttr,reduceCtorEq,reduceIte,ei,oll_get (show i + 1 < xs.length by omega),oll_get (show i < xs.length by omega)]
   refine fin_run ?_ (hK _ ?_)<;>clear hK<;>clear K
   ·(first|exact trivial|omega|(simp only [In64] at *; omega)|(simp [In64] at *; omega)|(simp_all; done)|skip)
   refine qa ?_
   refine hk_cond rfl (fun hC3=>?_) (fun hC3=>?_)
   ·(try simp only [nhs] at hC3)
    have hS:=CpS.begin hil hi2 (by simpa using hC3)
    refine qm ?_
    refine hk_region fun K hK=>runs_eval tab_ok ?_
    simp only [ev0,evA,evB,evP,fl,gp,tab,simprocAttr,reduceCtorEq,reduceIte,ei]
    refine fin_run ?_ (hK _ ?_)<;>clear hK<;>clear K
    ·(first|exact trivial|omega|(simp only [In64] at *; omega)|(simp [In64] at *; omega)|(simp_all; done)|skip)
    refine qa (qm (qm ?_))
    refine hk_region fun K hK=>runs_eval tab_ok ?_
    simp only [ev0,evA,evB,evP,fl,gp,tab,simprocAttr,reduceCtorEq,reduceIte]
    refine fin_run trivial (hK _ ?_)<;>clear hK<;>clear K
    refine qa (ql ?_)
    refine hk_loop (ι:=Nat × List (List Int) × Nat) (fun p=>⟨66,[(0,.sl 0 0 xs.length),(1,.p (.fn 86 [])),(5,.p (.int .i64 (p.2.2:Nat))),(6,.sl 0 (i + 1) (xs.length - (i + 1))),(7,.p (.int .i64 ((p.1 + 1:Nat):Int)))],[.own (opl (ll p.2.1)),.anc 0 0]⟩) (fun p=>CpS [] xs (i + 1) (p.1 + 1) p.2.1 p.2.2) (fun p=>xs.length - p.1) (0,xs,i + 1) hS [0,1] (by simp only [leq,leA,ev0,evA,evB,evP,fl,gp,tab,simprocAttr,reduceCtorEq,reduceIte,ll_takeL]<;>first|trivial|trace_state) fun p hp=>?_
    obtain ⟨k,R,q⟩:=p
    simp only at hp
    have hRl:=hp.len
    have hlt:=hp.lt
    have hle:=hp.le
    have ek:((k + 1:Nat):Int) - 1=((k:Nat):Int):=by omega
    have holl:(opl (ll R)).length=R.length:=by rw [opl_length,ll_length]
    refine qm (qm ?_)
    refine hk_region fun K hK=>runs_eval tab_ok ?_
    simp only [ev0,evA,evB,evP,fl,gp,tab,simprocAttr,reduceCtorEq,reduceIte]
    refine fin_run trivial (hK _ ?_)<;>clear hK<;>clear K
    refine qa ?_
    refine hk_cond rfl (fun hC4=>?_) (fun hC4=>?_)
    ·(try simp only [nhs] at hC4)
     have hkl:i + 1 + (k + 1) < xs.length:=by omega
     have g1:=hp.same (i + 1 + (k + 1)) (by omega) hkl
     have g2:=hp.same (i + 1 + k) (by omega) (by omega)
     refine qh (qa (qm (ql (qm ?_))))
     refine hk_draw mixed (by kernel_rfl) fun K hK=>runs_eval tab_ok ?_
     simp only [ev0,evA,evB,evP,fl,gp,tab,simprocAttr,reduceCtorEq,reduceIte,ek,oll_get (show i + 1 + (k + 1) < R.length by omega),oll_get (show i + 1 + k < R.length by omega)]
     refine fin_stop ?_ (runs_call (equal_c (R.getD (i + 1 + (k + 1)) []) (R.getD (i + 1 + k) []) (by rw [g1]; exact hrx _) (by rw [g2]; exact hrx _)) rfl rfl rfl (by simp only [dstOk,Nat.reduceLT]) (by repeat (first|exact trivial|constructor)) (runs_eval tab_ok ?_))
     ·exact ⟨⟨⟨⟨⟨by omega,by omega⟩,by omega⟩,by simp only [In64]; omega⟩,by omega,by omega⟩,by omega⟩
     simp only [ev0,evA,evB,evP,fl,gp,tab,simprocAttr,reduceCtorEq,reduceIte,ek,oll_get (show i + 1 + (k + 1) < R.length by omega),oll_get (show i + 1 + k < R.length by omega)]
     refine fin_run ?_ (hK _ ?_)<;>clear hK<;>clear K
     ·(first|exact trivial|omega|(simp only [In64] at *; omega)|(simp [In64] at *; omega)|(simp_all; done)|skip)
     refine qa ?_
     refine hk_cond rfl (fun hC5=>?_) (fun hC5=>?_)
     ·(try simp only [nhs] at hC5)
      have hK:=hp.keep hkl (by simpa using hC5)
      refine qm ?_
      refine hk_region fun K hK=>runs_eval tab_ok ?_
      simp only [ev0,evA,evB,evP,fl,gp,tab,simprocAttr,reduceCtorEq,reduceIte,oll_get (show i + 1 + (k + 1) < R.length by omega),oll_set2]
      refine fin_run ?_ (hK _ ?_)<;>clear hK<;>clear K
      ·(first|exact trivial|omega|(simp only [In64] at *; omega)|(simp [In64] at *; omega)|(simp_all; done)|skip)
      refine qa ?_
      refine hk_region fun K hK=>runs_eval tab_ok ?_
      simp only [ev0,evA,evB,evP,fl,gp,tab,simprocAttr,reduceCtorEq,reduceIte]
      refine fin_run ?_ (hK _ ?_)<;>clear hK<;>clear K
      ·(first|exact trivial|omega|(simp only [In64] at *; omega)|(simp [In64] at *; omega)|(simp_all; done)|skip)
      refine qd (qa ?_)
      refine hk_region fun K hK=>runs_eval tab_ok ?_
      simp only [ev0,evA,evB,evP,fl,gp,tab,simprocAttr,reduceCtorEq,reduceIte]
      refine fin_run ?_ (hK _ ?_)<;>clear hK<;>clear K
      ·(first|exact trivial|omega|(simp only [In64] at *; omega)|(simp [In64] at *; omega)|(simp_all; done)|skip)
      refine qa ?_
      refine ⟨(k + 1,R.set q (R.getD (i + 1 + (k + 1)) []),q + 1),[0,1],hK,by simp only; omega,?_⟩
      simp only [leq,leA,ev0,evA,evB,evP,fl,gp,tab,simprocAttr,reduceCtorEq,reduceIte,ll_takeL]<;>first|trivial|omega|trace_state
     ·(try simp only [nhs] at hC5)
      have hK:=hp.skip hkl (by simpa using hC5)
      refine qh (qd (qa ?_))
      refine hk_region fun K hK=>runs_eval tab_ok ?_
      simp only [ev0,evA,evB,evP,fl,gp,tab,simprocAttr,reduceCtorEq,reduceIte]
      refine fin_run ?_ (hK _ ?_)<;>clear hK<;>clear K
      ·(first|exact trivial|omega|(simp only [In64] at *; omega)|(simp [In64] at *; omega)|(simp_all; done)|skip)
      refine qa ?_
      refine ⟨(k + 1,R,q),[0,1],hK,by simp only; omega,?_⟩
      simp only [leq,leA,ev0,evA,evB,evP,fl,gp,tab,simprocAttr,reduceCtorEq,reduceIte,ll_takeL]<;>first|trivial|omega|trace_state
    ·(try simp only [nhs] at hC4)
     have hkn:i + 1 + (k + 1)=xs.length:=by omega
     have hcp:cps [] xs=cpN [] xs (i + 1 + (k + 1)):=by unfold cps; rw [hkn]
     have hq:(cps [] xs).length=q:=by rw [hcp]; exact hp.il
     have hz:clrC (opl (ll R)) q (xs.length - q) (.slice none 0 0)=opl (ll (cps [] xs)++List.replicate (xs.length - q) .nil):=by
      unfold clrC
      have e1:(opl (ll R)).take q=opl (ll (cps [] xs)):=by
       rw [hcp,← hp.tk]; simp [opl,ll]
      rw [e1,List.drop_eq_nil_of_le (by omega),List.append_nil,← opl_append]
      simp [opl,cv]
     rw [hq]
     refine qj (qc (qc (qf (qa (qm ?_)))))
     refine hk_region fun K hK=>runs_eval tab_ok ?_
     simp only [ev0,evA,evB,evP,fl,gp,tab,simprocAttr,reduceCtorEq,reduceIte]
     refine fin_stop ?_ (runs_op (clear_does tab_ok rfl rfl rfl rfl rfl rfl rfl rfl (by omega)) rfl (by simp only [dstOk,Nat.reduceLT]) (runs_eval tab_ok ?_))
     ·(first|exact trivial|omega|(simp only [In64] at *; omega)|(simp [In64] at *; omega)|(simp_all; done)|skip)
     simp only [ev0,evA,evB,evP,fl,gp,tab,simprocAttr,reduceCtorEq,reduceIte]
     refine fin_run ?_ (hK _ ?_)<;>clear hK<;>clear K
     ·(first|exact trivial|omega|(simp only [In64] at *; omega)|(simp [In64] at *; omega)|(simp_all; done)|skip)
     refine qa (qm ?_)
     rw [hz]
     refine hk_region fun K hK=>runs_eval tab_ok ?_
     simp only [ev0,evA,evB,evP,fl,gp,tab,simprocAttr,reduceCtorEq,reduceIte]
     refine fin_run ?_ (hK _ ?_)<;>clear hK<;>clear K
     ·(first|exact trivial|omega|(simp only [In64] at *; omega)|(simp [In64] at *; omega)|(simp_all; done)|skip)
     refine qa (qk (qe (qb (qb (qe (qb ?_))))))
     simp only [Tryd.results85,PostG,endG,rvsA,rvA,mkTup,ev0,evA,evB,evP,fl,gp,tab,simprocAttr,reduceCtorEq,reduceIte]
     all_goals (exact ⟨[0,1],rfl,rfl,by simp only [leq,leA,ev0,evA,evB,evP,fl,gp,tab,simprocAttr,reduceCtorEq,reduceIte,ll_takeL]<;>first|trivial|(rw [List.take_of_length_le (by simp [ll_length])]; done)|trace_state⟩)
   ·(try simp only [nhs] at hC3)
    have hd:xs.getD (i + 1) [] ≠ xs.getD (i + 1 - 1) []:=by simpa using hC3
    refine qh (qd (qa ?_))
    refine hk_region fun K hK=>runs_eval tab_ok ?_
    simp only [ev0,evA,evB,evP,fl,gp,tab,simprocAttr,reduceCtorEq,reduceIte]
    refine fin_run ?_ (hK _ ?_)<;>clear hK<;>clear K
    ·(first|exact trivial|omega|(simp only [In64] at *; omega)|(simp [In64] at *; omega)|(simp_all; done)|skip)
    refine qa ?_
    refine ⟨i + 1,[0,1],⟨by omega,cpN_take [] xs hil hi2 (.inr hd)⟩,by omega,?_⟩
    simp only [leq,leA,ev0,evA,evB,evP,fl,gp,tab,simprocAttr,reduceCtorEq,reduceIte,ll_takeL]<;>first|trivial|omega
  ·(try simp only [nhs] at hC2)
   have hin:i + 1=xs.length:=by omega
   have he:cps [] xs=xs:=by
    unfold cps
    rw [← hin,hi2,hin,List.take_length]
   rw [he,Nat.sub_self,List.replicate_zero,List.append_nil]
   refine qj (qc (qc (qf (qa (qm ?_)))))
   refine hk_region fun K hK=>runs_eval tab_ok ?_
   simp only [ev0,evA,evB,evP,fl,gp,tab,simprocAttr,reduceCtorEq,reduceIte]
   refine fin_run trivial (hK _ ?_)<;>clear hK<;>clear K
   refine qa (qk ?_)
   simp only [Tryd.results85,PostG,endG,rvsA,rvA,mkTup,ev0,evA,evB,evP,fl,gp,tab,simprocAttr,reduceCtorEq,reduceIte]
   all_goals (exact ⟨[0,1],rfl,rfl,by simp only [leq,leA,ev0,evA,evB,evP,fl,gp,tab,simprocAttr,reduceCtorEq,reduceIte,ll_takeL]<;>first|trivial|(rw [List.take_of_length_le (by simp [ll_length])]; done)|trace_state⟩)

end Go.Proofs.YtboadfahlflmhaaDoor

/-
  Walks: inner automorphisms. Conditions: none.
-/
set_option linter.all false
namespace Go.Proofs.YtboadfahlflmhaaDoor
open Go.Pv

theorem sortLw_c {xs ys:List (List Int)} (hne:xs ≠ []) (hl:xs.length≤1000000) (hr:∀ v∈xs,v.length≤1000000) (hperm:xs.Perm ys) (hs:ys.Pairwise fun v w=>¬ cmpL w v < 0) :
  FnM Tryd.prog 81 [.sl 0 0 (ll xs).length,.p (.fn 82 [])] [.own (opl (ll xs))] (.p (.tup [])) [.own (opl (ll ys))]:=
 sort_m Go.Proofs.Tryd.sortL (ll xs) (ll ys) cfL (fun h=>hne (by cases xs with
   | nil=>rfl
   | cons a r=>cases h)) (fun x hx=>by obtain ⟨v,_,rfl⟩:=mem_ll hx; rfl)
  (fun x hx=>by obtain ⟨v,_,rfl⟩:=mem_ll hx; rw [cfL_il,cmpL_self]; decide)
  (fun x hx y hy z hz h1 h2=>by
   obtain ⟨u,_,rfl⟩:=mem_ll hx; obtain ⟨v,_,rfl⟩:=mem_ll hy; obtain ⟨w,_,rfl⟩:=mem_ll hz
   rw [cfL_il] at *; exact cmpL_trans _ _ _ h1 h2)
  (fun x hx y hy z hz h1 h2=>by
   obtain ⟨u,_,rfl⟩:=mem_ll hx; obtain ⟨v,_,rfl⟩:=mem_ll hy; obtain ⟨w,_,rfl⟩:=mem_ll hz
   rw [cfL_il] at *; exact cmpL_ntrans _ _ _ h1 h2)
  (fun x hx y hy h1 h2=>by
   obtain ⟨u,_,rfl⟩:=mem_ll hx; obtain ⟨v,_,rfl⟩:=mem_ll hy
   rw [cfL_il] at *; rw [cmpL_tot _ _ h1 h2])
  (fun x hx y hy=>by
   obtain ⟨u,hu,rfl⟩:=mem_ll hx; obtain ⟨v,hv,rfl⟩:=mem_ll hy
   rw [cfL_il]; have h1:=hr u hu; have h2:=hr v hv; exact compareL_c u v (by omega) (by omega))
  (hperm.map _) (by
   unfold ll
   rw [List.pairwise_map]
   exact hs.imp fun {x y} hxy h2=>hxy (by rwa [cfL_il] at h2)) (by rw [ll_length]; omega)

/-- Rows in order. -/
def srtL (xs:List (List Int)):List (List Int):=xs.mergeSort fun v w=>decide (¬ cmpL w v < 0)
theorem srtL_perm (xs:List (List Int)):xs.Perm (srtL xs):=(List.mergeSort_perm xs _).symm
theorem srtL_sorted (xs:List (List Int)):(srtL xs).Pairwise fun v w=>¬ cmpL w v < 0:=by
 have:=List.pairwise_mergeSort (le:=fun v w:List Int=>decide (¬ cmpL w v < 0)) (fun a b c h1 h2=>by
  simp only [decide_eq_true_eq] at *
  exact cmpL_ntrans _ _ _ h2 h1) (fun a b=>by
  simp only [Bool.or_eq_true,decide_eq_true_eq]
  by_cases h:cmpL b a < 0
  ·right
   intro h2
   have:=cmpL_trans _ _ _ h h2
   rw [cmpL_self] at this; exact absurd this (by decide)
  ·exact .inl h) xs
 exact this.imp fun h=>by simpa using h
theorem srtL_strict {xs:List (List Int)} (h:xs.Nodup):(srtL xs).Pairwise fun v w=>cmpL v w < 0:=by
 have h1:=srtL_sorted xs
 have h2:(srtL xs).Nodup:=(srtL_perm xs).nodup_iff.1 h
 exact (h1.and h2).imp fun {v w} ⟨a,b⟩=>Classical.byContradiction fun hc=>b (cmpL_tot _ _ hc a)

section
variable {n e:Nat} {m:List Int}
/-- What a thing does to all. -/
def inr (n:Nat) (f:Nat→Nat→Nat) (e b:Nat):List Int:=tbm n fun x=>cjr n f e x b
def inl' (n:Nat) (f:Nat→Nat→Nat) (e k:Nat):List (List Int):=(List.range k).map (inr n f e)
theorem inl_succ (f:Nat→Nat→Nat) (k:Nat):inl' n f e (k + 1)=inl' n f e k++[inr n f e k]:=by
 unfold inl'; rw [List.range_succ,List.map_append]; rfl
theorem inl_len (f:Nat→Nat→Nat) (k:Nat):(inl' n f e k).length=k:=by simp [inl']
theorem tbm_succ (φ:Nat→Nat) (k:Nat):tbm (k + 1) φ=tbm k φ++[((φ k:Nat):Int)]:=by
 unfold tbm; rw [List.range_succ,List.map_append]; rfl

set_option maxHeartbeats 4000000 in
theorem inner_c (h:GT n m n e) (hm:m.length≤1000000000000000) (ys:List (List Int)) (hperm:(inl' n (op m n) e n).Perm ys) (hs:ys.Pairwise fun v w=>¬ cmpL w v < 0) :
  FnC Tryd.prog 15 [gp n m] (.tup [.list (ll (cps [] ys)),fl (0,0)]):=by
 have hgf:=gf_of h
 have hb:=check_c n m hm
 rw [hgf] at hb
 have hn:=h.2.1.big
 have hpos:0 < n:=h.2.1.pos
 refine fnc_of tab_ok Tryd.func15 rfl (by kernel_rfl) (by rw [Tryd.ntmps15]; exact Nat.le_add_left 1 _) ?_; rw [Tryd.ntmps15]
 refine qm ?_
 refine hk_region fun K hK=>runs_eval tab_ok ?_
 simp only [ev0,evA,evB,evP,fl,gp,tab,simprocAttr,reduceCtorEq,reduceIte]
 refine fin_run ?_ (hK _ ?_)<;>clear hK<;>clear K
 ·(first|exact trivial|omega|(simp only [In64] at *; omega)|(simp [In64] at *; omega)|(simp_all; done)|skip)
 refine qa (qm (qm ?_))
 refine hk_region fun K hK=>runs_eval tab_ok ?_
 simp only [ev0,evA,evB,evP,fl,gp,tab,simprocAttr,reduceCtorEq,reduceIte]
 refine fin_stop trivial (runs_call (hb) rfl rfl rfl (by simp only [dstOk,Nat.reduceLT]) (by repeat (first|exact trivial|constructor)) (runs_eval tab_ok ?_))
 simp only [ev0,evA,evB,evP,fl,gp,tab,simprocAttr,reduceCtorEq,reduceIte]
 refine fin_run ?_ (hK _ ?_)<;>clear hK<;>clear K
 ·(first|exact trivial|omega|(simp only [In64] at *; omega)|(simp [In64] at *; omega)|(simp_all; done)|skip)
 refine qa (qm ?_)
 refine hk_region fun K hK=>runs_eval tab_ok ?_
 simp only [ev0,evA,evB,evP,fl,gp,tab,simprocAttr,reduceCtorEq,reduceIte]
 refine fin_run ?_ (hK _ ?_)<;>clear hK<;>clear K
 ·(first|exact trivial|omega|(simp only [In64] at *; omega)|(simp [In64] at *; omega)|(simp_all; done)|skip)
 refine qa ?_
 refine hk_cond rfl (fun hC1=>?_) (fun hC1=>?_)
 ·(try simp only [nhs] at hC1)
  simp at hC1
 ·(try simp only [nhs] at hC1)
  refine qh (qa (qm ?_))
  refine hk_region fun K hK=>runs_eval tab_ok ?_
  simp only [ev0,evA,evB,evP,fl,gp,tab,simprocAttr,reduceCtorEq,reduceIte]
  refine fin_run trivial (hK _ ?_)<;>clear hK<;>clear K
  refine qa (qm (qm ?_))
  refine hk_own0 5 rfl ?_
  refine hk_region fun K hK=>runs_eval tab_ok ?_
  simp only [ev0,evA,evB,evP,fl,gp,tab,simprocAttr,reduceCtorEq,reduceIte]
  refine fin_run ?_ (hK _ ?_)<;>clear hK<;>clear K
  ·(first|exact trivial|omega|(simp only [In64] at *; omega)|(simp [In64] at *; omega)|(simp_all; done)|skip)
  refine qa (ql ?_)
  refine hk_loop (ι:=Nat) (fun k=>⟨43,[(1,.ptr 0 0),(3,.ptr 1 0),(5,.sl 2 0 (inl' n (op m n) e k).length),(16,.p (.int .i64 n)),(17,.p (.int .i64 k))],[.own [.p (.int .i64 n),.p (.list (il m))],.own [.p (.int .i64 0),.p (.int .i64 0)],.own (opl (ll (inl' n (op m n) e k)))]⟩) (fun k=>k≤n) (fun k=>n - k) 0 (Nat.zero_le _) [0,1,3] (by simp only [leq,leA,ev0,evA,evB,evP,fl,gp,tab,simprocAttr,reduceCtorEq,reduceIte]<;>first|trivial|exact ⟨rfl,rfl⟩|trace_state) fun k hk=>?_
  have hil:=inl_len (n:=n) (e:=e) (op m n) k
  have hsu:=inl_succ (n:=n) (e:=e) (op m n) k
  refine qm ?_
  refine hk_region fun K hK=>runs_eval tab_ok ?_
  simp only [ev0,evA,evB,evP,fl,gp,tab,simprocAttr,reduceCtorEq,reduceIte]
  refine fin_run trivial (hK _ ?_)<;>clear hK<;>clear K
  refine qa (qm ?_)
  refine hk_cond rfl (fun hC2=>?_) (fun hC2=>?_)
  ·(try simp only [nhs] at hC2)
   have hkl:k < n:=by omega
   refine qh (qa (qm (ql (qm ?_))))
   refine hk_region fun K hK=>runs_eval tab_ok ?_
   simp only [ev0,evA,evB,evP,fl,gp,tab,simprocAttr,reduceCtorEq,reduceIte]
   refine fin_run trivial (hK _ ?_)<;>clear hK<;>clear K
   refine qa (qm ?_)
   refine hk_region fun K hK=>runs_eval tab_ok ?_
   simp only [ev0,evA,evB,evP,fl,gp,tab,simprocAttr,reduceCtorEq,reduceIte]
   refine fin_run trivial (hK _ ?_)<;>clear hK<;>clear K
   refine qa (qm (qm ?_))
   refine hk_own0 7 rfl ?_
   refine hk_region fun K hK=>runs_eval tab_ok ?_
   simp only [ev0,evA,evB,evP,fl,gp,tab,simprocAttr,reduceCtorEq,reduceIte]
   refine fin_run ?_ (hK _ ?_)<;>clear hK<;>clear K
   ·(first|exact trivial|omega|(simp only [In64] at *; omega)|(simp [In64] at *; omega)|(simp_all; done)|skip)
   refine qa (ql ?_)
   refine hk_loop (ι:=Nat) (fun x=>⟨43,[(1,.ptr 0 0),(3,.ptr 1 0),(5,.sl 2 0 (inl' n (op m n) e k).length),(6,.p (.int .i64 k)),(7,.sl 3 0 (tbm x fun x=>cjr n (op m n) e x k).length),(16,.p (.int .i64 n)),(17,.p (.int .i64 k)),(21,.p (.int .i64 n)),(22,.p (.int .i64 x))],[.own [.p (.int .i64 n),.p (.list (il m))],.own [.p (.int .i64 0),.p (.int .i64 0)],.own (opl (ll (inl' n (op m n) e k))),.own (ol (tbm x fun x=>cjr n (op m n) e x k))]⟩) (fun x=>x≤n) (fun x=>n - x) 0 (Nat.zero_le _) [0,1,2,3] (by simp only [leq,leA,ev0,evA,evB,evP,fl,gp,tab,simprocAttr,reduceCtorEq,reduceIte,ll_takeL]<;>first|trivial|exact ⟨rfl,rfl⟩|trace_state) fun x hx=>?_
   have htl:=tbm_len x fun x=>cjr n (op m n) e x k
   have htk:List.take x (tbm x fun x=>cjr n (op m n) e x k)=tbm x fun x=>cjr n (op m n) e x k:=List.take_of_length_le (by omega)
   refine qm ?_
   refine hk_region fun K hK=>runs_eval tab_ok ?_
   simp only [ev0,evA,evB,evP,fl,gp,tab,simprocAttr,reduceCtorEq,reduceIte]
   refine fin_run trivial (hK _ ?_)<;>clear hK<;>clear K
   refine qa (qm ?_)
   refine hk_cond rfl (fun hC3=>?_) (fun hC3=>?_)
   ·(try simp only [nhs] at hC3)
    have hxl:x < n:=by omega
    refine qh (qa (qm (ql (qm ?_))))
    refine hk_region fun K hK=>runs_eval tab_ok ?_
    simp only [ev0,evA,evB,evP,fl,gp,tab,simprocAttr,reduceCtorEq,reduceIte]
    refine fin_run trivial (hK _ ?_)<;>clear hK<;>clear K
    refine qa ?_
    refine hk_region fun K hK=>runs_eval tab_ok ?_
    simp only [ev0,evA,evB,evP,fl,gp,tab,simprocAttr,reduceCtorEq,reduceIte,List.take_length]
    refine fin_stop trivial (runs_call (conj_s h hxl hkl) rfl rfl rfl (by simp only [dstOk,Nat.reduceLT]) (by repeat (first|exact trivial|constructor)) (runs_eval tab_ok ?_))
    simp only [ev0,evA,evB,evP,fl,gp,tab,simprocAttr,reduceCtorEq,reduceIte,List.take_length]
    refine fin_run ?_ (hK _ ?_)<;>clear hK<;>clear K
    ·(first|exact trivial|omega|(simp only [In64] at *; omega)|(simp [In64] at *; omega)|(simp_all; done)|skip)
    refine qd (qa ?_)
    refine hk_region fun K hK=>runs_eval tab_ok ?_
    simp only [ev0,evA,evB,evP,fl,gp,tab,simprocAttr,reduceCtorEq,reduceIte]
    refine fin_run ?_ (hK _ ?_)<;>clear hK<;>clear K
    ·(first|exact trivial|omega|(simp only [In64] at *; omega)|(simp [In64] at *; omega)|(simp_all; done)|skip)
    refine qa ?_
    refine ⟨x + 1,[0,1,2,4],by omega,by omega,?_⟩
    rw [tbm_succ]
    simp only [leq,leA,ev0,evA,evB,evP,fl,gp,tab,simprocAttr,reduceCtorEq,reduceIte,ll_takeL]<;>first|trivial|omega|trace_state
   ·(try simp only [nhs] at hC3)
    obtain rfl:x=n:=by omega
    refine qj (qc (qc (qf (qa ?_))))
    refine hk_seal 7 3 rfl rfl ?_
    refine hk_region fun K hK=>runs_eval tab_ok ?_
    simp only [ev0,evA,evB,evP,fl,gp,tab,simprocAttr,reduceCtorEq,reduceIte,ll_takeL,oll_ok,ll_snoc]
    refine fin_run ?_ (hK _ ?_)<;>clear hK<;>clear K
    ·(first|exact trivial|omega|(simp only [In64] at *; omega)|(simp [In64] at *; omega)|(simp_all; done)|skip)
    refine qd (qa ?_)
    refine hk_region fun K hK=>runs_eval tab_ok ?_
    simp only [ev0,evA,evB,evP,fl,gp,tab,simprocAttr,reduceCtorEq,reduceIte]
    refine fin_run ?_ (hK _ ?_)<;>clear hK<;>clear K
    ·(first|exact trivial|omega|(simp only [In64] at *; omega)|(simp [In64] at *; omega)|(simp_all; done)|skip)
    refine qa ?_
    refine ⟨k + 1,[0,1,4],by omega,by omega,?_⟩
    rw [hsu]
    simp only [leq,leA,ev0,evA,evB,evP,fl,gp,tab,simprocAttr,reduceCtorEq,reduceIte,ll_takeL,ll_snoc,ll_takeS]<;>first|trivial|omega|trace_state
  ·(try simp only [nhs] at hC2)
   obtain rfl:k=n:=by omega
   have hyl:=hperm.length_eq
   have hne:inl' k (op m k) e k ≠ []:=fun h=>by rw [h] at hil; simp at hil; omega
   have hrw:∀ v∈inl' k (op m k) e k,v.length≤1000000:=fun v hv=>by
    obtain ⟨b,_,rfl⟩:=List.mem_map.1 hv
    show (tbm _ _).length≤_
    rw [tbm_len]; omega
   refine qj (qc (qc (qf (qa (qm ?_)))))
   refine hk_region fun K hK=>runs_eval tab_ok ?_
   simp only [ev0,evA,evB,evP,fl,gp,tab,simprocAttr,reduceCtorEq,reduceIte]
   refine fin_stop ?_ (runs_callM [2] (sortLw_c hne (by rw [hil]; omega) hrw hperm hs) rfl rfl ?_ (by simp only [leA,ev0,evA,evB,evP,fl,gp,tab,simprocAttr,reduceCtorEq,reduceIte]; first|trivial|(simp only [ll_takeL]; first|trivial|(repeat constructor; done))|(repeat constructor)) (by decide) (by first|rfl|(simp only [List.length_cons,List.length_nil,List.length_append]; decide)) (by first|rfl|(simp only [scM,opl_sc,List.all_cons,List.all_nil,List.length_cons,List.length_nil]; first|rfl|decide)|(simp [scM,scA,sc1,mpKeep,notAnc]; done)) (by simp only [dstOk,Nat.reduceLT]) (runs_eval tab_ok ?_))
   ·(first|exact trivial|omega|(simp only [In64] at *; omega)|(simp [In64] at *; omega)|(simp_all; done)|skip)
   ·(simp only [argsM,argM1,peekG,peekS,scA,sc1,ren,ren1,List.map_cons,List.map_nil,List.append_nil,List.cons_append,List.nil_append,enA,ev0,evA,evB,evP,fl,gp,tab,simprocAttr,reduceCtorEq,reduceIte]; try trivial)
   simp only [putM,hset,List.range',Blk.ren,ren,ren1,List.map_cons,List.map_nil,List.cons_append,List.nil_append,List.append_nil,List.length_cons,List.length_nil,ev0,evA,evB,evP,fl,gp,tab,simprocAttr,reduceCtorEq,reduceIte]
   refine fin_run trivial (hK _ ?_)<;>clear hK<;>clear K
   refine qa (qm ?_)
   refine hk_region fun K hK=>runs_eval tab_ok ?_
   simp only [ev0,evA,evB,evP,fl,gp,tab,simprocAttr,reduceCtorEq,reduceIte]
   refine fin_stop ?_ (runs_callM [2] (compactL_c ys (by omega) (fun v hv=>hrw v (hperm.mem_iff.2 hv))) rfl rfl ?_ (by simp only [leA,ev0,evA,evB,evP,fl,gp,tab,simprocAttr,reduceCtorEq,reduceIte]; first|trivial|(simp only [ll_takeL]; first|trivial|(repeat constructor; done))|(repeat constructor)) (by decide) (by first|rfl|(simp only [List.length_cons,List.length_nil,List.length_append]; decide)) (by first|rfl|(simp only [scM,opl_sc,List.all_cons,List.all_nil,List.length_cons,List.length_nil]; first|rfl|decide)|(simp [scM,scA,sc1,mpKeep,notAnc]; done)) (by simp only [dstOk,Nat.reduceLT]) (runs_eval tab_ok ?_))
   ·(first|exact trivial|omega|(simp only [In64] at *; omega)|(simp [In64] at *; omega)|(simp_all; done)|skip)
   ·(simp only [argsM,argM1,peekG,peekS,scA,sc1,ren,ren1,List.map_cons,List.map_nil,List.append_nil,List.cons_append,List.nil_append,enA,ev0,evA,evB,evP,fl,gp,tab,simprocAttr,reduceCtorEq,reduceIte]; try trivial)
    rw [hyl]
   simp only [putM,hset,List.range',Blk.ren,ren,ren1,List.map_cons,List.map_nil,List.cons_append,List.nil_append,List.append_nil,List.length_cons,List.length_nil,ev0,evA,evB,evP,fl,gp,tab,simprocAttr,reduceCtorEq,reduceIte]
   refine fin_run ?_ (hK _ ?_)<;>clear hK<;>clear K
   ·(first|exact trivial|omega|(simp only [In64] at *; omega)|(simp [In64] at *; omega)|(simp_all; done)|skip)
   refine qa (qk ?_)
   simp only [Tryd.results15,enA,ev0,evA,evB,evP,fl,gp,tab,simprocAttr,reduceCtorEq,reduceIte]
   have htk:List.take (cps [] ys).length (ll (cps [] ys)++List.replicate (ys.length - (cps [] ys).length) PV.nil)=ll (cps [] ys):=by
    rw [← ll_length (cps [] ys),List.take_left]
   rw [htk]
   exact ⟨⟨by simp [ll_length],ll_all _⟩,rfl⟩
end
end Go.Proofs.YtboadfahlflmhaaDoor

/-
  All homomorphisms are what the search hands out; the laws of maps have begun. Conditions: none.
-/
set_option linter.all false
namespace Go.Proofs.YtboadfahlflmhaaDoor
open Go.Pv

section
variable {n e N d:Nat} {f g:Nat→Nat→Nat}
theorem Hmo.pw (G:Grp n f e) (K:Grp N g d) {φ:Nat→Nat} (h:Hmo n f N g φ) {a:Nat} (ha:a < n):∀ k,φ (pw f e a k)=pw g d (φ a) k
 | 0=>h.one G K
 | k + 1=>by
  show φ (f (Go.Proofs.YtboadfahlflmhaaDoor.pw f e a k) a)=g _ _
  rw [h.mul _ _ (G.pw_lt ha k) ha,Hmo.pw G K h ha k]
theorem Hmo.ord (G:Grp n f e) (K:Grp N g d) {φ:Nat→Nat} (h:Hmo n f N g φ) {a:Nat} (ha:a < n):ord N g d (φ a) ∣ ord n f e a:=by
 rw [← K.pw_eq_one (h.lt a ha),← h.pw G K ha,G.pw_ord ha,h.one G K]
theorem Hmo.same (G:Grp n f e) (K:Grp N g d) {L:List Nat} (hgen:∀ a,a < n→Gen n f e (fun x=>decide (x∈L)) a) {φ ψ:Nat→Nat} (h:Hmo n f N g φ) (h' : Hmo n f N g ψ) (heq:∀ x∈L,φ x=ψ x):∀ a,a < n→φ a=ψ a:=fun a ha=>by
 have key:a < n∧φ a=ψ a:=Gen.least (H:=fun a=>a < n∧φ a=ψ a) ⟨G.el,by rw [h.one G K,h'.one G K]⟩ (fun c b hc hb hp ih=>⟨G.cl _ _ ih.1 hb,by
  rw [h.mul _ _ ih.1 hb,h'.mul _ _ ih.1 hb,ih.2,heq b (by simpa using hp)]⟩) (hgen a ha)
 exact key.2
theorem tbm_congr {φ ψ:Nat→Nat} (h:∀ a,a < n→φ a=ψ a):tbm n φ=tbm n ψ:=List.map_congr_left fun a ha=>by rw [h a (List.mem_range.1 ha)]
theorem tbm_inj {φ ψ:Nat→Nat} (h:tbm n φ=tbm n ψ):∀ a,a < n→φ a=ψ a:=fun a ha=>by
 have h1:=tbm_get (φ:=φ) ha
 rw [h,tbm_get ha] at h1
 omega
theorem Hmo.congr (G:Grp n f e) {φ ψ:Nat→Nat} (h:Hmo n f N g φ) (he:∀ a,a < n→φ a=ψ a):Hmo n f N g ψ:=
 ⟨fun a ha=>by rw [← he a ha]; exact h.lt a ha,fun a b ha hb=>by rw [← he _ (G.cl _ _ ha hb),← he a ha,← he b hb]; exact h.mul a b ha hb⟩

/-- What the search hands out: the maps that start so. -/
theorem hsq_iff (G:Grp n f e) (K:Grp N g d) {L:List Nat} (hL:∀ x∈L,x < n) (hgen:∀ a,a < n→Gen n f e (fun x=>decide (x∈L)) a) (w:List Int):∀ (r t:List Nat),t.length≤L.length→L.drop t.length=r →
  (w∈hsq n f e N g d L r t↔∃ φ,Hmo n f N g φ∧w=tbm n φ∧∀ i,i < t.length→φ (L.getD i 0)=t.getD i 0)
 | [],t,h1,h2=>by
  have htl:t.length=L.length:=by
   have:=congrArg List.length h2
   simp at this; omega
  unfold hsq hlf
  constructor
  ·intro h
   split at h
   ·rename_i hex
    have hs:=Classical.choose_spec hex
    exact ⟨_,hs.1,by simpa using h,fun i hi=>hs.2 i (by omega)⟩
   ·simp at h
  ·rintro ⟨φ,k1,rfl,k2⟩
   have hex:∃ φ,Ext n f N g L t φ:=⟨φ,k1,fun i hi=>k2 i (by omega)⟩
   rw [dif_pos hex]
   have hs:=Classical.choose_spec hex
   rw [List.mem_singleton]
   refine tbm_congr (Hmo.same G K hgen k1 hs.1 fun x hx=>?_)
   obtain ⟨i,hi,rfl⟩:=List.getElem_of_mem hx
   have e1:L.getD i 0=L[i]:=by simp [List.getD,List.getElem?_eq_getElem hi]
   rw [← e1,k2 i (by omega),hs.2 i hi]
 | x :: r,t,h1,h2=>by
  have htl:t.length < L.length:=by
   have:=congrArg List.length h2
   simp at this; omega
  have hd:L.drop t.length=L[t.length] :: L.drop (t.length + 1):=List.drop_eq_getElem_cons htl
  rw [h2] at hd
  obtain ⟨e1,e2⟩:=List.cons.inj hd
  have ex:L.getD t.length 0=x:=by simp [List.getD,List.getElem?_eq_getElem htl,e1]
  have hxn:x < n:=by rw [e1]; exact hL _ (List.getElem_mem htl)
  unfold hsq
  rw [List.mem_flatMap]
  constructor
  ·rintro ⟨y,hy,hw⟩
   obtain ⟨φ,k1,k2,k3⟩:=(hsq_iff G K hL hgen w r (t++[y]) (by simp; omega) (by rw [List.length_append]; exact e2.symm)).1 hw
   refine ⟨φ,k1,k2,fun i hi=>?_⟩
   have:=k3 i (by simp; omega)
   rw [this]
   simp [List.getD,List.getElem?_append_left hi]
  ·rintro ⟨φ,k1,k2,k3⟩
   refine ⟨φ x,List.mem_filter.2 ⟨List.mem_range.2 (k1.lt x hxn),by simpa using Nat.mod_eq_zero_of_dvd (k1.ord G K hxn)⟩,?_⟩
   refine (hsq_iff G K hL hgen w r (t++[φ x]) (by simp; omega) (by rw [List.length_append]; exact e2.symm)).2 ⟨φ,k1,k2,fun i hi=>?_⟩
   by_cases hit:i < t.length
   ·rw [k3 i hit]; simp [List.getD,List.getElem?_append_left hit]
   ·obtain rfl:i=t.length:=by simp at hi; omega
    rw [ex]; simp [List.getD]
theorem hsq_nodup (G:Grp n f e) (K:Grp N g d) {L:List Nat} (hL:∀ x∈L,x < n) (hgen:∀ a,a < n→Gen n f e (fun x=>decide (x∈L)) a):∀ (r t:List Nat),t.length≤L.length→L.drop t.length=r→(hsq n f e N g d L r t).Nodup
 | [],t,h1,h2=>by
  unfold hsq hlf
  split<;>simp
 | x :: r,t,h1,h2=>by
  have htl:t.length < L.length:=by
   have:=congrArg List.length h2
   simp at this; omega
  have hd:L.drop t.length=L[t.length] :: L.drop (t.length + 1):=List.drop_eq_getElem_cons htl
  rw [h2] at hd
  obtain ⟨e1,e2⟩:=List.cons.inj hd
  have ex:L.getD t.length 0=x:=by simp [List.getD,List.getElem?_eq_getElem htl,e1]
  have hxn:x < n:=by rw [e1]; exact hL _ (List.getElem_mem htl)
  have hl2:∀ y,(t++[y]).length≤L.length∧L.drop (t++[y]).length=r:=fun y=>⟨by simp; omega,by rw [List.length_append]; exact e2.symm⟩
  unfold hsq List.Nodup
  rw [List.pairwise_flatMap]
  refine ⟨fun y _=>hsq_nodup G K hL hgen r (t++[y]) (hl2 y).1 (hl2 y).2,?_⟩
  refine List.Pairwise.imp (R:=fun a b=>a ≠ b) (fun {y z} hyz w hw w' hw' he=>hyz ?_) (List.Pairwise.filter _ List.nodup_range)
  subst he
  obtain ⟨φ,_,k2,k3⟩:=(hsq_iff G K hL hgen w r (t++[y]) (hl2 y).1 (hl2 y).2).1 hw
  obtain ⟨ψ,_,q2,q3⟩:=(hsq_iff G K hL hgen w r (t++[z]) (hl2 z).1 (hl2 z).2).1 hw'
  have h1:=tbm_inj (k2.symm.trans q2) x hxn
  have h3:=k3 t.length (by simp)
  have h4:=q3 t.length (by simp)
  rw [ex] at h3 h4
  simp [List.getD] at h3 h4
  omega
end

section
variable {n e N d:Nat} {m M:List Int}
/-- All homomorphisms, in some order. -/
noncomputable def hmW (n:Nat) (m:List Int) (e N:Nat) (M:List Int) (d:Nat):List (List Int):=hsq n (op m n) e N (op M N) d (gl n (op m n) e n) (gl n (op m n) e n) []
theorem hmW_mem (h:GT n m n e) (h' : GT N M N d) (w:List Int):w∈hmW n m e N M d↔∃ φ,Hmo n (op m n) N (op M N) φ∧w=tbm n φ:=by
 unfold hmW
 refine (hsq_iff h.2.2 h'.2.2 (fun x hx=>gl_lt n (op m n) e n x hx) (gl_gen n (op m n) e h.2.2) w _ [] (Nat.zero_le _) rfl).trans ?_
 exact ⟨fun ⟨φ,a,b,_⟩=>⟨φ,a,b⟩,fun ⟨φ,a,b⟩=>⟨φ,a,b,fun i hi=>absurd hi (Nat.not_lt_zero _)⟩⟩
theorem hmW_nodup (h:GT n m n e) (h' : GT N M N d):(hmW n m e N M d).Nodup:=
 hsq_nodup h.2.2 h'.2.2 (fun x hx=>gl_lt n (op m n) e n x hx) (gl_gen n (op m n) e h.2.2) _ [] (Nat.zero_le _) rfl
/-- All automorphisms, in some order. -/
noncomputable def auW (n:Nat) (m:List Int) (e:Nat):List (List Int):=(hmW n m e n m e).filter fun v=>decide (onto1 v n)
theorem auW_mem (h:GT n m n e) (w:List Int):w∈auW n m e↔(∃ φ,Hmo n (op m n) n (op m n) φ∧w=tbm n φ)∧onto1 w n:=by
 unfold auW
 rw [List.mem_filter,hmW_mem h h,decide_eq_true_eq]
theorem auW_nodup (h:GT n m n e):(auW n m e).Nodup:=(hmW_nodup h h).filter _
theorem auW_ne (h:GT n m n e):auW n m e ≠ []:=fun h0=>by
 have:tbm n (fun a=>a)∈auW n m e:=(auW_mem h _).2 ⟨⟨_,⟨fun a ha=>ha,fun a b ha hb=>rfl⟩,rfl⟩,fun i hi=>List.mem_map.2 ⟨i,List.mem_range.2 hi,rfl⟩,tbm_len _ _⟩
 rw [h0] at this
 simp at this
theorem autos_ok (h:GT n m n e) (hn:n≤24) (hm:m.length≤1000000000000000) :
  FnC Tryd.prog 13 [gp n m] (.tup [if (auW n m e).length≤1000 then .list (ll (srtL (auW n m e))) else .list [],fl (if (auW n m e).length≤1000 then 0 else 9,0)]):=
 autos_c h hn hm _ _ rfl rfl (auW_ne h) _ (srtL_perm _) (srtL_strict (auW_nodup h))
end

/-! ### The laws of maps have begun -/

def cnd (x y:Nat):List Int:=(List.range 8).map fun a=>if a < 4 then ((pw (op sq8 8) 0 x a:Nat):Int) else ((op sq8 8 (pw (op sq8 8) 0 x (a - 4)) y:Nat):Int)
def cnd8:List (List Int):=[cnd 1 4,cnd 1 5,cnd 1 6,cnd 1 7,cnd 3 4,cnd 3 5,cnd 3 6,cnd 3 7]
theorem sq8_hom {φ:Nat→Nat} (h:Hmo 8 (op sq8 8) 8 (op sq8 8) φ):tbm 8 φ=cnd (φ 1) (φ 4):=by
 have G:=sq8_e.2.2
 have k1:∀ a,a < 4→pw (op sq8 8) 0 1 a=a:=by decide +kernel
 have k2:∀ a,a < 8→¬ a < 4→op sq8 8 (a - 4) 4=a:=by decide +kernel
 unfold tbm cnd
 refine List.map_congr_left fun a ha=>?_
 have ha:=List.mem_range.1 ha
 have hp:∀ a,a < 4→φ a=pw (op sq8 8) 0 (φ 1) a:=fun a ha=>by
  rw [← h.pw G G (by decide),k1 a ha]
 by_cases h4:a < 4
 ·rw [if_pos h4,← hp a h4]
 ·rw [if_neg h4,← hp (a - 4) (by omega),← h.mul _ _ (by omega) (by decide),k2 a ha h4]
theorem sq8_autos:(auW 8 sq8 0).length=8:=by
 have hnd:cnd8.Nodup:=by decide +kernel
 have hp:(auW 8 sq8 0).Perm cnd8:=by
  rw [List.perm_ext_iff_of_nodup (auW_nodup sq8_e) hnd]
  intro w
  rw [auW_mem sq8_e]
  constructor
  ·rintro ⟨⟨φ,h1,rfl⟩,h2⟩
   rw [sq8_hom h1] at h2 ⊢
   have key:∀ x,x < 8→∀ y,y < 8→onto1 (cnd x y) 8→cnd x y∈cnd8:=by decide +kernel
   exact key _ (h1.lt 1 (by decide)) _ (h1.lt 4 (by decide)) h2
  ·intro hw
   have k1:∀ w∈cnd8,onto1 w 8:=by decide +kernel
   have k2:∀ w∈cnd8,∀ a,a < 8→(w.getD a 0).toNat < 8:=by decide +kernel
   have k3:∀ w∈cnd8,∀ a,a < 8→∀ b,b < 8→(w.getD (op sq8 8 a b) 0).toNat=op sq8 8 (w.getD a 0).toNat (w.getD b 0).toNat:=by decide +kernel
   have k4:∀ w∈cnd8,w=tbm 8 fun a=>(w.getD a 0).toNat:=by decide +kernel
   exact ⟨⟨fun a=>(w.getD a 0).toNat,⟨fun a ha=>k2 w hw a ha,fun a b ha hb=>k3 w hw a ha b hb⟩,k4 w hw⟩,k1 w hw⟩
 rw [hp.length_eq]; decide +kernel
def insR (v:List Int):List (List Int)→List (List Int)
 | []=>[v]
 | w :: r=>if cmpL w v < 0 then w :: insR v r else v :: w :: r
def iny:List (List Int):=(inl' 8 (op sq8 8) 0 8).foldr insR []
theorem homBegun_c:FnC Tryd.prog 17 [] (.bool true):=by
 have h1:=autos_ok sq8_e (by decide) (by decide +kernel)
 have e8:=sq8_autos
 rw [e8] at h1
 have hy1:(inl' 8 (op sq8 8) 0 8).Perm iny:=by decide +kernel
 have hy2:iny.Pairwise fun v w=>¬ cmpL w v < 0:=by decide +kernel
 have hy3:(cps [] iny).length=4:=by decide +kernel
 have h2:=inner_c sq8_e (by decide +kernel) iny hy1 hy2
 have hl:(srtL (auW 8 sq8 0)).length=8:=by rw [← (srtL_perm _).length_eq,e8]
 refine fnc_of tab_ok Tryd.func17 rfl (by kernel_rfl) (by rw [Tryd.ntmps17]; exact Nat.le_add_left 0 _) ?_; rw [Tryd.ntmps17]
 refine qm ?_
 refine hk_region fun K hK=>runs_eval tab_ok ?_
 simp only [ev0,evA,evB,evP,fl,gp,tab,simprocAttr,reduceCtorEq,reduceIte]
 refine fin_run trivial (hK _ ?_)<;>clear hK<;>clear K
 refine qa (qm ?_)
 refine hk_region fun K hK=>runs_eval tab_ok ?_
 simp only [ev0,evA,evB,evP,fl,gp,tab,simprocAttr,reduceCtorEq,reduceIte]
 refine fin_stop trivial (runs_call (square_c) rfl rfl rfl (by simp only [dstOk,Nat.reduceLT]) (by repeat (first|exact trivial|constructor)) (runs_eval tab_ok ?_))
 simp only [ev0,evA,evB,evP,fl,gp,tab,simprocAttr,reduceCtorEq,reduceIte]
 refine fin_stop trivial (runs_call (h1) rfl rfl rfl (by simp only [dstOk,Nat.reduceLT]) (by repeat (first|exact trivial|constructor)) (runs_eval tab_ok ?_))
 simp only [ev0,evA,evB,evP,fl,gp,tab,simprocAttr,reduceCtorEq,reduceIte]
 refine fin_run ?_ (hK _ ?_)<;>clear hK<;>clear K
 ·(first|exact trivial|omega|(simp only [In64] at *; omega)|(simp [In64] at *; omega)|(simp_all; done)|skip)
 refine qa (qm ?_)
 refine hk_region fun K hK=>runs_eval tab_ok ?_
 simp only [ev0,evA,evB,evP,fl,gp,tab,simprocAttr,reduceCtorEq,reduceIte]
 refine fin_stop trivial (runs_call (square_c) rfl rfl rfl (by simp only [dstOk,Nat.reduceLT]) (by repeat (first|exact trivial|constructor)) (runs_eval tab_ok ?_))
 simp only [ev0,evA,evB,evP,fl,gp,tab,simprocAttr,reduceCtorEq,reduceIte]
 refine fin_stop trivial (runs_call (h2) rfl rfl rfl (by simp only [dstOk,Nat.reduceLT]) (by repeat (first|exact trivial|constructor)) (runs_eval tab_ok ?_))
 simp only [ev0,evA,evB,evP,fl,gp,tab,simprocAttr,reduceCtorEq,reduceIte]
 refine fin_run ?_ (hK _ ?_)<;>clear hK<;>clear K
 ·(first|exact trivial|omega|(simp only [In64] at *; omega)|(simp [In64] at *; omega)|(simp_all; done)|skip)
 refine qa (qm ?_)
 refine hk_region fun K hK=>runs_eval tab_ok ?_
 simp only [ev0,evA,evB,evP,fl,gp,tab,simprocAttr,reduceCtorEq,reduceIte,ll_length,hl,hy3]
 refine fin_run ?_ (hK _ ?_)<;>clear hK<;>clear K
 ·(first|exact trivial|omega|(simp only [In64] at *; omega)|(simp [In64] at *; omega)|(simp_all; done)|skip)
 refine qa (qk ?_)
 simp only [Tryd.results17,enA,ev0,evA,evB,evP,fl,gp,tab,simprocAttr,reduceCtorEq,reduceIte]
 all_goals (trace_state)
end Go.Proofs.YtboadfahlflmhaaDoor

/-
  Walks: the law SeriesComposes. Conditions: none.
-/
set_option linter.all false

namespace Go.Proofs.YtboadfahlflmhaaDoor
open Go.Pv

section
variable {n e:Nat} {m:List Int}

end
end Go.Proofs.YtboadfahlflmhaaDoor

/-
  The library's sort of numbers, over a row of the caller's own: what it leaves. Conditions: none; a library text.
-/
set_option linter.all false
namespace Go.Pv
open Go.RowKit

section
variable {P:Program} {ρ:Go.Shelf.Ren}
end
end Go.Pv

/-
  Plain: what the factors of a list of sets are; sorted lists. Conditions: none.
-/
set_option linter.all false
namespace Go.Proofs.YtboadfahlflmhaaDoor

open Go.Pv
section
variable {n e:Nat} {f:Nat→Nat→Nat}
noncomputable def okR (n:Nat) (f:Nat→Nat→Nat) (e:Nat) (l:List Int):Bool:=@decide (∃ p,l=thl n p∧Sub n f e p) (Classical.propDecidable _)
variable {l:List (List Int)}
/-- As many sets as can be. -/
structure Fw (n:Nat) (l:List (List Int)):Prop where
 lo:1≤l.length
 hi:l.length≤10
structure Fz (n:Nat) (l:List (List Int)):Prop extends Fw n l where
 first:(l.getD 0 []).length=n
 last:(l.getD (l.length - 1) []).length=1
/-- All in their form. -/
structure Fo (n:Nat) (f:Nat→Nat→Nat) (e:Nat) (l:List (List Int)):Prop extends Fz n l where
 ok:∀ i,i < l.length→okR n f e (l.getD i [])=true
end
end Go.Proofs.YtboadfahlflmhaaDoor

/-
  Walks: the law QuotMakes. Conditions: none.
-/
set_option linter.all false
namespace Go.Proofs.YtboadfahlflmhaaDoor
open Go.Pv

end Go.Proofs.YtboadfahlflmhaaDoor

/-
  Walks: the law QuotSimple. Conditions: none.
-/
set_option linter.all false
namespace Go.Proofs.YtboadfahlflmhaaDoor
open Go.Pv

end Go.Proofs.YtboadfahlflmhaaDoor

/-
  Contracts of the library, laid at this dump: numbers, and that each body is the same. Conditions: none; written by a program of this repo out of the kit's own tool.
-/
set_option linter.all false
namespace Go.Proofs
open Go.Shelf
end Go.Proofs

/-
  The program's Factors. Conditions: none.
-/
set_option linter.all false
namespace Go.Proofs.YtboadfahlflmhaaDoor
open Go.Pv

section
variable {n e k d:Nat} {f g:Nat→Nat→Nat} {p q:Nat→Bool}
end

section
variable {n e:Nat} {m:List Int} {p q:Nat→Bool}
end
end Go.Proofs.YtboadfahlflmhaaDoor

/-
  Rows of equations modulo a prime, reduced as they come: what is reckoned. Conditions: none.
-/
set_option linter.all false
namespace Go.Proofs.YtboadfahlflmhaaDoor
open Go.Pv

/-- The primes that are let in. -/
def pr (p:Nat):Prop:=p=2∨p=3∨p=5∨p=7
instance (p:Nat):Decidable (pr p):=by unfold pr; infer_instance
theorem pr.le {p:Nat} (h:pr p):2≤p∧p≤7:=by unfold pr at h; omega

/-- All that is in a row is between 0 and p. -/
def rng (p:Nat) (u:List Int):Prop:=∀ t,t < u.length→0≤u.getD t 0∧u.getD t 0 < p

/-- The least number that makes 1 of another. -/
def inv (p:Nat) (x:Int):Nat:=((List.range p).find? fun k=>decide ((k * x.toNat) % p=1)).getD 0

/-- Rows that are as they should be. -/
structure Ech (p n:Nat) (L:List (Nat × List Int)):Prop where
 keys:(L.map (·.1)).Nodup
 lt:∀ e∈L,e.1 < n
 len:∀ e∈L,e.2.length=n
 rg:∀ e∈L,rng p e.2
 one:∀ e∈L,e.2.getD e.1 0=1
 zero:∀ e∈L,∀ j,j < e.1→e.2.getD j 0=0

end Go.Proofs.YtboadfahlflmhaaDoor

/-
  Walks: rows of equations: a new one; a row is added. Conditions: none.
-/
set_option linter.all false
namespace Go.Proofs.YtboadfahlflmhaaDoor
open Go.Pv

end Go.Proofs.YtboadfahlflmhaaDoor

/-
  Walks: kernels and images. Conditions: none.
-/
set_option linter.all false
namespace Go.Proofs.YtboadfahlflmhaaDoor
open Go.Pv

section
variable {α:Type} [DecidableEq α]
end
section
variable {n e n' e' : Nat} {m m' l:List Int}
end
end Go.Proofs.YtboadfahlflmhaaDoor

/-
  The law HomComposes. Conditions: none.
-/
set_option linter.all false
namespace Go.Proofs.YtboadfahlflmhaaDoor
open Go.Pv

section
variable {n e n' e' : Nat} {m m' l k:List Int}
theorem homf_of (h:GT n m n e) (h' : GT n' m' n' e') (hH:Hom m m' l n n'):homf n m n' m' l=(0,0):=by
 rw [homf_2 (by rw [tg_ok h h']) (by rw [hH.1]) fun j hj=>decide_eq_false fun hb=>by
  obtain ⟨h1,h2⟩:=hH.2.1 j (by rw [← hH.1]; exact hj)
  rw [h1] at hb; omega]
 exact homf2_0 fun j hj=>hH.2.2 j hj
theorem Hom.hmo (hH:Hom m m' l n n'):Hmo n (op m n) n' (op m' n') (hv l):=⟨fun a ha=>(hH.2.1 a ha).2,fun a b ha hb=>(hH.2.2 a ha b hb).symm⟩
theorem hom_of_hmo {φ:Nat→Nat} (G:Grp n (op m n) e) (h:Hmo n (op m n) n' (op m' n') φ):Hom m m' (tbm n φ) n n':=by
 have hvv:∀ a,a < n→hv (tbm n φ) a=φ a:=fun a ha=>by unfold hv; rw [tbm_get ha]; rfl
 refine ⟨tbm_len n φ,fun a ha=>?_,fun a ha b hb=>?_⟩
 ·rw [hvv a ha,tbm_get ha]; exact ⟨rfl,h.lt a ha⟩
 ·rw [hvv a ha,hvv b hb,hvv _ (G.cl _ _ ha hb),h.mul a b ha hb]
theorem Hom.rng (hH:Hom m m' l n n'):∀ x∈l,0≤x∧x < (n' : Int):=fun x hx=>by
 obtain ⟨i,hi,rfl⟩:=List.getElem_of_mem hx
 obtain ⟨h1,h2⟩:=hH.2.1 i (by rw [← hH.1]; exact hi)
 rw [show l.getD i 0=l[i] by simp [List.getD,List.getElem?_eq_getElem hi]] at h1
 rw [h1]; omega
end
end Go.Proofs.YtboadfahlflmhaaDoor

/-
  The law HomTheorem. Conditions: none.
-/
set_option linter.all false
namespace Go.Proofs.YtboadfahlflmhaaDoor
open Go.Pv

section
variable {n e N d:Nat} {f g:Nat→Nat→Nat} {φ:Nat→Nat}
theorem Hmo.iv (G:Grp n f e) (K:Grp N g d) (h:Hmo n f N g φ) {a:Nat} (ha:a < n):φ (iv n f e a)=iv N g d (φ a):=by
 have h1:=h.lt a ha
 have h2:=h.lt _ (G.iv_lt ha)
 have h3:=h.mul a _ ha (G.iv_lt ha)
 rw [G.mul_iv ha,h.one G K] at h3
 refine K.cancel_l h1 h2 (K.iv_lt h1) ?_
 rw [← h3,K.mul_iv h1]
end
end Go.Proofs.YtboadfahlflmhaaDoor

/-
  Isomorphisms; Noether's first theorem. Conditions: none.
-/
set_option linter.all false
namespace Go.Proofs.YtboadfahlflmhaaDoor
open Go.Pv

/-- An isomorphism. -/
def Isom (n:Nat) (f:Nat→Nat→Nat) (N:Nat) (g:Nat→Nat→Nat) (φ:Nat→Nat):Prop:=Hmo n f N g φ∧onto1 (tbm n φ) N
theorem isom_iff {n N:Nat} {f g:Nat→Nat→Nat} {φ:Nat→Nat} : Isom n f N g φ↔Hmo n f N g φ∧n=N∧∀ y,y < N→∃ x,x < n∧φ x=y:=by
 unfold Isom onto1
 rw [tbm_len]
 constructor
 ·rintro ⟨h1,h2,h3⟩
  refine ⟨h1,h3,fun y hy=>?_⟩
  obtain ⟨x,hx,e⟩:=List.mem_map.1 (h2 y hy)
  exact ⟨x,List.mem_range.1 hx,by omega⟩
 ·rintro ⟨h1,h2,h3⟩
  refine ⟨h1,fun y hy=>?_,h2⟩
  obtain ⟨x,hx,rfl⟩:=h3 y hy
  exact List.mem_map.2 ⟨x,List.mem_range.2 hx,rfl⟩
section
variable {n e N d:Nat} {m M:List Int} {φ:Nat→Nat}
end
section
variable {n e N d:Nat} {f g:Nat→Nat→Nat} {φ:Nat→Nat}
theorem Isom.inj (h:Isom n f N g φ) {a b:Nat} (ha:a < n) (hb:b < n) (hab:φ a=φ b):a=b:=by
 obtain ⟨h1,h2,h3⟩:=isom_iff.1 h
 subst h2
 have hc:∀ y,∃ x,y < n→x < n∧φ x=y:=fun y=>by
  by_cases hy:y < n
  ·obtain ⟨x,hx⟩:=h3 y hy
   exact ⟨x,fun _=>hx⟩
  ·exact ⟨0,fun h=>absurd h hy⟩
 obtain ⟨ψ,hψ⟩:∃ ψ:Nat→Nat,∀ y,y < n→ψ y < n∧φ (ψ y)=y:=⟨fun y=>Classical.choose (hc y),fun y hy=>Classical.choose_spec (hc y) hy⟩
 have hnd:((List.range n).map ψ).Nodup:=nodup_map List.nodup_range fun y hy z hz hyz=>by
  rw [← (hψ y (List.mem_range.1 hy)).2,← (hψ z (List.mem_range.1 hz)).2,hyz]
 have hall:∀ a,a < n→∃ y,y < n∧ψ y=a:=fun a ha=>Classical.byContradiction fun hne=>by
  have hn2:(a :: (List.range n).map ψ).Nodup:=List.nodup_cons.2 ⟨fun hm=>by
   obtain ⟨y,hy,e⟩:=List.mem_map.1 hm
   exact hne ⟨y,List.mem_range.1 hy,e⟩,hnd⟩
  have:=nodup_lt (n:=n) hn2 fun x hx=>by
   rcases List.mem_cons.1 hx with rfl | hx
   ·exact ha
   ·obtain ⟨y,hy,rfl⟩:=List.mem_map.1 hx
    exact (hψ y (List.mem_range.1 hy)).1
  simp at this
  omega
 obtain ⟨y,hy,rfl⟩:=hall a ha
 obtain ⟨z,hz,rfl⟩:=hall b hb
 rw [(hψ y hy).2,(hψ z hz).2] at hab
 rw [hab]
open Classical in
theorem Isom.symm (G:Grp n f e) (h:Isom n f N g φ):∃ ψ,Isom N g n f ψ:=by
 obtain ⟨h1,h2,h3⟩:=isom_iff.1 h
 have hc:∀ y,∃ x,y < N→x < n∧φ x=y:=fun y=>by
  by_cases hy:y < N
  ·obtain ⟨x,hx⟩:=h3 y hy
   exact ⟨x,fun _=>hx⟩
  ·exact ⟨0,fun h=>absurd h hy⟩
 refine ⟨fun y=>Classical.choose (hc y),isom_iff.2 ⟨⟨fun y hy=>(Classical.choose_spec (hc y) hy).1,fun y z hy hz=>?_⟩,h2.symm,fun x hx=>?_⟩⟩
 ·obtain ⟨a1,a2⟩:=Classical.choose_spec (hc y) hy
  obtain ⟨b1,b2⟩:=Classical.choose_spec (hc z) hz
  have hgl:g y z < N:=by
   have:=h1.lt _ (G.cl _ _ a1 b1)
   rwa [h1.mul _ _ a1 b1,a2,b2] at this
  obtain ⟨c1,c2⟩:=Classical.choose_spec (hc (g y z)) hgl
  refine h.inj c1 (G.cl _ _ a1 b1) ?_
  rw [c2,h1.mul _ _ a1 b1,a2,b2]
 ·obtain ⟨c1,c2⟩:=Classical.choose_spec (hc (φ x)) (h1.lt x hx)
  exact ⟨φ x,h1.lt x hx,h.inj c1 hx c2⟩
end
end Go.Proofs.YtboadfahlflmhaaDoor

/-
  Walks: the search for an isomorphism. Conditions: none.
-/
set_option linter.all false
namespace Go.Pv
open Go.RowKit
/-- The first that is asked. -/
def prI (f:PV→Bool) (ox:List Int→Prop):Prot (Option (List Int)) where
 c4 i:=match i with
  | none=>.nil
  | some v=>.list (il v)
 c51 _:=.int .i64 0
 c52 _:=.int .i64 0
 R _:=[]
 go _ x:=!f x
 nx i x:=if f x then (match x with | .list l=>some (l.map Go.Proofs.YtboadfahlflmhaaDoor.pvi) | _=>none) else i
 ok i:=i=none
 okx x:=∃ v,x = .list (il v)∧ox v
 ok_nx i x h _ hg:=by
  have hf:f x=false:=by simpa using hg
  simp only [hf]; exact h
 ones _ _:=rfl
end Go.Pv
namespace Go.Proofs.YtboadfahlflmhaaDoor
open Go.Pv

section
variable {n e N d:Nat} {m M:List Int} {σ:Type}
theorem prI_nx {f:PV→Bool} {ox:List Int→Prop} {v:List Int} (h:f (.list (il v))=true) (i:Option (List Int)):(prI f ox).nx i (.list (il v))=some v:=by
 show (if f (.list (il v))=true then _ else _)=_
 rw [if_pos h]
 show some ((il v).map pvi)=_
 rw [pvi_il]
theorem prI_nn {f:PV→Bool} {ox:List Int→Prop} {x:PV} (h:f x=false) (i:Option (List Int)):(prI f ox).nx i x=i:=by
 show (if f x=true then _ else _)=_
 rw [h]; rfl
theorem foldI_no (n:Nat) (ox:List Int→Prop):∀ W:List (List Int),(∀ w∈W,¬ onto1 w n)→foldS (prI (fA n) ox) none (pls W)=(none,true)
 | [],_=>rfl
 | w :: W,h=>by
  have hw:fA n (.list (il w))=false:=by rw [fA_il]; exact decide_eq_false (h w (List.mem_cons_self ..))
  show foldS _ _ (.list (il w) :: pls W)=_
  unfold foldS
  have hg:(prI (fA n) ox).go none (.list (il w))=true:=by show (!fA n _)=true; rw [hw]; rfl
  rw [hg,if_pos rfl,prI_nn hw]
  exact foldI_no n ox W fun w' hw'=>h w' (List.mem_cons_of_mem _ hw')
theorem foldI_yes (n:Nat) (ox:List Int→Prop):∀ W:List (List Int),(∃ w∈W,onto1 w n)→∃ w∈W,onto1 w n∧foldS (prI (fA n) ox) none (pls W)=(some w,false)
 | [],h=>by obtain ⟨w,hw,_⟩:=h; cases hw
 | w :: W,h=>by
  by_cases ho:onto1 w n
  ·refine ⟨w,List.mem_cons_self ..,ho,?_⟩
   have hw:fA n (.list (il w))=true:=by rw [fA_il]; exact decide_eq_true ho
   show foldS _ _ (.list (il w) :: pls W)=_
   unfold foldS
   have hg:(prI (fA n) ox).go none (.list (il w))=false:=by show (!fA n _)=false; rw [hw]; rfl
   rw [hg,prI_nx hw]; rfl
  ·obtain ⟨w',hw',ho'⟩:=h
   have hm:w'∈W:=by
    rcases List.mem_cons.1 hw' with rfl | h
    ·exact absurd ho' ho
    ·exact h
   obtain ⟨u,hu,hu2,hu3⟩:=foldI_yes n ox W ⟨w',hm,ho'⟩
   refine ⟨u,List.mem_cons_of_mem _ hu,hu2,?_⟩
   have hw:fA n (.list (il w))=false:=by rw [fA_il]; exact decide_eq_false ho
   show foldS _ _ (.list (il w) :: pls W)=_
   unfold foldS
   have hg:(prI (fA n) ox).go none (.list (il w))=true:=by show (!fA n _)=true; rw [hw]; rfl
   rw [hg,if_pos rfl,prI_nn hw]
   exact hu3

/-- How many things have each order. -/
def cnt1 (n:Nat) (f:Nat→Nat→Nat) (e j k:Nat):Int:=((mem j fun b=>decide (ord n f e b=k)).length:Nat)
theorem cnt1_succ (f:Nat→Nat→Nat) (j k:Nat):cnt1 n f e (j + 1) k=if k=ord n f e j then cnt1 n f e j (ord n f e j) + 1 else cnt1 n f e j k:=by
 unfold cnt1 mem
 rw [List.range_succ,List.filter_append]
 by_cases hk:k=ord n f e j
 ·subst hk
  simp
 ·have:¬ ord n f e j=k:=fun h=>hk h.symm
  simp [hk,this]
theorem Isom.cnt {f g:Nat→Nat→Nat} {φ:Nat→Nat} (G:Grp n f e) (K:Grp N g d) (h:Isom n f N g φ) (k:Nat):cnt1 n f e n k=cnt1 N g d N k:=by
 obtain ⟨h1,h2,h3⟩:=isom_iff.1 h
 subst h2
 unfold cnt1
 have ho:∀ a,a < n→ord n g d (φ a)=ord n f e a:=fun a ha=>by
  refine Nat.dvd_antisymm (h1.ord G K ha) ?_
  
  rw [← G.pw_eq_one ha]
  refine h.inj (G.pw_lt ha _) G.el ?_
  rw [h1.pw G K ha,K.pw_ord (h1.lt a ha),h1.one G K]
 refine congrArg _ (mem_bij φ (fun x hx hp=>⟨h1.lt x hx,?_⟩) (fun x y hx hy _ _ e=>h.inj hx hy e) fun y hy hp=>?_)
 ·simp only [decide_eq_true_eq] at hp ⊢
  rw [ho x hx,hp]
 ·obtain ⟨x,hx,rfl⟩:=h3 y hy
  simp only [decide_eq_true_eq] at hp ⊢
  exact ⟨x,hx,by rw [← ho x hx,hp],rfl⟩
theorem isoc_c (h:GT n m n e):FnC Tryd.prog 93 [gp n m] (.list (il (rgz (n + 1) (cnt1 n (op m n) e n)))):=by
 have hn:=h.2.1.big
 have h0:(rgz (n + 1) fun _=>(0:Int))=rgz (n + 1) (cnt1 n (op m n) e 0):=rfl
 have hc:((n:Nat):Int) + 1=((n + 1:Nat):Int):=rfl
 refine fnc_of tab_ok Tryd.func93 rfl (by kernel_rfl) (by rw [Tryd.ntmps93]; exact Nat.le_add_left 1 _) ?_; rw [Tryd.ntmps93]
 refine qm ?_
 refine hk_region fun K hK=>runs_eval tab_ok ?_
 simp only [ev0,evA,evB,evP,fl,gp,tab,simprocAttr,reduceCtorEq,reduceIte]
 refine fin_run ?_ (hK _ ?_)<;>clear hK<;>clear K
 ·(first|exact trivial|omega|(simp only [In64] at *; omega)|(simp [In64] at *; omega)|(simp_all; done)|skip)
 refine qa (qm ?_)
 refine hk_region fun K hK=>runs_eval tab_ok ?_
 simp only [ev0,evA,evB,evP,fl,gp,tab,simprocAttr,reduceCtorEq,reduceIte,hc,makeSliceA.eq_def,rgz_new]
 refine fin_run ?_ (hK _ ?_)<;>clear hK<;>clear K
 ·skip
  exact ⟨⟨by omega,by omega⟩,by omega,by omega,by omega,by omega⟩
 refine qa (qm (qm ?_))
 refine hk_region fun K hK=>runs_eval tab_ok ?_
 simp only [ev0,evA,evB,evP,fl,gp,tab,simprocAttr,reduceCtorEq,reduceIte]
 refine fin_run ?_ (hK _ ?_)<;>clear hK<;>clear K
 ·(first|exact trivial|omega|(simp only [In64] at *; omega)|(simp [In64] at *; omega)|(simp_all; done)|skip)
 refine qa (ql ?_)
 refine hk_loop (ι:=Nat) (fun a=>⟨24,[(1,.ptr 0 0),(3,.sl 1 0 (n + 1)),(10,.p (.int .i64 n)),(11,.p (.int .i64 a))],[.own [.p (.int .i64 n),.p (.list (il m))],.own (ol (rgz (n + 1) (cnt1 n (op m n) e a)))]⟩) (fun a=>a≤n) (fun a=>n - a) 0 (Nat.zero_le _) [0,1] (by simp only [leq,leA,ev0,evA,evB,evP,fl,gp,tab,simprocAttr,reduceCtorEq,reduceIte]<;>first|trivial|exact ⟨rfl,rfl⟩|(rw [h0,List.take_length]; done)|trace_state) fun a ha=>?_
 have hrl:=rgz_len (n + 1) (cnt1 n (op m n) e a)
 refine qm ?_
 refine hk_region fun K hK=>runs_eval tab_ok ?_
 simp only [ev0,evA,evB,evP,fl,gp,tab,simprocAttr,reduceCtorEq,reduceIte]
 refine fin_run trivial (hK _ ?_)<;>clear hK<;>clear K
 refine qa (qm ?_)
 refine hk_cond rfl (fun hC1=>?_) (fun hC1=>?_)
 ·(try simp only [nhs] at hC1)
  have hal:a < n:=by omega
  have hol:ord n (op m n) e a < n + 1:=by have:=(h.2.2.ord_spec hal).2.1; omega
  have hg:=rgz_get (g:=cnt1 n (op m n) e a) hol
  have hse:(rgz (n + 1) (cnt1 n (op m n) e a)).set (ord n (op m n) e a) (cnt1 n (op m n) e a (ord n (op m n) e a) + 1)=rgz (n + 1) (cnt1 n (op m n) e (a + 1)):=by
   rw [rgz_set]
   exact rgz_congr fun k hk=>(cnt1_succ (op m n) a k).symm
  have hcb:cnt1 n (op m n) e a (ord n (op m n) e a)≤n:=by
   unfold cnt1 mem
   have h1:=List.length_filter_le (fun b=>decide (ord n (op m n) e b=ord n (op m n) e a)) (List.range a)
   rw [List.length_range] at h1
   omega
  have hc0:0≤cnt1 n (op m n) e a (ord n (op m n) e a):=Int.natCast_nonneg _
  refine qh (qa (qm (ql (qm ?_))))
  refine hk_region fun K hK=>runs_eval tab_ok ?_
  simp only [ev0,evA,evB,evP,fl,gp,tab,simprocAttr,reduceCtorEq,reduceIte]
  refine fin_run trivial (hK _ ?_)<;>clear hK<;>clear K
  refine qa ?_
  refine hk_region fun K hK=>runs_eval tab_ok ?_
  simp only [ev0,evA,evB,evP,fl,gp,tab,simprocAttr,reduceCtorEq,reduceIte,ol_length,hrl,ol_get (show ord n (op m n) e a < (rgz (n + 1) (cnt1 n (op m n) e a)).length by omega),hg,ol_set,hse]
  refine fin_stop ?_ (runs_call (orderOf_c h hal) rfl rfl rfl (by simp only [dstOk,Nat.reduceLT]) (by repeat (first|exact trivial|constructor)) (runs_eval tab_ok ?_))
  ·(first|exact trivial|omega|(simp only [In64] at *; omega)|(simp [In64] at *; omega)|(simp_all; done)|skip)
  simp only [ev0,evA,evB,evP,fl,gp,tab,simprocAttr,reduceCtorEq,reduceIte,ol_length,hrl,ol_get (show ord n (op m n) e a < (rgz (n + 1) (cnt1 n (op m n) e a)).length by omega),hg,ol_set,hse]
  refine fin_run ?_ (hK _ ?_)<;>clear hK<;>clear K
  ·(first|exact trivial|omega|(simp only [In64] at *; omega)|(simp [In64] at *; omega)|(simp_all; done)|skip)
  refine qd (qa ?_)
  refine hk_region fun K hK=>runs_eval tab_ok ?_
  simp only [ev0,evA,evB,evP,fl,gp,tab,simprocAttr,reduceCtorEq,reduceIte]
  refine fin_run ?_ (hK _ ?_)<;>clear hK<;>clear K
  ·(first|exact trivial|omega|(simp only [In64] at *; omega)|(simp [In64] at *; omega)|(simp_all; done)|skip)
  refine qa ?_
  refine ⟨a + 1,[0,1],by omega,by omega,?_⟩
  simp only [leq,leA,ev0,evA,evB,evP,fl,gp,tab,simprocAttr,reduceCtorEq,reduceIte]<;>first|trivial|omega|trace_state
 ·(try simp only [nhs] at hC1)
  obtain rfl:a=n:=by omega
  refine hk_seal 3 1 (w:=rgz (a + 1) (cnt1 a (op m a) e a)) (by rw [hrl]; rfl) rfl ?_
  refine qj (qc (qc (qf (qa (qm ?_)))))
  refine hk_region fun K hK=>runs_eval tab_ok ?_
  simp only [ev0,evA,evB,evP,fl,gp,tab,simprocAttr,reduceCtorEq,reduceIte]
  refine fin_run trivial (hK _ ?_)<;>clear hK<;>clear K
  refine qa (qk ?_)
  simp only [Tryd.results93,enA,ev0,evA,evB,evP,fl,gp,tab,simprocAttr,reduceCtorEq,reduceIte]
  all_goals (rfl)

set_option maxHeartbeats 8000000 in
set_option maxRecDepth 20000 in
theorem iso2_c (p:Prot σ) (h:GT n m n e) (h' : GT N M N d) (L:List Nat) (hL:L=gl n (op m n) e n) {rec:Loop} (hrp:rec.params.size=1) {l:List AV} (hY:RoundsV Tryd.prog p rec l) (hokx:∀ φ,Hmo n (op m n) N (op M N) φ→p.okx (.list (il (tbm n φ))))
  (hl:l.all (sc1 3)=true) (i:σ) (hi:p.ok i) {j:σ} {b:Bool} (hf:foldS p i (pls (hsq n (op m n) e N (op M N) d L L []))=(j,b)) :
  FnQ Tryd.prog 3 95 [.yv 2 l rec.tmps,.p (.ptr [.int .i64 n,.list (il m)]),.p (.ptr [.int .i64 N,.list (il M)])] (HV p i (.lp rec)) (.p (.tup [])) (HV p j (.lp (recB b rec))):=by
 have hE:=veach_c p h h' L hL hrp hY hokx hl i hi hf
 have hl3:l.map (ren1 [0,1,2])=l:=(List.map_congr_left fun x hx=>ren1_range (n:=3) (List.all_eq_true.1 hl x hx)).trans (List.map_id _)
 unfold HV at hE ⊢
 refine fnq_of (q:=3) tab_ok Tryd.func95 rfl (by kernel_rfl) (by rw [Tryd.ntmps95]; exact Nat.le_add_left 3 _) ?_; rw [Tryd.ntmps95]; simp only [ancs,entA,List.length_cons,List.length_nil,List.cons_append,List.nil_append,Nat.reduceAdd,Nat.zero_add]
 refine hk_region fun K hK=>runs_eval tab_ok ?_
 simp only [ev0,evA,evB,evP,fl,gp,tab,simprocAttr,reduceCtorEq,reduceIte]
 refine fin_stop ?_ (runs_callQ [0,1,2] (hE) rfl rfl ?_ (by simp only [leA,ev0,evA,evB,evP,fl,gp,tab,simprocAttr,reduceCtorEq,reduceIte]; first|trivial|(simp only [ll_takeL]; first|trivial|(repeat constructor; done))|(repeat constructor)) (by decide) (by first|rfl|(simp only [List.length_cons,List.length_nil,List.length_append]; decide)) (by first|rfl|(simp [scQ,scA,sc1,mpKeep,notAnc,Blk.spc,opl_sc]; done)) (by simp only [dstOk,Nat.reduceLT]) (runs_eval tab_ok ?_))
 ·(first|exact trivial|omega|(simp only [In64] at *; omega)|(simp [In64] at *; omega)|(simp_all; done)|skip)
 ·(simp only [argsM,argM1,peekG,peekS,scA,sc1,ren,ren1,List.map_cons,List.map_nil,List.append_nil,List.cons_append,List.nil_append,enA,ev0,evA,evB,evP,fl,gp,tab,simprocAttr,reduceCtorEq,reduceIte]; try trivial)
  exact ⟨by rw [hl3],all_up (by decide) hl⟩
 simp only [putM,kills,hset,List.take_succ_cons,List.take_zero,List.drop_succ_cons,List.drop_zero,List.range',Blk.ren,ren,ren1,List.map_cons,List.map_nil,List.cons_append,List.nil_append,List.append_nil,List.length_cons,List.length_nil,ev0,evA,evB,evP,fl,gp,tab,simprocAttr,reduceCtorEq,reduceIte]
 refine fin_run ?_ (hK _ ?_)<;>clear hK<;>clear K
 ·(first|exact trivial|omega|(simp only [In64] at *; omega)|(simp [In64] at *; omega)|(simp_all; done)|skip)
 simp only [Tryd.results95,PostG,endG,rvsA,rvA,mkTup,ev0,evA,evB,evP,fl,gp,tab,simprocAttr,reduceCtorEq,reduceIte]
 all_goals (exact ⟨[0,1,2,3,4,5],rfl,rfl,by simp only [leq,leA,ev0,evA,evB,evP,fl,gp,tab,simprocAttr,reduceCtorEq,reduceIte]<;>first|trivial|trace_state⟩)
end
end Go.Proofs.YtboadfahlflmhaaDoor
