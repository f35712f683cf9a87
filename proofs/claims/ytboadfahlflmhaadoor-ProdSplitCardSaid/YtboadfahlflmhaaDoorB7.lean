/-
  Texts of this proof, one behind the other: what each says stands at its head. Conditions: none.
-/
import Derived.Test.YtboadfahlflmhaaDoorB6
import Derived.Test.YtboadfahlflmhaaDoorB5
import Derived.Test.YtboadfahlflmhaaDoorRows
import Derived.Test.YtboadfahlflmhaaDoorB2
import Derived.ProofKit
import Derived.LaidMore
import Derived.OpenShut
import Derived.Stop.Joined

/-
  The law ProdSplit. Conditions: none.
-/
set_option linter.all false
namespace Go.Proofs.YtboadfahlflmhaaDoor
open Go.Pv

section
variable {n e:Nat} {m:List Int}
theorem no_two (h:GT n m n e) {P:Nat→Bool} (hI:IndT n (op m n) e P) {A B:Nat→Bool} (hA:Sub (thl n P).length (op (ptb n (op m n) P) (thl n P).length) (pix P e) A) (hB:Sub (thl n P).length (op (ptb n (op m n) P) (thl n P).length) (pix P e) B)
  (a1:¬ (thl (thl n P).length A).length=1) (b1:¬ (thl (thl n P).length B).length=1):¬ ((mem (thl n P).length A).length * (mem (thl n P).length B).length=(thl n P).length∧(mem (thl n P).length fun x=>A x && B x).length=1∧Cmm (thl n P).length (op (ptb n (op m n) P) (thl n P).length) A B):=by
 rintro ⟨h1,h2,h3⟩
 have G:=h.2.2
 have hP:=hI.1
 have hPt:=ptb_GT h hP
 have lh:=lat_hmo h hP
 
 have lift:∀ A:Nat→Bool,Sub (thl n P).length (op (ptb n (op m n) P) (thl n P).length) (pix P e) A→Sub n (op m n) e (fun x=>P x && A (pix P x))∧(thl n fun x=>P x && A (pix P x)).length=(thl (thl n P).length A).length:=fun A hA=>by
  have hpP:∀ a,a < n→(P a && A (pix P a))=true→P a=true:=fun a _ h=>by simp at h; exact h.1
  have hpx:∀ a,a < n→∀ b,b < n→P a=true→P b=true→pix P (op m n a b)=op (ptb n (op m n) P) (thl n P).length (pix P a) (pix P b):=fun a ha b hb pa pb=>by
   have x1:=pix_at ha pa
   have x2:=pix_at hb pb
   have h4:=hPt.2.2.cl _ _ x1.1 x2.1
   have h5:=lh.mul _ _ x1.1 x2.1
   rw [lat_pixI ha pa,lat_pixI hb pb] at h5
   rw [← h5,(lat_at h4).2.2.2]
  refine ⟨sub_of G ?_ fun a b ha hb k1 k2=>?_,?_⟩
  ·simp [hP.one,hA.one]
  ·simp only [Bool.and_eq_true] at k1 k2 ⊢
   have x1:=pix_at ha k1.1
   have x2:=pix_at hb k2.1
   exact ⟨hP.mul _ _ ha hb k1.1 k2.1,by rw [hpx a ha b hb k1.1 k2.1]; exact hA.mul _ _ x1.1 x2.1 k1.2 k2.2⟩
  ·have e1:=lat_len hpP
   have e2:(mem (thl n P).length fun i=>P (lat n P i) && A (pix P (lat n P i))).length=(thl (thl n P).length fun i=>P (lat n P i) && A (pix P (lat n P i))).length:=(thl_len _ _).symm
   rw [← e1,e2]
   refine congrArg List.length (thl_congr fun i hi=>?_)
   obtain ⟨l1,l2,l3,l4⟩:=lat_at hi
   show (P (lat n P i) && A (pix P (lat n P i)))=A i
   rw [l2,l4]; rfl
 obtain ⟨sA,eA⟩:=lift A hA
 obtain ⟨sB,eB⟩:=lift B hB
 have e1:(mem (thl n P).length A).length=(thl (thl n P).length A).length:=(thl_len _ _).symm
 have e2:(mem (thl n P).length B).length=(thl (thl n P).length B).length:=(thl_len _ _).symm
 rw [e1,e2] at h1
 have hm:=(hPt.2.2.meet_len hA hB).1 h2
 have l1:=len_pos hPt.2.2 hA
 have hg:gdp n (op m n) e P (fun x=>P x && A (pix P x)) (fun x=>P x && B (pix P x)):=by
  unfold gdp
  rw [eA,eB]
  refine ⟨⟨a1,fun hh=>b1 ?_,fun a _ k=>by simp at k; exact k.1,?_⟩,⟨h1,fun a _ k=>by simp at k; exact k.1,fun a ha k1 k2=>?_⟩,fun a b ha hb k1 k2=>?_⟩
  ·have h9:(thl (thl n P).length A).length * (thl (thl n P).length B).length=(thl (thl n P).length A).length * 1:=by rw [h1,Nat.mul_one,hh]
   exact Nat.eq_of_mul_eq_mul_left (by omega) h9
  ·exact Nat.mod_eq_zero_of_dvd ⟨_,h1.symm⟩
  ·simp only [Bool.and_eq_true] at k1 k2
   have x1:=pix_at ha k1.1
   have h4:=hm _ x1.1 k1.2 k2.2
   have h5:=lat_pixI ha k1.1
   rw [h4,lat_pixI G.el hP.one] at h5
   exact h5.symm
  ·simp only [Bool.and_eq_true] at k1 k2
   have x1:=pix_at ha k1.1
   have x2:=pix_at hb k2.1
   have h4:=congrArg (lat n P) (h3 _ _ x1.1 x2.1 k1.2 k2.2)
   rwa [lh.mul _ _ x1.1 x2.1,lh.mul _ _ x2.1 x1.1,lat_pixI ha k1.1,lat_pixI hb k2.1] at h4
 obtain ⟨D,d1,d2,_,_⟩:=gdp_dpt G hP sA sB hg
 rcases hI.2 _ _ D with h5 | h5
 ·exact d1 h5
 ·exact d2 h5
theorem AllS.two {f:Nat→Nat→Nat} {SL:List Nat} (G:Grp n f e) (hn:n≤60) (hS:AllS n f e SL) {i:Nat} (hi:i < SL.length) (h1:1≤i) {A:Nat→Bool} (hA:Sub n f e A) (he:SL.getD i 0=bo n A):¬ (thl n A).length=1:=fun hl=>by
 have hp:=hS.pair (i:=0) (j:=i) (by omega) hi
 obtain ⟨p,hsp,hpe⟩:=hS.subs (SL.getD 0 0) (by simp [List.getD,List.getElem?_eq_getElem (show 0 < SL.length by omega)])
 rw [hpe,he,stl_bo hn,stl_bo hn,cmpS_lt] at hp
 have l1:=len_pos G hsp
 have h2:(thl n p).length=1:=by omega
 have e1:=(one_len G hA).1 hl
 have e2:=(one_len G hsp).1 h2
 have:thl n p=thl n A:=thl_congr fun a ha=>by
  rw [Bool.eq_iff_iff]
  exact ⟨fun h=>by rw [e2 a ha h]; exact hA.one,fun h=>by rw [e1 a ha h]; exact hsp.one⟩
 rw [this,cmpL_self] at hp
 omega

theorem split_no (N:Int) (m:List Int) (hm:m.length≤1000000000000000) (hf:¬ (gf N m).1=0):FnC Tryd.prog 69 [gp N m] (.tup [.list (ll []),fl (gf N m)]):=by
 refine fnc_of tab_ok Tryd.func69 rfl (by kernel_rfl) (by rw [Tryd.ntmps69]; exact Nat.le_add_left 1 _) ?_; rw [Tryd.ntmps69]
 refine qm ?_
 refine hk_region fun K hK=>runs_eval tab_ok ?_
 simp only [ev0,evA,evB,evP,fl,gp,tab,simprocAttr,reduceCtorEq,reduceIte]
 refine fin_run ?_ (hK _ ?_)<;>clear hK<;>clear K
 ·(first|exact trivial|omega|(simp only [In64] at *; omega)|(simp [In64] at *; omega)|(simp_all; done)|skip)
 refine qa (qm (qm ?_))
 refine hk_region fun K hK=>runs_eval tab_ok ?_
 simp only [ev0,evA,evB,evP,fl,gp,tab,simprocAttr,reduceCtorEq,reduceIte]
 refine fin_stop trivial (runs_call (check_c N m hm) rfl rfl rfl (by simp only [dstOk,Nat.reduceLT]) (by repeat (first|exact trivial|constructor)) (runs_eval tab_ok ?_))
 simp only [ev0,evA,evB,evP,fl,gp,tab,simprocAttr,reduceCtorEq,reduceIte]
 refine fin_run ?_ (hK _ ?_)<;>clear hK<;>clear K
 ·(first|exact trivial|omega|(simp only [In64] at *; omega)|(simp [In64] at *; omega)|(simp_all; done)|skip)
 refine qa (qm ?_)
 refine hk_region fun K hK=>runs_eval tab_ok ?_
 simp only [ev0,evA,evB,evP,fl,gp,tab,simprocAttr,reduceCtorEq,reduceIte]
 refine fin_run ?_ (hK _ ?_)<;>clear hK<;>clear K
 ·(first|exact trivial|omega|(simp only [In64] at *; omega)|(simp [In64] at *; omega)|(simp_all; done)|skip)
 refine qa ?_
 refine hk_cond rfl (fun hC1=>?_) (fun hC1=>?_)
 ·(try simp only [nhs] at hC1)
  refine qm ?_
  refine hk_draw2 mixed fun K hK=>runs2_eval tab_ok ?_
  simp only [evD,ev0,evA,evB,evP,fl,gp,tab,simprocAttr,reduceCtorEq,reduceIte]
  refine fin2_run ?_ (hK _ _ (by first|kernel_rfl|rfl) ?_)<;>clear hK<;>clear K
  ·(first|exact trivial|omega|(simp only [In64] at *; omega)|(simp [In64] at *; omega)|(simp_all; done)|skip)
  refine qa (qk (qb ?_))
  simp only [Tryd.results69,enA,ev0,evA,evB,evP,fl,gp,tab,simprocAttr,reduceCtorEq,reduceIte]
  all_goals (rfl)
 ·(try simp only [nhs] at hC1)
  exact absurd hC1 hf
theorem split_big (h:GT n m n e) (hm:m.length≤1000000000000000) (hn:¬ n≤24):FnC Tryd.prog 69 [gp n m] (.tup [.list (ll []),fl (2,0)]):=by
 have hb:=check_c n m hm
 rw [gf_of h] at hb
 refine fnc_of tab_ok Tryd.func69 rfl (by kernel_rfl) (by rw [Tryd.ntmps69]; exact Nat.le_add_left 1 _) ?_; rw [Tryd.ntmps69]
 refine qm ?_
 refine hk_region fun K hK=>runs_eval tab_ok ?_
 simp only [ev0,evA,evB,evP,fl,gp,tab,simprocAttr,reduceCtorEq,reduceIte]
 refine fin_run ?_ (hK _ ?_)<;>clear hK<;>clear K
 ·(first|exact trivial|omega|(simp only [In64] at *; omega)|(simp [In64] at *; omega)|(simp_all; done)|skip)
 refine qa (qm (qm ?_))
 refine hk_region fun K hK=>runs_eval tab_ok ?_
 simp only [ev0,evA,evB,evP,fl,gp,tab,simprocAttr,reduceCtorEq,reduceIte]
 refine fin_stop trivial (runs_call (hb) rfl rfl rfl (by simp only [dstOk,Nat.reduceLT]) (by repeat (first|exact trivial|constructor)) (runs_eval tab_ok ?_))
 simp only [ev0,evA,evB,evP,fl,gp,tab,simprocAttr,reduceCtorEq,reduceIte]
 refine fin_run ?_ (hK _ ?_)<;>clear hK<;>clear K
 ·(first|exact trivial|omega|(simp only [In64] at *; omega)|(simp [In64] at *; omega)|(simp_all; done)|skip)
 refine qa (qm ?_)
 refine hk_region fun K hK=>runs_eval tab_ok ?_
 simp only [ev0,evA,evB,evP,fl,gp,tab,simprocAttr,reduceCtorEq,reduceIte]
 refine fin_run ?_ (hK _ ?_)<;>clear hK<;>clear K
 ·(first|exact trivial|omega|(simp only [In64] at *; omega)|(simp [In64] at *; omega)|(simp_all; done)|skip)
 refine qa ?_
 refine hk_cond rfl (fun hC1=>?_) (fun hC1=>?_)
 ·(try simp only [nhs] at hC1)
  simp at hC1
 ·(try simp only [nhs] at hC1)
  refine qh (qa (qm (qm ?_)))
  refine hk_region fun K hK=>runs_eval tab_ok ?_
  simp only [ev0,evA,evB,evP,fl,gp,tab,simprocAttr,reduceCtorEq,reduceIte]
  refine fin_run ?_ (hK _ ?_)<;>clear hK<;>clear K
  ·(first|exact trivial|omega|(simp only [In64] at *; omega)|(simp [In64] at *; omega)|(simp_all; done)|skip)
  refine qa ?_
  refine hk_cond rfl (fun hC2=>?_) (fun hC2=>?_)
  ·(try simp only [nhs] at hC2)
   refine qm ?_
   refine hk_region fun K hK=>runs_eval tab_ok ?_
   simp only [ev0,evA,evB,evP,fl,gp,tab,simprocAttr,reduceCtorEq,reduceIte]
   refine fin_stop trivial (runs_call (prodFlt_c 2 0) rfl rfl rfl (by simp only [dstOk,Nat.reduceLT]) (by repeat (first|exact trivial|constructor)) (runs_eval tab_ok ?_))
   simp only [ev0,evA,evB,evP,fl,gp,tab,simprocAttr,reduceCtorEq,reduceIte]
   refine fin_run ?_ (hK _ ?_)<;>clear hK<;>clear K
   ·(first|exact trivial|omega|(simp only [In64] at *; omega)|(simp [In64] at *; omega)|(simp_all; done)|skip)
   refine qa (qk (qb ?_))
   simp only [Tryd.results69,enA,ev0,evA,evB,evP,fl,gp,tab,simprocAttr,reduceCtorEq,reduceIte]
   all_goals (rfl)
  ·(try simp only [nhs] at hC2)
   omega
/-- All others, one behind the other. -/
def rst (LL:List (List Int)) (i:Nat):Nat→List Int
 | 0=>[]
 | k + 1=>if k=i then rst LL i k else rst LL i k++LL.getD k []
theorem rst_mem {LL:List (List Int)} {i:Nat} {y:Int} : ∀ {k:Nat},y∈rst LL i k↔∃ j,j < k∧¬ j=i∧y∈LL.getD j []
 | 0=>by simp [rst]
 | k + 1=>by
  unfold rst
  split
  ·rename_i h
   rw [rst_mem]
   constructor
   ·rintro ⟨j,j1,j2,j3⟩; exact ⟨j,by omega,j2,j3⟩
   ·rintro ⟨j,j1,j2,j3⟩; exact ⟨j,by omega,j2,j3⟩
  ·rename_i h
   rw [List.mem_append,rst_mem]
   constructor
   ·rintro (⟨j,j1,j2,j3⟩ | j3)
    ·exact ⟨j,by omega,j2,j3⟩
    ·exact ⟨k,by omega,h,j3⟩
   ·rintro ⟨j,j1,j2,j3⟩
    by_cases hjk:j=k
    ·subst hjk; exact .inr j3
    ·exact .inl ⟨j,by omega,j2,j3⟩
theorem rst_len {LL:List (List Int)} {i:Nat} (h:∀ j,(LL.getD j []).length≤60):∀ k,(rst LL i k).length≤60 * k
 | 0=>by simp [rst]
 | k + 1=>by
  have h1:=rst_len (i:=i) h k
  have h2:=h k
  unfold rst
  split
  ·omega
  ·rw [List.length_append]; omega

theorem split_key (h:GT n m n e) (hn:n≤24) (hm:m.length≤1000000000000000):∃ LL:List (List Int),FnC Tryd.prog 69 [gp n m] (.tup [.list (ll LL),fl (0,0)])∧1≤LL.length∧LL.length≤5∧(∀ v∈LL,∃ p,v=thl n p∧IndT n (op m n) e p∧(¬ n=1→¬ (thl n p).length=1)) ∧
  (LL.Pairwise fun v w=>¬ cmpP w v < 0)∧DirL (lfp h.2.2 fun _=>true) (LL.map (rwp h.2.2))∧(n=1→LL.length=1):=by
 have G:=h.2.2
 have hb:=h.2.1.big
 obtain ⟨SL,hS⟩:=alls_ex G hb
 have hall:Sub n (op m n) e fun _=>true:=⟨rfl,fun _ _ _ _ _ _=>rfl,fun _ _ _=>rfl⟩
 have hal:(thl n fun _=>true).length=n:=by
  rw [thl_len]
  exact mem_all.2 fun _ _=>rfl
 have D:=spl_dec G hS n _ hall (by omega)
 have hp:=srtP_perm (spl n (op m n) e SL n fun _=>true)
 have hl:=hp.length_eq
 refine ⟨_,split_ok h hn hS hm,?_,?_,fun v hv=>?_,srtP_sorted _,?_,fun h1=>?_⟩
 ·have:=D.pos; omega
 ·by_cases h1:n=1
  ·rw [← hl,D.one_ G hall (by omega)]; simp
  ·have h2:=D.pow G hall (by omega)
   rw [hal,hl] at h2
   by_cases h3:(srtP (spl n (op m n) e SL n fun _=>true)).length≤5
   ·exact h3
   ·have:2 ^ 5≤2 ^ (srtP (spl n (op m n) e SL n fun _=>true)).length:=Nat.pow_le_pow_right (by omega) (by omega)
    omega
 ·obtain ⟨p,a1,a2,a3,a4⟩:=D.mem G hall v (hp.mem_iff.2 hv)
  exact ⟨p,a1,a2,fun h1=>a4 (by omega)⟩
 ·exact DirL.perm (el_gp G) (hp.map _) (D.dirL G hall)
 ·rw [← hl,D.one_ G hall (by omega)]; rfl
set_option maxRecDepth 20000 in
set_option maxHeartbeats 16000000 in
theorem prodSplit_c (N:Int) (m:List Int) (hm:m.length≤17592186043904):FnC Tryd.prog 11 [gp N m] (.bool true):=by
 have hG:=gf_c N m (by omega)
 have key:¬ (gf N m).1=0∨(∃ n e:Nat,GT N m n e∧¬ n≤24)∨(∃ n e:Nat,GT N m n e∧n≤24):=by
  by_cases h1:(gf N m).1=0
  ·obtain ⟨n,e,h,_⟩:=gf_ok h1
   by_cases h2:n≤24
   ·exact .inr (.inr ⟨n,e,h,h2⟩)
   ·exact .inr (.inl ⟨n,e,h,h2⟩)
  ·exact .inl h1
 refine fnc_of tab_ok Tryd.func11 rfl (by kernel_rfl) (by rw [Tryd.ntmps11]; exact Nat.le_add_left 1 _) ?_; rw [Tryd.ntmps11]
 refine qm ?_
 refine hk_region fun K hK=>runs_eval tab_ok ?_
 simp only [ev0,evA,evB,evP,fl,gp,tab,simprocAttr,reduceCtorEq,reduceIte]
 refine fin_run ?_ (hK _ ?_)<;>clear hK<;>clear K
 ·(first|exact trivial|omega|(simp only [In64] at *; omega)|(simp [In64] at *; omega)|(simp_all; done)|skip)
 refine qa (qm ?_)
 rcases key with hf | ⟨n,e,h,h2⟩ | ⟨n,e,h,h2⟩
 ·have cS:=split_no N m (by omega) hf
  have hz:=decide_eq_false hf
  refine hk_region fun K hK=>runs_eval tab_ok ?_
  simp only [ev0,evA,evB,evP,fl,gp,tab,simprocAttr,reduceCtorEq,reduceIte]
  refine fin_stop trivial (runs_call (ownGroup_c _ m hm) rfl rfl rfl (by simp only [dstOk,Nat.reduceLT]) (by repeat (first|exact trivial|constructor)) (runs_eval tab_ok ?_))
  simp only [ev0,evA,evB,evP,fl,gp,tab,simprocAttr,reduceCtorEq,reduceIte]
  refine fin_stop trivial (runs_call (cS) rfl rfl rfl (by simp only [dstOk,Nat.reduceLT]) (by repeat (first|exact trivial|constructor)) (runs_eval tab_ok ?_))
  simp only [ev0,evA,evB,evP,fl,gp,tab,simprocAttr,reduceCtorEq,reduceIte]
  refine fin_run ?_ (hK _ ?_)<;>clear hK<;>clear K
  ·(first|exact trivial|omega|(simp only [In64] at *; omega)|(simp [In64] at *; omega)|(simp_all; done)|skip)
  refine qa (qm ?_)
  refine hk_region fun K hK=>runs_eval tab_ok ?_
  simp only [ev0,evA,evB,evP,fl,gp,tab,simprocAttr,reduceCtorEq,reduceIte]
  refine fin_stop trivial (runs_call (hG) rfl rfl rfl (by simp only [dstOk,Nat.reduceLT]) (by repeat (first|exact trivial|constructor)) (runs_eval tab_ok ?_))
  simp only [ev0,evA,evB,evP,fl,gp,tab,simprocAttr,reduceCtorEq,reduceIte]
  refine fin_run ?_ (hK _ ?_)<;>clear hK<;>clear K
  ·(first|exact trivial|omega|(simp only [In64] at *; omega)|(simp [In64] at *; omega)|(simp_all; done)|skip)
  refine qa (qm (qm ?_))
  refine hk_region fun K hK=>runs_eval tab_ok ?_
  simp only [ev0,evA,evB,evP,fl,gp,tab,simprocAttr,reduceCtorEq,reduceIte,hz]
  refine fin_run ?_ (hK _ ?_)<;>clear hK<;>clear K
  ·(first|exact trivial|omega|(simp only [In64] at *; omega)|(simp [In64] at *; omega)|(simp_all; done)|skip)
  refine qa ?_
  refine hk_cond rfl (fun hC1=>?_) (fun hC1=>?_)
  ·cases hC1
  ·refine qh (qa (qm (qm ?_)))
   refine hk_region fun K hK=>runs_eval tab_ok ?_
   simp only [ev0,evA,evB,evP,fl,gp,tab,simprocAttr,reduceCtorEq,reduceIte,bne_self_eq_false]
   refine fin_stop trivial (runs_call (prodBegun_c) rfl rfl rfl (by simp only [dstOk,Nat.reduceLT]) (by repeat (first|exact trivial|constructor)) (runs_eval tab_ok ?_))
   simp only [ev0,evA,evB,evP,fl,gp,tab,simprocAttr,reduceCtorEq,reduceIte,bne_self_eq_false]
   refine fin_run ?_ (hK _ ?_)<;>clear hK<;>clear K
   ·(first|exact trivial|omega|(simp only [In64] at *; omega)|(simp [In64] at *; omega)|(simp_all; done)|skip)
   refine qa ?_
   refine hk_cond rfl (fun hC2=>?_) (fun hC2=>?_)
   ·cases hC2
   ·(try simp only [nhs] at hC2)
    refine qh (qa (qm (qm ?_)))
    refine hk_region fun K hK=>runs_eval tab_ok ?_
    simp only [ev0,evA,evB,evP,fl,gp,tab,simprocAttr,reduceCtorEq,reduceIte,hz]
    refine fin_run ?_ (hK _ ?_)<;>clear hK<;>clear K
    ·(first|exact trivial|omega|(simp only [In64] at *; omega)|(simp [In64] at *; omega)|(simp_all; done)|skip)
    refine qa ?_
    refine hk_cond rfl (fun hC3=>?_) (fun hC3=>?_)
    ·(try simp only [nhs] at hC3)
     refine qm ?_
     refine hk_region fun K hK=>runs_eval tab_ok ?_
     simp only [ev0,evA,evB,evP,fl,gp,tab,simprocAttr,reduceCtorEq,reduceIte]
     refine fin_run trivial (hK _ ?_)<;>clear hK<;>clear K
     refine qa (qk (qb ?_))
     simp only [Tryd.results11,enA,ev0,evA,evB,evP,fl,gp,tab,simprocAttr,reduceCtorEq,reduceIte]
     all_goals (rfl)
    ·cases hC3
 ·obtain rfl:=h.1
  have cS:=split_big h (by omega) h2
  rw [gf_of h] at hG
  have hz:decide ((0:Int)=0)=true:=rfl
  refine hk_region fun K hK=>runs_eval tab_ok ?_
  simp only [ev0,evA,evB,evP,fl,gp,tab,simprocAttr,reduceCtorEq,reduceIte]
  refine fin_stop trivial (runs_call (ownGroup_c _ m hm) rfl rfl rfl (by simp only [dstOk,Nat.reduceLT]) (by repeat (first|exact trivial|constructor)) (runs_eval tab_ok ?_))
  simp only [ev0,evA,evB,evP,fl,gp,tab,simprocAttr,reduceCtorEq,reduceIte]
  refine fin_stop trivial (runs_call (cS) rfl rfl rfl (by simp only [dstOk,Nat.reduceLT]) (by repeat (first|exact trivial|constructor)) (runs_eval tab_ok ?_))
  simp only [ev0,evA,evB,evP,fl,gp,tab,simprocAttr,reduceCtorEq,reduceIte]
  refine fin_run ?_ (hK _ ?_)<;>clear hK<;>clear K
  ·(first|exact trivial|omega|(simp only [In64] at *; omega)|(simp [In64] at *; omega)|(simp_all; done)|skip)
  refine qa (qm ?_)
  refine hk_region fun K hK=>runs_eval tab_ok ?_
  simp only [ev0,evA,evB,evP,fl,gp,tab,simprocAttr,reduceCtorEq,reduceIte]
  refine fin_stop trivial (runs_call (hG) rfl rfl rfl (by simp only [dstOk,Nat.reduceLT]) (by repeat (first|exact trivial|constructor)) (runs_eval tab_ok ?_))
  simp only [ev0,evA,evB,evP,fl,gp,tab,simprocAttr,reduceCtorEq,reduceIte]
  refine fin_run ?_ (hK _ ?_)<;>clear hK<;>clear K
  ·(first|exact trivial|omega|(simp only [In64] at *; omega)|(simp [In64] at *; omega)|(simp_all; done)|skip)
  refine qa (qm (qm ?_))
  refine hk_region fun K hK=>runs_eval tab_ok ?_
  simp only [ev0,evA,evB,evP,fl,gp,tab,simprocAttr,reduceCtorEq,reduceIte,hz,decide_eq_true (show ((n:Nat):Int) > 24 by omega)]
  refine fin_run ?_ (hK _ ?_)<;>clear hK<;>clear K
  ·(first|exact trivial|omega|(simp only [In64] at *; omega)|(simp [In64] at *; omega)|(simp_all; done)|skip)
  refine qa ?_
  refine hk_cond rfl (fun hC1=>?_) (fun hC1=>?_)
  ·(try simp only [nhs] at hC1)
   refine hk_region fun K hK=>runs_eval tab_ok ?_
   simp only [ev0,evA,evB,evP,fl,gp,tab,simprocAttr,reduceCtorEq,reduceIte]
   refine fin_stop trivial (runs_call (f_c 2 0) rfl rfl rfl (by simp only [dstOk,Nat.reduceLT]) (by repeat (first|exact trivial|constructor)) (runs_eval tab_ok ?_))
   simp only [ev0,evA,evB,evP,fl,gp,tab,simprocAttr,reduceCtorEq,reduceIte]
   refine fin_run ?_ (hK _ ?_)<;>clear hK<;>clear K
   ·(first|exact trivial|omega|(simp only [In64] at *; omega)|(simp [In64] at *; omega)|(simp_all; done)|skip)
   refine qa (qm (qm ?_))
   refine hk_region fun K hK=>runs_eval tab_ok ?_
   simp only [ev0,evA,evB,evP,fl,gp,tab,simprocAttr,reduceCtorEq,reduceIte,bne_self_eq_false]
   refine fin_stop trivial (runs_call (prodBegun_c) rfl rfl rfl (by simp only [dstOk,Nat.reduceLT]) (by repeat (first|exact trivial|constructor)) (runs_eval tab_ok ?_))
   simp only [ev0,evA,evB,evP,fl,gp,tab,simprocAttr,reduceCtorEq,reduceIte,bne_self_eq_false]
   refine fin_run ?_ (hK _ ?_)<;>clear hK<;>clear K
   ·(first|exact trivial|omega|(simp only [In64] at *; omega)|(simp [In64] at *; omega)|(simp_all; done)|skip)
   refine qa ?_
   refine hk_cond rfl (fun hC2=>?_) (fun hC2=>?_)
   ·cases hC2
   ·(try simp only [nhs] at hC2)
    refine qh (qa (qm (qm ?_)))
    refine hk_region fun K hK=>runs_eval tab_ok ?_
    simp only [ev0,evA,evB,evP,fl,gp,tab,simprocAttr,reduceCtorEq,reduceIte,hz]
    refine fin_run ?_ (hK _ ?_)<;>clear hK<;>clear K
    ·(first|exact trivial|omega|(simp only [In64] at *; omega)|(simp [In64] at *; omega)|(simp_all; done)|skip)
    refine qa ?_
    refine hk_cond rfl (fun hC3=>?_) (fun hC3=>?_)
    ·(try simp only [nhs] at hC3)
     refine qm ?_
     refine hk_region fun K hK=>runs_eval tab_ok ?_
     simp only [ev0,evA,evB,evP,fl,gp,tab,simprocAttr,reduceCtorEq,reduceIte]
     refine fin_run trivial (hK _ ?_)<;>clear hK<;>clear K
     refine qa (qk (qb ?_))
     simp only [Tryd.results11,enA,ev0,evA,evB,evP,fl,gp,tab,simprocAttr,reduceCtorEq,reduceIte]
     all_goals (rfl)
    ·cases hC3
  ·cases hC1
 ·obtain rfl:=h.1
  have hb:=h.2.1.big
  have G:=h.2.2
  obtain ⟨LL,cS,hl1,hl5,hLL,hsrt,hD,hone⟩:=split_key h h2 (by omega)
  rw [gf_of h] at hG
  have hz:decide ((0:Int)=0)=true:=rfl
  refine hk_region fun K hK=>runs_eval tab_ok ?_
  simp only [ev0,evA,evB,evP,fl,gp,tab,simprocAttr,reduceCtorEq,reduceIte]
  refine fin_stop trivial (runs_call (ownGroup_c _ m hm) rfl rfl rfl (by simp only [dstOk,Nat.reduceLT]) (by repeat (first|exact trivial|constructor)) (runs_eval tab_ok ?_))
  simp only [ev0,evA,evB,evP,fl,gp,tab,simprocAttr,reduceCtorEq,reduceIte]
  refine fin_stop trivial (runs_call (cS) rfl rfl rfl (by simp only [dstOk,Nat.reduceLT]) (by repeat (first|exact trivial|constructor)) (runs_eval tab_ok ?_))
  simp only [ev0,evA,evB,evP,fl,gp,tab,simprocAttr,reduceCtorEq,reduceIte]
  refine fin_run ?_ (hK _ ?_)<;>clear hK<;>clear K
  ·(first|exact trivial|omega|(simp only [In64] at *; omega)|(simp [In64] at *; omega)|(simp_all; done)|skip)
  refine qa (qm ?_)
  refine hk_region fun K hK=>runs_eval tab_ok ?_
  simp only [ev0,evA,evB,evP,fl,gp,tab,simprocAttr,reduceCtorEq,reduceIte]
  refine fin_stop trivial (runs_call (hG) rfl rfl rfl (by simp only [dstOk,Nat.reduceLT]) (by repeat (first|exact trivial|constructor)) (runs_eval tab_ok ?_))
  simp only [ev0,evA,evB,evP,fl,gp,tab,simprocAttr,reduceCtorEq,reduceIte]
  refine fin_run ?_ (hK _ ?_)<;>clear hK<;>clear K
  ·(first|exact trivial|omega|(simp only [In64] at *; omega)|(simp [In64] at *; omega)|(simp_all; done)|skip)
  refine qa (qm (qm ?_))
  refine hk_region fun K hK=>runs_eval tab_ok ?_
  simp only [ev0,evA,evB,evP,fl,gp,tab,simprocAttr,reduceCtorEq,reduceIte,hz,decide_eq_false (show ¬ ((n:Nat):Int) > 24 by omega)]
  refine fin_run ?_ (hK _ ?_)<;>clear hK<;>clear K
  ·(first|exact trivial|omega|(simp only [In64] at *; omega)|(simp [In64] at *; omega)|(simp_all; done)|skip)
  refine qa ?_
  refine hk_cond rfl (fun hC1=>?_) (fun hC1=>?_)
  ·cases hC1
  ·(try simp only [nhs] at hC1)
   refine qh (qa (qm (qm ?_)))
   refine hk_region fun K hK=>runs_eval tab_ok ?_
   simp only [ev0,evA,evB,evP,fl,gp,tab,simprocAttr,reduceCtorEq,reduceIte,bne_self_eq_false]
   refine fin_stop trivial (runs_call (prodBegun_c) rfl rfl rfl (by simp only [dstOk,Nat.reduceLT]) (by repeat (first|exact trivial|constructor)) (runs_eval tab_ok ?_))
   simp only [ev0,evA,evB,evP,fl,gp,tab,simprocAttr,reduceCtorEq,reduceIte,bne_self_eq_false]
   refine fin_run ?_ (hK _ ?_)<;>clear hK<;>clear K
   ·(first|exact trivial|omega|(simp only [In64] at *; omega)|(simp [In64] at *; omega)|(simp_all; done)|skip)
   refine qa ?_
   refine hk_cond rfl (fun hC2=>?_) (fun hC2=>?_)
   ·cases hC2
   ·(try simp only [nhs] at hC2)
    refine qh (qa (qm (qm ?_)))
    refine hk_region fun K hK=>runs_eval tab_ok ?_
    simp only [ev0,evA,evB,evP,fl,gp,tab,simprocAttr,reduceCtorEq,reduceIte,hz]
    refine fin_run ?_ (hK _ ?_)<;>clear hK<;>clear K
    ·(first|exact trivial|omega|(simp only [In64] at *; omega)|(simp [In64] at *; omega)|(simp_all; done)|skip)
    refine qa ?_
    refine hk_cond rfl (fun hC3=>?_) (fun hC3=>?_)
    ·cases hC3
    ·(try simp only [nhs] at hC3)
     refine qh (qa (qm (qm ?_)))
     refine hk_region fun K hK=>runs_eval tab_ok ?_
     simp only [ev0,evA,evB,evP,fl,gp,tab,simprocAttr,reduceCtorEq,reduceIte,ll_length,decide_eq_false (show ¬ ((LL.length:Nat):Int) < 1 by omega),decide_eq_false (show ¬ ((LL.length:Nat):Int) > 5 by omega)]
     refine fin_run trivial (hK _ ?_)<;>clear hK<;>clear K
     refine qa ?_
     refine hk_cond rfl (fun hC4=>?_) (fun hC4=>?_)
     ·cases hC4
     ·(try simp only [nhs] at hC4)
      refine qh (qa (qm (qm ?_)))
      refine hk_region fun K hK=>runs_eval tab_ok ?_
      simp only [ev0,evA,evB,evP,fl,gp,tab,simprocAttr,reduceCtorEq,reduceIte]
      refine fin_run trivial (hK _ ?_)<;>clear hK<;>clear K
      refine qa (ql ?_)
      refine hk_loop (ι:=Nat) (fun i=>⟨210,[(1,.ptr 0 0),(3,.p (.list (ll LL))),(6,.p (.int .i64 i))],[.own [.p (.int .i64 n),.p (.list (il m))]]⟩) (fun i=>i≤LL.length) (fun i=>LL.length - i) 0 (Nat.zero_le _) [0] (by simp only [leq,leA,ev0,evA,evB,evP,fl,gp,tab,simprocAttr,reduceCtorEq,reduceIte]<;>first|trivial|trace_state) fun i hi=>?_
      refine qm (qm ?_)
      refine hk_region fun K hK=>runs_eval tab_ok ?_
      simp only [ev0,evA,evB,evP,fl,gp,tab,simprocAttr,reduceCtorEq,reduceIte,ll_length]
      refine fin_run trivial (hK _ ?_)<;>clear hK<;>clear K
      refine qa ?_
      refine hk_cond rfl (fun hC5=>?_) (fun hC5=>?_)
      ·(try simp only [nhs] at hC5)
       have hil' : i < LL.length:=by omega
       have hgi:=ll_get (ls:=LL) (i:=i) hil'
       have hmi:LL.getD i []∈LL:=by simp [List.getD,List.getElem?_eq_getElem hil']
       obtain ⟨p,hv,hI,hp1⟩:=hLL _ hmi
       have sp:=hI.1
       have lp:=thl_le n p
       have hpos:=len_pos G sp
       rw [hv] at hgi
       refine qh (qa (qm (ql (qm (qm ?_)))))
       by_cases hn1:n=1
       ·refine hk_draw mixed (by kernel_rfl) fun K hK=>runs_eval tab_ok ?_
        simp only [ev0,evA,evB,evP,fl,gp,tab,simprocAttr,reduceCtorEq,reduceIte,hgi,ll_length,il_length,lf_thl,decide_eq_false (show ¬ ((n:Nat):Int) > 1 by omega)]
        refine fin_stop ?_ (runs_call (listFault_c n m (thl n p) (by omega)) rfl rfl rfl (by simp only [dstOk,Nat.reduceLT]) (by repeat (first|exact trivial|constructor)) (runs_eval tab_ok ?_))
        ·(first|exact trivial|omega|(simp only [In64] at *; omega)|(simp [In64] at *; omega)|(simp_all; done)|skip)
        simp only [ev0,evA,evB,evP,fl,gp,tab,simprocAttr,reduceCtorEq,reduceIte,hgi,ll_length,il_length,lf_thl,decide_eq_false (show ¬ ((n:Nat):Int) > 1 by omega)]
        refine fin_stop ?_ (runs_call (closed_c h p true (by simp [sp])) rfl rfl rfl (by simp only [dstOk,Nat.reduceLT]) (by repeat (first|exact trivial|constructor)) (runs_eval tab_ok ?_))
        ·(first|exact trivial|omega|(simp only [In64] at *; omega)|(simp [In64] at *; omega)|(simp_all; done)|skip)
        simp only [ev0,evA,evB,evP,fl,gp,tab,simprocAttr,reduceCtorEq,reduceIte,hgi,ll_length,il_length,lf_thl,decide_eq_false (show ¬ ((n:Nat):Int) > 1 by omega)]
        refine fin_run ?_ (hK _ ?_)<;>clear hK<;>clear K
        ·(first|exact trivial|omega|(simp only [In64] at *; omega)|(simp [In64] at *; omega)|(simp_all; done)|skip)
        refine qa ?_
        refine hk_cond rfl (fun hC6=>?_) (fun hC6=>?_)
        ·cases hC6
        ·refine qh (qa (qm ?_))
         skip
         ·have hi0:i=0:=by have:=hone hn1; omega
          have h00:decide (((i:Nat):Int) > 0)=false:=decide_eq_false (by omega)
          refine hk_draw mixed (by kernel_rfl) fun K hK=>runs_eval tab_ok ?_
          simp only [ev0,evA,evB,evP,fl,gp,tab,simprocAttr,reduceCtorEq,reduceIte,hgi,ll_length,il_length,h00]
          refine fin_run trivial (hK _ ?_)<;>clear hK<;>clear K
          refine qa ?_
          refine hk_cond rfl (fun hC7=>?_) (fun hC7=>?_)
          ·cases hC7
          ·refine qh (qd (qa ?_))
           refine hk_region fun K hK=>runs_eval tab_ok ?_
           simp only [ev0,evA,evB,evP,fl,gp,tab,simprocAttr,reduceCtorEq,reduceIte]
           refine fin_run ?_ (hK _ ?_)<;>clear hK<;>clear K
           ·(first|exact trivial|omega|(simp only [In64] at *; omega)|(simp [In64] at *; omega)|(simp_all; done)|skip)
           refine qa ?_
           refine ⟨i + 1,[0],by omega,by omega,?_⟩
           simp only [leq,leA,ev0,evA,evB,evP,fl,gp,tab,simprocAttr,reduceCtorEq,reduceIte]<;>first|trivial|omega|trace_state
       ·refine hk_draw mixed (by kernel_rfl) fun K hK=>runs_eval tab_ok ?_
        simp only [ev0,evA,evB,evP,fl,gp,tab,simprocAttr,reduceCtorEq,reduceIte,hgi,ll_length,il_length,lf_thl,decide_eq_true (show ((n:Nat):Int) > 1 by omega),decide_eq_false (show ¬ (((thl n p).length:Nat):Int) < 2 by have:=hp1 hn1; omega)]
        refine fin_stop ?_ (runs_call (listFault_c n m (thl n p) (by omega)) rfl rfl rfl (by simp only [dstOk,Nat.reduceLT]) (by repeat (first|exact trivial|constructor)) (runs_eval tab_ok ?_))
        ·(first|exact trivial|omega|(simp only [In64] at *; omega)|(simp [In64] at *; omega)|(simp_all; done)|skip)
        simp only [ev0,evA,evB,evP,fl,gp,tab,simprocAttr,reduceCtorEq,reduceIte,hgi,ll_length,il_length,lf_thl,decide_eq_true (show ((n:Nat):Int) > 1 by omega),decide_eq_false (show ¬ (((thl n p).length:Nat):Int) < 2 by have:=hp1 hn1; omega)]
        refine fin_stop ?_ (runs_call (closed_c h p true (by simp [sp])) rfl rfl rfl (by simp only [dstOk,Nat.reduceLT]) (by repeat (first|exact trivial|constructor)) (runs_eval tab_ok ?_))
        ·(first|exact trivial|omega|(simp only [In64] at *; omega)|(simp [In64] at *; omega)|(simp_all; done)|skip)
        simp only [ev0,evA,evB,evP,fl,gp,tab,simprocAttr,reduceCtorEq,reduceIte,hgi,ll_length,il_length,lf_thl,decide_eq_true (show ((n:Nat):Int) > 1 by omega),decide_eq_false (show ¬ (((thl n p).length:Nat):Int) < 2 by have:=hp1 hn1; omega)]
        refine fin_run ?_ (hK _ ?_)<;>clear hK<;>clear K
        ·(first|exact trivial|omega|(simp only [In64] at *; omega)|(simp [In64] at *; omega)|(simp_all; done)|skip)
        refine qa ?_
        refine hk_cond rfl (fun hC6=>?_) (fun hC6=>?_)
        ·cases hC6
        ·(try simp only [nhs] at hC6)
         refine qh (qa (qm ?_))
         rcases (show i=0∨(¬ i=0∧(LL.getD (i - 1) []).length < (thl n p).length)∨(¬ i=0∧¬ (LL.getD (i - 1) []).length < (thl n p).length) by omega) with hi0 | ⟨hi0,hlu⟩ | ⟨hi0,hlu⟩
         ·have h00:decide (((i:Nat):Int) > 0)=false:=decide_eq_false (by omega)
          refine hk_draw mixed (by kernel_rfl) fun K hK=>runs_eval tab_ok ?_
          simp only [ev0,evA,evB,evP,fl,gp,tab,simprocAttr,reduceCtorEq,reduceIte,hgi,ll_length,il_length,h00]
          refine fin_run trivial (hK _ ?_)<;>clear hK<;>clear K
          refine qa ?_
          refine hk_cond rfl (fun hC7=>?_) (fun hC7=>?_)
          ·cases hC7
          ·refine qh (qd (qa ?_))
           refine hk_region fun K hK=>runs_eval tab_ok ?_
           simp only [ev0,evA,evB,evP,fl,gp,tab,simprocAttr,reduceCtorEq,reduceIte]
           refine fin_run ?_ (hK _ ?_)<;>clear hK<;>clear K
           ·(first|exact trivial|omega|(simp only [In64] at *; omega)|(simp [In64] at *; omega)|(simp_all; done)|skip)
           refine qa ?_
           refine ⟨i + 1,[0],by omega,by omega,?_⟩
           simp only [leq,leA,ev0,evA,evB,evP,fl,gp,tab,simprocAttr,reduceCtorEq,reduceIte]<;>first|trivial|omega|trace_state
         ·have h00:decide (((i:Nat):Int) > 0)=true:=decide_eq_true (by omega)
          have hgp:=ll_get (ls:=LL) (i:=i - 1) (by omega)
          have hi1:((i:Nat):Int) - 1=((i - 1:Nat):Int):=by omega
          obtain ⟨u,hu,hIu,hu1⟩:=hLL (LL.getD (i - 1) []) (by simp [List.getD,List.getElem?_eq_getElem (show i - 1 < LL.length by omega)])
          have hsc:¬ cmpP (LL.getD i []) (LL.getD (i - 1) []) < 0:=by
           have:=(List.pairwise_iff_getElem.1 hsrt) (i - 1) i (by omega) hil' (by omega)
           simpa [List.getD,List.getElem?_eq_getElem hil',List.getElem?_eq_getElem (show i - 1 < LL.length by omega)] using this
          rw [hv,hu] at hsc
          rw [hu] at hgp hlu
          have lu:=thl_le n u
          refine hk_draw mixed (by kernel_rfl) fun K hK=>runs_eval tab_ok ?_
          simp only [ev0,evA,evB,evP,fl,gp,tab,simprocAttr,reduceCtorEq,reduceIte,hgi,hgp,ll_length,il_length,h00,hi1,decide_eq_false (show ¬ (((thl n p).length:Nat):Int) < ((thl n u).length:Nat) by omega),decide_eq_false (show ¬ (((thl n p).length:Nat):Int)=((thl n u).length:Nat) by omega)]
          refine fin_run ?_ (hK _ ?_)<;>clear hK<;>clear K
          ·(first|exact trivial|omega|(simp only [In64] at *; omega)|(simp [In64] at *; omega)|(simp_all; done)|skip)
          refine qa ?_
          refine hk_cond rfl (fun hC7=>?_) (fun hC7=>?_)
          ·cases hC7
          ·refine qh (qd (qa ?_))
           refine hk_region fun K hK=>runs_eval tab_ok ?_
           simp only [ev0,evA,evB,evP,fl,gp,tab,simprocAttr,reduceCtorEq,reduceIte]
           refine fin_run ?_ (hK _ ?_)<;>clear hK<;>clear K
           ·(first|exact trivial|omega|(simp only [In64] at *; omega)|(simp [In64] at *; omega)|(simp_all; done)|skip)
           refine qa ?_
           refine ⟨i + 1,[0],by omega,by omega,?_⟩
           simp only [leq,leA,ev0,evA,evB,evP,fl,gp,tab,simprocAttr,reduceCtorEq,reduceIte]<;>first|trivial|omega|trace_state
         ·have h00:decide (((i:Nat):Int) > 0)=true:=decide_eq_true (by omega)
          have hgp:=ll_get (ls:=LL) (i:=i - 1) (by omega)
          have hi1:((i:Nat):Int) - 1=((i - 1:Nat):Int):=by omega
          obtain ⟨u,hu,hIu,hu1⟩:=hLL (LL.getD (i - 1) []) (by simp [List.getD,List.getElem?_eq_getElem (show i - 1 < LL.length by omega)])
          have hsc:¬ cmpP (LL.getD i []) (LL.getD (i - 1) []) < 0:=by
           have:=(List.pairwise_iff_getElem.1 hsrt) (i - 1) i (by omega) hil' (by omega)
           simpa [List.getD,List.getElem?_eq_getElem hil',List.getElem?_eq_getElem (show i - 1 < LL.length by omega)] using this
          rw [hv,hu] at hsc
          rw [hu] at hgp hlu
          have lu:=thl_le n u
          have hle:(thl n u).length=(thl n p).length:=by
           rw [cmpP_iff] at hsc
           omega
          have hlt:lsb (thl n u) (thl n p)=true:=by
           refine lsb_cmp hle ?_
           refine Classical.byContradiction fun hh=>?_
           have hh2:¬ cmpL (thl n p) (thl n u) < 0:=fun h3=>hsc (cmpP_iff.2 (.inr ⟨hle.symm,h3⟩))
           have he:=cmpL_tot _ _ hh hh2
           
           obtain ⟨r,r1,r2,_,r4,_⟩:=rest_ok G hD hil' hv (s:=tst (rst LL i LL.length)) (fun a ha=>by
            unfold tst
            rw [decide_eq_true_eq,rst_mem])
           have hm:=(G.meet_len sp r1).1 r4
           refine hp1 hn1 ((one_len G sp).2 fun a ha hpa=>hm a ha hpa ((r2 a ha).2 (Gen.mem G ha ?_)))
           unfold tst
           rw [decide_eq_true_eq,rst_mem]
           refine ⟨i - 1,by omega,by omega,?_⟩
           rw [hu,he]
           exact (mem_thl_n ha).2 hpa
          refine hk_draw mixed (by kernel_rfl) fun K hK=>runs_eval tab_ok ?_
          simp only [ev0,evA,evB,evP,fl,gp,tab,simprocAttr,reduceCtorEq,reduceIte,hgi,hgp,ll_length,il_length,h00,hi1,decide_eq_false (show ¬ (((thl n p).length:Nat):Int) < ((thl n u).length:Nat) by omega),decide_eq_true (show (((thl n p).length:Nat):Int)=((thl n u).length:Nat) by omega),hlt]
          refine fin_stop ?_ (runs_call (less_r (thl n u) (thl n p) (by omega) (by omega)) rfl rfl rfl (by simp only [dstOk,Nat.reduceLT]) (by repeat (first|exact trivial|constructor)) (runs_eval tab_ok ?_))
          ·(first|exact trivial|omega|(simp only [In64] at *; omega)|(simp [In64] at *; omega)|(simp_all; done)|skip)
          simp only [ev0,evA,evB,evP,fl,gp,tab,simprocAttr,reduceCtorEq,reduceIte,hgi,hgp,ll_length,il_length,h00,hi1,decide_eq_false (show ¬ (((thl n p).length:Nat):Int) < ((thl n u).length:Nat) by omega),decide_eq_true (show (((thl n p).length:Nat):Int)=((thl n u).length:Nat) by omega),hlt]
          refine fin_run ?_ (hK _ ?_)<;>clear hK<;>clear K
          ·(first|exact trivial|omega|(simp only [In64] at *; omega)|(simp [In64] at *; omega)|(simp_all; done)|skip)
          refine qa ?_
          refine hk_cond rfl (fun hC7=>?_) (fun hC7=>?_)
          ·cases hC7
          ·(try simp only [nhs] at hC7)
           refine qh (qd (qa ?_))
           refine hk_region fun K hK=>runs_eval tab_ok ?_
           simp only [ev0,evA,evB,evP,fl,gp,tab,simprocAttr,reduceCtorEq,reduceIte]
           refine fin_run ?_ (hK _ ?_)<;>clear hK<;>clear K
           ·(first|exact trivial|omega|(simp only [In64] at *; omega)|(simp [In64] at *; omega)|(simp_all; done)|skip)
           refine qa ?_
           refine ⟨i + 1,[0],by omega,by omega,?_⟩
           simp only [leq,leA,ev0,evA,evB,evP,fl,gp,tab,simprocAttr,reduceCtorEq,reduceIte]<;>first|trivial|omega|trace_state
      ·(try simp only [nhs] at hC5)
       refine qj (qc (qc (qf (qa (qm (qm ?_))))))
       refine hk_region fun K hK=>runs_eval tab_ok ?_
       simp only [ev0,evA,evB,evP,fl,gp,tab,simprocAttr,reduceCtorEq,reduceIte]
       refine fin_run trivial (hK _ ?_)<;>clear hK<;>clear K
       refine qa (ql ?_)
       refine hk_loop (ι:=Nat) (fun i=>⟨210,[(1,.ptr 0 0),(3,.p (.list (ll LL))),(7,.p (.int .i64 i))],[.own [.p (.int .i64 n),.p (.list (il m))]]⟩) (fun i=>i≤LL.length) (fun i=>LL.length - i) 0 (Nat.zero_le _) [0] (by simp only [leq,leA,ev0,evA,evB,evP,fl,gp,tab,simprocAttr,reduceCtorEq,reduceIte]<;>first|trivial|trace_state) fun i hi=>?_
       have hrl:∀ j,(LL.getD j []).length≤60:=fun j=>by
        by_cases hj:j < LL.length
        ·obtain ⟨p,hv,_⟩:=hLL (LL.getD j []) (by simp [List.getD,List.getElem?_eq_getElem hj])
         rw [hv]
         have:=thl_le n p
         omega
        ·simp [List.getD,List.getElem?_eq_none (show LL.length≤j by omega)]
       refine qm (qm ?_)
       refine hk_region fun K hK=>runs_eval tab_ok ?_
       simp only [ev0,evA,evB,evP,fl,gp,tab,simprocAttr,reduceCtorEq,reduceIte,ll_length]
       refine fin_run trivial (hK _ ?_)<;>clear hK<;>clear K
       refine qa ?_
       refine hk_cond rfl (fun hC8=>?_) (fun hC8=>?_)
       ·(try simp only [nhs] at hC8)
        have hil' : i < LL.length:=by omega
        have hgi:=ll_get (ls:=LL) (i:=i) hil'
        obtain ⟨p,hv,hI,hp1⟩:=hLL (LL.getD i []) (by simp [List.getD,List.getElem?_eq_getElem hil'])
        have sp:=hI.1
        have lp:=thl_le n p
        rw [hv] at hgi
        refine qh (qa (qm (ql (qm ?_))))
        refine hk_region fun K hK=>runs_eval tab_ok ?_
        simp only [ev0,evA,evB,evP,fl,gp,tab,simprocAttr,reduceCtorEq,reduceIte]
        refine fin_run trivial (hK _ ?_)<;>clear hK<;>clear K
        refine qa (qm (qm ?_))
        refine hk_own0 8 rfl ?_
        refine hk_region fun K hK=>runs_eval tab_ok ?_
        simp only [ev0,evA,evB,evP,fl,gp,tab,simprocAttr,reduceCtorEq,reduceIte]
        refine fin_run trivial (hK _ ?_)<;>clear hK<;>clear K
        refine qa (ql ?_)
        refine hk_loop (ι:=Nat) (fun k=>⟨210,[(1,.ptr 0 0),(3,.p (.list (ll LL))),(7,.p (.int .i64 i)),(8,.sl 1 0 (rst LL i k).length),(9,.p (.int .i64 k))],[.own [.p (.int .i64 n),.p (.list (il m))],.own (ol (rst LL i k))]⟩) (fun k=>k≤LL.length) (fun k=>LL.length - k) 0 (Nat.zero_le _) [0,1] (by simp only [leq,leA,ev0,evA,evB,evP,fl,gp,tab,simprocAttr,reduceCtorEq,reduceIte]<;>first|trivial|simp [rst,ol_nil]|trace_state) fun k hk=>?_
        have hkl:=rst_len (i:=i) hrl k
        refine qm (qm ?_)
        refine hk_region fun K hK=>runs_eval tab_ok ?_
        simp only [ev0,evA,evB,evP,fl,gp,tab,simprocAttr,reduceCtorEq,reduceIte,ll_length]
        refine fin_run trivial (hK _ ?_)<;>clear hK<;>clear K
        refine qa ?_
        refine hk_cond rfl (fun hC9=>?_) (fun hC9=>?_)
        ·(try simp only [nhs] at hC9)
         have hkl' : k < LL.length:=by omega
         have hgk:=ll_get (ls:=LL) (i:=k) hkl'
         have hlk:=hrl k
         have hap:ol (rst LL i k)++List.map AV.p (il (LL.getD k []))=ol (rst LL i k++LL.getD k []):=by simp [ol,il]
         refine qh (qa (qm (ql (qm ?_))))
         refine hk_region fun K hK=>runs_eval tab_ok ?_
         simp only [ev0,evA,evB,evP,fl,gp,tab,simprocAttr,reduceCtorEq,reduceIte]
         refine fin_run trivial (hK _ ?_)<;>clear hK<;>clear K
         refine qa ?_
         refine hk_cond rfl (fun hC10=>?_) (fun hC10=>?_)
         ·(try simp only [nhs] at hC10)
          have hki:¬ k=i:=by omega
          have hst:rst LL i (k + 1)=rst LL i k++LL.getD k []:=by rw [rst,if_neg hki]
          refine hk_region fun K hK=>runs_eval tab_ok ?_
          simp only [ev0,evA,evB,evP,fl,gp,tab,simprocAttr,reduceCtorEq,reduceIte,ll_length,hgk,hap]
          refine fin_run ?_ (hK _ ?_)<;>clear hK<;>clear K
          ·exact ⟨⟨by omega,by omega⟩,Nat.le_refl _,by omega,by omega⟩
          refine qd (qa ?_)
          refine hk_region fun K hK=>runs_eval tab_ok ?_
          simp only [ev0,evA,evB,evP,fl,gp,tab,simprocAttr,reduceCtorEq,reduceIte]
          refine fin_run ?_ (hK _ ?_)<;>clear hK<;>clear K
          ·(first|exact trivial|omega|(simp only [In64] at *; omega)|(simp [In64] at *; omega)|(simp_all; done)|skip)
          refine qa ?_
          refine ⟨k + 1,[0,2],by omega,by omega,?_⟩
          rw [hst]
          simp only [leq,leA,ev0,evA,evB,evP,fl,gp,tab,simprocAttr,reduceCtorEq,reduceIte]<;>first|trivial|omega|trace_state
         ·(try simp only [nhs] at hC10)
          have hki:k=i:=by omega
          have hst:rst LL i (k + 1)=rst LL i k:=by rw [rst,if_pos hki]
          refine qh (qd (qa ?_))
          refine hk_region fun K hK=>runs_eval tab_ok ?_
          simp only [ev0,evA,evB,evP,fl,gp,tab,simprocAttr,reduceCtorEq,reduceIte]
          refine fin_run ?_ (hK _ ?_)<;>clear hK<;>clear K
          ·(first|exact trivial|omega|(simp only [In64] at *; omega)|(simp [In64] at *; omega)|(simp_all; done)|skip)
          refine qa ?_
          refine ⟨k + 1,[0,1],by omega,by omega,?_⟩
          rw [hst]
          simp only [leq,leA,ev0,evA,evB,evP,fl,gp,tab,simprocAttr,reduceCtorEq,reduceIte]<;>first|trivial|omega|trace_state
        ·(try simp only [nhs] at hC9)
         have hke:k=LL.length:=by omega
         rw [hke] at hkl ⊢
         obtain ⟨r,r1,r2,r3,r4,r5⟩:=rest_ok G hD hil' hv (s:=tst (rst LL i LL.length)) (fun a ha=>by
          unfold tst
          rw [decide_eq_true_eq,rst_mem])
         have hrng:∀ x∈rst LL i LL.length,∃ a,a < n∧x=((a:Nat):Int):=fun x hx=>by
          obtain ⟨j,j1,_,j3⟩:=rst_mem.1 hx
          obtain ⟨p',hv',_⟩:=hLL (LL.getD j []) (by simp [List.getD,List.getElem?_eq_getElem j1])
          rw [hv'] at j3
          obtain ⟨a,a1,_,a3⟩:=mem_thl.1 j3
          exact ⟨a,a1,a3⟩
         have hPt:=ptb_GT h sp
         have hKn:(thl n p).length≤24:=by omega
         obtain ⟨SL1,hS1⟩:=alls_ex hPt.2.2 (by omega)
         have hsl1:=sll_len SL1
         have hSl1:=hS1.len hKn
         generalize rst LL i LL.length=RS at *
         refine qj (qc (qc (qf (qa (qm (qm ?_))))))
         refine hk_seal 8 1 rfl rfl ?_
         refine hk_draw2 mixed fun K hK=>runs2_eval tab_ok ?_
         simp only [evD,ev0,evA,evB,evP,fl,gp,tab,simprocAttr,reduceCtorEq,reduceIte,ll_length,hgi]
         refine fin2_stop ?_ (runs2_call (span_c h RS (by omega) hrng r r2) rfl rfl rfl rfl (by simp only [dstOk,Nat.reduceLT]) (by repeat (first|exact trivial|constructor)) (runs2_eval tab_ok ?_))
         ·exact ⟨by omega,by omega⟩
         simp only [evD,ev0,evA,evB,evP,fl,gp,tab,simprocAttr,reduceCtorEq,reduceIte,ll_length,hgi]
         refine fin2_stop trivial (runs2_call (together_c h sp r1 true ⟨fun _=>⟨r3,r4,r5⟩,fun _=>rfl⟩) rfl rfl rfl rfl (by simp only [dstOk,Nat.reduceLT]) (by repeat (first|exact trivial|constructor)) (runs2_eval tab_ok ?_))
         simp only [evD,ev0,evA,evB,evP,fl,gp,tab,simprocAttr,reduceCtorEq,reduceIte,ll_length,hgi]
         refine fin2_run ?_ (hK _ _ (by first|kernel_rfl|rfl) ?_)<;>clear hK<;>clear K
         ·(first|exact trivial|omega|(simp only [In64] at *; omega)|(simp [In64] at *; omega)|(simp_all; done)|skip)
         refine qa ?_
         refine hk_cond rfl (fun hC11=>?_) (fun hC11=>?_)
         ·cases hC11
         ·(try simp only [nhs] at hC11)
          refine qh (qa (qm ?_))
          refine hk_draw2 mixed fun K hK=>runs2_eval tab_ok ?_
          simp only [evD,ev0,evA,evB,evP,fl,gp,tab,simprocAttr,reduceCtorEq,reduceIte,ll_length,hgi]
          refine fin2_stop ?_ (runs2_call (partOf_c h sp) rfl rfl rfl rfl (by simp only [dstOk,Nat.reduceLT]) (by repeat (first|exact trivial|constructor)) (runs2_eval tab_ok ?_))
          ·exact ⟨by omega,by omega⟩
          simp only [evD,ev0,evA,evB,evP,fl,gp,tab,simprocAttr,reduceCtorEq,reduceIte,ll_length,hgi]
          refine fin2_run ?_ (hK _ _ (by first|kernel_rfl|rfl) ?_)<;>clear hK<;>clear K
          ·(first|exact trivial|omega|(simp only [In64] at *; omega)|(simp [In64] at *; omega)|(simp_all; done)|skip)
          refine qa (qm ?_)
          refine hk_region fun K hK=>runs_eval tab_ok ?_
          simp only [ev0,evA,evB,evP,fl,gp,tab,simprocAttr,reduceCtorEq,reduceIte]
          refine fin_stop trivial (runs_call (subgroups_t hPt hKn hS1) rfl rfl rfl (by simp only [dstOk,Nat.reduceLT]) (by repeat (first|exact trivial|constructor)) (runs_eval tab_ok ?_))
          simp only [ev0,evA,evB,evP,fl,gp,tab,simprocAttr,reduceCtorEq,reduceIte]
          refine fin_run ?_ (hK _ ?_)<;>clear hK<;>clear K
          ·(first|exact trivial|omega|(simp only [In64] at *; omega)|(simp [In64] at *; omega)|(simp_all; done)|skip)
          refine qa (qm ?_)
          refine hk_region fun K hK=>runs_eval tab_ok ?_
          simp only [ev0,evA,evB,evP,fl,gp,tab,simprocAttr,reduceCtorEq,reduceIte]
          refine fin_run trivial (hK _ ?_)<;>clear hK<;>clear K
          refine qa (ql ?_)
          refine hk_loop (ι:=Nat) (fun a=>⟨210,[(1,.ptr 0 0),(3,.p (.list (ll LL))),(7,.p (.int .i64 i)),(10,.ptr 1 0),(11,.p (.list (ll (sll SL1)))),(12,.p (.int .i64 a))],[.own [.p (.int .i64 n),.p (.list (il m))],.own [.p (.int .i64 (thl n p).length),.p (.list (il (ptb n (op m n) p)))]]⟩) (fun a=>1≤a) (fun a=>SL1.length - a) 1 (Nat.le_refl _) [0,2] (by simp only [leq,leA,ev0,evA,evB,evP,fl,gp,tab,simprocAttr,reduceCtorEq,reduceIte]<;>first|trivial|exact ⟨rfl,rfl⟩|trace_state) fun a ha=>?_
          refine qm (qm ?_)
          refine hk_region fun K hK=>runs_eval tab_ok ?_
          simp only [ev0,evA,evB,evP,fl,gp,tab,simprocAttr,reduceCtorEq,reduceIte,ll_length,hsl1]
          refine fin_run ?_ (hK _ ?_)<;>clear hK<;>clear K
          ·(first|exact trivial|omega|(simp only [In64] at *; omega)|(simp [In64] at *; omega)|(simp_all; done)|skip)
          refine qa ?_
          refine hk_cond rfl (fun hC12=>?_) (fun hC12=>?_)
          ·(try simp only [nhs] at hC12)
           have hal:a < SL1.length:=by omega
           have hga:=ll_get (ls:=sll SL1) (i:=a) (by omega)
           obtain ⟨sA,eA⟩:=ts_at hPt.2.2 hS1 hal
           have hrA:(sll SL1).getD a []=thl (thl n p).length (ts SL1 a):=by
            rw [← stl_bo (by omega) (ts SL1 a),← eA]
            simp [sll,List.getD,List.getElem?_eq_getElem hal]
           have a1:=AllS.two hPt.2.2 (by omega) hS1 hal ha sA eA
           have lA:=thl_le (thl n p).length (ts SL1 a)
           rw [hrA] at hga
           refine qh (qa (qm (ql (qm ?_))))
           refine hk_region fun K hK=>runs_eval tab_ok ?_
           simp only [ev0,evA,evB,evP,fl,gp,tab,simprocAttr,reduceCtorEq,reduceIte]
           refine fin_run trivial (hK _ ?_)<;>clear hK<;>clear K
           refine qa (ql ?_)
           refine hk_loop (ι:=Nat) (fun b=>⟨210,[(1,.ptr 0 0),(3,.p (.list (ll LL))),(7,.p (.int .i64 i)),(10,.ptr 1 0),(11,.p (.list (ll (sll SL1)))),(12,.p (.int .i64 a)),(13,.p (.int .i64 b))],[.own [.p (.int .i64 n),.p (.list (il m))],.own [.p (.int .i64 (thl n p).length),.p (.list (il (ptb n (op m n) p)))]]⟩) (fun b=>1≤b) (fun b=>SL1.length - b) 1 (Nat.le_refl _) [0,1] (by simp only [leq,leA,ev0,evA,evB,evP,fl,gp,tab,simprocAttr,reduceCtorEq,reduceIte]<;>first|trivial|exact ⟨rfl,rfl⟩|trace_state) fun b hb1=>?_
           refine qm (qm ?_)
           refine hk_region fun K hK=>runs_eval tab_ok ?_
           simp only [ev0,evA,evB,evP,fl,gp,tab,simprocAttr,reduceCtorEq,reduceIte,ll_length,hsl1]
           refine fin_run ?_ (hK _ ?_)<;>clear hK<;>clear K
           ·(first|exact trivial|omega|(simp only [In64] at *; omega)|(simp [In64] at *; omega)|(simp_all; done)|skip)
           refine qa ?_
           refine hk_cond rfl (fun hC13=>?_) (fun hC13=>?_)
           ·(try simp only [nhs] at hC13)
            have hbl:b < SL1.length:=by omega
            have hgb:=ll_get (ls:=sll SL1) (i:=b) (by omega)
            obtain ⟨sB,eB⟩:=ts_at hPt.2.2 hS1 hbl
            have hrB:(sll SL1).getD b []=thl (thl n p).length (ts SL1 b):=by
             rw [← stl_bo (by omega) (ts SL1 b),← eB]
             simp [sll,List.getD,List.getElem?_eq_getElem hbl]
            have b1:=AllS.two hPt.2.2 (by omega) hS1 hbl hb1 sB eB
            have lB:=thl_le (thl n p).length (ts SL1 b)
            rw [hrB] at hgb
            have hno:=no_two h hI sA sB a1 b1
            have cT:=together_c hPt sA sB false ⟨fun h=>(by cases h),fun h=>absurd h hno⟩
            have hmul:(thl (thl n p).length (ts SL1 a)).length * (thl (thl n p).length (ts SL1 b)).length≤60 * 60:=Nat.mul_le_mul (by omega) (by omega)
            have hmi:(((thl (thl n p).length (ts SL1 a)).length:Nat):Int) * (((thl (thl n p).length (ts SL1 b)).length:Nat):Int)=(((thl (thl n p).length (ts SL1 a)).length * (thl (thl n p).length (ts SL1 b)).length:Nat):Int):=by rw [Int.natCast_mul]
            refine qh (qa (qm (ql (qm ?_))))
            by_cases k1:(thl (thl n p).length (ts SL1 a)).length * (thl (thl n p).length (ts SL1 b)).length=(thl n p).length
            ·refine hk_draw2 mixed fun K hK=>runs2_eval tab_ok ?_
             simp only [evD,ev0,evA,evB,evP,fl,gp,tab,simprocAttr,reduceCtorEq,reduceIte,ll_length,hsl1,hga,hgb,il_length,hmi,decide_eq_true (show (((thl (thl n p).length (ts SL1 a)).length * (thl (thl n p).length (ts SL1 b)).length:Nat):Int)=((thl n p).length:Nat) by omega)]
             refine fin2_stop ?_ (runs2_call (cT) rfl rfl rfl rfl (by simp only [dstOk,Nat.reduceLT]) (by repeat (first|exact trivial|constructor)) (runs2_eval tab_ok ?_))
             ·refine ⟨⟨⟨⟨⟨by omega,by omega⟩,by omega,by omega⟩,by simp only [In64]; omega⟩,by omega,by omega⟩,by omega,by omega⟩
             simp only [evD,ev0,evA,evB,evP,fl,gp,tab,simprocAttr,reduceCtorEq,reduceIte,ll_length,hsl1,hga,hgb,il_length,hmi,decide_eq_true (show (((thl (thl n p).length (ts SL1 a)).length * (thl (thl n p).length (ts SL1 b)).length:Nat):Int)=((thl n p).length:Nat) by omega)]
             refine fin2_run ?_ (hK _ _ (by first|kernel_rfl|rfl) ?_)<;>clear hK<;>clear K
             ·(first|exact trivial|omega|(simp only [In64] at *; omega)|(simp [In64] at *; omega)|(simp_all; done)|skip)
             refine qa ?_
             refine hk_cond rfl (fun hC14=>?_) (fun hC14=>?_)
             ·cases hC14
             ·(try simp only [nhs] at hC14)
              refine qh (qd (qa ?_))
              refine hk_region fun K hK=>runs_eval tab_ok ?_
              simp only [ev0,evA,evB,evP,fl,gp,tab,simprocAttr,reduceCtorEq,reduceIte]
              refine fin_run ?_ (hK _ ?_)<;>clear hK<;>clear K
              ·(first|exact trivial|omega|(simp only [In64] at *; omega)|(simp [In64] at *; omega)|(simp_all; done)|skip)
              refine qa ?_
              refine ⟨b + 1,[0,1],by omega,by omega,?_⟩
              simp only [leq,leA,ev0,evA,evB,evP,fl,gp,tab,simprocAttr,reduceCtorEq,reduceIte]<;>first|trivial|omega|trace_state
            ·refine hk_draw2 mixed fun K hK=>runs2_eval tab_ok ?_
             simp only [evD,ev0,evA,evB,evP,fl,gp,tab,simprocAttr,reduceCtorEq,reduceIte,ll_length,hsl1,hga,hgb,il_length,hmi,decide_eq_false (show ¬ (((thl (thl n p).length (ts SL1 a)).length * (thl (thl n p).length (ts SL1 b)).length:Nat):Int)=((thl n p).length:Nat) by omega)]
             refine fin2_run ?_ (hK _ _ (by first|kernel_rfl|rfl) ?_)<;>clear hK<;>clear K
             ·(first|exact trivial|omega|(simp only [In64] at *; omega)|(simp [In64] at *; omega)|(simp_all; done)|skip)
             refine qa ?_
             refine hk_cond rfl (fun hC14=>?_) (fun hC14=>?_)
             ·cases hC14
             ·refine qh (qd (qa ?_))
              refine hk_region fun K hK=>runs_eval tab_ok ?_
              simp only [ev0,evA,evB,evP,fl,gp,tab,simprocAttr,reduceCtorEq,reduceIte]
              refine fin_run ?_ (hK _ ?_)<;>clear hK<;>clear K
              ·(first|exact trivial|omega|(simp only [In64] at *; omega)|(simp [In64] at *; omega)|(simp_all; done)|skip)
              refine qa ?_
              refine ⟨b + 1,[0,1],by omega,by omega,?_⟩
              simp only [leq,leA,ev0,evA,evB,evP,fl,gp,tab,simprocAttr,reduceCtorEq,reduceIte]<;>first|trivial|omega|trace_state
           ·(try simp only [nhs] at hC13)
            refine qj (qc (qc (qf (qd (qa ?_)))))
            refine hk_region fun K hK=>runs_eval tab_ok ?_
            simp only [ev0,evA,evB,evP,fl,gp,tab,simprocAttr,reduceCtorEq,reduceIte]
            refine fin_run ?_ (hK _ ?_)<;>clear hK<;>clear K
            ·(first|exact trivial|omega|(simp only [In64] at *; omega)|(simp [In64] at *; omega)|(simp_all; done)|skip)
            refine qa ?_
            refine ⟨a + 1,[0,1],by omega,by omega,?_⟩
            simp only [leq,leA,ev0,evA,evB,evP,fl,gp,tab,simprocAttr,reduceCtorEq,reduceIte]<;>first|trivial|omega|trace_state
          ·(try simp only [nhs] at hC12)
           refine qj (qc (qc (qf (qd (qa ?_)))))
           refine hk_region fun K hK=>runs_eval tab_ok ?_
           simp only [ev0,evA,evB,evP,fl,gp,tab,simprocAttr,reduceCtorEq,reduceIte]
           refine fin_run ?_ (hK _ ?_)<;>clear hK<;>clear K
           ·(first|exact trivial|omega|(simp only [In64] at *; omega)|(simp [In64] at *; omega)|(simp_all; done)|skip)
           refine qa ?_
           refine ⟨i + 1,[0],by omega,by omega,?_⟩
           simp only [leq,leA,ev0,evA,evB,evP,fl,gp,tab,simprocAttr,reduceCtorEq,reduceIte]<;>first|trivial|omega|trace_state
       ·(try simp only [nhs] at hC8)
        refine qj (qc (qc (qf (qa (qm ?_)))))
        refine hk_region fun K hK=>runs_eval tab_ok ?_
        simp only [ev0,evA,evB,evP,fl,gp,tab,simprocAttr,reduceCtorEq,reduceIte]
        refine fin_run trivial (hK _ ?_)<;>clear hK<;>clear K
        refine qa (qk ?_)
        simp only [Tryd.results11,enA,ev0,evA,evB,evP,fl,gp,tab,simprocAttr,reduceCtorEq,reduceIte]
        all_goals (rfl)
end
end Go.Proofs.YtboadfahlflmhaaDoor

/-
  What the listed package-level variable gives a walk: a table of numbers. Conditions: none; written by a program of this repo.
-/
set_option linter.all false
namespace Go.Proofs.YtboadfahlflmhaaDoor
open Go.Pv Go.ChangeShapes Go.WideShapes Go.ChangeAt Go.WideElems Go.RowKit

theorem own:ownKnob Tryd.prog.godebug=none:=by kernel_rfl
theorem laidOut:laidOutB Tryd.prog=true:=by kernel_rfl
theorem gG:Tryd.prog.globalNamed "math/bits.deBruijn64tab" = some 0:=by kernel_rfl
theorem tG:(Tryd.prog.globals[0]?).map (·.type)=some 135:=by kernel_rfl
theorem cG:Tryd.prog.cellsOf 5=1:=by kernel_rfl
theorem cT:Tryd.prog.cellsOf 135=64:=by kernel_rfl

/-- The door's own heap meets the condition. -/
theorem door_met (os:Os) (args:Array Value):laidMetH Tryd.prog [("math/bits.deBruijn64tab",Rows.laid_math_bits_deBruijn64tab)] ((World.doorLaid Tryd.prog 4000 os).forCall (fun _ _=>0) ⟨#[],args,[]⟩).memory:=
 laidMetH_of_parts3 (fuel:=8) (laidMet_of_run' 8 (by kernel_rfl) (by kernel_rfl)) (by kernel_rfl) (by kernel_rfl)

def convD:DataW Unit→PV
 | .lit (.int k n)=>.int k n
 | _=>.nil
def datum:List (DataW Unit)→List PV:=List.map convD
theorem glob_datum:(match (Rows.laid_math_bits_deBruijn64tab:DataW Unit) with | .agg l=>datum l | _=>[])=glob0:=rfl

theorem laid_ok {W:World} (h:laidMetH Tryd.prog [("math/bits.deBruijn64tab",Rows.laid_math_bits_deBruijn64tab)] W):LaidW (fun b=>b < W.heap.size) W:=by
 refine ⟨fun b h=>h,fun g l hg=>?_⟩
 have hg2:g=0∧l=glob0:=by
  unfold gv at hg
  by_cases e:g=0
  ·subst e; exact ⟨rfl,(Option.some.inj hg).symm⟩
  ·have:(g == 0)=false:=by simpa using e
   rw [this] at hg; simp at hg
 obtain ⟨rfl,rfl⟩:=hg2
 rw [MakeChecks.laidMetH_plain _ _ _ (by kernel_rfl)] at h
 obtain ⟨ps,⟨g0,t0,cs0,f0,p0,q0,hg0,ht0,hv0,hd0,_,_⟩,_,_⟩:=h
 obtain rfl:=Option.some.inj (gG.symm.trans hg0)
 obtain rfl:=Option.some.inj (tG.symm.trans ht0)
 obtain ⟨xs,m1,rfl,hx1,hlen,hn3,hel⟩:=DataW.trod_array Tryd.underlying135 hd0
 have hd1:Rows.laid_math_bits_deBruijn64tab=DataW.agg (xs.map (·.1)):=congrArg Prod.fst hx1
 have hgl:glob0=datum (xs.map (·.1)):=by
  rw [← glob_datum,hd1]
 have key:∀ c (h:c < glob0.length),W.cell? ⟨0,0 + c,none⟩=some ((cs0[c]?).getD undef)∧Reads (fun b=>b < W.heap.size) W glob0[c] ((cs0[c]?).getD undef):=by
  intro c hc
  have hc2:c < 64:=Nat.lt_of_lt_of_le hc (by decide)
  have hcx:c < xs.length:=by omega
  have h1:=hel c hc2
  rw [List.getElem?_eq_getElem hcx] at h1
  obtain ⟨k,e1,e2,_⟩:=DataW.trod_int Tryd.underlying5 h1
  rw [cG] at e1
  have e3:cs0.toList[c]? = some (.int .u8 k):=by
   have:=congrArg (fun l=>l[0]?) e1
   simpa [List.getElem?_take,List.getElem?_drop] using this
  have e4:cs0[c]? = some (.int .u8 k):=by simpa using e3
  have e5:glob0[c] = .int .u8 k:=by
   have:glob0[c]? = (datum (xs.map (·.1)))[c]?:=by rw [hgl]
   rw [List.getElem?_eq_getElem hc] at this
   simp only [datum,List.getElem?_map,List.getElem?_eq_getElem hcx,Option.map_some,Option.some.injEq] at this
   exact this.trans (by rw [e2]; rfl)
  refine ⟨?_,?_⟩
  ·rw [e4,Nat.zero_add,World.var?_cell gG hv0 c,e4]; rfl
  ·rw [e4]
   exact e5 ▸ (Reads.int .u8 k)
 refine .ptr _ _ _ (fun c=>(cs0[c]?).getD undef) ?_ (fun c hc=>(key c hc).1) fun c hc=>(key c hc).2
 have:=(key 0 (by decide)).1
 unfold World.cell? at this
 rcases Nat.lt_or_ge 0 W.heap.size with h | h
 ·exact h
 ·exfalso
  rw [Array.getElem?_eq_none h] at this
  simp at this
end Go.Proofs.YtboadfahlflmhaaDoor
