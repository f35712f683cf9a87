/-
  Texts of this proof, one behind the other: what each says stands at its head. Conditions: none.
-/
import Derived.Test.YtboadfahlflmhaaDoorB5
import Derived.Test.YtboadfahlflmhaaDoorB4
import Derived.Test.YtboadfahlflmhaaDoorB3
import Derived.Lib.SliceRun
import Derived.RangeFuncRecord
import Derived.RangeFuncLeaves
import Derived.Shelf.Sort.Plain
import Derived.Shelf.Slices.In.SortNone
import Derived.Test.YtboadfahlflmhaaDoorProg
import Derived.Shelf.Lays

/-
  Walks: prod.Semi where there is no fault. Conditions: none.
-/
set_option linter.all false
namespace Go.Proofs.YtboadfahlflmhaaDoor
open Go.Pv

set_option maxRecDepth 20000 in
set_option maxHeartbeats 8000000 in
theorem semi_ok {n n' e e' : Nat} {m m' : List Int} {ls:List (List Int)} (h:GT n m n e) (h' : GT n' m' n' e') (hl:ls.length=n') (hr:∀ j,j < n'→rwc n m (ls.getD j [])=0) (hmg:∀ j,j < n'→mgd m' n' ls j) (hle:n * n'≤60) :
  FnC Tryd.prog 61 [gp n m,gp n' m',.list (ll ls)] (.tup [gp (n * n' : Nat) (sg n n' m m' ls),fl (0,0)]):=by
 have T:=h.2.1
 have T':=h'.2.1
 have G:=h.2.2
 have G':=h'.2.2
 have hs1:=T.big
 have hs2:=T'.big
 have hm:=T.len
 have hm':=T'.len
 have hq1:=sq_le hs1
 have hq2:=sq_le hs2
 have hK:=sq_le hle
 have hmul:(n:Int) * (n' : Int)=((n * n' : Nat):Int):=(Int.natCast_mul _ _).symm
 have A:=acts_of hl hr hmg T
 have hrow:∀ y,y < n'→(ls.getD y []).length=n∧∀ i,i < n→(ls.getD y []).getD i 0=((alp ls y i:Nat):Int):=fun y hy =>
  ⟨(rwc_ok (hr y hy)).1.1,fun i hi=>((rwc_ok (hr y hy)).1.2.1 i hi).1⟩
 have hho:∀ y,y < n'→homf n m n m (ls.getD y [])=(0,0):=fun y hy=>by
  have h1:=hr y hy
  unfold rwc at h1
  by_cases h2:(homf n m n m (ls.getD y [])).1=0
  ·obtain ⟨_,_,_,_,_,_,_,h3⟩:=homf_ok h2
   exact h3
  ·rw [if_pos h2] at h1; exact absurd h1 h2
 have hlen:=tbr_len (sgm n n' m m' ls) (n * n')
 refine fnc_of tab_ok Tryd.func61 rfl (by kernel_rfl) (by rw [Tryd.ntmps61]; exact Nat.le_add_left 3 _) ?_; rw [Tryd.ntmps61]
 refine qm ?_
 refine hk_region fun K hK=>runs_eval tab_ok ?_
 simp only [ev0,evA,evB,evP,fl,gp,tab,simprocAttr,reduceCtorEq,reduceIte]
 refine fin_run ?_ (hK _ ?_)<;>clear hK<;>clear K
 ·(first|exact trivial|omega|(simp only [In64] at *; omega)|(simp [In64] at *; omega)|(simp_all; done)|skip)
 refine qa (qm (qm ?_))
 refine hk_region fun K hK=>runs_eval tab_ok ?_
 simp only [ev0,evA,evB,evP,fl,gp,tab,simprocAttr,reduceCtorEq,reduceIte]
 refine fin_run ?_ (hK _ ?_)<;>clear hK<;>clear K
 ·(first|exact trivial|omega|(simp only [In64] at *; omega)|(simp [In64] at *; omega)|(simp_all; done)|skip)
 refine qa (ql ?_)
 refine hk_loop (ι:=Nat) (fun i=>⟨200,[(2,.p (.list (ll ls))),(3,.ptr 0 0),(4,.ptr 1 0),(6,.ptr 2 0),(7,.ptr 3 0),(29,.p (.nn [gp n m,gp n' m'])),(30,.p (.int .i64 2)),(31,.p (.int .i64 i))],[.own [.p (.int .i64 n),.p (.list (il m))],.own [.p (.int .i64 n'),.p (.list (il m'))],.own [.p (.int .i64 0),.p .nil],.own [.p (.int .i64 0),.p (.int .i64 0)]]⟩) (fun i=>i≤2) (fun i=>2 - i) 0 (by omega) [0,1,2,3] (by simp only [leq,leA,ev0,evA,evB,evP,fl,gp,tab,simprocAttr,reduceCtorEq,reduceIte]<;>trivial) fun i hi=>?_
 refine qm ?_
 refine hk_region fun K hK=>runs_eval tab_ok ?_
 simp only [ev0,evA,evB,evP,fl,gp,tab,simprocAttr,reduceCtorEq,reduceIte]
 refine fin_run trivial (hK _ ?_)<;>clear hK<;>clear K
 refine qa (qm ?_)
 refine hk_cond rfl (fun hC1=>?_) (fun hC1=>?_)
 ·(try simp only [nhs] at hC1)
  refine qh (qa (qm (ql (qm ?_))))
  rcases (show i=0∨i=1 by omega) with rfl | rfl
  ·refine hk_region fun K hK=>runs_eval tab_ok ?_
   simp only [ev0,evA,evB,evP,fl,gp,tab,simprocAttr,reduceCtorEq,reduceIte,List.getD_cons_zero,List.getD_cons_succ]
   refine fin_run ?_ (hK _ ?_)<;>clear hK<;>clear K
   ·(first|exact trivial|omega|(simp only [In64] at *; omega)|(simp [In64] at *; omega)|(simp_all; done)|skip)
   refine qa (qm ?_)
   refine hk_region fun K hK=>runs_eval tab_ok ?_
   simp only [ev0,evA,evB,evP,fl,gp,tab,simprocAttr,reduceCtorEq,reduceIte]
   refine fin_stop trivial (runs_call (check_c n m (by omega)) rfl rfl rfl (by simp only [dstOk,Nat.reduceLT]) (by repeat (first|exact trivial|constructor)) (runs_eval tab_ok ?_))
   simp only [ev0,evA,evB,evP,fl,gp,tab,simprocAttr,reduceCtorEq,reduceIte,gf_of h]
   refine fin_run ?_ (hK _ ?_)<;>clear hK<;>clear K
   ·(first|exact trivial|omega|(simp only [In64] at *; omega)|(simp [In64] at *; omega)|(simp_all; done)|skip)
   refine qa (qm ?_)
   refine hk_region fun K hK=>runs_eval tab_ok ?_
   simp only [ev0,evA,evB,evP,fl,gp,tab,simprocAttr,reduceCtorEq,reduceIte]
   refine fin_run ?_ (hK _ ?_)<;>clear hK<;>clear K
   ·(first|exact trivial|omega|(simp only [In64] at *; omega)|(simp [In64] at *; omega)|(simp_all; done)|skip)
   refine qa ?_
   refine hk_cond rfl (fun hC2=>?_) (fun hC2=>?_)
   ·cases hC2
   ·(try simp only [nhs] at hC2)
    refine qh (qd (qa ?_))
    refine hk_region fun K hK=>runs_eval tab_ok ?_
    simp only [ev0,evA,evB,evP,fl,gp,tab,simprocAttr,reduceCtorEq,reduceIte]
    refine fin_run ?_ (hK _ ?_)<;>clear hK<;>clear K
    ·(first|exact trivial|omega|(simp only [In64] at *; omega)|(simp [In64] at *; omega)|(simp_all; done)|skip)
    refine qa ?_
    refine ⟨1,[0,1,2,3],by omega,by omega,?_⟩
    simp only [leq,leA,ev0,evA,evB,evP,fl,gp,tab,simprocAttr,reduceCtorEq,reduceIte]<;>first|trivial|omega
  ·refine hk_region fun K hK=>runs_eval tab_ok ?_
   simp only [ev0,evA,evB,evP,fl,gp,tab,simprocAttr,reduceCtorEq,reduceIte,List.getD_cons_zero,List.getD_cons_succ]
   refine fin_run ?_ (hK _ ?_)<;>clear hK<;>clear K
   ·(first|exact trivial|omega|(simp only [In64] at *; omega)|(simp [In64] at *; omega)|(simp_all; done)|skip)
   refine qa (qm ?_)
   refine hk_region fun K hK=>runs_eval tab_ok ?_
   simp only [ev0,evA,evB,evP,fl,gp,tab,simprocAttr,reduceCtorEq,reduceIte]
   refine fin_stop trivial (runs_call (check_c n' m' (by omega)) rfl rfl rfl (by simp only [dstOk,Nat.reduceLT]) (by repeat (first|exact trivial|constructor)) (runs_eval tab_ok ?_))
   simp only [ev0,evA,evB,evP,fl,gp,tab,simprocAttr,reduceCtorEq,reduceIte,gf_of h']
   refine fin_run ?_ (hK _ ?_)<;>clear hK<;>clear K
   ·(first|exact trivial|omega|(simp only [In64] at *; omega)|(simp [In64] at *; omega)|(simp_all; done)|skip)
   refine qa (qm ?_)
   refine hk_region fun K hK=>runs_eval tab_ok ?_
   simp only [ev0,evA,evB,evP,fl,gp,tab,simprocAttr,reduceCtorEq,reduceIte]
   refine fin_run ?_ (hK _ ?_)<;>clear hK<;>clear K
   ·(first|exact trivial|omega|(simp only [In64] at *; omega)|(simp [In64] at *; omega)|(simp_all; done)|skip)
   refine qa ?_
   refine hk_cond rfl (fun hC2=>?_) (fun hC2=>?_)
   ·cases hC2
   ·(try simp only [nhs] at hC2)
    refine qh (qd (qa ?_))
    refine hk_region fun K hK=>runs_eval tab_ok ?_
    simp only [ev0,evA,evB,evP,fl,gp,tab,simprocAttr,reduceCtorEq,reduceIte]
    refine fin_run ?_ (hK _ ?_)<;>clear hK<;>clear K
    ·(first|exact trivial|omega|(simp only [In64] at *; omega)|(simp [In64] at *; omega)|(simp_all; done)|skip)
    refine qa ?_
    refine ⟨2,[0,1,2,3],by omega,by omega,?_⟩
    simp only [leq,leA,ev0,evA,evB,evP,fl,gp,tab,simprocAttr,reduceCtorEq,reduceIte]<;>first|trivial|omega
 ·(try simp only [nhs] at hC1)
  refine qj (qc (qc (qf (qa (qm (qm ?_))))))
  refine hk_region fun K hK=>runs_eval tab_ok ?_
  simp only [ev0,evA,evB,evP,fl,gp,tab,simprocAttr,reduceCtorEq,reduceIte,ll_length,hl]
  refine fin_run ?_ (hK _ ?_)<;>clear hK<;>clear K
  ·(first|exact trivial|omega|(simp only [In64] at *; omega)|(simp [In64] at *; omega)|(simp_all; done)|skip)
  refine qa ?_
  refine hk_cond rfl (fun hC3=>?_) (fun hC3=>?_)
  ·cases hC3
  ·(try simp only [nhs] at hC3)
   refine qh (qa (qm (qm ?_)))
   refine hk_region fun K hK=>runs_eval tab_ok ?_
   simp only [ev0,evA,evB,evP,fl,gp,tab,simprocAttr,reduceCtorEq,reduceIte,ll_length,hl]
   refine fin_run trivial (hK _ ?_)<;>clear hK<;>clear K
   refine qa (ql ?_)
   refine hk_loop (ι:=Nat) (fun i=>⟨200,[(2,.p (.list (ll ls))),(3,.ptr 0 0),(4,.ptr 1 0),(6,.ptr 2 0),(7,.ptr 3 0),(50,.p (.list (ll ls))),(51,.p (.int .i64 n')),(52,.p (.int .i64 i))],[.own [.p (.int .i64 n),.p (.list (il m))],.own [.p (.int .i64 n'),.p (.list (il m'))],.own [.p (.int .i64 0),.p .nil],.own [.p (.int .i64 0),.p (.int .i64 0)]]⟩) (fun i=>i≤n') (fun i=>n' - i) 0 (Nat.zero_le _) [0,1,2,3] (by simp only [leq,leA,ev0,evA,evB,evP,fl,gp,tab,simprocAttr,reduceCtorEq,reduceIte]<;>trivial) fun i hi=>?_
   refine qm ?_
   refine hk_region fun K hK=>runs_eval tab_ok ?_
   simp only [ev0,evA,evB,evP,fl,gp,tab,simprocAttr,reduceCtorEq,reduceIte]
   refine fin_run trivial (hK _ ?_)<;>clear hK<;>clear K
   refine qa (qm ?_)
   refine hk_cond rfl (fun hC4=>?_) (fun hC4=>?_)
   ·(try simp only [nhs] at hC4)
    have hlt:i < n':=by omega
    obtain ⟨hln,hval⟩:=hrow i hlt
    have hh:=hho i hlt
    obtain ⟨hH,hon⟩:=rwc_ok (hr i hlt)
    refine qh (qa (qm (ql (qm ?_))))
    refine hk_region fun K hK=>runs_eval tab_ok ?_
    simp only [ev0,evA,evB,evP,fl,gp,tab,simprocAttr,reduceCtorEq,reduceIte,ll_length,ll_get (show i < ls.length by omega)]
    refine fin_run ?_ (hK _ ?_)<;>clear hK<;>clear K
    ·(first|exact trivial|omega|(simp only [In64] at *; omega)|(simp [In64] at *; omega)|(simp_all; done)|skip)
    refine qa (qm (qm ?_))
    refine hk_region fun K hK=>runs_eval tab_ok ?_
    simp only [ev0,evA,evB,evP,fl,gp,tab,simprocAttr,reduceCtorEq,reduceIte]
    refine fin_stop trivial (runs_call (homCheck_c n m n m (ls.getD i []) (by omega) (by omega)) rfl rfl rfl (by simp only [dstOk,Nat.reduceLT]) (by repeat (first|exact trivial|constructor)) (runs_eval tab_ok ?_))
    simp only [ev0,evA,evB,evP,fl,gp,tab,simprocAttr,reduceCtorEq,reduceIte,hh]
    refine fin_run ?_ (hK _ ?_)<;>clear hK<;>clear K
    ·(first|exact trivial|omega|(simp only [In64] at *; omega)|(simp [In64] at *; omega)|(simp_all; done)|skip)
    refine qa (qm ?_)
    refine hk_region fun K hK=>runs_eval tab_ok ?_
    simp only [ev0,evA,evB,evP,fl,gp,tab,simprocAttr,reduceCtorEq,reduceIte]
    refine fin_run ?_ (hK _ ?_)<;>clear hK<;>clear K
    ·(first|exact trivial|omega|(simp only [In64] at *; omega)|(simp [In64] at *; omega)|(simp_all; done)|skip)
    refine qa ?_
    refine hk_cond rfl (fun hC5=>?_) (fun hC5=>?_)
    ·cases hC5
    ·(try simp only [nhs] at hC5)
     refine qh (qa (qm ?_))
     refine hk_region fun K hK=>runs_eval tab_ok ?_
     simp only [ev0,evA,evB,evP,fl,gp,tab,simprocAttr,reduceCtorEq,reduceIte,makeSliceA.eq_def,hbl_new]
     refine fin_run ?_ (hK _ ?_)<;>clear hK<;>clear K
     ·omega
     refine qa (qm (qm ?_))
     refine hk_region fun K hK=>runs_eval tab_ok ?_
     simp only [ev0,evA,evB,evP,fl,gp,tab,simprocAttr,reduceCtorEq,reduceIte,il_length,hln]
     refine fin_run trivial (hK _ ?_)<;>clear hK<;>clear K
     refine qa (ql ?_)
     refine hk_loop (ι:=Nat) (fun k=>⟨200,[(2,.p (.list (ll ls))),(3,.ptr 0 0),(4,.ptr 1 0),(6,.ptr 2 0),(7,.ptr 3 0),(11,.p (.int .i64 i)),(14,.sl 4 0 n),(50,.p (.list (ll ls))),(51,.p (.int .i64 n')),(52,.p (.int .i64 i)),(72,.p (.list (il (ls.getD i [])))),(73,.p (.int .i64 n)),(74,.p (.int .i64 k))],[.own [.p (.int .i64 n),.p (.list (il m))],.own [.p (.int .i64 n'),.p (.list (il m'))],.own [.p (.int .i64 0),.p .nil],.own [.p (.int .i64 0),.p (.int .i64 0)],.own (opl (hbl n (hits (ls.getD i []) k)))]⟩) (fun k=>k≤n) (fun k=>n - k) 0 (Nat.zero_le _) [0,1,2,3,5] (by simp only [show hits (ls.getD i []) 0=fun _=>false from funext (hits_zero _)]; simp only [leq,leA,ev0,evA,evB,evP,fl,gp,tab,simprocAttr,reduceCtorEq,reduceIte]<;>trivial) fun k hk=>?_
     refine qm ?_
     refine hk_region fun K hK=>runs_eval tab_ok ?_
     simp only [ev0,evA,evB,evP,fl,gp,tab,simprocAttr,reduceCtorEq,reduceIte]
     refine fin_run trivial (hK _ ?_)<;>clear hK<;>clear K
     refine qa (qm ?_)
     refine hk_cond rfl (fun hC6=>?_) (fun hC6=>?_)
     ·(try simp only [nhs] at hC6)
      have hkl:k < n:=by omega
      have ev:=hval k hkl
      have lv:=A.lt i k hlt hkl
      refine qh (qa (qm (ql (qm ?_))))
      refine hk_region fun K hK=>runs_eval tab_ok ?_
      simp only [ev0,evA,evB,evP,fl,gp,tab,simprocAttr,reduceCtorEq,reduceIte,il_get (show k < (ls.getD i []).length by omega),ev]
      refine fin_run ?_ (hK _ ?_)<;>clear hK<;>clear K
      ·(first|exact trivial|omega|(simp only [In64] at *; omega)|(simp [In64] at *; omega)|(simp_all; done)|skip)
      refine qa ?_
      refine hk_region fun K hK=>runs_eval tab_ok ?_
      simp only [ev0,evA,evB,evP,fl,gp,tab,simprocAttr,reduceCtorEq,reduceIte]
      refine fin_run ?_ (hK _ ?_)<;>clear hK<;>clear K
      ·rw [hbl_len]; omega
      refine qd (qa ?_)
      rw [hbl_set]
      refine hk_region fun K hK=>runs_eval tab_ok ?_
      simp only [ev0,evA,evB,evP,fl,gp,tab,simprocAttr,reduceCtorEq,reduceIte]
      refine fin_run ?_ (hK _ ?_)<;>clear hK<;>clear K
      ·(first|exact trivial|omega|(simp only [In64] at *; omega)|(simp [In64] at *; omega)|(simp_all; done)|skip)
      refine qa ?_
      refine ⟨k + 1,[0,1,2,3,4],by omega,by omega,?_⟩
      rw [hbl_congr (fun i' _=>hits_succ (l:=ls.getD i []) (by omega) ev i')]
      simp only [leq,leA,ev0,evA,evB,evP,fl,gp,tab,simprocAttr,reduceCtorEq,reduceIte]<;>first|trivial|omega
     ·(try simp only [nhs] at hC6)
      have hkn:k=n:=by omega
      subst hkn
      have hno:decide (ixb k (hits (ls.getD i []) k) ≥ 0)=false:=decide_eq_false fun hc=>by
       obtain ⟨v,v1,v2⟩:=(ixb_iff k (hits (ls.getD i []) k)).1 hc
       unfold hits at v2
       rw [List.take_of_length_le (by omega)] at v2
       exact (of_decide_eq_false v2) (hon.1 v v1)
      refine hk_sealp 14 4 (hbl_all k (hits (ls.getD i []) k)) (by show AV.sl 4 0 k=AV.sl 4 0 _; rw [hbl_len]) rfl ?_
      refine qj (qc (qc (qf (qa (qm ?_)))))
      refine hk_region fun K hK=>runs_eval tab_ok ?_
      simp only [ev0,evA,evB,evP,fl,gp,tab,simprocAttr,reduceCtorEq,reduceIte]
      refine fin_stop trivial (runs_call (containsB_c k (hits (ls.getD i []) k) (by omega)) rfl rfl rfl (by simp only [dstOk,Nat.reduceLT]) (by repeat (first|exact trivial|constructor)) (runs_eval tab_ok ?_))
      simp only [ev0,evA,evB,evP,fl,gp,tab,simprocAttr,reduceCtorEq,reduceIte,hno]
      refine fin_run trivial (hK _ ?_)<;>clear hK<;>clear K
      refine qa ?_
      refine hk_cond rfl (fun hC7=>?_) (fun hC7=>?_)
      ·cases hC7
      ·(try simp only [nhs] at hC7)
       refine qh (qd (qa ?_))
       refine hk_region fun K hK=>runs_eval tab_ok ?_
       simp only [ev0,evA,evB,evP,fl,gp,tab,simprocAttr,reduceCtorEq,reduceIte]
       refine fin_run ?_ (hK _ ?_)<;>clear hK<;>clear K
       ·(first|exact trivial|omega|(simp only [In64] at *; omega)|(simp [In64] at *; omega)|(simp_all; done)|skip)
       refine qa ?_
       refine ⟨i + 1,[0,1,2,3],by omega,by omega,?_⟩
       simp only [leq,leA,ev0,evA,evB,evP,fl,gp,tab,simprocAttr,reduceCtorEq,reduceIte]<;>first|trivial|omega
   ·(try simp only [nhs] at hC4)
    refine qj (qc (qc (qf (qa (qm (qm ?_))))))
    refine hk_region fun K hK=>runs_eval tab_ok ?_
    simp only [ev0,evA,evB,evP,fl,gp,tab,simprocAttr,reduceCtorEq,reduceIte]
    refine fin_run ?_ (hK _ ?_)<;>clear hK<;>clear K
    ·(first|exact trivial|omega|(simp only [In64] at *; omega)|(simp [In64] at *; omega)|(simp_all; done)|skip)
    refine qa (ql ?_)
    refine hk_loop (ι:=Nat) (fun a=>⟨200,[(2,.p (.list (ll ls))),(3,.ptr 0 0),(4,.ptr 1 0),(6,.ptr 2 0),(7,.ptr 3 0),(89,.p (.int .i64 n')),(90,.p (.int .i64 a))],[.own [.p (.int .i64 n),.p (.list (il m))],.own [.p (.int .i64 n'),.p (.list (il m'))],.own [.p (.int .i64 0),.p .nil],.own [.p (.int .i64 0),.p (.int .i64 0)]]⟩) (fun a=>a≤n') (fun a=>n' - a) 0 (Nat.zero_le _) [0,1,2,3] (by simp only [leq,leA,ev0,evA,evB,evP,fl,gp,tab,simprocAttr,reduceCtorEq,reduceIte]<;>trivial) fun a ha=>?_
    refine qm ?_
    refine hk_region fun K hK=>runs_eval tab_ok ?_
    simp only [ev0,evA,evB,evP,fl,gp,tab,simprocAttr,reduceCtorEq,reduceIte]
    refine fin_run trivial (hK _ ?_)<;>clear hK<;>clear K
    refine qa (qm ?_)
    refine hk_cond rfl (fun hC8=>?_) (fun hC8=>?_)
    ·(try simp only [nhs] at hC8)
     have hal:a < n':=by omega
     refine qh (qa (qm (ql (qm ?_))))
     refine hk_region fun K hK=>runs_eval tab_ok ?_
     simp only [ev0,evA,evB,evP,fl,gp,tab,simprocAttr,reduceCtorEq,reduceIte]
     refine fin_run trivial (hK _ ?_)<;>clear hK<;>clear K
     refine qa (qm ?_)
     refine hk_region fun K hK=>runs_eval tab_ok ?_
     simp only [ev0,evA,evB,evP,fl,gp,tab,simprocAttr,reduceCtorEq,reduceIte]
     refine fin_run ?_ (hK _ ?_)<;>clear hK<;>clear K
     ·(first|exact trivial|omega|(simp only [In64] at *; omega)|(simp [In64] at *; omega)|(simp_all; done)|skip)
     refine qa (ql ?_)
     refine hk_loop (ι:=Nat) (fun b=>⟨200,[(2,.p (.list (ll ls))),(3,.ptr 0 0),(4,.ptr 1 0),(6,.ptr 2 0),(7,.ptr 3 0),(17,.p (.int .i64 a)),(89,.p (.int .i64 n')),(90,.p (.int .i64 a)),(94,.p (.int .i64 n')),(95,.p (.int .i64 b))],[.own [.p (.int .i64 n),.p (.list (il m))],.own [.p (.int .i64 n'),.p (.list (il m'))],.own [.p (.int .i64 0),.p .nil],.own [.p (.int .i64 0),.p (.int .i64 0)]]⟩) (fun b=>b≤n') (fun b=>n' - b) 0 (Nat.zero_le _) [0,1,2,3] (by simp only [leq,leA,ev0,evA,evB,evP,fl,gp,tab,simprocAttr,reduceCtorEq,reduceIte]<;>trivial) fun b hb=>?_
     refine qm ?_
     refine hk_region fun K hK=>runs_eval tab_ok ?_
     simp only [ev0,evA,evB,evP,fl,gp,tab,simprocAttr,reduceCtorEq,reduceIte]
     refine fin_run trivial (hK _ ?_)<;>clear hK<;>clear K
     refine qa (qm ?_)
     refine hk_cond rfl (fun hC9=>?_) (fun hC9=>?_)
     ·(try simp only [nhs] at hC9)
      have hbl' : b < n':=by omega
      refine qh (qa (qm (ql (qm ?_))))
      refine hk_region fun K hK=>runs_eval tab_ok ?_
      simp only [ev0,evA,evB,evP,fl,gp,tab,simprocAttr,reduceCtorEq,reduceIte]
      refine fin_run trivial (hK _ ?_)<;>clear hK<;>clear K
      refine qa (qm ?_)
      refine hk_region fun K hK=>runs_eval tab_ok ?_
      simp only [ev0,evA,evB,evP,fl,gp,tab,simprocAttr,reduceCtorEq,reduceIte]
      refine fin_run ?_ (hK _ ?_)<;>clear hK<;>clear K
      ·(first|exact trivial|omega|(simp only [In64] at *; omega)|(simp [In64] at *; omega)|(simp_all; done)|skip)
      refine qa (ql ?_)
      refine hk_loop (ι:=Nat) (fun x=>⟨200,[(2,.p (.list (ll ls))),(3,.ptr 0 0),(4,.ptr 1 0),(6,.ptr 2 0),(7,.ptr 3 0),(17,.p (.int .i64 a)),(18,.p (.int .i64 b)),(89,.p (.int .i64 n')),(90,.p (.int .i64 a)),(94,.p (.int .i64 n')),(95,.p (.int .i64 b)),(99,.p (.int .i64 n)),(100,.p (.int .i64 x))],[.own [.p (.int .i64 n),.p (.list (il m))],.own [.p (.int .i64 n'),.p (.list (il m'))],.own [.p (.int .i64 0),.p .nil],.own [.p (.int .i64 0),.p (.int .i64 0)]]⟩) (fun x=>x≤n) (fun x=>n - x) 0 (Nat.zero_le _) [0,1,2,3] (by simp only [leq,leA,ev0,evA,evB,evP,fl,gp,tab,simprocAttr,reduceCtorEq,reduceIte]<;>trivial) fun x hx=>?_
      refine qm ?_
      refine hk_region fun K hK=>runs_eval tab_ok ?_
      simp only [ev0,evA,evB,evP,fl,gp,tab,simprocAttr,reduceCtorEq,reduceIte]
      refine fin_run trivial (hK _ ?_)<;>clear hK<;>clear K
      refine qa (qm ?_)
      refine hk_cond rfl (fun hC10=>?_) (fun hC10=>?_)
      ·(try simp only [nhs] at hC10)
       have hxl:x < n:=by omega
       have hab:=G'.cl a b hal hbl'
       have r1:=hrow _ hab
       have r2:=hrow a hal
       have r3:=hrow b hbl'
       have v1:=r1.2 x hxl
       have v3:=r3.2 x hxl
       have l3:=A.lt b x hbl' hxl
       have v2:=r2.2 _ l3
       have hmu:=A.mul a b x hal hbl' hxl
       rw [hmu] at v1
       refine qh (qa (qm (ql (qm ?_))))
       refine hk_region fun K hK=>runs_eval tab_ok ?_
       simp only [ev0,evA,evB,evP,fl,gp,tab,simprocAttr,reduceCtorEq,reduceIte]
       refine fin_run trivial (hK _ ?_)<;>clear hK<;>clear K
       refine qa (qm ?_)
       refine hk_draw mixed (by kernel_rfl) fun K hK=>runs_eval tab_ok ?_
       simp only [ev0,evA,evB,evP,fl,gp,tab,simprocAttr,reduceCtorEq,reduceIte,ll_length,ll_get (show op m' n' a b < ls.length by omega),ll_get (show a < ls.length by omega),ll_get (show b < ls.length by omega),il_length,il_get (show x < (ls.getD (op m' n' a b) []).length by omega),v1,il_get (show x < (ls.getD b []).length by omega),v3,il_get (show alp ls b x < (ls.getD a []).length by omega),v2]
       refine fin_stop ?_ (runs_call (of_c T' hal hbl') rfl rfl rfl (by simp only [dstOk,Nat.reduceLT]) (by repeat (first|exact trivial|constructor)) (runs_eval tab_ok ?_))
       ·(first|exact trivial|omega|(simp only [In64] at *; omega)|(simp [In64] at *; omega)|(simp_all; done)|skip)
       simp only [ev0,evA,evB,evP,fl,gp,tab,simprocAttr,reduceCtorEq,reduceIte,ll_length,ll_get (show op m' n' a b < ls.length by omega),ll_get (show a < ls.length by omega),ll_get (show b < ls.length by omega),il_length,il_get (show x < (ls.getD (op m' n' a b) []).length by omega),v1,il_get (show x < (ls.getD b []).length by omega),v3,il_get (show alp ls b x < (ls.getD a []).length by omega),v2]
       refine fin_run ?_ (hK _ ?_)<;>clear hK<;>clear K
       ·(first|exact trivial|omega|(simp only [In64] at *; omega)|(simp [In64] at *; omega)|(simp_all; done)|skip)
       refine qa ?_
       refine hk_cond rfl (fun hC11=>?_) (fun hC11=>?_)
       ·cases hC11
       ·(try simp only [nhs] at hC11)
        refine qh (qd (qa ?_))
        refine hk_region fun K hK=>runs_eval tab_ok ?_
        simp only [ev0,evA,evB,evP,fl,gp,tab,simprocAttr,reduceCtorEq,reduceIte]
        refine fin_run ?_ (hK _ ?_)<;>clear hK<;>clear K
        ·(first|exact trivial|omega|(simp only [In64] at *; omega)|(simp [In64] at *; omega)|(simp_all; done)|skip)
        refine qa ?_
        refine ⟨x + 1,[0,1,2,3],by omega,by omega,?_⟩
        simp only [leq,leA,ev0,evA,evB,evP,fl,gp,tab,simprocAttr,reduceCtorEq,reduceIte]<;>first|trivial|omega
      ·(try simp only [nhs] at hC10)
       refine qj (qc (qc (qf (qd (qa ?_)))))
       refine hk_region fun K hK=>runs_eval tab_ok ?_
       simp only [ev0,evA,evB,evP,fl,gp,tab,simprocAttr,reduceCtorEq,reduceIte]
       refine fin_run ?_ (hK _ ?_)<;>clear hK<;>clear K
       ·(first|exact trivial|omega|(simp only [In64] at *; omega)|(simp [In64] at *; omega)|(simp_all; done)|skip)
       refine qa ?_
       refine ⟨b + 1,[0,1,2,3],by omega,by omega,?_⟩
       simp only [leq,leA,ev0,evA,evB,evP,fl,gp,tab,simprocAttr,reduceCtorEq,reduceIte]<;>first|trivial|omega
     ·(try simp only [nhs] at hC9)
      refine qj (qc (qc (qf (qd (qa ?_)))))
      refine hk_region fun K hK=>runs_eval tab_ok ?_
      simp only [ev0,evA,evB,evP,fl,gp,tab,simprocAttr,reduceCtorEq,reduceIte]
      refine fin_run ?_ (hK _ ?_)<;>clear hK<;>clear K
      ·(first|exact trivial|omega|(simp only [In64] at *; omega)|(simp [In64] at *; omega)|(simp_all; done)|skip)
      refine qa ?_
      refine ⟨a + 1,[0,1,2,3],by omega,by omega,?_⟩
      simp only [leq,leA,ev0,evA,evB,evP,fl,gp,tab,simprocAttr,reduceCtorEq,reduceIte]<;>first|trivial|omega
    ·(try simp only [nhs] at hC8)
     refine qj (qc (qc (qf (qa (qm (qm ?_))))))
     refine hk_region fun K hK=>runs_eval tab_ok ?_
     simp only [ev0,evA,evB,evP,fl,gp,tab,simprocAttr,reduceCtorEq,reduceIte,hmul]
     refine fin_run ?_ (hK _ ?_)<;>clear hK<;>clear K
     ·(first|exact trivial|omega|(simp only [In64] at *; omega)|(simp [In64] at *; omega)|(simp_all; done)|skip)
     refine qa ?_
     refine hk_cond rfl (fun hC12=>?_) (fun hC12=>?_)
     ·(try simp only [nhs] at hC12)
      omega
     ·(try simp only [nhs] at hC12)
      refine qh (qa (qm ?_))
      refine hk_region fun K hK=>runs_eval tab_ok ?_
      simp only [ev0,evA,evB,evP,fl,gp,tab,simprocAttr,reduceCtorEq,reduceIte,hmul]
      refine fin_run ?_ (hK _ ?_)<;>clear hK<;>clear K
      ·(first|exact trivial|omega|(simp only [In64] at *; omega)|(simp [In64] at *; omega)|(simp_all; done)|skip)
      refine qa (qm (qm ?_))
      refine hk_own0c 4 1 rfl rfl ?_
      simp only [hset,List.cons_append,List.nil_append,List.set,List.length_cons,List.length_nil]
      refine hk_region fun K hK=>runs_eval tab_ok ?_
      simp only [ev0,evA,evB,evP,fl,gp,tab,simprocAttr,reduceCtorEq,reduceIte]
      refine fin_run ?_ (hK _ ?_)<;>clear hK<;>clear K
      ·(first|exact trivial|omega|(simp only [In64] at *; omega)|(simp [In64] at *; omega)|(simp_all; done)|skip)
      refine qa (ql ?_)
      refine hk_loop (ι:=Nat) (fun i=>⟨200,[(2,.p (.list (ll ls))),(3,.ptr 0 0),(4,.ptr 1 0),(6,.ptr 2 0),(7,.ptr 3 0),(20,.ptr 4 0),(148,.p (.int .i64 (n * n' : Nat))),(149,.p (.int .i64 i))],[.own [.p (.int .i64 n),.p (.list (il m))],.own [.p (.int .i64 n'),.p (.list (il m'))],.own [.p (.int .i64 0),.p .nil],.own [.p (.int .i64 0),.p (.int .i64 0)],.own [.p (.int .i64 (n * n' : Nat)),.sl 5 0 (tbr (sgm n n' m m' ls) (n * n') (i * (n * n'))).length],.own (ol (tbr (sgm n n' m m' ls) (n * n') (i * (n * n'))))]⟩) (fun i=>i≤n * n') (fun i=>n * n' - i) 0 (Nat.zero_le _) [0,1,2,3,4,5] (by rw [Nat.zero_mul]; simp only [leq,leA,ev0,evA,evB,evP,fl,gp,tab,simprocAttr,reduceCtorEq,reduceIte]<;>first|trivial|simp [tbr,rg,ol_nil]) fun i hi=>?_
      refine qm ?_
      refine hk_region fun K hK=>runs_eval tab_ok ?_
      simp only [ev0,evA,evB,evP,fl,gp,tab,simprocAttr,reduceCtorEq,reduceIte]
      refine fin_run trivial (hK _ ?_)<;>clear hK<;>clear K
      refine qa (qm ?_)
      refine hk_cond rfl (fun hC13=>?_) (fun hC13=>?_)
      ·(try simp only [nhs] at hC13)
       have hil:i < n * n':=by omega
       refine qh (qa (qm (ql (qm ?_))))
       refine hk_region fun K hK=>runs_eval tab_ok ?_
       simp only [ev0,evA,evB,evP,fl,gp,tab,simprocAttr,reduceCtorEq,reduceIte]
       refine fin_run trivial (hK _ ?_)<;>clear hK<;>clear K
       refine qa (qm ?_)
       refine hk_region fun K hK=>runs_eval tab_ok ?_
       simp only [ev0,evA,evB,evP,fl,gp,tab,simprocAttr,reduceCtorEq,reduceIte]
       refine fin_run ?_ (hK _ ?_)<;>clear hK<;>clear K
       ·(first|exact trivial|omega|(simp only [In64] at *; omega)|(simp [In64] at *; omega)|(simp_all; done)|skip)
       refine qa (ql ?_)
       refine hk_loop (ι:=Nat) (fun k=>⟨200,[(2,.p (.list (ll ls))),(3,.ptr 0 0),(4,.ptr 1 0),(6,.ptr 2 0),(7,.ptr 3 0),(20,.ptr 4 0),(21,.p (.int .i64 i)),(148,.p (.int .i64 (n * n' : Nat))),(149,.p (.int .i64 i)),(153,.p (.int .i64 (n * n' : Nat))),(154,.p (.int .i64 k))],[.own [.p (.int .i64 n),.p (.list (il m))],.own [.p (.int .i64 n'),.p (.list (il m'))],.own [.p (.int .i64 0),.p .nil],.own [.p (.int .i64 0),.p (.int .i64 0)],.own [.p (.int .i64 (n * n' : Nat)),.sl 5 0 (tbr (sgm n n' m m' ls) (n * n') (i * (n * n') + k)).length],.own (ol (tbr (sgm n n' m m' ls) (n * n') (i * (n * n') + k)))]⟩) (fun k=>k≤n * n') (fun k=>n * n' - k) 0 (Nat.zero_le _) [0,1,2,3,4,5] (by rw [Nat.add_zero]; simp only [leq,leA,ev0,evA,evB,evP,fl,gp,tab,simprocAttr,reduceCtorEq,reduceIte]<;>trivial) fun k hk=>?_
       refine qm ?_
       refine hk_region fun K hK=>runs_eval tab_ok ?_
       simp only [ev0,evA,evB,evP,fl,gp,tab,simprocAttr,reduceCtorEq,reduceIte]
       refine fin_run trivial (hK _ ?_)<;>clear hK<;>clear K
       refine qa (qm ?_)
       refine hk_cond rfl (fun hC14=>?_) (fun hC14=>?_)
       ·(try simp only [nhs] at hC14)
        have hkl:k < n * n':=by omega
        have hat:=at_lt hil hkl
        have hl':=hlen (i * (n * n') + k)
        obtain ⟨i1,i2,_⟩:=pr_split G'.pos hil
        obtain ⟨k1,k2,_⟩:=pr_split G'.pos hkl
        have hpos:=G'.pos
        have ra:=hrow _ i2
        have va:=ra.2 _ k1
        have la:=A.lt _ _ i2 k1
        have o1:=G.cl _ _ i1 la
        have o2:=G'.cl _ _ i2 k2
        have p1:op m n (i / n') (alp ls (i % n') (k / n')) * n'≤60 * 60:=Nat.mul_le_mul (by omega) hs2
        have p2:((op m n (i / n') (alp ls (i % n') (k / n')):Nat):Int) * (n' : Int)=((op m n (i / n') (alp ls (i % n') (k / n')) * n' : Nat):Int):=(Int.natCast_mul _ _).symm
        have p3:((op m n (i / n') (alp ls (i % n') (k / n')) * n' : Nat):Int) + ((op m' n' (i % n') (k % n'):Nat):Int)=sgm n n' m m' ls i k:=rfl
        refine qh (qa (qm (ql (qm ?_))))
        refine hk_region fun K hK=>runs_eval tab_ok ?_
        simp only [ev0,evA,evB,evP,fl,gp,tab,simprocAttr,reduceCtorEq,reduceIte]
        refine fin_run trivial (hK _ ?_)<;>clear hK<;>clear K
        refine qa (qm ?_)
        refine hk_draw mixed (by kernel_rfl) fun K hK=>runs_eval tab_ok ?_
        simp only [ev0,evA,evB,evP,fl,gp,tab,simprocAttr,reduceCtorEq,reduceIte,tm_nat,td_nat]
        refine fin_run ?_ (hK _ ?_)<;>clear hK<;>clear K
        ·generalize i / n' = s at *; generalize k / n' = t at *; generalize i % n' = u at *; generalize k % n' = v at *; simp only [In64]; omega
        refine qa ?_
        refine hk_draw2 mixed fun K hK=>runs2_eval tab_ok ?_
        simp only [evD,ev0,evA,evB,evP,fl,gp,tab,simprocAttr,reduceCtorEq,reduceIte,ll_length,ll_get (show i % n' < ls.length by omega),il_length,il_get (show k / n' < (ls.getD (i % n') []).length by omega),va,p2,p3]
        refine fin2_stop ?_ (runs2_call (of_c T i1 la) rfl rfl rfl rfl (by simp only [dstOk,Nat.reduceLT]) (by repeat (first|exact trivial|constructor)) (runs2_eval tab_ok ?_))
        ·generalize i / n' = s at *; generalize k / n' = t at *; generalize i % n' = u at *; generalize k % n' = v at *; omega
        simp only [evD,ev0,evA,evB,evP,fl,gp,tab,simprocAttr,reduceCtorEq,reduceIte,ll_length,ll_get (show i % n' < ls.length by omega),il_length,il_get (show k / n' < (ls.getD (i % n') []).length by omega),va,p2,p3]
        refine fin2_stop ?_ (runs2_call (of_c T' i2 k2) rfl rfl rfl rfl (by simp only [dstOk,Nat.reduceLT]) (by repeat (first|exact trivial|constructor)) (runs2_eval tab_ok ?_))
        ·(first|exact trivial|omega|(simp only [In64] at *; omega)|(simp [In64] at *; omega)|(simp_all; done)|skip)
        simp only [evD,ev0,evA,evB,evP,fl,gp,tab,simprocAttr,reduceCtorEq,reduceIte,ll_length,ll_get (show i % n' < ls.length by omega),il_length,il_get (show k / n' < (ls.getD (i % n') []).length by omega),va,p2,p3]
        refine fin2_run ?_ (hK _ _ (by first|kernel_rfl|rfl) ?_)<;>clear hK<;>clear K
        ·(first|exact trivial|omega|(simp only [In64] at *; omega)|(simp [In64] at *; omega)|(simp_all; done)|skip)
        refine qd (qa ?_)
        refine hk_region fun K hK=>runs_eval tab_ok ?_
        simp only [ev0,evA,evB,evP,fl,gp,tab,simprocAttr,reduceCtorEq,reduceIte]
        refine fin_run ?_ (hK _ ?_)<;>clear hK<;>clear K
        ·(first|exact trivial|omega|(simp only [In64] at *; omega)|(simp [In64] at *; omega)|(simp_all; done)|skip)
        refine qa ?_
        refine ⟨k + 1,[0,1,2,3,4,6],by omega,by omega,?_⟩
        rw [tbr_succ (sgm n n' m m' ls) hkl]
        simp only [leq,leA,ev0,evA,evB,evP,fl,gp,tab,simprocAttr,reduceCtorEq,reduceIte]<;>first|trivial|omega
       ·(try simp only [nhs] at hC14)
        have hkn:k=n * n':=by omega
        refine qj (qc (qc (qf (qd (qa ?_)))))
        refine hk_region fun K hK=>runs_eval tab_ok ?_
        simp only [ev0,evA,evB,evP,fl,gp,tab,simprocAttr,reduceCtorEq,reduceIte]
        refine fin_run ?_ (hK _ ?_)<;>clear hK<;>clear K
        ·(first|exact trivial|omega|(simp only [In64] at *; omega)|(simp [In64] at *; omega)|(simp_all; done)|skip)
        refine qa ?_
        refine ⟨i + 1,[0,1,2,3,4,5],by omega,by omega,?_⟩
        rw [hkn,show (i + 1) * (n * n')=i * (n * n') + n * n' by rw [Nat.add_mul,Nat.one_mul]]
        simp only [leq,leA,ev0,evA,evB,evP,fl,gp,tab,simprocAttr,reduceCtorEq,reduceIte]<;>first|trivial|omega
      ·(try simp only [nhs] at hC13)
       have hin:i=n * n':=by omega
       refine qj (qc (qc (qf (qa (qm ?_)))))
       refine hk_region fun K hK=>runs_eval tab_ok ?_
       simp only [ev0,evA,evB,evP,fl,gp,tab,simprocAttr,reduceCtorEq,reduceIte]
       refine fin_run ?_ (hK _ ?_)<;>clear hK<;>clear K
       ·(first|exact trivial|omega|(simp only [In64] at *; omega)|(simp [In64] at *; omega)|(simp_all; done)|skip)
       refine qa (qk ?_)
       simp only [Tryd.results61,enA,ev0,evA,evB,evP,fl,gp,tab,simprocAttr,reduceCtorEq,reduceIte]
       simp [hin,tbl,sg]
       rfl
end Go.Proofs.YtboadfahlflmhaaDoor

/-
  Walks: the document's example of a semidirect product. Conditions: none.
-/
set_option linter.all false
namespace Go.Proofs.YtboadfahlflmhaaDoor
open Go.Pv

def cyt (n:Nat):List Int:=tbl (fun a b=>(((a + b) % n:Nat):Int)) n
theorem cyt3:∃ e,GT (3:Nat) (cyt 3) 3 e:=by
 have hg:(gf 3 (cyt 3)).1=0:=by decide +kernel
 obtain ⟨n,e,h,_⟩:=gf_ok hg
 obtain rfl:n=3:=by have:=h.1; omega
 exact ⟨e,h⟩
theorem cyt2:∃ e,GT (2:Nat) (cyt 2) 2 e:=by
 have hg:(gf 2 (cyt 2)).1=0:=by decide +kernel
 obtain ⟨n,e,h,_⟩:=gf_ok hg
 obtain rfl:n=2:=by have:=h.1; omega
 exact ⟨e,h⟩
def s3t:List Int:=sg 3 2 (cyt 3) (cyt 2) [[0,1,2],[0,2,1]]
theorem s3_tab:Tab 6 s3t:=by
 have hg:(gf 6 s3t).1=0:=by decide +kernel
 obtain ⟨n,e,h,_⟩:=gf_ok hg
 obtain rfl:n=6:=by have:=h.1; omega
 exact h.2.1
theorem prodBegun_c:FnC Tryd.prog 60 [] (.bool true):=by
 obtain ⟨e,h⟩:=cyt3
 obtain ⟨e',h'⟩:=cyt2
 have hr:∀ j,j < 2→rwc (3:Nat) (cyt 3) (List.getD [[0,1,2],[0,2,1]] j [])=0:=by decide +kernel
 have hmg:∀ j,j < 2→mgd (cyt 2) 2 [[0,1,2],[0,2,1]] j:=by decide +kernel
 have hsemi:FnC Tryd.prog 61 [gp 3 (cyt 3),gp 2 (cyt 2),.list (ll [[0,1,2],[0,2,1]])] (.tup [gp 6 s3t,fl (0,0)]):=semi_ok h h' rfl hr hmg (by decide)
 have hr3:=ringOf_c 3 (by decide) (by decide)
 have hr2:=ringOf_c 2 (by decide) (by decide)
 have hab:decide (abel s3t 6)=false:=by decide +kernel
 have hco:=commutes_c s3_tab
 rw [hab] at hco
 refine fnc_of tab_ok Tryd.func60 rfl (by kernel_rfl) (by rw [Tryd.ntmps60]; exact Nat.le_add_left 0 _) ?_; rw [Tryd.ntmps60]
 refine qm ?_
 refine hk_region fun K hK=>runs_eval tab_ok ?_
 simp only [ev0,evA,evB,evP,fl,gp,tab,simprocAttr,reduceCtorEq,reduceIte]
 refine fin_run trivial (hK _ ?_)<;>clear hK<;>clear K
 refine qa (qm ?_)
 refine hk_region fun K hK=>runs_eval tab_ok ?_
 simp only [ev0,evA,evB,evP,fl,gp,tab,simprocAttr,reduceCtorEq,reduceIte]
 refine fin_stop trivial (runs_call (hr3) rfl rfl rfl (by simp only [dstOk,Nat.reduceLT]) (by repeat (first|exact trivial|constructor)) (runs_eval tab_ok ?_))
 simp only [ev0,evA,evB,evP,fl,gp,tab,simprocAttr,reduceCtorEq,reduceIte]
 refine fin_stop trivial (runs_call (hr2) rfl rfl rfl (by simp only [dstOk,Nat.reduceLT]) (by repeat (first|exact trivial|constructor)) (runs_eval tab_ok ?_))
 simp only [ev0,evA,evB,evP,fl,gp,tab,simprocAttr,reduceCtorEq,reduceIte]
 refine fin_stop ?_ (runs_call (FnC.weak (args':=[gp 3 (cyt 3),gp 2 (cyt 2),.nn [.nn (il [0,1,2]),.nn (il [0,2,1])]]) hsemi ⟨.rfl,.rfl,.nn2,trivial⟩) rfl rfl rfl (by simp only [dstOk,Nat.reduceLT]) (by repeat (first|exact trivial|constructor)) (runs_eval tab_ok ?_))
 ·(first|exact trivial|omega|(simp only [In64] at *; omega)|(simp [In64] at *; omega)|(simp_all; done)|skip)
 simp only [ev0,evA,evB,evP,fl,gp,tab,simprocAttr,reduceCtorEq,reduceIte]
 refine fin_run ?_ (hK _ ?_)<;>clear hK<;>clear K
 ·(first|exact trivial|omega|(simp only [In64] at *; omega)|(simp [In64] at *; omega)|(simp_all; done)|skip)
 refine qa (qm ?_)
 refine hk_region fun K hK=>runs_eval tab_ok ?_
 simp only [ev0,evA,evB,evP,fl,gp,tab,simprocAttr,reduceCtorEq,reduceIte]
 refine fin_stop trivial (runs_call (hco) rfl rfl rfl (by simp only [dstOk,Nat.reduceLT]) (by repeat (first|exact trivial|constructor)) (runs_eval tab_ok ?_))
 simp only [ev0,evA,evB,evP,fl,gp,tab,simprocAttr,reduceCtorEq,reduceIte]
 refine fin_run ?_ (hK _ ?_)<;>clear hK<;>clear K
 ·(first|exact trivial|omega|(simp only [In64] at *; omega)|(simp [In64] at *; omega)|(simp_all; done)|skip)
 refine qa (qk ?_)
 simp only [Tryd.results60,enA,ev0,evA,evB,evP,fl,gp,tab,simprocAttr,reduceCtorEq,reduceIte]
 all_goals (rfl)
end Go.Proofs.YtboadfahlflmhaaDoor

/-
  Walks: prod.Direct; the document's word for it. Conditions: none.
-/
set_option linter.all false
namespace Go.Proofs.YtboadfahlflmhaaDoor
open Go.Pv

theorem dufb_t:ufb true=(0,0):=rfl
theorem em3p (P Q:Prop):¬ P∨(P∧Q)∨(P∧¬ Q):=by
 by_cases h1:P<;>by_cases h2:Q<;>simp [h1,h2]

set_option maxHeartbeats 4000000 in
theorem direct_ok {n e:Nat} {m:List Int} (h:GT n m n e) {p q:Nat→Bool} (hp:Sub n (op m n) e p) (hq:Sub n (op m n) e q) (b:Bool) (hbs:b=true↔(mem n p).length * (mem n q).length=n∧(mem n fun x=>p x && q x).length=1∧Cmm n (op m n) p q):FnC Tryd.prog 67 [gp n m,.list (il (thl n p)),.list (il (thl n q))] (.tup [.bool b,fl (0,0)]):=by
 have G:=h.2.2
 have hb:=h.2.1.big
 have lp:=thl_le n p
 have lq:=thl_le n q
 have ep:(mem n p).length=(thl n p).length:=(thl_len n p).symm
 have eq' : (mem n q).length=(thl n q).length:=(thl_len n q).symm
 rw [ep,eq'] at hbs
 have hmi:((thl n p).length:Int) * ((thl n q).length:Int)=(((thl n p).length * (thl n q).length:Nat):Int):=(Int.natCast_mul _ _).symm
 have hml:(thl n p).length * (thl n q).length≤60 * 60:=Nat.mul_le_mul (by omega) (by omega)
 have hgr:=grow_c h 0 (Nat.two_pow_pos n) (onp e) (fun a ha=>G.gen_none (fun b _=>Nat.zero_testBit b) ha)
 have ho1:=of_s (thl n p) (by omega) (thl_rng hb p)
 have ho2:=of_s (thl n q) (by omega) (thl_rng hb q)
 rw [msk_thl] at ho1 ho2
 have hband:=bv_and (bo_lt64 hb p) (bo_lt64 hb q)
 rw [bo_and] at hband
 have hmeet:(mem n fun x=>p x && q x).length=1↔bo n (fun x=>p x && q x)=bo n (onp e):=by
  rw [G.meet_len hp hq]
  constructor
  ·intro h1
   refine bo_congr fun a ha=>?_
   rw [Bool.eq_iff_iff,Bool.and_eq_true,onp_iff]
   exact ⟨fun h2=>h1 a ha h2.1 h2.2,fun h2=>by rw [h2]; exact ⟨hp.one,hq.one⟩⟩
  ·intro h1 a ha h2 h3
   have:=bo_inj h1 ha
   simp only [h2,h3,Bool.and_self] at this
   exact onp_iff.1 this.symm
 refine fnc_of tab_ok Tryd.func67 rfl (by kernel_rfl) (by rw [Tryd.ntmps67]; exact Nat.le_add_left 3 _) ?_; rw [Tryd.ntmps67]
 refine qm ?_
 refine hk_region fun K hK=>runs_eval tab_ok ?_
 simp only [ev0,evA,evB,evP,fl,gp,tab,simprocAttr,reduceCtorEq,reduceIte]
 refine fin_run ?_ (hK _ ?_)<;>clear hK<;>clear K
 ·(first|exact trivial|omega|(simp only [In64] at *; omega)|(simp [In64] at *; omega)|(simp_all; done)|skip)
 refine qa (qm (qm ?_))
 refine hk_region fun K hK=>runs_eval tab_ok ?_
 simp only [ev0,evA,evB,evP,fl,gp,tab,simprocAttr,reduceCtorEq,reduceIte]
 refine fin_run ?_ (hK _ ?_)<;>clear hK<;>clear K
 ·(first|exact trivial|omega|(simp only [In64] at *; omega)|(simp [In64] at *; omega)|(simp_all; done)|skip)
 refine qa (ql ?_)
 refine hk_loop (ι:=Nat) (fun i=>⟨75,[(1,.p (.list (il (thl n p)))),(2,.p (.list (il (thl n q)))),(3,.ptr 0 0),(7,.ptr 1 0),(17,.p (.nn [.list (il (thl n p)),.list (il (thl n q))])),(18,.p (.int .i64 2)),(19,.p (.int .i64 i))],[.own [.p (.int .i64 n),.p (.list (il m))],.own [.p (.int .i64 0),.p (.int .i64 0)]]⟩) (fun i=>i≤2) (fun i=>2 - i) 0 (by omega) [0,1] (by simp only [leq,leA,ev0,evA,evB,evP,fl,gp,tab,simprocAttr,reduceCtorEq,reduceIte]<;>trivial) fun i hi=>?_
 refine qm ?_
 refine hk_region fun K hK=>runs_eval tab_ok ?_
 simp only [ev0,evA,evB,evP,fl,gp,tab,simprocAttr,reduceCtorEq,reduceIte]
 refine fin_run trivial (hK _ ?_)<;>clear hK<;>clear K
 refine qa (qm ?_)
 refine hk_cond rfl (fun hC1=>?_) (fun hC1=>?_)
 ·(try simp only [nhs] at hC1)
  refine qh (qa (qm (ql (qm ?_))))
  rcases (show i=0∨i=1 by omega) with rfl | rfl
  ·refine hk_region fun K hK=>runs_eval tab_ok ?_
   simp only [ev0,evA,evB,evP,fl,gp,tab,simprocAttr,reduceCtorEq,reduceIte,List.getD_cons_zero,List.getD_cons_succ]
   refine fin_run ?_ (hK _ ?_)<;>clear hK<;>clear K
   ·(first|exact trivial|omega|(simp only [In64] at *; omega)|(simp [In64] at *; omega)|(simp_all; done)|skip)
   refine qa (qm ?_)
   refine hk_region fun K hK=>runs_eval tab_ok ?_
   simp only [ev0,evA,evB,evP,fl,gp,tab,simprocAttr,reduceCtorEq,reduceIte]
   refine fin_stop trivial (runs_call (group_ok h p true (by simp [hp])) rfl rfl rfl (by simp only [dstOk,Nat.reduceLT]) (by repeat (first|exact trivial|constructor)) (runs_eval tab_ok ?_))
   simp only [ev0,evA,evB,evP,fl,gp,tab,simprocAttr,reduceCtorEq,reduceIte,dufb_t]
   refine fin_run ?_ (hK _ ?_)<;>clear hK<;>clear K
   ·(first|exact trivial|omega|(simp only [In64] at *; omega)|(simp [In64] at *; omega)|(simp_all; done)|skip)
   refine qa (qm ?_)
   refine hk_region fun K hK=>runs_eval tab_ok ?_
   simp only [ev0,evA,evB,evP,fl,gp,tab,simprocAttr,reduceCtorEq,reduceIte]
   refine fin_run ?_ (hK _ ?_)<;>clear hK<;>clear K
   ·(first|exact trivial|omega|(simp only [In64] at *; omega)|(simp [In64] at *; omega)|(simp_all; done)|skip)
   refine qa ?_
   refine hk_cond rfl (fun hC2=>?_) (fun hC2=>?_)
   ·cases hC2
   ·(try simp only [nhs] at hC2)
    refine qh (qd (qa ?_))
    refine hk_region fun K hK=>runs_eval tab_ok ?_
    simp only [ev0,evA,evB,evP,fl,gp,tab,simprocAttr,reduceCtorEq,reduceIte]
    refine fin_run ?_ (hK _ ?_)<;>clear hK<;>clear K
    ·(first|exact trivial|omega|(simp only [In64] at *; omega)|(simp [In64] at *; omega)|(simp_all; done)|skip)
    refine qa ?_
    refine ⟨1,[0,1],by omega,by omega,?_⟩
    simp only [leq,leA,ev0,evA,evB,evP,fl,gp,tab,simprocAttr,reduceCtorEq,reduceIte]<;>first|trivial|omega
  ·refine hk_region fun K hK=>runs_eval tab_ok ?_
   simp only [ev0,evA,evB,evP,fl,gp,tab,simprocAttr,reduceCtorEq,reduceIte,List.getD_cons_zero,List.getD_cons_succ]
   refine fin_run ?_ (hK _ ?_)<;>clear hK<;>clear K
   ·(first|exact trivial|omega|(simp only [In64] at *; omega)|(simp [In64] at *; omega)|(simp_all; done)|skip)
   refine qa (qm ?_)
   refine hk_region fun K hK=>runs_eval tab_ok ?_
   simp only [ev0,evA,evB,evP,fl,gp,tab,simprocAttr,reduceCtorEq,reduceIte]
   refine fin_stop trivial (runs_call (group_ok h q true (by simp [hq])) rfl rfl rfl (by simp only [dstOk,Nat.reduceLT]) (by repeat (first|exact trivial|constructor)) (runs_eval tab_ok ?_))
   simp only [ev0,evA,evB,evP,fl,gp,tab,simprocAttr,reduceCtorEq,reduceIte,dufb_t]
   refine fin_run ?_ (hK _ ?_)<;>clear hK<;>clear K
   ·(first|exact trivial|omega|(simp only [In64] at *; omega)|(simp [In64] at *; omega)|(simp_all; done)|skip)
   refine qa (qm ?_)
   refine hk_region fun K hK=>runs_eval tab_ok ?_
   simp only [ev0,evA,evB,evP,fl,gp,tab,simprocAttr,reduceCtorEq,reduceIte]
   refine fin_run ?_ (hK _ ?_)<;>clear hK<;>clear K
   ·(first|exact trivial|omega|(simp only [In64] at *; omega)|(simp [In64] at *; omega)|(simp_all; done)|skip)
   refine qa ?_
   refine hk_cond rfl (fun hC2=>?_) (fun hC2=>?_)
   ·cases hC2
   ·(try simp only [nhs] at hC2)
    refine qh (qd (qa ?_))
    refine hk_region fun K hK=>runs_eval tab_ok ?_
    simp only [ev0,evA,evB,evP,fl,gp,tab,simprocAttr,reduceCtorEq,reduceIte]
    refine fin_run ?_ (hK _ ?_)<;>clear hK<;>clear K
    ·(first|exact trivial|omega|(simp only [In64] at *; omega)|(simp [In64] at *; omega)|(simp_all; done)|skip)
    refine qa ?_
    refine ⟨2,[0,1],by omega,by omega,?_⟩
    simp only [leq,leA,ev0,evA,evB,evP,fl,gp,tab,simprocAttr,reduceCtorEq,reduceIte]<;>first|trivial|omega
 ·(try simp only [nhs] at hC1)
  refine qj (qc (qc (qf (qa (qm (qm ?_))))))
  rcases em3p ((thl n p).length * (thl n q).length=n) (bo n (fun x=>p x && q x)=bo n (onp e)) with k1 | ⟨k1,k2⟩ | ⟨k1,k2⟩
  ·refine hk_draw mixed (by kernel_rfl) fun K hK=>runs_eval tab_ok ?_
   simp only [ev0,evA,evB,evP,fl,gp,tab,simprocAttr,reduceCtorEq,reduceIte,il_length,hmi,decide_eq_false (show ¬ (((thl n p).length * (thl n q).length:Nat):Int)=(n:Int) by omega)]
   refine fin_run ?_ (hK _ ?_)<;>clear hK<;>clear K
   ·(first|exact trivial|omega|(simp only [In64] at *; omega)|(simp [In64] at *; omega)|(simp_all; done)|skip)
   refine qa ?_
   refine hk_cond rfl (fun hC3=>?_) (fun hC3=>?_)
   ·refine qm ?_
    refine hk_region fun K hK=>runs_eval tab_ok ?_
    simp only [ev0,evA,evB,evP,fl,gp,tab,simprocAttr,reduceCtorEq,reduceIte]
    refine fin_run ?_ (hK _ ?_)<;>clear hK<;>clear K
    ·(first|exact trivial|omega|(simp only [In64] at *; omega)|(simp [In64] at *; omega)|(simp_all; done)|skip)
    refine qa (qk (qb ?_))
    simp only [Tryd.results67,enA,ev0,evA,evB,evP,fl,gp,tab,simprocAttr,reduceCtorEq,reduceIte]
    have hbf:b=false:=by
     cases b with
     | false=>rfl
     | true=>exact absurd (hbs.1 rfl).1 k1
    rw [hbf]
   ·cases hC3
  ·refine hk_draw mixed (by kernel_rfl) fun K hK=>runs_eval tab_ok ?_
   simp only [ev0,evA,evB,evP,fl,gp,tab,simprocAttr,reduceCtorEq,reduceIte,il_length,hmi,decide_eq_true (show (((thl n p).length * (thl n q).length:Nat):Int)=(n:Int) by omega)]
   refine fin_stop ?_ (runs_call (ho1) rfl rfl rfl (by simp only [dstOk,Nat.reduceLT]) (by repeat (first|exact trivial|constructor)) (runs_eval tab_ok ?_))
   ·simp only [In64]; omega
   simp only [ev0,evA,evB,evP,fl,gp,tab,simprocAttr,reduceCtorEq,reduceIte,il_length,hmi,decide_eq_true (show (((thl n p).length * (thl n q).length:Nat):Int)=(n:Int) by omega)]
   refine fin_stop trivial (runs_call (ho2) rfl rfl rfl (by simp only [dstOk,Nat.reduceLT]) (by repeat (first|exact trivial|constructor)) (runs_eval tab_ok ?_))
   simp only [ev0,evA,evB,evP,fl,gp,tab,simprocAttr,reduceCtorEq,reduceIte,hband,il_length,hmi,decide_eq_true (show (((thl n p).length * (thl n q).length:Nat):Int)=(n:Int) by omega)]
   refine fin_stop trivial (runs_call (hgr) rfl rfl rfl (by simp only [dstOk,Nat.reduceLT]) (by repeat (first|exact trivial|constructor)) (runs_eval tab_ok ?_))
   simp only [ev0,evA,evB,evP,fl,gp,tab,simprocAttr,reduceCtorEq,reduceIte,decide_eq_true (show ((bo n (fun x=>p x && q x):Nat):Int)=((bo n (onp e):Nat):Int) by rw [k2]),il_length,hmi,decide_eq_true (show (((thl n p).length * (thl n q).length:Nat):Int)=(n:Int) by omega)]
   refine fin_run ?_ (hK _ ?_)<;>clear hK<;>clear K
   ·(first|exact trivial|omega|(simp only [In64] at *; omega)|(simp [In64] at *; omega)|(simp_all; done)|skip)
   refine qa ?_
   refine hk_cond rfl (fun hC3=>?_) (fun hC3=>?_)
   ·cases hC3
   ·(try simp only [nhs] at hC3)
    refine qh (qa (qm (qm ?_)))
    refine hk_region fun K hK=>runs_eval tab_ok ?_
    simp only [ev0,evA,evB,evP,fl,gp,tab,simprocAttr,reduceCtorEq,reduceIte,il_length]
    refine fin_run trivial (hK _ ?_)<;>clear hK<;>clear K
    refine qa (ql ?_)
    refine hk_loop (ι:=Nat) (fun i=>⟨75,[(2,.p (.list (il (thl n q)))),(3,.ptr 0 0),(7,.ptr 1 0),(50,.p (.list (il (thl n p)))),(51,.p (.int .i64 (thl n p).length)),(52,.p (.int .i64 i))],[.own [.p (.int .i64 n),.p (.list (il m))],.own [.p (.int .i64 0),.p (.int .i64 0)]]⟩) (fun i=>i≤(thl n p).length∧∀ a b k,a < n→b < n→k < i→(thl n p).getD k 0=(a:Int)→q b=true→op m n a b=op m n b a) (fun i=>(thl n p).length - i) 0 ⟨Nat.zero_le _,fun a b k _ _ hk=>by omega⟩ [0,1] (by simp only [leq,leA,ev0,evA,evB,evP,fl,gp,tab,simprocAttr,reduceCtorEq,reduceIte]<;>trivial) fun i hi=>?_
    obtain ⟨hi1,hi2⟩:=hi
    refine qm ?_
    refine hk_region fun K hK=>runs_eval tab_ok ?_
    simp only [ev0,evA,evB,evP,fl,gp,tab,simprocAttr,reduceCtorEq,reduceIte]
    refine fin_run trivial (hK _ ?_)<;>clear hK<;>clear K
    refine qa (qm ?_)
    refine hk_cond rfl (fun hC4=>?_) (fun hC4=>?_)
    ·(try simp only [nhs] at hC4)
     have hlt:i < (thl n p).length:=by omega
     obtain ⟨x,x1,x2,x3⟩:=thl_get hlt
     refine qh (qa (qm (ql (qm ?_))))
     refine hk_region fun K hK=>runs_eval tab_ok ?_
     simp only [ev0,evA,evB,evP,fl,gp,tab,simprocAttr,reduceCtorEq,reduceIte,il_get hlt,x3]
     refine fin_run ?_ (hK _ ?_)<;>clear hK<;>clear K
     ·(first|exact trivial|omega|(simp only [In64] at *; omega)|(simp [In64] at *; omega)|(simp_all; done)|skip)
     refine qa (qm ?_)
     refine hk_region fun K hK=>runs_eval tab_ok ?_
     simp only [ev0,evA,evB,evP,fl,gp,tab,simprocAttr,reduceCtorEq,reduceIte,il_length]
     refine fin_run trivial (hK _ ?_)<;>clear hK<;>clear K
     refine qa (ql ?_)
     refine hk_loop (ι:=Nat) (fun j=>⟨75,[(2,.p (.list (il (thl n q)))),(3,.ptr 0 0),(7,.ptr 1 0),(12,.p (.int .i64 x)),(50,.p (.list (il (thl n p)))),(51,.p (.int .i64 (thl n p).length)),(52,.p (.int .i64 i)),(56,.p (.list (il (thl n q)))),(57,.p (.int .i64 (thl n q).length)),(58,.p (.int .i64 j))],[.own [.p (.int .i64 n),.p (.list (il m))],.own [.p (.int .i64 0),.p (.int .i64 0)]]⟩) (fun j=>j≤(thl n q).length∧∀ b k,b < n→k < j→(thl n q).getD k 0=(b:Int)→op m n x b=op m n b x) (fun j=>(thl n q).length - j) 0 ⟨Nat.zero_le _,fun b k _ hk=>by omega⟩ [0,1] (by simp only [leq,leA,ev0,evA,evB,evP,fl,gp,tab,simprocAttr,reduceCtorEq,reduceIte]<;>trivial) fun j hj=>?_
     obtain ⟨hj1,hj2⟩:=hj
     refine qm ?_
     refine hk_region fun K hK=>runs_eval tab_ok ?_
     simp only [ev0,evA,evB,evP,fl,gp,tab,simprocAttr,reduceCtorEq,reduceIte]
     refine fin_run trivial (hK _ ?_)<;>clear hK<;>clear K
     refine qa (qm ?_)
     refine hk_cond rfl (fun hC5=>?_) (fun hC5=>?_)
     ·(try simp only [nhs] at hC5)
      have hjl:j < (thl n q).length:=by omega
      obtain ⟨y,y1,y2,y3⟩:=thl_get hjl
      refine qh (qa (qm (ql (qm ?_))))
      refine hk_region fun K hK=>runs_eval tab_ok ?_
      simp only [ev0,evA,evB,evP,fl,gp,tab,simprocAttr,reduceCtorEq,reduceIte,il_get hjl,y3]
      refine fin_run ?_ (hK _ ?_)<;>clear hK<;>clear K
      ·(first|exact trivial|omega|(simp only [In64] at *; omega)|(simp [In64] at *; omega)|(simp_all; done)|skip)
      refine qa (qm ?_)
      refine hk_draw mixed (by kernel_rfl) fun K hK=>runs_eval tab_ok ?_
      simp only [ev0,evA,evB,evP,fl,gp,tab,simprocAttr,reduceCtorEq,reduceIte]
      refine fin_stop trivial (runs_call (of_c h.2.1 x1 y1) rfl rfl rfl (by simp only [dstOk,Nat.reduceLT]) (by repeat (first|exact trivial|constructor)) (runs_eval tab_ok ?_))
      simp only [ev0,evA,evB,evP,fl,gp,tab,simprocAttr,reduceCtorEq,reduceIte]
      refine fin_stop trivial (runs_call (of_c h.2.1 y1 x1) rfl rfl rfl (by simp only [dstOk,Nat.reduceLT]) (by repeat (first|exact trivial|constructor)) (runs_eval tab_ok ?_))
      simp only [ev0,evA,evB,evP,fl,gp,tab,simprocAttr,reduceCtorEq,reduceIte]
      refine fin_run ?_ (hK _ ?_)<;>clear hK<;>clear K
      ·(first|exact trivial|omega|(simp only [In64] at *; omega)|(simp [In64] at *; omega)|(simp_all; done)|skip)
      refine qa ?_
      refine hk_cond rfl (fun hC6=>?_) (fun hC6=>?_)
      ·(try simp only [nhs] at hC6)
       refine qm ?_
       refine hk_region fun K hK=>runs_eval tab_ok ?_
       simp only [ev0,evA,evB,evP,fl,gp,tab,simprocAttr,reduceCtorEq,reduceIte]
       refine fin_run ?_ (hK _ ?_)<;>clear hK<;>clear K
       ·(first|exact trivial|omega|(simp only [In64] at *; omega)|(simp [In64] at *; omega)|(simp_all; done)|skip)
       refine qa (qk (qe (qb (qb (qe (qe (qb (qb (qe (qb ?_))))))))))
       simp only [Tryd.results67,enA,ev0,evA,evB,evP,fl,gp,tab,simprocAttr,reduceCtorEq,reduceIte]
       have hbf:b=false:=by
        cases b with
        | false=>rfl
        | true =>
         have:=(hbs.1 rfl).2.2 x y x1 y1 x2 y2
         omega
       rw [hbf]
      ·(try simp only [nhs] at hC6)
       refine qh (qd (qa ?_))
       refine hk_region fun K hK=>runs_eval tab_ok ?_
       simp only [ev0,evA,evB,evP,fl,gp,tab,simprocAttr,reduceCtorEq,reduceIte]
       refine fin_run ?_ (hK _ ?_)<;>clear hK<;>clear K
       ·(first|exact trivial|omega|(simp only [In64] at *; omega)|(simp [In64] at *; omega)|(simp_all; done)|skip)
       refine qa ?_
       refine ⟨j + 1,[0,1],⟨by omega,fun b k hb' hk hg=>?_⟩,by omega,?_⟩
       ·by_cases hkj:k=j
        ·rw [hkj,y3] at hg
         obtain rfl:y=b:=by omega
         omega
        ·exact hj2 b k hb' (by omega) hg
       ·simp only [leq,leA,ev0,evA,evB,evP,fl,gp,tab,simprocAttr,reduceCtorEq,reduceIte]<;>first|trivial|omega
     ·(try simp only [nhs] at hC5)
      refine qj (qc (qc (qf (qd (qa ?_)))))
      refine hk_region fun K hK=>runs_eval tab_ok ?_
      simp only [ev0,evA,evB,evP,fl,gp,tab,simprocAttr,reduceCtorEq,reduceIte]
      refine fin_run ?_ (hK _ ?_)<;>clear hK<;>clear K
      ·(first|exact trivial|omega|(simp only [In64] at *; omega)|(simp [In64] at *; omega)|(simp_all; done)|skip)
      refine qa ?_
      refine ⟨i + 1,[0,1],⟨by omega,fun a b k ha hb' hk hg hqb=>?_⟩,by omega,?_⟩
      ·by_cases hki:k=i
       ·rw [hki,x3] at hg
        obtain rfl:x=a:=by omega
        obtain ⟨j',j1,j2⟩:=thl_at hb' hqb
        exact hj2 b j' hb' (by omega) j2
       ·exact hi2 a b k ha hb' (by omega) hg hqb
      ·simp only [leq,leA,ev0,evA,evB,evP,fl,gp,tab,simprocAttr,reduceCtorEq,reduceIte]<;>first|trivial|omega
    ·(try simp only [nhs] at hC4)
     refine qj (qc (qc (qf (qa (qm ?_)))))
     refine hk_region fun K hK=>runs_eval tab_ok ?_
     simp only [ev0,evA,evB,evP,fl,gp,tab,simprocAttr,reduceCtorEq,reduceIte]
     refine fin_run ?_ (hK _ ?_)<;>clear hK<;>clear K
     ·(first|exact trivial|omega|(simp only [In64] at *; omega)|(simp [In64] at *; omega)|(simp_all; done)|skip)
     refine qa (qk ?_)
     simp only [Tryd.results67,enA,ev0,evA,evB,evP,fl,gp,tab,simprocAttr,reduceCtorEq,reduceIte]
     have hbt:b=true:=hbs.2 ⟨k1,hmeet.2 k2,fun a c ha hc h1 h2=>by
      obtain ⟨i',i1,i2⟩:=thl_at ha h1
      exact hi2 a c i' ha hc (by omega) i2 h2⟩
     rw [hbt]
  ·refine hk_draw mixed (by kernel_rfl) fun K hK=>runs_eval tab_ok ?_
   simp only [ev0,evA,evB,evP,fl,gp,tab,simprocAttr,reduceCtorEq,reduceIte,il_length,hmi,decide_eq_true (show (((thl n p).length * (thl n q).length:Nat):Int)=(n:Int) by omega)]
   refine fin_stop ?_ (runs_call (ho1) rfl rfl rfl (by simp only [dstOk,Nat.reduceLT]) (by repeat (first|exact trivial|constructor)) (runs_eval tab_ok ?_))
   ·simp only [In64]; omega
   simp only [ev0,evA,evB,evP,fl,gp,tab,simprocAttr,reduceCtorEq,reduceIte,il_length,hmi,decide_eq_true (show (((thl n p).length * (thl n q).length:Nat):Int)=(n:Int) by omega)]
   refine fin_stop trivial (runs_call (ho2) rfl rfl rfl (by simp only [dstOk,Nat.reduceLT]) (by repeat (first|exact trivial|constructor)) (runs_eval tab_ok ?_))
   simp only [ev0,evA,evB,evP,fl,gp,tab,simprocAttr,reduceCtorEq,reduceIte,hband,il_length,hmi,decide_eq_true (show (((thl n p).length * (thl n q).length:Nat):Int)=(n:Int) by omega)]
   refine fin_stop trivial (runs_call (hgr) rfl rfl rfl (by simp only [dstOk,Nat.reduceLT]) (by repeat (first|exact trivial|constructor)) (runs_eval tab_ok ?_))
   simp only [ev0,evA,evB,evP,fl,gp,tab,simprocAttr,reduceCtorEq,reduceIte,decide_eq_false (show ¬ ((bo n (fun x=>p x && q x):Nat):Int)=((bo n (onp e):Nat):Int) by omega),il_length,hmi,decide_eq_true (show (((thl n p).length * (thl n q).length:Nat):Int)=(n:Int) by omega)]
   refine fin_run ?_ (hK _ ?_)<;>clear hK<;>clear K
   ·(first|exact trivial|omega|(simp only [In64] at *; omega)|(simp [In64] at *; omega)|(simp_all; done)|skip)
   refine qa ?_
   refine hk_cond rfl (fun hC3=>?_) (fun hC3=>?_)
   ·(try simp only [nhs] at hC3)
    refine qm ?_
    refine hk_region fun K hK=>runs_eval tab_ok ?_
    simp only [ev0,evA,evB,evP,fl,gp,tab,simprocAttr,reduceCtorEq,reduceIte]
    refine fin_run ?_ (hK _ ?_)<;>clear hK<;>clear K
    ·(first|exact trivial|omega|(simp only [In64] at *; omega)|(simp [In64] at *; omega)|(simp_all; done)|skip)
    refine qa (qk (qb ?_))
    simp only [Tryd.results67,enA,ev0,evA,evB,evP,fl,gp,tab,simprocAttr,reduceCtorEq,reduceIte]
    have hbf:b=false:=by
     cases b with
     | false=>rfl
     | true=>exact absurd (hmeet.1 (hbs.1 rfl).2.1) k2
    rw [hbf]
   ·cases hC3
end Go.Proofs.YtboadfahlflmhaaDoor

/-
  The builtin clear, over a row of the call's own. Conditions: none; a library text.
-/
set_option linter.all false
namespace Go.Pv
open Go.RowKit

section
variable {P:Program} {T:TypeId→Option TI} {s:St}
end
end Go.Pv

/-
  Walks: rows without doubles. Conditions: none.
-/
set_option linter.all false
namespace Go.Proofs.YtboadfahlflmhaaDoor
open Go.Pv

section
variable {α:Type} [DecidableEq α]
/-- A row without what repeats what stands ahead of it. -/
def cpN (d:α) (xs:List α) (k:Nat):List α:=((List.range k).filter fun j=>j == 0 || decide (xs.getD j d ≠ xs.getD (j - 1) d)).map fun j=>xs.getD j d
theorem cpN_succ (d:α) (xs:List α) (k:Nat):cpN d xs (k + 1)=if k=0∨xs.getD k d ≠ xs.getD (k - 1) d then cpN d xs k++[xs.getD k d] else cpN d xs k:=by
 unfold cpN
 rw [List.range_succ,List.filter_append,List.map_append]
 by_cases h:k=0∨xs.getD k d ≠ xs.getD (k - 1) d
 ·rw [if_pos h]
  congr 1
  rw [List.filter_cons_of_pos (by
   simp only [Bool.or_eq_true,beq_iff_eq,decide_eq_true_eq]
   exact h)]
  rfl
 ·rw [if_neg h]
  rw [List.filter_cons_of_neg (by
   simp only [Bool.or_eq_true,beq_iff_eq,decide_eq_true_eq]
   exact h)]
  simp
/-- Within: what stands so far. -/
structure CpS (d:α) (xs:List α) (i0 k:Nat) (R:List α) (i:Nat):Prop where
 len:R.length=xs.length
 tk:R.take i=cpN d xs (i0 + k)
 il:(cpN d xs (i0 + k)).length=i
 lt:0 < i∧i + 1≤i0 + k
 le:i0 + k≤xs.length
 same:∀ j,i0 + k≤j + 1→j < xs.length→R.getD j d=xs.getD j d

theorem CpS.skip {d:α} {xs R:List α} {i0 k i:Nat} (h:CpS d xs i0 k R i) (hk:i0 + k < xs.length) (hd:R.getD (i0 + k) d=R.getD (i0 + k - 1) d):CpS d xs i0 (k + 1) R i:=by
 have hl:=h.lt
 rw [h.same _ (by omega) hk,h.same _ (by omega) (by omega)] at hd
 have e:cpN d xs (i0 + (k + 1))=cpN d xs (i0 + k):=by
  rw [← Nat.add_assoc,cpN_succ,if_neg]
  rintro (h1 | h1)
  ·omega
  ·exact h1 hd
 exact ⟨h.len,by rw [e]; exact h.tk,by rw [e]; exact h.il,by omega,by omega,fun j h1 h2=>h.same j (by omega) h2⟩
end

end Go.Proofs.YtboadfahlflmhaaDoor

/-
  Composition series: parts of parts; the greatest normal subgroup; Composition walked. Conditions: none.
-/
set_option linter.all false
namespace Go.Proofs.YtboadfahlflmhaaDoor
open Go.Pv

/-! ### What a part has, in the whole -/

def lft (p q:Nat→Bool) (x:Nat):Bool:=p x && q (pix p x)
theorem lft_iff {p q:Nat→Bool} {x:Nat} : lft p q x=true↔p x=true∧q (pix p x)=true:=by unfold lft; rw [Bool.and_eq_true]
theorem lat_pix {n x:Nat} {p:Nat→Bool} (hx:x < n) (hp:p x=true):lat n p (pix p x)=x:=by
 have:=(pix_at hx hp).2
 unfold lat; rw [this]; rfl
theorem lat_low {n i:Nat} {p:Nat→Bool} (hi:i < (thl n p).length):lat (n + 1) p i=lat n p i:=by
 unfold lat
 rw [thl_succ,List.getD_eq_getElem?_getD,List.getElem?_append_left hi,← List.getD_eq_getElem?_getD]
theorem lft_thl (p q:Nat→Bool):∀ n,(thl (thl n p).length q).map (fun z=>((lat n p z.toNat:Nat):Int))=thl n (lft p q)
 | 0=>rfl
 | n + 1=>by
  have ih:=lft_thl p q n
  have hc:(thl (thl n p).length q).map (fun z=>((lat (n + 1) p z.toNat:Nat):Int))=thl n (lft p q):=by
   rw [← ih]
   refine List.map_congr_left fun z hz=>?_
   obtain ⟨i,i1,_,rfl⟩:=mem_thl.1 hz
   rw [Int.toNat_natCast,lat_low i1]
  rw [thl_succ n (lft p q)]
  by_cases hp:p n=true
  ·have hl:(thl (n + 1) p).length=(thl n p).length + 1:=by rw [thl_succ,if_pos hp]; simp
   have ha:lat (n + 1) p (thl n p).length=n:=by
    unfold lat
    rw [thl_succ,if_pos hp]; simp [List.getD]
   rw [hl,thl_succ,List.map_append,hc]
   have hv:lft p q n=q (thl n p).length:=by unfold lft pix; rw [hp]; rfl
   rw [hv]
   by_cases hq:q (thl n p).length=true
   ·rw [if_pos hq,if_pos hq]; simp [ha]
   ·rw [if_neg hq,if_neg hq]; rfl
  ·have hl:thl (n + 1) p=thl n p:=by rw [thl_succ,if_neg hp]; simp
   have hv:lft p q n=false:=by unfold lft; rw [Bool.not_eq_true] at hp; rw [hp]; rfl
   rw [hl,hv,if_neg (by simp),List.append_nil]
   exact hc

section
variable {n e:Nat} {f:Nat→Nat→Nat} {p q:Nat→Bool}

theorem pop_pix (hs:Sub n f e p) {a b:Nat} (ha:a < n) (hb:b < n) (pa:p a=true) (pb:p b=true):pop n f p (pix p a) (pix p b)=pix p (f a b):=by
 unfold pop; rw [lat_pix ha pa,lat_pix hb pb]
theorem lft_sub (G:Grp n f e) (hs:Sub n f e p) (hq:Sub (thl n p).length (pop n f p) (pix p e) q):Sub n f e (lft p q):=
 sub_of G (lft_iff.2 ⟨hs.one,hq.one⟩) fun a b ha hb h1 h2=>by
  obtain ⟨a1,a2⟩:=lft_iff.1 h1
  obtain ⟨b1,b2⟩:=lft_iff.1 h2
  refine lft_iff.2 ⟨hs.mul _ _ ha hb a1 b1,?_⟩
  rw [← pop_pix hs ha hb a1 b1]
  exact hq.mul _ _ (pix_at ha a1).1 (pix_at hb b1).1 a2 b2
theorem iv_pix (G:Grp n f e) (hs:Sub n f e p) {a:Nat} (ha:a < n) (pa:p a=true):iv (thl n p).length (pop n f p) (pix p e) (pix p a)=pix p (iv n f e a):=by
 have Gp:=ptb_grp G hs
 have hi:=G.iv_lt ha
 have pi:=hs.inv _ ha pa
 refine (Gp.iv_unique (pix_at ha pa).1 (pix_at hi pi).1 (.inl ?_)).symm
 rw [pop_pix hs ha hi pa pi,G.mul_iv ha]
theorem cjr_pix (G:Grp n f e) (hs:Sub n f e p) {x a:Nat} (hx:x < n) (ha:a < n) (px:p x=true) (pa:p a=true):cjr (thl n p).length (pop n f p) (pix p e) (pix p x) (pix p a)=pix p (cjr n f e x a):=by
 unfold cjr
 have hi:=G.iv_lt ha
 have pi:=hs.inv _ ha pa
 rw [iv_pix G hs ha pa,pop_pix hs hi hx pi px,pop_pix hs (G.cl _ _ hi hx) ha (hs.mul _ _ hi hx pi px) pa]
theorem cjr_in (G:Grp n f e) (hs:Sub n f e p) {x a:Nat} (hx:x < n) (ha:a < n) (px:p x=true) (pa:p a=true):p (cjr n f e x a)=true:=by
 have hi:=G.iv_lt ha
 have pi:=hs.inv _ ha pa
 exact hs.mul _ _ (G.cl _ _ hi hx) ha (hs.mul _ _ hi hx pi px) pa

/-- A normal subgroup of a subgroup, not all of it; with any thing more, and what that is conjugated to, it is all. -/
structure Mxn (n:Nat) (f:Nat→Nat→Nat) (e:Nat) (p p' : Nat→Bool):Prop where
 sub:Sub n f e p'
 le:∀ x,x < n→p' x=true→p x=true
 nml:∀ a x,a < n→x < n→p a=true→p' x=true→p' (cjr n f e x a)=true
 ne:∃ x,x < n∧p x=true∧p' x=false
 mx:∀ x,x < n→p x=true→p' x=false→∀ t:Nat→Bool,Sub n f e t→(∀ y,y < n→p' y=true→t y=true)→(∀ b,b < n→p b=true→t (cjr n f e x b)=true)→∀ y,y < n→p y=true→t y=true

def wth (q:Nat→Bool) (a x:Nat):Bool:=q x || decide (x=a)
/-- What the greatest normal subgroup is. -/
structure Grt (n:Nat) (f:Nat→Nat→Nat) (e:Nat) (q:Nat→Bool):Prop where
 sub:Sub n f e q
 nml:Nml n f e q
 ne:∃ x,x < n∧q x=false
 mx:∀ a,a < n→q a=false→∀ y,y < n→Gen n f e (cup n f e (wth q a)) y

theorem Grt.lift (G:Grp n f e) (hs:Sub n f e p) (hq:Grt (thl n p).length (pop n f p) (pix p e) q):Mxn n f e p (lft p q):=by
 have Gp:=ptb_grp G hs
 refine ⟨lft_sub G hs hq.sub,fun x _ h=>(lft_iff.1 h).1,fun a x ha hx pa h=>?_,?_,fun x hx px h t ht h1 h2 y hy py=>?_⟩
 ·obtain ⟨x1,x2⟩:=lft_iff.1 h
  refine lft_iff.2 ⟨cjr_in G hs hx ha x1 pa,?_⟩
  rw [← cjr_pix G hs hx ha x1 pa]
  exact hq.nml _ (pix_at ha pa).1 _ (pix_at hx x1).1 x2
 ·obtain ⟨i,i1,i2⟩:=hq.ne
  obtain ⟨x1,x2,_,x4⟩:=lat_at i1
  refine ⟨_,x1,x2,?_⟩
  unfold lft; rw [x2,x4,i2]; rfl
 ·have hqx:q (pix p x)=false:=by unfold lft at h; rw [px] at h; simpa using h
  have hall:=hq.mx _ (pix_at hx px).1 hqx (pix p y) (pix_at hy py).1
  have hS:Sub (thl n p).length (pop n f p) (pix p e) fun i=>t (lat n p i):=by
   refine sub_of Gp ?_ fun i j hi hj h1 h2=>?_
   ·rw [lat_pix G.el hs.one]; exact ht.one
   ·rw [(pop_at G hs hi hj).2]
    exact ht.mul _ _ (lat_at hi).1 (lat_at hj).1 h1 h2
  have:=hall.sub Gp hS fun b hb hc=>by
   obtain ⟨u,v,u1,v1,u2,u3⟩:=cup_iff.1 hc
   obtain ⟨a1,a2,_,a4⟩:=lat_at u1
   obtain ⟨b1,b2,_,b4⟩:=lat_at v1
   have e1:b=pix p (cjr n f e (lat n p u) (lat n p v)):=by
    rw [← u3,← cjr_pix G hs a1 b1 a2 b2,a4,b4]
   rw [e1,lat_pix (G.cjr_lt a1 b1) (cjr_in G hs a1 b1 a2 b2)]
   unfold wth at u2
   rw [Bool.or_eq_true,decide_eq_true_eq] at u2
   rcases u2 with u2 | u2
   ·refine h1 _ (G.cjr_lt a1 b1) (lft_iff.2 ⟨cjr_in G hs a1 b1 a2 b2,?_⟩)
    rw [← cjr_pix G hs a1 b1 a2 b2,a4,b4]
    exact hq.nml _ v1 _ u1 u2
   ·rw [u2,lat_pix hx px]
    exact h2 _ b1 b2
  rwa [lat_pix hy py] at this
theorem Mxn.lt (h:Mxn n f e p q):(mem n q).length < (mem n p).length:=mem_lt h.le fun hh=>by
 obtain ⟨x,x1,x2,x3⟩:=h.ne
 rw [hh x x1] at x3; rw [x3] at x2; cases x2
end

section
variable {n e:Nat} {f:Nat→Nat→Nat}
end

/-! ### greatest -/

/-! ### Composition -/

theorem Grt.cong {n e:Nat} {f g:Nat→Nat→Nat} {q:Nat→Bool} (G:Grp n f e) (h:∀ a b,a < n→b < n→g a b=f a b) (hq:Grt n g e q):Grt n f e q:=
 ⟨hq.sub.cong_op G h,hq.nml.cong_op G h,hq.ne,fun a ha hqa y hy=>(Gen.mono (fun b _ hb=>by rwa [cup_cong G h] at hb) (hq.mx a ha hqa y hy)).cong_op G h⟩

section
variable {n e:Nat} {m:List Int}
theorem ptb_GT (h:GT n m n e) {p:Nat→Bool} (hs:Sub n (op m n) e p):GT (thl n p).length (ptb n (op m n) p) (thl n p).length (pix p e):=by
 have:=thl_le n p
 have:=h.2.1.big
 exact tbl_GT' (by omega) (ptb_grp h.2.2 hs)
/-- A composition series: from all on, to one thing. -/
structure Cps (n:Nat) (f:Nat→Nat→Nat) (e:Nat) (T:Nat→Nat→Bool) (K:Nat):Prop where
 all:T 0=fun _=>true
 sub:∀ k,k≤K→Sub n f e (T k)
 mxn:∀ k,k < K→Mxn n f e (T k) (T (k + 1))
 last:(thl n (T K)).length=1
 short:K≤5

end
end Go.Proofs.YtboadfahlflmhaaDoor

/-
  Plain: chains of subgroups whose steps are as small as can be (Jordan and Hoelder). Conditions: none.
-/
set_option linter.all false
namespace Go.Proofs.YtboadfahlflmhaaDoor

section
variable {n e:Nat} {f:Nat→Nat→Nat} {p q a b:Nat→Bool}
theorem Mxn.nz (G:Grp n f e) (h:Mxn n f e p q) {c:Nat} (hc:c < n) (pc:p c=true):nzr n f e q c=true:=
 G.nzr_of h.sub hc fun y hy hh=>by
  obtain ⟨x,x1,x2,rfl⟩:=shf_iff.1 hh
  exact h.nml c x hc x1 pc x2
theorem Mxn.congr_l {p' : Nat→Bool} (h:Mxn n f e p q) (hp:∀ x,x < n→p' x=p x):Mxn n f e p' q where
 sub:=h.sub
 le x hx hq:=by rw [hp x hx]; exact h.le x hx hq
 nml c x hc hx pc:=h.nml c x hc hx (by rw [← hp c hc]; exact pc)
 ne:=by obtain ⟨x,x1,x2,x3⟩:=h.ne; exact ⟨x,x1,by rw [hp x x1]; exact x2,x3⟩
 mx x hx px qx t ht h1 h2 y hy py:=h.mx x hx (by rwa [← hp x hx]) qx t ht h1 (fun c hc pc=>h2 c hc (by rwa [hp c hc])) y hy (by rwa [← hp y hy])
theorem Mxn.congr_r {q' : Nat→Bool} (G:Grp n f e) (h:Mxn n f e p q) (hs:Sub n f e q') (hq:∀ x,x < n→q' x=q x):Mxn n f e p q' where
 sub:=hs
 le x hx hh:=h.le x hx (by rwa [← hq x hx])
 nml c x hc hx pc hh:=by
  rw [hq _ (G.cjr_lt hx hc)]
  exact h.nml c x hc hx pc (by rwa [← hq x hx])
 ne:=by obtain ⟨x,x1,x2,x3⟩:=h.ne; exact ⟨x,x1,x2,by rw [hq x x1]; exact x3⟩
 mx x hx px qx t ht h1 h2 y hy py:=h.mx x hx px (by rwa [← hq x hx]) t ht (fun y hy hh=>h1 y hy (by rwa [hq y hy])) h2 y hy py

theorem Mxn.top (G:Grp n f e) (ha:Mxn n f e p a) (hb:Mxn n f e p b) (hne:¬ ∀ x,x < n→a x=b x) {y:Nat} (hy:y < n) (py:p y=true):pr2 n f e a b y=true:=by
 by_cases hsub:∀ x,x < n→b x=true→a x=true
 ·exfalso
  have h1:∃ x,x < n∧a x=true∧b x=false:=by
   refine Classical.byContradiction fun hh=>hne fun x hx=>?_
   cases hbx:b x with
   | true=>exact hsub x hx hbx
   | false =>
    cases hax:a x with
    | false=>rfl
    | true=>exact absurd ⟨x,hx,hax,hbx⟩ hh
  obtain ⟨x,x1,x2,x3⟩:=h1
  obtain ⟨z,z1,z2,z3⟩:=ha.ne
  have:=hb.mx x x1 (ha.le x x1 x2) x3 a ha.sub hsub (fun c hc pc=>ha.nml c x hc x1 pc x2) z z1 z2
  rw [this] at z3; cases z3
 ·have h1:∃ x,x < n∧b x=true∧a x=false:=by
   refine Classical.byContradiction fun hh=>hsub fun x hx hbx=>?_
   cases hax:a x with
   | true=>rfl
   | false=>exact absurd ⟨x,hx,hbx,hax⟩ hh
  obtain ⟨x,x1,x2,x3⟩:=h1
  refine ha.mx x x1 (hb.le x x1 x2) x3 _ (G.nz_prod ha.sub hb.sub fun c hc bc=>ha.nz G hc (hb.le c hc bc)) (fun z hz az=>?_) (fun c hc pc=>?_) y hy py
  ·have:=G.pr2_mk (p:=a) (q:=b) hz G.el az hb.sub.one; rwa [G.one_r z hz] at this
  ·have hl:=G.cjr_lt x1 hc
   have:=G.pr2_mk (p:=a) (q:=b) G.el hl ha.sub.one (hb.nml c x hc x1 pc x2); rwa [G.one_l _ hl] at this

theorem Mxn.meet (G:Grp n f e) (hp:Sub n f e p) (ha:Mxn n f e p a) (hb:Mxn n f e p b) (hne:¬ ∀ x,x < n→a x=b x):Mxn n f e a fun x=>a x && b x where
 sub:=ha.sub.and hb.sub
 le x hx h:=by rw [Bool.and_eq_true] at h; exact h.1
 nml c x hc hx ac h:=by
  rw [Bool.and_eq_true] at h ⊢
  exact ⟨ha.nml c x hc hx (ha.le c hc ac) h.1,hb.nml c x hc hx (ha.le c hc ac) h.2⟩
 ne:=by
  refine Classical.byContradiction fun hh=>?_
  have hab:∀ x,x < n→a x=true→b x=true:=fun x hx ax=>by
   cases hbx:b x with
   | true=>rfl
   | false=>exact absurd ⟨x,hx,ax,by rw [hbx,Bool.and_false]⟩ hh
  obtain ⟨z,z1,z2,z3⟩:=hb.ne
  have h1:=ha.top G hb hne z1 z2
  obtain ⟨u,v,u1,v1,u2,v2,rfl⟩:=G.pr2_un z1 h1
  rw [hb.sub.mul _ _ u1 v1 (hab u u1 u2) v2] at z3
  cases z3
 mx x hx ax hdx t ht h1 h2 y hy ay:=by
  have bx:b x=false:=by rw [ax,Bool.true_and] at hdx; exact hdx
  have hs:=ht.and ha.sub
  have hpr:Sub n f e (pr2 n f e b fun x=>t x && a x):=G.nz_prod hb.sub hs fun c hc tc=>by
   rw [Bool.and_eq_true] at tc
   exact hb.nz G hc (ha.le c hc tc.2)
  have hall:=hb.mx x hx (ha.le x hx ax) bx _ hpr (fun z hz bz=>by
   have:=G.pr2_mk (p:=b) (q:=fun x=>t x && a x) hz G.el bz hs.one; rwa [G.one_r z hz] at this) (fun c hc pc=>?_) y hy (ha.le y hy ay)
  ·obtain ⟨w,v,w1,v1,w2,v2,rfl⟩:=G.pr2_un hy hall
   rw [Bool.and_eq_true] at v2
   have iv:=G.iv_lt v1
   have h3:a w=true:=by
    have:=ha.sub.mul _ _ hy iv ay (ha.sub.inv v v1 v2.2)
    rwa [G.assoc _ _ _ w1 v1 iv,G.mul_iv v1,G.one_r w w1] at this
   exact ht.mul _ _ w1 v1 (h1 w w1 (by rw [h3,w2]; rfl)) v2.1
  ·obtain ⟨u,v,u1,v1,u2,v2,rfl⟩:=G.pr2_un hc (ha.top G hb hne hc pc)
   have hyl:=G.cjr_lt hx u1
   have ty:=h2 u u1 u2
   have ayy:=ha.nml u x u1 hx (ha.le u u1 u2) ax
   have iyv:=G.iv_lt v1
   have iyy:=G.iv_lt hyl
   have hcv:=G.cjr_lt v1 iyy
   have e1:cjr n f e x (f u v)=f (f (iv n f e v) (cjr n f e v (iv n f e (cjr n f e x u)))) (cjr n f e x u):=by
    rw [← G.cjr_cjr hx u1 v1]
    show f (f (iv n f e v) (cjr n f e x u)) v=_
    have:cjr n f e v (iv n f e (cjr n f e x u))=f (f (cjr n f e x u) v) (iv n f e (cjr n f e x u)):=by
     show f (f (iv n f e (iv n f e (cjr n f e x u))) v) (iv n f e (cjr n f e x u))=_
     rw [G.iv_iv hyl]
    rw [this,G.assoc _ _ _ iyv (G.cl _ _ (G.cl _ _ hyl v1) iyy) hyl,G.assoc _ _ _ (G.cl _ _ hyl v1) iyy hyl,G.iv_mul hyl,G.one_r _ (G.cl _ _ hyl v1),G.assoc _ _ _ iyv hyl v1]
   rw [e1]
   refine G.pr2_mk (G.cl _ _ iyv hcv) hyl (hb.sub.mul _ _ iyv hcv (hb.sub.inv v v1 v2) ?_) (by rw [ty,ayy]; rfl)
   exact hb.nml _ v iyy v1 (hp.inv _ hyl (ha.le _ hyl ayy)) v2

/-- A chain from a subgroup down to the one. -/
def Chn (n:Nat) (f:Nat→Nat→Nat) (e:Nat):(Nat→Bool)→List (Nat→Bool)→Prop
 | p,[]=>∀ x,x < n→p x=true→x=e
 | p,q :: l=>Mxn n f e p q∧Chn n f e q l
def idx (n:Nat):(Nat→Bool)→List (Nat→Bool)→List Nat
 | _,[]=>[]
 | p,q :: l=>(mem n p).length / (mem n q).length :: idx n q l
theorem Chn.congr {p' : Nat→Bool} (hp:∀ x,x < n→p' x=p x):∀ {l:List (Nat→Bool)},Chn n f e p l→Chn n f e p' l∧idx n p' l=idx n p l
 | [],h=>⟨fun x hx hh=>h x hx (by rwa [← hp x hx]),rfl⟩
 | q :: l,h=>⟨⟨h.1.congr_l hp,h.2⟩,by show _ / _ :: _=_ / _ :: _; rw [mem_congr hp]⟩
theorem Mxn.le_len (G:Grp n f e) (hp:Sub n f e p) (h:Mxn n f e p q):(mem n p).length / (mem n q).length * (mem n q).length=(mem n p).length:=
 Nat.div_mul_cancel (h.sub.dvd G fun x y hx hy h1 h2=>hp.mul _ _ hx hy h1 (h.le y hy h2))
theorem Chn.prod (G:Grp n f e):∀ {l:List (Nat→Bool)} {p:Nat→Bool},Sub n f e p→Chn n f e p l→(idx n p l).foldl (· * ·) 1=(mem n p).length:=by
 have key:∀ (l:List (Nat→Bool)) (p:Nat→Bool) (c:Nat),Sub n f e p→Chn n f e p l→(idx n p l).foldl (· * ·) c=c * (mem n p).length:=by
  intro l
  induction l with
  | nil =>
   intro p c hp h
   show c=_
   rw [mem_one G.el fun x hx=>⟨h x hx,fun hh=>by rw [hh]; exact hp.one⟩,Nat.mul_one]
  | cons q l ih =>
   intro p c hp h
   show (idx n q l).foldl _ (c * _)=_
   rw [ih q _ h.1.sub h.2,Nat.mul_assoc,h.1.le_len G hp]
 intro l p hp h
 rw [key l p 1 hp h,Nat.one_mul]

end
end Go.Proofs.YtboadfahlflmhaaDoor

/-
  Plain: homomorphisms of a subgroup onto a group; chains go there and back; steps in which things commute. Conditions: none.
-/
set_option linter.all false
namespace Go.Proofs.YtboadfahlflmhaaDoor

/-- A homomorphism of a subgroup onto a group. -/
structure Hm (n:Nat) (f:Nat→Nat→Nat) (e:Nat) (p:Nat→Bool) (k:Nat) (g:Nat→Nat→Nat) (d:Nat) (φ:Nat→Nat):Prop where
 grp:Grp k g d
 sub:Sub n f e p
 lt:∀ x,x < n→p x=true→φ x < k
 mul:∀ x y,x < n→y < n→p x=true→p y=true→φ (f x y)=g (φ x) (φ y)
 onto:∀ i,i < k→∃ x,x < n∧p x=true∧φ x=i

section
variable {n e k d:Nat} {f g:Nat→Nat→Nat} {p:Nat→Bool} {φ:Nat→Nat}
theorem Hm.one (H:Hm n f e p k g d φ) (G:Grp n f e):φ e=d:=by
 have h1:=H.mul e e G.el G.el H.sub.one H.sub.one
 have hl:=H.lt e G.el H.sub.one
 rw [G.one_l e G.el] at h1
 have h2:g (φ e) d=g (φ e) (φ e):=by rw [← h1,H.grp.one_r _ hl]
 exact (H.grp.cancel_l hl H.grp.el hl h2).symm
theorem Hm.iv (H:Hm n f e p k g d φ) (G:Grp n f e) {x:Nat} (hx:x < n) (px:p x=true):φ (Go.Proofs.YtboadfahlflmhaaDoor.iv n f e x)=Go.Proofs.YtboadfahlflmhaaDoor.iv k g d (φ x):=by
 have ix:=G.iv_lt hx
 have pix:=H.sub.inv x hx px
 refine H.grp.iv_unique (H.lt x hx px) (H.lt _ ix pix) (.inl ?_)
 rw [← H.mul _ _ hx ix px pix,G.mul_iv hx,H.one G]
theorem Hm.cjr (H:Hm n f e p k g d φ) (G:Grp n f e) {x c:Nat} (hx:x < n) (hc:c < n) (px:p x=true) (pc:p c=true):φ (Go.Proofs.YtboadfahlflmhaaDoor.cjr n f e x c)=Go.Proofs.YtboadfahlflmhaaDoor.cjr k g d (φ x) (φ c):=by
 have ic:=G.iv_lt hc
 have pi:=H.sub.inv c hc pc
 show φ (f (f _ _) _)=g (g _ _) _
 rw [H.mul _ _ (G.cl _ _ ic hx) hc (H.sub.mul _ _ ic hx pi px) pc,H.mul _ _ ic hx pi px,H.iv G hc pc]
theorem Hm.cmt (H:Hm n f e p k g d φ) (G:Grp n f e) {x c:Nat} (hx:x < n) (hc:c < n) (px:p x=true) (pc:p c=true):φ (Go.Proofs.YtboadfahlflmhaaDoor.cmt n f e x c)=Go.Proofs.YtboadfahlflmhaaDoor.cmt k g d (φ x) (φ c):=by
 have ic:=G.iv_lt hc
 have ix:=G.iv_lt hx
 have pic:=H.sub.inv c hc pc
 have pix:=H.sub.inv x hx px
 show φ (f (f _ _) (f _ _))=g (g _ _) (g _ _)
 rw [H.mul _ _ (G.cl _ _ ix ic) (G.cl _ _ hx hc) (H.sub.mul _ _ ix ic pix pic) (H.sub.mul _ _ hx hc px pc),H.mul _ _ ix ic pix pic,H.mul _ _ hx hc px pc,H.iv G hc pc,H.iv G hx px]
theorem cmt_in {q:Nat→Bool} (G:Grp n f e) (hq:Sub n f e q) {x c:Nat} (hx:x < n) (hc:c < n) (px:q x=true) (pc:q c=true):q (cmt n f e x c)=true:=
 hq.mul _ _ (G.cl _ _ (G.iv_lt hx) (G.iv_lt hc)) (G.cl _ _ hx hc) (hq.mul _ _ (G.iv_lt hx) (G.iv_lt hc) (hq.inv _ hx px) (hq.inv _ hc pc)) (hq.mul _ _ hx hc px pc)

/-- What goes into a set. -/
def pre (p:Nat→Bool) (φ:Nat→Nat) (b:Nat→Bool) (x:Nat):Bool:=p x && b (φ x)
theorem pre_iff {b:Nat→Bool} {x:Nat} : pre p φ b x=true↔p x=true∧b (φ x)=true:=by unfold pre; rw [Bool.and_eq_true]
theorem Hm.pre_sub (H:Hm n f e p k g d φ) (G:Grp n f e) {b:Nat→Bool} (hb:Sub k g d b):Sub n f e (pre p φ b):=
 sub_of G (pre_iff.2 ⟨H.sub.one,by rw [H.one G]; exact hb.one⟩) fun x y hx hy h1 h2=>by
  obtain ⟨h1,h3⟩:=pre_iff.1 h1
  obtain ⟨h2,h4⟩:=pre_iff.1 h2
  exact pre_iff.2 ⟨H.sub.mul x y hx hy h1 h2,by rw [H.mul x y hx hy h1 h2]; exact hb.mul _ _ (H.lt x hx h1) (H.lt y hy h2) h3 h4⟩
theorem Hm.of_pre (H:Hm n f e p k g d φ) (G:Grp n f e) {a b:Nat→Bool} (hb:Sub k g d b) (h:Mxn n f e (pre p φ a) (pre p φ b)):Mxn k g d a b where
 sub:=hb
 le i hi bi:=by
  obtain ⟨x,x1,x2,rfl⟩:=H.onto i hi
  exact (pre_iff.1 (h.le x x1 (pre_iff.2 ⟨x2,bi⟩))).2
 nml c i hc hi ac bi:=by
  obtain ⟨x,x1,x2,rfl⟩:=H.onto i hi
  obtain ⟨y,y1,y2,rfl⟩:=H.onto c hc
  have:=(pre_iff.1 (h.nml y x y1 x1 (pre_iff.2 ⟨y2,ac⟩) (pre_iff.2 ⟨x2,bi⟩))).2
  rwa [H.cjr G x1 y1 x2 y2] at this
 ne:=by
  obtain ⟨x,x1,x2,x3⟩:=h.ne
  obtain ⟨px,ax⟩:=pre_iff.1 x2
  unfold pre at x3
  rw [px,Bool.true_and] at x3
  exact ⟨_,H.lt x x1 px,ax,x3⟩
 mx i hi ai bi t ht h1 h2 j hj aj:=by
  obtain ⟨x,x1,x2,rfl⟩:=H.onto i hi
  obtain ⟨y,y1,y2,rfl⟩:=H.onto j hj
  refine (pre_iff.1 (h.mx x x1 (pre_iff.2 ⟨x2,ai⟩) (by unfold pre; rw [bi,Bool.and_false]) (pre p φ t) (H.pre_sub G ht) (fun z hz hh=>?_) (fun c hc hh=>?_) y y1 (pre_iff.2 ⟨y2,aj⟩))).2
  ·obtain ⟨pz,bz⟩:=pre_iff.1 hh
   exact pre_iff.2 ⟨pz,h1 _ (H.lt z hz pz) bz⟩
  ·obtain ⟨pc,ac⟩:=pre_iff.1 hh
   exact pre_iff.2 ⟨cjr_in G H.sub x1 hc x2 pc,by rw [H.cjr G x1 hc x2 pc]; exact h2 _ (H.lt c hc pc) ac⟩

/-- Things of the first commute, up to the second. -/
def Abl (n:Nat) (f:Nat→Nat→Nat) (e:Nat) (p q:Nat→Bool):Prop:=∀ x y,x < n→y < n→p x=true→p y=true→q (cmt n f e x y)=true
def AbC (n:Nat) (f:Nat→Nat→Nat) (e:Nat):(Nat→Bool)→List (Nat→Bool)→Prop
 | _,[]=>True
 | p,q :: l=>Abl n f e p q∧AbC n f e q l
theorem AbC.congr {p' : Nat→Bool} (hp:∀ x,x < n→p' x=p x):∀ {l:List (Nat→Bool)},AbC n f e p l→AbC n f e p' l
 | [],_=>trivial
 | q :: l,h=>⟨fun x y hx hy h1 h2=>h.1 x y hx hy (by rwa [← hp x hx]) (by rwa [← hp y hy]),h.2⟩
theorem Chn.subs (G:Grp n f e):∀ {l:List (Nat→Bool)} {p:Nat→Bool},Chn n f e p l→∀ q∈l,Sub n f e q
 | [],_,_,q,hq=>by simp at hq
 | r :: l,p,h,q,hq=>by
  rcases List.mem_cons.1 hq with rfl | hq
  ·exact h.1.sub
  ·exact Chn.subs G h.2 q hq

end
end Go.Proofs.YtboadfahlflmhaaDoor

/-
  Plain: each step of a chain has its quotient; it is of a prime where things commute; what is solvable. Conditions: none.
-/
set_option linter.all false
namespace Go.Proofs.YtboadfahlflmhaaDoor

section
variable {n e:Nat} {f:Nat→Nat→Nat} {p q:Nat→Bool}
/-- The quotient of a group. -/
theorem quot_hm (G:Grp n f e) (hq:Sub n f e q) (hN:Nml n f e q):Hm n f e (fun _=>true) (cst n (dco n f q (onp e))).length (qop f (clq n (dco n f q (onp e))) (rpq n (dco n f q (onp e)))) (clq n (dco n f q (onp e)) e) (clq n (dco n f q (onp e))):=by
 have E:=G.dco_eqv hq G.onp_sub
 have Q:=cst_qm G E fun a b c d ha hb hc hd h1 h2=>G.rco_cong hq hN ha hb hc hd h1 h2
 exact ⟨Q.grp G,G.all_sub,fun x hx _=>Q.lt x hx,fun x y hx hy _ _=>(Q.op hx hy).symm,fun i hi=>⟨_,Q.rlt i hi,rfl,Q.at_ i hi⟩⟩
theorem quot_ker (G:Grp n f e) (hq:Sub n f e q) {x:Nat} (hx:x < n):clq n (dco n f q (onp e)) x=clq n (dco n f q (onp e)) e↔q x=true:=by
 have E:=G.dco_eqv hq G.onp_sub
 rw [clq_iff E hx G.el,G.rco_iff hx G.el,G.one_l _ (G.iv_lt hx)]
 exact ⟨fun h=>by have:=hq.inv _ (G.iv_lt hx) h; rwa [G.iv_iv hx] at this,fun h=>hq.inv x hx h⟩
theorem quot_num (G:Grp n f e) (hq:Sub n f e q):(cst n (dco n f q (onp e))).length * (mem n q).length=n:=by
 rw [cst_len]; exact G.rco_num hq
/-- The part of a group. -/
theorem part_hm (G:Grp n f e) (hp:Sub n f e p):Hm n f e p (thl n p).length (pop n f p) (pix p e) (pix p):=
 ⟨ptb_grp G hp,hp,fun x hx px=>(pix_at hx px).1,fun x y hx hy px py=>(pop_pix hp hx hy px py).symm,fun i hi=>⟨lat n p i,(lat_at hi).1,(lat_at hi).2.1,(lat_at hi).2.2.2⟩⟩
variable {k k2 d d2:Nat} {g g2:Nat→Nat→Nat} {φ ψ:Nat→Nat}
theorem Hm.comp (H:Hm n f e p k g d φ) (K:Hm k g d (fun _=>true) k2 g2 d2 ψ):Hm n f e p k2 g2 d2 fun x=>ψ (φ x) where
 grp:=K.grp
 sub:=H.sub
 lt x hx px:=K.lt _ (H.lt x hx px) rfl
 mul x y hx hy px py:=by
  show ψ (φ (f x y))=_
  rw [H.mul x y hx hy px py,K.mul _ _ (H.lt x hx px) (H.lt y hy py) rfl rfl]
 onto i hi:=by
  obtain ⟨y,y1,_,rfl⟩:=K.onto i hi
  obtain ⟨x,x1,x2,rfl⟩:=H.onto y y1
  exact ⟨x,x1,x2,rfl⟩
theorem Hm.cong_op (H:Hm n f e p k g d φ) (h:∀ a b,a < k→b < k→g2 a b=g a b) (G2:Grp k g2 d):Hm n f e p k g2 d φ:=
 ⟨G2,H.sub,H.lt,fun x y hx hy px py=>by rw [H.mul x y hx hy px py,h _ _ (H.lt x hx px) (H.lt y hy py)],H.onto⟩
/-- What stands of a smaller one in the part. -/
def dwn (n:Nat) (p q:Nat→Bool) (i:Nat):Bool:=q (lat n p i)
theorem lft_dwn (hle:∀ x,x < n→q x=true→p x=true):∀ x,x < n→lft p (dwn n p q) x=q x:=fun x hx=>by
 unfold lft dwn
 cases px:p x with
 | false =>
  cases qx:q x with
  | false=>rfl
  | true=>rw [hle x hx qx] at px; cases px
 | true=>rw [lat_pix hx px]; rfl
theorem dwn_sub (G:Grp n f e) (hp:Sub n f e p) (hq:Sub n f e q):Sub (thl n p).length (pop n f p) (pix p e) (dwn n p q):=
 sub_of (ptb_grp G hp) (by unfold dwn; rw [lat_pix G.el hp.one]; exact hq.one) fun i j hi hj h1 h2=>by
  unfold dwn at h1 h2 ⊢
  rw [(pop_at G hp hi hj).2]
  exact hq.mul _ _ (lat_at hi).1 (lat_at hj).1 h1 h2
theorem dwn_nml (G:Grp n f e) (hp:Sub n f e p):Nml (thl n p).length (pop n f p) (pix p e) (dwn n p q)↔∀ a x,a < n→x < n→p a=true→p x=true→q x=true→q (cjr n f e x a)=true:=by
 have H:=part_hm G hp
 constructor
 ·intro h a x ha hx pa px qx
  have:=h (pix p a) (pix_at ha pa).1 (pix p x) (pix_at hx px).1 (by unfold dwn; rw [lat_pix hx px]; exact qx)
  rw [← H.cjr G hx ha px pa] at this
  unfold dwn at this
  rwa [lat_pix (G.cjr_lt hx ha) (cjr_in G hp hx ha px pa)] at this
 ·intro h i hi j hj hd
  obtain ⟨a1,a2,_,a4⟩:=lat_at hi
  obtain ⟨b1,b2,_,b4⟩:=lat_at hj
  have:=h _ _ a1 b1 a2 b2 hd
  rw [← a4,← b4,← H.cjr G b1 a1 b2 a2]
  unfold dwn
  rwa [lat_pix (G.cjr_lt b1 a1) (cjr_in G hp b1 a1 b2 a2)]
theorem dwn_len (hle:∀ x,x < n→q x=true→p x=true):(mem (thl n p).length (dwn n p q)).length=(mem n q).length:=by
 have h1:=congrArg List.length (lft_thl p (dwn n p q) n)
 rw [List.length_map] at h1
 have e1:(thl (thl n p).length (dwn n p q)).length=(mem (thl n p).length (dwn n p q)).length:=thl_len _ _
 have e2:(thl n (lft p (dwn n p q))).length=(mem n (lft p (dwn n p q))).length:=thl_len _ _
 rw [← e1,h1,e2,mem_congr (lft_dwn hle)]

/-- The quotient of a subgroup by what is normal in it. -/
theorem step_hm (G:Grp n f e) (hp:Sub n f e p) (hq:Sub n f e q) (hle:∀ x,x < n→q x=true→p x=true) (hN:∀ a x,a < n→x < n→p a=true→p x=true→q x=true→q (cjr n f e x a)=true) :
  ∃ k g d φ,Hm n f e p k g d φ∧(∀ x,x < n→pre p φ (onp d) x=q x)∧k * (mem n q).length=(mem n p).length:=by
 have H:=part_hm G hp
 have P:=H.grp
 have ds:=dwn_sub G hp hq
 have K:=quot_hm P ds ((dwn_nml G hp).2 hN)
 refine ⟨_,_,_,_,H.comp K,fun x hx=>?_,?_⟩
 ·unfold pre
  cases px:p x with
  | false =>
   cases qx:q x with
   | false=>rfl
   | true=>rw [hle x hx qx] at px; cases px
  | true =>
   rw [Bool.true_and,Bool.eq_iff_iff,onp_iff,quot_ker P ds (H.lt x hx px)]
   unfold dwn
   rw [lat_pix hx px]
 ·have:=quot_num P ds
  rw [dwn_len hle] at this
  have e1:(thl n p).length=(mem n p).length:=thl_len _ _
  rw [← e1]; exact this
theorem Mxn.hm (G:Grp n f e) (hp:Sub n f e p) (h:Mxn n f e p q):∃ k g d φ,Hm n f e p k g d φ∧(∀ x,x < n→pre p φ (onp d) x=q x)∧k * (mem n q).length=(mem n p).length∧Mxn k g d (fun _=>true) (onp d):=by
 obtain ⟨k,g,d,φ,H,h1,h2⟩:=step_hm G hp h.sub h.le fun a x ha hx pa _ qx=>h.nml a x ha hx pa qx
 refine ⟨k,g,d,φ,H,h1,h2,H.of_pre G H.grp.onp_sub ?_⟩
 refine (h.congr_r G (H.pre_sub G H.grp.onp_sub) h1).congr_l fun x hx=>?_
 show (p x && true)=p x
 rw [Bool.and_true]

end
end Go.Proofs.YtboadfahlflmhaaDoor

/-
  Plain: homomorphisms, and how a map of some things is spread. Conditions: none.
-/
set_option linter.all false
namespace Go.Proofs.YtboadfahlflmhaaDoor

/-- A homomorphism. -/
structure Hmo (n:Nat) (f:Nat→Nat→Nat) (N:Nat) (g:Nat→Nat→Nat) (φ:Nat→Nat):Prop where
 lt:∀ a,a < n→φ a < N
 mul:∀ a b,a < n→b < n→φ (f a b)=g (φ a) (φ b)

/-- It takes some things where it is told. -/
def Ext (n:Nat) (f:Nat→Nat→Nat) (N:Nat) (g:Nat→Nat→Nat) (F T:List Nat) (φ:Nat→Nat):Prop:=Hmo n f N g φ∧∀ i,i < F.length→φ (F.getD i 0)=T.getD i 0

/-- What is reached: a thing, and what must stand for it. -/
inductive Rch (f:Nat→Nat→Nat) (e:Nat) (g:Nat→Nat→Nat) (d:Nat) (F T:List Nat):Nat→Nat→Prop
 | one:Rch f e g d F T e d
 | step {a y:Nat} (i:Nat) (hi:i < F.length) (h:Rch f e g d F T a y):Rch f e g d F T (f a (F.getD i 0)) (g y (T.getD i 0))

def tbm (n:Nat) (φ:Nat→Nat):List Int:=(List.range n).map fun a=>((φ a:Nat):Int)
def upd1 (S:Nat→Bool) (b:Nat):Nat→Bool:=fun x=>S x || decide (x=b)
def updF (ψ:Nat→Nat) (b y:Nat):Nat→Nat:=fun x=>if x=b then y else ψ x

theorem tbm_len (n:Nat) (φ:Nat→Nat):(tbm n φ).length=n:=by simp [tbm]
theorem upd1_true {S:Nat→Bool} {b x:Nat} : upd1 S b x=true↔S x=true∨x=b:=by simp [upd1]
theorem updF_ne {ψ:Nat→Nat} {b y x:Nat} (h:x ≠ b):updF ψ b y x=ψ x:=by simp [updF,h]
theorem updF_eq {ψ:Nat→Nat} {b y:Nat} : updF ψ b y b=y:=by simp [updF]

section
variable {n N e d:Nat} {f g:Nat→Nat→Nat} {F T:List Nat} {φ:Nat→Nat}
theorem Hmo.one (G:Grp n f e) (K:Grp N g d) (h:Hmo n f N g φ):φ e=d:=by
 have h1:=h.mul e e G.el G.el
 rw [G.one_l e G.el] at h1
 have h2:=h.lt e G.el
 have h3:=K.assoc (iv N g d (φ e)) (φ e) (φ e) (K.iv_lt h2) h2 h2
 rw [K.iv_mul h2,← h1,K.iv_mul h2,K.one_l _ h2] at h3
 exact h3
/-- Where the spreading stands. -/
structure Sprd (n:Nat) (f:Nat→Nat→Nat) (e N:Nat) (g:Nat→Nat→Nat) (d:Nat) (F T:List Nat) (S:Nat→Bool) (ψ:Nat→Nat) (W:List Nat):Prop where
 one:S e=true∧ψ e=d
 lt:∀ a,a < n→S a=true→ψ a < N
 rch:∀ a,a < n→S a=true→Rch f e g d F T a (ψ a)
 wt:∀ a∈W,a < n∧S a=true
 cl:∀ a,a < n→S a=true→a ∉ W→∀ i,i < F.length→S (f a (F.getD i 0))=true∧ψ (f a (F.getD i 0))=g (ψ a) (T.getD i 0)

/-- Within a round. -/
structure Sprd2 (n:Nat) (f:Nat→Nat→Nat) (e N:Nat) (g:Nat→Nat→Nat) (d:Nat) (F T:List Nat) (a0 i0:Nat) (S:Nat→Bool) (ψ:Nat→Nat) (W:List Nat):Prop where
 one:S e=true∧ψ e=d
 lt:∀ a,a < n→S a=true→ψ a < N
 rch:∀ a,a < n→S a=true→Rch f e g d F T a (ψ a)
 wt:∀ a∈W,a < n∧S a=true
 ha:a0 < n∧S a0=true
 cl:∀ a,a < n→S a=true→a ∉ W→∀ i,i < F.length→(a=a0→i < i0)→S (f a (F.getD i 0))=true∧ψ (f a (F.getD i 0))=g (ψ a) (T.getD i 0)

theorem Sprd.pop {S:Nat→Bool} {ψ:Nat→Nat} {a:Nat} {W:List Nat} (h:Sprd n f e N g d F T S ψ (a :: W)):Sprd2 n f e N g d F T a 0 S ψ W where
 one:=h.one
 lt:=h.lt
 rch:=h.rch
 wt x hx:=h.wt x (by simp [hx])
 ha:=h.wt a (by simp)
 cl x hx hS hW i hi hai:=by
  by_cases e:x=a
  ·have:=hai e; omega
  ·exact h.cl x hx hS (by simp [e,hW]) i hi
theorem Sprd2.done {S:Nat→Bool} {ψ:Nat→Nat} {a:Nat} {W:List Nat} (h:Sprd2 n f e N g d F T a F.length S ψ W):Sprd n f e N g d F T S ψ W where
 one:=h.one
 lt:=h.lt
 rch:=h.rch
 wt:=h.wt
 cl x hx hS hW i hi:=h.cl x hx hS hW i hi fun _=>hi
theorem Sprd2.push (G:Grp n f e) (K:Grp N g d) (hF:∀ i,i < F.length→F.getD i 0 < n) (hT:∀ i,i < F.length→T.getD i 0 < N) {S:Nat→Bool} {ψ:Nat→Nat} {a i:Nat} {W:List Nat} (h:Sprd2 n f e N g d F T a i S ψ W) (hi:i < F.length) (hb:S (f a (F.getD i 0))=false) :
  Sprd2 n f e N g d F T a (i + 1) (upd1 S (f a (F.getD i 0))) (updF ψ (f a (F.getD i 0)) (g (ψ a) (T.getD i 0))) (W++[f a (F.getD i 0)]):=by
 have hbn:=G.cl _ _ h.ha.1 (hF i hi)
 have hne:∀ x,S x=true→x ≠ f a (F.getD i 0):=fun x hx e=>by rw [e,hb] at hx; cases hx
 refine ⟨⟨upd1_true.2 (.inl h.one.1),by rw [updF_ne (hne _ h.one.1)]; exact h.one.2⟩,fun x hx hS=>?_,fun x hx hS=>?_,fun x hx=>?_,⟨h.ha.1,upd1_true.2 (.inl h.ha.2)⟩,fun x hx hS hW j hj hji=>?_⟩
 ·rcases upd1_true.1 hS with h1 | rfl
  ·rw [updF_ne (hne _ h1)]; exact h.lt x hx h1
  ·rw [updF_eq]; exact K.cl _ _ (h.lt a h.ha.1 h.ha.2) (hT i hi)
 ·rcases upd1_true.1 hS with h1 | rfl
  ·rw [updF_ne (hne _ h1)]; exact h.rch x hx h1
  ·rw [updF_eq]; exact .step i hi (h.rch a h.ha.1 h.ha.2)
 ·rcases List.mem_append.1 hx with hx | hx
  ·obtain ⟨h1,h2⟩:=h.wt x hx
   exact ⟨h1,upd1_true.2 (.inl h2)⟩
  ·have:x=f a (F.getD i 0):=by simpa using hx
   rw [this]; exact ⟨hbn,upd1_true.2 (.inr rfl)⟩
 ·have hW1:x ∉ W:=fun hh=>hW (by simp [hh])
  have hxb:x ≠ f a (F.getD i 0):=fun hh=>hW (by simp [hh])
  have hSx:S x=true:=(upd1_true.1 hS).resolve_right hxb
  rw [updF_ne hxb]
  by_cases e:x=a∧j=i
  ·obtain ⟨rfl,rfl⟩:=e
   exact ⟨upd1_true.2 (.inr rfl),updF_eq⟩
  ·obtain ⟨k1,k2⟩:=h.cl x hx hSx hW1 j hj fun ea=>by
    have:=hji ea
    have:j ≠ i:=fun ej=>e ⟨ea,ej⟩
    omega
   exact ⟨upd1_true.2 (.inl k1),by rw [updF_ne (hne _ k1)]; exact k2⟩
/-- At the end all is reached, and it is a homomorphism. -/
theorem Sprd.fin (G:Grp n f e) (K:Grp N g d) (hF:∀ i,i < F.length→F.getD i 0 < n) (hT:∀ i,i < F.length→T.getD i 0 < N) (hgen:∀ a,a < n→Gen n f e (fun x=>decide (x∈F)) a) {S:Nat→Bool} {ψ:Nat→Nat} (h:Sprd n f e N g d F T S ψ []) :
  (∀ a,a < n→S a=true)∧Ext n f N g F T ψ:=by
 have hall:∀ a,a < n→S a=true:=fun a ha=>Gen.least (H:=fun a=>S a=true) h.one.1 (fun a b hga hb hp hSa=>by
  have hp:b∈F:=by simpa using hp
  obtain ⟨i,hi,rfl⟩:=List.getElem_of_mem hp
  have e1:F[i]=F.getD i 0:=by simp [List.getD,List.getElem?_eq_getElem hi]
  rw [e1]
  exact (h.cl a (hga.lt G) hSa (by simp) i hi).1) (hgen a ha)
 have hmul:∀ a,a < n→∀ b,b < n→ψ (f a b)=g (ψ a) (ψ b):=fun a ha b hb=>by
  refine Gen.least (H:=fun b=>ψ (f a b)=g (ψ a) (ψ b)) ?_ (fun c x hgc hx hp ih=>?_) (hgen b hb)
  ·rw [G.one_r a ha,h.one.2,K.one_r _ (h.lt a ha (hall a ha))]
  ·have hp:x∈F:=by simpa using hp
   obtain ⟨i,hi,rfl⟩:=List.getElem_of_mem hp
   have e1:F[i]=F.getD i 0:=by simp [List.getD,List.getElem?_eq_getElem hi]
   rw [e1]
   have hc:=hgc.lt G
   have hac:=G.cl a c ha hc
   rw [← G.assoc a c _ ha hc (hF i hi),(h.cl _ hac (hall _ hac) (by simp) i hi).2,(h.cl c hc (hall c hc) (by simp) i hi).2,ih,K.assoc _ _ _ (h.lt a ha (hall a ha)) (h.lt c hc (hall c hc)) (hT i hi)]
 refine ⟨hall,⟨fun a ha=>h.lt a ha (hall a ha),fun a b ha hb=>hmul a ha b hb⟩,fun i hi=>?_⟩
 have h1:=(h.cl e G.el h.one.1 (by simp) i hi).2
 rw [G.one_l _ (hF i hi),h.one.2,K.one_l _ (hT i hi)] at h1
 exact h1
end
end Go.Proofs.YtboadfahlflmhaaDoor

/-
  Walks: what makes a group, one by one; a map of some things, spread to all. Conditions: none.
-/
set_option linter.all false
namespace Go.Proofs.YtboadfahlflmhaaDoor
open Go.Pv

def nl (L:List Nat):List Int:=L.map fun x=>((x:Nat):Int)
section
variable (n:Nat) (f:Nat→Nat→Nat) (e:Nat)
end

section
variable {n e:Nat} {m:List Int}
end
end Go.Proofs.YtboadfahlflmhaaDoor

/-
  Loops over a function: rounds as values, the statement, who calls yield. Conditions: none; a library text.
-/
set_option linter.all false
namespace Go.Pv
open Go.RowKit

section
variable {P:Program} {T:TypeId→Option TI} {C:Ctx} {m:Map} {s:St} {tmps:Array Value} {w:World}

/-! ### Contracts where the first q blocks stay -/

/-! ### Who calls yield -/

end
end Go.Pv

/-
  Walks: a map of some things, spread to all. Conditions: none.
-/
set_option linter.all false
namespace Go.Proofs.YtboadfahlflmhaaDoor
open Go.Pv

section
variable {n e N d:Nat} {m M:List Int}

end
end Go.Proofs.YtboadfahlflmhaaDoor

/-
  Loops over a function: a round out of its body's walk; the statement. Conditions: none; a library text.
-/
set_option linter.all false
namespace Go.Pv
open Go.RowKit

section
variable {P:Program} {T:TypeId→Option TI} {C:Ctx} {m:Map} {s:St} {tmps:Array Value} {w:World}

theorem hset_app {A B:Heap} {κ:Nat} {b:Blk} (h:κ < A.length):hset (A++B) κ b=hset A κ b++B:=by
 refine List.ext_getElem? fun j=>?_
 have h2:κ < (A++B).length:=by simp; omega
 by_cases hj:j < A.length
 ·have e1:(hset A κ b++B)[j]? = (hset A κ b)[j]?:=List.getElem?_append_left (by rw [hset_length]; exact hj)
  have e2:(A++B)[j]? = A[j]?:=List.getElem?_append_left hj
  rw [e1,hset_get,hset_get,e2]
  by_cases e:j=κ
  ·rw [if_pos ⟨e,h2⟩,if_pos ⟨e,h⟩]
  ·rw [if_neg (by simp [e]),if_neg (by simp [e])]
 ·have e1:(hset A κ b++B)[j]? = B[j - A.length]?:=by rw [List.getElem?_append_right (by rw [hset_length]; omega),hset_length]
  have e2:(A++B)[j]? = B[j - A.length]?:=List.getElem?_append_right (by omega)
  rw [e1,hset_get,e2,if_neg (by omega)]

/-- A hole for a loop's record. -/
structure HoleQ (κ:Nat) (Hf:Blk→Heap):Prop where
 at_:∀ b,(Hf b)[κ]? = some b
 set_:∀ b b',hset (Hf b) κ b' = Hf b'

theorem HoleQ.lt {κ:Nat} {Hf:Blk→Heap} (h:HoleQ κ Hf) (b:Blk):κ < (Hf b).length:=(List.getElem?_eq_some_iff.1 (h.at_ b)).1
theorem HoleQ.app {κ:Nat} {Hf:Blk→Heap} (h:HoleQ κ Hf) (B:Heap):HoleQ κ fun b=>Hf b++B:=
 ⟨fun b=>by rw [List.getElem?_append_left (h.lt b)]; exact h.at_ b,fun b b'=>by show hset (Hf b++B) κ b' = Hf b'++B; rw [hset_app (h.lt b),h.set_]⟩

structure RecOk (rec:Loop) (n pp:Nat) (assign body:Code):Prop where
 params:rec.params = #[pp]
 assign:rec.assign=assign
 body:rec.body=body
 state:rec.state = .ready
 pending:rec.pending=none
 size:rec.tmps.size=n

/-! ### Code with a loop over a function -/

variable {Q:Exit→St→Prop}

end
end Go.Pv

/-
  Calls that hand out fresh rows of plain values; functions with captured rows of the call's own. Conditions: none.
-/
set_option linter.all false
namespace Go.Pv
open Go.RowKit

section
variable {P:Program} {s:St}

/-- Plain data: no memory. -/
def PV.sc:PV→Bool
 | .int _ _=>true
 | .bool _=>true
 | .str _=>true
 | _=>false

end

/-- A function with captured values, of whatever make. -/
theorem makeCl_does {P:Program} {s:St} {o:Oper} {f:FuncId} {first:Array Operand} {caps:Array Operand} (ho:o.op = .makeFunc (.func f) first caps) (hf:first.isEmpty=true):DoesW P o s (.cl f (caps.toList.map s.ev)) s.H:=by
 intro C m a w K Q R hK
 have hfe:first = #[]:=by simpa using hf
 have hrun:(execOp a.eval o).run P w = .ok (.value (.func (.func f) #[] (caps.map a.eval))) w:=by
  simp [execOp,ho,hfe,Instr.makeFunc]
 refine opR_of_wp (by first|rfl|(rw [ho]; rfl)) ?_
 unfold Oper.wp
 rw [hrun]
 refine hK _ m w R (.cl _ _ _ (by simp) fun c hc=>?_)
 have hc' : c < caps.size:=by simpa using hc
 have e1:(caps.map a.eval).getD c undef=a.eval caps[c]:=by simp [Array.getD_eq_getD_getElem?,hc']
 have e2:(caps.toList.map s.ev)[c]=s.ev caps[c]:=by simp
 rw [e1,e2]
 exact R.ev _
end Go.Pv
namespace Go.Proofs.YtboadfahlflmhaaDoor
open Go.Pv

end Go.Proofs.YtboadfahlflmhaaDoor

/-
  Walks: all homomorphisms, handed out one by one. Conditions: none.
-/
set_option linter.all false
namespace Go.Pv
open Go.RowKit

/-- What a loop over a function does, round by round: what its blocks hold; whether it goes on; how it goes on. -/
structure Prot (σ:Type) where
 c4:σ→PV
 c51:σ→PV
 c52:σ→PV
 R:σ→List PV
 go:σ→PV→Bool
 nx:σ→PV→σ
 ok:σ→Prop
 okx:PV→Prop
 ok_nx:∀ i x,ok i→okx x→go i x=true→ok (nx i x)
 ones:∀ i,ok i→(R i).all PV.one=true

variable {σ:Type}
end Go.Pv
namespace Go.Proofs.YtboadfahlflmhaaDoor
open Go.Pv

section
variable {n e N d:Nat} {m M:List Int}
open Classical in
/-- Where things that make the group go so: the homomorphism, if there is one. -/
noncomputable def hlf (n:Nat) (f:Nat→Nat→Nat) (N:Nat) (g:Nat→Nat→Nat) (L T:List Nat):List (List Int):=if h:∃ φ,Ext n f N g L T φ then [tbm n (Classical.choose h)] else []
/-- All that come, where some places are chosen. -/
noncomputable def hsq (n:Nat) (f:Nat→Nat→Nat) (e N:Nat) (g:Nat→Nat→Nat) (d:Nat) (L:List Nat):List Nat→List Nat→List (List Int)
 | [],t=>hlf n f N g L t
 | x :: r,t=>((List.range N).filter fun y=>decide (ord n f e x % ord N g d y=0)).flatMap fun y=>hsq n f e N g d L r (t++[y])
variable {σ:Type}
end
end Go.Proofs.YtboadfahlflmhaaDoor

/-
  Walks: the search begun; loops over all homomorphisms. Conditions: none.
-/
set_option linter.all false
namespace Go.Pv
open Go.RowKit
end Go.Pv
namespace Go.Proofs.YtboadfahlflmhaaDoor
open Go.Pv
section
variable {n e N d:Nat} {m M:List Int} {σ:Type}
end
end Go.Proofs.YtboadfahlflmhaaDoor

/-
  Walks: all homomorphisms of two groups. Conditions: none.
-/
set_option linter.all false
namespace Go.Pv
open Go.RowKit
section
variable {P:Program} {Q:Exit→St→Prop} {s:St} {C:Ctx} {m:Map} {tmps:Array Value} {w:World}
end
end Go.Pv
namespace Go.Proofs.YtboadfahlflmhaaDoor
open Go.Pv
section
variable {n e N d:Nat} {m M:List Int} {σ:Type}
end
end Go.Proofs.YtboadfahlflmhaaDoor

/-
  Walks: all automorphisms of a group. Conditions: none.
-/
set_option linter.all false
namespace Go.Proofs.YtboadfahlflmhaaDoor
open Go.Pv
section
variable {n e N d:Nat} {m M:List Int} {σ:Type}
end
end Go.Proofs.YtboadfahlflmhaaDoor

/-
  Walks: inner automorphisms. Conditions: none.
-/
set_option linter.all false
namespace Go.Proofs.YtboadfahlflmhaaDoor
open Go.Pv

section
variable {n e:Nat} {m:List Int}
/-- What a thing does to all. -/
def inr (n:Nat) (f:Nat→Nat→Nat) (e b:Nat):List Int:=tbm n fun x=>cjr n f e x b
end
end Go.Proofs.YtboadfahlflmhaaDoor

/-
  All homomorphisms are what the search hands out; the laws of maps have begun. Conditions: none.
-/
set_option linter.all false
namespace Go.Proofs.YtboadfahlflmhaaDoor
open Go.Pv

section
variable {n e N d:Nat} {f g:Nat→Nat→Nat}
theorem Hmo.pw (G:Grp n f e) (K:Grp N g d) {φ:Nat→Nat} (h:Hmo n f N g φ) {a:Nat} (ha:a < n):∀ k,φ (pw f e a k)=pw g d (φ a) k
 | 0=>h.one G K
 | k + 1=>by
  show φ (f (Go.Proofs.YtboadfahlflmhaaDoor.pw f e a k) a)=g _ _
  rw [h.mul _ _ (G.pw_lt ha k) ha,Hmo.pw G K h ha k]
theorem Hmo.ord (G:Grp n f e) (K:Grp N g d) {φ:Nat→Nat} (h:Hmo n f N g φ) {a:Nat} (ha:a < n):ord N g d (φ a) ∣ ord n f e a:=by
 rw [← K.pw_eq_one (h.lt a ha),← h.pw G K ha,G.pw_ord ha,h.one G K]
theorem Hmo.same (G:Grp n f e) (K:Grp N g d) {L:List Nat} (hgen:∀ a,a < n→Gen n f e (fun x=>decide (x∈L)) a) {φ ψ:Nat→Nat} (h:Hmo n f N g φ) (h' : Hmo n f N g ψ) (heq:∀ x∈L,φ x=ψ x):∀ a,a < n→φ a=ψ a:=fun a ha=>by
 have key:a < n∧φ a=ψ a:=Gen.least (H:=fun a=>a < n∧φ a=ψ a) ⟨G.el,by rw [h.one G K,h'.one G K]⟩ (fun c b hc hb hp ih=>⟨G.cl _ _ ih.1 hb,by
  rw [h.mul _ _ ih.1 hb,h'.mul _ _ ih.1 hb,ih.2,heq b (by simpa using hp)]⟩) (hgen a ha)
 exact key.2
theorem Hmo.congr (G:Grp n f e) {φ ψ:Nat→Nat} (h:Hmo n f N g φ) (he:∀ a,a < n→φ a=ψ a):Hmo n f N g ψ:=
 ⟨fun a ha=>by rw [← he a ha]; exact h.lt a ha,fun a b ha hb=>by rw [← he _ (G.cl _ _ ha hb),← he a ha,← he b hb]; exact h.mul a b ha hb⟩

end

section
variable {n e N d:Nat} {m M:List Int}
end

/-! ### The laws of maps have begun -/

end Go.Proofs.YtboadfahlflmhaaDoor

/-
  Walks: the law SeriesComposes. Conditions: none.
-/
set_option linter.all false

namespace Go.Proofs.YtboadfahlflmhaaDoor
open Go.Pv

section
variable {n e:Nat} {m:List Int}

end
end Go.Proofs.YtboadfahlflmhaaDoor

/-
  The library's sort of numbers, over a row of the caller's own: what it leaves. Conditions: none; a library text.
-/
set_option linter.all false
namespace Go.Pv
open Go.RowKit

section
variable {P:Program} {ρ:Go.Shelf.Ren}
end
end Go.Pv

/-
  Plain: what the factors of a list of sets are; sorted lists. Conditions: none.
-/
set_option linter.all false
namespace Go.Proofs.YtboadfahlflmhaaDoor

open Go.Pv
section
variable {n e:Nat} {f:Nat→Nat→Nat}
noncomputable def okR (n:Nat) (f:Nat→Nat→Nat) (e:Nat) (l:List Int):Bool:=@decide (∃ p,l=thl n p∧Sub n f e p) (Classical.propDecidable _)
variable {l:List (List Int)}
/-- As many sets as can be. -/
structure Fw (n:Nat) (l:List (List Int)):Prop where
 lo:1≤l.length
 hi:l.length≤10
structure Fz (n:Nat) (l:List (List Int)):Prop extends Fw n l where
 first:(l.getD 0 []).length=n
 last:(l.getD (l.length - 1) []).length=1
/-- All in their form. -/
structure Fo (n:Nat) (f:Nat→Nat→Nat) (e:Nat) (l:List (List Int)):Prop extends Fz n l where
 ok:∀ i,i < l.length→okR n f e (l.getD i [])=true
end
end Go.Proofs.YtboadfahlflmhaaDoor

/-
  Walks: the law QuotMakes. Conditions: none.
-/
set_option linter.all false
namespace Go.Proofs.YtboadfahlflmhaaDoor
open Go.Pv

end Go.Proofs.YtboadfahlflmhaaDoor

/-
  Walks: the law QuotSimple. Conditions: none.
-/
set_option linter.all false
namespace Go.Proofs.YtboadfahlflmhaaDoor
open Go.Pv

end Go.Proofs.YtboadfahlflmhaaDoor

/-
  Contracts of the library, laid at this dump: numbers, and that each body is the same. Conditions: none; written by a program of this repo out of the kit's own tool.
-/
set_option linter.all false
namespace Go.Proofs
open Go.Shelf
end Go.Proofs

/-
  The program's Factors. Conditions: none.
-/
set_option linter.all false
namespace Go.Proofs.YtboadfahlflmhaaDoor
open Go.Pv

section
variable {n e k d:Nat} {f g:Nat→Nat→Nat} {p q:Nat→Bool}
end

section
variable {n e:Nat} {m:List Int} {p q:Nat→Bool}
end
end Go.Proofs.YtboadfahlflmhaaDoor

/-
  Rows of equations modulo a prime, reduced as they come: what is reckoned. Conditions: none.
-/
set_option linter.all false
namespace Go.Proofs.YtboadfahlflmhaaDoor
open Go.Pv

/-- The primes that are let in. -/
def pr (p:Nat):Prop:=p=2∨p=3∨p=5∨p=7
instance (p:Nat):Decidable (pr p):=by unfold pr; infer_instance
theorem pr.le {p:Nat} (h:pr p):2≤p∧p≤7:=by unfold pr at h; omega

/-- All that is in a row is between 0 and p. -/
def rng (p:Nat) (u:List Int):Prop:=∀ t,t < u.length→0≤u.getD t 0∧u.getD t 0 < p

/-- The least number that makes 1 of another. -/
def inv (p:Nat) (x:Int):Nat:=((List.range p).find? fun k=>decide ((k * x.toNat) % p=1)).getD 0

/-- Rows that are as they should be. -/
structure Ech (p n:Nat) (L:List (Nat × List Int)):Prop where
 keys:(L.map (·.1)).Nodup
 lt:∀ e∈L,e.1 < n
 len:∀ e∈L,e.2.length=n
 rg:∀ e∈L,rng p e.2
 one:∀ e∈L,e.2.getD e.1 0=1
 zero:∀ e∈L,∀ j,j < e.1→e.2.getD j 0=0

end Go.Proofs.YtboadfahlflmhaaDoor

/-
  Walks: rows of equations: a new one; a row is added. Conditions: none.
-/
set_option linter.all false
namespace Go.Proofs.YtboadfahlflmhaaDoor
open Go.Pv

end Go.Proofs.YtboadfahlflmhaaDoor

/-
  Walks: kernels and images. Conditions: none.
-/
set_option linter.all false
namespace Go.Proofs.YtboadfahlflmhaaDoor
open Go.Pv

section
variable {α:Type} [DecidableEq α]
end
section
variable {n e n' e' : Nat} {m m' l:List Int}
end
end Go.Proofs.YtboadfahlflmhaaDoor

/-
  The law HomComposes. Conditions: none.
-/
set_option linter.all false
namespace Go.Proofs.YtboadfahlflmhaaDoor
open Go.Pv

section
variable {n e n' e' : Nat} {m m' l k:List Int}
theorem Hom.hmo (hH:Hom m m' l n n'):Hmo n (op m n) n' (op m' n') (hv l):=⟨fun a ha=>(hH.2.1 a ha).2,fun a b ha hb=>(hH.2.2 a ha b hb).symm⟩
theorem Hom.rng (hH:Hom m m' l n n'):∀ x∈l,0≤x∧x < (n' : Int):=fun x hx=>by
 obtain ⟨i,hi,rfl⟩:=List.getElem_of_mem hx
 obtain ⟨h1,h2⟩:=hH.2.1 i (by rw [← hH.1]; exact hi)
 rw [show l.getD i 0=l[i] by simp [List.getD,List.getElem?_eq_getElem hi]] at h1
 rw [h1]; omega
end
end Go.Proofs.YtboadfahlflmhaaDoor

/-
  The law HomTheorem. Conditions: none.
-/
set_option linter.all false
namespace Go.Proofs.YtboadfahlflmhaaDoor
open Go.Pv

section
variable {n e N d:Nat} {f g:Nat→Nat→Nat} {φ:Nat→Nat}
theorem Hmo.iv (G:Grp n f e) (K:Grp N g d) (h:Hmo n f N g φ) {a:Nat} (ha:a < n):φ (iv n f e a)=iv N g d (φ a):=by
 have h1:=h.lt a ha
 have h2:=h.lt _ (G.iv_lt ha)
 have h3:=h.mul a _ ha (G.iv_lt ha)
 rw [G.mul_iv ha,h.one G K] at h3
 refine K.cancel_l h1 h2 (K.iv_lt h1) ?_
 rw [← h3,K.mul_iv h1]
end
end Go.Proofs.YtboadfahlflmhaaDoor

/-
  Isomorphisms; Noether's first theorem. Conditions: none.
-/
set_option linter.all false
namespace Go.Proofs.YtboadfahlflmhaaDoor
open Go.Pv

/-- An isomorphism. -/
def Isom (n:Nat) (f:Nat→Nat→Nat) (N:Nat) (g:Nat→Nat→Nat) (φ:Nat→Nat):Prop:=Hmo n f N g φ∧onto1 (tbm n φ) N
theorem isom_iff {n N:Nat} {f g:Nat→Nat→Nat} {φ:Nat→Nat} : Isom n f N g φ↔Hmo n f N g φ∧n=N∧∀ y,y < N→∃ x,x < n∧φ x=y:=by
 unfold Isom onto1
 rw [tbm_len]
 constructor
 ·rintro ⟨h1,h2,h3⟩
  refine ⟨h1,h3,fun y hy=>?_⟩
  obtain ⟨x,hx,e⟩:=List.mem_map.1 (h2 y hy)
  exact ⟨x,List.mem_range.1 hx,by omega⟩
 ·rintro ⟨h1,h2,h3⟩
  refine ⟨h1,fun y hy=>?_,h2⟩
  obtain ⟨x,hx,rfl⟩:=h3 y hy
  exact List.mem_map.2 ⟨x,List.mem_range.2 hx,rfl⟩
theorem lat_pixI {n x:Nat} {p:Nat→Bool} (hx:x < n) (hp:p x=true):lat n p (pix p x)=x:=by
 unfold lat
 rw [(pix_at hx hp).2]; rfl
theorem ptb_opI {n:Nat} {f:Nat→Nat→Nat} {p:Nat→Bool} {i j:Nat} (hi:i < (thl n p).length) (hj:j < (thl n p).length):op (ptb n f p) (thl n p).length i j=pop n f p i j:=tbl_op' _ hi hj

section
variable {n e N d:Nat} {m M:List Int} {φ:Nat→Nat}
end
section
variable {n e N d:Nat} {f g:Nat→Nat→Nat} {φ:Nat→Nat}
theorem Isom.inj (h:Isom n f N g φ) {a b:Nat} (ha:a < n) (hb:b < n) (hab:φ a=φ b):a=b:=by
 obtain ⟨h1,h2,h3⟩:=isom_iff.1 h
 subst h2
 have hc:∀ y,∃ x,y < n→x < n∧φ x=y:=fun y=>by
  by_cases hy:y < n
  ·obtain ⟨x,hx⟩:=h3 y hy
   exact ⟨x,fun _=>hx⟩
  ·exact ⟨0,fun h=>absurd h hy⟩
 obtain ⟨ψ,hψ⟩:∃ ψ:Nat→Nat,∀ y,y < n→ψ y < n∧φ (ψ y)=y:=⟨fun y=>Classical.choose (hc y),fun y hy=>Classical.choose_spec (hc y) hy⟩
 have hnd:((List.range n).map ψ).Nodup:=nodup_map List.nodup_range fun y hy z hz hyz=>by
  rw [← (hψ y (List.mem_range.1 hy)).2,← (hψ z (List.mem_range.1 hz)).2,hyz]
 have hall:∀ a,a < n→∃ y,y < n∧ψ y=a:=fun a ha=>Classical.byContradiction fun hne=>by
  have hn2:(a :: (List.range n).map ψ).Nodup:=List.nodup_cons.2 ⟨fun hm=>by
   obtain ⟨y,hy,e⟩:=List.mem_map.1 hm
   exact hne ⟨y,List.mem_range.1 hy,e⟩,hnd⟩
  have:=nodup_lt (n:=n) hn2 fun x hx=>by
   rcases List.mem_cons.1 hx with rfl | hx
   ·exact ha
   ·obtain ⟨y,hy,rfl⟩:=List.mem_map.1 hx
    exact (hψ y (List.mem_range.1 hy)).1
  simp at this
  omega
 obtain ⟨y,hy,rfl⟩:=hall a ha
 obtain ⟨z,hz,rfl⟩:=hall b hb
 rw [(hψ y hy).2,(hψ z hz).2] at hab
 rw [hab]
open Classical in
theorem Isom.symm (G:Grp n f e) (h:Isom n f N g φ):∃ ψ,Isom N g n f ψ:=by
 obtain ⟨h1,h2,h3⟩:=isom_iff.1 h
 have hc:∀ y,∃ x,y < N→x < n∧φ x=y:=fun y=>by
  by_cases hy:y < N
  ·obtain ⟨x,hx⟩:=h3 y hy
   exact ⟨x,fun _=>hx⟩
  ·exact ⟨0,fun h=>absurd h hy⟩
 refine ⟨fun y=>Classical.choose (hc y),isom_iff.2 ⟨⟨fun y hy=>(Classical.choose_spec (hc y) hy).1,fun y z hy hz=>?_⟩,h2.symm,fun x hx=>?_⟩⟩
 ·obtain ⟨a1,a2⟩:=Classical.choose_spec (hc y) hy
  obtain ⟨b1,b2⟩:=Classical.choose_spec (hc z) hz
  have hgl:g y z < N:=by
   have:=h1.lt _ (G.cl _ _ a1 b1)
   rwa [h1.mul _ _ a1 b1,a2,b2] at this
  obtain ⟨c1,c2⟩:=Classical.choose_spec (hc (g y z)) hgl
  refine h.inj c1 (G.cl _ _ a1 b1) ?_
  rw [c2,h1.mul _ _ a1 b1,a2,b2]
 ·obtain ⟨c1,c2⟩:=Classical.choose_spec (hc (φ x)) (h1.lt x hx)
  exact ⟨φ x,h1.lt x hx,h.inj c1 hx c2⟩
end
end Go.Proofs.YtboadfahlflmhaaDoor

/-
  The law HomOrders. Conditions: none.
-/
set_option linter.all false
namespace Go.Proofs.YtboadfahlflmhaaDoor
open Go.Pv

section
variable {n e N d n' e' : Nat} {f g:Nat→Nat→Nat} {φ:Nat→Nat} {m m' l:List Int}
theorem pre_sub (G:Grp n f e) (K:Grp N g d) (h:Hmo n f N g φ) {r:Nat→Bool} (hr:Sub N g d r):Sub n f e fun x=>r (φ x):=by
 refine sub_of G (by simp only [h.one G K]; exact hr.one) fun a b ha hb h1 h2=>?_
 show r (φ (f a b))=true
 rw [h.mul a b ha hb]
 exact hr.mul _ _ (h.lt a ha) (h.lt b hb) h1 h2
end
end Go.Proofs.YtboadfahlflmhaaDoor

/-
  Noether's second and third theorems; subgroups above a normal one. Conditions: none.
-/
set_option linter.all false
namespace Go.Proofs.YtboadfahlflmhaaDoor
open Go.Pv

section
variable {n e N d k:Nat} {f g:Nat→Nat→Nat} {m:List Int} {φ ψ:Nat→Nat} {p q P:Nat→Bool}
theorem Hmo.comp {h:Nat→Nat→Nat} (a:Hmo n f N g φ) (b:Hmo N g k h ψ):Hmo n f k h fun x=>ψ (φ x):=
 ⟨fun x hx=>b.lt _ (a.lt x hx),fun x y hx hy=>by rw [a.mul x y hx hy,b.mul _ _ (a.lt x hx) (a.lt y hy)]⟩
theorem lat_hmo (h:GT n m n e) (hP:Sub n (op m n) e P):Hmo (thl n P).length (op (ptb n (op m n) P) (thl n P).length) n (op m n) (lat n P):=
 ⟨fun i hi=>(lat_at hi).1,fun i j hi hj=>by rw [ptb_opI hi hj]; exact (pop_at h.2.2 hP hi hj).2⟩
end
end Go.Proofs.YtboadfahlflmhaaDoor

/-
  Walks: the parts of a group. Conditions: none.
-/
set_option linter.all false
namespace Go.Proofs.YtboadfahlflmhaaDoor
open Go.Pv

theorem ix_at {l:List Int} {x:Int} {i:Nat} (hi:i < l.length) (he:l.getD i 0=x) (hj:∀ j,j < i→¬ l.getD j 0=x):ix l x=i:=by
 unfold ix
 rw [fst_some hi (decide_eq_true he) fun j hj'=>decide_eq_false (hj j hj')]
theorem ix_thl {n:Nat} {P:Nat→Bool} {x:Nat} (hx:x < n) (hP:P x=true):ix (thl n P) x=(pix P x:Nat):=by
 obtain ⟨h1,h2⟩:=pix_at hx hP
 refine ix_at h1 h2 fun j hj he=>?_
 have:=thl_get_asc (p:=P) (n:=n) hj h1
 rw [he,h2] at this
 omega
theorem pw_uniq2 {α:Type} {R:α→α→Prop} (anti:∀ a b,R a b→R b a→a=b):∀ (xs ys:List α),xs.Perm ys→xs.Pairwise R→ys.Pairwise R→xs=ys
 | [],ys,h,_,_=>h.symm.eq_nil.symm
 | x :: r,[],h,_,_=>h.eq_nil
 | x :: r,y :: s,h,h1,h2=>by
  have hxy:x=y:=by
   have m1:x∈y :: s:=h.mem_iff.1 (by simp)
   have m2:y∈x :: r:=h.mem_iff.2 (by simp)
   rcases List.mem_cons.1 m1 with h3 | h3
   ·exact h3
   ·rcases List.mem_cons.1 m2 with h4 | h4
    ·exact h4.symm
    ·exact anti _ _ ((List.pairwise_cons.1 h1).1 y h4) ((List.pairwise_cons.1 h2).1 x h3)
  subst hxy
  rw [pw_uniq2 anti r s (List.Perm.cons_inv h) (List.pairwise_cons.1 h1).2 (List.pairwise_cons.1 h2).2]
/-- Numbers of things in a list. -/
def atl (P:Nat→Bool) (v:List Int):List Int:=v.map fun x=>((pix P x.toNat:Nat):Int)
theorem atl_thl {n:Nat} {P p:Nat→Bool} (hpP:∀ a,a < n→p a=true→P a=true):atl P (thl n p)=thl (thl n P).length fun i=>p (lat n P i):=by
 have hasc:(atl P (thl n p)).Pairwise (· < ·):=by
  unfold atl
  rw [List.pairwise_map]
  refine List.Pairwise.imp_of_mem (fun {x y} hx hy hxy=>?_) (thl_asc n p)
  obtain ⟨a,ha,hpa,rfl⟩:=mem_thl.1 hx
  obtain ⟨b,hb,hpb,rfl⟩:=mem_thl.1 hy
  have hab:a < b:=by omega
  show ((pix P a:Nat):Int) < ((pix P b:Nat):Int)
  have h1:=pix_at ha (hpP a ha hpa)
  have h2:=pix_at hb (hpP b hb hpb)
  rcases Nat.lt_trichotomy (pix P a) (pix P b) with h | h | h
  ·omega
  ·rw [h] at h1
   rw [h2.2] at h1
   omega
  ·have:=thl_get_asc (p:=P) (n:=n) h h1.1
   rw [h1.2,h2.2] at this
   omega
 refine pw_uniq2 (R:=(· < ·)) (fun a b h1 h2=>by omega) _ _ ((List.perm_ext_iff_of_nodup (hasc.imp fun h=>by omega) ((thl_asc _ _).imp fun h=>by omega)).2 fun y=>?_) hasc (thl_asc _ _)
 unfold atl
 rw [List.mem_map,mem_thl]
 constructor
 ·rintro ⟨x,hx,rfl⟩
  obtain ⟨a,ha,hpa,rfl⟩:=mem_thl.1 hx
  have h1:=pix_at ha (hpP a ha hpa)
  exact ⟨pix P a,h1.1,by rw [lat_pixI ha (hpP a ha hpa)]; exact hpa,rfl⟩
 ·rintro ⟨i,hi,hp,rfl⟩
  obtain ⟨a1,a2,a3,a4⟩:=lat_at hi
  exact ⟨((lat n P i:Nat):Int),mem_thl.2 ⟨_,a1,hp,rfl⟩,by show ((pix P (lat n P i):Nat):Int)=i; rw [a4]⟩
theorem lat_len {n:Nat} {P p:Nat→Bool} (hpP:∀ a,a < n→p a=true→P a=true):(mem (thl n P).length fun i=>p (lat n P i)).length=(thl n p).length:=by
 have:=congrArg List.length (atl_thl hpP)
 rw [thl_len (thl n P).length] at this
 unfold atl at this
 rw [List.length_map] at this
 exact this.symm

theorem atc_c {n:Nat} (hn:n≤60) {P p:Nat→Bool} (hpP:∀ a,a < n→p a=true→P a=true):FnC Tryd.prog 121 [.list (il (thl n p)),.ptr [.list (il (thl n P))]] (.list (il (thl (thl n P).length fun i=>p (lat n P i)))):=by
 have lp:=thl_le n p
 have lP:=thl_le n P
 refine fnc_of tab_ok Tryd.func121 rfl (by kernel_rfl) (by rw [Tryd.ntmps121]; exact Nat.le_add_left 2 _) ?_; rw [Tryd.ntmps121]
 refine qm ?_
 refine hk_region fun K hK=>runs_eval tab_ok ?_
 simp only [ev0,evA,evB,evP,fl,gp,tab,simprocAttr,reduceCtorEq,reduceIte]
 refine fin_run trivial (hK _ ?_)<;>clear hK<;>clear K
 refine qa (qm ?_)
 refine hk_region fun K hK=>runs_eval tab_ok ?_
 simp only [ev0,evA,evB,evP,fl,gp,tab,simprocAttr,reduceCtorEq,reduceIte]
 refine fin_run trivial (hK _ ?_)<;>clear hK<;>clear K
 refine qa (qm (qm ?_))
 refine hk_own0 4 rfl ?_
 refine hk_region fun K hK=>runs_eval tab_ok ?_
 simp only [ev0,evA,evB,evP,fl,gp,tab,simprocAttr,reduceCtorEq,reduceIte,il_length]
 refine fin_run trivial (hK _ ?_)<;>clear hK<;>clear K
 refine qa (ql ?_)
 refine hk_loop (ι:=Nat) (fun i=>⟨21,[(1,.p (.ptr [.list (il (thl n P))])),(4,.sl 0 0 (atl P ((thl n p).take i)).length),(7,.p (.list (il (thl n p)))),(8,.p (.int .i64 (thl n p).length)),(9,.p (.int .i64 i))],[.own (ol (atl P ((thl n p).take i)))]⟩) (fun i=>i≤(thl n p).length) (fun i=>(thl n p).length - i) 0 (Nat.zero_le _) [0] (by simp only [leq,leA,ev0,evA,evB,evP,fl,gp,tab,simprocAttr,reduceCtorEq,reduceIte]<;>simp [atl,ol_nil]) fun i hi=>?_
 have hrl:(atl P ((thl n p).take i)).length=i:=by simp [atl]; omega
 refine qm ?_
 refine hk_region fun K hK=>runs_eval tab_ok ?_
 simp only [ev0,evA,evB,evP,fl,gp,tab,simprocAttr,reduceCtorEq,reduceIte]
 refine fin_run trivial (hK _ ?_)<;>clear hK<;>clear K
 refine qa (qm ?_)
 refine hk_cond rfl (fun hC1=>?_) (fun hC1=>?_)
 ·(try simp only [nhs] at hC1)
  have hlt:i < (thl n p).length:=by omega
  obtain ⟨a,ha,hpa,hga⟩:=thl_get hlt
  have hix:=ix_thl ha (hpP a ha hpa)
  have hst:atl P ((thl n p).take (i + 1))=atl P ((thl n p).take i)++[((pix P a:Nat):Int)]:=by
   unfold atl
   rw [List.take_succ_eq_append_getElem hlt,List.map_append]
   rw [show (thl n p)[i]=(thl n p).getD i 0 by simp [List.getD,List.getElem?_eq_getElem hlt],hga]
   rfl
  refine qh (qa (qm (ql (qm ?_))))
  refine hk_region fun K hK=>runs_eval tab_ok ?_
  simp only [ev0,evA,evB,evP,fl,gp,tab,simprocAttr,reduceCtorEq,reduceIte,il_get hlt,hga]
  refine fin_run ?_ (hK _ ?_)<;>clear hK<;>clear K
  ·(first|exact trivial|omega|(simp only [In64] at *; omega)|(simp [In64] at *; omega)|(simp_all; done)|skip)
  refine qa ?_
  refine hk_region fun K hK=>runs_eval tab_ok ?_
  simp only [ev0,evA,evB,evP,fl,gp,tab,simprocAttr,reduceCtorEq,reduceIte]
  refine fin_stop trivial (runs_call (index_c (thl n P) a (by omega)) rfl rfl rfl (by simp only [dstOk,Nat.reduceLT]) (by repeat (first|exact trivial|constructor)) (runs_eval tab_ok ?_))
  simp only [ev0,evA,evB,evP,fl,gp,tab,simprocAttr,reduceCtorEq,reduceIte,hix]
  refine fin_run ?_ (hK _ ?_)<;>clear hK<;>clear K
  ·(first|exact trivial|omega|(simp only [In64] at *; omega)|(simp [In64] at *; omega)|(simp_all; done)|skip)
  refine qd (qa ?_)
  refine hk_region fun K hK=>runs_eval tab_ok ?_
  simp only [ev0,evA,evB,evP,fl,gp,tab,simprocAttr,reduceCtorEq,reduceIte]
  refine fin_run ?_ (hK _ ?_)<;>clear hK<;>clear K
  ·(first|exact trivial|omega|(simp only [In64] at *; omega)|(simp [In64] at *; omega)|(simp_all; done)|skip)
  refine qa ?_
  refine ⟨i + 1,[1],by omega,by omega,?_⟩
  rw [hst]
  simp only [leq,leA,ev0,evA,evB,evP,fl,gp,tab,simprocAttr,reduceCtorEq,reduceIte]<;>first|trivial|omega|trace_state
 ·(try simp only [nhs] at hC1)
  have hin:i=(thl n p).length:=by omega
  rw [hin,List.take_length,atl_thl hpP]
  rw [hin,List.take_length,atl_thl hpP] at hrl
  refine hk_seal 4 0 rfl rfl ?_
  refine qj (qc (qc (qf (qa (qm ?_)))))
  refine hk_region fun K hK=>runs_eval tab_ok ?_
  simp only [ev0,evA,evB,evP,fl,gp,tab,simprocAttr,reduceCtorEq,reduceIte]
  refine fin_run trivial (hK _ ?_)<;>clear hK<;>clear K
  refine qa (qk ?_)
  simp only [Tryd.results121,enA,ev0,evA,evB,evP,fl,gp,tab,simprocAttr,reduceCtorEq,reduceIte]
  all_goals (rfl)

section
variable {n e:Nat} {m:List Int}
open Classical in
theorem spl_some {f:Nat→Nat→Nat} {SL:List Nat} {P:Nat→Bool} {k i j:Nat} (hi:i < SL.length) (hj:j < SL.length) (hb:∀ t,t < i * SL.length + j→gd n f e SL P t=false) (hg:gdp n f e P (ts SL i) (ts SL j)):spl n f e SL (k + 1) P=spl n f e SL k (ts SL i)++spl n f e SL k (ts SL j):=by
 have hij:i * SL.length + j < SL.length * SL.length:=by
  have:(i + 1) * SL.length≤SL.length * SL.length:=Nat.mul_le_mul_right _ hi
  rw [Nat.add_mul,Nat.one_mul] at this
  omega
 have hL:0 < SL.length:=by omega
 have e1:(i * SL.length + j) / SL.length=i:=by rw [Nat.mul_comm i,Nat.mul_add_div hL,Nat.div_eq_of_lt hj,Nat.add_zero]
 have e2:(i * SL.length + j) % SL.length=j:=by rw [Nat.mul_comm i,Nat.mul_add_mod,Nat.mod_eq_of_lt hj]
 have hgd:gd n f e SL P (i * SL.length + j)=true:=by
  unfold gd
  rw [e1,e2]
  exact decide_eq_true hg
 conv=>lhs; unfold spl
 rw [fst_some hij hgd hb]
 simp only [e1,e2]
theorem spl_none {f:Nat→Nat→Nat} {SL:List Nat} {P:Nat→Bool} {k:Nat} (hb:∀ t,t < SL.length * SL.length→gd n f e SL P t=false):spl n f e SL (k + 1) P=[thl n P]:=by
 unfold spl
 rw [fst_none hb]
open Classical in
theorem gd_no {f:Nat→Nat→Nat} {SL:List Nat} {P:Nat→Bool} {i j:Nat} (hj:j < SL.length) (h:¬ gdp n f e P (ts SL i) (ts SL j)):gd n f e SL P (i * SL.length + j)=false:=by
 have hL:0 < SL.length:=by omega
 have e1:(i * SL.length + j) / SL.length=i:=by rw [Nat.mul_comm i,Nat.mul_add_div hL,Nat.div_eq_of_lt hj,Nat.add_zero]
 have e2:(i * SL.length + j) % SL.length=j:=by rw [Nat.mul_comm i,Nat.mul_add_mod,Nat.mod_eq_of_lt hj]
 unfold gd
 rw [e1,e2]
 exact decide_eq_false h
theorem gd_row {f:Nat→Nat→Nat} {SL:List Nat} {P:Nat→Bool} {i:Nat} (hb:∀ t,t < i * SL.length→gd n f e SL P t=false) (h:∀ j,j < SL.length→¬ gdp n f e P (ts SL i) (ts SL j)):∀ t,t < (i + 1) * SL.length→gd n f e SL P t=false:=fun t ht=>by
 rw [Nat.add_mul,Nat.one_mul] at ht
 by_cases h1:t < i * SL.length
 ·exact hb t h1
 ·have:=gd_no (i:=i) (f:=f) (SL:=SL) (P:=P) (j:=t - i * SL.length) (by omega) (h _ (by omega))
  rwa [show i * SL.length + (t - i * SL.length)=t by omega] at this
theorem andn_sub {SL:List Nat} {P p:Nat→Bool} {x:Nat} (hn:n≤60) (hx:x=bo n p):decide (((andn x (bo n P):Nat):Int)=0)=decide (∀ a,a < n→p a=true→P a=true):=by
 refine decide_eq_decide.2 ?_
 have h0:((andn x (bo n P):Nat):Int)=0↔andn x (bo n P)=0:=by omega
 rw [h0,hx,andn_zero (bo_lt64 hn p) (bo_lt64 hn P)]
 constructor
 ·intro h a ha hp
  have:=h a (by rw [bo_bit]; simp [ha,hp])
  rw [bo_bit] at this
  simpa [ha] using this
 ·intro h i hi
  rw [bo_bit] at hi ⊢
  simp only [Bool.and_eq_true,decide_eq_true_eq] at hi ⊢
  exact ⟨hi.1,h i hi.1 hi.2⟩

theorem em5 (A B C D:Prop):¬ A∨(A∧¬ B)∨(A∧B∧¬ C)∨(A∧B∧C∧¬ D)∨(A∧B∧C∧D):=by
 by_cases a:A<;>by_cases b:B<;>by_cases c:C<;>by_cases d:D<;>simp [a,b,c,d]
theorem em4 (A B C:Prop):¬ A∨(A∧¬ B)∨(A∧B∧¬ C)∨(A∧B∧C):=by
 by_cases a:A<;>by_cases b:B<;>by_cases c:C<;>simp [a,b,c]
set_option maxRecDepth 20000 in
set_option maxHeartbeats 16000000 in
theorem parts_step (h:GT n m n e) (hn:n≤24) {SL:List Nat} (hS:AllS n (op m n) e SL) (k:Nat) {X0:PV} (IH:∀ P,Sub n (op m n) e P→(thl n P).length≤k→FnG Tryd.prog 120 [.list (il (thl n P)),.ptr [.list (ul SL)],.ptr [.int .i64 n,.list (il m)],X0] (.sl 0 0 (spl n (op m n) e SL k P).length) [.own (opl (ll (spl n (op m n) e SL k P)))])
  (hlen:∀ P,Sub n (op m n) e P→(thl n P).length≤k→(spl n (op m n) e SL k P).length≤24) {P:Nat→Bool} (hP:Sub n (op m n) e P) (hk:(thl n P).length≤k + 1) :
  FnG Tryd.prog 120 [.list (il (thl n P)),.ptr [.list (ul SL)],.ptr [.int .i64 n,.list (il m)],.ptr [.fn 120 [.ptr [.list (ul SL)],.ptr [.int .i64 n,.list (il m)],X0]]] (.sl 0 0 (spl n (op m n) e SL (k + 1) P).length) [.own (opl (ll (spl n (op m n) e SL (k + 1) P)))]:=by
 have G:=h.2.2
 have hb:=h.2.1.big
 have hSl:=hS.len hn
 have lP:=thl_le n P
 have hP64:=bo_lt64 hb P
 refine fng_of tab_ok Tryd.func120 rfl (by kernel_rfl) (by rw [Tryd.ntmps120]; exact Nat.le_add_left 4 _) ?_; rw [Tryd.ntmps120]
 refine qm ?_
 refine hk_region fun K hK=>runs_eval tab_ok ?_
 simp only [ev0,evA,evB,evP,fl,gp,tab,simprocAttr,reduceCtorEq,reduceIte]
 refine fin_run ?_ (hK _ ?_)<;>clear hK<;>clear K
 ·(first|exact trivial|omega|(simp only [In64] at *; omega)|(simp [In64] at *; omega)|(simp_all; done)|skip)
 refine qa (qm (qm ?_))
 refine hk_freeze 0 rfl rfl ?_
 refine hk_pure 4 rfl (Nat.zero_le _) ?_
 simp only [hset,List.drop_zero]
 refine hk_region fun K hK=>runs_eval tab_ok ?_
 simp only [ev0,evA,evB,evP,fl,gp,tab,simprocAttr,reduceCtorEq,reduceIte,ul_length]
 refine fin_run ?_ (hK _ ?_)<;>clear hK<;>clear K
 ·(first|exact trivial|omega|(simp only [In64] at *; omega)|(simp [In64] at *; omega)|(simp_all; done)|skip)
 refine qa (ql ?_)
 refine hk_loop (ι:=Nat) (fun i=>⟨111,[(1,.p (.ptr [.list (ul SL)])),(2,.p (.ptr [.int .i64 n,.list (il m)])),(3,.p (.ptr [.fn 120 [.ptr [.list (ul SL)],.ptr [.int .i64 n,.list (il m)],X0]])),(4,.p (.ptr [.list (il (thl n P))])),(17,.p (.list (ul SL))),(18,.p (.int .i64 SL.length)),(19,.p (.int .i64 i))],[]⟩) (fun i=>i≤SL.length∧∀ t,t < i * SL.length→gd n (op m n) e SL P t=false) (fun i=>SL.length - i) 0 ⟨Nat.zero_le _,fun t ht=>absurd ht (by simp)⟩ [] (by simp only [leq,leA,ev0,evA,evB,evP,fl,gp,tab,simprocAttr,reduceCtorEq,reduceIte]<;>first|trivial|trace_state) fun i hi=>?_
 obtain ⟨hi1,hi2⟩:=hi
 refine qm ?_
 refine hk_region fun K hK=>runs_eval tab_ok ?_
 simp only [ev0,evA,evB,evP,fl,gp,tab,simprocAttr,reduceCtorEq,reduceIte]
 refine fin_run trivial (hK _ ?_)<;>clear hK<;>clear K
 refine qa (qm ?_)
 refine hk_cond rfl (fun hC1=>?_) (fun hC1=>?_)
 ·(try simp only [nhs] at hC1)
  have hlt:i < SL.length:=by omega
  obtain ⟨sp,ep⟩:=ts_at G hS hlt
  have hst:=stl_bo hb (ts SL i)
  have lp:=thl_le n (ts SL i)
  have l1:=len_pos G sp
  have hx64:=bo_lt64 hb (ts SL i)
  refine qh (qa (qm (ql (qm ?_))))
  refine hk_region fun K hK=>runs_eval tab_ok ?_
  simp only [ev0,evA,evB,evP,fl,gp,tab,simprocAttr,reduceCtorEq,reduceIte,ul_length,ul_get hlt,ep]
  refine fin_run ?_ (hK _ ?_)<;>clear hK<;>clear K
  ·exact ⟨by omega,by omega⟩
  refine qa (qm ?_)
  refine hk_region fun K hK=>runs_eval tab_ok ?_
  simp only [ev0,evA,evB,evP,fl,gp,tab,simprocAttr,reduceCtorEq,reduceIte]
  refine fin_stop trivial (runs_call (list_s (bo n (ts SL i)) hx64) rfl rfl rfl (by simp only [dstOk,Nat.reduceLT]) (by repeat (first|exact trivial|constructor)) (runs_eval tab_ok ?_))
  simp only [ev0,evA,evB,evP,fl,gp,tab,simprocAttr,reduceCtorEq,reduceIte,hst]
  refine fin_run trivial (hK _ ?_)<;>clear hK<;>clear K
  refine qa (qm (qm ?_))
  rcases em5 (¬ (thl n (ts SL i)).length=1) (¬ (thl n (ts SL i)).length=(thl n P).length) (∀ a,a < n→ts SL i a=true→P a=true) ((thl n P).length % (thl n (ts SL i)).length=0) with c1 | ⟨c1,c2⟩ | ⟨c1,c2,c3⟩ | ⟨c1,c2,c3,c4⟩ | ⟨c1,c2,c3,c4⟩
  ·have hbad:∀ j,¬ gdp n (op m n) e P (ts SL i) (ts SL j):=fun j hg=>c1 hg.1.1
   refine hk_region fun K hK=>runs_eval tab_ok ?_
   simp only [ev0,evA,evB,evP,fl,gp,tab,simprocAttr,reduceCtorEq,reduceIte,il_length,decide_eq_true (show (((thl n (ts SL i)).length:Nat):Int)=1 by omega)]
   refine fin_run trivial (hK _ ?_)<;>clear hK<;>clear K
   refine qa ?_
   refine hk_cond rfl (fun hC2=>?_) (fun hC2=>?_)
   ·refine qj (qc (qf (qa ?_)))
    refine hk_region fun K hK=>runs_eval tab_ok ?_
    simp only [ev0,evA,evB,evP,fl,gp,tab,simprocAttr,reduceCtorEq,reduceIte]
    refine fin_run ?_ (hK _ ?_)<;>clear hK<;>clear K
    ·(first|exact trivial|omega|(simp only [In64] at *; omega)|(simp [In64] at *; omega)|(simp_all; done)|skip)
    refine qa ?_
    refine ⟨i + 1,[],⟨by omega,gd_row hi2 fun j _=>hbad j⟩,by omega,?_⟩
    simp only [leq,leA,ev0,evA,evB,evP,fl,gp,tab,simprocAttr,reduceCtorEq,reduceIte]<;>first|trivial|omega|trace_state
   ·cases hC2
  ·have hbad:∀ j,¬ gdp n (op m n) e P (ts SL i) (ts SL j):=fun j hg=>c2 hg.1.2.1
   refine hk_region fun K hK=>runs_eval tab_ok ?_
   simp only [ev0,evA,evB,evP,fl,gp,tab,simprocAttr,reduceCtorEq,reduceIte,il_length,decide_eq_false (show ¬ (((thl n (ts SL i)).length:Nat):Int)=1 by omega),decide_eq_true (show (((thl n (ts SL i)).length:Nat):Int)=((thl n P).length:Nat) by omega)]
   refine fin_run ?_ (hK _ ?_)<;>clear hK<;>clear K
   ·(first|exact trivial|omega|(simp only [In64] at *; omega)|(simp [In64] at *; omega)|(simp_all; done)|skip)
   refine qa ?_
   refine hk_cond rfl (fun hC2=>?_) (fun hC2=>?_)
   ·refine qj (qc (qf (qa ?_)))
    refine hk_region fun K hK=>runs_eval tab_ok ?_
    simp only [ev0,evA,evB,evP,fl,gp,tab,simprocAttr,reduceCtorEq,reduceIte]
    refine fin_run ?_ (hK _ ?_)<;>clear hK<;>clear K
    ·(first|exact trivial|omega|(simp only [In64] at *; omega)|(simp [In64] at *; omega)|(simp_all; done)|skip)
    refine qa ?_
    refine ⟨i + 1,[],⟨by omega,gd_row hi2 fun j _=>hbad j⟩,by omega,?_⟩
    simp only [leq,leA,ev0,evA,evB,evP,fl,gp,tab,simprocAttr,reduceCtorEq,reduceIte]<;>first|trivial|omega|trace_state
   ·cases hC2
  ·have hbad:∀ j,¬ gdp n (op m n) e P (ts SL i) (ts SL j):=fun j hg=>c3 hg.1.2.2.1
   have hsub:=andn_sub (SL:=SL) (P:=P) hb ep
   rw [ep,decide_eq_false c3] at hsub
   refine hk_region fun K hK=>runs_eval tab_ok ?_
   simp only [ev0,evA,evB,evP,fl,gp,tab,simprocAttr,reduceCtorEq,reduceIte,il_length,decide_eq_false (show ¬ (((thl n (ts SL i)).length:Nat):Int)=1 by omega),decide_eq_false (show ¬ (((thl n (ts SL i)).length:Nat):Int)=((thl n P).length:Nat) by omega),msk_thl,bv_andn,hsub]
   refine fin_stop trivial (runs_call (of_s (thl n P) (by omega) (thl_rng hb P)) rfl rfl rfl (by simp only [dstOk,Nat.reduceLT]) (by repeat (first|exact trivial|constructor)) (runs_eval tab_ok ?_))
   simp only [ev0,evA,evB,evP,fl,gp,tab,simprocAttr,reduceCtorEq,reduceIte,il_length,decide_eq_false (show ¬ (((thl n (ts SL i)).length:Nat):Int)=1 by omega),decide_eq_false (show ¬ (((thl n (ts SL i)).length:Nat):Int)=((thl n P).length:Nat) by omega),msk_thl,bv_andn,hsub]
   refine fin_run ?_ (hK _ ?_)<;>clear hK<;>clear K
   ·(first|exact trivial|omega|(simp only [In64] at *; omega)|(simp [In64] at *; omega)|(simp_all; done)|skip)
   refine qa ?_
   refine hk_cond rfl (fun hC2=>?_) (fun hC2=>?_)
   ·refine qj (qc (qf (qa ?_)))
    refine hk_region fun K hK=>runs_eval tab_ok ?_
    simp only [ev0,evA,evB,evP,fl,gp,tab,simprocAttr,reduceCtorEq,reduceIte]
    refine fin_run ?_ (hK _ ?_)<;>clear hK<;>clear K
    ·(first|exact trivial|omega|(simp only [In64] at *; omega)|(simp [In64] at *; omega)|(simp_all; done)|skip)
    refine qa ?_
    refine ⟨i + 1,[],⟨by omega,gd_row hi2 fun j _=>hbad j⟩,by omega,?_⟩
    simp only [leq,leA,ev0,evA,evB,evP,fl,gp,tab,simprocAttr,reduceCtorEq,reduceIte]<;>first|trivial|omega|trace_state
   ·cases hC2
  ·have hbad:∀ j,¬ gdp n (op m n) e P (ts SL i) (ts SL j):=fun j hg=>c4 hg.1.2.2.2
   have hsub:=andn_sub (SL:=SL) (P:=P) hb ep
   rw [ep,decide_eq_true c3] at hsub
   refine hk_region fun K hK=>runs_eval tab_ok ?_
   simp only [ev0,evA,evB,evP,fl,gp,tab,simprocAttr,reduceCtorEq,reduceIte,il_length,decide_eq_false (show ¬ (((thl n (ts SL i)).length:Nat):Int)=1 by omega),decide_eq_false (show ¬ (((thl n (ts SL i)).length:Nat):Int)=((thl n P).length:Nat) by omega),msk_thl,bv_andn,hsub,tm_nat]
   refine fin_stop trivial (runs_call (of_s (thl n P) (by omega) (thl_rng hb P)) rfl rfl rfl (by simp only [dstOk,Nat.reduceLT]) (by repeat (first|exact trivial|constructor)) (runs_eval tab_ok ?_))
   simp only [ev0,evA,evB,evP,fl,gp,tab,simprocAttr,reduceCtorEq,reduceIte,il_length,decide_eq_false (show ¬ (((thl n (ts SL i)).length:Nat):Int)=1 by omega),decide_eq_false (show ¬ (((thl n (ts SL i)).length:Nat):Int)=((thl n P).length:Nat) by omega),msk_thl,bv_andn,hsub,tm_nat]
   refine fin_run ?_ (hK _ ?_)<;>clear hK<;>clear K
   ·(first|exact trivial|omega|(simp only [In64] at *; omega)|(simp [In64] at *; omega)|(simp_all; done)|skip)
   refine qa ?_
   refine hk_cond rfl (fun hC2=>?_) (fun hC2=>?_)
   ·(try simp only [nhs] at hC2)
    refine qj (qc (qf (qa ?_)))
    refine hk_region fun K hK=>runs_eval tab_ok ?_
    simp only [ev0,evA,evB,evP,fl,gp,tab,simprocAttr,reduceCtorEq,reduceIte]
    refine fin_run ?_ (hK _ ?_)<;>clear hK<;>clear K
    ·(first|exact trivial|omega|(simp only [In64] at *; omega)|(simp [In64] at *; omega)|(simp_all; done)|skip)
    refine qa ?_
    refine ⟨i + 1,[],⟨by omega,gd_row hi2 fun j _=>hbad j⟩,by omega,?_⟩
    simp only [leq,leA,ev0,evA,evB,evP,fl,gp,tab,simprocAttr,reduceCtorEq,reduceIte]<;>first|trivial|omega|trace_state
   ·(try simp only [nhs] at hC2)
    omega
  ·have hsub:=andn_sub (SL:=SL) (P:=P) hb ep
   rw [ep,decide_eq_true c3] at hsub
   refine hk_region fun K hK=>runs_eval tab_ok ?_
   simp only [ev0,evA,evB,evP,fl,gp,tab,simprocAttr,reduceCtorEq,reduceIte,il_length,decide_eq_false (show ¬ (((thl n (ts SL i)).length:Nat):Int)=1 by omega),decide_eq_false (show ¬ (((thl n (ts SL i)).length:Nat):Int)=((thl n P).length:Nat) by omega),msk_thl,bv_andn,hsub,tm_nat]
   refine fin_stop trivial (runs_call (of_s (thl n P) (by omega) (thl_rng hb P)) rfl rfl rfl (by simp only [dstOk,Nat.reduceLT]) (by repeat (first|exact trivial|constructor)) (runs_eval tab_ok ?_))
   simp only [ev0,evA,evB,evP,fl,gp,tab,simprocAttr,reduceCtorEq,reduceIte,il_length,decide_eq_false (show ¬ (((thl n (ts SL i)).length:Nat):Int)=1 by omega),decide_eq_false (show ¬ (((thl n (ts SL i)).length:Nat):Int)=((thl n P).length:Nat) by omega),msk_thl,bv_andn,hsub,tm_nat]
   refine fin_run ?_ (hK _ ?_)<;>clear hK<;>clear K
   ·(first|exact trivial|omega|(simp only [In64] at *; omega)|(simp [In64] at *; omega)|(simp_all; done)|skip)
   refine qa ?_
   refine hk_cond rfl (fun hC2=>?_) (fun hC2=>?_)
   ·(try simp only [nhs] at hC2)
    omega
   ·(try simp only [nhs] at hC2)
    refine qh (qa (qm ?_))
    refine hk_region fun K hK=>runs_eval tab_ok ?_
    simp only [ev0,evA,evB,evP,fl,gp,tab,simprocAttr,reduceCtorEq,reduceIte,ul_length]
    refine fin_run ?_ (hK _ ?_)<;>clear hK<;>clear K
    ·(first|exact trivial|omega|(simp only [In64] at *; omega)|(simp [In64] at *; omega)|(simp_all; done)|skip)
    refine qa (ql ?_)
    refine hk_loop (ι:=Nat) (fun j=>⟨111,[(1,.p (.ptr [.list (ul SL)])),(2,.p (.ptr [.int .i64 n,.list (il m)])),(3,.p (.ptr [.fn 120 [.ptr [.list (ul SL)],.ptr [.int .i64 n,.list (il m)],X0]])),(4,.p (.ptr [.list (il (thl n P))])),(7,.p (.int .u64 (bo n (ts SL i):Nat))),(8,.p (.list (il (thl n (ts SL i))))),(17,.p (.list (ul SL))),(18,.p (.int .i64 SL.length)),(19,.p (.int .i64 i)),(50,.p (.list (ul SL))),(51,.p (.int .i64 SL.length)),(52,.p (.int .i64 j))],[]⟩) (fun j=>j≤SL.length∧∀ t,t < i * SL.length + j→gd n (op m n) e SL P t=false) (fun j=>SL.length - j) 0 ⟨Nat.zero_le _,hi2⟩ [] (by simp only [leq,leA,ev0,evA,evB,evP,fl,gp,tab,simprocAttr,reduceCtorEq,reduceIte]<;>first|trivial|trace_state) fun j hj=>?_
    obtain ⟨hj1,hj2⟩:=hj
    refine qm ?_
    refine hk_region fun K hK=>runs_eval tab_ok ?_
    simp only [ev0,evA,evB,evP,fl,gp,tab,simprocAttr,reduceCtorEq,reduceIte]
    refine fin_run trivial (hK _ ?_)<;>clear hK<;>clear K
    refine qa (qm ?_)
    refine hk_cond rfl (fun hC3=>?_) (fun hC3=>?_)
    ·(try simp only [nhs] at hC3)
     have hlj:j < SL.length:=by omega
     obtain ⟨sq,eq⟩:=ts_at G hS hlj
     have hsq:=stl_bo hb (ts SL j)
     have lq:=thl_le n (ts SL j)
     have hy64:=bo_lt64 hb (ts SL j)
     have hsub2:=andn_sub (SL:=SL) (P:=P) hb eq
     rw [eq] at hsub2
     have hmul:(thl n (ts SL i)).length * (thl n (ts SL j)).length≤60 * 60:=Nat.mul_le_mul (by omega) (by omega)
     have hmi:(((thl n (ts SL i)).length:Nat):Int) * (((thl n (ts SL j)).length:Nat):Int)=(((thl n (ts SL i)).length * (thl n (ts SL j)).length:Nat):Int):=by rw [Int.natCast_mul]
     have hmt:bo n (fun y=>ts SL i y && ts SL j y)=bo n (onp e)↔∀ a,a < n→ts SL i a=true→ts SL j a=true→a=e:=by
      rw [← G.meet_one sp sq,G.meet_len sp sq]
     refine qh (qa (qm (ql (qm ?_))))
     refine hk_region fun K hK=>runs_eval tab_ok ?_
     simp only [ev0,evA,evB,evP,fl,gp,tab,simprocAttr,reduceCtorEq,reduceIte,ul_length,ul_get hlj,eq]
     refine fin_run ?_ (hK _ ?_)<;>clear hK<;>clear K
     ·exact ⟨by omega,by omega⟩
     refine qa (qm ?_)
     refine hk_region fun K hK=>runs_eval tab_ok ?_
     simp only [ev0,evA,evB,evP,fl,gp,tab,simprocAttr,reduceCtorEq,reduceIte]
     refine fin_stop trivial (runs_call (list_s (bo n (ts SL j)) hy64) rfl rfl rfl (by simp only [dstOk,Nat.reduceLT]) (by repeat (first|exact trivial|constructor)) (runs_eval tab_ok ?_))
     simp only [ev0,evA,evB,evP,fl,gp,tab,simprocAttr,reduceCtorEq,reduceIte,hsq]
     refine fin_run trivial (hK _ ?_)<;>clear hK<;>clear K
     refine qa (qm (qm ?_))
     rcases em4 ((thl n (ts SL i)).length * (thl n (ts SL j)).length=(thl n P).length) (∀ a,a < n→ts SL j a=true→P a=true) (∀ a,a < n→ts SL i a=true→ts SL j a=true→a=e) with d1 | ⟨d1,d2⟩ | ⟨d1,d2,d3⟩ | ⟨d1,d2,d3⟩
     ·have hno:¬ gdp n (op m n) e P (ts SL i) (ts SL j):=fun hg=>d1 hg.2.1.1
      refine hk_region fun K hK=>runs_eval tab_ok ?_
      simp only [ev0,evA,evB,evP,fl,gp,tab,simprocAttr,reduceCtorEq,reduceIte,il_length,hmi,decide_eq_false (show ¬ (((thl n (ts SL i)).length * (thl n (ts SL j)).length:Nat):Int)=((thl n P).length:Nat) by omega)]
      refine fin_run ?_ (hK _ ?_)<;>clear hK<;>clear K
      ·(first|exact trivial|omega|(simp only [In64] at *; omega)|(simp [In64] at *; omega)|(simp_all; done)|skip)
      refine qa ?_
      refine hk_cond rfl (fun hC4=>?_) (fun hC4=>?_)
      ·refine qj (qc (qf (qa ?_)))
       refine hk_region fun K hK=>runs_eval tab_ok ?_
       simp only [ev0,evA,evB,evP,fl,gp,tab,simprocAttr,reduceCtorEq,reduceIte]
       refine fin_run ?_ (hK _ ?_)<;>clear hK<;>clear K
       ·(first|exact trivial|omega|(simp only [In64] at *; omega)|(simp [In64] at *; omega)|(simp_all; done)|skip)
       refine qa ?_
       refine ⟨j + 1,[],⟨by omega,fun t ht=>?_⟩,by omega,?_⟩
       ·by_cases htj:t < i * SL.length + j
        ·exact hj2 t htj
        ·have e1:t=i * SL.length + j:=by omega
         rw [e1]
         exact gd_no hlj hno
       ·simp only [leq,leA,ev0,evA,evB,evP,fl,gp,tab,simprocAttr,reduceCtorEq,reduceIte]<;>first|trivial|omega|trace_state
      ·cases hC4
     ·have hno:¬ gdp n (op m n) e P (ts SL i) (ts SL j):=fun hg=>d2 hg.2.1.2.1
      rw [decide_eq_false d2] at hsub2
      refine hk_region fun K hK=>runs_eval tab_ok ?_
      simp only [ev0,evA,evB,evP,fl,gp,tab,simprocAttr,reduceCtorEq,reduceIte,il_length,hmi,decide_eq_true (show (((thl n (ts SL i)).length * (thl n (ts SL j)).length:Nat):Int)=((thl n P).length:Nat) by omega),msk_thl,bv_andn,hsub2]
      refine fin_stop ?_ (runs_call (of_s (thl n P) (by omega) (thl_rng hb P)) rfl rfl rfl (by simp only [dstOk,Nat.reduceLT]) (by repeat (first|exact trivial|constructor)) (runs_eval tab_ok ?_))
      ·first|exact trivial|(simp only [In64]; omega)
      simp only [ev0,evA,evB,evP,fl,gp,tab,simprocAttr,reduceCtorEq,reduceIte,il_length,hmi,decide_eq_true (show (((thl n (ts SL i)).length * (thl n (ts SL j)).length:Nat):Int)=((thl n P).length:Nat) by omega),msk_thl,bv_andn,hsub2]
      refine fin_run ?_ (hK _ ?_)<;>clear hK<;>clear K
      ·(first|exact trivial|omega|(simp only [In64] at *; omega)|(simp [In64] at *; omega)|(simp_all; done)|skip)
      refine qa ?_
      refine hk_cond rfl (fun hC4=>?_) (fun hC4=>?_)
      ·refine qj (qc (qf (qa ?_)))
       refine hk_region fun K hK=>runs_eval tab_ok ?_
       simp only [ev0,evA,evB,evP,fl,gp,tab,simprocAttr,reduceCtorEq,reduceIte]
       refine fin_run ?_ (hK _ ?_)<;>clear hK<;>clear K
       ·(first|exact trivial|omega|(simp only [In64] at *; omega)|(simp [In64] at *; omega)|(simp_all; done)|skip)
       refine qa ?_
       refine ⟨j + 1,[],⟨by omega,fun t ht=>?_⟩,by omega,?_⟩
       ·by_cases htj:t < i * SL.length + j
        ·exact hj2 t htj
        ·have e1:t=i * SL.length + j:=by omega
         rw [e1]
         exact gd_no hlj hno
       ·simp only [leq,leA,ev0,evA,evB,evP,fl,gp,tab,simprocAttr,reduceCtorEq,reduceIte]<;>first|trivial|omega|trace_state
      ·cases hC4
     ·have hno:¬ gdp n (op m n) e P (ts SL i) (ts SL j):=fun hg=>d3 hg.2.1.2.2
      rw [decide_eq_true d2] at hsub2
      have hmf:¬ ((bo n (fun y=>ts SL i y && ts SL j y):Nat):Int)=(bo n (onp e):Nat):=fun hh=>d3 (hmt.1 (by omega))
      refine hk_region fun K hK=>runs_eval tab_ok ?_
      simp only [ev0,evA,evB,evP,fl,gp,tab,simprocAttr,reduceCtorEq,reduceIte,il_length,hmi,decide_eq_true (show (((thl n (ts SL i)).length * (thl n (ts SL j)).length:Nat):Int)=((thl n P).length:Nat) by omega),msk_thl,bv_andn,hsub2,bv_and hx64 hy64,bo_and,decide_eq_false hmf]
      refine fin_stop ?_ (runs_call (of_s (thl n P) (by omega) (thl_rng hb P)) rfl rfl rfl (by simp only [dstOk,Nat.reduceLT]) (by repeat (first|exact trivial|constructor)) (runs_eval tab_ok ?_))
      ·first|exact trivial|(simp only [In64]; omega)
      simp only [ev0,evA,evB,evP,fl,gp,tab,simprocAttr,reduceCtorEq,reduceIte,il_length,hmi,decide_eq_true (show (((thl n (ts SL i)).length * (thl n (ts SL j)).length:Nat):Int)=((thl n P).length:Nat) by omega),msk_thl,bv_andn,hsub2,bv_and hx64 hy64,bo_and,decide_eq_false hmf]
      refine fin_stop trivial (runs_call (grow_c h 0 (Nat.pow_pos (by omega)) (onp e) onp_gen) rfl rfl rfl (by simp only [dstOk,Nat.reduceLT]) (by repeat (first|exact trivial|constructor)) (runs_eval tab_ok ?_))
      simp only [ev0,evA,evB,evP,fl,gp,tab,simprocAttr,reduceCtorEq,reduceIte,il_length,hmi,decide_eq_true (show (((thl n (ts SL i)).length * (thl n (ts SL j)).length:Nat):Int)=((thl n P).length:Nat) by omega),msk_thl,bv_andn,hsub2,bv_and hx64 hy64,bo_and,decide_eq_false hmf]
      refine fin_run ?_ (hK _ ?_)<;>clear hK<;>clear K
      ·(first|exact trivial|omega|(simp only [In64] at *; omega)|(simp [In64] at *; omega)|(simp_all; done)|skip)
      refine qa ?_
      refine hk_cond rfl (fun hC4=>?_) (fun hC4=>?_)
      ·(try simp only [nhs] at hC4)
       refine qj (qc (qf (qa ?_)))
       refine hk_region fun K hK=>runs_eval tab_ok ?_
       simp only [ev0,evA,evB,evP,fl,gp,tab,simprocAttr,reduceCtorEq,reduceIte]
       refine fin_run ?_ (hK _ ?_)<;>clear hK<;>clear K
       ·(first|exact trivial|omega|(simp only [In64] at *; omega)|(simp [In64] at *; omega)|(simp_all; done)|skip)
       refine qa ?_
       refine ⟨j + 1,[],⟨by omega,fun t ht=>?_⟩,by omega,?_⟩
       ·by_cases htj:t < i * SL.length + j
        ·exact hj2 t htj
        ·have e1:t=i * SL.length + j:=by omega
         rw [e1]
         exact gd_no hlj hno
       ·simp only [leq,leA,ev0,evA,evB,evP,fl,gp,tab,simprocAttr,reduceCtorEq,reduceIte]<;>first|trivial|omega|trace_state
      ·cases hC4
     ·rw [decide_eq_true d2] at hsub2
      have hmf:((bo n (fun y=>ts SL i y && ts SL j y):Nat):Int)=(bo n (onp e):Nat):=by rw [hmt.2 d3]
      refine hk_region fun K hK=>runs_eval tab_ok ?_
      simp only [ev0,evA,evB,evP,fl,gp,tab,simprocAttr,reduceCtorEq,reduceIte,il_length,hmi,decide_eq_true (show (((thl n (ts SL i)).length * (thl n (ts SL j)).length:Nat):Int)=((thl n P).length:Nat) by omega),msk_thl,bv_andn,hsub2,bv_and hx64 hy64,bo_and,decide_eq_true hmf]
      refine fin_stop ?_ (runs_call (of_s (thl n P) (by omega) (thl_rng hb P)) rfl rfl rfl (by simp only [dstOk,Nat.reduceLT]) (by repeat (first|exact trivial|constructor)) (runs_eval tab_ok ?_))
      ·first|exact trivial|(simp only [In64]; omega)
      simp only [ev0,evA,evB,evP,fl,gp,tab,simprocAttr,reduceCtorEq,reduceIte,il_length,hmi,decide_eq_true (show (((thl n (ts SL i)).length * (thl n (ts SL j)).length:Nat):Int)=((thl n P).length:Nat) by omega),msk_thl,bv_andn,hsub2,bv_and hx64 hy64,bo_and,decide_eq_true hmf]
      refine fin_stop trivial (runs_call (grow_c h 0 (Nat.pow_pos (by omega)) (onp e) onp_gen) rfl rfl rfl (by simp only [dstOk,Nat.reduceLT]) (by repeat (first|exact trivial|constructor)) (runs_eval tab_ok ?_))
      simp only [ev0,evA,evB,evP,fl,gp,tab,simprocAttr,reduceCtorEq,reduceIte,il_length,hmi,decide_eq_true (show (((thl n (ts SL i)).length * (thl n (ts SL j)).length:Nat):Int)=((thl n P).length:Nat) by omega),msk_thl,bv_andn,hsub2,bv_and hx64 hy64,bo_and,decide_eq_true hmf]
      refine fin_run ?_ (hK _ ?_)<;>clear hK<;>clear K
      ·(first|exact trivial|omega|(simp only [In64] at *; omega)|(simp [In64] at *; omega)|(simp_all; done)|skip)
      refine qa ?_
      refine hk_cond rfl (fun hC4=>?_) (fun hC4=>?_)
      ·cases hC4
      ·(try simp only [nhs] at hC4)
       refine qh (qa (qm ?_))
       refine hk_region fun K hK=>runs_eval tab_ok ?_
       simp only [ev0,evA,evB,evP,fl,gp,tab,simprocAttr,reduceCtorEq,reduceIte]
       refine fin_stop trivial (runs_call (part_ok h P hP) rfl rfl rfl (by simp only [dstOk,Nat.reduceLT]) (by repeat (first|exact trivial|constructor)) (runs_eval tab_ok ?_))
       simp only [ev0,evA,evB,evP,fl,gp,tab,simprocAttr,reduceCtorEq,reduceIte]
       refine fin_run ?_ (hK _ ?_)<;>clear hK<;>clear K
       ·(first|exact trivial|omega|(simp only [In64] at *; omega)|(simp [In64] at *; omega)|(simp_all; done)|skip)
       refine qa (qm ?_)
       refine hk_region fun K hK=>runs_eval tab_ok ?_
       simp only [ev0,evA,evB,evP,fl,gp,tab,simprocAttr,reduceCtorEq,reduceIte]
       refine fin_run ?_ (hK _ ?_)<;>clear hK<;>clear K
       ·(first|exact trivial|omega|(simp only [In64] at *; omega)|(simp [In64] at *; omega)|(simp_all; done)|skip)
       refine qa (qm ?_)
       have hPt:=ptb_GT h hP
       have lh:=lat_hmo h hP
       have sp':=pre_sub hPt.2.2 G lh sp
       have sq':=pre_sub hPt.2.2 G lh sq
       obtain ⟨b,hbb⟩:=truth (∀ a c,a < n→c < n→ts SL i a=true→ts SL j c=true→op m n a c=op m n c a)
       have cD:=direct_ok hPt sp' sq' b (by
        rw [hbb,lat_len c3,lat_len d2,(hPt.2.2.meet_len sp' sq').2 fun i' hi' h1 h2=>by
         rw [← d3 _ (lat_at hi').1 h1 h2,(lat_at hi').2.2.2]]
        refine ⟨fun hc=>⟨d1,rfl,fun x y hx hy h1 h2=>?_⟩,fun hc a c ha hc' h1 h2=>?_⟩
        ·have e1:lat n P (op (ptb n (op m n) P) (thl n P).length x y)=lat n P (op (ptb n (op m n) P) (thl n P).length y x):=by
          rw [lh.mul x y hx hy,lh.mul y x hy hx]
          exact hc _ _ (lat_at hx).1 (lat_at hy).1 h1 h2
         rw [← (lat_at (hPt.2.2.cl _ _ hx hy)).2.2.2,e1,(lat_at (hPt.2.2.cl _ _ hy hx)).2.2.2]
        ·have pa:=pix_at ha (c3 a ha h1)
         have pc:=pix_at hc' (d2 c hc' h2)
         have h5:=hc.2.2 _ _ pa.1 pc.1 (show ts SL i (lat n P (pix P a))=true by rw [lat_pixI ha (c3 a ha h1)]; exact h1) (show ts SL j (lat n P (pix P c))=true by rw [lat_pixI hc' (d2 c hc' h2)]; exact h2)
         have h6:=congrArg (lat n P) h5
         rwa [lh.mul _ _ pa.1 pc.1,lh.mul _ _ pc.1 pa.1,lat_pixI ha (c3 a ha h1),lat_pixI hc' (d2 c hc' h2)] at h6)
       refine hk_draw2 mixed fun K hK=>runs2_eval tab_ok ?_
       simp only [evD,ev0,evA,evB,evP,fl,gp,tab,simprocAttr,reduceCtorEq,reduceIte]
       refine fin2_stop trivial (runs2_call (atc_c hb c3) rfl rfl rfl rfl (by simp only [dstOk,Nat.reduceLT]) (by repeat (first|exact trivial|constructor)) (runs2_eval tab_ok ?_))
       simp only [evD,ev0,evA,evB,evP,fl,gp,tab,simprocAttr,reduceCtorEq,reduceIte]
       refine fin2_stop trivial (runs2_call (atc_c hb d2) rfl rfl rfl rfl (by simp only [dstOk,Nat.reduceLT]) (by repeat (first|exact trivial|constructor)) (runs2_eval tab_ok ?_))
       simp only [evD,ev0,evA,evB,evP,fl,gp,tab,simprocAttr,reduceCtorEq,reduceIte]
       refine fin2_stop trivial (runs2_call (cD) rfl rfl rfl rfl (by simp only [dstOk,Nat.reduceLT]) (by repeat (first|exact trivial|constructor)) (runs2_eval tab_ok ?_))
       simp only [evD,ev0,evA,evB,evP,fl,gp,tab,simprocAttr,reduceCtorEq,reduceIte]
       refine fin2_run ?_ (hK _ _ (by first|kernel_rfl|rfl) ?_)<;>clear hK<;>clear K
       ·(first|exact trivial|omega|(simp only [In64] at *; omega)|(simp [In64] at *; omega)|(simp_all; done)|skip)
       refine qa (qm ?_)
       refine hk_region fun K hK=>runs_eval tab_ok ?_
       simp only [ev0,evA,evB,evP,fl,gp,tab,simprocAttr,reduceCtorEq,reduceIte]
       refine fin_run trivial (hK _ ?_)<;>clear hK<;>clear K
       refine qa ?_
       refine hk_cond rfl (fun hC5=>?_) (fun hC5=>?_)
       ·(try simp only [nhs] at hC5)
        have hg:gdp n (op m n) e P (ts SL i) (ts SL j):=⟨⟨c1,c2,c3,c4⟩,⟨d1,d2,d3⟩,hbb.1 (by simpa using hC5)⟩
        have hspl:=spl_some (k:=k) hlt hlj hj2 hg
        obtain ⟨_,_,_,z1,z2⟩:=gdp_dpt G hP sp sq hg
        have IA:=IH _ sp (by omega)
        have IB:=IH _ sq (by omega)
        have lA:=hlen _ sp (by omega)
        have lB:=hlen _ sq (by omega)
        rw [hspl]
        generalize spl n (op m n) e SL k (ts SL i)=RA at *
        generalize spl n (op m n) e SL k (ts SL j)=RB at *
        refine qm ?_
        refine hk_draw2 mixed fun K hK=>runs2_eval tab_ok ?_
        simp only [evD,ev0,evA,evB,evP,fl,gp,tab,simprocAttr,reduceCtorEq,reduceIte]
        refine fin2_stop ?_ (runs2_callG (IA) rfl rfl rfl (by simp only [dstOk,Nat.reduceLT]) (by repeat (first|exact trivial|constructor)) (runs2_eval tab_ok ?_))
        ·(first|exact trivial|omega|(simp only [In64] at *; omega)|(simp [In64] at *; omega)|(simp_all; done)|skip)
        simp only [evD,ev0,evA,evB,evP,fl,gp,tab,simprocAttr,reduceCtorEq,reduceIte]
        refine fin2_stop trivial (runs2_call (FnG_fnc (l:=ll RB) (by rw [ll_length]; exact IB) (ll_all _)) rfl rfl rfl rfl (by simp only [dstOk,Nat.reduceLT]) (by repeat (first|exact trivial|constructor)) (runs2_eval tab_ok ?_))
        simp only [evD,ev0,evA,evB,evP,fl,gp,tab,simprocAttr,reduceCtorEq,reduceIte]
        refine fin2_run ?_ (hK _ _ (by first|kernel_rfl|rfl) ?_)<;>clear hK<;>clear K
        ·have e1:(List.map AV.p (ll RB)).length=RB.length:=by rw [List.length_map,ll_length]
         exact ⟨oll_ok RB,by rw [ll_takeL]; exact oll_ok RA,Nat.le_refl _,by rw [e1]; omega,by rw [e1]; omega⟩
        refine qa (qk (qe (qb (qb (qe (qe (qb (qb (qe (qb ?_))))))))))
        simp only [Tryd.results120,PostG,endG,rvsA,rvA,mkTup,ev0,evA,evB,evP,fl,gp,tab,simprocAttr,reduceCtorEq,reduceIte]
        exact ⟨[4],by show AV.sl 4 0 _=AV.sl 4 0 _; rw [List.length_map,ll_length,List.length_append],rfl,by
         have e1:opl (ll RA)++List.map AV.p (ll RB)=opl (ll (RA++RB)):=by simp [opl,ll]
         simp only [leq,leA,ev0,evA,evB,evP,fl,gp,tab,simprocAttr,reduceCtorEq,reduceIte,ll_takeL,e1]<;>first|trivial|(rw [List.take_of_length_le (by rw [ll_length,List.length_append]; omega)]; done)|trace_state⟩
       ·(try simp only [nhs] at hC5)
        have hno:¬ gdp n (op m n) e P (ts SL i) (ts SL j):=fun hg=>by have h9:=hbb.2 hg.2.2; simp [h9] at hC5
        refine qh (qd (qa ?_))
        refine hk_region fun K hK=>runs_eval tab_ok ?_
        simp only [ev0,evA,evB,evP,fl,gp,tab,simprocAttr,reduceCtorEq,reduceIte]
        refine fin_run ?_ (hK _ ?_)<;>clear hK<;>clear K
        ·(first|exact trivial|omega|(simp only [In64] at *; omega)|(simp [In64] at *; omega)|(simp_all; done)|skip)
        refine qa ?_
        refine ⟨j + 1,[],⟨by omega,fun t ht=>?_⟩,by omega,?_⟩
        ·by_cases htj:t < i * SL.length + j
         ·exact hj2 t htj
         ·have e1:t=i * SL.length + j:=by omega
          rw [e1]
          exact gd_no hlj hno
        ·simp only [leq,leA,ev0,evA,evB,evP,fl,gp,tab,simprocAttr,reduceCtorEq,reduceIte]<;>first|trivial|omega|trace_state
    ·(try simp only [nhs] at hC3)
     have hje:j=SL.length:=by omega
     refine qj (qc (qc (qf (qd (qa ?_)))))
     refine hk_region fun K hK=>runs_eval tab_ok ?_
     simp only [ev0,evA,evB,evP,fl,gp,tab,simprocAttr,reduceCtorEq,reduceIte]
     refine fin_run ?_ (hK _ ?_)<;>clear hK<;>clear K
     ·(first|exact trivial|omega|(simp only [In64] at *; omega)|(simp [In64] at *; omega)|(simp_all; done)|skip)
     refine qa ?_
     refine ⟨i + 1,[],⟨by omega,fun t ht=>hj2 t (by rw [hje]; rw [Nat.add_mul,Nat.one_mul] at ht; exact ht)⟩,by omega,?_⟩
     simp only [leq,leA,ev0,evA,evB,evP,fl,gp,tab,simprocAttr,reduceCtorEq,reduceIte]<;>first|trivial|omega|trace_state
 ·(try simp only [nhs] at hC1)
  have hie:i=SL.length:=by omega
  rw [hie] at hi2
  rw [spl_none hi2]
  refine qj (qc (qc (qf (qa (qm ?_)))))
  refine hk_region fun K hK=>runs_at 1 ?_
  simp only [List.take_succ_cons,List.take_zero,List.drop_succ_cons,List.drop_zero]
  refine runs_eval tab_ok ?_
  simp only [ev0,evA,evB,evP,fl,gp,tab,simprocAttr,reduceCtorEq,reduceIte]
  refine fin_run trivial ?_
  refine runs_op (buildOwn_does (n:=1) (l:=[.list (il (thl n P))]) tab_ok rfl rfl rfl rfl rfl rfl rfl ⟨⟨rfl,rfl,rfl⟩,trivial⟩ rfl (by decide) rfl) rfl (show (110:Nat) < 111 by decide) (runs_eval tab_ok ?_)
  simp only [ev0,evA,evB,evP,fl,gp,tab,simprocAttr,reduceCtorEq,reduceIte]
  refine fin_run ?_ (hK _ ?_)<;>clear hK<;>clear K
  ·trivial
  refine qa (qk ?_)
  simp only [Tryd.results120,PostG,endG,rvsA,rvA,mkTup,ev0,evA,evB,evP,fl,gp,tab,simprocAttr,reduceCtorEq,reduceIte]
  all_goals (exact ⟨[0],rfl,rfl,by simp only [leq,leA,ev0,evA,evB,evP,fl,gp,tab,simprocAttr,reduceCtorEq,reduceIte]<;>first|trivial|trace_state⟩)
theorem spl_len (h:GT n m n e) (hn:n≤24) {SL:List Nat} (hS:AllS n (op m n) e SL) {k:Nat} {P:Nat→Bool} (hP:Sub n (op m n) e P) (hk:(thl n P).length≤k):(spl n (op m n) e SL k P).length≤24:=by
 have D:=spl_dec h.2.2 hS k P hP hk
 have lP:=thl_le n P
 by_cases h1:(thl n P).length=1
 ·rw [D.one_ h.2.2 hP h1]; simp
 ·have h2:=D.pow h.2.2 hP h1
  have h3:=Nat.lt_two_pow_self (n:=(spl n (op m n) e SL k P).length)
  omega
theorem parts_c (h:GT n m n e) (hn:n≤24) {SL:List Nat} (hS:AllS n (op m n) e SL):∀ (k:Nat) (P:Nat→Bool),Sub n (op m n) e P→(thl n P).length≤k →
  FnG Tryd.prog 120 [.list (il (thl n P)),.ptr [.list (ul SL)],.ptr [.int .i64 n,.list (il m)],fxp 120 [.ptr [.list (ul SL)],.ptr [.int .i64 n,.list (il m)]] k] (.sl 0 0 (spl n (op m n) e SL k P).length) [.own (opl (ll (spl n (op m n) e SL k P)))]
 | 0,P,hP,hk=>by have:=len_pos h.2.2 hP; omega
 | k + 1,P,hP,hk=>parts_step h hn hS k (fun Q hQ hq=>parts_c h hn hS k Q hQ hq) (fun Q hQ hq=>spl_len h hn hS hQ hq) hP hk

/-! ### Put in order -/
def cmpP (v w:List Int):Int:=if (v.length:Int)=w.length then cmpL v w else (v.length:Int) - w.length
theorem cmpP_iff {v w:List Int} : cmpP v w < 0↔v.length < w.length∨(v.length=w.length∧cmpL v w < 0):=by
 unfold cmpP
 split
 ·constructor
  ·intro h; exact .inr ⟨by omega,h⟩
  ·rintro (h | ⟨_,h⟩)
   ·omega
   ·exact h
 ·constructor
  ·intro h; exact .inl (by omega)
  ·rintro (h | ⟨h,_⟩)<;>omega
theorem cmpP_self (v:List Int):¬ cmpP v v < 0:=by
 rw [cmpP_iff,cmpL_self]; omega
theorem cmpP_trans {u v w:List Int} (h1:cmpP u v < 0) (h2:cmpP v w < 0):cmpP u w < 0:=by
 rw [cmpP_iff] at *
 rcases h1 with h1 | ⟨h1,h3⟩<;>rcases h2 with h2 | ⟨h2,h4⟩
 ·exact .inl (by omega)
 ·exact .inl (by omega)
 ·exact .inl (by omega)
 ·exact .inr ⟨by omega,cmpL_trans _ _ _ h3 h4⟩
theorem cmpP_ntrans {u v w:List Int} (h1:¬ cmpP u v < 0) (h2:¬ cmpP v w < 0):¬ cmpP u w < 0:=by
 rw [cmpP_iff] at *
 rintro (h | ⟨h,h'⟩)
 ·by_cases a:u.length < v.length
  ·exact h1 (.inl a)
  ·exact h2 (.inl (by omega))
 ·by_cases a:u.length < v.length
  ·exact h1 (.inl a)
  ·by_cases b:v.length < w.length
   ·exact h2 (.inl b)
   ·exact cmpL_ntrans u v w (fun h3=>h1 (.inr ⟨by omega,h3⟩)) (fun h3=>h2 (.inr ⟨by omega,h3⟩)) h'
theorem cmpP_tot {v w:List Int} (h1:¬ cmpP v w < 0) (h2:¬ cmpP w v < 0):v=w:=by
 rw [cmpP_iff] at *
 have hl:v.length=w.length:=by
  rcases Nat.lt_trichotomy v.length w.length with h | h | h
  ·exact absurd (.inl h) h1
  ·exact h
  ·exact absurd (.inl h) h2
 exact cmpL_tot v w (fun h=>h1 (.inr ⟨hl,h⟩)) (fun h=>h2 (.inr ⟨hl.symm,h⟩))
theorem spc_c (v w:List Int) (hv:v.length≤1000000) (hw:w.length≤1000000):FnC Tryd.prog 123 [.list (il v),.list (il w)] (.int .i64 (cmpP v w)):=by
 refine fnc_of tab_ok Tryd.func123 rfl (by kernel_rfl) (by rw [Tryd.ntmps123]; exact Nat.le_add_left 2 _) ?_; rw [Tryd.ntmps123]
 refine qm ?_
 refine hk_region fun K hK=>runs_eval tab_ok ?_
 simp only [ev0,evA,evB,evP,fl,gp,tab,simprocAttr,reduceCtorEq,reduceIte]
 refine fin_run trivial (hK _ ?_)<;>clear hK<;>clear K
 refine qa (qm (qm ?_))
 by_cases hl:((v.length:Nat):Int)=(w.length:Nat)
 ·refine hk_region fun K hK=>runs_eval tab_ok ?_
  simp only [ev0,evA,evB,evP,fl,gp,tab,simprocAttr,reduceCtorEq,reduceIte,il_length,decide_eq_true hl]
  refine fin_run trivial (hK _ ?_)<;>clear hK<;>clear K
  refine qa ?_
  refine hk_cond rfl (fun hC1=>?_) (fun hC1=>?_)
  ·cases hC1
  ·(try simp only [nhs] at hC1)
   refine qh (qa (qm ?_))
   refine hk_region fun K hK=>runs_eval tab_ok ?_
   simp only [ev0,evA,evB,evP,fl,gp,tab,simprocAttr,reduceCtorEq,reduceIte]
   refine fin_stop trivial (runs_call (compareL_c v w (by omega) (by omega)) rfl rfl rfl (by simp only [dstOk,Nat.reduceLT]) (by repeat (first|exact trivial|constructor)) (runs_eval tab_ok ?_))
   simp only [ev0,evA,evB,evP,fl,gp,tab,simprocAttr,reduceCtorEq,reduceIte]
   refine fin_run trivial (hK _ ?_)<;>clear hK<;>clear K
   refine qa (qk ?_)
   simp only [Tryd.results123,enA,ev0,evA,evB,evP,fl,gp,tab,simprocAttr,reduceCtorEq,reduceIte]
   all_goals (unfold cmpP; rw [if_pos hl])
 ·refine hk_region fun K hK=>runs_eval tab_ok ?_
  simp only [ev0,evA,evB,evP,fl,gp,tab,simprocAttr,reduceCtorEq,reduceIte,il_length,decide_eq_false hl]
  refine fin_run trivial (hK _ ?_)<;>clear hK<;>clear K
  refine qa ?_
  refine hk_cond rfl (fun hC1=>?_) (fun hC1=>?_)
  ·(try simp only [nhs] at hC1)
   refine qm ?_
   refine hk_region fun K hK=>runs_eval tab_ok ?_
   simp only [ev0,evA,evB,evP,fl,gp,tab,simprocAttr,reduceCtorEq,reduceIte,il_length]
   refine fin_run ?_ (hK _ ?_)<;>clear hK<;>clear K
   ·(first|exact trivial|omega|(simp only [In64] at *; omega)|(simp [In64] at *; omega)|(simp_all; done)|skip)
   refine qa (qk (qb ?_))
   simp only [Tryd.results123,enA,ev0,evA,evB,evP,fl,gp,tab,simprocAttr,reduceCtorEq,reduceIte]
   all_goals (unfold cmpP; rw [if_neg hl])
  ·cases hC1
def cfP:PV→PV→Int
 | .list a,.list b=>cmpP (a.map pvi) (b.map pvi)
 | _,_=>0
theorem cfP_il (v w:List Int):cfP (.list (il v)) (.list (il w))=cmpP v w:=by
 show cmpP ((il v).map pvi) ((il w).map pvi)=_
 rw [pvi_il,pvi_il]
def srtP (xs:List (List Int)):List (List Int):=xs.mergeSort fun v w=>decide (¬ cmpP w v < 0)
theorem srtP_perm (xs:List (List Int)):xs.Perm (srtP xs):=(List.mergeSort_perm xs _).symm
theorem srtP_sorted (xs:List (List Int)):(srtP xs).Pairwise fun v w=>¬ cmpP w v < 0:=by
 have:=List.pairwise_mergeSort (le:=fun v w=>decide (¬ cmpP w v < 0)) (fun a b c h1 h2=>by
  simp only [decide_eq_true_eq] at *
  exact cmpP_ntrans h2 h1) (fun a b=>by
  simp only [Bool.or_eq_true,decide_eq_true_eq]
  by_cases h:cmpP b a < 0
  ·right; intro h2
   exact cmpP_self _ (cmpP_trans h h2)
  ·exact .inl h) xs
 exact this.imp fun h=>by simpa using h
theorem sortP_c {xs:List (List Int)} (hne:xs ≠ []) (hl:xs.length≤1000000) (hr:∀ v∈xs,v.length≤1000000) :
  FnM Tryd.prog 81 [.sl 0 0 (ll xs).length,.p (.fn 123 [])] [.own (opl (ll xs))] (.p (.tup [])) [.own (opl (ll (srtP xs)))]:=
 sort_m Go.Proofs.Tryd.sortL (ll xs) (ll (srtP xs)) cfP (fun h=>hne (by cases xs with
   | nil=>rfl
   | cons a r=>cases h)) (fun x hx=>by obtain ⟨v,_,rfl⟩:=mem_ll hx; rfl)
  (fun x hx=>by obtain ⟨v,_,rfl⟩:=mem_ll hx; rw [cfP_il]; exact cmpP_self v)
  (fun x hx y hy z hz h1 h2=>by
   obtain ⟨u,_,rfl⟩:=mem_ll hx; obtain ⟨v,_,rfl⟩:=mem_ll hy; obtain ⟨w,_,rfl⟩:=mem_ll hz
   rw [cfP_il] at *; exact cmpP_trans h1 h2)
  (fun x hx y hy z hz h1 h2=>by
   obtain ⟨u,_,rfl⟩:=mem_ll hx; obtain ⟨v,_,rfl⟩:=mem_ll hy; obtain ⟨w,_,rfl⟩:=mem_ll hz
   rw [cfP_il] at *; exact cmpP_ntrans h1 h2)
  (fun x hx y hy h1 h2=>by
   obtain ⟨u,_,rfl⟩:=mem_ll hx; obtain ⟨v,_,rfl⟩:=mem_ll hy
   rw [cfP_il] at *; rw [cmpP_tot h1 h2])
  (fun x hx y hy=>by
   obtain ⟨u,hu,rfl⟩:=mem_ll hx; obtain ⟨v,hv,rfl⟩:=mem_ll hy
   rw [cfP_il]; exact spc_c u v (hr u hu) (hr v hv))
  ((srtP_perm xs).map _) (by
   unfold ll
   rw [List.pairwise_map]
   exact (srtP_sorted xs).imp fun {x y} hxy h2=>hxy (by rwa [cfP_il] at h2)) (by rw [ll_length]; omega)

set_option maxRecDepth 20000 in
set_option maxHeartbeats 8000000 in
theorem split_ok (h:GT n m n e) (hn:n≤24) {SL:List Nat} (hS:AllS n (op m n) e SL) (hm:m.length≤1000000000000000):FnC Tryd.prog 69 [gp n m] (.tup [.list (ll (srtP (spl n (op m n) e SL n fun _=>true))),fl (0,0)]):=by
 have hgf:=gf_of h
 have hb:=check_c n m hm
 rw [hgf] at hb
 have G:=h.2.2
 have hb60:=h.2.1.big
 have hSl:=hS.len hn
 have hpos:=hS.pos G
 have hlast:=hS.last G hb60
 have hstl:=stl_bo hb60 fun _=>true
 have hall:Sub n (op m n) e fun _=>true:=⟨rfl,fun _ _ _ _ _ _=>rfl,fun _ _ _=>rfl⟩
 have hal:=thl_le n fun _=>true
 have hPc:=parts_c h hn hS n (fun _=>true) hall hal
 have hlen:=spl_len h hn hS hall hal
 have D:=spl_dec G hS n _ hall hal
 have hlp:=D.pos
 have hrow:∀ v∈spl n (op m n) e SL n fun _=>true,v.length≤60:=fun v hv=>by
  obtain ⟨p,rfl,_⟩:=D.mem G hall v hv
  have:=thl_le n p
  omega
 have hl1:((SL.length:Nat):Int) - 1=((SL.length - 1:Nat):Int):=by omega
 have hone:=ll_length (srtP (spl n (op m n) e SL n fun _=>true))
 have hsl:=(srtP_perm (spl n (op m n) e SL n fun _=>true)).length_eq
 generalize spl n (op m n) e SL n (fun _=>true)=R at *
 refine fnc_of tab_ok Tryd.func69 rfl (by kernel_rfl) (by rw [Tryd.ntmps69]; exact Nat.le_add_left 1 _) ?_; rw [Tryd.ntmps69]
 refine qm ?_
 refine hk_region fun K hK=>runs_eval tab_ok ?_
 simp only [ev0,evA,evB,evP,fl,gp,tab,simprocAttr,reduceCtorEq,reduceIte]
 refine fin_run ?_ (hK _ ?_)<;>clear hK<;>clear K
 ·(first|exact trivial|omega|(simp only [In64] at *; omega)|(simp [In64] at *; omega)|(simp_all; done)|skip)
 refine qa (qm (qm ?_))
 refine hk_region fun K hK=>runs_eval tab_ok ?_
 simp only [ev0,evA,evB,evP,fl,gp,tab,simprocAttr,reduceCtorEq,reduceIte]
 refine fin_stop trivial (runs_call (hb) rfl rfl rfl (by simp only [dstOk,Nat.reduceLT]) (by repeat (first|exact trivial|constructor)) (runs_eval tab_ok ?_))
 simp only [ev0,evA,evB,evP,fl,gp,tab,simprocAttr,reduceCtorEq,reduceIte]
 refine fin_run ?_ (hK _ ?_)<;>clear hK<;>clear K
 ·(first|exact trivial|omega|(simp only [In64] at *; omega)|(simp [In64] at *; omega)|(simp_all; done)|skip)
 refine qa (qm ?_)
 refine hk_region fun K hK=>runs_eval tab_ok ?_
 simp only [ev0,evA,evB,evP,fl,gp,tab,simprocAttr,reduceCtorEq,reduceIte]
 refine fin_run ?_ (hK _ ?_)<;>clear hK<;>clear K
 ·(first|exact trivial|omega|(simp only [In64] at *; omega)|(simp [In64] at *; omega)|(simp_all; done)|skip)
 refine qa ?_
 refine hk_cond rfl (fun hC1=>?_) (fun hC1=>?_)
 ·(try simp only [nhs] at hC1)
  simp at hC1
 ·(try simp only [nhs] at hC1)
  refine qh (qa (qm (qm ?_)))
  refine hk_region fun K hK=>runs_eval tab_ok ?_
  simp only [ev0,evA,evB,evP,fl,gp,tab,simprocAttr,reduceCtorEq,reduceIte]
  refine fin_run ?_ (hK _ ?_)<;>clear hK<;>clear K
  ·(first|exact trivial|omega|(simp only [In64] at *; omega)|(simp [In64] at *; omega)|(simp_all; done)|skip)
  refine qa ?_
  refine hk_cond rfl (fun hC2=>?_) (fun hC2=>?_)
  ·(try simp only [nhs] at hC2)
   omega
  ·(try simp only [nhs] at hC2)
   refine qh (qa (qm ?_))
   refine hk_region fun K hK=>runs_eval tab_ok ?_
   simp only [ev0,evA,evB,evP,fl,gp,tab,simprocAttr,reduceCtorEq,reduceIte]
   refine fin_stop trivial (runs_call (allOf_c h hn hS) rfl rfl rfl (by simp only [dstOk,Nat.reduceLT]) (by repeat (first|exact trivial|constructor)) (runs_eval tab_ok ?_))
   simp only [ev0,evA,evB,evP,fl,gp,tab,simprocAttr,reduceCtorEq,reduceIte]
   refine fin_run ?_ (hK _ ?_)<;>clear hK<;>clear K
   ·(first|exact trivial|omega|(simp only [In64] at *; omega)|(simp [In64] at *; omega)|(simp_all; done)|skip)
   refine qa (qm ?_)
   refine hk_region fun K hK=>runs_eval tab_ok ?_
   simp only [ev0,evA,evB,evP,fl,gp,tab,simprocAttr,reduceCtorEq,reduceIte]
   refine fin_run ?_ (hK _ ?_)<;>clear hK<;>clear K
   ·(first|exact trivial|omega|(simp only [In64] at *; omega)|(simp [In64] at *; omega)|(simp_all; done)|skip)
   refine qa (qm ?_)
   refine hk_freeze 0 rfl rfl ?_
   refine hk_freeze 3 rfl rfl ?_
   refine hk_pure 1 rfl (Nat.zero_le _) ?_
   refine hk_pure 5 rfl (Nat.zero_le _) ?_
   simp only [hset,List.drop_zero]
   refine hk_region fun K hK=>runs_eval tab_ok ?_
   simp only [ev0,evA,evB,evP,fl,gp,tab,simprocAttr,reduceCtorEq,reduceIte]
   refine fin_stop ?_ (runs_op (makeCl_does rfl rfl) rfl (by simp only [dstOk,Nat.reduceLT]) (runs_eval tab_ok ?_))
   ·(first|exact trivial|omega|(simp only [In64] at *; omega)|(simp [In64] at *; omega)|(simp_all; done)|skip)
   simp only [ev0,evA,evB,evP,fl,gp,tab,simprocAttr,reduceCtorEq,reduceIte]
   refine fin_run ?_ (hK _ ?_)<;>clear hK<;>clear K
   ·(first|exact trivial|omega|(simp only [In64] at *; omega)|(simp [In64] at *; omega)|(simp_all; done)|skip)
   refine qa (qm ?_)
   refine hk_fix 4 n (caps:=[.ptr [.list (ul SL)],.ptr [.int .i64 n,.list (il m)]]) rfl ?_
   simp only [hset,List.cons_append,List.nil_append]
   refine hk_draw2 mixed fun K hK=>runs2_eval tab_ok ?_
   simp only [evD,ev0,evA,evB,evP,fl,gp,tab,simprocAttr,reduceCtorEq,reduceIte,ul_length,hl1,ul_get (show SL.length - 1 < SL.length by omega),hlast]
   refine fin2_stop ?_ (runs2_call (list_s (bo n fun _=>true) (bo_lt64 hb60 _)) rfl rfl rfl rfl (by simp only [dstOk,Nat.reduceLT]) (by repeat (first|exact trivial|constructor)) (runs2_eval tab_ok ?_))
   ·(first|exact trivial|omega|(simp only [In64] at *; omega)|(simp [In64] at *; omega)|(simp_all; done)|skip)
   simp only [evD,ev0,evA,evB,evP,fl,gp,tab,simprocAttr,reduceCtorEq,reduceIte,hstl,ul_length,hl1,ul_get (show SL.length - 1 < SL.length by omega),hlast]
   refine fin2_stop ?_ (runs2_callG (hPc) rfl rfl rfl (by simp only [dstOk,Nat.reduceLT]) (by repeat (first|exact trivial|constructor)) (runs2_eval tab_ok ?_))
   ·(first|exact trivial|omega|(simp only [In64] at *; omega)|(simp [In64] at *; omega)|(simp_all; done)|skip)
   simp only [evD,ev0,evA,evB,evP,fl,gp,tab,simprocAttr,reduceCtorEq,reduceIte,ul_length,hl1,ul_get (show SL.length - 1 < SL.length by omega),hlast]
   refine fin2_run ?_ (hK _ _ (by first|kernel_rfl|rfl) ?_)<;>clear hK<;>clear K
   ·(first|exact trivial|omega|(simp only [In64] at *; omega)|(simp [In64] at *; omega)|(simp_all; done)|skip)
   refine qa (qm ?_)
   refine hk_region fun K hK=>runs_eval tab_ok ?_
   simp only [ev0,evA,evB,evP,fl,gp,tab,simprocAttr,reduceCtorEq,reduceIte]
   refine fin_stop ?_ (runs_callM [5] (sortP_c (xs:=R) (by intro h0; rw [h0] at hlp; simp at hlp) (by omega) (fun v hv=>by have:=hrow v hv; omega)) rfl rfl ?_ (by simp only [leA,ev0,evA,evB,evP,fl,gp,tab,simprocAttr,reduceCtorEq,reduceIte]; first|trivial|(simp only [ll_takeL]; first|trivial|(repeat constructor; done))|(repeat constructor)) (by decide) (by first|rfl|(simp only [List.length_cons,List.length_nil,List.length_append]; decide)) (by first|rfl|(simp only [scM,opl_sc,List.all_cons,List.all_nil,List.length_cons,List.length_nil]; first|rfl|decide)|(simp [scM,scA,sc1,mpKeep,notAnc]; done)) (by simp only [dstOk,Nat.reduceLT]) (runs_eval tab_ok ?_))
   ·(first|exact trivial|omega|(simp only [In64] at *; omega)|(simp [In64] at *; omega)|(simp_all; done)|skip)
   ·(simp only [argsM,argM1,peekG,peekS,scA,sc1,ren,ren1,List.map_cons,List.map_nil,List.append_nil,List.cons_append,List.nil_append,enA,ev0,evA,evB,evP,fl,gp,tab,simprocAttr,reduceCtorEq,reduceIte]; try trivial)
   simp only [putM,hset,List.range',Blk.ren,ren,ren1,List.map_cons,List.map_nil,List.cons_append,List.nil_append,List.append_nil,List.length_cons,List.length_nil,ev0,evA,evB,evP,fl,gp,tab,simprocAttr,reduceCtorEq,reduceIte]
   refine fin_run trivial (hK _ ?_)<;>clear hK<;>clear K
   refine qa (qm ?_)
   refine hk_region fun K hK=>runs_eval tab_ok ?_
   simp only [ev0,evA,evB,evP,fl,gp,tab,simprocAttr,reduceCtorEq,reduceIte]
   refine fin_run ?_ (hK _ ?_)<;>clear hK<;>clear K
   ·(first|exact trivial|omega|(simp only [In64] at *; omega)|(simp [In64] at *; omega)|(simp_all; done)|skip)
   refine qa (qk ?_)
   simp only [Tryd.results69,enA,ev0,evA,evB,evP,fl,gp,tab,simprocAttr,reduceCtorEq,reduceIte]
   have e1:List.take R.length (ll (srtP R))=ll (srtP R):=List.take_of_length_le (by rw [ll_length]; omega)
   rw [e1]
   exact ⟨⟨by omega,ll_all _⟩,rfl⟩
end
end Go.Proofs.YtboadfahlflmhaaDoor

/-
  Walks: together. Conditions: none.
-/
set_option linter.all false
namespace Go.Proofs.YtboadfahlflmhaaDoor
open Go.Pv

theorem hownG_c (w:List Int) (hl:w.length≤1000000000):FnG Tryd.prog 83 [.list (il w)] (.sl 0 0 w.length) [.own (opl (il w))]:=by
 refine fng_of tab_ok Tryd.func83 rfl (by kernel_rfl) (by rw [Tryd.ntmps83]; exact Nat.le_add_left 1 _) ?_; rw [Tryd.ntmps83]
 refine qm ?_
 refine hk_region fun K hK=>runs_eval tab_ok ?_
 simp only [ev0,evA,evB,evP,fl,gp,tab,simprocAttr,reduceCtorEq,reduceIte]
 refine fin_run trivial (hK _ ?_)<;>clear hK<;>clear K
 refine qa (qm ?_)
 refine hk_region fun K hK=>runs_eval tab_ok ?_
 simp only [ev0,evA,evB,evP,fl,gp,tab,simprocAttr,reduceCtorEq,reduceIte]
 refine fin_run ?_ (hK _ ?_)<;>clear hK<;>clear K
 ·(first|exact trivial|omega|(simp only [In64] at *; omega)|(simp [In64] at *; omega)|(simp_all; done)|skip)
 refine qa (qk ?_)
 simp only [Tryd.results83,PostG,endG,rvsA,rvA,mkTup,ev0,evA,evB,evP,fl,gp,tab,simprocAttr,reduceCtorEq,reduceIte]
 all_goals (exact ⟨[0],rfl,rfl,by simp only [leq,leA,ev0,evA,evB,evP,fl,gp,tab,simprocAttr,reduceCtorEq,reduceIte]<;>first|trivial|omega⟩)
theorem hoil_ok (w:List Int):(opl (il w)).all cellOk=true:=opl_ok (il_all w)

set_option maxHeartbeats 4000000 in
theorem together_c {n e:Nat} {m:List Int} (h:GT n m n e) {p q:Nat→Bool} (hp:Sub n (op m n) e p) (hq:Sub n (op m n) e q) (b:Bool) (hbs:b=true↔(mem n p).length * (mem n q).length=n∧(mem n fun x=>p x && q x).length=1∧Cmm n (op m n) p q):FnC Tryd.prog 71 [gp n m,.list (il (thl n p)),.list (il (thl n q))] (.bool b):=by
 have G:=h.2.2
 have hb:=h.2.1.big
 have lp:=thl_le n p
 have lq:=thl_le n q
 have lm:=thl_le n fun x=>p x && q x
 have em:(mem n fun x=>p x && q x).length=(thl n fun x=>p x && q x).length:=(thl_len n _).symm
 rw [em] at hbs
 obtain ⟨Q,hQ⟩:=gen_ex n (op m n) e (fun a=>p a || q a)
 have hsp:∀ a,a < n→(Q a=true↔Gen n (op m n) e (tst (thl n p++thl n q)) a):=fun a ha=>by
  rw [hQ a ha]
  have key:∀ c,c < n→tst (thl n p++thl n q) c=(p c || q c):=fun c hc=>by
   unfold tst
   rw [Bool.eq_iff_iff,decide_eq_true_eq,List.mem_append,mem_thl_n hc,mem_thl_n hc,Bool.or_eq_true]
  exact ⟨fun h1=>Gen.mono (fun c hc h2=>by rw [key c hc]; exact h2) h1,fun h1=>Gen.mono (fun c hc h2=>by rw [key c hc] at h2; exact h2) h1⟩
 have hrn:∀ x∈thl n p++thl n q,∃ a,a < n∧x=((a:Nat):Int):=fun x hx=>by
  rw [List.mem_append] at hx
  rcases hx with hx | hx
  ·obtain ⟨a,a1,_,a3⟩:=mem_thl.1 hx; exact ⟨a,a1,a3⟩
  ·obtain ⟨a,a1,_,a3⟩:=mem_thl.1 hx; exact ⟨a,a1,a3⟩
 have hll:(thl n p++thl n q).length=(thl n p).length + (thl n q).length:=List.length_append
 have lQ:=thl_le n Q
 have eQ:(mem n Q).length=(thl n Q).length:=(thl_len n Q).symm
 have hlen:Cmm n (op m n) p q→(thl n fun x=>p x && q x).length=1→(thl n Q).length=(mem n p).length * (mem n q).length:=fun h1 h2=>by
  rw [← eQ]
  exact G.dir_len hp hq h1 (by rw [em]; exact h2) hQ
 refine fnc_of tab_ok Tryd.func71 rfl (by kernel_rfl) (by rw [Tryd.ntmps71]; exact Nat.le_add_left 3 _) ?_; rw [Tryd.ntmps71]
 refine qm ?_
 refine hk_region fun K hK=>runs_eval tab_ok ?_
 simp only [ev0,evA,evB,evP,fl,gp,tab,simprocAttr,reduceCtorEq,reduceIte]
 refine fin_run ?_ (hK _ ?_)<;>clear hK<;>clear K
 ·(first|exact trivial|omega|(simp only [In64] at *; omega)|(simp [In64] at *; omega)|(simp_all; done)|skip)
 refine qa (qm (qm ?_))
 by_cases k1:(thl n fun x=>p x && q x).length=1
 ·refine hk_draw2 mixed fun K hK=>runs2_eval tab_ok ?_
  simp only [evD,ev0,evA,evB,evP,fl,gp,tab,simprocAttr,reduceCtorEq,reduceIte,il_length,bth_thl,ol_opl,hoil_ok,decide_eq_true (show ((thl n fun x=>p x && q x).length:Int)=1 by omega)]
  refine fin2_stop trivial (runs2_call (both_c (thl n p) (thl n q) (by omega) (by omega)) rfl rfl rfl rfl (by simp only [dstOk,Nat.reduceLT]) (by repeat (first|exact trivial|constructor)) (runs2_eval tab_ok ?_))
  simp only [evD,ev0,evA,evB,evP,fl,gp,tab,simprocAttr,reduceCtorEq,reduceIte,il_length,bth_thl,ol_opl,hoil_ok,decide_eq_true (show ((thl n fun x=>p x && q x).length:Int)=1 by omega)]
  refine fin2_stop ?_ (runs2_callG (hownG_c (thl n p) (by omega)) rfl rfl rfl (by simp only [dstOk,Nat.reduceLT]) (by repeat (first|exact trivial|constructor)) (runs2_eval tab_ok ?_))
  ·(first|exact trivial|omega|(simp only [In64] at *; omega)|(simp [In64] at *; omega)|(simp_all; done)|skip)
  simp only [evD,ev0,evA,evB,evP,fl,gp,tab,simprocAttr,reduceCtorEq,reduceIte,il_length,bth_thl,ol_opl,hoil_ok,decide_eq_true (show ((thl n fun x=>p x && q x).length:Int)=1 by omega)]
  refine fin2_stop ?_ (runs2_callK 2 (span_c h (thl n p++thl n q) (by omega) hrn Q hsp) rfl rfl (by first|exact ol_allP _|exact opl_allP _|(simp only [List.drop_zero,il_append,il_take,take_app2,ol_opl,il_length]; exact opl_allP _)) (by simp only [callA,List.map_cons,List.map_nil,enA,ev0,evA,evB,evP,fl,gp,tab,simprocAttr,reduceCtorEq,reduceIte,List.drop_zero,il_append,il_take,take_app2,ol_opl,il_length,il_all,List.take_replicate,Nat.min_self]; rfl) rfl (by simp only [dstOk,Nat.reduceLT]) (by repeat (first|exact trivial|(simp [il_length,List.length_append]; done)|constructor)) (runs2_eval tab_ok ?_))
  ·(first|exact trivial|omega|(simp only [In64] at *; omega)|(simp [In64] at *; omega)|(simp_all; done)|skip)
  simp only [evD,ev0,evA,evB,evP,fl,gp,tab,simprocAttr,reduceCtorEq,reduceIte,il_length,bth_thl,ol_opl,hoil_ok,decide_eq_true (show ((thl n fun x=>p x && q x).length:Int)=1 by omega)]
  refine fin2_run ?_ (hK _ _ (by first|kernel_rfl|rfl) ?_)<;>clear hK<;>clear K
  ·(first|exact trivial|omega|(simp only [In64] at *; omega)|(simp [In64] at *; omega)|(simp_all; done)|skip)
  refine qa ?_
  refine hk_cond rfl (fun hC1=>?_) (fun hC1=>?_)
  ·(try simp only [nhs] at hC1)
   refine qm ?_
   refine hk_region fun K hK=>runs_eval tab_ok ?_
   simp only [ev0,evA,evB,evP,fl,gp,tab,simprocAttr,reduceCtorEq,reduceIte]
   refine fin_run trivial (hK _ ?_)<;>clear hK<;>clear K
   refine qa (qk (qb ?_))
   simp only [Tryd.results71,enA,ev0,evA,evB,evP,fl,gp,tab,simprocAttr,reduceCtorEq,reduceIte]
   have hbf:b=false:=by
    cases b with
    | false=>rfl
    | true =>
     have:=hbs.1 rfl
     have h2:=hlen this.2.2 k1
     omega
   rw [hbf]
  ·(try simp only [nhs] at hC1)
   refine qh (qa (qm (qm ?_)))
   refine hk_region fun K hK=>runs_eval tab_ok ?_
   simp only [ev0,evA,evB,evP,fl,gp,tab,simprocAttr,reduceCtorEq,reduceIte]
   refine fin_run trivial (hK _ ?_)<;>clear hK<;>clear K
   refine qa (ql ?_)
   refine hk_loop (ι:=Nat) (fun i=>⟨59,[(1,.p (.list (il (thl n p)))),(2,.p (.list (il (thl n q)))),(3,.ptr 0 0),(7,.p (.int .i64 i))],[.own [.p (.int .i64 n),.p (.list (il m))]]⟩) (fun i=>i≤(thl n p).length∧∀ a b k,a < n→b < n→k < i→(thl n p).getD k 0=(a:Int)→q b=true→op m n a b=op m n b a) (fun i=>(thl n p).length - i) 0 ⟨Nat.zero_le _,fun a b k _ _ hk=>by omega⟩ [0] (by simp only [leq,leA,ev0,evA,evB,evP,fl,gp,tab,simprocAttr,reduceCtorEq,reduceIte]<;>trivial) fun i hi=>?_
   obtain ⟨hi1,hi2⟩:=hi
   refine qm (qm ?_)
   refine hk_region fun K hK=>runs_eval tab_ok ?_
   simp only [ev0,evA,evB,evP,fl,gp,tab,simprocAttr,reduceCtorEq,reduceIte,il_length]
   refine fin_run trivial (hK _ ?_)<;>clear hK<;>clear K
   refine qa ?_
   refine hk_cond rfl (fun hC2=>?_) (fun hC2=>?_)
   ·(try simp only [nhs] at hC2)
    have hlt:i < (thl n p).length:=by omega
    obtain ⟨x,x1,x2,x3⟩:=thl_get hlt
    refine qh (qa (qm (ql (qm ?_))))
    refine hk_region fun K hK=>runs_eval tab_ok ?_
    simp only [ev0,evA,evB,evP,fl,gp,tab,simprocAttr,reduceCtorEq,reduceIte]
    refine fin_run trivial (hK _ ?_)<;>clear hK<;>clear K
    refine qa (ql ?_)
    refine hk_loop (ι:=Nat) (fun j=>⟨59,[(1,.p (.list (il (thl n p)))),(2,.p (.list (il (thl n q)))),(3,.ptr 0 0),(7,.p (.int .i64 i)),(8,.p (.int .i64 j))],[.own [.p (.int .i64 n),.p (.list (il m))]]⟩) (fun j=>j≤(thl n q).length∧∀ b k,b < n→k < j→(thl n q).getD k 0=(b:Int)→op m n x b=op m n b x) (fun j=>(thl n q).length - j) 0 ⟨Nat.zero_le _,fun b k _ hk=>by omega⟩ [0] (by simp only [leq,leA,ev0,evA,evB,evP,fl,gp,tab,simprocAttr,reduceCtorEq,reduceIte]<;>trivial) fun j hj=>?_
    obtain ⟨hj1,hj2⟩:=hj
    refine qm (qm ?_)
    refine hk_region fun K hK=>runs_eval tab_ok ?_
    simp only [ev0,evA,evB,evP,fl,gp,tab,simprocAttr,reduceCtorEq,reduceIte,il_length]
    refine fin_run trivial (hK _ ?_)<;>clear hK<;>clear K
    refine qa ?_
    refine hk_cond rfl (fun hC3=>?_) (fun hC3=>?_)
    ·(try simp only [nhs] at hC3)
     have hjl:j < (thl n q).length:=by omega
     obtain ⟨y,y1,y2,y3⟩:=thl_get hjl
     refine qh (qa (qm (ql (qm ?_))))
     refine hk_draw mixed (by kernel_rfl) fun K hK=>runs_eval tab_ok ?_
     simp only [ev0,evA,evB,evP,fl,gp,tab,simprocAttr,reduceCtorEq,reduceIte,il_length,il_get hlt,x3,il_get hjl,y3]
     refine fin_stop ?_ (runs_call (m_c h.2.1 x1 y1) rfl rfl rfl (by simp only [dstOk,Nat.reduceLT]) (by repeat (first|exact trivial|constructor)) (runs_eval tab_ok ?_))
     ·(first|exact trivial|omega|(simp only [In64] at *; omega)|(simp [In64] at *; omega)|(simp_all; done)|skip)
     simp only [ev0,evA,evB,evP,fl,gp,tab,simprocAttr,reduceCtorEq,reduceIte,il_length,il_get hlt,x3,il_get hjl,y3]
     refine fin_stop ?_ (runs_call (m_c h.2.1 y1 x1) rfl rfl rfl (by simp only [dstOk,Nat.reduceLT]) (by repeat (first|exact trivial|constructor)) (runs_eval tab_ok ?_))
     ·(first|exact trivial|omega|(simp only [In64] at *; omega)|(simp [In64] at *; omega)|(simp_all; done)|skip)
     simp only [ev0,evA,evB,evP,fl,gp,tab,simprocAttr,reduceCtorEq,reduceIte,il_length,il_get hlt,x3,il_get hjl,y3]
     refine fin_run ?_ (hK _ ?_)<;>clear hK<;>clear K
     ·(first|exact trivial|omega|(simp only [In64] at *; omega)|(simp [In64] at *; omega)|(simp_all; done)|skip)
     refine qa ?_
     refine hk_cond rfl (fun hC4=>?_) (fun hC4=>?_)
     ·(try simp only [nhs] at hC4)
      refine qm ?_
      refine hk_region fun K hK=>runs_eval tab_ok ?_
      simp only [ev0,evA,evB,evP,fl,gp,tab,simprocAttr,reduceCtorEq,reduceIte]
      refine fin_run trivial (hK _ ?_)<;>clear hK<;>clear K
      refine qa (qk (qe (qb (qb (qe (qe (qb (qb (qe (qb ?_))))))))))
      simp only [Tryd.results71,enA,ev0,evA,evB,evP,fl,gp,tab,simprocAttr,reduceCtorEq,reduceIte]
      have hbf:b=false:=by
       cases b with
       | false=>rfl
       | true =>
        have:=(hbs.1 rfl).2.2 x y x1 y1 x2 y2
        omega
      rw [hbf]
     ·(try simp only [nhs] at hC4)
      refine qh (qd (qa ?_))
      refine hk_region fun K hK=>runs_eval tab_ok ?_
      simp only [ev0,evA,evB,evP,fl,gp,tab,simprocAttr,reduceCtorEq,reduceIte]
      refine fin_run ?_ (hK _ ?_)<;>clear hK<;>clear K
      ·(first|exact trivial|omega|(simp only [In64] at *; omega)|(simp [In64] at *; omega)|(simp_all; done)|skip)
      refine qa ?_
      refine ⟨j + 1,[0],⟨by omega,fun b k hb' hk hg=>?_⟩,by omega,?_⟩
      ·by_cases hkj:k=j
       ·rw [hkj,y3] at hg
        obtain rfl:y=b:=by omega
        omega
       ·exact hj2 b k hb' (by omega) hg
      ·simp only [leq,leA,ev0,evA,evB,evP,fl,gp,tab,simprocAttr,reduceCtorEq,reduceIte]<;>first|trivial|omega
    ·(try simp only [nhs] at hC3)
     refine qj (qc (qc (qf (qd (qa ?_)))))
     refine hk_region fun K hK=>runs_eval tab_ok ?_
     simp only [ev0,evA,evB,evP,fl,gp,tab,simprocAttr,reduceCtorEq,reduceIte]
     refine fin_run ?_ (hK _ ?_)<;>clear hK<;>clear K
     ·(first|exact trivial|omega|(simp only [In64] at *; omega)|(simp [In64] at *; omega)|(simp_all; done)|skip)
     refine qa ?_
     refine ⟨i + 1,[0],⟨by omega,fun a b k ha hb' hk hg hqb=>?_⟩,by omega,?_⟩
     ·by_cases hki:k=i
      ·rw [hki,x3] at hg
       obtain rfl:x=a:=by omega
       obtain ⟨j',j1,j2⟩:=thl_at hb' hqb
       exact hj2 b j' hb' (by omega) j2
      ·exact hi2 a b k ha hb' (by omega) hg hqb
     ·simp only [leq,leA,ev0,evA,evB,evP,fl,gp,tab,simprocAttr,reduceCtorEq,reduceIte]<;>first|trivial|omega
   ·(try simp only [nhs] at hC2)
    refine qj (qc (qc (qf (qa (qm ?_)))))
    refine hk_region fun K hK=>runs_eval tab_ok ?_
    simp only [ev0,evA,evB,evP,fl,gp,tab,simprocAttr,reduceCtorEq,reduceIte]
    refine fin_run trivial (hK _ ?_)<;>clear hK<;>clear K
    refine qa (qk ?_)
    simp only [Tryd.results71,enA,ev0,evA,evB,evP,fl,gp,tab,simprocAttr,reduceCtorEq,reduceIte]
    have hcm:Cmm n (op m n) p q:=fun a c ha hc h1 h2=>by
     obtain ⟨i',i1,i2⟩:=thl_at ha h1
     exact hi2 a c i' ha hc (by omega) i2 h2
    have h2:=hlen hcm k1
    have hbt:b=true:=hbs.2 ⟨by omega,k1,hcm⟩
    rw [hbt]
 ·refine hk_draw2 mixed fun K hK=>runs2_eval tab_ok ?_
  simp only [evD,ev0,evA,evB,evP,fl,gp,tab,simprocAttr,reduceCtorEq,reduceIte,il_length,bth_thl,decide_eq_false (show ¬ ((thl n fun x=>p x && q x).length:Int)=1 by omega)]
  refine fin2_stop trivial (runs2_call (both_c (thl n p) (thl n q) (by omega) (by omega)) rfl rfl rfl rfl (by simp only [dstOk,Nat.reduceLT]) (by repeat (first|exact trivial|constructor)) (runs2_eval tab_ok ?_))
  simp only [evD,ev0,evA,evB,evP,fl,gp,tab,simprocAttr,reduceCtorEq,reduceIte,il_length,bth_thl,decide_eq_false (show ¬ ((thl n fun x=>p x && q x).length:Int)=1 by omega)]
  refine fin2_run ?_ (hK _ _ (by first|kernel_rfl|rfl) ?_)<;>clear hK<;>clear K
  ·(first|exact trivial|omega|(simp only [In64] at *; omega)|(simp [In64] at *; omega)|(simp_all; done)|skip)
  refine qa ?_
  refine hk_cond rfl (fun hC1=>?_) (fun hC1=>?_)
  ·refine qm ?_
   refine hk_region fun K hK=>runs_eval tab_ok ?_
   simp only [ev0,evA,evB,evP,fl,gp,tab,simprocAttr,reduceCtorEq,reduceIte]
   refine fin_run trivial (hK _ ?_)<;>clear hK<;>clear K
   refine qa (qk (qb ?_))
   simp only [Tryd.results71,enA,ev0,evA,evB,evP,fl,gp,tab,simprocAttr,reduceCtorEq,reduceIte]
   have hbf:b=false:=by
    cases b with
    | false=>rfl
    | true=>exact absurd (hbs.1 rfl).2.1 k1
   rw [hbf]
  ·cases hC1
end Go.Proofs.YtboadfahlflmhaaDoor

/-
  Parts: in whatever order; the others of one; the part as a group, by the document. Conditions: none.
-/
set_option linter.all false
namespace Go.Proofs.YtboadfahlflmhaaDoor
open Go.Pv

section
variable {α:Type} [Mul α] [One α] [Inv α]
theorem DirL.perm (G:Gp α) {L L' : List (α→Prop)} (h:L.Perm L'):∀ {P:α→Prop},DirL P L→DirL P L':=by
 induction h with
 | nil=>intro P h; exact h
 | cons A _ ih=>rintro P ⟨R,D,hR⟩; exact ⟨R,D,ih hR⟩
 | swap A B L =>
  rintro P ⟨R,D,S,E,hS⟩
  obtain ⟨D1,D2⟩:=assoc G D E
  exact ⟨_,D1,S,D2,hS⟩
 | trans _ _ ih1 ih2=>intro P h; exact ih2 (ih1 h)
theorem DirL.least (G:Gp α):∀ {L:List (α→Prop)} {P:α→Prop},DirL P L→∀ {S:α→Prop},Sg S→(∀ A∈L,∀ x,A x→S x)→∀ x,P x→S x
 | [],P,hP,S,hS,_,x,hx=>by rw [(hP x).1 hx]; exact hS.one
 | A :: L,P,⟨R,D,hR⟩,S,hS,hA,x,hx=>by
  obtain ⟨a,b,ha,hb,rfl⟩:=(D.all x).1 hx
  exact hS.mul _ _ (hA A (List.mem_cons_self ..) a ha) (DirL.least G hR hS (fun B hB=>hA B (List.mem_cons_of_mem _ hB)) b hb)
end
section
variable {n e:Nat} {f:Nat→Nat→Nat}
theorem gen_sg (G:Grp n f e) (s:Nat→Bool):Sg fun x:El G=>Gen n f e s x.1:=
 ⟨.one,fun a b ha hb=>Gen.mul G ha hb,fun a ha=>Gen.iv G ha⟩
theorem rest_ok (G:Grp n f e) {LL:List (List Int)} (hL:DirL (lfp G fun _=>true) (LL.map (rwp G))) {i:Nat} (hi:i < LL.length) {p:Nat→Bool} (he:LL.getD i []=thl n p) {s:Nat→Bool} (hs:∀ a,a < n→(s a=true↔∃ j,j < LL.length∧¬ j=i∧((a:Nat):Int)∈LL.getD j [])) :
  ∃ r,Sub n f e r∧(∀ a,a < n→(r a=true↔Gen n f e s a))∧(mem n p).length * (mem n r).length=n∧(mem n fun x=>p x && r x).length=1∧Cmm n f p r:=by
 have K:=el_gp G
 have hpm:(LL.map (rwp G)).Perm (rwp G (LL.getD i []) :: ((LL.take i++LL.drop (i + 1)).map (rwp G))):=by
  have e1:LL=LL.take i++LL.getD i [] :: LL.drop (i + 1):=by
   have h1:=List.drop_eq_getElem_cons hi
   rw [show LL.getD i []=LL[i] by simp [List.getD,List.getElem?_eq_getElem hi],← h1,List.take_append_drop]
  conv=>lhs; rw [e1]
  rw [List.map_append,List.map_cons,List.map_append]
  exact List.perm_middle
 obtain ⟨R,D,hR⟩:=DirL.perm K hpm hL
 rw [he,rwp_thl] at D
 have hRs:=D.sb
 have hsubs:=DirL.sub_of K hR
 have hmem:∀ v,v∈LL.take i++LL.drop (i + 1)↔∃ j,j < LL.length∧¬ j=i∧v=LL.getD j []:=fun v=>by
  rw [List.mem_append,List.mem_take_iff_getElem,List.mem_drop_iff_getElem]
  constructor
  ·rintro (⟨j,hj,rfl⟩ | ⟨j,hj,rfl⟩)
   ·exact ⟨j,by omega,by omega,by simp [List.getD,List.getElem?_eq_getElem (show j < LL.length by omega)]⟩
   ·exact ⟨i + 1 + j,by omega,by omega,by simp [List.getD,List.getElem?_eq_getElem (show i + 1 + j < LL.length by omega)]⟩
  ·rintro ⟨j,hj,hji,rfl⟩
   have e2:LL.getD j []=LL[j]:=by simp [List.getD,List.getElem?_eq_getElem hj]
   rw [e2]
   by_cases h:j < i
   ·exact .inl ⟨j,by omega,rfl⟩
   ·refine .inr ⟨j - (i + 1),by omega,?_⟩
    simp only [show i + 1 + (j - (i + 1))=j by omega]
 have hgen:∀ a (ha:a < n),(R ⟨a,ha⟩↔Gen n f e s a):=fun a ha=>by
  constructor
  ·intro h
   refine DirL.least K hR (gen_sg G s) (fun A hA x hx=>?_) ⟨a,ha⟩ h
   obtain ⟨v,hv,rfl⟩:=List.mem_map.1 hA
   obtain ⟨j,j1,j2,rfl⟩:=(hmem v).1 hv
   exact Gen.mem G x.2 ((hs _ x.2).2 ⟨j,j1,j2,hx⟩)
  ·intro h
   have key:=Gen.sub (H:=unl G R) G (unl_sub hRs) (fun b hb hsb=>by
    obtain ⟨j,j1,j2,j3⟩:=(hs b hb).1 hsb
    exact (unl_iff hb).2 ((hsubs _ (List.mem_map.2 ⟨_,(hmem _).2 ⟨j,j1,j2,rfl⟩,rfl⟩)).2 ⟨b,hb⟩ j3)) h
   exact (unl_iff ha).1 key
 have hnum:∀ P:Nat→Bool,(∀ a,a < n→P a=true)→(mem n P).length=n:=fun P h=>mem_all.2 h
 have D':=DPt.of D
 have hN:=D'.num G ⟨rfl,fun _ _ _ _ _ _=>rfl,fun _ _ _=>rfl⟩
 have hpe:∀ a,a < n→unl G (lfp G p) a=p a:=fun a ha=>by
  rw [Bool.eq_iff_iff,unl_iff ha]; rfl
 rw [thl_congr hpe,thl_len,thl_len,thl_len] at hN
 refine ⟨unl G R,unl_sub hRs,fun a ha=>by rw [unl_iff ha,hgen a ha],?_,?_,fun a b ha hb h1 h2=>D'.comm a b ha hb (by rw [hpe a ha]; exact h1) h2⟩
 ·have e3:(mem n fun _=>true).length=n:=mem_all.2 fun _ _=>rfl
  exact hN.trans e3
 ·refine mem_one G.el fun a ha=>?_
  rw [Bool.and_eq_true]
  constructor
  ·rintro ⟨h1,h2⟩
   exact D'.meet a ha (by rw [hpe a ha]; exact h1) h2
  ·rintro rfl
   refine ⟨?_,(unl_sub hRs).one⟩
   rw [← hpe a ha]; exact D'.sp.one
end

def upt1 (c:Bool) (x:Nat):List Int:=if c then [((x:Nat):Int)] else []
theorem partOf_c {n e:Nat} {m:List Int} (h:GT n m n e) {P:Nat→Bool} (hP:Sub n (op m n) e P):FnC Tryd.prog 73 [gp n m,.list (il (thl n P))] (gp (thl n P).length (ptb n (op m n) P)):=by
 have G:=h.2.2
 have hb:=h.2.1.big
 have lP:=thl_le n P
 have hK:=ptb_grp G hP
 have hsq:=sq_le (show (thl n P).length≤60 by omega)
 have hlen:=tbr_len (fun i j=>((pop n (op m n) P i j:Nat):Int)) (thl n P).length
 have htk:∀ w:List Int,List.take w.length (ol w)=ol w:=fun w=>List.take_of_length_le (by rw [ol_length]; exact Nat.le_refl _)
 refine fnc_of tab_ok Tryd.func73 rfl (by kernel_rfl) (by rw [Tryd.ntmps73]; exact Nat.le_add_left 2 _) ?_; rw [Tryd.ntmps73]
 refine qm ?_
 refine hk_region fun K hK=>runs_eval tab_ok ?_
 simp only [ev0,evA,evB,evP,fl,gp,tab,simprocAttr,reduceCtorEq,reduceIte]
 refine fin_run ?_ (hK _ ?_)<;>clear hK<;>clear K
 ·(first|exact trivial|omega|(simp only [In64] at *; omega)|(simp [In64] at *; omega)|(simp_all; done)|skip)
 refine qa (qm ?_)
 refine hk_region fun K hK=>runs_eval tab_ok ?_
 simp only [ev0,evA,evB,evP,fl,gp,tab,simprocAttr,reduceCtorEq,reduceIte,il_length]
 refine fin_run ?_ (hK _ ?_)<;>clear hK<;>clear K
 ·(first|exact trivial|omega|(simp only [In64] at *; omega)|(simp [In64] at *; omega)|(simp_all; done)|skip)
 refine qa (qm (qm ?_))
 refine hk_own0c 2 1 rfl rfl ?_
 simp only [hset,List.cons_append,List.nil_append,List.set,List.length_cons,List.length_nil]
 refine hk_region fun K hK=>runs_eval tab_ok ?_
 simp only [ev0,evA,evB,evP,fl,gp,tab,simprocAttr,reduceCtorEq,reduceIte]
 refine fin_run trivial (hK _ ?_)<;>clear hK<;>clear K
 refine qa (ql ?_)
 refine hk_loop (ι:=Nat) (fun a=>⟨54,[(1,.p (.list (il (thl n P)))),(2,.ptr 0 0),(4,.ptr 1 0),(5,.ptr 2 0),(6,.p (.int .i64 a))],[.own [.p (.int .i64 n),.p (.list (il m))],.own [.p (.int .i64 0),.p .nil],.own [.p (.int .i64 (thl n P).length),.sl 3 0 (tbr (fun i j=>((pop n (op m n) P i j:Nat):Int)) (thl n P).length (a * (thl n P).length)).length],.own (ol (tbr (fun i j=>((pop n (op m n) P i j:Nat):Int)) (thl n P).length (a * (thl n P).length)))]⟩) (fun a=>a≤(thl n P).length) (fun a=>(thl n P).length - a) 0 (Nat.zero_le _) [0,1,2,3] (by rw [Nat.zero_mul]; simp only [leq,leA,ev0,evA,evB,evP,fl,gp,tab,simprocAttr,reduceCtorEq,reduceIte]<;>first|trivial|simp [tbr]|trace_state) fun a ha=>?_
 refine qm (qm ?_)
 refine hk_region fun K hK=>runs_eval tab_ok ?_
 simp only [ev0,evA,evB,evP,fl,gp,tab,simprocAttr,reduceCtorEq,reduceIte,il_length]
 refine fin_run trivial (hK _ ?_)<;>clear hK<;>clear K
 refine qa ?_
 refine hk_cond rfl (fun hC1=>?_) (fun hC1=>?_)
 ·(try simp only [nhs] at hC1)
  have hal:a < (thl n P).length:=by omega
  obtain ⟨a1,a2,a3,a4⟩:=lat_at hal
  refine qh (qa (qm (ql (qm ?_))))
  refine hk_region fun K hK=>runs_eval tab_ok ?_
  simp only [ev0,evA,evB,evP,fl,gp,tab,simprocAttr,reduceCtorEq,reduceIte]
  refine fin_run trivial (hK _ ?_)<;>clear hK<;>clear K
  refine qa (ql ?_)
  refine hk_loop (ι:=Nat) (fun b=>⟨54,[(1,.p (.list (il (thl n P)))),(2,.ptr 0 0),(4,.ptr 1 0),(5,.ptr 2 0),(6,.p (.int .i64 a)),(7,.p (.int .i64 b))],[.own [.p (.int .i64 n),.p (.list (il m))],.own [.p (.int .i64 0),.p .nil],.own [.p (.int .i64 (thl n P).length),.sl 3 0 (tbr (fun i j=>((pop n (op m n) P i j:Nat):Int)) (thl n P).length (a * (thl n P).length + b)).length],.own (ol (tbr (fun i j=>((pop n (op m n) P i j:Nat):Int)) (thl n P).length (a * (thl n P).length + b)))]⟩) (fun b=>b≤(thl n P).length) (fun b=>(thl n P).length - b) 0 (Nat.zero_le _) [0,1,2,3] (by rw [Nat.add_zero]; simp only [leq,leA,ev0,evA,evB,evP,fl,gp,tab,simprocAttr,reduceCtorEq,reduceIte]<;>first|trivial|exact ⟨rfl,rfl⟩|(rw [htk]; done)|trace_state) fun b hb'=>?_
  refine qm (qm ?_)
  refine hk_region fun K hK=>runs_eval tab_ok ?_
  simp only [ev0,evA,evB,evP,fl,gp,tab,simprocAttr,reduceCtorEq,reduceIte,il_length]
  refine fin_run trivial (hK _ ?_)<;>clear hK<;>clear K
  refine qa ?_
  refine hk_cond rfl (fun hC2=>?_) (fun hC2=>?_)
  ·(try simp only [nhs] at hC2)
   have hbl:b < (thl n P).length:=by omega
   obtain ⟨b1,b2,b3,b4⟩:=lat_at hbl
   have hx:=G.cl _ _ a1 b1
   have hPx:=hP.mul _ _ a1 b1 a2 b2
   obtain ⟨x1,x2⟩:=pix_at hx hPx
   have hat:=at_lt hal hbl
   have hl:=hlen (a * (thl n P).length + b)
   have hpop:pop n (op m n) P a b=pix P (op m n (lat n P a) (lat n P b)):=rfl
   have hts:=tbr_succ (fun i j=>((pop n (op m n) P i j:Nat):Int)) (n:=(thl n P).length) (a:=a) hbl
   simp only [hpop] at hts
   refine qh (qa (qm (ql (qm ?_))))
   refine hk_draw mixed (by kernel_rfl) fun K hK=>runs_eval tab_ok ?_
   simp only [ev0,evA,evB,evP,fl,gp,tab,simprocAttr,reduceCtorEq,reduceIte,il_length,il_get hal,il_get hbl,a3,b3]
   refine fin_stop ?_ (runs_call (m_c h.2.1 a1 b1) rfl rfl rfl (by simp only [dstOk,Nat.reduceLT]) (by repeat (first|exact trivial|constructor)) (runs_eval tab_ok ?_))
   ·exact ⟨⟨by omega,by omega⟩,by omega,by omega⟩
   simp only [ev0,evA,evB,evP,fl,gp,tab,simprocAttr,reduceCtorEq,reduceIte,il_length,il_get hal,il_get hbl,a3,b3]
   refine fin_run ?_ (hK _ ?_)<;>clear hK<;>clear K
   ·(first|exact trivial|omega|(simp only [In64] at *; omega)|(simp [In64] at *; omega)|(simp_all; done)|skip)
   refine qa (qm ?_)
   generalize hT:tbr (fun i j=>((pop n (op m n) P i j:Nat):Int)) (thl n P).length (a * (thl n P).length + b)=T at *
   generalize hxx:op m n (lat n P a) (lat n P b)=x at *
   refine hk_region fun K hK=>runs_eval tab_ok ?_
   simp only [ev0,evA,evB,evP,fl,gp,tab,simprocAttr,reduceCtorEq,reduceIte]
   refine fin_run trivial (hK _ ?_)<;>clear hK<;>clear K
   refine qa (ql ?_)
   refine hk_loop (ι:=Nat) (fun j=>⟨54,[(1,.p (.list (il (thl n P)))),(2,.ptr 0 0),(4,.ptr 1 0),(5,.ptr 2 0),(6,.p (.int .i64 a)),(7,.p (.int .i64 b)),(8,.p (.int .i64 x)),(9,.p (.int .i64 j))],[.own [.p (.int .i64 n),.p (.list (il m))],.own [.p (.int .i64 0),.p .nil],.own [.p (.int .i64 (thl n P).length),.sl 3 0 (T++upt1 (decide (pix P x < j)) (pix P x)).length],.own (ol (T++upt1 (decide (pix P x < j)) (pix P x)))]⟩) (fun j=>j≤(thl n P).length) (fun j=>(thl n P).length - j) 0 (Nat.zero_le _) [0,1,2,3] (by
    rw [show T++upt1 (decide (pix P x < 0)) (pix P x)=T by simp [upt1]]
    simp only [leq,leA,ev0,evA,evB,evP,fl,gp,tab,simprocAttr,reduceCtorEq,reduceIte]<;>first|trivial|exact ⟨rfl,rfl⟩|(rw [htk]; done)|trace_state) fun j hj=>?_
   refine qm (qm ?_)
   refine hk_region fun K hK=>runs_eval tab_ok ?_
   simp only [ev0,evA,evB,evP,fl,gp,tab,simprocAttr,reduceCtorEq,reduceIte,il_length]
   refine fin_run trivial (hK _ ?_)<;>clear hK<;>clear K
   refine qa ?_
   refine hk_cond rfl (fun hC3=>?_) (fun hC3=>?_)
   ·(try simp only [nhs] at hC3)
    have hjl:j < (thl n P).length:=by omega
    obtain ⟨j1,j2,j3,j4⟩:=lat_at hjl
    have hol:(T++upt1 (decide (pix P x < j)) (pix P x)).length≤3601:=by
     rw [List.length_append,hl]
     unfold upt1
     split<;>simp<;>omega
    refine qh (qa (qm (ql (qm ?_))))
    refine hk_region fun K hK=>runs_eval tab_ok ?_
    simp only [ev0,evA,evB,evP,fl,gp,tab,simprocAttr,reduceCtorEq,reduceIte,il_length,il_get hjl,j3]
    refine fin_run ?_ (hK _ ?_)<;>clear hK<;>clear K
    ·(first|exact trivial|omega|(simp only [In64] at *; omega)|(simp [In64] at *; omega)|(simp_all; done)|skip)
    refine qa ?_
    refine hk_cond rfl (fun hC4=>?_) (fun hC4=>?_)
    ·(try simp only [nhs] at hC4)
     have hjx:lat n P j=x:=by omega
     have hji:pix P x=j:=by rw [← hjx]; exact j4
     have hst:T++upt1 (decide (pix P x < j + 1)) (pix P x)=(T++upt1 (decide (pix P x < j)) (pix P x))++[((j:Nat):Int)]:=by
      rw [hji]; simp [upt1]
     refine hk_region fun K hK=>runs_eval tab_ok ?_
     simp only [ev0,evA,evB,evP,fl,gp,tab,simprocAttr,reduceCtorEq,reduceIte]
     refine fin_run ?_ (hK _ ?_)<;>clear hK<;>clear K
     ·(first|exact trivial|omega|(simp only [In64] at *; omega)|(simp [In64] at *; omega)|(simp_all; done)|skip)
     refine qd (qa ?_)
     refine hk_region fun K hK=>runs_eval tab_ok ?_
     simp only [ev0,evA,evB,evP,fl,gp,tab,simprocAttr,reduceCtorEq,reduceIte]
     refine fin_run ?_ (hK _ ?_)<;>clear hK<;>clear K
     ·(first|exact trivial|omega|(simp only [In64] at *; omega)|(simp [In64] at *; omega)|(simp_all; done)|skip)
     refine qa ?_
     refine ⟨j + 1,[0,1,2,4],by omega,by omega,?_⟩
     rw [hst]
     generalize T++upt1 (decide (pix P x < j)) (pix P x)=T2 at *
     simp only [leq,leA,ev0,evA,evB,evP,fl,gp,tab,simprocAttr,reduceCtorEq,reduceIte]<;>first|trivial|omega|trace_state
    ·(try simp only [nhs] at hC4)
     have hji:¬ pix P x=j:=fun he=>by
      have h1:lat n P (pix P x)=x:=lat_pixI hx hPx
      rw [he] at h1
      omega
     have hst:T++upt1 (decide (pix P x < j + 1)) (pix P x)=T++upt1 (decide (pix P x < j)) (pix P x):=by
      congr 2
      exact decide_eq_decide.2 ⟨fun h=>by omega,fun h=>by omega⟩
     refine qh (qd (qa ?_))
     refine hk_region fun K hK=>runs_eval tab_ok ?_
     simp only [ev0,evA,evB,evP,fl,gp,tab,simprocAttr,reduceCtorEq,reduceIte]
     refine fin_run ?_ (hK _ ?_)<;>clear hK<;>clear K
     ·(first|exact trivial|omega|(simp only [In64] at *; omega)|(simp [In64] at *; omega)|(simp_all; done)|skip)
     refine qa ?_
     refine ⟨j + 1,[0,1,2,3],by omega,by omega,?_⟩
     rw [hst]
     simp only [leq,leA,ev0,evA,evB,evP,fl,gp,tab,simprocAttr,reduceCtorEq,reduceIte]<;>first|trivial|omega|trace_state
   ·(try simp only [nhs] at hC3)
    have hfin:T++upt1 (decide (pix P x < j)) (pix P x)=T++[((pix P x:Nat):Int)]:=by
     rw [show decide (pix P x < j)=true from decide_eq_true (by omega)]; rfl
    rw [hfin]
    refine qj (qc (qc (qf (qd (qa ?_)))))
    refine hk_region fun K hK=>runs_eval tab_ok ?_
    simp only [ev0,evA,evB,evP,fl,gp,tab,simprocAttr,reduceCtorEq,reduceIte]
    refine fin_run ?_ (hK _ ?_)<;>clear hK<;>clear K
    ·(first|exact trivial|omega|(simp only [In64] at *; omega)|(simp [In64] at *; omega)|(simp_all; done)|skip)
    refine qa ?_
    refine ⟨b + 1,[0,1,2,3],by omega,by omega,?_⟩
    rw [hts]
    simp only [leq,leA,ev0,evA,evB,evP,fl,gp,tab,simprocAttr,reduceCtorEq,reduceIte]<;>first|trivial|omega|trace_state
  ·(try simp only [nhs] at hC2)
   have hbn:b=(thl n P).length:=by omega
   refine qj (qc (qc (qf (qd (qa ?_)))))
   refine hk_region fun K hK=>runs_eval tab_ok ?_
   simp only [ev0,evA,evB,evP,fl,gp,tab,simprocAttr,reduceCtorEq,reduceIte]
   refine fin_run ?_ (hK _ ?_)<;>clear hK<;>clear K
   ·(first|exact trivial|omega|(simp only [In64] at *; omega)|(simp [In64] at *; omega)|(simp_all; done)|skip)
   refine qa ?_
   refine ⟨a + 1,[0,1,2,3],by omega,by omega,?_⟩
   rw [hbn,show (a + 1) * (thl n P).length=a * (thl n P).length + (thl n P).length by rw [Nat.add_mul,Nat.one_mul]]
   simp only [leq,leA,ev0,evA,evB,evP,fl,gp,tab,simprocAttr,reduceCtorEq,reduceIte]<;>first|trivial|omega|trace_state
 ·(try simp only [nhs] at hC1)
  have han:a=(thl n P).length:=by omega
  refine qj (qc (qc (qf (qa (qm ?_)))))
  refine hk_region fun K hK=>runs_eval tab_ok ?_
  simp only [ev0,evA,evB,evP,fl,gp,tab,simprocAttr,reduceCtorEq,reduceIte]
  refine fin_run ?_ (hK _ ?_)<;>clear hK<;>clear K
  ·(first|exact trivial|omega|(simp only [In64] at *; omega)|(simp [In64] at *; omega)|(simp_all; done)|skip)
  refine qa (qk ?_)
  simp only [Tryd.results73,enA,ev0,evA,evB,evP,fl,gp,tab,simprocAttr,reduceCtorEq,reduceIte]
  all_goals (simp [han,ptb,tbl])
end Go.Proofs.YtboadfahlflmhaaDoor
