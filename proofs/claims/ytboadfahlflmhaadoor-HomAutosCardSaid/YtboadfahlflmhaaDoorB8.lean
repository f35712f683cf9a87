/-
  Texts of this proof, one behind the other: what each says stands at its head. Conditions: none.
-/
import Derived.Test.YtboadfahlflmhaaDoorB5
import Derived.Test.YtboadfahlflmhaaDoorB7
import Derived.Test.YtboadfahlflmhaaDoorRows
import Derived.Test.YtboadfahlflmhaaDoorB4
import Derived.ProofKit
import Derived.LaidMore
import Derived.OpenShut
import Derived.Stop.Joined

/-
  What things make, as a row that is new. Conditions: none.
-/
set_option linter.all false
namespace Go.Proofs.YtboadfahlflmhaaDoor
open Go.Pv

theorem span_g {n e:Nat} {m:List Int} (h:GT n m n e) (l:List Int) (hl:l.length≤1000000000000) (hr:∀ x∈l,∃ a,a < n∧x=((a:Nat):Int)) (q:Nat→Bool) (hq:∀ a,a < n→(q a=true↔Gen n (op m n) e (tst l) a)):FnG Tryd.prog 72 [gp n m,.list (il l)] (.sl 0 0 (il (thl n q)).length) [.own (opl (il (thl n q)))]:=by
 have G:=h.2.2
 have T:=h.2.1
 have hb:=T.big
 have hel:=G.el
 refine fng_of tab_ok Tryd.func72 rfl (by kernel_rfl) (by rw [Tryd.ntmps72]; exact Nat.le_add_left 2 _) ?_; rw [Tryd.ntmps72]
 refine qm ?_
 refine hk_region fun K hK=>runs_eval tab_ok ?_
 simp only [ev0,evA,evB,evP,fl,gp,tab,simprocAttr,reduceCtorEq,reduceIte]
 refine fin_run ?_ (hK _ ?_)<;>clear hK<;>clear K
 ·(first|exact trivial|omega|(simp only [In64] at *; omega)|(simp [In64] at *; omega)|(simp_all; done)|skip)
 refine qa (qm ?_)
 refine hk_region fun K hK=>runs_eval tab_ok ?_
 simp only [ev0,evA,evB,evP,fl,gp,tab,simprocAttr,reduceCtorEq,reduceIte,makeSliceA.eq_def,obl_new]
 refine fin_run ?_ (hK _ ?_)<;>clear hK<;>clear K
 ·omega
 refine qa (qm ?_)
 refine hk_draw mixed (by kernel_rfl) fun K hK=>runs_eval tab_ok ?_
 simp only [ev0,evA,evB,evP,fl,gp,tab,simprocAttr,reduceCtorEq,reduceIte]
 refine fin_stop trivial (runs_call (e_c T) rfl rfl rfl (by simp only [dstOk,Nat.reduceLT]) (by repeat (first|exact trivial|constructor)) (runs_eval tab_ok ?_))
 simp only [ev0,evA,evB,evP,fl,gp,tab,simprocAttr,reduceCtorEq,reduceIte,h.eI]
 refine fin_run ?_ (hK _ ?_)<;>clear hK<;>clear K
 ·rw [bl_len]; omega
 refine qa (qm (qm ?_))
 rw [obl_set,show upd (fun _=>false) e=fun a=>decide (a=e) || tst (l.take 0) a from funext fun a=>by simp [upd,tst]]
 refine hk_region fun K hK=>runs_eval tab_ok ?_
 simp only [ev0,evA,evB,evP,fl,gp,tab,simprocAttr,reduceCtorEq,reduceIte]
 refine fin_run trivial (hK _ ?_)<;>clear hK<;>clear K
 refine qa (ql ?_)
 refine hk_loop (ι:=Nat) (fun i=>⟨71,[(1,.p (.list (il l))),(2,.ptr 0 0),(5,.ptr 2 0),(6,.p (.int .i64 i))],[.own [.p (.int .i64 n),.p (.list (il m))],.own (opl (bl n fun a=>decide (a=e) || tst (l.take i) a)),.own [.sl 1 0 n]]⟩) (fun i=>i≤l.length) (fun i=>l.length - i) 0 (Nat.zero_le _) [0,1,2] (by simp only [leq,leA,ev0,evA,evB,evP,fl,gp,tab,simprocAttr,reduceCtorEq,reduceIte]<;>first|trivial|(simp; done)) fun i hi=>?_
 refine qm (qm ?_)
 refine hk_region fun K hK=>runs_eval tab_ok ?_
 simp only [ev0,evA,evB,evP,fl,gp,tab,simprocAttr,reduceCtorEq,reduceIte]
 refine fin_run trivial (hK _ ?_)<;>clear hK<;>clear K
 refine qa ?_
 refine hk_cond rfl (fun hC1=>?_) (fun hC1=>?_)
 ·(try simp only [nhs] at hC1)
  have hlt:i < l.length:=by omega
  have hmem:l.getD i 0∈l:=by simp [List.getD,List.getElem?_eq_getElem hlt]
  obtain ⟨x,x1,x2⟩:=hr _ hmem
  refine qh (qa (qm (ql ?_)))
  refine hk_draw mixed (by kernel_rfl) fun K hK=>runs_eval tab_ok ?_
  simp only [ev0,evA,evB,evP,fl,gp,tab,simprocAttr,reduceCtorEq,reduceIte,il_get hlt,x2,obl_len]
  refine fin_run ?_ (hK _ ?_)<;>clear hK<;>clear K
  ·rw [bl_len]; omega
  refine qd (qa ?_)
  rw [obl_set]
  refine hk_region fun K hK=>runs_eval tab_ok ?_
  simp only [ev0,evA,evB,evP,fl,gp,tab,simprocAttr,reduceCtorEq,reduceIte]
  refine fin_run ?_ (hK _ ?_)<;>clear hK<;>clear K
  ·(first|exact trivial|omega|(simp only [In64] at *; omega)|(simp [In64] at *; omega)|(simp_all; done)|skip)
  refine qa ?_
  refine ⟨i + 1,[0,1,2],by omega,by omega,?_⟩
  have hc:bl n (fun a=>decide (a=e) || tst (l.take (i + 1)) a)=bl n (upd (fun a=>decide (a=e) || tst (l.take i) a) x):=bl_congr fun a ha=>by
   rw [List.take_succ_eq_append_getElem hlt]
   have e1:l[i]=(x:Int):=by rw [← x2]; simp [List.getD,List.getElem?_eq_getElem hlt]
   rw [e1]
   unfold upd tst
   rw [Bool.or_assoc]
   congr 1
   rw [← Bool.decide_or]
   refine decide_eq_decide.2 ?_
   rw [List.mem_append,List.mem_singleton]
   constructor
   ·rintro (h | h)
    ·exact .inl h
    ·exact .inr (by omega)
   ·rintro (h | h)
    ·exact .inl h
    ·exact .inr (by omega)
  rw [hc]
  simp only [leq,leA,ev0,evA,evB,evP,fl,gp,tab,simprocAttr,reduceCtorEq,reduceIte]<;>first|trivial|omega
 ·(try simp only [nhs] at hC1)
  have hin:i=l.length:=by omega
  subst hin
  rw [List.take_length]
  refine qj (qc (qc (qf (qa (qm (qm ?_))))))
  refine hk_region fun K hK=>runs_eval tab_ok ?_
  simp only [ev0,evA,evB,evP,fl,gp,tab,simprocAttr,reduceCtorEq,reduceIte]
  refine fin_run trivial (hK _ ?_)<;>clear hK<;>clear K
  refine qa (ql ?_)
  refine hk_loop (ι:=(Nat→Bool) × Bool) (fun p=>⟨71,[(2,.ptr 0 0),(5,.ptr 2 0),(7,.p (.bool p.2))],[.own [.p (.int .i64 n),.p (.list (il m))],.own (opl (bl n p.1)),.own [.sl 1 0 n]]⟩) (fun p=>p.1 e=true∧(∀ a,a < n→tst l a=true→p.1 a=true)∧(∀ a,a < n→p.1 a=true→Gen n (op m n) e (tst l) a)∧(p.2=false→∀ a,a < n→∀ b,b < n→p.1 a=true→p.1 b=true→p.1 (op m n a b)=true)) (fun p=>2 * (2 ^ 64 - bo n p.1) + (if p.2=true then 1 else 0)) (fun a=>decide (a=e) || tst l a,true) ⟨by simp,fun a _ h=>by simp [h],fun a ha h=>by
    simp only [Bool.or_eq_true,decide_eq_true_eq] at h
    rcases h with rfl | h
    ·exact .one
    ·exact Gen.mem G ha h,fun h=>by cases h⟩ [0,1,2] (by simp only [leq,leA,ev0,evA,evB,evP,fl,gp,tab,simprocAttr,reduceCtorEq,reduceIte]<;>first|trivial|(simp; done)) fun p hp=>?_
  obtain ⟨r,again⟩:=p
  obtain ⟨r1,r2,r3,r4⟩:=hp
  simp only at r1 r2 r3 r4
  refine qm (qm ?_)
  refine hk_region fun K hK=>runs_eval tab_ok ?_
  simp only [ev0,evA,evB,evP,fl,gp,tab,simprocAttr,reduceCtorEq,reduceIte]
  refine fin_run trivial (hK _ ?_)<;>clear hK<;>clear K
  refine qa ?_
  refine hk_cond rfl (fun hC2=>?_) (fun hC2=>?_)
  ·(try simp only [nhs] at hC2)
   subst hC2
   refine qh (qa (ql (qm ?_)))
   refine hk_region fun K hK=>runs_eval tab_ok ?_
   simp only [ev0,evA,evB,evP,fl,gp,tab,simprocAttr,reduceCtorEq,reduceIte]
   refine fin_run trivial (hK _ ?_)<;>clear hK<;>clear K
   refine qa (qm ?_)
   refine hk_region fun K hK=>runs_eval tab_ok ?_
   simp only [ev0,evA,evB,evP,fl,gp,tab,simprocAttr,reduceCtorEq,reduceIte]
   refine fin_run trivial (hK _ ?_)<;>clear hK<;>clear K
   refine qa (ql ?_)
   refine hk_loop (ι:=Nat × (Nat→Bool) × Bool) (fun p=>⟨71,[(2,.ptr 0 0),(5,.ptr 2 0),(7,.p (.bool p.2.2)),(8,.p (.int .i64 p.1))],[.own [.p (.int .i64 n),.p (.list (il m))],.own (opl (bl n p.2.1)),.own [.sl 1 0 n]]⟩) (fun p=>p.1≤n∧(∀ a,a < n→r a=true→p.2.1 a=true)∧(∀ a,a < n→p.2.1 a=true→Gen n (op m n) e (tst l) a)∧(p.2.2=true→bo n r < bo n p.2.1)∧(p.2.2=false→p.2.1=r∧∀ a,a < p.1→∀ b,b < n→r a=true→r b=true→r (op m n a b)=true)) (fun p=>n - p.1) (0,r,false) ⟨Nat.zero_le _,fun a _ h=>h,r3,fun h=>by (first|cases h|simp at h),fun _=>⟨rfl,fun a ha=>by simp only at ha; omega⟩⟩ [0,1,2] (by simp only [leq,leA,ev0,evA,evB,evP,fl,gp,tab,simprocAttr,reduceCtorEq,reduceIte]<;>first|trivial|(simp; done)) fun p hp=>?_
   obtain ⟨i,r',ag⟩:=p
   obtain ⟨u1,u2,u3,u4,u5⟩:=hp
   simp only at u1 u2 u3 u4 u5
   refine qm (qm ?_)
   refine hk_region fun K hK=>runs_eval tab_ok ?_
   simp only [ev0,evA,evB,evP,fl,gp,tab,simprocAttr,reduceCtorEq,reduceIte]
   refine fin_run ?_ (hK _ ?_)<;>clear hK<;>clear K
   ·(first|exact trivial|omega|(simp only [In64] at *; omega)|(simp [In64] at *; omega)|(simp_all; done)|skip)
   refine qa ?_
   refine hk_cond rfl (fun hC3=>?_) (fun hC3=>?_)
   ·(try simp only [nhs] at hC3)
    have hil:i < n:=by omega
    refine qh (qa (qm (ql (qm ?_))))
    refine hk_region fun K hK=>runs_eval tab_ok ?_
    simp only [ev0,evA,evB,evP,fl,gp,tab,simprocAttr,reduceCtorEq,reduceIte]
    refine fin_run trivial (hK _ ?_)<;>clear hK<;>clear K
    refine qa (ql ?_)
    refine hk_loop (ι:=Nat × (Nat→Bool) × Bool) (fun p=>⟨71,[(2,.ptr 0 0),(5,.ptr 2 0),(7,.p (.bool p.2.2)),(8,.p (.int .i64 i)),(9,.p (.int .i64 p.1))],[.own [.p (.int .i64 n),.p (.list (il m))],.own (opl (bl n p.2.1)),.own [.sl 1 0 n]]⟩) (fun p=>p.1≤n∧(∀ a,a < n→r a=true→p.2.1 a=true)∧(∀ a,a < n→p.2.1 a=true→Gen n (op m n) e (tst l) a)∧(p.2.2=true→bo n r < bo n p.2.1)∧(p.2.2=false→p.2.1=r∧(∀ a,a < i→∀ b,b < n→r a=true→r b=true→r (op m n a b)=true)∧∀ b,b < p.1→r i=true→r b=true→r (op m n i b)=true)) (fun p=>n - p.1) (0,r',ag) ⟨Nat.zero_le _,u2,u3,u4,fun h=>⟨(u5 h).1,(u5 h).2,fun b hb=>by simp only at hb; omega⟩⟩ [0,1,2] (by simp only [leq,leA,ev0,evA,evB,evP,fl,gp,tab,simprocAttr,reduceCtorEq,reduceIte]<;>first|trivial|(simp; done)) fun p hp=>?_
    obtain ⟨j,r'',ag'⟩:=p
    obtain ⟨v1,v2,v3,v4,v5⟩:=hp
    simp only at v1 v2 v3 v4 v5
    refine qm (qm ?_)
    refine hk_region fun K hK=>runs_eval tab_ok ?_
    simp only [ev0,evA,evB,evP,fl,gp,tab,simprocAttr,reduceCtorEq,reduceIte]
    refine fin_run ?_ (hK _ ?_)<;>clear hK<;>clear K
    ·(first|exact trivial|omega|(simp only [In64] at *; omega)|(simp [In64] at *; omega)|(simp_all; done)|skip)
    refine qa ?_
    refine hk_cond rfl (fun hC4=>?_) (fun hC4=>?_)
    ·(try simp only [nhs] at hC4)
     have hjl:j < n:=by omega
     have hfl:=G.cl i j hil hjl
     refine qh (qa (qm (ql (qm ?_))))
     rcases bool3 (r'' i) (r'' j) with hri | ⟨hri,hrj⟩ | ⟨hri,hrj⟩
     ·refine hk_draw mixed (by kernel_rfl) fun K hK=>runs_eval tab_ok ?_
      simp only [ev0,evA,evB,evP,fl,gp,tab,simprocAttr,reduceCtorEq,reduceIte,obl_get hil,bl_len,obl_len,hri]
      refine fin_run ?_ (hK _ ?_)<;>clear hK<;>clear K
      ·omega
      refine qa ?_
      refine hk_cond rfl (fun hC5=>?_) (fun hC5=>?_)
      ·cases hC5
      ·refine qh (qd (qa ?_))
       refine hk_region fun K hK=>runs_eval tab_ok ?_
       simp only [ev0,evA,evB,evP,fl,gp,tab,simprocAttr,reduceCtorEq,reduceIte]
       refine fin_run ?_ (hK _ ?_)<;>clear hK<;>clear K
       ·(first|exact trivial|omega|(simp only [In64] at *; omega)|(simp [In64] at *; omega)|(simp_all; done)|skip)
       refine qa ?_
       refine ⟨(j + 1,r'',ag'),[0,1,2],⟨by simp only; omega,v2,v3,v4,fun h=>?_⟩,by simp only; omega,?_⟩
       ·obtain ⟨x1,x2,x3⟩:=v5 h
        refine ⟨x1,x2,fun b hb' h1 h2=>?_⟩
        by_cases hbj:b=j
        ·rw [← x1,hri] at h1; cases h1
        ·exact x3 b (by simp only at hb'; omega) h1 h2
       ·simp only [leq,leA,ev0,evA,evB,evP,fl,gp,tab,simprocAttr,reduceCtorEq,reduceIte]<;>first|trivial|omega
     ·refine hk_draw mixed (by kernel_rfl) fun K hK=>runs_eval tab_ok ?_
      simp only [ev0,evA,evB,evP,fl,gp,tab,simprocAttr,reduceCtorEq,reduceIte,obl_get hil,obl_get hjl,bl_len,obl_len,hri,hrj]
      refine fin_run ?_ (hK _ ?_)<;>clear hK<;>clear K
      ·omega
      refine qa ?_
      refine hk_cond rfl (fun hC5=>?_) (fun hC5=>?_)
      ·cases hC5
      ·refine qh (qd (qa ?_))
       refine hk_region fun K hK=>runs_eval tab_ok ?_
       simp only [ev0,evA,evB,evP,fl,gp,tab,simprocAttr,reduceCtorEq,reduceIte]
       refine fin_run ?_ (hK _ ?_)<;>clear hK<;>clear K
       ·(first|exact trivial|omega|(simp only [In64] at *; omega)|(simp [In64] at *; omega)|(simp_all; done)|skip)
       refine qa ?_
       refine ⟨(j + 1,r'',ag'),[0,1,2],⟨by simp only; omega,v2,v3,v4,fun h=>?_⟩,by simp only; omega,?_⟩
       ·obtain ⟨x1,x2,x3⟩:=v5 h
        refine ⟨x1,x2,fun b hb' h1 h2=>?_⟩
        by_cases hbj:b=j
        ·rw [hbj,← x1,hrj] at h2; cases h2
        ·exact x3 b (by simp only at hb'; omega) h1 h2
       ·simp only [leq,leA,ev0,evA,evB,evP,fl,gp,tab,simprocAttr,reduceCtorEq,reduceIte]<;>first|trivial|omega
     ·refine hk_draw mixed (by kernel_rfl) fun K hK=>runs_eval tab_ok ?_
      simp only [ev0,evA,evB,evP,fl,gp,tab,simprocAttr,reduceCtorEq,reduceIte,obl_get hil,obl_get hjl,obl_get hfl,bl_len,obl_len,hri,hrj]
      refine fin_stop ?_ (runs_call (m_c T hil hjl) rfl rfl rfl (by simp only [dstOk,Nat.reduceLT]) (by repeat (first|exact trivial|constructor)) (runs_eval tab_ok ?_))
      ·omega
      simp only [ev0,evA,evB,evP,fl,gp,tab,simprocAttr,reduceCtorEq,reduceIte,obl_get hil,obl_get hjl,obl_get hfl,bl_len,obl_len,hri,hrj]
      refine fin_run ?_ (hK _ ?_)<;>clear hK<;>clear K
      ·omega
      refine qa ?_
      refine hk_cond rfl (fun hC5=>?_) (fun hC5=>?_)
      ·(try simp only [nhs] at hC5)
       refine qm ?_
       refine hk_draw mixed (by kernel_rfl) fun K hK=>runs_eval tab_ok ?_
       simp only [ev0,evA,evB,evP,fl,gp,tab,simprocAttr,reduceCtorEq,reduceIte,obl_len,bl_len]
       refine fin_stop trivial (runs_call (m_c T hil hjl) rfl rfl rfl (by simp only [dstOk,Nat.reduceLT]) (by repeat (first|exact trivial|constructor)) (runs_eval tab_ok ?_))
       simp only [ev0,evA,evB,evP,fl,gp,tab,simprocAttr,reduceCtorEq,reduceIte,obl_len,bl_len]
       refine fin_run ?_ (hK _ ?_)<;>clear hK<;>clear K
       ·omega
       refine qa ?_
       rw [obl_set]
       refine hk_region fun K hK=>runs_eval tab_ok ?_
       simp only [ev0,evA,evB,evP,fl,gp,tab,simprocAttr,reduceCtorEq,reduceIte]
       refine fin_run trivial (hK _ ?_)<;>clear hK<;>clear K
       refine qd (qa ?_)
       refine hk_region fun K hK=>runs_eval tab_ok ?_
       simp only [ev0,evA,evB,evP,fl,gp,tab,simprocAttr,reduceCtorEq,reduceIte]
       refine fin_run ?_ (hK _ ?_)<;>clear hK<;>clear K
       ·(first|exact trivial|omega|(simp only [In64] at *; omega)|(simp [In64] at *; omega)|(simp_all; done)|skip)
       refine qa ?_
       have hnew:r'' (op m n i j)=false:=by simpa using hC5
       have hgt:bo n r < bo n (upd r'' (op m n i j)):=by
        have h1:bo n r'' < bo n (upd r'' (op m n i j)):=bo_lt_of (fun a _ h=>by simp [upd,h]) hfl hnew (by simp [upd])
        cases hag:ag' with
        | true=>have:=v4 hag; omega
        | false=>rw [(v5 hag).1] at h1; rw [(v5 hag).1]; exact h1
       refine ⟨(j + 1,upd r'' (op m n i j),true),[0,1,2],⟨by simp only; omega,fun a ha h=>?_,fun a ha h=>?_,fun _=>hgt,fun h=>by first|cases h|simp at h⟩,by simp only; omega,?_⟩
       ·simp [upd,v2 a ha h]
       ·simp only [upd,Bool.or_eq_true,decide_eq_true_eq] at h
        rcases h with h | h
        ·exact v3 a ha h
        ·rw [h]; exact Gen.mul G (v3 i hil hri) (v3 j hjl hrj)
       ·simp only [leq,leA,ev0,evA,evB,evP,fl,gp,tab,simprocAttr,reduceCtorEq,reduceIte]<;>first|trivial|omega
      ·(try simp only [nhs] at hC5)
       refine qh (qd (qa ?_))
       refine hk_region fun K hK=>runs_eval tab_ok ?_
       simp only [ev0,evA,evB,evP,fl,gp,tab,simprocAttr,reduceCtorEq,reduceIte]
       refine fin_run ?_ (hK _ ?_)<;>clear hK<;>clear K
       ·(first|exact trivial|omega|(simp only [In64] at *; omega)|(simp [In64] at *; omega)|(simp_all; done)|skip)
       refine qa ?_
       have hin2:r'' (op m n i j)=true:=by simpa using hC5
       refine ⟨(j + 1,r'',ag'),[0,1,2],⟨by simp only; omega,v2,v3,v4,fun h=>?_⟩,by simp only; omega,?_⟩
       ·obtain ⟨x1,x2,x3⟩:=v5 h
        refine ⟨x1,x2,fun b hb' h1 h2=>?_⟩
        by_cases hbj:b=j
        ·rw [hbj,← x1]; exact hin2
        ·exact x3 b (by simp only at hb'; omega) h1 h2
       ·simp only [leq,leA,ev0,evA,evB,evP,fl,gp,tab,simprocAttr,reduceCtorEq,reduceIte]<;>first|trivial|omega
    ·(try simp only [nhs] at hC4)
     have hjn:j=n:=by omega
     subst hjn
     refine qj (qc (qc (qf (qd (qa ?_)))))
     refine hk_region fun K hK=>runs_eval tab_ok ?_
     simp only [ev0,evA,evB,evP,fl,gp,tab,simprocAttr,reduceCtorEq,reduceIte]
     refine fin_run ?_ (hK _ ?_)<;>clear hK<;>clear K
     ·(first|exact trivial|omega|(simp only [In64] at *; omega)|(simp [In64] at *; omega)|(simp_all; done)|skip)
     refine qa ?_
     refine ⟨(i + 1,r'',ag'),[0,1,2],⟨by simp only; omega,v2,v3,v4,fun h=>?_⟩,by simp only; omega,?_⟩
     ·obtain ⟨x1,x2,x3⟩:=v5 h
      refine ⟨x1,fun a ha b hb' h1 h2=>?_⟩
      by_cases hai:a=i
      ·rw [hai] at h1 ⊢; exact x3 b hb' h1 h2
      ·exact x2 a (by simp only at ha; omega) b hb' h1 h2
     ·simp only [leq,leA,ev0,evA,evB,evP,fl,gp,tab,simprocAttr,reduceCtorEq,reduceIte]<;>first|trivial|omega
   ·(try simp only [nhs] at hC3)
    have hin:i=n:=by omega
    subst hin
    refine qj (qc (qc (qf (qd (qa ?_)))))
    refine ⟨(r',ag),[0,1,2],⟨u2 e hel r1,fun a ha h=>u2 a ha (r2 a ha h),u3,fun h a ha b hb' h1 h2=>?_⟩,?_,?_⟩
    ·obtain ⟨x1,x2⟩:=u5 h
     simp only [x1] at h1 h2 ⊢
     exact x2 a ha b hb' h1 h2
    ·have h1:=bo_lt64 hb r'
     have h2:=bo_lt64 hb r
     simp only [if_true]
     cases hag:ag with
     | true=>have:=u4 hag; simp only [if_true]; omega
     | false=>rw [(u5 hag).1]; simp
    ·simp only [leq,leA,ev0,evA,evB,evP,fl,gp,tab,simprocAttr,reduceCtorEq,reduceIte]<;>first|trivial|omega
  ·(try simp only [nhs] at hC2)
   subst hC2
   have hfin:bl n r=bl n q:=bl_congr fun a ha=>by
    rw [Bool.eq_iff_iff,hq a ha]
    refine ⟨r3 a ha,fun hg=>?_⟩
    exact Gen.least (H:=fun x=>r x=true) r1 (fun a b ga hb' hpb hH=>r4 rfl a (ga.lt G) b hb' hH (r2 b hb' hpb)) hg
   rw [hfin]
   refine qj (qc (qc (qf (qa (qm ?_)))))
   refine hk_freeze 1 rfl (opl_allP _) ?_
   refine hk_purec 2 0 rfl rfl rfl ⟨by rw [bl_len]; omega,?_⟩ ?_
   ·rw [List.drop_zero,List.take_of_length_le (by rw [bl_len]; omega)]; exact bl_one n q
   simp only [hset,List.set,List.drop_zero]
   rw [List.take_of_length_le (by rw [bl_len]; omega)]
   refine hk_freeze 2 rfl rfl ?_
   simp only [hset]
   refine hk_region fun K hK=>runs_eval tab_ok ?_
   simp only [ev0,evA,evB,evP,fl,gp,tab,simprocAttr,reduceCtorEq,reduceIte]
   refine fin_stop trivial (runs_callG (those_g n m _ _ q (by omega) (fun a ha=>span1_c n a q ha hb)) rfl rfl (by first|rfl|(simp [scG,scA,sc1,opl]; done)|(simp only [scG,List.all_cons,List.all_nil,ol_sc,Bool.and_true]; rfl)) (by simp only [dstOk,Nat.reduceLT]) (by repeat (first|exact trivial|constructor)) (runs_eval tab_ok ?_))
   simp only [Go.Pv.shf,List.range',Blk.ren,opl_ren,ren,ren1,ev0,evA,evB,evP,fl,gp,tab,simprocAttr,reduceCtorEq,reduceIte]
   refine fin_run ?_ (hK _ ?_)<;>clear hK<;>clear K
   ·(first|exact trivial|omega|(simp only [In64] at *; omega)|(simp [In64] at *; omega)|(simp_all; done)|skip)
   refine qa (qk ?_)
   simp only [Tryd.results72,PostG,endG,rvsA,rvA,mkTup,ev0,evA,evB,evP,fl,gp,tab,simprocAttr,reduceCtorEq,reduceIte]
   all_goals (exact ⟨[3],rfl,rfl,rfl,by simp,⟨⟨by rw [opl_ren,List.take_length],opl_sc _ _⟩,trivial⟩,trivial⟩)
theorem span_f {n e : Nat} {m : List Int} (h : GT n m n e) (l : List Int) (hl : l.length ≤ 1000000000000) (hr : ∀ x ∈ l, ∃ a, a < n ∧ x = ((a : Nat) : Int)) (q : Nat → Bool) (hq : ∀ a, a < n → (q a = true ↔ Gen n (op m n) e (tst l) a)) : FnF Tryd.prog 72 [gp n m, .list (il l)] (.list (il (thl n q))) :=
  FnG_fnf (span_g h l hl hr q hq) (il_scal _)
end Go.Proofs.YtboadfahlflmhaaDoor

/-
  Walks: the reference's lists in order; things that make the group. Conditions: none.
-/
set_option linter.all false
namespace Go.Proofs.YtboadfahlflmhaaDoor
open Go.Pv

/-- Less, letter by letter. -/
def lsb : List Int → List Int → Bool
  | a :: r, b :: t => bif decide (a = b) then lsb r t else decide (a < b)
  | _, _ => false
theorem lsb_at {v w : List Int} : ∀ {i : Nat}, (∀ j, j < i → v.getD j 0 = w.getD j 0) → i < v.length → i < w.length → ¬ v.getD i 0 = w.getD i 0 → lsb v w = decide (v.getD i 0 < w.getD i 0) := by
  intro i
  induction i generalizing v w with
  | zero =>
    intro _ hv hw hne
    cases v with
    | nil => simp at hv
    | cons a r =>
      cases w with
      | nil => simp at hw
      | cons b t =>
        have hne' : ¬ a = b := by simpa using hne
        unfold lsb; rw [decide_eq_false hne']; simp
  | succ i ih =>
    intro hall hv hw hne
    cases v with
    | nil => simp at hv
    | cons a r =>
      cases w with
      | nil => simp at hw
      | cons b t =>
        have hab : a = b := by simpa using hall 0 (by omega)
        unfold lsb; rw [decide_eq_true hab]
        have := ih (v := r) (w := t) (fun j hj => by simpa using hall (j + 1) (by omega)) (by simpa using hv) (by simpa using hw) (by simpa using hne)
        simpa using this
theorem lsb_eq {v w : List Int} (hall : ∀ j, j < v.length → v.getD j 0 = w.getD j 0) : lsb v w = false := by
  induction v generalizing w with
  | nil => rfl
  | cons a r ih =>
    cases w with
    | nil => rfl
    | cons b t =>
      have hab : a = b := by simpa using hall 0 (by simp)
      unfold lsb; rw [decide_eq_true hab]
      exact ih fun j hj => by simpa using hall (j + 1) (by simpa using hj)
theorem less_r (v w:List Int) (hv:v.length≤1000000) (hl:w.length=v.length):FnC Tryd.prog 27 [.list (il v),.list (il w)] (.bool (lsb v w)):=by
 refine fnc_of tab_ok Tryd.func27 rfl (by kernel_rfl) (by rw [Tryd.ntmps27]; exact Nat.le_add_left 2 _) ?_; rw [Tryd.ntmps27]
 refine qm ?_
 refine hk_region fun K hK=>runs_eval tab_ok ?_
 simp only [ev0,evA,evB,evP,fl,gp,tab,simprocAttr,reduceCtorEq,reduceIte]
 refine fin_run trivial (hK _ ?_)<;>clear hK<;>clear K
 refine qa (qm (qm ?_))
 refine hk_region fun K hK=>runs_eval tab_ok ?_
 simp only [ev0,evA,evB,evP,fl,gp,tab,simprocAttr,reduceCtorEq,reduceIte]
 refine fin_run trivial (hK _ ?_)<;>clear hK<;>clear K
 refine qa (ql ?_)
 refine hk_loop (ι:=Nat) (fun i=>⟨30,[(0,.p (.list (il v))),(1,.p (.list (il w))),(5,.p (.int .i64 i))],[]⟩) (fun i=>i≤v.length∧∀ j,j < i→v.getD j 0=w.getD j 0) (fun i=>v.length - i) 0 ⟨Nat.zero_le _,fun j hj=>by omega⟩ [] (by simp only [leq,leA,ev0,evA,evB,evP,fl,gp,tab,simprocAttr,reduceCtorEq,reduceIte]<;>trivial) fun i hi=>?_
 obtain ⟨hi1,hi2⟩:=hi
 refine qm (qm ?_)
 refine hk_region fun K hK=>runs_eval tab_ok ?_
 simp only [ev0,evA,evB,evP,fl,gp,tab,simprocAttr,reduceCtorEq,reduceIte]
 refine fin_run trivial (hK _ ?_)<;>clear hK<;>clear K
 refine qa ?_
 refine hk_cond rfl (fun hC1=>?_) (fun hC1=>?_)
 ·(try simp only [nhs] at hC1)
  have hlt:i < v.length:=by omega
  have hlw:i < w.length:=by omega
  refine qh (qa (qm (ql (qm ?_))))
  refine hk_draw mixed (by kernel_rfl) fun K hK=>runs_eval tab_ok ?_
  simp only [ev0,evA,evB,evP,fl,gp,tab,simprocAttr,reduceCtorEq,reduceIte,il_get hlt,il_get hlw]
  refine fin_run ?_ (hK _ ?_)<;>clear hK<;>clear K
  ·(first|exact trivial|omega|(simp only [In64] at *; omega)|(simp [In64] at *; omega)|(simp_all; done)|skip)
  refine qa ?_
  refine hk_cond rfl (fun hC2=>?_) (fun hC2=>?_)
  ·(try simp only [nhs] at hC2)
   refine qm ?_
   refine hk_draw mixed (by kernel_rfl) fun K hK=>runs_eval tab_ok ?_
   simp only [ev0,evA,evB,evP,fl,gp,tab,simprocAttr,reduceCtorEq,reduceIte,il_get hlt,il_get hlw]
   refine fin_run ?_ (hK _ ?_)<;>clear hK<;>clear K
   ·(first|exact trivial|omega|(simp only [In64] at *; omega)|(simp [In64] at *; omega)|(simp_all; done)|skip)
   refine qa (qk (qe (qb (qb (qe (qb ?_))))))
   simp only [Tryd.results27,enA,ev0,evA,evB,evP,fl,gp,tab,simprocAttr,reduceCtorEq,reduceIte]
   all_goals (rw [lsb_at hi2 hlt hlw hC2])
  ·(try simp only [nhs] at hC2)
   refine qh (qd (qa ?_))
   refine hk_region fun K hK=>runs_eval tab_ok ?_
   simp only [ev0,evA,evB,evP,fl,gp,tab,simprocAttr,reduceCtorEq,reduceIte]
   refine fin_run ?_ (hK _ ?_)<;>clear hK<;>clear K
   ·(first|exact trivial|omega|(simp only [In64] at *; omega)|(simp [In64] at *; omega)|(simp_all; done)|skip)
   refine qa ?_
   refine ⟨i + 1,[],⟨by omega,fun j hj=>?_⟩,by omega,?_⟩
   ·by_cases hj:j=i
    ·subst hj; exact hC2
    ·exact hi2 j (by omega)
   ·simp only [leq,leA,ev0,evA,evB,evP,fl,gp,tab,simprocAttr,reduceCtorEq,reduceIte]<;>omega
 ·(try simp only [nhs] at hC1)
  refine qj (qc (qc (qf (qa (qm ?_)))))
  refine hk_region fun K hK=>runs_eval tab_ok ?_
  simp only [ev0,evA,evB,evP,fl,gp,tab,simprocAttr,reduceCtorEq,reduceIte]
  refine fin_run trivial (hK _ ?_)<;>clear hK<;>clear K
  refine qa (qk ?_)
  simp only [Tryd.results27,enA,ev0,evA,evB,evP,fl,gp,tab,simprocAttr,reduceCtorEq,reduceIte]
  all_goals (rw [lsb_eq fun j hj=>hi2 j (by omega)])
theorem lsb_cmp {v w : List Int} (hl : v.length = w.length) (h : cmpL v w < 0) : lsb v w = true := by
  induction v generalizing w with
  | nil =>
    cases w with
    | nil => rw [cmpL_self] at h; exact absurd h (by decide)
    | cons b t => simp at hl
  | cons a r ih =>
    cases w with
    | nil => simp at hl
    | cons b t =>
      unfold lsb
      rcases cmpL_cons_lt.1 h with h1 | ⟨h1, h2⟩
      · rw [decide_eq_false (by omega), decide_eq_true h1]; rfl
      · rw [decide_eq_true h1]; exact ih (by simpa using hl) h2

theorem cmp_lsb {v w : List Int} (hl : v.length = w.length) (h : lsb v w = true) : cmpL v w < 0 := by
  induction v generalizing w with
  | nil => unfold lsb at h; cases h
  | cons a r ih =>
    cases w with
    | nil => simp at hl
    | cons b t =>
      unfold lsb at h
      refine cmpL_cons_lt.2 ?_
      by_cases hab : a = b
      · rw [decide_eq_true hab, cond_true] at h
        exact .inr ⟨hab, ih (by simpa using hl) h⟩
      · rw [decide_eq_false hab, cond_false, decide_eq_true_eq] at h
        exact .inl h
theorem pw_unique {α : Type} {R : α → α → Prop} (anti : ∀ a b, R a b → R b a → a = b) : ∀ (xs ys : List α), xs.Perm ys → xs.Pairwise R → ys.Pairwise R → xs = ys
  | [], ys, h, _, _ => h.symm.eq_nil.symm
  | x :: r, [], h, _, _ => h.eq_nil
  | x :: r, y :: s, h, h1, h2 => by
    have hxy : x = y := by
      have m1 : x ∈ y :: s := h.mem_iff.1 (by simp)
      have m2 : y ∈ x :: r := h.mem_iff.2 (by simp)
      rcases List.mem_cons.1 m1 with h3 | h3
      · exact h3
      · rcases List.mem_cons.1 m2 with h4 | h4
        · exact h4.symm
        · exact anti _ _ ((List.pairwise_cons.1 h1).1 y h4) ((List.pairwise_cons.1 h2).1 x h3)
    subst hxy
    rw [pw_unique anti r s (List.Perm.cons_inv h) (List.pairwise_cons.1 h1).2 (List.pairwise_cons.1 h2).2]
theorem srtL_unique {xs ys : List (List Int)} (h : xs.Perm ys) (hs : ys.Pairwise fun v w => ¬ cmpL w v < 0) : ys = srtL xs :=
  pw_unique (fun a b h1 h2 => cmpL_tot _ _ h2 h1) _ _ (h.symm.trans (srtL_perm xs)) hs (srtL_sorted xs)

/-- Where the sorting stands: up to i in order, but for what stands at k. -/
structure Rsn (c : Nat) (xs : List (List Int)) (i k : Nat) (R : List (List Int)) : Prop where
  perm : R.Perm xs
  ord : ∀ a b, a < b → b ≤ i → b ≠ k → lsb (R.getD b []) (R.getD a []) = false
theorem lsb_tr {c : Nat} {u v w : List Int} (hu : u.length = c) (hv : v.length = c) (hw : w.length = c) (h1 : lsb v u = false) (h2 : lsb w v = false) : lsb w u = false := by
  rw [Bool.eq_false_iff]
  intro h3
  have h3 := cmp_lsb (by omega) h3
  have h1 : ¬ cmpL v u < 0 := fun h => by rw [lsb_cmp (by omega) h] at h1; cases h1
  have h2 : ¬ cmpL w v < 0 := fun h => by rw [lsb_cmp (by omega) h] at h2; cases h2
  exact cmpL_ntrans _ _ _ h2 h1 h3
theorem lsb_as {c : Nat} {v w : List Int} (hv : v.length = c) (hw : w.length = c) (h : lsb v w = true) : lsb w v = false := by
  rw [Bool.eq_false_iff]
  intro h3
  have h4 := cmpL_trans _ _ _ (cmp_lsb (by omega) h) (cmp_lsb (by omega) h3)
  rw [cmpL_self] at h4
  exact absurd h4 (by decide)
section
variable {c : Nat} {xs R : List (List Int)} {i k : Nat}
theorem Rsn.len (h : Rsn c xs i k R) (hc : ∀ v ∈ xs, v.length = c) {a : Nat} (ha : a < xs.length) : (R.getD a []).length = c := by
  have hl := h.perm.length_eq
  refine hc _ (h.perm.mem_iff.1 ?_)
  simp [List.getD, List.getElem?_eq_getElem (show a < R.length by omega)]
theorem Rsn.stop (h : Rsn c xs i k R) (hc : ∀ v ∈ xs, v.length = c) (hi : i < xs.length) (hk : k ≤ i) (hs : k = 0 ∨ lsb (R.getD k []) (R.getD (k - 1) []) = false) : ∀ a b, a < b → b ≤ i → lsb (R.getD b []) (R.getD a []) = false := fun a b hab hb => by
  by_cases hbk : b = k
  · subst hbk
    rcases hs with hs | hs
    · omega
    · by_cases hak : a = b - 1
      · rw [hak]; exact hs
      · exact lsb_tr (h.len hc (by omega)) (h.len hc (show b - 1 < xs.length by omega)) (h.len hc (by omega)) (h.ord a (b - 1) (by omega) (by omega) (by omega)) hs
  · exact h.ord a b hab hb hbk
theorem Rsn.swap (h : Rsn c xs i (k + 1) R) (hc : ∀ v ∈ xs, v.length = c) (hi : i < xs.length) (hk : k + 1 ≤ i) (hs : lsb (R.getD (k + 1) []) (R.getD k []) = true) : Rsn c xs i k ((R.set (k + 1) (R.getD k [])).set k (R.getD (k + 1) [])) := by
  have hl := h.perm.length_eq
  have e1 : R.getD k [] = R[k]'(by omega) := by simp [List.getD, List.getElem?_eq_getElem (show k < R.length by omega)]
  have e2 : R.getD (k + 1) [] = R[k + 1]'(by omega) := by simp [List.getD, List.getElem?_eq_getElem (show k + 1 < R.length by omega)]
  have hg : ∀ j, j < xs.length → ((R.set (k + 1) (R.getD k [])).set k (R.getD (k + 1) [])).getD j [] = if j = k then R.getD (k + 1) [] else if j = k + 1 then R.getD k [] else R.getD j [] := fun j hj => by
    by_cases j1 : j = k
    · subst j1
      rw [if_pos rfl]
      simp [List.getD, show j < R.length by omega]
    · rw [if_neg j1]
      by_cases j2 : j = k + 1
      · subst j2
        rw [if_pos rfl]
        simp only [List.getD, List.getElem?_set_ne (show k ≠ k + 1 by omega)]
        simp [show k + 1 < R.length by omega]
      · rw [if_neg j2]
        simp only [List.getD, List.getElem?_set_ne (Ne.symm j1), List.getElem?_set_ne (Ne.symm j2)]
  refine ⟨?_, fun a b hab hb hbk => ?_⟩
  · have := List.set_set_perm (show k + 1 < R.length by omega) (show k < R.length by omega)
    rw [e1, e2]
    exact this.trans h.perm
  · rw [hg a (by omega), hg b (by omega), if_neg hbk]
    by_cases b1 : b = k + 1
    · rw [if_pos b1]
      by_cases a1 : a = k
      · rw [if_pos a1]
        exact lsb_as (h.len hc (by omega)) (h.len hc (by omega)) hs
      · rw [if_neg a1, if_neg (by omega)]
        exact h.ord a k (by omega) (by omega) (by omega)
    · rw [if_neg b1]
      by_cases a1 : a = k
      · rw [if_pos a1]
        exact h.ord (k + 1) b (by omega) hb b1
      · rw [if_neg a1]
        by_cases a2 : a = k + 1
        · rw [if_pos a2]
          exact h.ord k b (by omega) hb b1
        · rw [if_neg a2]
          exact h.ord a b hab hb b1
end

set_option maxHeartbeats 4000000 in
theorem rising_c (c:Nat) (xs:List (List Int)) (hl:xs.length≤1000000) (hcl:c≤1000000) (hc:∀ v∈xs,v.length=c):FnM Tryd.prog 22 [.sl 0 0 xs.length] [.own (opl (ll xs))] (.sl 0 0 xs.length) [.own (opl (ll (srtL xs)))]:=by
 refine fnm_of tab_ok Tryd.func22 rfl (by kernel_rfl) (by rw [Tryd.ntmps22]; exact Nat.le_add_left 1 _) ?_; rw [Tryd.ntmps22]; simp only [ancs,entA,List.length_cons,List.length_nil,List.cons_append,List.nil_append,Nat.reduceAdd,Nat.zero_add]
 refine qm ?_
 refine hk_region fun K hK=>runs_eval tab_ok ?_
 simp only [ev0,evA,evB,evP,fl,gp,tab,simprocAttr,reduceCtorEq,reduceIte]
 refine fin_run trivial (hK _ ?_)<;>clear hK<;>clear K
 refine qa (qm (qm ?_))
 refine hk_region fun K hK=>runs_eval tab_ok ?_
 simp only [ev0,evA,evB,evP,fl,gp,tab,simprocAttr,reduceCtorEq,reduceIte]
 refine fin_run trivial (hK _ ?_)<;>clear hK<;>clear K
 refine qa (ql ?_)
 refine hk_loop (ι:=Nat × List (List Int)) (fun p=>⟨45,[(0,.sl 0 0 xs.length),(3,.p (.int .i64 ((p.1 + 1:Nat):Int)))],[.own (opl (ll p.2)),.anc 0 0]⟩) (fun p=>(p.1 + 1≤xs.length∨p.1=0)∧p.2.Perm xs∧∀ a b,a < b→b≤p.1→lsb (p.2.getD b []) (p.2.getD a [])=false) (fun p=>xs.length - p.1) (0,xs) ⟨.inr rfl,List.Perm.refl _,fun a b h1 h2=>by omega⟩ [0,1] (by simp only [leq,leA,ev0,evA,evB,evP,fl,gp,tab,simprocAttr,reduceCtorEq,reduceIte,ll_takeL]<;>first|trivial|trace_state) fun p hp=>?_
 obtain ⟨i,R⟩:=p
 obtain ⟨h1,h2,h3⟩:=hp
 simp only at h1 h2 h3
 have hRl:=h2.length_eq
 have hRtk:List.take xs.length (ll R)=ll R:=List.take_of_length_le (by rw [ll_length]; omega)
 refine qm (qm ?_)
 refine hk_region fun K hK=>runs_eval tab_ok ?_
 simp only [ev0,evA,evB,evP,fl,gp,tab,simprocAttr,reduceCtorEq,reduceIte]
 refine fin_run trivial (hK _ ?_)<;>clear hK<;>clear K
 refine qa ?_
 refine hk_cond rfl (fun hC1=>?_) (fun hC1=>?_)
 ·(try simp only [nhs] at hC1)
  have hil:i + 1 < xs.length:=by omega
  refine qh (qa (qm (ql (qm ?_))))
  refine hk_region fun K hK=>runs_eval tab_ok ?_
  simp only [ev0,evA,evB,evP,fl,gp,tab,simprocAttr,reduceCtorEq,reduceIte]
  refine fin_run trivial (hK _ ?_)<;>clear hK<;>clear K
  refine qa (ql ?_)
  refine hk_loop (ι:=Nat × List (List Int)) (fun p=>⟨45,[(0,.sl 0 0 xs.length),(3,.p (.int .i64 ((i + 1:Nat):Int))),(4,.p (.int .i64 p.1))],[.own (opl (ll p.2)),.anc 0 0]⟩) (fun p=>p.1≤i + 1∧Rsn c xs (i + 1) p.1 p.2) (fun p=>p.1) (i + 1,R) ⟨Nat.le_refl _,h2,fun a b q1 q2 q3=>h3 a b q1 (by omega)⟩ [0,1] (by simp only [leq,leA,ev0,evA,evB,evP,fl,gp,tab,simprocAttr,reduceCtorEq,reduceIte,ll_takeL]<;>first|trivial|trace_state) fun p hp=>?_
  obtain ⟨k,R2⟩:=p
  obtain ⟨r1,r2⟩:=hp
  simp only at r1 r2
  have hR2:=r2.perm.length_eq
  refine qm (qm ?_)
  rcases Nat.eq_zero_or_pos k with hk0 | hk0
  ·subst hk0
   refine hk_draw mixed (by kernel_rfl) fun K hK=>runs_eval tab_ok ?_
   simp only [ev0,evA,evB,evP,fl,gp,tab,simprocAttr,reduceCtorEq,reduceIte,decide_eq_false (show ¬ ((0:Nat):Int) > 0 by omega)]
   refine fin_run trivial (hK _ ?_)<;>clear hK<;>clear K
   refine qa ?_
   refine hk_cond rfl (fun hC2=>?_) (fun hC2=>?_)
   ·cases hC2
   ·refine qj (qc (qc (qf (qd (qa ?_)))))
    refine hk_region fun K hK=>runs_eval tab_ok ?_
    simp only [ev0,evA,evB,evP,fl,gp,tab,simprocAttr,reduceCtorEq,reduceIte]
    refine fin_run ?_ (hK _ ?_)<;>clear hK<;>clear K
    ·(first|exact trivial|omega|(simp only [In64] at *; omega)|(simp [In64] at *; omega)|(simp_all; done)|skip)
    refine qa ?_
    have htk2:List.take xs.length (ll R2)=ll R2:=List.take_of_length_le (by rw [ll_length]; omega)
    refine ⟨(i + 1,R2),[0,1],⟨.inl (by simp only; omega),r2.perm,r2.stop hc hil (by omega) (.inl rfl)⟩,by simp only; omega,?_⟩
    simp only [leq,leA,ev0,evA,evB,evP,fl,gp,tab,simprocAttr,reduceCtorEq,reduceIte,ll_takeL]<;>first|trivial|omega|trace_state
  ·obtain ⟨j,rfl⟩:∃ j,k=j + 1:=⟨k - 1,by omega⟩
   have ej:((j + 1:Nat):Int) - 1=((j:Nat):Int):=by omega
   refine hk_draw mixed (by kernel_rfl) fun K hK=>runs_eval tab_ok ?_
   simp only [ev0,evA,evB,evP,fl,gp,tab,simprocAttr,reduceCtorEq,reduceIte,decide_eq_true (show ((j + 1:Nat):Int) > 0 by omega),ej,oll_get (show j + 1 < R2.length by omega),oll_get (show j < R2.length by omega)]
   refine fin_stop ?_ (runs_call (less_r (R2.getD (j + 1) []) (R2.getD j []) (by rw [r2.len hc (by omega)]; exact hcl) (by rw [r2.len hc (by omega),r2.len hc (by omega)])) rfl rfl rfl (by simp only [dstOk,Nat.reduceLT]) (by repeat (first|exact trivial|constructor)) (runs_eval tab_ok ?_))
   ·exact ⟨⟨⟨⟨⟨by omega,by omega⟩,by omega⟩,by simp only [In64]; omega⟩,by omega,by omega⟩,by omega⟩
   simp only [ev0,evA,evB,evP,fl,gp,tab,simprocAttr,reduceCtorEq,reduceIte,decide_eq_true (show ((j + 1:Nat):Int) > 0 by omega),ej,oll_get (show j + 1 < R2.length by omega),oll_get (show j < R2.length by omega)]
   refine fin_run ?_ (hK _ ?_)<;>clear hK<;>clear K
   ·(first|exact trivial|omega|(simp only [In64] at *; omega)|(simp [In64] at *; omega)|(simp_all; done)|skip)
   refine qa ?_
   refine hk_cond rfl (fun hC2=>?_) (fun hC2=>?_)
   ·(try simp only [nhs] at hC2)
    refine qh (qa (qm (ql ?_)))
    refine hk_draw mixed (by kernel_rfl) fun K hK=>runs_eval tab_ok ?_
    simp only [ev0,evA,evB,evP,fl,gp,tab,simprocAttr,reduceCtorEq,reduceIte,ej,oll_get (show j + 1 < R2.length by omega),oll_get (show j < R2.length by omega),oll_set2]
    refine fin_run ?_ (hK _ ?_)<;>clear hK<;>clear K
    ·(first|exact trivial|omega|(simp only [In64] at *; omega)|(simp [In64] at *; omega)|(simp_all; done)|skip)
    refine qd (qa ?_)
    refine hk_region fun K hK=>runs_eval tab_ok ?_
    simp only [ev0,evA,evB,evP,fl,gp,tab,simprocAttr,reduceCtorEq,reduceIte]
    refine fin_run ?_ (hK _ ?_)<;>clear hK<;>clear K
    ·(first|exact trivial|omega|(simp only [In64] at *; omega)|(simp [In64] at *; omega)|(simp_all; done)|skip)
    refine qa ?_
    have hsw:=r2.swap hc (by omega) (by omega) (by simpa using hC2)
    have hpl:=hsw.perm.length_eq
    have htk2:List.take xs.length (ll ((R2.set (j + 1) (R2.getD j [])).set j (R2.getD (j + 1) [])))=ll ((R2.set (j + 1) (R2.getD j [])).set j (R2.getD (j + 1) [])):=List.take_of_length_le (by rw [ll_length]; omega)
    refine ⟨(j,(R2.set (j + 1) (R2.getD j [])).set j (R2.getD (j + 1) [])),[0,1],⟨by simp only; omega,hsw⟩,by simp only; omega,?_⟩
    simp only [leq,leA,ev0,evA,evB,evP,fl,gp,tab,simprocAttr,reduceCtorEq,reduceIte,ll_takeL]<;>first|trivial|omega|exact ⟨rfl,by omega⟩|trace_state
   ·(try simp only [nhs] at hC2)
    refine qj (qc (qc (qf (qd (qa ?_)))))
    refine hk_region fun K hK=>runs_eval tab_ok ?_
    simp only [ev0,evA,evB,evP,fl,gp,tab,simprocAttr,reduceCtorEq,reduceIte]
    refine fin_run ?_ (hK _ ?_)<;>clear hK<;>clear K
    ·(first|exact trivial|omega|(simp only [In64] at *; omega)|(simp [In64] at *; omega)|(simp_all; done)|skip)
    refine qa ?_
    have htk2:List.take xs.length (ll R2)=ll R2:=List.take_of_length_le (by rw [ll_length]; omega)
    refine ⟨(i + 1,R2),[0,1],⟨.inl (by simp only; omega),r2.perm,r2.stop hc hil (by omega) (.inr (by simpa using hC2))⟩,by simp only; omega,?_⟩
    simp only [leq,leA,ev0,evA,evB,evP,fl,gp,tab,simprocAttr,reduceCtorEq,reduceIte,ll_takeL]<;>first|trivial|omega|trace_state
 ·(try simp only [nhs] at hC1)
  have hR:R=srtL xs:=srtL_unique h2.symm (by
   refine List.pairwise_iff_getElem.2 fun a b ha hb hab hlt=>?_
   have h4:=h3 a b hab (by omega)
   have e1:R.getD a []=R[a]:=by simp [List.getD,List.getElem?_eq_getElem ha]
   have e2:R.getD b []=R[b]:=by simp [List.getD,List.getElem?_eq_getElem hb]
   rw [e1,e2,lsb_cmp (by rw [hc _ (h2.mem_iff.1 (List.getElem_mem ha)),hc _ (h2.mem_iff.1 (List.getElem_mem hb))]) hlt] at h4
   cases h4)
  rw [hR]
  have hsl:=(srtL_perm xs).length_eq
  have htk2:List.take (srtL xs).length (ll (srtL xs))=ll (srtL xs):=ll_takeL _
  refine qj (qc (qc (qf (qa (qm ?_)))))
  refine hk_region fun K hK=>runs_eval tab_ok ?_
  simp only [ev0,evA,evB,evP,fl,gp,tab,simprocAttr,reduceCtorEq,reduceIte]
  refine fin_run trivial (hK _ ?_)<;>clear hK<;>clear K
  refine qa (qk ?_)
  simp only [Tryd.results22,PostG,endG,rvsA,rvA,mkTup,ev0,evA,evB,evP,fl,gp,tab,simprocAttr,reduceCtorEq,reduceIte]
  all_goals (exact ⟨[0,1],rfl,rfl,by simp only [leq,leA,ev0,evA,evB,evP,fl,gp,tab,simprocAttr,reduceCtorEq,reduceIte]<;>first|trivial|(rw [htk2]; done)|trace_state⟩)

open Classical in
/-- The makers: from the last thing down, what is not made yet. -/
noncomputable def mkS (n : Nat) (m : List Int) (e : Nat) : Nat → List Int
  | 0 => []
  | i + 1 => if Gen n (op m n) e (tst (mkS n m e i)) (n - 1 - i) then mkS n m e i else mkS n m e i ++ [((n - 1 - i : Nat) : Int)]

theorem mkS_len (n : Nat) (m : List Int) (e : Nat) : ∀ i, (mkS n m e i).length ≤ i
  | 0 => by simp [mkS]
  | i + 1 => by
    have := mkS_len n m e i
    rw [mkS]
    split
    · omega
    · simp; omega
theorem mkS_mem {n : Nat} {m : List Int} {e : Nat} (hn : 1 ≤ n) : ∀ i, ∀ x ∈ mkS n m e i, ∃ a, a < n ∧ x = ((a : Nat) : Int)
  | 0 => by simp [mkS]
  | i + 1 => by
    have ih := mkS_mem (m := m) (e := e) hn i
    rw [mkS]
    split
    · exact ih
    · intro x hx
      rcases List.mem_append.1 hx with hx | hx
      · exact ih x hx
      · rw [List.mem_singleton] at hx
        exact ⟨n - 1 - i, by omega, hx⟩
theorem mkS_mono {n : Nat} {m : List Int} {e : Nat} {i : Nat} {a : Nat} (h : tst (mkS n m e i) a = true) : tst (mkS n m e (i + 1)) a = true := by
  rw [mkS]
  split
  · exact h
  · unfold tst at *
    simp only [decide_eq_true_eq] at *
    exact List.mem_append_left _ h
theorem mkS_gen {n : Nat} {m : List Int} {e : Nat} (G : Grp n (op m n) e) : ∀ i, i ≤ n → ∀ a, n - i ≤ a → a < n → Gen n (op m n) e (tst (mkS n m e i)) a
  | 0, _, a, h1, h2 => by omega
  | i + 1, hi, a, h1, h2 => by
    by_cases ha : n - i ≤ a
    · exact Gen.mono (fun b _ hb => mkS_mono hb) (mkS_gen G i (by omega) a ha h2)
    · have hai : a = n - 1 - i := by omega
      rw [mkS]
      split
      · rw [hai]; assumption
      · refine Gen.mem G h2 ?_
        unfold tst
        rw [hai]
        simp
theorem mkS_all {n : Nat} {m : List Int} {e : Nat} {i : Nat} (h : ∀ a, a < n → Gen n (op m n) e (tst (mkS n m e i)) a) (hn : 1 ≤ n) : ∀ d, mkS n m e (i + d) = mkS n m e i
  | 0 => rfl
  | d + 1 => by
    have ih := mkS_all h hn d
    rw [← Nat.add_assoc, mkS, ih, if_pos (h _ (by omega))]

/-- What the makers make is all. -/
theorem mk_gen {n : Nat} {m : List Int} {e : Nat} (G : Grp n (op m n) e) {a : Nat} (ha : a < n) : Gen n (op m n) e (tst (mkS n m e n)) a := mkS_gen G n (Nat.le_refl _) a (by omega) ha

theorem makers_c {n e:Nat} {m:List Int} (h:GT n m n e):FnC Tryd.prog 89 [gp n m] (.list (il (mkS n m e n))):=by
 have T:=h.2.1
 have G:=h.2.2
 have hb:=T.big
 have hpos:=T.pos
 refine fnc_of tab_ok Tryd.func89 rfl (by kernel_rfl) (by rw [Tryd.ntmps89]; exact Nat.le_add_left 1 _) ?_; rw [Tryd.ntmps89]
 refine qm ?_
 refine hk_region fun K hK=>runs_eval tab_ok ?_
 simp only [ev0,evA,evB,evP,fl,gp,tab,simprocAttr,reduceCtorEq,reduceIte]
 refine fin_run ?_ (hK _ ?_)<;>clear hK<;>clear K
 ·(first|exact trivial|omega|(simp only [In64] at *; omega)|(simp [In64] at *; omega)|(simp_all; done)|skip)
 refine qa (qm ?_)
 refine hk_region fun K hK=>runs_eval tab_ok ?_
 simp only [ev0,evA,evB,evP,fl,gp,tab,simprocAttr,reduceCtorEq,reduceIte]
 refine fin_run trivial (hK _ ?_)<;>clear hK<;>clear K
 refine qa (qm (qm ?_))
 refine hk_own0 3 rfl ?_
 refine hk_region fun K hK=>runs_eval tab_ok ?_
 simp only [ev0,evA,evB,evP,fl,gp,tab,simprocAttr,reduceCtorEq,reduceIte]
 refine fin_run ?_ (hK _ ?_)<;>clear hK<;>clear K
 ·(first|exact trivial|omega|(simp only [In64] at *; omega)|(simp [In64] at *; omega)|(simp_all; done)|skip)
 refine qa (ql ?_)
 refine hk_loop (ι:=Nat) (fun i=>⟨32,[(1,.ptr 0 0),(3,.sl 1 0 (mkS n m e i).length),(4,.p (.int .i64 ((n:Int) - 1 - i)))],[.own [.p (.int .i64 n),.p (.list (il m))],.own (ol (mkS n m e i))]⟩) (fun i=>i≤n) (fun i=>n - i) 0 (Nat.zero_le _) [0,1] (by simp only [leq,leA,ev0,evA,evB,evP,fl,gp,tab,simprocAttr,reduceCtorEq,reduceIte]<;>simp [mkS,ol_nil]) fun i hi=>?_
 have hl:=mkS_len n m e i
 have hmem:=mkS_mem (m:=m) (e:=e) hpos i
 obtain ⟨q,hq⟩:=gen_ex n (op m n) e (tst (mkS n m e i))
 have hsp:=span_f h (mkS n m e i) (by omega) hmem q hq
 have hql:=thl_le n q
 refine qm (qm ?_)
 by_cases g3a:(n:Int) - 1 - (i:Int) ≥ 0
 ·refine hk_draw mixed (by kernel_rfl) fun K hK=>runs_eval tab_ok ?_
  simp only [ev0,evA,evB,evP,fl,gp,tab,simprocAttr,reduceCtorEq,reduceIte,decide_eq_true g3a]
  refine fin_stop ?_ (runs_callF (hsp) rfl (by simp only [callA,peekList,peekG,peekS,List.map_cons,List.map_nil,List.append_nil,enA,ev0,evA,evB,evP,fl,gp,tab,simprocAttr,reduceCtorEq,reduceIte,List.drop_zero,ol_drop,ol_take,take_len,ol_allP,il_all,il_length]; rfl) (by simp only [dstOk,Nat.reduceLT]) ?_ (runs_eval tab_ok ?_))
  ·(first|exact trivial|omega|(simp only [In64] at *; omega)|(simp [In64] at *; omega)|(simp_all; done)|skip)
  ·(first|exact trivial|omega|(simp only [In64] at *; omega)|(simp [In64] at *; omega)|(simp_all; done)|skip)
  simp only [ev0,evA,evB,evP,fl,gp,tab,simprocAttr,reduceCtorEq,reduceIte,decide_eq_true g3a]
  refine fin_run ?_ (hK _ ?_)<;>clear hK<;>clear K
  ·(first|exact trivial|omega|(simp only [In64] at *; omega)|(simp [In64] at *; omega)|(simp_all; done)|skip)
  refine qa ?_
  refine hk_cond rfl (fun hC1=>?_) (fun hC1=>?_)
  ·(try simp only [nhs] at hC1)
   have hil:i < n:=by omega
   have hai:(n:Int) - 1 - (i:Int)=((n - 1 - i:Nat):Int):=by omega
   refine qh (qa (qm (ql (qm ?_))))
   refine hk_region fun K hK=>runs_eval tab_ok ?_
   simp only [ev0,evA,evB,evP,fl,gp,tab,simprocAttr,reduceCtorEq,reduceIte,hai]
   refine fin_stop ?_ (runs_callF (hsp) rfl (by simp only [callA,peekList,peekG,peekS,List.map_cons,List.map_nil,List.append_nil,enA,ev0,evA,evB,evP,fl,gp,tab,simprocAttr,reduceCtorEq,reduceIte,List.drop_zero,ol_drop,ol_take,take_len,ol_allP,il_all,il_length]; rfl) (by simp only [dstOk,Nat.reduceLT]) ?_ (runs_eval tab_ok ?_))
   ·(first|exact trivial|omega|(simp only [In64] at *; omega)|(simp [In64] at *; omega)|(simp_all; done)|skip)
   ·(first|exact trivial|omega|(simp only [In64] at *; omega)|(simp [In64] at *; omega)|(simp_all; done)|skip)
   simp only [ev0,evA,evB,evP,fl,gp,tab,simprocAttr,reduceCtorEq,reduceIte,hai]
   refine fin_stop trivial (runs_call (has_r (thl n q) (n - 1 - i:Nat) (by omega)) rfl rfl rfl (by simp only [dstOk,Nat.reduceLT]) (by repeat (first|exact trivial|constructor)) (runs_eval tab_ok ?_))
   simp only [ev0,evA,evB,evP,fl,gp,tab,simprocAttr,reduceCtorEq,reduceIte,hai]
   refine fin_run ?_ (hK _ ?_)<;>clear hK<;>clear K
   ·(first|exact trivial|omega|(simp only [In64] at *; omega)|(simp [In64] at *; omega)|(simp_all; done)|skip)
   refine qa ?_
   refine hk_cond rfl (fun hC2=>?_) (fun hC2=>?_)
   ·(try simp only [nhs] at hC2)
    have hng:¬ Gen n (op m n) e (tst (mkS n m e i)) (n - 1 - i):=fun hg=>hC2 (mem_thl.2 ⟨_,by omega,(hq _ (by omega)).2 hg,rfl⟩)
    have hmk:mkS n m e (i + 1)=mkS n m e i++[((n - 1 - i:Nat):Int)]:=by rw [mkS,if_neg hng]
    refine hk_region fun K hK=>runs_eval tab_ok ?_
    simp only [ev0,evA,evB,evP,fl,gp,tab,simprocAttr,reduceCtorEq,reduceIte,hai]
    refine fin_run ?_ (hK _ ?_)<;>clear hK<;>clear K
    ·(first|exact trivial|omega|(simp only [In64] at *; omega)|(simp [In64] at *; omega)|(simp_all; done)|skip)
    refine qd (qa ?_)
    refine hk_region fun K hK=>runs_eval tab_ok ?_
    simp only [ev0,evA,evB,evP,fl,gp,tab,simprocAttr,reduceCtorEq,reduceIte]
    refine fin_run ?_ (hK _ ?_)<;>clear hK<;>clear K
    ·(first|exact trivial|omega|(simp only [In64] at *; omega)|(simp [In64] at *; omega)|(simp_all; done)|skip)
    refine qa ?_
    refine ⟨i + 1,[0,2],by omega,by omega,?_⟩
    rw [hmk]
    simp only [leq,leA,ev0,evA,evB,evP,fl,gp,tab,simprocAttr,reduceCtorEq,reduceIte]<;>first|trivial|omega
   ·(try simp only [nhs] at hC2)
    have hg:Gen n (op m n) e (tst (mkS n m e i)) (n - 1 - i):=by
     obtain ⟨a,a1,a2,a3⟩:=mem_thl.1 hC2
     have:n - 1 - i=a:=by omega
     rw [this]; exact (hq a a1).1 a2
    have hmk:mkS n m e (i + 1)=mkS n m e i:=by rw [mkS,if_pos hg]
    refine qh (qd (qa ?_))
    refine hk_region fun K hK=>runs_eval tab_ok ?_
    simp only [ev0,evA,evB,evP,fl,gp,tab,simprocAttr,reduceCtorEq,reduceIte]
    refine fin_run ?_ (hK _ ?_)<;>clear hK<;>clear K
    ·(first|exact trivial|omega|(simp only [In64] at *; omega)|(simp [In64] at *; omega)|(simp_all; done)|skip)
    refine qa ?_
    refine ⟨i + 1,[0,1],by omega,by omega,?_⟩
    rw [hmk]
    simp only [leq,leA,ev0,evA,evB,evP,fl,gp,tab,simprocAttr,reduceCtorEq,reduceIte]<;>first|trivial|omega
  ·(try simp only [nhs] at hC1)
   refine qj (qc (qc (qf (qa (qm ?_)))))
   refine hk_region fun K hK=>runs_eval tab_ok ?_
   simp only [ev0,evA,evB,evP,fl,gp,tab,simprocAttr,reduceCtorEq,reduceIte]
   refine fin_run trivial (hK _ ?_)<;>clear hK<;>clear K
   refine qa (qk ?_)
   simp only [Tryd.results89,enA,ev0,evA,evB,evP,fl,gp,tab,simprocAttr,reduceCtorEq,reduceIte]
   have hall:∀ a,a < n→Gen n (op m n) e (tst (mkS n m e i)) a:=fun a ha=>(hq a ha).1 ((thl_full n q).2 (by omega) a ha)
   have hmk:=mkS_all hall hpos (n - i)
   rw [show i + (n - i)=n by omega] at hmk
   simp [hmk]
 ·refine hk_draw mixed (by kernel_rfl) fun K hK=>runs_eval tab_ok ?_
  simp only [ev0,evA,evB,evP,fl,gp,tab,simprocAttr,reduceCtorEq,reduceIte,decide_eq_false g3a]
  refine fin_run trivial (hK _ ?_)<;>clear hK<;>clear K
  refine qa ?_
  refine hk_cond rfl (fun hC1=>?_) (fun hC1=>?_)
  ·cases hC1
  ·refine qj (qc (qc (qf (qa (qm ?_)))))
   refine hk_region fun K hK=>runs_eval tab_ok ?_
   simp only [ev0,evA,evB,evP,fl,gp,tab,simprocAttr,reduceCtorEq,reduceIte]
   refine fin_run trivial (hK _ ?_)<;>clear hK<;>clear K
   refine qa (qk ?_)
   simp only [Tryd.results89,enA,ev0,evA,evB,evP,fl,gp,tab,simprocAttr,reduceCtorEq,reduceIte]
   have hin:i=n:=by omega
   simp [hin]

end Go.Proofs.YtboadfahlflmhaaDoor

/-
  Walks: the reference's search for all homomorphisms. Conditions: none.
-/
set_option linter.all false
namespace Go.Proofs.YtboadfahlflmhaaDoor
open Go.Pv

section
variable {n e N d : Nat} {m M : List Int}
/-- The list's protocol: all, up to a thousand. -/
def prH (mo : Nat) : Prot (List PV) where
  c4 _ := .nil
  c51 _ := .int .i64 0
  c52 _ := .int .i64 0
  R l := l
  go l x := decide (l.length + 1 ≤ mo)
  nx l x := l ++ [x]
  ok l := l.length ≤ mo ∧ l.all PV.one = true
  okx x := ∃ v, x = .list (il v)
  ok_nx l x h hx hg := by
    simp only [decide_eq_true_eq] at hg
    refine ⟨by simp; omega, ?_⟩
    rw [List.all_append, h.2]
    obtain ⟨v, rfl⟩ := hx
    rfl
  ones l h := h.2
theorem foldH (mo : Nat) : ∀ (xs l : List PV), (l ++ xs).length ≤ mo → foldS (prH mo) l xs = (l ++ xs, true)
  | [], l, h => by simp [foldS]
  | x :: xs, l, h => by
    unfold foldS
    have h1 : l.length + 1 ≤ mo := by simp at h; omega
    have hg : (prH mo).go l x = true := decide_eq_true h1
    rw [hg, if_pos rfl]
    have := foldH mo xs (l ++ [x]) (by simpa [List.append_assoc] using h)
    rw [List.append_assoc] at this
    exact this
theorem foldH_no (mo : Nat) : ∀ (xs l : List PV), l.length ≤ mo → ¬ (l ++ xs).length ≤ mo → ∃ j, foldS (prH mo) l xs = (j, false)
  | [], l, h, h' => absurd (by simpa using h) h'
  | x :: xs, l, h, h' => by
    unfold foldS
    by_cases h1 : l.length + 1 ≤ mo
    · have hg : (prH mo).go l x = true := decide_eq_true h1
      rw [hg, if_pos rfl]
      exact foldH_no mo xs (l ++ [x]) (by simp; omega) (by simpa [List.append_assoc] using h')
    · have hg : (prH mo).go l x = false := decide_eq_false h1
      rw [hg]
      exact ⟨_, rfl⟩
def odl (N : Nat) (M : List Int) (d : Nat) : List Int := tbm N fun y => ord N (op M N) d y
def HM (mo n : Nat) (m : List Int) (N : Nat) (M : List Int) (d : Nat) (L t : List Nat) (i : List PV) : Heap :=
  [.own [.sl 3 0 L.length], .own [.sl 4 0 i.length], .own [.cl 90 [.p (.ptr [.list (il (nl L))]), .p (.ptr [.int .i64 n, .list (il m)]), .p (.ptr [.int .i64 N, .list (il M)]), .ptr 0 0, .ptr 1 0, .p (.ptr [.int .i64 (mo : Nat)]), .p (.ptr [.list (il (odl N M d))]), .ptr 2 0]],
   .own (rwd t L.length), .own (opl i)]
def RNext (mo n : Nat) (m : List Int) (e N : Nat) (M : List Int) (d : Nat) (L r t : List Nat) (i : List PV) : Prop :=
  FnQ Tryd.prog 4 90 [.p (.int .i64 t.length), .p (.ptr [.list (il (nl L))]), .p (.ptr [.int .i64 n, .list (il m)]), .p (.ptr [.int .i64 N, .list (il M)]), .ptr 0 0, .ptr 1 0, .p (.ptr [.int .i64 (mo : Nat)]), .p (.ptr [.list (il (odl N M d))]), .ptr 2 0]
    (HM mo n m N M d L t i) (.p (.bool (foldS (prH mo) i (pls (hsq n (op m n) e N (op M N) d L r t))).2)) (HM mo n m N M d L t (foldS (prH mo) i (pls (hsq n (op m n) e N (op M N) d L r t))).1)

set_option maxHeartbeats 8000000 in
set_option maxRecDepth 20000 in
theorem rleaf1 {mo:Nat} (hmo:mo≤100000) (h:GT n m n e) (h' : GT N M N d) (L:List Nat) (hll:L.length≤n) (hLlt:∀ x∈L,x < n) (hLg:∀ a,a < n→Gen n (op m n) e (fun x=>decide (x∈L)) a) (t:List Nat) (i:List PV) (htl:t.length=L.length) (hty:∀ y∈t,y < N) (hi:(prH mo).ok i) (hex:∃ φ,Ext n (op m n) N (op M N) L t φ):RNext mo n m e N M d L [] t i:=by
 have hn:=h.2.1.big
 have hN:=h'.2.1.big
 have hpos:0 < n:=h.2.1.pos
 have hnt:=nl_len t
 have hnL:=nl_len L
 obtain ⟨hi1,hi2⟩:=hi
 have hio:=opl_ok hi2
 have hF:∀ i,i < L.length→L.getD i 0 < n:=fun i hi=>hLlt _ (by simp [List.getD,List.getElem?_eq_getElem hi])
 have hT:∀ i,i < L.length→t.getD i 0 < N:=fun i hi=>hty _ (by simp [List.getD,List.getElem?_eq_getElem (show i < t.length by omega)])
 have hnn:(nl L).length=(nl t).length:=by omega
 unfold RNext
 have hs:hsq n (op m n) e N (op M N) d L [] t=[tbm n (Classical.choose hex)]:=by unfold hsq hlf; rw [dif_pos hex]
 have hφ:=Classical.choose_spec hex
 generalize Classical.choose hex=φ at hs hφ
 have hsp:=rspread_yes h h' L t htl.symm (by omega) hF hT hLg hφ
 have hpl:pls (hsq n (op m n) e N (op M N) d L [] t)=[.list (il (tbm n φ))]:=by rw [hs]; rfl
 have htb:=tbm_len n φ
 have hne:il (tbm n φ) ≠ []:=by
  intro hh
  have h1:=congrArg List.length hh
  rw [il_length,htb] at h1
  simp only [List.length_nil] at h1
  omega
 rw [hpl]
 have hf1:foldS (prH mo) i [PV.list (il (tbm n φ))]=(i++[.list (il (tbm n φ))],decide (i.length + 1≤mo)):=by
  have h1:(prH mo).go i (.list (il (tbm n φ)))=decide (i.length + 1≤mo):=by simp [prH]
  have h2:(prH mo).nx i (.list (il (tbm n φ)))=i++[.list (il (tbm n φ))]:=by simp [prH]
  simp only [foldS,h1,h2]
  split<;>simp_all
 rw [hf1]
 refine fnq_of (q:=4) tab_ok Tryd.func90 rfl (by kernel_rfl) (by rw [Tryd.ntmps90]; exact Nat.le_add_left 9 _) ?_; rw [Tryd.ntmps90]; simp only [ancs,entA,List.length_cons,List.length_nil,List.cons_append,List.nil_append,Nat.reduceAdd,Nat.zero_add]
 simp only [HM,rwd_full htl,List.append_nil,List.cons_append,List.nil_append]
 rw [show L.length=(nl t).length by omega]
 refine qm ?_
 refine hk_region fun K hK=>runs_eval tab_ok ?_
 simp only [ev0,evA,evB,evP,fl,gp,tab,simprocAttr,reduceCtorEq,reduceIte]
 refine fin_run trivial (hK _ ?_)<;>clear hK<;>clear K
 refine qa (qm (qm ?_))
 refine hk_region fun K hK=>runs_eval tab_ok ?_
 simp only [ev0,evA,evB,evP,fl,gp,tab,simprocAttr,reduceCtorEq,reduceIte,il_length,hnn]
 refine fin_run ?_ (hK _ ?_)<;>clear hK<;>clear K
 ·(first|exact trivial|omega|(simp only [In64] at *; omega)|(simp [In64] at *; omega)|(simp_all; done)|skip)
 refine qa ?_
 refine hk_cond rfl (fun hC1=>?_) (fun hC1=>?_)
 ·(try simp only [nhs] at hC1)
  refine qm ?_
  refine hk_region fun K hK=>runs_eval tab_ok ?_
  simp only [ev0,evA,evB,evP,fl,gp,tab,simprocAttr,reduceCtorEq,reduceIte]
  refine fin_stop ?_ (runs_callF (FnG_fnf hsp (by simp [il,PV.sc])) rfl (by simp only [callA,peekList,peekG,peekS,List.map_cons,List.map_nil,List.append_nil,enA,ev0,evA,evB,evP,fl,gp,tab,simprocAttr,reduceCtorEq,reduceIte,List.drop_zero,ol_drop,ol_take,take_len,ol_allP,il_all,il_length]; rfl) (by simp only [dstOk,Nat.reduceLT]) ?_ (runs_eval tab_ok ?_))
  ·(first|exact trivial|omega|(simp only [In64] at *; omega)|(simp [In64] at *; omega)|(simp_all; done)|skip)
  ·(first|exact trivial|omega|(simp only [In64] at *; omega)|(simp [In64] at *; omega)|(simp_all; done)|skip)
  simp only [ev0,evA,evB,evP,fl,gp,tab,simprocAttr,reduceCtorEq,reduceIte]
  refine fin_run ?_ (hK _ ?_)<;>clear hK<;>clear K
  ·(first|exact trivial|omega|(simp only [In64] at *; omega)|(simp [In64] at *; omega)|(simp_all; done)|skip)
  refine qa (qm (qm ?_))
  refine hk_region fun K hK=>runs_eval tab_ok ?_
  simp only [ev0,evA,evB,evP,fl,gp,tab,simprocAttr,reduceCtorEq,reduceIte,binA.eq_def,Option.map_some]
  refine fin_run ?_ (hK _ ?_)<;>clear hK<;>clear K
  ·first|exact hne|trivial
  refine qa ?_
  refine hk_cond rfl (fun hC2=>?_) (fun hC2=>?_)
  ·(try simp only [nhs] at hC2)
   refine hk_region fun K hK=>runs_eval tab_ok ?_
   simp only [ev0,evA,evB,evP,fl,gp,tab,simprocAttr,reduceCtorEq,reduceIte]
   refine fin_run ?_ (hK _ ?_)<;>clear hK<;>clear K
   ·exact ⟨hio,Nat.le_refl _,by omega,by omega⟩
   refine qa (qm ?_)
   refine hk_region fun K hK=>runs_eval tab_ok ?_
   simp only [ev0,evA,evB,evP,fl,gp,tab,simprocAttr,reduceCtorEq,reduceIte]
   refine fin_run ?_ (hK _ ?_)<;>clear hK<;>clear K
   ·(first|exact trivial|omega|(simp only [In64] at *; omega)|(simp [In64] at *; omega)|(simp_all; done)|skip)
   refine qa (qk (qb ?_))
   simp only [Tryd.results90,PostG,endG,rvsA,rvA,mkTup,ev0,evA,evB,evP,fl,gp,tab,simprocAttr,reduceCtorEq,reduceIte]
   have hd:decide (((i.length + 1:Nat):Int)≤(mo:Nat))=decide (i.length + 1≤mo):=decide_eq_decide.2 (by omega)
   rw [hd]
   exact ⟨[0,1,2,3,9,5,6,7,8],rfl,rfl,by simp only [leq,leA,ev0,evA,evB,evP,fl,gp,tab,simprocAttr,reduceCtorEq,reduceIte]<;>first|trivial|(simp; done)|trace_state⟩
  ·(try simp only [nhs] at hC2)
   simp at hC2
 ·(try simp only [nhs] at hC1)
  omega

set_option maxHeartbeats 8000000 in
set_option maxRecDepth 20000 in
theorem rleaf2 {mo:Nat} (hmo:mo≤100000) (h:GT n m n e) (h' : GT N M N d) (L:List Nat) (hll:L.length≤n) (hLlt:∀ x∈L,x < n) (hLg:∀ a,a < n→Gen n (op m n) e (fun x=>decide (x∈L)) a) (t:List Nat) (i:List PV) (htl:t.length=L.length) (hty:∀ y∈t,y < N) (hi:(prH mo).ok i) (hex:¬ ∃ φ,Ext n (op m n) N (op M N) L t φ):RNext mo n m e N M d L [] t i:=by
 have hn:=h.2.1.big
 have hN:=h'.2.1.big
 have hpos:0 < n:=h.2.1.pos
 have hnt:=nl_len t
 have hnL:=nl_len L
 obtain ⟨hi1,hi2⟩:=hi
 have hio:=opl_ok hi2
 have hF:∀ i,i < L.length→L.getD i 0 < n:=fun i hi=>hLlt _ (by simp [List.getD,List.getElem?_eq_getElem hi])
 have hT:∀ i,i < L.length→t.getD i 0 < N:=fun i hi=>hty _ (by simp [List.getD,List.getElem?_eq_getElem (show i < t.length by omega)])
 have hnn:(nl L).length=(nl t).length:=by omega
 unfold RNext
 have hs:hsq n (op m n) e N (op M N) d L [] t=[]:=by unfold hsq hlf; rw [dif_neg hex]
 have hsp:=fnc_of_p (rspread_no h h' L t htl.symm (by omega) hF hT hLg fun φ hφ=>hex ⟨φ,hφ⟩) rfl
 have hpl:pls (hsq n (op m n) e N (op M N) d L [] t)=[]:=by rw [hs]; rfl
 rw [hpl]
 simp only [foldS]
 refine fnq_of (q:=4) tab_ok Tryd.func90 rfl (by kernel_rfl) (by rw [Tryd.ntmps90]; exact Nat.le_add_left 9 _) ?_; rw [Tryd.ntmps90]; simp only [ancs,entA,List.length_cons,List.length_nil,List.cons_append,List.nil_append,Nat.reduceAdd,Nat.zero_add]
 simp only [HM,rwd_full htl,List.append_nil,List.cons_append,List.nil_append]
 rw [show L.length=(nl t).length by omega]
 refine qm ?_
 refine hk_region fun K hK=>runs_eval tab_ok ?_
 simp only [ev0,evA,evB,evP,fl,gp,tab,simprocAttr,reduceCtorEq,reduceIte]
 refine fin_run trivial (hK _ ?_)<;>clear hK<;>clear K
 refine qa (qm (qm ?_))
 refine hk_region fun K hK=>runs_eval tab_ok ?_
 simp only [ev0,evA,evB,evP,fl,gp,tab,simprocAttr,reduceCtorEq,reduceIte,il_length,hnn]
 refine fin_run ?_ (hK _ ?_)<;>clear hK<;>clear K
 ·(first|exact trivial|omega|(simp only [In64] at *; omega)|(simp [In64] at *; omega)|(simp_all; done)|skip)
 refine qa ?_
 refine hk_cond rfl (fun hC1=>?_) (fun hC1=>?_)
 ·(try simp only [nhs] at hC1)
  refine qm ?_
  refine hk_region fun K hK=>runs_eval tab_ok ?_
  simp only [ev0,evA,evB,evP,fl,gp,tab,simprocAttr,reduceCtorEq,reduceIte]
  refine fin_stop ?_ (runs_call (b:=false) (hsp) rfl (by simp only [callA,peekList,peekG,peekS,List.map_cons,List.map_nil,List.append_nil,enA,ev0,evA,evB,evP,fl,gp,tab,simprocAttr,reduceCtorEq,reduceIte,List.drop_zero,ol_drop,ol_take,take_len,ol_allP,il_all,il_length,List.length_replicate,List.take_replicate,Nat.min_self]; rfl) rfl (by simp only [dstOk,Nat.reduceLT]) ?_ (runs_eval tab_ok ?_))
  ·(first|exact trivial|omega|(simp only [In64] at *; omega)|(simp [In64] at *; omega)|(simp_all; done)|skip)
  ·(first|exact trivial|omega|(simp only [In64] at *; omega)|(simp [In64] at *; omega)|(simp_all; done)|skip)
  simp only [ev0,evA,evB,evP,fl,gp,tab,simprocAttr,reduceCtorEq,reduceIte]
  refine fin_run ?_ (hK _ ?_)<;>clear hK<;>clear K
  ·(first|exact trivial|omega|(simp only [In64] at *; omega)|(simp [In64] at *; omega)|(simp_all; done)|skip)
  refine qa (qm (qm ?_))
  refine hk_region fun K hK=>runs_eval tab_ok ?_
  simp only [ev0,evA,evB,evP,fl,gp,tab,simprocAttr,reduceCtorEq,reduceIte,binA.eq_def,Option.map_some]
  refine fin_run ?_ (hK _ ?_)<;>clear hK<;>clear K
  ·first|exact hne|trivial
  refine qa ?_
  refine hk_cond rfl (fun hC2=>?_) (fun hC2=>?_)
  ·(try simp only [nhs] at hC2)
   simp at hC2
  ·(try simp only [nhs] at hC2)
   refine qh (qa (qm ?_))
   refine hk_region fun K hK=>runs_eval tab_ok ?_
   simp only [ev0,evA,evB,evP,fl,gp,tab,simprocAttr,reduceCtorEq,reduceIte]
   refine fin_run ?_ (hK _ ?_)<;>clear hK<;>clear K
   ·(first|exact trivial|omega|(simp only [In64] at *; omega)|(simp [In64] at *; omega)|(simp_all; done)|skip)
   refine qa (qk (qb ?_))
   simp only [Tryd.results90,PostG,endG,rvsA,rvA,mkTup,ev0,evA,evB,evP,fl,gp,tab,simprocAttr,reduceCtorEq,reduceIte]
   have hd:decide (((i.length:Nat):Int)≤(mo:Nat))=true:=decide_eq_true (by omega)
   rw [hd]
   exact ⟨[0,1,2,3,4,5,6,7,8],rfl,rfl,by simp only [leq,leA,ev0,evA,evB,evP,fl,gp,tab,simprocAttr,reduceCtorEq,reduceIte]<;>first|trivial|trace_state⟩
 ·(try simp only [nhs] at hC1)
  omega

set_option maxHeartbeats 8000000 in
set_option maxRecDepth 20000 in
theorem rstep {mo:Nat} (hmo:mo≤100000) (h:GT n m n e) (h' : GT N M N d) (L:List Nat) (hll:L.length≤n) (hLlt:∀ x∈L,x < n) (hLg:∀ a,a < n→Gen n (op m n) e (fun x=>decide (x∈L)) a) (x:Nat) (r t:List Nat) (i:List PV) (hx:L.getD t.length 0=x) (htl:t.length < L.length) (hi:(prH mo).ok i)
  (IH:∀ y,y < N→∀ i,(prH mo).ok i→RNext mo n m e N M d L r (t++[y]) i):RNext mo n m e N M d L (x :: r) t i:=by
 have hn:=h.2.1.big
 have hN:=h'.2.1.big
 have hpos:0 < n:=h.2.1.pos
 have hnt:=nl_len t
 have hnL:=nl_len L
 have hxn:x < n:=by rw [← hx]; exact hLlt _ (by simp [List.getD,List.getElem?_eq_getElem htl])
 have hox:∀ y,∀ v∈pls (hsu n (op m n) e N (op M N) d L r t x y),(prH mo).okx v:=fun y v hv=>by
  obtain ⟨w,_,rfl⟩:=List.mem_map.1 hv
  exact ⟨w,rfl⟩
 have hrl:=rwd_len (Nat.le_of_lt htl)
 have h00:foldS (prH mo) i (pls (hsu n (op m n) e N (op M N) d L r t x 0))=(i,true):=rfl
 have hodl:(odl N M d).length=N:=tbm_len _ _
 unfold RNext
 refine fnq_of (q:=4) tab_ok Tryd.func90 rfl (by kernel_rfl) (by rw [Tryd.ntmps90]; exact Nat.le_add_left 9 _) ?_; rw [Tryd.ntmps90]; simp only [ancs,entA,List.length_cons,List.length_nil,List.cons_append,List.nil_append,Nat.reduceAdd,Nat.zero_add]
 simp only [HM,List.append_nil,List.cons_append,List.nil_append]
 refine qm ?_
 refine hk_region fun K hK=>runs_eval tab_ok ?_
 simp only [ev0,evA,evB,evP,fl,gp,tab,simprocAttr,reduceCtorEq,reduceIte]
 refine fin_run trivial (hK _ ?_)<;>clear hK<;>clear K
 refine qa (qm (qm ?_))
 refine hk_region fun K hK=>runs_eval tab_ok ?_
 simp only [ev0,evA,evB,evP,fl,gp,tab,simprocAttr,reduceCtorEq,reduceIte,il_length,hnL]
 refine fin_run ?_ (hK _ ?_)<;>clear hK<;>clear K
 ·(first|exact trivial|omega|(simp only [In64] at *; omega)|(simp [In64] at *; omega)|(simp_all; done)|skip)
 refine qa ?_
 refine hk_cond rfl (fun hC1=>?_) (fun hC1=>?_)
 ·(try simp only [nhs] at hC1)
  omega
 ·(try simp only [nhs] at hC1)
  refine qh (qa (qm ?_))
  refine hk_draw mixed (by kernel_rfl) fun K hK=>runs_eval tab_ok ?_
  simp only [ev0,evA,evB,evP,fl,gp,tab,simprocAttr,reduceCtorEq,reduceIte,il_get (show t.length < (nl L).length by omega),nl_get htl,hx]
  refine fin_stop ?_ (runs_call (o_c h hxn) rfl rfl rfl (by simp only [dstOk,Nat.reduceLT]) (by repeat (first|exact trivial|constructor)) (runs_eval tab_ok ?_))
  ·exact ⟨by omega,by omega⟩
  simp only [ev0,evA,evB,evP,fl,gp,tab,simprocAttr,reduceCtorEq,reduceIte,il_get (show t.length < (nl L).length by omega),nl_get htl,hx]
  refine fin_run ?_ (hK _ ?_)<;>clear hK<;>clear K
  ·(first|exact trivial|omega|(simp only [In64] at *; omega)|(simp [In64] at *; omega)|(simp_all; done)|skip)
  refine qa (qm (qm ?_))
  refine hk_region fun K hK=>runs_eval tab_ok ?_
  simp only [ev0,evA,evB,evP,fl,gp,tab,simprocAttr,reduceCtorEq,reduceIte]
  refine fin_run trivial (hK _ ?_)<;>clear hK<;>clear K
  refine qa (ql ?_)
  refine hk_loop (ι:=Nat) (fun y=>⟨61,[(0,.p (.int .i64 t.length)),(3,.p (.ptr [.int .i64 N,.list (il M)])),(4,.ptr 0 0),(7,.p (.ptr [.list (il (odl N M d))])),(8,.ptr 2 0),(12,.p (.int .i64 (ord n (op m n) e x:Nat))),(13,.p (.int .i64 y))],[.own [.sl 3 0 L.length],.own [.sl 4 0 ((foldS (prH mo) i (pls (hsu n (op m n) e N (op M N) d L r t x y))).1).length],.own [.cl 90 [.p (.ptr [.list (il (nl L))]),.p (.ptr [.int .i64 n,.list (il m)]),.p (.ptr [.int .i64 N,.list (il M)]),.ptr 0 0,.ptr 1 0,.p (.ptr [.int .i64 (mo:Nat)]),.p (.ptr [.list (il (odl N M d))]),.ptr 2 0]],.own (rwd t L.length),.own (opl ((foldS (prH mo) i (pls (hsu n (op m n) e N (op M N) d L r t x y))).1)),.anc 0 0,.anc 1 1,.anc 2 2,.anc 3 3]⟩) (fun y=>y≤N∧(foldS (prH mo) i (pls (hsu n (op m n) e N (op M N) d L r t x y))).2=true) (fun y=>N - y) 0 ⟨Nat.zero_le _,rfl⟩ [0,1,2,3,4,5,6,7,8] (by simp only [leq,leA,ev0,evA,evB,evP,fl,gp,tab,simprocAttr,reduceCtorEq,reduceIte,h00,rwd_ren,rwd_sc]<;>first|trivial|trace_state) fun y hy=>?_
  obtain ⟨hy1,hy2⟩:=hy
  have hok:=foldS_ok (prH mo) i _ hi (hox y) hy2
  have hsc:=@hsu_succ n e N d (op m n) (op M N) L r t x y
  obtain ⟨j,hj⟩:∃ j,(foldS (prH mo) i (pls (hsu n (op m n) e N (op M N) d L r t x y))).1=j:=⟨_,rfl⟩
  rw [hj] at hok ⊢
  refine qm (qm ?_)
  refine hk_region fun K hK=>runs_eval tab_ok ?_
  simp only [ev0,evA,evB,evP,fl,gp,tab,simprocAttr,reduceCtorEq,reduceIte]
  refine fin_run ?_ (hK _ ?_)<;>clear hK<;>clear K
  ·(first|exact trivial|omega|(simp only [In64] at *; omega)|(simp [In64] at *; omega)|(simp_all; done)|skip)
  refine qa ?_
  refine hk_cond rfl (fun hC3=>?_) (fun hC3=>?_)
  ·(try simp only [nhs] at hC3)
   have hyN:y < N:=by omega
   have hoy:=h'.2.2.ord_pos hyN
   have hod:(odl N M d).getD y 0=((ord N (op M N) d y:Nat):Int):=tbm_get hyN
   refine qh (qa (qm (ql (qm (qm ?_)))))
   refine hk_region fun K hK=>runs_eval tab_ok ?_
   simp only [ev0,evA,evB,evP,fl,gp,tab,simprocAttr,reduceCtorEq,reduceIte,il_get (show y < (odl N M d).length by omega),hod,il_length,hodl]
   refine fin_run ?_ (hK _ ?_)<;>clear hK<;>clear K
   ·(first|exact trivial|omega|(simp only [In64] at *; omega)|(simp [In64] at *; omega)|(simp_all; done)|skip)
   refine qa ?_
   refine hk_cond rfl (fun hC4=>?_) (fun hC4=>?_)
   ·(try simp only [nhs] at hC4)
    have hm:¬ ord n (op m n) e x % ord N (op M N) d y=0:=by omega
    rw [if_neg hm] at hsc
    have e1:foldS (prH mo) i (pls (hsu n (op m n) e N (op M N) d L r t x (y + 1)))=(j,true):=by
     rw [hsc,← hj,← hy2]
    refine qj (qc (qf (qa ?_)))
    refine hk_region fun K hK=>runs_eval tab_ok ?_
    simp only [ev0,evA,evB,evP,fl,gp,tab,simprocAttr,reduceCtorEq,reduceIte]
    refine fin_run ?_ (hK _ ?_)<;>clear hK<;>clear K
    ·(first|exact trivial|omega|(simp only [In64] at *; omega)|(simp [In64] at *; omega)|(simp_all; done)|skip)
    refine qa ?_
    refine ⟨y + 1,[0,1,2,3,4,5,6,7,8],⟨by omega,by rw [e1]⟩,by omega,?_⟩
    simp only [leq,leA,ev0,evA,evB,evP,fl,gp,tab,simprocAttr,reduceCtorEq,reduceIte,e1,rwd_ren,rwd_sc]<;>first|trivial|omega|trace_state
   ·(try simp only [nhs] at hC4)
    have hm:ord n (op m n) e x % ord N (op M N) d y=0:=by omega
    rw [if_pos hm] at hsc
    have hIH:=IH y hyN j hok
    have hto:=foldS_on (prH mo) (b:=pls (hsq n (op m n) e N (op M N) d L r (t++[y]))) hy2
    rw [hj] at hto
    unfold RNext at hIH
    obtain ⟨B,hB⟩:∃ B,(foldS (prH mo) j (pls (hsq n (op m n) e N (op M N) d L r (t++[y])))).2=B:=⟨_,rfl⟩
    obtain ⟨j2,hj2⟩:∃ j2,(foldS (prH mo) j (pls (hsq n (op m n) e N (op M N) d L r (t++[y])))).1=j2:=⟨_,rfl⟩
    rw [hB,hj2] at hIH
    have hcn:((t++[y]).length:Int)=(t.length:Int) + 1:=by simp
    rw [hcn] at hIH
    simp only [HM] at hIH
    refine qh (qa (qm ?_))
    refine hk_region fun K hK=>runs_eval tab_ok ?_
    simp only [ev0,evA,evB,evP,fl,gp,tab,simprocAttr,reduceCtorEq,reduceIte,rwd_set htl,hrl]
    refine fin_run ?_ (hK _ ?_)<;>clear hK<;>clear K
    ·(first|exact trivial|omega|(simp only [In64] at *; omega)|(simp [In64] at *; omega)|(simp_all; done)|skip)
    refine qa (qm ?_)
    refine hk_region fun K hK=>runs_eval tab_ok ?_
    simp only [ev0,evA,evB,evP,fl,gp,tab,simprocAttr,reduceCtorEq,reduceIte]
    refine fin_stop ?_ (runs_callQ [0,1,2,3,4] (hIH) rfl rfl ?_ (by simp only [leA,ev0,evA,evB,evP,fl,gp,tab,simprocAttr,reduceCtorEq,reduceIte,rwd_ren,rwd_sc]; first|trivial|(simp only [ll_takeL]; first|trivial|(repeat constructor; done))|(repeat constructor)) (by decide) (by first|rfl|(simp only [List.length_cons,List.length_nil,List.length_append]; decide)) (by first|rfl|(simp [scQ,scA,sc1,mpKeep,notAnc,Blk.spc,opl_sc,rwd_ren,rwd_sc]; done)) (by simp only [dstOk,Nat.reduceLT]) (runs_eval tab_ok ?_))
    ·(first|exact trivial|omega|(simp only [In64] at *; omega)|(simp [In64] at *; omega)|(simp_all; done)|skip)
    ·(simp only [argsM,argM1,peekG,peekS,scA,sc1,ren,ren1,List.map_cons,List.map_nil,List.append_nil,List.cons_append,List.nil_append,enA,ev0,evA,evB,evP,fl,gp,tab,simprocAttr,reduceCtorEq,reduceIte]; try trivial)
    simp only [putM,kills,hset,List.take_succ_cons,List.take_zero,List.drop_succ_cons,List.drop_zero,List.range',Blk.ren,ren,ren1,List.map_cons,List.map_nil,List.cons_append,List.nil_append,List.append_nil,List.length_cons,List.length_nil,ev0,evA,evB,evP,fl,gp,tab,simprocAttr,reduceCtorEq,reduceIte,rwd_ren,rwd_sc]
    refine fin_run ?_ (hK _ ?_)<;>clear hK<;>clear K
    ·(first|exact trivial|omega|(simp only [In64] at *; omega)|(simp [In64] at *; omega)|(simp_all; done)|skip)
    refine qa ?_
    refine hk_back 3 rfl htl ?_
    refine hk_cond rfl (fun hC5=>?_) (fun hC5=>?_)
    ·(try simp only [nhs] at hC5)
     subst hC5
     obtain ⟨z,hz⟩:=@hsu_pre n e N d (op m n) (op M N) L r t x (y + 1) (by omega)
     have hfin:foldS (prH mo) i (pls (hsq n (op m n) e N (op M N) d L (x :: r) t))=(j2,false):=by
      have e1:foldS (prH mo) i (pls (hsu n (op m n) e N (op M N) d L r t x (y + 1)))=(j2,false):=by
       rw [hsc,pls_app,hto,← hj2,← hB]
      rw [hz,pls_app,foldS_pre (prH mo) (by rw [e1]),e1]
     rw [hfin]
     refine qm ?_
     refine hk_region fun K hK=>runs_eval tab_ok ?_
     simp only [ev0,evA,evB,evP,fl,gp,tab,simprocAttr,reduceCtorEq,reduceIte]
     refine fin_run trivial (hK _ ?_)<;>clear hK<;>clear K
     refine qa (qk (qe (qb (qb (qe (qb ?_))))))
     simp only [Tryd.results90,PostG,endG,rvsA,rvA,mkTup,ev0,evA,evB,evP,fl,gp,tab,simprocAttr,reduceCtorEq,reduceIte]
     all_goals (exact ⟨[0,1,2,3,9,5,6,7,8],rfl,rfl,by simp only [leq,leA,ev0,evA,evB,evP,fl,gp,tab,simprocAttr,reduceCtorEq,reduceIte,rwd_ren,rwd_sc]<;>first|trivial|trace_state⟩)
    ·(try simp only [nhs] at hC5)
     obtain rfl:B=true:=by simpa using hC5
     have e1:foldS (prH mo) i (pls (hsu n (op m n) e N (op M N) d L r t x (y + 1)))=(j2,true):=by
      rw [hsc,pls_app,hto,← hj2,← hB]
     refine qh (qd (qa ?_))
     refine hk_region fun K hK=>runs_eval tab_ok ?_
     simp only [ev0,evA,evB,evP,fl,gp,tab,simprocAttr,reduceCtorEq,reduceIte]
     refine fin_run ?_ (hK _ ?_)<;>clear hK<;>clear K
     ·(first|exact trivial|omega|(simp only [In64] at *; omega)|(simp [In64] at *; omega)|(simp_all; done)|skip)
     refine qa ?_
     refine ⟨y + 1,[0,1,2,3,9,5,6,7,8],⟨by omega,by rw [e1]⟩,by omega,?_⟩
     simp only [leq,leA,ev0,evA,evB,evP,fl,gp,tab,simprocAttr,reduceCtorEq,reduceIte,e1,rwd_ren,rwd_sc]<;>first|trivial|omega|trace_state
  ·(try simp only [nhs] at hC3)
   obtain rfl:y=N:=by omega
   have hfin:foldS (prH mo) i (pls (hsq n (op m n) e y (op M y) d L (x :: r) t))=(j,true):=by
    rw [hsu_end,← hj,← hy2]
   rw [hfin]
   refine qj (qc (qc (qf (qa (qm ?_)))))
   refine hk_region fun K hK=>runs_eval tab_ok ?_
   simp only [ev0,evA,evB,evP,fl,gp,tab,simprocAttr,reduceCtorEq,reduceIte]
   refine fin_run trivial (hK _ ?_)<;>clear hK<;>clear K
   refine qa (qk ?_)
   simp only [Tryd.results90,PostG,endG,rvsA,rvA,mkTup,ev0,evA,evB,evP,fl,gp,tab,simprocAttr,reduceCtorEq,reduceIte]
   all_goals (exact ⟨[0,1,2,3,4,5,6,7,8],rfl,rfl,by simp only [leq,leA,ev0,evA,evB,evP,fl,gp,tab,simprocAttr,reduceCtorEq,reduceIte,rwd_ren,rwd_sc]<;>first|trivial|trace_state⟩)

theorem rnext_c {mo : Nat} (hmo : mo ≤ 100000) (h : GT n m n e) (h' : GT N M N d) (L : List Nat) (hll : L.length ≤ n) (hLlt : ∀ x ∈ L, x < n) (hLg : ∀ a, a < n → Gen n (op m n) e (fun x => decide (x ∈ L)) a) : ∀ (r t : List Nat) (i : List PV), t.length ≤ L.length → L.drop t.length = r → (∀ y ∈ t, y < N) → (prH mo).ok i → RNext mo n m e N M d L r t i
  | [], t, i, h1, h2, h3, hi => by
    have htl : t.length = L.length := by
      have := congrArg List.length h2
      simp at this; omega
    by_cases hex : ∃ φ, Ext n (op m n) N (op M N) L t φ
    · exact rleaf1 hmo h h' L hll hLlt hLg t i htl h3 hi hex
    · exact rleaf2 hmo h h' L hll hLlt hLg t i htl h3 hi hex
  | x :: r, t, i, h1, h2, h3, hi => by
    have htl : t.length < L.length := by
      have := congrArg List.length h2
      simp at this; omega
    have hd : L.drop t.length = L[t.length] :: L.drop (t.length + 1) := List.drop_eq_getElem_cons htl
    rw [h2] at hd
    obtain ⟨e1, e2⟩ := List.cons.inj hd
    refine rstep hmo h h' L hll hLlt hLg x r t i (by simp [List.getD, List.getElem?_eq_getElem htl, e1]) htl hi fun y hy j hj => ?_
    exact rnext_c hmo h h' L hll hLlt hLg r (t ++ [y]) j (by simp; omega) (by rw [List.length_append]; exact e2.symm) (fun z hz => by
      rcases List.mem_append.1 hz with hz | hz
      · exact h3 z hz
      · have : z = y := by simpa using hz
        omega) hj
end
end Go.Proofs.YtboadfahlflmhaaDoor

/-
  Walks: the reference's Homs. Conditions: none.
-/
set_option linter.all false
namespace Go.Proofs.YtboadfahlflmhaaDoor
open Go.Pv

section
variable {n e N d : Nat} {m M : List Int}
/-- What the reference hands out, in its order. -/
noncomputable def rfW (n : Nat) (m : List Int) (e N : Nat) (M : List Int) (d : Nat) : List (List Int) := hsq n (op m n) e N (op M N) d (tn (mkS n m e n)) (tn (mkS n m e n)) []
theorem tst_tn {l : List Int} (h : ∀ x ∈ l, ∃ a, a < n ∧ x = ((a : Nat) : Int)) : tst l = fun x => decide (x ∈ tn l) := funext fun x => by
  unfold tst
  refine decide_eq_decide.2 ⟨fun hx => List.mem_map.2 ⟨_, hx, rfl⟩, fun hx => ?_⟩
  obtain ⟨y, hy, he⟩ := List.mem_map.1 hx
  obtain ⟨a, _, rfl⟩ := h y hy
  rw [← he]; exact hy
theorem mk_facts (h : GT n m n e) : nl (tn (mkS n m e n)) = mkS n m e n ∧ (tn (mkS n m e n)).length ≤ n ∧ (∀ x ∈ tn (mkS n m e n), x < n) ∧ ∀ a, a < n → Gen n (op m n) e (fun x => decide (x ∈ tn (mkS n m e n))) a := by
  have hm := mkS_mem (m := m) (e := e) h.2.1.pos n
  refine ⟨nl_tn fun i hi => ?_, by rw [tn_len]; exact mkS_len n m e n, fun x hx => ?_, fun a ha => ?_⟩
  · obtain ⟨a, _, h1⟩ := hm _ (List.getElem_mem hi)
    simp only [List.getD, List.getElem?_eq_getElem hi, Option.getD_some]
    omega
  · obtain ⟨y, hy, rfl⟩ := List.mem_map.1 hx
    obtain ⟨a, ha, rfl⟩ := hm y hy
    simpa using ha
  · rw [← tst_tn hm]; exact mk_gen h.2.2 ha
theorem rfW_perm (h : GT n m n e) (h' : GT N M N d) : (hmW n m e N M d).Perm (rfW n m e N M d) := by
  obtain ⟨_, h2, h3, h4⟩ := mk_facts h
  refine (List.perm_ext_iff_of_nodup (hmW_nodup h h') (hsq_nodup h.2.2 h'.2.2 h3 h4 _ [] (Nat.zero_le _) rfl)).2 fun w => ?_
  rw [hmW_mem h h']
  refine Iff.symm ((hsq_iff h.2.2 h'.2.2 h3 h4 w _ [] (Nat.zero_le _) rfl).trans ?_)
  exact ⟨fun ⟨φ, a, b, _⟩ => ⟨φ, a, b⟩, fun ⟨φ, a, b⟩ => ⟨φ, a, b, fun i hi => absurd hi (Nat.not_lt_zero _)⟩⟩

set_option maxHeartbeats 8000000 in
set_option maxRecDepth 20000 in
theorem homs_c (mo:Nat) (hmo:mo≤100000) (h:GT n m n e) (h' : GT N M N d):FnC Tryd.prog 24 [gp n m,gp N M,.int .i64 (mo:Nat)] (.tup [if (hmW n m e N M d).length≤mo then .list (ll (srtL (hmW n m e N M d))) else .list [],.bool (decide ((hmW n m e N M d).length≤mo))]):=by
 obtain ⟨hmk,hLl,hLlt,hLg⟩:=mk_facts h
 have hmc:=makers_c h
 have hpe:=rfW_perm h h'
 have hple:=hpe.length_eq
 have hWm:∀ v∈rfW n m e N M d,v.length=n:=fun v hv=>by
  obtain ⟨φ,_,rfl⟩:=hsq_mem _ _ v hv
  exact tbm_len n φ
 have hNx:=rnext_c hmo h h' (tn (mkS n m e n)) hLl hLlt hLg (tn (mkS n m e n)) [] [] (Nat.zero_le _) rfl (fun y hy=>by simp at hy) ⟨by simp,rfl⟩
 unfold RNext at hNx
 have hW:hsq n (op m n) e N (op M N) d (tn (mkS n m e n)) (tn (mkS n m e n)) []=rfW n m e N M d:=rfl
 rw [hW] at hNx
 obtain ⟨j,b,hf,hj1,hj2⟩:∃ j b,foldS (prH mo) [] (pls (rfW n m e N M d))=(j,b)∧((rfW n m e N M d).length≤mo→b=true∧j=ll (rfW n m e N M d))∧(¬ (rfW n m e N M d).length≤mo→b=false):=by
  by_cases hw:(rfW n m e N M d).length≤mo
  ·have:=foldH mo (pls (rfW n m e N M d)) [] (by simpa [pls] using hw)
   exact ⟨_,_,this,fun _=>⟨rfl,rfl⟩,fun h=>absurd hw h⟩
  ·obtain ⟨j,h1⟩:=foldH_no mo (pls (rfW n m e N M d)) [] (by simp) (by simpa [pls] using hw)
   exact ⟨j,false,h1,fun h=>absurd h hw,fun _=>rfl⟩
 rw [hf] at hNx
 simp only [HM] at hNx
 have hc0:((([]:List Nat).length:Nat):Int)=0:=rfl
 rw [hc0] at hNx
 have hL:=tn_len (mkS n m e n)
 rw [hmk] at hNx
 simp only [hL,show opl []=[] from rfl,List.length_nil] at hNx
 have hn:=h.2.1.big
 have hN:=h'.2.1.big
 have hrw:List.replicate (List.replicate (mkS n m e n).length (AV.p (.int .i64 0))).length AV.dead=rwd [] (mkS n m e n).length:=by simp [rwd,nl,il,opl]
 have hrz:(rgz N fun y=>if y < 0 then ((ord N (op M N) d y:Nat):Int) else 0)=rgz N fun _=>0:=rgz_congr fun a ha=>by simp
 have rwd_tk:List.take (rwd [] (mkS n m e n).length).length (rwd [] (mkS n m e n).length)=rwd [] (mkS n m e n).length:=List.take_length
 refine fnc_of tab_ok Tryd.func24 rfl (by kernel_rfl) (by rw [Tryd.ntmps24]; exact Nat.le_add_left 3 _) ?_; rw [Tryd.ntmps24]
 refine qm ?_
 refine hk_region fun K hK=>runs_eval tab_ok ?_
 simp only [ev0,evA,evB,evP,fl,gp,tab,simprocAttr,reduceCtorEq,reduceIte]
 refine fin_run ?_ (hK _ ?_)<;>clear hK<;>clear K
 ·(first|exact trivial|omega|(simp only [In64] at *; omega)|(simp [In64] at *; omega)|(simp_all; done)|skip)
 refine qa (qm ?_)
 refine hk_region fun K hK=>runs_eval tab_ok ?_
 simp only [ev0,evA,evB,evP,fl,gp,tab,simprocAttr,reduceCtorEq,reduceIte]
 refine fin_stop trivial (runs_call (hmc) rfl rfl rfl (by simp only [dstOk,Nat.reduceLT]) (by repeat (first|exact trivial|constructor)) (runs_eval tab_ok ?_))
 simp only [ev0,evA,evB,evP,fl,gp,tab,simprocAttr,reduceCtorEq,reduceIte]
 refine fin_run ?_ (hK _ ?_)<;>clear hK<;>clear K
 ·(first|exact trivial|omega|(simp only [In64] at *; omega)|(simp [In64] at *; omega)|(simp_all; done)|skip)
 refine qa (qm ?_)
 refine hk_region fun K hK=>runs_eval tab_ok ?_
 simp only [ev0,evA,evB,evP,fl,gp,tab,simprocAttr,reduceCtorEq,reduceIte]
 refine fin_run ?_ (hK _ ?_)<;>clear hK<;>clear K
 ·have:=mkS_len n m e n
  exact ⟨by omega,by omega,by omega,by omega⟩
 refine qa (qm ?_)
 refine hk_region fun K hK=>runs_eval tab_ok ?_
 simp only [ev0,evA,evB,evP,fl,gp,tab,simprocAttr,reduceCtorEq,reduceIte]
 refine fin_run ?_ (hK _ ?_)<;>clear hK<;>clear K
 ·(first|exact trivial|omega|(simp only [In64] at *; omega)|(simp [In64] at *; omega)|(simp_all; done)|skip)
 refine qa (qm ?_)
 refine hk_forget 4 rfl ?_
 simp only [hset,hrw]
 refine hk_region fun K hK=>runs_eval tab_ok ?_
 simp only [ev0,evA,evB,evP,fl,gp,tab,simprocAttr,reduceCtorEq,reduceIte,makeSliceA.eq_def,rgz_new]
 refine fin_run ?_ (hK _ ?_)<;>clear hK<;>clear K
 ·exact ⟨by omega,by omega,by omega,by omega⟩
 refine qa (qm (qm ?_))
 refine hk_region fun K hK=>runs_eval tab_ok ?_
 simp only [ev0,evA,evB,evP,fl,gp,tab,simprocAttr,reduceCtorEq,reduceIte]
 refine fin_run trivial (hK _ ?_)<;>clear hK<;>clear K
 refine qa (ql ?_)
 refine hk_loop (ι:=Nat) (fun k=>⟨40,[(3,.ptr 0 0),(4,.ptr 1 0),(5,.ptr 2 0),(8,.ptr 3 0),(9,.ptr 5 0),(10,.ptr 6 0),(11,.ptr 8 0),(12,.p (.int .i64 k))],[.own [.p (.int .i64 n),.p (.list (il m))],.own [.p (.int .i64 N),.p (.list (il M))],.own [.p (.int .i64 (mo:Nat))],.own [.p (.list (il (mkS n m e n)))],.own (rwd [] (mkS n m e n).length),.own [.sl 4 0 (mkS n m e n).length],.own [.p .nil],.own (ol (rgz N fun y=>if y < k then ((ord N (op M N) d y:Nat):Int) else 0)),.own [.sl 7 0 N]]⟩) (fun k=>k≤N) (fun k=>N - k) 0 (Nat.zero_le _) [0,1,2,3,4,5,6,7,8] (by simp only [leq,leA,ev0,evA,evB,evP,fl,gp,tab,simprocAttr,reduceCtorEq,reduceIte,rwd_ren,rwd_sc,rwd_tk]<;>first|trivial|exact ⟨rfl,rfl⟩|(rw [hrz,List.take_of_length_le (by rw [rgz_len]; exact Nat.le_refl _)]; done)|(simp [rgz_len]; done)|trace_state) fun k hk=>?_
 have hr:=rgz_len N fun y=>if y < k then ((ord N (op M N) d y:Nat):Int) else 0
 refine qm (qm ?_)
 refine hk_region fun K hK=>runs_eval tab_ok ?_
 simp only [ev0,evA,evB,evP,fl,gp,tab,simprocAttr,reduceCtorEq,reduceIte]
 refine fin_run ?_ (hK _ ?_)<;>clear hK<;>clear K
 ·(first|exact trivial|omega|(simp only [In64] at *; omega)|(simp [In64] at *; omega)|(simp_all; done)|skip)
 refine qa ?_
 refine hk_cond rfl (fun hC1=>?_) (fun hC1=>?_)
 ·(try simp only [nhs] at hC1)
  have hkl:k < N:=by omega
  have hse:(rgz N fun y=>if y < k then ((ord N (op M N) d y:Nat):Int) else 0).set k ((ord N (op M N) d k:Nat):Int)=rgz N fun y=>if y < k + 1 then ((ord N (op M N) d y:Nat):Int) else 0:=by
   rw [rgz_set]
   exact rgz_congr fun a ha=>by
    by_cases e:a=k
    ·simp [e]
    ·by_cases e2:a < k
     ·simp [e,e2,show a < k + 1 by omega]
     ·simp [e,e2,show ¬ a < k + 1 by omega]
  refine qh (qa (qm (ql ?_)))
  refine hk_draw mixed (by kernel_rfl) fun K hK=>runs_eval tab_ok ?_
  simp only [ev0,evA,evB,evP,fl,gp,tab,simprocAttr,reduceCtorEq,reduceIte,ol_set,hse]
  refine fin_stop trivial (runs_call (o_c h' hkl) rfl rfl rfl (by simp only [dstOk,Nat.reduceLT]) (by repeat (first|exact trivial|constructor)) (runs_eval tab_ok ?_))
  simp only [ev0,evA,evB,evP,fl,gp,tab,simprocAttr,reduceCtorEq,reduceIte,ol_set,hse]
  refine fin_run ?_ (hK _ ?_)<;>clear hK<;>clear K
  ·(first|exact trivial|omega|(simp only [In64] at *; omega)|(simp [In64] at *; omega)|(simp_all; done)|skip)
  refine qd (qa ?_)
  refine hk_region fun K hK=>runs_eval tab_ok ?_
  simp only [ev0,evA,evB,evP,fl,gp,tab,simprocAttr,reduceCtorEq,reduceIte]
  refine fin_run ?_ (hK _ ?_)<;>clear hK<;>clear K
  ·(first|exact trivial|omega|(simp only [In64] at *; omega)|(simp [In64] at *; omega)|(simp_all; done)|skip)
  refine qa ?_
  refine ⟨k + 1,[0,1,2,3,4,5,6,7,8],by omega,by omega,?_⟩
  simp only [leq,leA,ev0,evA,evB,evP,fl,gp,tab,simprocAttr,reduceCtorEq,reduceIte,rwd_ren,rwd_sc,rwd_tk]<;>first|trivial|omega|(simp [ol_length,rgz_len]; done)|trace_state
 ·(try simp only [nhs] at hC1)
  obtain rfl:k=N:=by omega
  have hod:(rgz k fun y=>if y < k then ((ord k (op M k) d y:Nat):Int) else 0)=odl k M d:=by
   unfold rgz odl tbm
   exact List.map_congr_left fun a ha=>by rw [if_pos (List.mem_range.1 ha)]
  have hodl:(odl k M d).length=k:=tbm_len _ _
  rw [hod]
  refine qj (qc (qc (qf (qa (qm ?_)))))
  refine hk_region fun K hK=>runs_eval tab_ok ?_
  simp only [ev0,evA,evB,evP,fl,gp,tab,simprocAttr,reduceCtorEq,reduceIte]
  refine fin_run ?_ (hK _ ?_)<;>clear hK<;>clear K
  ·(first|exact trivial|omega|(simp only [In64] at *; omega)|(simp [In64] at *; omega)|(simp_all; done)|skip)
  refine qa (qm ?_)
  refine hk_freeze 7 rfl (opl_allP (il (odl k M d))) ?_
  refine hk_purec 8 0 rfl rfl rfl ⟨by rw [il_length]; omega,?_⟩ ?_
  ·exact (List.all_eq_true.2 fun x hx=>List.all_eq_true.1 (il_all _) x (List.mem_of_mem_drop (List.mem_of_mem_take hx)))
  refine hk_freeze 0 rfl rfl ?_
  refine hk_freeze 1 rfl rfl ?_
  refine hk_freeze 2 rfl rfl ?_
  refine hk_freeze 3 rfl rfl ?_
  refine hk_own0c 6 0 rfl rfl ?_
  simp only [hset,List.set_cons_zero,List.set,List.drop_zero,List.cons_append,List.nil_append,List.length_cons,List.length_nil,Nat.reduceAdd,Nat.zero_add]
  rw [show List.take k (il (odl k M d))=il (odl k M d) from List.take_of_length_le (by rw [il_length]; omega)]
  refine hk_freeze 8 rfl rfl ?_
  refine hk_pure 3 rfl (Nat.zero_le _) ?_
  refine hk_pure 4 rfl (Nat.zero_le _) ?_
  refine hk_pure 5 rfl (Nat.zero_le _) ?_
  refine hk_pure 8 rfl (Nat.zero_le _) ?_
  refine hk_pure 11 rfl (Nat.zero_le _) ?_
  simp only [hset,List.drop_zero]
  refine hk_region fun K hK=>runs_eval tab_ok ?_
  simp only [ev0,evA,evB,evP,fl,gp,tab,simprocAttr,reduceCtorEq,reduceIte]
  refine fin_stop ?_ (runs_op (makeCl_does rfl rfl) rfl (by simp only [dstOk,Nat.reduceLT]) (runs_eval tab_ok ?_))
  ·(first|exact trivial|omega|(simp only [In64] at *; omega)|(simp [In64] at *; omega)|(simp_all; done)|skip)
  simp only [ev0,evA,evB,evP,fl,gp,tab,simprocAttr,reduceCtorEq,reduceIte]
  refine fin_run ?_ (hK _ ?_)<;>clear hK<;>clear K
  ·(first|exact trivial|omega|(simp only [In64] at *; omega)|(simp [In64] at *; omega)|(simp_all; done)|skip)
  refine qa (qm (qm ?_))
  refine hk_region fun K hK=>runs_eval tab_ok ?_
  simp only [ev0,evA,evB,evP,fl,gp,tab,simprocAttr,reduceCtorEq,reduceIte]
  refine fin_stop ?_ (runs_callQ [5,6,9,4,10] (hNx) rfl rfl ?_ (by simp only [leA,ev0,evA,evB,evP,fl,gp,tab,simprocAttr,reduceCtorEq,reduceIte,rwd_ren,rwd_sc]; first|trivial|(simp only [ll_takeL]; first|trivial|(repeat constructor; done))|(repeat constructor)) (by decide) (by first|rfl|(simp only [List.length_cons,List.length_nil,List.length_append]; decide)) (by first|rfl|(simp [scQ,scA,sc1,mpKeep,notAnc,Blk.spc,opl_sc,rwd_ren,rwd_sc]; done)) (by simp only [dstOk,Nat.reduceLT]) (runs_eval tab_ok ?_))
  ·(first|exact trivial|omega|(simp only [In64] at *; omega)|(simp [In64] at *; omega)|(simp_all; done)|skip)
  ·(simp only [argsM,argM1,peekG,peekS,scA,sc1,ren,ren1,List.map_cons,List.map_nil,List.append_nil,List.cons_append,List.nil_append,enA,ev0,evA,evB,evP,fl,gp,tab,simprocAttr,reduceCtorEq,reduceIte]; try trivial)
  simp only [putM,kills,hset,List.take_succ_cons,List.take_zero,List.drop_succ_cons,List.drop_zero,List.range',Blk.ren,ren,ren1,List.map_cons,List.map_nil,List.cons_append,List.nil_append,List.append_nil,List.length_cons,List.length_nil,ev0,evA,evB,evP,fl,gp,tab,simprocAttr,reduceCtorEq,reduceIte,rwd_ren,rwd_sc]
  refine fin_run ?_ (hK _ ?_)<;>clear hK<;>clear K
  ·(first|exact trivial|omega|(simp only [In64] at *; omega)|(simp [In64] at *; omega)|(simp_all; done)|skip)
  refine qa ?_
  refine hk_cond rfl (fun hC2=>?_) (fun hC2=>?_)
  ·(try simp only [nhs] at hC2)
   have hw:¬ (hmW n m e k M d).length≤mo:=fun hw=>by
    rw [(hj1 (by omega)).1] at hC2; simp at hC2
   refine qm ?_
   refine hk_region fun K hK=>runs_eval tab_ok ?_
   simp only [ev0,evA,evB,evP,fl,gp,tab,simprocAttr,reduceCtorEq,reduceIte]
   refine fin_run trivial (hK _ ?_)<;>clear hK<;>clear K
   refine qa (qk (qb ?_))
   simp only [Tryd.results24,enA,ev0,evA,evB,evP,fl,gp,tab,simprocAttr,reduceCtorEq,reduceIte]
   all_goals (rw [if_neg hw,decide_eq_false hw]; exact ⟨rfl,rfl⟩)
  ·(try simp only [nhs] at hC2)
   have hw:(hmW n m e k M d).length≤mo:=Classical.byContradiction fun hw=>by
    rw [hj2 (by omega)] at hC2; simp at hC2
   obtain ⟨_,rfl⟩:=hj1 (by omega)
   have hsl:=(srtL_perm (rfW n m e k M d)).length_eq
   have hsu:srtL (rfW n m e k M d)=srtL (hmW n m e k M d):=srtL_unique (hpe.trans (srtL_perm _)) (srtL_sorted _)
   refine qh (qa (qm ?_))
   refine hk_region fun K hK=>runs_eval tab_ok ?_
   simp only [ev0,evA,evB,evP,fl,gp,tab,simprocAttr,reduceCtorEq,reduceIte]
   refine fin_stop ?_ (runs_callM [11] (rising_c n (rfW n m e k M d) (by omega) (by omega) hWm) rfl rfl ?_ (by simp only [leA,ev0,evA,evB,evP,fl,gp,tab,simprocAttr,reduceCtorEq,reduceIte]; first|trivial|(simp only [ll_takeL]; first|trivial|(repeat constructor; done))|(repeat constructor)) (by decide) (by first|rfl|(simp only [List.length_cons,List.length_nil,List.length_append]; decide)) (by first|rfl|(simp only [scM,opl_sc,List.all_cons,List.all_nil,List.length_cons,List.length_nil]; first|rfl|decide)|(simp [scM,scA,sc1,mpKeep,notAnc]; done)) (by simp only [dstOk,Nat.reduceLT]) (runs_eval tab_ok ?_))
   ·(first|exact trivial|omega|(simp only [In64] at *; omega)|(simp [In64] at *; omega)|(simp_all; done)|skip)
   ·(simp only [argsM,argM1,peekG,peekS,scA,sc1,ren,ren1,List.map_cons,List.map_nil,List.append_nil,List.cons_append,List.nil_append,enA,ev0,evA,evB,evP,fl,gp,tab,simprocAttr,reduceCtorEq,reduceIte]; try trivial)
   simp only [putM,hset,List.range',Blk.ren,ren,ren1,List.map_cons,List.map_nil,List.cons_append,List.nil_append,List.append_nil,List.length_cons,List.length_nil,ev0,evA,evB,evP,fl,gp,tab,simprocAttr,reduceCtorEq,reduceIte]
   refine fin_run ?_ (hK _ ?_)<;>clear hK<;>clear K
   ·(first|exact trivial|omega|(simp only [In64] at *; omega)|(simp [In64] at *; omega)|(simp_all; done)|skip)
   refine qa (qk ?_)
   simp only [Tryd.results24,enA,ev0,evA,evB,evP,fl,gp,tab,simprocAttr,reduceCtorEq,reduceIte]
   rw [if_pos hw,decide_eq_true hw,← hsu,List.take_of_length_le (show (ll (srtL (rfW n m e k M d))).length≤(rfW n m e k M d).length by rw [ll_length]; omega)]
   exact ⟨⟨by omega,ll_all _⟩,rfl,rfl⟩
end
end Go.Proofs.YtboadfahlflmhaaDoor

/-
  Walks: the law SubMakes. Conditions: none.
-/
set_option linter.all false
namespace Go.Proofs.YtboadfahlflmhaaDoor
open Go.Pv

end Go.Proofs.YtboadfahlflmhaaDoor

/-
  The law HomAutos. Conditions: none.
-/
set_option linter.all false
namespace Go.Proofs.YtboadfahlflmhaaDoor
open Go.Pv

/-- Different rows, one behind the other. -/
def dsR (g : Nat → List Int) : Nat → List (List Int)
  | 0 => []
  | k + 1 => if g k ∈ dsR g k then dsR g k else dsR g k ++ [g k]
theorem mem_dsR {g : Nat → List Int} {w : List Int} : ∀ {k : Nat}, w ∈ dsR g k ↔ ∃ j, j < k ∧ w = g j
  | 0 => by simp [dsR]
  | k + 1 => by
    unfold dsR
    split
    · rename_i h
      rw [mem_dsR]
      constructor
      · rintro ⟨j, hj, e⟩; exact ⟨j, by omega, e⟩
      · rintro ⟨j, hj, rfl⟩
        by_cases hjk : j = k
        · subst hjk; exact mem_dsR.1 h
        · exact ⟨j, by omega, rfl⟩
    · rw [List.mem_append, mem_dsR, List.mem_singleton]
      constructor
      · rintro (⟨j, hj, e⟩ | e)
        · exact ⟨j, by omega, e⟩
        · exact ⟨k, by omega, e⟩
      · rintro ⟨j, hj, rfl⟩
        by_cases hjk : j = k
        · exact .inr (by rw [hjk])
        · exact .inl ⟨j, by omega, rfl⟩
theorem dsR_nodup (g : Nat → List Int) : ∀ k, (dsR g k).Nodup
  | 0 => List.nodup_nil
  | k + 1 => by
    unfold dsR
    split
    · exact dsR_nodup g k
    · rename_i h
      refine List.nodup_append.2 ⟨dsR_nodup g k, by simp, fun a ha b hb he => ?_⟩
      rw [List.mem_singleton] at hb
      subst he; subst hb
      exact h ha
theorem dsR_len (g : Nat → List Int) : ∀ k, (dsR g k).length ≤ k
  | 0 => Nat.le_refl _
  | k + 1 => by
    have := dsR_len g k
    unfold dsR
    split
    · omega
    · simp; omega
/-- Put in order, different ones are those that stand once in the order of all. -/
theorem dsR_cps {n e : Nat} {f : Nat → Nat → Nat} : srtL (dsR (inr n f e) n) = cps [] (srtL (inl' n f e n)) := by
  have hs : (cps [] (srtL (inl' n f e n))).Pairwise fun v w => cmpL v w < 0 := cps_pw (R' := fun v w => ¬ cmpL w v < 0) (srtL_sorted _) (fun a b h1 h2 => Classical.byContradiction fun h3 => h2 (cmpL_tot _ _ h3 h1)) (fun a b c h1 h2 => Classical.byContradiction fun h3 => cmpL_ntrans b a c h1 h3 h2)
  have hnd : (cps [] (srtL (inl' n f e n))).Nodup := hs.imp fun {v w} h hvw => by
    subst hvw
    rw [cmpL_self] at h; exact absurd h (by decide)
  refine (srtL_unique ((List.perm_ext_iff_of_nodup (dsR_nodup _ _) hnd).2 fun w => ?_) (hs.imp fun {v w} h h' => ?_)).symm
  · rw [mem_dsR, mem_cps, ← (srtL_perm _).mem_iff]
    unfold inl'
    rw [List.mem_map]
    exact ⟨fun ⟨a, ha, e⟩ => ⟨a, List.mem_range.2 ha, e.symm⟩, fun ⟨a, ha, e⟩ => ⟨a, List.mem_range.1 ha, e.symm⟩⟩
  · have h3 := cmpL_trans _ _ _ h h'
    rw [cmpL_self] at h3; exact absurd h3 (by decide)

set_option maxHeartbeats 8000000 in
theorem hau1_c {n e:Nat} {m:List Int} (h:GT n m n e):FnC Tryd.prog 19 [.ptr [.int .i64 n,.list (il m)]] (.list (ll (cps [] (srtL (inl' n (op m n) e n))))):=by
 have hn:=h.2.1.big
 have hpos:0 < n:=h.2.1.pos
 refine fnc_of tab_ok Tryd.func19 rfl (by kernel_rfl) (by rw [Tryd.ntmps19]; exact Nat.le_add_left 1 _) ?_; rw [Tryd.ntmps19]
 refine qm ?_
 refine hk_region fun K hK=>runs_eval tab_ok ?_
 simp only [ev0,evA,evB,evP,fl,gp,tab,simprocAttr,reduceCtorEq,reduceIte]
 refine fin_run trivial (hK _ ?_)<;>clear hK<;>clear K
 refine qa (qm ?_)
 refine hk_region fun K hK=>runs_eval tab_ok ?_
 simp only [ev0,evA,evB,evP,fl,gp,tab,simprocAttr,reduceCtorEq,reduceIte]
 refine fin_run trivial (hK _ ?_)<;>clear hK<;>clear K
 refine qa (qm (qm ?_))
 refine hk_own0 2 rfl ?_
 refine hk_region fun K hK=>runs_eval tab_ok ?_
 simp only [ev0,evA,evB,evP,fl,gp,tab,simprocAttr,reduceCtorEq,reduceIte]
 refine fin_run trivial (hK _ ?_)<;>clear hK<;>clear K
 refine qa (ql ?_)
 refine hk_loop (ι:=Nat) (fun a=>⟨50,[(0,.p (.ptr [.int .i64 n,.list (il m)])),(2,.sl 0 0 (dsR (inr n (op m n) e) a).length),(3,.p (.int .i64 a))],[.own (opl (ll (dsR (inr n (op m n) e) a)))]⟩) (fun a=>a≤n) (fun a=>n - a) 0 (Nat.zero_le _) [0] (by simp only [leq,leA,ev0,evA,evB,evP,fl,gp,tab,simprocAttr,reduceCtorEq,reduceIte]<;>first|trivial|exact ⟨rfl,rfl⟩|trace_state) fun a ha=>?_
 have hdl:=dsR_len (inr n (op m n) e) a
 refine qm (qm ?_)
 refine hk_region fun K hK=>runs_eval tab_ok ?_
 simp only [ev0,evA,evB,evP,fl,gp,tab,simprocAttr,reduceCtorEq,reduceIte]
 refine fin_run ?_ (hK _ ?_)<;>clear hK<;>clear K
 ·(first|exact trivial|omega|(simp only [In64] at *; omega)|(simp [In64] at *; omega)|(simp_all; done)|skip)
 refine qa ?_
 refine hk_cond rfl (fun hC1=>?_) (fun hC1=>?_)
 ·(try simp only [nhs] at hC1)
  have hal:a < n:=by omega
  refine qh (qa (qm (ql (qm ?_))))
  refine hk_region fun K hK=>runs_eval tab_ok ?_
  simp only [ev0,evA,evB,evP,fl,gp,tab,simprocAttr,reduceCtorEq,reduceIte]
  refine fin_run trivial (hK _ ?_)<;>clear hK<;>clear K
  refine qa (qm (qm ?_))
  refine hk_own0 4 rfl ?_
  refine hk_region fun K hK=>runs_eval tab_ok ?_
  simp only [ev0,evA,evB,evP,fl,gp,tab,simprocAttr,reduceCtorEq,reduceIte]
  refine fin_run trivial (hK _ ?_)<;>clear hK<;>clear K
  refine qa (ql ?_)
  refine hk_loop (ι:=Nat) (fun x=>⟨50,[(0,.p (.ptr [.int .i64 n,.list (il m)])),(2,.sl 0 0 (dsR (inr n (op m n) e) a).length),(3,.p (.int .i64 a)),(4,.sl 1 0 (tbm x fun x=>cjr n (op m n) e x a).length),(5,.p (.int .i64 x))],[.own (opl (ll (dsR (inr n (op m n) e) a))),.own (ol (tbm x fun x=>cjr n (op m n) e x a))]⟩) (fun x=>x≤n) (fun x=>n - x) 0 (Nat.zero_le _) [0,1] (by simp only [leq,leA,ev0,evA,evB,evP,fl,gp,tab,simprocAttr,reduceCtorEq,reduceIte,ll_takeL]<;>first|trivial|exact ⟨rfl,rfl⟩|trace_state) fun x hx=>?_
  have htl:=tbm_len x fun x=>cjr n (op m n) e x a
  refine qm (qm ?_)
  refine hk_region fun K hK=>runs_eval tab_ok ?_
  simp only [ev0,evA,evB,evP,fl,gp,tab,simprocAttr,reduceCtorEq,reduceIte]
  refine fin_run ?_ (hK _ ?_)<;>clear hK<;>clear K
  ·(first|exact trivial|omega|(simp only [In64] at *; omega)|(simp [In64] at *; omega)|(simp_all; done)|skip)
  refine qa ?_
  refine hk_cond rfl (fun hC2=>?_) (fun hC2=>?_)
  ·(try simp only [nhs] at hC2)
   have hxl:x < n:=by omega
   refine qh (qa (qm (ql ?_)))
   refine hk_region fun K hK=>runs_eval tab_ok ?_
   simp only [ev0,evA,evB,evP,fl,gp,tab,simprocAttr,reduceCtorEq,reduceIte]
   refine fin_stop trivial (runs_call (c_r h hxl hal) rfl rfl rfl (by simp only [dstOk,Nat.reduceLT]) (by repeat (first|exact trivial|constructor)) (runs_eval tab_ok ?_))
   simp only [ev0,evA,evB,evP,fl,gp,tab,simprocAttr,reduceCtorEq,reduceIte]
   refine fin_run ?_ (hK _ ?_)<;>clear hK<;>clear K
   ·(first|exact trivial|omega|(simp only [In64] at *; omega)|(simp [In64] at *; omega)|(simp_all; done)|skip)
   refine qd (qa ?_)
   refine hk_region fun K hK=>runs_eval tab_ok ?_
   simp only [ev0,evA,evB,evP,fl,gp,tab,simprocAttr,reduceCtorEq,reduceIte]
   refine fin_run ?_ (hK _ ?_)<;>clear hK<;>clear K
   ·(first|exact trivial|omega|(simp only [In64] at *; omega)|(simp [In64] at *; omega)|(simp_all; done)|skip)
   refine qa ?_
   refine ⟨x + 1,[0,2],by omega,by omega,?_⟩
   rw [tbm_succ]
   simp only [leq,leA,ev0,evA,evB,evP,fl,gp,tab,simprocAttr,reduceCtorEq,reduceIte,ll_takeL]<;>first|trivial|omega|trace_state
  ·(try simp only [nhs] at hC2)
   obtain rfl:x=n:=by omega
   refine qj (qc (qc (qf (qa (qm ?_)))))
   refine hk_seal 4 1 rfl rfl ?_
   rw [show (tbm x fun b=>cjr x (op m x) e b a)=inr x (op m x) e a from rfl] at *
   have hwl:(inr x (op m x) e a).length=x:=tbm_len _ _
   refine hk_region fun K hK=>runs_eval tab_ok ?_
   simp only [ev0,evA,evB,evP,fl,gp,tab,simprocAttr,reduceCtorEq,reduceIte]
   refine fin_run trivial (hK _ ?_)<;>clear hK<;>clear K
   refine qa (qm (qm ?_))
   refine hk_region fun K hK=>runs_eval tab_ok ?_
   simp only [ev0,evA,evB,evP,fl,gp,tab,simprocAttr,reduceCtorEq,reduceIte]
   refine fin_run trivial (hK _ ?_)<;>clear hK<;>clear K
   refine qa (ql ?_)
   refine hk_loop (ι:=Nat) (fun i=>⟨50,[(0,.p (.ptr [.int .i64 x,.list (il m)])),(2,.sl 0 0 (dsR (inr x (op m x) e) a).length),(3,.p (.int .i64 a)),(4,.p (.list (il (inr x (op m x) e a)))),(6,.p (.bool (decide (inr x (op m x) e a∈(dsR (inr x (op m x) e) a).take i)))),(7,.p (.int .i64 i))],[.own (opl (ll (dsR (inr x (op m x) e) a)))]⟩) (fun i=>i≤(dsR (inr x (op m x) e) a).length) (fun i=>(dsR (inr x (op m x) e) a).length - i) 0 (Nat.zero_le _) [0] (by simp only [leq,leA,ev0,evA,evB,evP,fl,gp,tab,simprocAttr,reduceCtorEq,reduceIte,ll_takeL]<;>first|trivial|exact ⟨rfl,rfl⟩|(simp; done)|trace_state) fun i hi=>?_
   refine qm (qm ?_)
   refine hk_region fun K hK=>runs_eval tab_ok ?_
   simp only [ev0,evA,evB,evP,fl,gp,tab,simprocAttr,reduceCtorEq,reduceIte]
   refine fin_run trivial (hK _ ?_)<;>clear hK<;>clear K
   refine qa ?_
   refine hk_cond rfl (fun hC3=>?_) (fun hC3=>?_)
   ·(try simp only [nhs] at hC3)
    have hil:i < (dsR (inr x (op m x) e) a).length:=by omega
    have hmt:(inr x (op m x) e a∈(dsR (inr x (op m x) e) a).take (i + 1))↔(inr x (op m x) e a∈(dsR (inr x (op m x) e) a).take i)∨(dsR (inr x (op m x) e) a).getD i []=inr x (op m x) e a:=by
     rw [List.take_succ_eq_append_getElem hil,List.mem_append,List.mem_singleton]
     rw [show (dsR (inr x (op m x) e) a).getD i []=(dsR (inr x (op m x) e) a)[i] by simp [List.getD,List.getElem?_eq_getElem hil]]
     exact or_congr Iff.rfl eq_comm
    have hwi:((dsR (inr x (op m x) e) a).getD i []).length≤1000000000000000:=by
     obtain ⟨j,_,e1⟩:=mem_dsR.1 (show (dsR (inr x (op m x) e) a).getD i []∈dsR (inr x (op m x) e) a by simp [List.getD,List.getElem?_eq_getElem hil])
     rw [e1]; unfold inr; rw [tbm_len]; omega
    refine qh (qa (qm (ql ?_)))
    by_cases g14a:inr x (op m x) e a∈(dsR (inr x (op m x) e) a).take i
    ·refine hk_region fun K hK=>runs_eval tab_ok ?_
     simp only [ev0,evA,evB,evP,fl,gp,tab,simprocAttr,reduceCtorEq,reduceIte,oll_get hil,decide_eq_true g14a]
     refine fin_run trivial (hK _ ?_)<;>clear hK<;>clear K
     refine qd (qa ?_)
     refine hk_region fun K hK=>runs_eval tab_ok ?_
     simp only [ev0,evA,evB,evP,fl,gp,tab,simprocAttr,reduceCtorEq,reduceIte]
     refine fin_run ?_ (hK _ ?_)<;>clear hK<;>clear K
     ·(first|exact trivial|omega|(simp only [In64] at *; omega)|(simp [In64] at *; omega)|(simp_all; done)|skip)
     refine qa ?_
     refine ⟨i + 1,[0],by omega,by omega,?_⟩
     simp only [leq,leA,ev0,evA,evB,evP,fl,gp,tab,simprocAttr,reduceCtorEq,reduceIte,ll_takeL]<;>first|trivial|omega|(simp only [hmt]; simp_all; done)|trace_state
    ·refine hk_region fun K hK=>runs_eval tab_ok ?_
     simp only [ev0,evA,evB,evP,fl,gp,tab,simprocAttr,reduceCtorEq,reduceIte,oll_get hil,decide_eq_false g14a]
     refine fin_stop ?_ (runs_call (ints_c ((dsR (inr x (op m x) e) a).getD i []) (inr x (op m x) e a) hwi) rfl rfl rfl (by simp only [dstOk,Nat.reduceLT]) (by repeat (first|exact trivial|constructor)) (runs_eval tab_ok ?_))
     ·(first|exact trivial|omega|(simp only [In64] at *; omega)|(simp [In64] at *; omega)|(simp_all; done)|skip)
     simp only [ev0,evA,evB,evP,fl,gp,tab,simprocAttr,reduceCtorEq,reduceIte,oll_get hil,decide_eq_false g14a]
     refine fin_run ?_ (hK _ ?_)<;>clear hK<;>clear K
     ·(first|exact trivial|omega|(simp only [In64] at *; omega)|(simp [In64] at *; omega)|(simp_all; done)|skip)
     refine qd (qa ?_)
     refine hk_region fun K hK=>runs_eval tab_ok ?_
     simp only [ev0,evA,evB,evP,fl,gp,tab,simprocAttr,reduceCtorEq,reduceIte]
     refine fin_run ?_ (hK _ ?_)<;>clear hK<;>clear K
     ·(first|exact trivial|omega|(simp only [In64] at *; omega)|(simp [In64] at *; omega)|(simp_all; done)|skip)
     refine qa ?_
     refine ⟨i + 1,[0],by omega,by omega,?_⟩
     simp only [leq,leA,ev0,evA,evB,evP,fl,gp,tab,simprocAttr,reduceCtorEq,reduceIte,ll_takeL]<;>first|trivial|omega|(simp only [hmt]; simp_all; done)|trace_state
   ·(try simp only [nhs] at hC3)
    have hie:i=(dsR (inr x (op m x) e) a).length:=by omega
    rw [hie,List.take_length]
    refine qj (qc (qc (qf (qa (qm ?_)))))
    refine hk_region fun K hK=>runs_eval tab_ok ?_
    simp only [ev0,evA,evB,evP,fl,gp,tab,simprocAttr,reduceCtorEq,reduceIte]
    refine fin_run trivial (hK _ ?_)<;>clear hK<;>clear K
    refine qa ?_
    refine hk_cond rfl (fun hC4=>?_) (fun hC4=>?_)
    ·(try simp only [nhs] at hC4)
     have hin:¬ inr x (op m x) e a∈dsR (inr x (op m x) e) a:=by simpa using hC4
     have hsu:dsR (inr x (op m x) e) (a + 1)=dsR (inr x (op m x) e) a++[inr x (op m x) e a]:=by rw [dsR,if_neg hin]
     refine hk_region fun K hK=>runs_eval tab_ok ?_
     simp only [ev0,evA,evB,evP,fl,gp,tab,simprocAttr,reduceCtorEq,reduceIte,ll_takeL,oll_ok,ll_snoc]
     refine fin_run ?_ (hK _ ?_)<;>clear hK<;>clear K
     ·(first|exact trivial|omega|(simp only [In64] at *; omega)|(simp [In64] at *; omega)|(simp_all; done)|skip)
     refine qd (qa ?_)
     refine hk_region fun K hK=>runs_eval tab_ok ?_
     simp only [ev0,evA,evB,evP,fl,gp,tab,simprocAttr,reduceCtorEq,reduceIte]
     refine fin_run ?_ (hK _ ?_)<;>clear hK<;>clear K
     ·(first|exact trivial|omega|(simp only [In64] at *; omega)|(simp [In64] at *; omega)|(simp_all; done)|skip)
     refine qa ?_
     refine ⟨a + 1,[1],by omega,by omega,?_⟩
     rw [hsu]
     simp only [leq,leA,ev0,evA,evB,evP,fl,gp,tab,simprocAttr,reduceCtorEq,reduceIte,ll_takeL,ll_snoc,ll_takeS]<;>first|trivial|omega|trace_state
    ·(try simp only [nhs] at hC4)
     have hin:inr x (op m x) e a∈dsR (inr x (op m x) e) a:=by simpa using hC4
     have hsu:dsR (inr x (op m x) e) (a + 1)=dsR (inr x (op m x) e) a:=by rw [dsR,if_pos hin]
     refine qh (qd (qa ?_))
     refine hk_region fun K hK=>runs_eval tab_ok ?_
     simp only [ev0,evA,evB,evP,fl,gp,tab,simprocAttr,reduceCtorEq,reduceIte]
     refine fin_run ?_ (hK _ ?_)<;>clear hK<;>clear K
     ·(first|exact trivial|omega|(simp only [In64] at *; omega)|(simp [In64] at *; omega)|(simp_all; done)|skip)
     refine qa ?_
     refine ⟨a + 1,[0],by omega,by omega,?_⟩
     rw [hsu]
     simp only [leq,leA,ev0,evA,evB,evP,fl,gp,tab,simprocAttr,reduceCtorEq,reduceIte,ll_takeL,ll_snoc,ll_takeS]<;>first|trivial|omega|trace_state
 ·(try simp only [nhs] at hC1)
  obtain rfl:a=n:=by omega
  have hsl:=(srtL_perm (dsR (inr a (op m a) e) a)).length_eq
  have hrw:∀ v∈dsR (inr a (op m a) e) a,v.length=a:=fun v hv=>by
   obtain ⟨j,_,rfl⟩:=mem_dsR.1 hv
   exact tbm_len _ _
  refine qj (qc (qc (qf (qa (qm ?_)))))
  refine hk_region fun K hK=>runs_eval tab_ok ?_
  simp only [ev0,evA,evB,evP,fl,gp,tab,simprocAttr,reduceCtorEq,reduceIte]
  refine fin_stop ?_ (runs_callM [0] (rising_c a (dsR (inr a (op m a) e) a) (by omega) (by omega) hrw) rfl rfl ?_ (by simp only [leA,ev0,evA,evB,evP,fl,gp,tab,simprocAttr,reduceCtorEq,reduceIte]; first|trivial|(simp only [ll_takeL]; first|trivial|(repeat constructor; done))|(repeat constructor)) (by decide) (by first|rfl|(simp only [List.length_cons,List.length_nil,List.length_append]; decide)) (by first|rfl|(simp only [scM,opl_sc,List.all_cons,List.all_nil,List.length_cons,List.length_nil]; first|rfl|decide)|(simp [scM,scA,sc1,mpKeep,notAnc]; done)) (by simp only [dstOk,Nat.reduceLT]) (runs_eval tab_ok ?_))
  ·(first|exact trivial|omega|(simp only [In64] at *; omega)|(simp [In64] at *; omega)|(simp_all; done)|skip)
  ·(simp only [argsM,argM1,peekG,peekS,scA,sc1,ren,ren1,List.map_cons,List.map_nil,List.append_nil,List.cons_append,List.nil_append,enA,ev0,evA,evB,evP,fl,gp,tab,simprocAttr,reduceCtorEq,reduceIte]; try trivial)
  simp only [putM,hset,List.range',Blk.ren,ren,ren1,List.map_cons,List.map_nil,List.cons_append,List.nil_append,List.append_nil,List.length_cons,List.length_nil,ev0,evA,evB,evP,fl,gp,tab,simprocAttr,reduceCtorEq,reduceIte]
  refine fin_run trivial (hK _ ?_)<;>clear hK<;>clear K
  refine qa (qk ?_)
  simp only [Tryd.results19,enA,ev0,evA,evB,evP,fl,gp,tab,simprocAttr,reduceCtorEq,reduceIte]
  rw [← dsR_cps,List.take_of_length_le (show (ll (srtL (dsR (inr a (op m a) e) a))).length≤(dsR (inr a (op m a) e) a).length by rw [ll_length]; omega)]
  exact ⟨⟨by omega,ll_all _⟩,rfl⟩

theorem filter_sorted {xs : List (List Int)} (n : Nat) (hs : (srtL xs).Pairwise fun v w => cmpL v w < 0) : (srtL xs).filter (fun v => decide (onto1 v n)) = srtL (xs.filter fun v => decide (onto1 v n)) := by
  refine srtL_unique (((srtL_perm xs).filter _)) (List.Pairwise.filter _ (hs.imp fun {v w} h h' => ?_))
  have h3 := cmpL_trans _ _ _ h h'
  rw [cmpL_self] at h3; exact absurd h3 (by decide)
theorem autos_key (N : Int) (m : List Int) (hm : m.length ≤ 17592186043904) : ¬ (gf N m).1 = 0 ∨ (∃ n e : Nat, GT N m n e ∧ ¬ n ≤ 24) ∨
    (∃ n e : Nat, ∃ LL : List (List Int), ∃ c : Int, GT N m n e ∧ n ≤ 24 ∧ ¬ (hmW n m e n m e).length ≤ 5000 ∧ FnC Tryd.prog 13 [gp N m] (.tup [.list (ll LL), fl (c, 0)]) ∧ LL.length ≤ 1000 ∧ (∀ v ∈ LL, ∃ φ, Hmo n (op m n) n (op m n) φ ∧ v = tbm n φ ∧ onto1 v n) ∧ (LL.Pairwise fun v w => cmpL v w < 0) ∧ (c = 0 ∨ (c = 9 ∧ LL = []))) ∨
    (∃ n e : Nat, GT N m n e ∧ n ≤ 24 ∧ (hmW n m e n m e).length ≤ 5000 ∧ ¬ (auW n m e).length ≤ 1000 ∧ FnC Tryd.prog 13 [gp N m] (.tup [.list (ll []), fl (9, 0)])) ∨
    (∃ n e : Nat, GT N m n e ∧ n ≤ 24 ∧ (hmW n m e n m e).length ≤ 5000 ∧ (auW n m e).length ≤ 1000 ∧ FnC Tryd.prog 13 [gp N m] (.tup [.list (ll (srtL (auW n m e))), fl (0, 0)])) := by
  by_cases h1 : (gf N m).1 = 0
  · obtain ⟨n, e, h, _⟩ := gf_ok h1
    obtain rfl := h.1
    by_cases h2 : n ≤ 24
    · have hA := autos_ok h h2 (by omega)
      by_cases h3 : (auW n m e).length ≤ 1000
      · rw [if_pos h3, if_pos h3] at hA
        by_cases h4 : (hmW n m e n m e).length ≤ 5000
        · exact .inr (.inr (.inr (.inr ⟨n, e, h, h2, h4, h3, hA⟩)))
        · refine .inr (.inr (.inl ⟨n, e, _, 0, h, h2, h4, hA, by rw [← (srtL_perm _).length_eq]; exact h3, fun v hv => ?_, srtL_strict (auW_nodup h), .inl rfl⟩))
          obtain ⟨⟨φ, hφ, e1⟩, ho⟩ := (auW_mem h v).1 ((srtL_perm _).mem_iff.2 hv)
          exact ⟨φ, hφ, e1, ho⟩
      · rw [if_neg h3, if_neg h3] at hA
        by_cases h4 : (hmW n m e n m e).length ≤ 5000
        · exact .inr (.inr (.inr (.inl ⟨n, e, h, h2, h4, h3, hA⟩)))
        · exact .inr (.inr (.inl ⟨n, e, [], 9, h, h2, h4, hA, by simp, by simp, .nil, .inr ⟨rfl, rfl⟩⟩))
    · exact .inr (.inl ⟨n, e, h, h2⟩)
  · exact .inl h1

set_option maxHeartbeats 16000000 in
set_option maxRecDepth 20000 in
theorem homAutos_c (N:Int) (m:List Int) (hm:m.length≤17592186043904):FnC Tryd.prog 3 [gp N m] (.bool true):=by
 have key:=autos_key N m hm
 have hG:=gf_c N m (by omega)
 refine fnc_of tab_ok Tryd.func3 rfl (by kernel_rfl) (by rw [Tryd.ntmps3]; exact Nat.le_add_left 1 _) ?_; rw [Tryd.ntmps3]
 refine qm ?_
 refine hk_region fun K hK=>runs_eval tab_ok ?_
 simp only [ev0,evA,evB,evP,fl,gp,tab,simprocAttr,reduceCtorEq,reduceIte]
 refine fin_run ?_ (hK _ ?_)<;>clear hK<;>clear K
 ·(first|exact trivial|omega|(simp only [In64] at *; omega)|(simp [In64] at *; omega)|(simp_all; done)|skip)
 refine qa (qm ?_)
 rcases key with hf | ⟨n,e,h,h2⟩ | ⟨n,e,LL,c,h,h2,h3,hA,hL,hLL,hS,hc⟩ | ⟨n,e,h,h2,h3,h4,hA⟩ | ⟨n,e,h,h2,h3,h4,hA⟩
 ·have hA:=autos_no N m (by omega) hf
  have hI:=inner_no N m (by omega) hf
  have hz:=decide_eq_false hf
  have hLs:=listsAs_c [] (gf N m) 19 [.ptr [.int .i64 N,.list (il m)]] (by simp) (by simp) (fun _=>rfl) (fun h=>absurd h hf)
  refine hk_region fun K hK=>runs_eval tab_ok ?_
  simp only [ev0,evA,evB,evP,fl,gp,tab,simprocAttr,reduceCtorEq,reduceIte]
  refine fin_stop trivial (runs_call (ownGroup_c _ m hm) rfl rfl rfl (by simp only [dstOk,Nat.reduceLT]) (by repeat (first|exact trivial|constructor)) (runs_eval tab_ok ?_))
  simp only [ev0,evA,evB,evP,fl,gp,tab,simprocAttr,reduceCtorEq,reduceIte]
  refine fin_stop trivial (runs_call (hA) rfl rfl rfl (by simp only [dstOk,Nat.reduceLT]) (by repeat (first|exact trivial|constructor)) (runs_eval tab_ok ?_))
  simp only [ev0,evA,evB,evP,fl,gp,tab,simprocAttr,reduceCtorEq,reduceIte]
  refine fin_run ?_ (hK _ ?_)<;>clear hK<;>clear K
  ·(first|exact trivial|omega|(simp only [In64] at *; omega)|(simp [In64] at *; omega)|(simp_all; done)|skip)
  refine qa (qm ?_)
  refine hk_region fun K hK=>runs_eval tab_ok ?_
  simp only [ev0,evA,evB,evP,fl,gp,tab,simprocAttr,reduceCtorEq,reduceIte]
  refine fin_stop trivial (runs_call (ownGroup_c _ m hm) rfl rfl rfl (by simp only [dstOk,Nat.reduceLT]) (by repeat (first|exact trivial|constructor)) (runs_eval tab_ok ?_))
  simp only [ev0,evA,evB,evP,fl,gp,tab,simprocAttr,reduceCtorEq,reduceIte]
  refine fin_stop trivial (runs_call (hI) rfl rfl rfl (by simp only [dstOk,Nat.reduceLT]) (by repeat (first|exact trivial|constructor)) (runs_eval tab_ok ?_))
  simp only [ev0,evA,evB,evP,fl,gp,tab,simprocAttr,reduceCtorEq,reduceIte]
  refine fin_run ?_ (hK _ ?_)<;>clear hK<;>clear K
  ·(first|exact trivial|omega|(simp only [In64] at *; omega)|(simp [In64] at *; omega)|(simp_all; done)|skip)
  refine qa (qm ?_)
  refine hk_region fun K hK=>runs_eval tab_ok ?_
  simp only [ev0,evA,evB,evP,fl,gp,tab,simprocAttr,reduceCtorEq,reduceIte]
  refine fin_stop trivial (runs_call (hG) rfl rfl rfl (by simp only [dstOk,Nat.reduceLT]) (by repeat (first|exact trivial|constructor)) (runs_eval tab_ok ?_))
  simp only [ev0,evA,evB,evP,fl,gp,tab,simprocAttr,reduceCtorEq,reduceIte]
  refine fin_run ?_ (hK _ ?_)<;>clear hK<;>clear K
  ·(first|exact trivial|omega|(simp only [In64] at *; omega)|(simp [In64] at *; omega)|(simp_all; done)|skip)
  refine qa (qm (qm ?_))
  refine hk_freeze 0 rfl rfl ?_
  refine hk_pure 1 rfl (Nat.zero_le _) ?_
  simp only [hset,List.drop_zero]
  refine hk_region fun K hK=>runs_eval tab_ok ?_
  simp only [ev0,evA,evB,evP,fl,gp,tab,simprocAttr,reduceCtorEq,reduceIte]
  refine fin_stop trivial (runs_call (homBegun_c) rfl rfl rfl (by simp only [dstOk,Nat.reduceLT]) (by repeat (first|exact trivial|constructor)) (runs_eval tab_ok ?_))
  simp only [ev0,evA,evB,evP,fl,gp,tab,simprocAttr,reduceCtorEq,reduceIte]
  refine fin_stop trivial (runs_call (hLs) rfl rfl rfl (by simp only [dstOk,Nat.reduceLT]) (by repeat (first|exact trivial|constructor)) (runs_eval tab_ok ?_))
  simp only [ev0,evA,evB,evP,fl,gp,tab,simprocAttr,reduceCtorEq,reduceIte]
  refine fin_run ?_ (hK _ ?_)<;>clear hK<;>clear K
  ·(first|exact trivial|omega|(simp only [In64] at *; omega)|(simp [In64] at *; omega)|(simp_all; done)|skip)
  refine qa ?_
  refine hk_cond rfl (fun hC1=>?_) (fun hC1=>?_)
  ·cases hC1
  ·(try simp only [nhs] at hC1)
   refine qh (qa (qm (qm ?_)))
   refine hk_region fun K hK=>runs_eval tab_ok ?_
   simp only [ev0,evA,evB,evP,fl,gp,tab,simprocAttr,reduceCtorEq,reduceIte,hz]
   refine fin_run ?_ (hK _ ?_)<;>clear hK<;>clear K
   ·(first|exact trivial|omega|(simp only [In64] at *; omega)|(simp [In64] at *; omega)|(simp_all; done)|skip)
   refine qa ?_
   refine hk_cond rfl (fun hC2=>?_) (fun hC2=>?_)
   ·cases hC2
   ·refine qh (qa (qm (qm ?_)))
    refine hk_region fun K hK=>runs_eval tab_ok ?_
    simp only [ev0,evA,evB,evP,fl,gp,tab,simprocAttr,reduceCtorEq,reduceIte,hz]
    refine fin_run ?_ (hK _ ?_)<;>clear hK<;>clear K
    ·(first|exact trivial|omega|(simp only [In64] at *; omega)|(simp [In64] at *; omega)|(simp_all; done)|skip)
    refine qa ?_
    refine hk_cond rfl (fun hC3=>?_) (fun hC3=>?_)
    ·(try simp only [nhs] at hC3)
     refine qm ?_
     refine hk_region fun K hK=>runs_eval tab_ok ?_
     simp only [ev0,evA,evB,evP,fl,gp,tab,simprocAttr,reduceCtorEq,reduceIte,beq_self_eq_true]
     refine fin_run ?_ (hK _ ?_)<;>clear hK<;>clear K
     ·(first|exact trivial|omega|(simp only [In64] at *; omega)|(simp [In64] at *; omega)|(simp_all; done)|skip)
     refine qa (qk (qb ?_))
     simp only [Tryd.results3,enA,ev0,evA,evB,evP,fl,gp,tab,simprocAttr,reduceCtorEq,reduceIte]
     all_goals (first|rfl|(simp; done)|trace_state)
    ·cases hC3
 ·obtain rfl:=h.1
  have hn:=h.2.1.big
  rw [gf_of h] at hG
  have hA:=autos_big h (by omega) h2
  have hI:=inner_ok h (by omega)
  have hil:=inl_len (n:=n) (e:=e) (op m n) n
  have hcl:(cps [] (srtL (inl' n (op m n) e n))).length≤n:=by
   rw [← dsR_cps,← (srtL_perm _).length_eq]; exact dsR_len _ _
  have hLs:=listsAs_c (cps [] (srtL (inl' n (op m n) e n))) (0,0) 19 [.ptr [.int .i64 n,.list (il m)]] (by omega) (fun x hx=>by
   rw [← dsR_cps,← (srtL_perm _).mem_iff,mem_dsR] at hx
   obtain ⟨a,_,rfl⟩:=hx
   unfold inr; rw [tbm_len]; omega) (fun h=>absurd rfl h) (fun _=>hau1_c h)
  have hz:decide ((0:Int)=0)=true:=rfl
  refine hk_region fun K hK=>runs_eval tab_ok ?_
  simp only [ev0,evA,evB,evP,fl,gp,tab,simprocAttr,reduceCtorEq,reduceIte]
  refine fin_stop trivial (runs_call (ownGroup_c _ m hm) rfl rfl rfl (by simp only [dstOk,Nat.reduceLT]) (by repeat (first|exact trivial|constructor)) (runs_eval tab_ok ?_))
  simp only [ev0,evA,evB,evP,fl,gp,tab,simprocAttr,reduceCtorEq,reduceIte]
  refine fin_stop trivial (runs_call (hA) rfl rfl rfl (by simp only [dstOk,Nat.reduceLT]) (by repeat (first|exact trivial|constructor)) (runs_eval tab_ok ?_))
  simp only [ev0,evA,evB,evP,fl,gp,tab,simprocAttr,reduceCtorEq,reduceIte]
  refine fin_run ?_ (hK _ ?_)<;>clear hK<;>clear K
  ·(first|exact trivial|omega|(simp only [In64] at *; omega)|(simp [In64] at *; omega)|(simp_all; done)|skip)
  refine qa (qm ?_)
  refine hk_region fun K hK=>runs_eval tab_ok ?_
  simp only [ev0,evA,evB,evP,fl,gp,tab,simprocAttr,reduceCtorEq,reduceIte]
  refine fin_stop trivial (runs_call (ownGroup_c _ m hm) rfl rfl rfl (by simp only [dstOk,Nat.reduceLT]) (by repeat (first|exact trivial|constructor)) (runs_eval tab_ok ?_))
  simp only [ev0,evA,evB,evP,fl,gp,tab,simprocAttr,reduceCtorEq,reduceIte]
  refine fin_stop trivial (runs_call (hI) rfl rfl rfl (by simp only [dstOk,Nat.reduceLT]) (by repeat (first|exact trivial|constructor)) (runs_eval tab_ok ?_))
  simp only [ev0,evA,evB,evP,fl,gp,tab,simprocAttr,reduceCtorEq,reduceIte]
  refine fin_run ?_ (hK _ ?_)<;>clear hK<;>clear K
  ·(first|exact trivial|omega|(simp only [In64] at *; omega)|(simp [In64] at *; omega)|(simp_all; done)|skip)
  refine qa (qm ?_)
  refine hk_region fun K hK=>runs_eval tab_ok ?_
  simp only [ev0,evA,evB,evP,fl,gp,tab,simprocAttr,reduceCtorEq,reduceIte]
  refine fin_stop trivial (runs_call (hG) rfl rfl rfl (by simp only [dstOk,Nat.reduceLT]) (by repeat (first|exact trivial|constructor)) (runs_eval tab_ok ?_))
  simp only [ev0,evA,evB,evP,fl,gp,tab,simprocAttr,reduceCtorEq,reduceIte]
  refine fin_run ?_ (hK _ ?_)<;>clear hK<;>clear K
  ·(first|exact trivial|omega|(simp only [In64] at *; omega)|(simp [In64] at *; omega)|(simp_all; done)|skip)
  refine qa (qm (qm ?_))
  refine hk_freeze 0 rfl rfl ?_
  refine hk_pure 1 rfl (Nat.zero_le _) ?_
  simp only [hset,List.drop_zero]
  refine hk_region fun K hK=>runs_eval tab_ok ?_
  simp only [ev0,evA,evB,evP,fl,gp,tab,simprocAttr,reduceCtorEq,reduceIte]
  refine fin_stop trivial (runs_call (homBegun_c) rfl rfl rfl (by simp only [dstOk,Nat.reduceLT]) (by repeat (first|exact trivial|constructor)) (runs_eval tab_ok ?_))
  simp only [ev0,evA,evB,evP,fl,gp,tab,simprocAttr,reduceCtorEq,reduceIte]
  refine fin_stop trivial (runs_call (hLs) rfl rfl rfl (by simp only [dstOk,Nat.reduceLT]) (by repeat (first|exact trivial|constructor)) (runs_eval tab_ok ?_))
  simp only [ev0,evA,evB,evP,fl,gp,tab,simprocAttr,reduceCtorEq,reduceIte]
  refine fin_run ?_ (hK _ ?_)<;>clear hK<;>clear K
  ·(first|exact trivial|omega|(simp only [In64] at *; omega)|(simp [In64] at *; omega)|(simp_all; done)|skip)
  refine qa ?_
  refine hk_cond rfl (fun hC1=>?_) (fun hC1=>?_)
  ·cases hC1
  ·(try simp only [nhs] at hC1)
   refine qh (qa (qm (qm ?_)))
   refine hk_region fun K hK=>runs_eval tab_ok ?_
   simp only [ev0,evA,evB,evP,fl,gp,tab,simprocAttr,reduceCtorEq,reduceIte,hz,decide_eq_true (show ((n:Nat):Int) > 24 by omega)]
   refine fin_run ?_ (hK _ ?_)<;>clear hK<;>clear K
   ·(first|exact trivial|omega|(simp only [In64] at *; omega)|(simp [In64] at *; omega)|(simp_all; done)|skip)
   refine qa ?_
   refine hk_cond rfl (fun hC2=>?_) (fun hC2=>?_)
   ·(try simp only [nhs] at hC2)
    refine hk_region fun K hK=>runs_eval tab_ok ?_
    simp only [ev0,evA,evB,evP,fl,gp,tab,simprocAttr,reduceCtorEq,reduceIte]
    refine fin_stop trivial (runs_call (f_c 2 0) rfl rfl rfl (by simp only [dstOk,Nat.reduceLT]) (by repeat (first|exact trivial|constructor)) (runs_eval tab_ok ?_))
    simp only [ev0,evA,evB,evP,fl,gp,tab,simprocAttr,reduceCtorEq,reduceIte]
    refine fin_run ?_ (hK _ ?_)<;>clear hK<;>clear K
    ·(first|exact trivial|omega|(simp only [In64] at *; omega)|(simp [In64] at *; omega)|(simp_all; done)|skip)
    refine qa (qm (qm ?_))
    refine hk_region fun K hK=>runs_eval tab_ok ?_
    simp only [ev0,evA,evB,evP,fl,gp,tab,simprocAttr,reduceCtorEq,reduceIte,hz]
    refine fin_run ?_ (hK _ ?_)<;>clear hK<;>clear K
    ·(first|exact trivial|omega|(simp only [In64] at *; omega)|(simp [In64] at *; omega)|(simp_all; done)|skip)
    refine qa ?_
    refine hk_cond rfl (fun hC3=>?_) (fun hC3=>?_)
    ·(try simp only [nhs] at hC3)
     refine qm ?_
     refine hk_region fun K hK=>runs_eval tab_ok ?_
     simp only [ev0,evA,evB,evP,fl,gp,tab,simprocAttr,reduceCtorEq,reduceIte,beq_self_eq_true]
     refine fin_run ?_ (hK _ ?_)<;>clear hK<;>clear K
     ·(first|exact trivial|omega|(simp only [In64] at *; omega)|(simp [In64] at *; omega)|(simp_all; done)|skip)
     refine qa (qk (qb ?_))
     simp only [Tryd.results3,enA,ev0,evA,evB,evP,fl,gp,tab,simprocAttr,reduceCtorEq,reduceIte]
     all_goals (first|rfl|(simp; done)|trace_state)
    ·cases hC3
   ·cases hC2
 ·obtain rfl:=h.1
  have hn:=h.2.1.big
  rw [gf_of h] at hG
  have hH:=homs_c 5000 (by decide) h h
  rw [if_neg h3,decide_eq_false h3] at hH
  have hI:=inner_ok h (by omega)
  have hil:=inl_len (n:=n) (e:=e) (op m n) n
  have hcl:(cps [] (srtL (inl' n (op m n) e n))).length≤n:=by
   rw [← dsR_cps,← (srtL_perm _).length_eq]; exact dsR_len _ _
  have hLs:=listsAs_c (cps [] (srtL (inl' n (op m n) e n))) (0,0) 19 [.ptr [.int .i64 n,.list (il m)]] (by omega) (fun x hx=>by
   rw [← dsR_cps,← (srtL_perm _).mem_iff,mem_dsR] at hx
   obtain ⟨a,_,rfl⟩:=hx
   unfold inr; rw [tbm_len]; omega) (fun h=>absurd rfl h) (fun _=>hau1_c h)
  have hz:decide ((0:Int)=0)=true:=rfl
  refine hk_region fun K hK=>runs_eval tab_ok ?_
  simp only [ev0,evA,evB,evP,fl,gp,tab,simprocAttr,reduceCtorEq,reduceIte]
  refine fin_stop trivial (runs_call (ownGroup_c _ m hm) rfl rfl rfl (by simp only [dstOk,Nat.reduceLT]) (by repeat (first|exact trivial|constructor)) (runs_eval tab_ok ?_))
  simp only [ev0,evA,evB,evP,fl,gp,tab,simprocAttr,reduceCtorEq,reduceIte]
  refine fin_stop trivial (runs_call (hA) rfl rfl rfl (by simp only [dstOk,Nat.reduceLT]) (by repeat (first|exact trivial|constructor)) (runs_eval tab_ok ?_))
  simp only [ev0,evA,evB,evP,fl,gp,tab,simprocAttr,reduceCtorEq,reduceIte]
  refine fin_run ?_ (hK _ ?_)<;>clear hK<;>clear K
  ·(first|exact trivial|omega|(simp only [In64] at *; omega)|(simp [In64] at *; omega)|(simp_all; done)|skip)
  refine qa (qm ?_)
  refine hk_region fun K hK=>runs_eval tab_ok ?_
  simp only [ev0,evA,evB,evP,fl,gp,tab,simprocAttr,reduceCtorEq,reduceIte]
  refine fin_stop trivial (runs_call (ownGroup_c _ m hm) rfl rfl rfl (by simp only [dstOk,Nat.reduceLT]) (by repeat (first|exact trivial|constructor)) (runs_eval tab_ok ?_))
  simp only [ev0,evA,evB,evP,fl,gp,tab,simprocAttr,reduceCtorEq,reduceIte]
  refine fin_stop trivial (runs_call (hI) rfl rfl rfl (by simp only [dstOk,Nat.reduceLT]) (by repeat (first|exact trivial|constructor)) (runs_eval tab_ok ?_))
  simp only [ev0,evA,evB,evP,fl,gp,tab,simprocAttr,reduceCtorEq,reduceIte]
  refine fin_run ?_ (hK _ ?_)<;>clear hK<;>clear K
  ·(first|exact trivial|omega|(simp only [In64] at *; omega)|(simp [In64] at *; omega)|(simp_all; done)|skip)
  refine qa (qm ?_)
  refine hk_region fun K hK=>runs_eval tab_ok ?_
  simp only [ev0,evA,evB,evP,fl,gp,tab,simprocAttr,reduceCtorEq,reduceIte]
  refine fin_stop trivial (runs_call (hG) rfl rfl rfl (by simp only [dstOk,Nat.reduceLT]) (by repeat (first|exact trivial|constructor)) (runs_eval tab_ok ?_))
  simp only [ev0,evA,evB,evP,fl,gp,tab,simprocAttr,reduceCtorEq,reduceIte]
  refine fin_run ?_ (hK _ ?_)<;>clear hK<;>clear K
  ·(first|exact trivial|omega|(simp only [In64] at *; omega)|(simp [In64] at *; omega)|(simp_all; done)|skip)
  refine qa (qm (qm ?_))
  refine hk_freeze 0 rfl rfl ?_
  refine hk_pure 1 rfl (Nat.zero_le _) ?_
  simp only [hset,List.drop_zero]
  refine hk_region fun K hK=>runs_eval tab_ok ?_
  simp only [ev0,evA,evB,evP,fl,gp,tab,simprocAttr,reduceCtorEq,reduceIte]
  refine fin_stop trivial (runs_call (homBegun_c) rfl rfl rfl (by simp only [dstOk,Nat.reduceLT]) (by repeat (first|exact trivial|constructor)) (runs_eval tab_ok ?_))
  simp only [ev0,evA,evB,evP,fl,gp,tab,simprocAttr,reduceCtorEq,reduceIte]
  refine fin_stop trivial (runs_call (hLs) rfl rfl rfl (by simp only [dstOk,Nat.reduceLT]) (by repeat (first|exact trivial|constructor)) (runs_eval tab_ok ?_))
  simp only [ev0,evA,evB,evP,fl,gp,tab,simprocAttr,reduceCtorEq,reduceIte]
  refine fin_run ?_ (hK _ ?_)<;>clear hK<;>clear K
  ·(first|exact trivial|omega|(simp only [In64] at *; omega)|(simp [In64] at *; omega)|(simp_all; done)|skip)
  refine qa ?_
  refine hk_cond rfl (fun hC1=>?_) (fun hC1=>?_)
  ·cases hC1
  ·(try simp only [nhs] at hC1)
   refine qh (qa (qm (qm ?_)))
   refine hk_region fun K hK=>runs_eval tab_ok ?_
   simp only [ev0,evA,evB,evP,fl,gp,tab,simprocAttr,reduceCtorEq,reduceIte,hz,decide_eq_false (show ¬ ((n:Nat):Int) > 24 by omega)]
   refine fin_run ?_ (hK _ ?_)<;>clear hK<;>clear K
   ·(first|exact trivial|omega|(simp only [In64] at *; omega)|(simp [In64] at *; omega)|(simp_all; done)|skip)
   refine qa ?_
   refine hk_cond rfl (fun hC2=>?_) (fun hC2=>?_)
   ·cases hC2
   ·(try simp only [nhs] at hC2)
    refine qh (qa (qm (qm ?_)))
    refine hk_region fun K hK=>runs_eval tab_ok ?_
    simp only [ev0,evA,evB,evP,fl,gp,tab,simprocAttr,reduceCtorEq,reduceIte,hz]
    refine fin_run ?_ (hK _ ?_)<;>clear hK<;>clear K
    ·(first|exact trivial|omega|(simp only [In64] at *; omega)|(simp [In64] at *; omega)|(simp_all; done)|skip)
    refine qa ?_
    refine hk_cond rfl (fun hC3=>?_) (fun hC3=>?_)
    ·cases hC3
    ·(try simp only [nhs] at hC3)
     refine qh (qa (qm ?_))
     refine hk_region fun K hK=>runs_eval tab_ok ?_
     simp only [ev0,evA,evB,evP,fl,gp,tab,simprocAttr,reduceCtorEq,reduceIte]
     refine fin_stop trivial (runs_call (hH) rfl rfl rfl (by simp only [dstOk,Nat.reduceLT]) (by repeat (first|exact trivial|constructor)) (runs_eval tab_ok ?_))
     simp only [ev0,evA,evB,evP,fl,gp,tab,simprocAttr,reduceCtorEq,reduceIte]
     refine fin_run ?_ (hK _ ?_)<;>clear hK<;>clear K
     ·(first|exact trivial|omega|(simp only [In64] at *; omega)|(simp [In64] at *; omega)|(simp_all; done)|skip)
     refine qa (qm (qm ?_))
     refine hk_region fun K hK=>runs_eval tab_ok ?_
     simp only [ev0,evA,evB,evP,fl,gp,tab,simprocAttr,reduceCtorEq,reduceIte]
     refine fin_run trivial (hK _ ?_)<;>clear hK<;>clear K
     refine qa ?_
     refine hk_cond rfl (fun hC4=>?_) (fun hC4=>?_)
     ·(try simp only [nhs] at hC4)
      refine qm (qm ?_)
      refine hk_region fun K hK=>runs_eval tab_ok ?_
      simp only [ev0,evA,evB,evP,fl,gp,tab,simprocAttr,reduceCtorEq,reduceIte]
      refine fin_run trivial (hK _ ?_)<;>clear hK<;>clear K
      refine qa (ql ?_)
      refine hk_loop (ι:=Nat) (fun i=>⟨164,[(1,.p (.ptr [.int .i64 n,.list (il m)])),(3,.p (.list (ll LL))),(4,.ptr 0 0),(10,.p (.int .i64 i))],[.own [.p (.int .i64 c),.p (.int .i64 0)]]⟩) (fun i=>i≤LL.length) (fun i=>LL.length - i) 0 (Nat.zero_le _) [1] (by simp only [leq,leA,ev0,evA,evB,evP,fl,gp,tab,simprocAttr,reduceCtorEq,reduceIte]<;>first|trivial|exact ⟨rfl,rfl⟩|trace_state) fun i hi=>?_
      refine qm (qm ?_)
      refine hk_region fun K hK=>runs_eval tab_ok ?_
      simp only [ev0,evA,evB,evP,fl,gp,tab,simprocAttr,reduceCtorEq,reduceIte,ll_length]
      refine fin_run trivial (hK _ ?_)<;>clear hK<;>clear K
      refine qa ?_
      refine hk_cond rfl (fun hC5=>?_) (fun hC5=>?_)
      ·(try simp only [nhs] at hC5)
       have hil' : i < LL.length:=by omega
       have hgi:=ll_get (ls:=LL) (i:=i) hil'
       obtain ⟨φ,hφ,hv,ho⟩:=hLL (LL.getD i []) (by simp [List.getD,List.getElem?_eq_getElem hil'])
       have hF:=homFault_c n m n m (tbm n φ) (by omega) (by omega)
       rw [homf_of h h (hom_of_hmo h.2.2 hφ)] at hF
       have htl:=tbm_len n φ
       have hO:=oneToOne_r (tbm n φ) n (by omega) (by omega)
       rw [decide_eq_true (hv ▸ ho)] at hO
       refine qh (qa (qm (ql (qm ?_))))
       by_cases hi0:i=0
       ·have h00:decide (((i:Nat):Int) > 0)=false:=decide_eq_false (by omega)
        rw [hv] at hgi
        refine hk_draw mixed (by kernel_rfl) fun K hK=>runs_eval tab_ok ?_
        simp only [ev0,evA,evB,evP,fl,gp,tab,simprocAttr,reduceCtorEq,reduceIte,hgi,ll_length,il_length,h00]
        refine fin_stop ?_ (runs_call (hF) rfl rfl rfl (by simp only [dstOk,Nat.reduceLT]) (by repeat (first|exact trivial|constructor)) (runs_eval tab_ok ?_))
        ·(first|exact trivial|omega|(simp only [In64] at *; omega)|(simp [In64] at *; omega)|(simp_all; done)|skip)
        simp only [ev0,evA,evB,evP,fl,gp,tab,simprocAttr,reduceCtorEq,reduceIte,hgi,ll_length,il_length,h00]
        refine fin_stop ?_ (runs_call (hO) rfl rfl rfl (by simp only [dstOk,Nat.reduceLT]) (by repeat (first|exact trivial|constructor)) (runs_eval tab_ok ?_))
        ·(first|exact trivial|omega|(simp only [In64] at *; omega)|(simp [In64] at *; omega)|(simp_all; done)|skip)
        simp only [ev0,evA,evB,evP,fl,gp,tab,simprocAttr,reduceCtorEq,reduceIte,hgi,ll_length,il_length,h00]
        refine fin_run ?_ (hK _ ?_)<;>clear hK<;>clear K
        ·(first|exact trivial|omega|(simp only [In64] at *; omega)|(simp [In64] at *; omega)|(simp_all; done)|skip)
        refine qa ?_
        refine hk_cond rfl (fun hC6=>?_) (fun hC6=>?_)
        ·cases hC6
        ·refine qh (qd (qa ?_))
         refine hk_region fun K hK=>runs_eval tab_ok ?_
         simp only [ev0,evA,evB,evP,fl,gp,tab,simprocAttr,reduceCtorEq,reduceIte]
         refine fin_run ?_ (hK _ ?_)<;>clear hK<;>clear K
         ·(first|exact trivial|omega|(simp only [In64] at *; omega)|(simp [In64] at *; omega)|(simp_all; done)|skip)
         refine qa ?_
         refine ⟨i + 1,[0],by omega,by omega,?_⟩
         simp only [leq,leA,ev0,evA,evB,evP,fl,gp,tab,simprocAttr,reduceCtorEq,reduceIte]<;>first|trivial|omega
       ·have h00:decide (((i:Nat):Int) > 0)=true:=decide_eq_true (by omega)
        have hgp:=ll_get (ls:=LL) (i:=i - 1) (by omega)
        obtain ⟨χ,hχ,hu,_⟩:=hLL (LL.getD (i - 1) []) (by simp [List.getD,List.getElem?_eq_getElem (show i - 1 < LL.length by omega)])
        have htl2:=tbm_len n χ
        have hi1:((i:Nat):Int) - 1=((i - 1:Nat):Int):=by omega
        have hlt:lsb (tbm n χ) (tbm n φ)=true:=by
         rw [← hu,← hv]
         refine lsb_cmp (by rw [hu,hv,htl,htl2]) ?_
         have:=(List.pairwise_iff_getElem.1 hS) (i - 1) i (by omega) hil' (by omega)
         simpa [List.getD,List.getElem?_eq_getElem hil',List.getElem?_eq_getElem (show i - 1 < LL.length by omega)] using this
        rw [hv] at hgi
        rw [hu] at hgp
        refine hk_draw mixed (by kernel_rfl) fun K hK=>runs_eval tab_ok ?_
        simp only [ev0,evA,evB,evP,fl,gp,tab,simprocAttr,reduceCtorEq,reduceIte,hgi,hgp,ll_length,il_length,h00,hi1,hlt]
        refine fin_stop ?_ (runs_call (hF) rfl rfl rfl (by simp only [dstOk,Nat.reduceLT]) (by repeat (first|exact trivial|constructor)) (runs_eval tab_ok ?_))
        ·(first|exact trivial|omega|(simp only [In64] at *; omega)|(simp [In64] at *; omega)|(simp_all; done)|skip)
        simp only [ev0,evA,evB,evP,fl,gp,tab,simprocAttr,reduceCtorEq,reduceIte,hgi,hgp,ll_length,il_length,h00,hi1,hlt]
        refine fin_stop ?_ (runs_call (hO) rfl rfl rfl (by simp only [dstOk,Nat.reduceLT]) (by repeat (first|exact trivial|constructor)) (runs_eval tab_ok ?_))
        ·(first|exact trivial|omega|(simp only [In64] at *; omega)|(simp [In64] at *; omega)|(simp_all; done)|skip)
        simp only [ev0,evA,evB,evP,fl,gp,tab,simprocAttr,reduceCtorEq,reduceIte,hgi,hgp,ll_length,il_length,h00,hi1,hlt]
        refine fin_stop ?_ (runs_call (less_r (tbm n χ) (tbm n φ) (by omega) (by omega)) rfl rfl rfl (by simp only [dstOk,Nat.reduceLT]) (by repeat (first|exact trivial|constructor)) (runs_eval tab_ok ?_))
        ·(first|exact trivial|omega|(simp only [In64] at *; omega)|(simp [In64] at *; omega)|(simp_all; done)|skip)
        simp only [ev0,evA,evB,evP,fl,gp,tab,simprocAttr,reduceCtorEq,reduceIte,hgi,hgp,ll_length,il_length,h00,hi1,hlt]
        refine fin_run ?_ (hK _ ?_)<;>clear hK<;>clear K
        ·(first|exact trivial|omega|(simp only [In64] at *; omega)|(simp [In64] at *; omega)|(simp_all; done)|skip)
        refine qa ?_
        refine hk_cond rfl (fun hC6=>?_) (fun hC6=>?_)
        ·cases hC6
        ·(try simp only [nhs] at hC6)
         refine qh (qd (qa ?_))
         refine hk_region fun K hK=>runs_eval tab_ok ?_
         simp only [ev0,evA,evB,evP,fl,gp,tab,simprocAttr,reduceCtorEq,reduceIte]
         refine fin_run ?_ (hK _ ?_)<;>clear hK<;>clear K
         ·(first|exact trivial|omega|(simp only [In64] at *; omega)|(simp [In64] at *; omega)|(simp_all; done)|skip)
         refine qa ?_
         refine ⟨i + 1,[0],by omega,by omega,?_⟩
         simp only [leq,leA,ev0,evA,evB,evP,fl,gp,tab,simprocAttr,reduceCtorEq,reduceIte]<;>first|trivial|omega
      ·(try simp only [nhs] at hC5)
       refine qj (qc (qc (qf (qa (qm ?_)))))
       rcases hc with rfl | ⟨rfl,rfl⟩
       ·refine hk_draw mixed (by kernel_rfl) fun K hK=>runs_eval tab_ok ?_
        simp only [ev0,evA,evB,evP,fl,gp,tab,simprocAttr,reduceCtorEq,reduceIte,ll_length,decide_eq_true (show ((LL.length:Nat):Int)≤1000 by omega)]
        refine fin_run ?_ (hK _ ?_)<;>clear hK<;>clear K
        ·(first|exact trivial|omega|(simp only [In64] at *; omega)|(simp [In64] at *; omega)|(simp_all; done)|skip)
        refine qa (qk (qb ?_))
        simp only [Tryd.results3,enA,ev0,evA,evB,evP,fl,gp,tab,simprocAttr,reduceCtorEq,reduceIte]
        all_goals (first|rfl|(simp; done)|trace_state)
       ·refine hk_draw mixed (by kernel_rfl) fun K hK=>runs_eval tab_ok ?_
        simp only [ev0,evA,evB,evP,fl,gp,tab,simprocAttr,reduceCtorEq,reduceIte]
        refine fin_stop trivial (runs_call (f_c 9 0) rfl rfl rfl (by simp only [dstOk,Nat.reduceLT]) (by repeat (first|exact trivial|constructor)) (runs_eval tab_ok ?_))
        simp only [ev0,evA,evB,evP,fl,gp,tab,simprocAttr,reduceCtorEq,reduceIte]
        refine fin_run ?_ (hK _ ?_)<;>clear hK<;>clear K
        ·(first|exact trivial|omega|(simp only [In64] at *; omega)|(simp [In64] at *; omega)|(simp_all; done)|skip)
        refine qa (qk (qb ?_))
        simp only [Tryd.results3,enA,ev0,evA,evB,evP,fl,gp,tab,simprocAttr,reduceCtorEq,reduceIte]
        all_goals (first|rfl|(simp; done)|trace_state)
     ·cases hC4
 ·obtain rfl:=h.1
  have hn:=h.2.1.big
  rw [gf_of h] at hG
  have hH:=homs_c 5000 (by decide) h h
  rw [if_pos h3,decide_eq_true h3] at hH
  have hI:=inner_ok h (by omega)
  have hil:=inl_len (n:=n) (e:=e) (op m n) n
  have hcl:(cps [] (srtL (inl' n (op m n) e n))).length≤n:=by
   rw [← dsR_cps,← (srtL_perm _).length_eq]; exact dsR_len _ _
  have hLs:=listsAs_c (cps [] (srtL (inl' n (op m n) e n))) (0,0) 19 [.ptr [.int .i64 n,.list (il m)]] (by omega) (fun x hx=>by
   rw [← dsR_cps,← (srtL_perm _).mem_iff,mem_dsR] at hx
   obtain ⟨a,_,rfl⟩:=hx
   unfold inr; rw [tbm_len]; omega) (fun h=>absurd rfl h) (fun _=>hau1_c h)
  have hz:decide ((0:Int)=0)=true:=rfl
  refine hk_region fun K hK=>runs_eval tab_ok ?_
  simp only [ev0,evA,evB,evP,fl,gp,tab,simprocAttr,reduceCtorEq,reduceIte]
  refine fin_stop trivial (runs_call (ownGroup_c _ m hm) rfl rfl rfl (by simp only [dstOk,Nat.reduceLT]) (by repeat (first|exact trivial|constructor)) (runs_eval tab_ok ?_))
  simp only [ev0,evA,evB,evP,fl,gp,tab,simprocAttr,reduceCtorEq,reduceIte]
  refine fin_stop trivial (runs_call (hA) rfl rfl rfl (by simp only [dstOk,Nat.reduceLT]) (by repeat (first|exact trivial|constructor)) (runs_eval tab_ok ?_))
  simp only [ev0,evA,evB,evP,fl,gp,tab,simprocAttr,reduceCtorEq,reduceIte]
  refine fin_run ?_ (hK _ ?_)<;>clear hK<;>clear K
  ·(first|exact trivial|omega|(simp only [In64] at *; omega)|(simp [In64] at *; omega)|(simp_all; done)|skip)
  refine qa (qm ?_)
  refine hk_region fun K hK=>runs_eval tab_ok ?_
  simp only [ev0,evA,evB,evP,fl,gp,tab,simprocAttr,reduceCtorEq,reduceIte]
  refine fin_stop trivial (runs_call (ownGroup_c _ m hm) rfl rfl rfl (by simp only [dstOk,Nat.reduceLT]) (by repeat (first|exact trivial|constructor)) (runs_eval tab_ok ?_))
  simp only [ev0,evA,evB,evP,fl,gp,tab,simprocAttr,reduceCtorEq,reduceIte]
  refine fin_stop trivial (runs_call (hI) rfl rfl rfl (by simp only [dstOk,Nat.reduceLT]) (by repeat (first|exact trivial|constructor)) (runs_eval tab_ok ?_))
  simp only [ev0,evA,evB,evP,fl,gp,tab,simprocAttr,reduceCtorEq,reduceIte]
  refine fin_run ?_ (hK _ ?_)<;>clear hK<;>clear K
  ·(first|exact trivial|omega|(simp only [In64] at *; omega)|(simp [In64] at *; omega)|(simp_all; done)|skip)
  refine qa (qm ?_)
  refine hk_region fun K hK=>runs_eval tab_ok ?_
  simp only [ev0,evA,evB,evP,fl,gp,tab,simprocAttr,reduceCtorEq,reduceIte]
  refine fin_stop trivial (runs_call (hG) rfl rfl rfl (by simp only [dstOk,Nat.reduceLT]) (by repeat (first|exact trivial|constructor)) (runs_eval tab_ok ?_))
  simp only [ev0,evA,evB,evP,fl,gp,tab,simprocAttr,reduceCtorEq,reduceIte]
  refine fin_run ?_ (hK _ ?_)<;>clear hK<;>clear K
  ·(first|exact trivial|omega|(simp only [In64] at *; omega)|(simp [In64] at *; omega)|(simp_all; done)|skip)
  refine qa (qm (qm ?_))
  refine hk_freeze 0 rfl rfl ?_
  refine hk_pure 1 rfl (Nat.zero_le _) ?_
  simp only [hset,List.drop_zero]
  refine hk_region fun K hK=>runs_eval tab_ok ?_
  simp only [ev0,evA,evB,evP,fl,gp,tab,simprocAttr,reduceCtorEq,reduceIte]
  refine fin_stop trivial (runs_call (homBegun_c) rfl rfl rfl (by simp only [dstOk,Nat.reduceLT]) (by repeat (first|exact trivial|constructor)) (runs_eval tab_ok ?_))
  simp only [ev0,evA,evB,evP,fl,gp,tab,simprocAttr,reduceCtorEq,reduceIte]
  refine fin_stop trivial (runs_call (hLs) rfl rfl rfl (by simp only [dstOk,Nat.reduceLT]) (by repeat (first|exact trivial|constructor)) (runs_eval tab_ok ?_))
  simp only [ev0,evA,evB,evP,fl,gp,tab,simprocAttr,reduceCtorEq,reduceIte]
  refine fin_run ?_ (hK _ ?_)<;>clear hK<;>clear K
  ·(first|exact trivial|omega|(simp only [In64] at *; omega)|(simp [In64] at *; omega)|(simp_all; done)|skip)
  refine qa ?_
  refine hk_cond rfl (fun hC1=>?_) (fun hC1=>?_)
  ·cases hC1
  ·(try simp only [nhs] at hC1)
   refine qh (qa (qm (qm ?_)))
   refine hk_region fun K hK=>runs_eval tab_ok ?_
   simp only [ev0,evA,evB,evP,fl,gp,tab,simprocAttr,reduceCtorEq,reduceIte,hz,decide_eq_false (show ¬ ((n:Nat):Int) > 24 by omega)]
   refine fin_run ?_ (hK _ ?_)<;>clear hK<;>clear K
   ·(first|exact trivial|omega|(simp only [In64] at *; omega)|(simp [In64] at *; omega)|(simp_all; done)|skip)
   refine qa ?_
   refine hk_cond rfl (fun hC2=>?_) (fun hC2=>?_)
   ·cases hC2
   ·(try simp only [nhs] at hC2)
    refine qh (qa (qm (qm ?_)))
    refine hk_region fun K hK=>runs_eval tab_ok ?_
    simp only [ev0,evA,evB,evP,fl,gp,tab,simprocAttr,reduceCtorEq,reduceIte,hz]
    refine fin_run ?_ (hK _ ?_)<;>clear hK<;>clear K
    ·(first|exact trivial|omega|(simp only [In64] at *; omega)|(simp [In64] at *; omega)|(simp_all; done)|skip)
    refine qa ?_
    refine hk_cond rfl (fun hC3=>?_) (fun hC3=>?_)
    ·cases hC3
    ·(try simp only [nhs] at hC3)
     refine qh (qa (qm ?_))
     refine hk_region fun K hK=>runs_eval tab_ok ?_
     simp only [ev0,evA,evB,evP,fl,gp,tab,simprocAttr,reduceCtorEq,reduceIte]
     refine fin_stop trivial (runs_call (hH) rfl rfl rfl (by simp only [dstOk,Nat.reduceLT]) (by repeat (first|exact trivial|constructor)) (runs_eval tab_ok ?_))
     simp only [ev0,evA,evB,evP,fl,gp,tab,simprocAttr,reduceCtorEq,reduceIte]
     refine fin_run ?_ (hK _ ?_)<;>clear hK<;>clear K
     ·(first|exact trivial|omega|(simp only [In64] at *; omega)|(simp [In64] at *; omega)|(simp_all; done)|skip)
     refine qa (qm (qm ?_))
     refine hk_region fun K hK=>runs_eval tab_ok ?_
     simp only [ev0,evA,evB,evP,fl,gp,tab,simprocAttr,reduceCtorEq,reduceIte]
     refine fin_run trivial (hK _ ?_)<;>clear hK<;>clear K
     refine qa ?_
     refine hk_cond rfl (fun hC4=>?_) (fun hC4=>?_)
     ·cases hC4
     ·(try simp only [nhs] at hC4)
      refine qh (qa (qm ?_))
      refine hk_region fun K hK=>runs_eval tab_ok ?_
      simp only [ev0,evA,evB,evP,fl,gp,tab,simprocAttr,reduceCtorEq,reduceIte]
      refine fin_run trivial (hK _ ?_)<;>clear hK<;>clear K
      refine qa (qm (qm ?_))
      refine hk_own0 11 rfl ?_
      have hsl:=(srtL_perm (hmW n m e n m e)).length_eq
      have hrow:∀ v∈srtL (hmW n m e n m e),v.length=n:=fun v hv=>by
       obtain ⟨φ,_,rfl⟩:=(hmW_mem h h v).1 ((srtL_perm _).mem_iff.2 hv)
       exact tbm_len _ _
      have hfin:(srtL (hmW n m e n m e)).filter (fun v=>decide (onto1 v n))=srtL (auW n m e):=filter_sorted n (srtL_strict (hmW_nodup h h))
      have hfl:(srtL (auW n m e)).length=(auW n m e).length:=(srtL_perm _).length_eq.symm
      have hHL:(srtL (hmW n m e n m e)).length≤5000:=by omega
      have hau:∀ v∈srtL (auW n m e),v.length≤1000000:=fun v hv=>by
       rw [← hfin] at hv
       have:=hrow v (List.mem_filter.1 hv).1
       omega
      generalize hHH:srtL (hmW n m e n m e)=HH at *
      refine hk_region fun K hK=>runs_eval tab_ok ?_
      simp only [ev0,evA,evB,evP,fl,gp,tab,simprocAttr,reduceCtorEq,reduceIte]
      refine fin_run trivial (hK _ ?_)<;>clear hK<;>clear K
      refine qa (ql ?_)
      refine hk_loop (ι:=Nat) (fun i=>⟨164,[(1,.p (.ptr [.int .i64 n,.list (il m)])),(3,.p (.list (ll []))),(4,.ptr 0 0),(8,.p (.list (ll HH))),(11,.sl 1 0 ((HH.take i).filter fun v=>decide (onto1 v n)).length),(12,.p (.int .i64 i))],[.own [.p (.int .i64 9),.p (.int .i64 0)],.own (opl (ll ((HH.take i).filter fun v=>decide (onto1 v n))))]⟩) (fun i=>i≤HH.length) (fun i=>HH.length - i) 0 (Nat.zero_le _) [1,4] (by simp only [leq,leA,ev0,evA,evB,evP,fl,gp,tab,simprocAttr,reduceCtorEq,reduceIte]<;>first|trivial|exact ⟨rfl,rfl⟩|trace_state) fun i hi=>?_
      have hfl2:((HH.take i).filter fun v=>decide (onto1 v n)).length≤i:=by
       have h1:=List.length_filter_le (fun v=>decide (onto1 v n)) (HH.take i)
       rw [List.length_take] at h1
       omega
      refine qm (qm ?_)
      refine hk_region fun K hK=>runs_eval tab_ok ?_
      simp only [ev0,evA,evB,evP,fl,gp,tab,simprocAttr,reduceCtorEq,reduceIte,ll_length]
      refine fin_run trivial (hK _ ?_)<;>clear hK<;>clear K
      refine qa ?_
      refine hk_cond rfl (fun hC7=>?_) (fun hC7=>?_)
      ·(try simp only [nhs] at hC7)
       have hil' : i < HH.length:=by omega
       have hgi:=ll_get (ls:=HH) (i:=i) hil'
       have hle:(HH.getD i []).length=n:=hrow _ (by simp [List.getD,List.getElem?_eq_getElem hil'])
       have hst:(HH.take (i + 1)).filter (fun v=>decide (onto1 v n))=(HH.take i).filter (fun v=>decide (onto1 v n))++if onto1 (HH.getD i []) n then [HH.getD i []] else []:=by
        have e1:HH[i]=HH.getD i []:=by simp [List.getD,List.getElem?_eq_getElem hil']
        rw [List.take_succ_eq_append_getElem hil',List.filter_append,e1]
        generalize HH.getD i []=w
        congr 1
        by_cases ho:onto1 w n
        ·rw [if_pos ho]; exact List.filter_cons_of_pos (p:=fun v=>decide (onto1 v n)) (decide_eq_true ho)
        ·rw [if_neg ho]; exact List.filter_cons_of_neg (p:=fun v=>decide (onto1 v n)) (by simpa using ho)
       refine qh (qa (qm (ql (qm ?_))))
       refine hk_draw mixed (by kernel_rfl) fun K hK=>runs_eval tab_ok ?_
       simp only [ev0,evA,evB,evP,fl,gp,tab,simprocAttr,reduceCtorEq,reduceIte,hgi,ll_length,il_length]
       refine fin_stop ?_ (runs_call (oneToOne_r (HH.getD i []) n (by omega) (by omega)) rfl rfl rfl (by simp only [dstOk,Nat.reduceLT]) (by repeat (first|exact trivial|constructor)) (runs_eval tab_ok ?_))
       ·(first|exact trivial|omega|(simp only [In64] at *; omega)|(simp [In64] at *; omega)|(simp_all; done)|skip)
       simp only [ev0,evA,evB,evP,fl,gp,tab,simprocAttr,reduceCtorEq,reduceIte,hgi,ll_length,il_length]
       refine fin_run ?_ (hK _ ?_)<;>clear hK<;>clear K
       ·(first|exact trivial|omega|(simp only [In64] at *; omega)|(simp [In64] at *; omega)|(simp_all; done)|skip)
       refine qa ?_
       refine hk_cond rfl (fun hC8=>?_) (fun hC8=>?_)
       ·(try simp only [nhs] at hC8)
        rw [if_pos (by simpa using hC8)] at hst
        refine hk_region fun K hK=>runs_eval tab_ok ?_
        simp only [ev0,evA,evB,evP,fl,gp,tab,simprocAttr,reduceCtorEq,reduceIte,ll_takeL,oll_ok,ll_snoc,ll_length,hgi]
        refine fin_run ?_ (hK _ ?_)<;>clear hK<;>clear K
        ·(first|exact trivial|omega|(simp only [In64] at *; omega)|(simp [In64] at *; omega)|(simp_all; done)|skip)
        refine qd (qa ?_)
        refine hk_region fun K hK=>runs_eval tab_ok ?_
        simp only [ev0,evA,evB,evP,fl,gp,tab,simprocAttr,reduceCtorEq,reduceIte]
        refine fin_run ?_ (hK _ ?_)<;>clear hK<;>clear K
        ·(first|exact trivial|omega|(simp only [In64] at *; omega)|(simp [In64] at *; omega)|(simp_all; done)|skip)
        refine qa ?_
        refine ⟨i + 1,[0,2],by omega,by omega,?_⟩
        rw [hst]
        simp only [leq,leA,ev0,evA,evB,evP,fl,gp,tab,simprocAttr,reduceCtorEq,reduceIte,ll_takeL,ll_snoc,ll_takeS]<;>first|trivial|omega|trace_state
       ·(try simp only [nhs] at hC8)
        rw [if_neg (by simpa using hC8),List.append_nil] at hst
        refine qh (qd (qa ?_))
        refine hk_region fun K hK=>runs_eval tab_ok ?_
        simp only [ev0,evA,evB,evP,fl,gp,tab,simprocAttr,reduceCtorEq,reduceIte]
        refine fin_run ?_ (hK _ ?_)<;>clear hK<;>clear K
        ·(first|exact trivial|omega|(simp only [In64] at *; omega)|(simp [In64] at *; omega)|(simp_all; done)|skip)
        refine qa ?_
        refine ⟨i + 1,[0,1],by omega,by omega,?_⟩
        rw [hst]
        simp only [leq,leA,ev0,evA,evB,evP,fl,gp,tab,simprocAttr,reduceCtorEq,reduceIte,ll_takeL,ll_snoc,ll_takeS]<;>first|trivial|omega|trace_state
      ·(try simp only [nhs] at hC7)
       have hie:i=HH.length:=by omega
       rw [hie,List.take_length,hfin]
       refine qj (qc (qc (qf (qa (qm (qm ?_))))))
       refine hk_region fun K hK=>runs_eval tab_ok ?_
       simp only [ev0,evA,evB,evP,fl,gp,tab,simprocAttr,reduceCtorEq,reduceIte,ll_length]
       refine fin_run trivial (hK _ ?_)<;>clear hK<;>clear K
       refine qa ?_
       refine hk_cond rfl (fun hC9=>?_) (fun hC9=>?_)
       ·(try simp only [nhs] at hC9)
        refine qm ?_
        refine hk_draw mixed (by kernel_rfl) fun K hK=>runs_eval tab_ok ?_
        simp only [ev0,evA,evB,evP,fl,gp,tab,simprocAttr,reduceCtorEq,reduceIte,beq_self_eq_true]
        refine fin_stop trivial (runs_call (f_c 9 0) rfl rfl rfl (by simp only [dstOk,Nat.reduceLT]) (by repeat (first|exact trivial|constructor)) (runs_eval tab_ok ?_))
        simp only [ev0,evA,evB,evP,fl,gp,tab,simprocAttr,reduceCtorEq,reduceIte,beq_self_eq_true]
        refine fin_run ?_ (hK _ ?_)<;>clear hK<;>clear K
        ·(first|exact trivial|omega|(simp only [In64] at *; omega)|(simp [In64] at *; omega)|(simp_all; done)|skip)
        refine qa (qk (qb ?_))
        simp only [Tryd.results3,enA,ev0,evA,evB,evP,fl,gp,tab,simprocAttr,reduceCtorEq,reduceIte]
        all_goals (first|rfl|(simp; done)|trace_state)
       ·(try simp only [nhs] at hC9)
        omega
 ·obtain rfl:=h.1
  have hn:=h.2.1.big
  rw [gf_of h] at hG
  have hH:=homs_c 5000 (by decide) h h
  rw [if_pos h3,decide_eq_true h3] at hH
  have hI:=inner_ok h (by omega)
  have hil:=inl_len (n:=n) (e:=e) (op m n) n
  have hcl:(cps [] (srtL (inl' n (op m n) e n))).length≤n:=by
   rw [← dsR_cps,← (srtL_perm _).length_eq]; exact dsR_len _ _
  have hLs:=listsAs_c (cps [] (srtL (inl' n (op m n) e n))) (0,0) 19 [.ptr [.int .i64 n,.list (il m)]] (by omega) (fun x hx=>by
   rw [← dsR_cps,← (srtL_perm _).mem_iff,mem_dsR] at hx
   obtain ⟨a,_,rfl⟩:=hx
   unfold inr; rw [tbm_len]; omega) (fun h=>absurd rfl h) (fun _=>hau1_c h)
  have hz:decide ((0:Int)=0)=true:=rfl
  refine hk_region fun K hK=>runs_eval tab_ok ?_
  simp only [ev0,evA,evB,evP,fl,gp,tab,simprocAttr,reduceCtorEq,reduceIte]
  refine fin_stop trivial (runs_call (ownGroup_c _ m hm) rfl rfl rfl (by simp only [dstOk,Nat.reduceLT]) (by repeat (first|exact trivial|constructor)) (runs_eval tab_ok ?_))
  simp only [ev0,evA,evB,evP,fl,gp,tab,simprocAttr,reduceCtorEq,reduceIte]
  refine fin_stop trivial (runs_call (hA) rfl rfl rfl (by simp only [dstOk,Nat.reduceLT]) (by repeat (first|exact trivial|constructor)) (runs_eval tab_ok ?_))
  simp only [ev0,evA,evB,evP,fl,gp,tab,simprocAttr,reduceCtorEq,reduceIte]
  refine fin_run ?_ (hK _ ?_)<;>clear hK<;>clear K
  ·(first|exact trivial|omega|(simp only [In64] at *; omega)|(simp [In64] at *; omega)|(simp_all; done)|skip)
  refine qa (qm ?_)
  refine hk_region fun K hK=>runs_eval tab_ok ?_
  simp only [ev0,evA,evB,evP,fl,gp,tab,simprocAttr,reduceCtorEq,reduceIte]
  refine fin_stop trivial (runs_call (ownGroup_c _ m hm) rfl rfl rfl (by simp only [dstOk,Nat.reduceLT]) (by repeat (first|exact trivial|constructor)) (runs_eval tab_ok ?_))
  simp only [ev0,evA,evB,evP,fl,gp,tab,simprocAttr,reduceCtorEq,reduceIte]
  refine fin_stop trivial (runs_call (hI) rfl rfl rfl (by simp only [dstOk,Nat.reduceLT]) (by repeat (first|exact trivial|constructor)) (runs_eval tab_ok ?_))
  simp only [ev0,evA,evB,evP,fl,gp,tab,simprocAttr,reduceCtorEq,reduceIte]
  refine fin_run ?_ (hK _ ?_)<;>clear hK<;>clear K
  ·(first|exact trivial|omega|(simp only [In64] at *; omega)|(simp [In64] at *; omega)|(simp_all; done)|skip)
  refine qa (qm ?_)
  refine hk_region fun K hK=>runs_eval tab_ok ?_
  simp only [ev0,evA,evB,evP,fl,gp,tab,simprocAttr,reduceCtorEq,reduceIte]
  refine fin_stop trivial (runs_call (hG) rfl rfl rfl (by simp only [dstOk,Nat.reduceLT]) (by repeat (first|exact trivial|constructor)) (runs_eval tab_ok ?_))
  simp only [ev0,evA,evB,evP,fl,gp,tab,simprocAttr,reduceCtorEq,reduceIte]
  refine fin_run ?_ (hK _ ?_)<;>clear hK<;>clear K
  ·(first|exact trivial|omega|(simp only [In64] at *; omega)|(simp [In64] at *; omega)|(simp_all; done)|skip)
  refine qa (qm (qm ?_))
  refine hk_freeze 0 rfl rfl ?_
  refine hk_pure 1 rfl (Nat.zero_le _) ?_
  simp only [hset,List.drop_zero]
  refine hk_region fun K hK=>runs_eval tab_ok ?_
  simp only [ev0,evA,evB,evP,fl,gp,tab,simprocAttr,reduceCtorEq,reduceIte]
  refine fin_stop trivial (runs_call (homBegun_c) rfl rfl rfl (by simp only [dstOk,Nat.reduceLT]) (by repeat (first|exact trivial|constructor)) (runs_eval tab_ok ?_))
  simp only [ev0,evA,evB,evP,fl,gp,tab,simprocAttr,reduceCtorEq,reduceIte]
  refine fin_stop trivial (runs_call (hLs) rfl rfl rfl (by simp only [dstOk,Nat.reduceLT]) (by repeat (first|exact trivial|constructor)) (runs_eval tab_ok ?_))
  simp only [ev0,evA,evB,evP,fl,gp,tab,simprocAttr,reduceCtorEq,reduceIte]
  refine fin_run ?_ (hK _ ?_)<;>clear hK<;>clear K
  ·(first|exact trivial|omega|(simp only [In64] at *; omega)|(simp [In64] at *; omega)|(simp_all; done)|skip)
  refine qa ?_
  refine hk_cond rfl (fun hC1=>?_) (fun hC1=>?_)
  ·cases hC1
  ·(try simp only [nhs] at hC1)
   refine qh (qa (qm (qm ?_)))
   refine hk_region fun K hK=>runs_eval tab_ok ?_
   simp only [ev0,evA,evB,evP,fl,gp,tab,simprocAttr,reduceCtorEq,reduceIte,hz,decide_eq_false (show ¬ ((n:Nat):Int) > 24 by omega)]
   refine fin_run ?_ (hK _ ?_)<;>clear hK<;>clear K
   ·(first|exact trivial|omega|(simp only [In64] at *; omega)|(simp [In64] at *; omega)|(simp_all; done)|skip)
   refine qa ?_
   refine hk_cond rfl (fun hC2=>?_) (fun hC2=>?_)
   ·cases hC2
   ·(try simp only [nhs] at hC2)
    refine qh (qa (qm (qm ?_)))
    refine hk_region fun K hK=>runs_eval tab_ok ?_
    simp only [ev0,evA,evB,evP,fl,gp,tab,simprocAttr,reduceCtorEq,reduceIte,hz]
    refine fin_run ?_ (hK _ ?_)<;>clear hK<;>clear K
    ·(first|exact trivial|omega|(simp only [In64] at *; omega)|(simp [In64] at *; omega)|(simp_all; done)|skip)
    refine qa ?_
    refine hk_cond rfl (fun hC3=>?_) (fun hC3=>?_)
    ·cases hC3
    ·(try simp only [nhs] at hC3)
     refine qh (qa (qm ?_))
     refine hk_region fun K hK=>runs_eval tab_ok ?_
     simp only [ev0,evA,evB,evP,fl,gp,tab,simprocAttr,reduceCtorEq,reduceIte]
     refine fin_stop trivial (runs_call (hH) rfl rfl rfl (by simp only [dstOk,Nat.reduceLT]) (by repeat (first|exact trivial|constructor)) (runs_eval tab_ok ?_))
     simp only [ev0,evA,evB,evP,fl,gp,tab,simprocAttr,reduceCtorEq,reduceIte]
     refine fin_run ?_ (hK _ ?_)<;>clear hK<;>clear K
     ·(first|exact trivial|omega|(simp only [In64] at *; omega)|(simp [In64] at *; omega)|(simp_all; done)|skip)
     refine qa (qm (qm ?_))
     refine hk_region fun K hK=>runs_eval tab_ok ?_
     simp only [ev0,evA,evB,evP,fl,gp,tab,simprocAttr,reduceCtorEq,reduceIte]
     refine fin_run trivial (hK _ ?_)<;>clear hK<;>clear K
     refine qa ?_
     refine hk_cond rfl (fun hC4=>?_) (fun hC4=>?_)
     ·cases hC4
     ·(try simp only [nhs] at hC4)
      refine qh (qa (qm ?_))
      refine hk_region fun K hK=>runs_eval tab_ok ?_
      simp only [ev0,evA,evB,evP,fl,gp,tab,simprocAttr,reduceCtorEq,reduceIte]
      refine fin_run trivial (hK _ ?_)<;>clear hK<;>clear K
      refine qa (qm (qm ?_))
      refine hk_own0 11 rfl ?_
      have hsl:=(srtL_perm (hmW n m e n m e)).length_eq
      have hrow:∀ v∈srtL (hmW n m e n m e),v.length=n:=fun v hv=>by
       obtain ⟨φ,_,rfl⟩:=(hmW_mem h h v).1 ((srtL_perm _).mem_iff.2 hv)
       exact tbm_len _ _
      have hfin:(srtL (hmW n m e n m e)).filter (fun v=>decide (onto1 v n))=srtL (auW n m e):=filter_sorted n (srtL_strict (hmW_nodup h h))
      have hfl:(srtL (auW n m e)).length=(auW n m e).length:=(srtL_perm _).length_eq.symm
      have hHL:(srtL (hmW n m e n m e)).length≤5000:=by omega
      have hau:∀ v∈srtL (auW n m e),v.length≤1000000:=fun v hv=>by
       rw [← hfin] at hv
       have:=hrow v (List.mem_filter.1 hv).1
       omega
      generalize hHH:srtL (hmW n m e n m e)=HH at *
      refine hk_region fun K hK=>runs_eval tab_ok ?_
      simp only [ev0,evA,evB,evP,fl,gp,tab,simprocAttr,reduceCtorEq,reduceIte]
      refine fin_run trivial (hK _ ?_)<;>clear hK<;>clear K
      refine qa (ql ?_)
      refine hk_loop (ι:=Nat) (fun i=>⟨164,[(1,.p (.ptr [.int .i64 n,.list (il m)])),(3,.p (.list (ll (srtL (auW n m e))))),(4,.ptr 0 0),(8,.p (.list (ll HH))),(11,.sl 1 0 ((HH.take i).filter fun v=>decide (onto1 v n)).length),(12,.p (.int .i64 i))],[.own [.p (.int .i64 0),.p (.int .i64 0)],.own (opl (ll ((HH.take i).filter fun v=>decide (onto1 v n))))]⟩) (fun i=>i≤HH.length) (fun i=>HH.length - i) 0 (Nat.zero_le _) [1,4] (by simp only [leq,leA,ev0,evA,evB,evP,fl,gp,tab,simprocAttr,reduceCtorEq,reduceIte]<;>first|trivial|exact ⟨rfl,rfl⟩|trace_state) fun i hi=>?_
      have hfl2:((HH.take i).filter fun v=>decide (onto1 v n)).length≤i:=by
       have h1:=List.length_filter_le (fun v=>decide (onto1 v n)) (HH.take i)
       rw [List.length_take] at h1
       omega
      refine qm (qm ?_)
      refine hk_region fun K hK=>runs_eval tab_ok ?_
      simp only [ev0,evA,evB,evP,fl,gp,tab,simprocAttr,reduceCtorEq,reduceIte,ll_length]
      refine fin_run trivial (hK _ ?_)<;>clear hK<;>clear K
      refine qa ?_
      refine hk_cond rfl (fun hC7=>?_) (fun hC7=>?_)
      ·(try simp only [nhs] at hC7)
       have hil' : i < HH.length:=by omega
       have hgi:=ll_get (ls:=HH) (i:=i) hil'
       have hle:(HH.getD i []).length=n:=hrow _ (by simp [List.getD,List.getElem?_eq_getElem hil'])
       have hst:(HH.take (i + 1)).filter (fun v=>decide (onto1 v n))=(HH.take i).filter (fun v=>decide (onto1 v n))++if onto1 (HH.getD i []) n then [HH.getD i []] else []:=by
        have e1:HH[i]=HH.getD i []:=by simp [List.getD,List.getElem?_eq_getElem hil']
        rw [List.take_succ_eq_append_getElem hil',List.filter_append,e1]
        generalize HH.getD i []=w
        congr 1
        by_cases ho:onto1 w n
        ·rw [if_pos ho]; exact List.filter_cons_of_pos (p:=fun v=>decide (onto1 v n)) (decide_eq_true ho)
        ·rw [if_neg ho]; exact List.filter_cons_of_neg (p:=fun v=>decide (onto1 v n)) (by simpa using ho)
       refine qh (qa (qm (ql (qm ?_))))
       refine hk_draw mixed (by kernel_rfl) fun K hK=>runs_eval tab_ok ?_
       simp only [ev0,evA,evB,evP,fl,gp,tab,simprocAttr,reduceCtorEq,reduceIte,hgi,ll_length,il_length]
       refine fin_stop ?_ (runs_call (oneToOne_r (HH.getD i []) n (by omega) (by omega)) rfl rfl rfl (by simp only [dstOk,Nat.reduceLT]) (by repeat (first|exact trivial|constructor)) (runs_eval tab_ok ?_))
       ·(first|exact trivial|omega|(simp only [In64] at *; omega)|(simp [In64] at *; omega)|(simp_all; done)|skip)
       simp only [ev0,evA,evB,evP,fl,gp,tab,simprocAttr,reduceCtorEq,reduceIte,hgi,ll_length,il_length]
       refine fin_run ?_ (hK _ ?_)<;>clear hK<;>clear K
       ·(first|exact trivial|omega|(simp only [In64] at *; omega)|(simp [In64] at *; omega)|(simp_all; done)|skip)
       refine qa ?_
       refine hk_cond rfl (fun hC8=>?_) (fun hC8=>?_)
       ·(try simp only [nhs] at hC8)
        rw [if_pos (by simpa using hC8)] at hst
        refine hk_region fun K hK=>runs_eval tab_ok ?_
        simp only [ev0,evA,evB,evP,fl,gp,tab,simprocAttr,reduceCtorEq,reduceIte,ll_takeL,oll_ok,ll_snoc,ll_length,hgi]
        refine fin_run ?_ (hK _ ?_)<;>clear hK<;>clear K
        ·(first|exact trivial|omega|(simp only [In64] at *; omega)|(simp [In64] at *; omega)|(simp_all; done)|skip)
        refine qd (qa ?_)
        refine hk_region fun K hK=>runs_eval tab_ok ?_
        simp only [ev0,evA,evB,evP,fl,gp,tab,simprocAttr,reduceCtorEq,reduceIte]
        refine fin_run ?_ (hK _ ?_)<;>clear hK<;>clear K
        ·(first|exact trivial|omega|(simp only [In64] at *; omega)|(simp [In64] at *; omega)|(simp_all; done)|skip)
        refine qa ?_
        refine ⟨i + 1,[0,2],by omega,by omega,?_⟩
        rw [hst]
        simp only [leq,leA,ev0,evA,evB,evP,fl,gp,tab,simprocAttr,reduceCtorEq,reduceIte,ll_takeL,ll_snoc,ll_takeS]<;>first|trivial|omega|trace_state
       ·(try simp only [nhs] at hC8)
        rw [if_neg (by simpa using hC8),List.append_nil] at hst
        refine qh (qd (qa ?_))
        refine hk_region fun K hK=>runs_eval tab_ok ?_
        simp only [ev0,evA,evB,evP,fl,gp,tab,simprocAttr,reduceCtorEq,reduceIte]
        refine fin_run ?_ (hK _ ?_)<;>clear hK<;>clear K
        ·(first|exact trivial|omega|(simp only [In64] at *; omega)|(simp [In64] at *; omega)|(simp_all; done)|skip)
        refine qa ?_
        refine ⟨i + 1,[0,1],by omega,by omega,?_⟩
        rw [hst]
        simp only [leq,leA,ev0,evA,evB,evP,fl,gp,tab,simprocAttr,reduceCtorEq,reduceIte,ll_takeL,ll_snoc,ll_takeS]<;>first|trivial|omega|trace_state
      ·(try simp only [nhs] at hC7)
       have hie:i=HH.length:=by omega
       rw [hie,List.take_length,hfin]
       refine qj (qc (qc (qf (qa (qm (qm ?_))))))
       refine hk_region fun K hK=>runs_eval tab_ok ?_
       simp only [ev0,evA,evB,evP,fl,gp,tab,simprocAttr,reduceCtorEq,reduceIte,ll_length]
       refine fin_run trivial (hK _ ?_)<;>clear hK<;>clear K
       refine qa ?_
       refine hk_cond rfl (fun hC9=>?_) (fun hC9=>?_)
       ·(try simp only [nhs] at hC9)
        omega
       ·(try simp only [nhs] at hC9)
        refine qh (qa (qm ?_))
        refine hk_sealp 11 1 (ll_all (srtL (auW n m e))) (by show AV.sl 1 0 _=AV.sl 1 0 _; rw [ll_length]) rfl ?_
        refine hk_region fun K hK=>runs_eval tab_ok ?_
        simp only [ev0,evA,evB,evP,fl,gp,tab,simprocAttr,reduceCtorEq,reduceIte]
        refine fin_stop trivial (runs_call (lists_r (srtL (auW n m e)) (srtL (auW n m e)) (by omega) hau) rfl rfl rfl (by simp only [dstOk,Nat.reduceLT]) (by repeat (first|exact trivial|constructor)) (runs_eval tab_ok ?_))
        simp only [ev0,evA,evB,evP,fl,gp,tab,simprocAttr,reduceCtorEq,reduceIte]
        refine fin_run ?_ (hK _ ?_)<;>clear hK<;>clear K
        ·(first|exact trivial|omega|(simp only [In64] at *; omega)|(simp [In64] at *; omega)|(simp_all; done)|skip)
        refine qa (qk ?_)
        simp only [Tryd.results3,enA,ev0,evA,evB,evP,fl,gp,tab,simprocAttr,reduceCtorEq,reduceIte]
        all_goals (first|rfl|(simp; done)|trace_state)
end Go.Proofs.YtboadfahlflmhaaDoor

/-
  What the listed package-level variable gives a walk: a table of numbers. Conditions: none; written by a program of this repo.
-/
set_option linter.all false
namespace Go.Proofs.YtboadfahlflmhaaDoor
open Go.Pv Go.ChangeShapes Go.WideShapes Go.ChangeAt Go.WideElems Go.RowKit

theorem own : ownKnob Tryd.prog.godebug = none := by kernel_rfl
theorem laidOut : laidOutB Tryd.prog = true := by kernel_rfl
theorem gG : Tryd.prog.globalNamed "math/bits.deBruijn64tab" = some 0 := by kernel_rfl
theorem tG : (Tryd.prog.globals[0]?).map (·.type) = some 135 := by kernel_rfl
theorem cG : Tryd.prog.cellsOf 5 = 1 := by kernel_rfl
/-- The door's own heap meets the condition. -/
theorem door_met (os : Os) (args : Array Value) : laidMetH Tryd.prog [("math/bits.deBruijn64tab", Rows.laid_math_bits_deBruijn64tab)] ((World.doorLaid Tryd.prog 4000 os).forCall (fun _ _ => 0) ⟨#[], args, []⟩).memory :=
  laidMetH_of_parts3 (fuel := 8) (laidMet_of_run' 8 (by kernel_rfl) (by kernel_rfl)) (by kernel_rfl) (by kernel_rfl)

def convD : DataW Unit → PV
  | .lit (.int k n) => .int k n
  | _ => .nil
def datum : List (DataW Unit) → List PV := List.map convD
theorem glob_datum : (match (Rows.laid_math_bits_deBruijn64tab : DataW Unit) with | .agg l => datum l | _ => []) = glob0 := rfl

theorem laid_ok {W : World} (h : laidMetH Tryd.prog [("math/bits.deBruijn64tab", Rows.laid_math_bits_deBruijn64tab)] W) : LaidW (fun b => b < W.heap.size) W := by
  refine ⟨fun b h => h, fun g l hg => ?_⟩
  have hg2 : g = 0 ∧ l = glob0 := by
    unfold gv at hg
    by_cases e : g = 0
    · subst e; exact ⟨rfl, (Option.some.inj hg).symm⟩
    · have : (g == 0) = false := by simpa using e
      rw [this] at hg; simp at hg
  obtain ⟨rfl, rfl⟩ := hg2
  rw [MakeChecks.laidMetH_plain _ _ _ (by kernel_rfl)] at h
  obtain ⟨ps, ⟨g0, t0, cs0, f0, p0, q0, hg0, ht0, hv0, hd0, _, _⟩, _, _⟩ := h
  obtain rfl := Option.some.inj (gG.symm.trans hg0)
  obtain rfl := Option.some.inj (tG.symm.trans ht0)
  obtain ⟨xs, m1, rfl, hx1, hlen, hn3, hel⟩ := DataW.trod_array Tryd.underlying135 hd0
  have hd1 : Rows.laid_math_bits_deBruijn64tab = DataW.agg (xs.map (·.1)) := congrArg Prod.fst hx1
  have hgl : glob0 = datum (xs.map (·.1)) := by
    rw [← glob_datum, hd1]
  have key : ∀ c (h : c < glob0.length), W.cell? ⟨0, 0 + c, none⟩ = some ((cs0[c]?).getD undef) ∧ Reads (fun b => b < W.heap.size) W glob0[c] ((cs0[c]?).getD undef) := by
    intro c hc
    have hc2 : c < 64 := Nat.lt_of_lt_of_le hc (by decide)
    have hcx : c < xs.length := by omega
    have h1 := hel c hc2
    rw [List.getElem?_eq_getElem hcx] at h1
    obtain ⟨k, e1, e2, _⟩ := DataW.trod_int Tryd.underlying5 h1
    rw [cG] at e1
    have e3 : cs0.toList[c]? = some (.int .u8 k) := by
      have := congrArg (fun l => l[0]?) e1
      simpa [List.getElem?_take, List.getElem?_drop] using this
    have e4 : cs0[c]? = some (.int .u8 k) := by simpa using e3
    have e5 : glob0[c] = .int .u8 k := by
      have : glob0[c]? = (datum (xs.map (·.1)))[c]? := by rw [hgl]
      rw [List.getElem?_eq_getElem hc] at this
      simp only [datum, List.getElem?_map, List.getElem?_eq_getElem hcx, Option.map_some, Option.some.injEq] at this
      exact this.trans (by rw [e2]; rfl)
    refine ⟨?_, ?_⟩
    · rw [e4, Nat.zero_add, World.var?_cell gG hv0 c, e4]; rfl
    · rw [e4]
      exact e5 ▸ (Reads.int .u8 k)
  refine .ptr _ _ _ (fun c => (cs0[c]?).getD undef) ?_ (fun c hc => (key c hc).1) fun c hc => (key c hc).2
  have := (key 0 (by decide)).1
  unfold World.cell? at this
  rcases Nat.lt_or_ge 0 W.heap.size with h | h
  · exact h
  · exfalso
    rw [Array.getElem?_eq_none h] at this
    simp at this
end Go.Proofs.YtboadfahlflmhaaDoor
