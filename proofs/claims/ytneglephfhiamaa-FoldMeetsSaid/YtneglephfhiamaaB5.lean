/-
  Texts of this proof, one behind the other: what each says stands at its head. Conditions: none.
-/
import Derived.Test.YtneglephfhiamaaB4
import Derived.Test.YtneglephfhiamaaB3
import Derived.Test.YtneglephfhiamaaProg
import Derived.Shelf.Lays
import Derived.Test.YtneglephfhiamaaB2

set_option linter.all false
namespace Go.Proofs.Ytneglephfhiamaa
open Go.Pv
theorem wl_get {e:List E3} {i:Nat} (h:i < e.length):(wl e).getD i default = .agg [.int .i64 (e.getD i e3d).1,.int .i64 (e.getD i e3d).2.1,.int .i64 (e.getD i e3d).2.2]:=by
 unfold wl
 rw [List.getD_eq_getElem?_getD,List.getD_eq_getElem?_getD,List.getElem?_map,List.getElem?_eq_getElem h]; rfl
theorem fw_at {f:List E3} {k:Nat} (h:k < f.length):((fw f).drop (k * 3)).take 3=[.p (.int .i64 (f.getD k e3d).1),.p (.int .i64 (f.getD k e3d).2.1),.p (.int .i64 (f.getD k e3d).2.2)]:=by
 have hs:f=f.take k++(f.getD k e3d :: f.drop (k + 1)):=by
  rw [List.getD_eq_getElem?_getD,List.getElem?_eq_getElem h]
  have:=List.drop_eq_getElem_cons h
  simp only [Option.getD_some]
  rw [← this,List.take_append_drop]
 have hl:(fw (f.take k)).length=k * 3:=by rw [fw_len,List.length_take,Nat.min_eq_left (by omega)]
 obtain ⟨t,ht⟩:∃ t,f.getD k e3d=t:=⟨_,rfl⟩
 rw [ht] at hs ⊢
 have e1:fw f=fw (f.take k)++(fw [t]++fw (f.drop (k + 1))):=by
  conv=>lhs; rw [hs]
  rw [fw_app,← fw_app [t]]; rfl
 rw [e1,← hl,List.drop_left]
 obtain ⟨a,x,b⟩:=t
 rw [fw_one]; rfl
set_option maxHeartbeats 4000000 in
set_option maxRecDepth 20000 in
theorem once_c (e:List E3) (a b:Nat) (hl:e.length≤100000):FnC Try.prog 50 [.list (wl e),.int .i64 a,.int .i64 b] (.list (wl (onceS e a b))):=by
 have hI:∀ x y:Nat,((x:Int)=(y:Int))=(x=y):=fun x y=>by simp; omega
 refine fnc_of tab_ok Try.func50 rfl (by kernel_rfl) (by rw [Try.ntmps50]; exact Nat.le_add_left 3 _) ?_; rw [Try.ntmps50]
 refine qm ?_
 refine hk_region fun K hK=>runs_eval tab_ok ?_
 simp only [evz,fl,gp,tab,simprocAttr]
 refine fin_run trivial (hK _ ?_)<;>clear hK K
 refine qa (qm ?_)
 refine hk_region fun K hK=>runs_eval tab_ok ?_
 simp only [evz,fl,gp,tab,simprocAttr]
 refine fin_run trivial (hK _ ?_)<;>clear hK K
 refine qa (qm (qm ?_))
 refine hk_own0s 7 3 rfl ?_
 refine hk_region fun K hK=>runs_eval tab_ok ?_
 simp only [evz,fl,gp,tab,simprocAttr]
 refine fin_run trivial (hK _ ?_)<;>clear hK K
 refine qa (ql ?_)
 refine hk_loop (ι:=Nat × List E3) (fun q=>⟨57,[(0,.p (.list (wl e))),(1,.p (.int .i64 a)),(2,.p (.int .i64 b)),(7,.sls 0 0 q.2.length 3),(8,.p (.int .i64 (q.1:Nat)))],[.own (fw q.2)]⟩) (fun q=>q.1≤e.length∧dd q.2 ((e.map (rhoE a b)).drop q.1)=onceS e a b∧q.2.length≤q.1) (fun q=>e.length - q.1) (0,[]) ⟨Nat.zero_le _,rfl,Nat.le_refl _⟩ [0] (by simp only [leq,leA,evz,fl,gp,tab,simprocAttr]<;>trivial) fun q hq=>?_
 obtain ⟨i,f⟩:=q
 obtain ⟨q1,q2,q3⟩:=hq
 simp only at q1 q2 q3 ⊢
 refine qm (qm ?_)
 refine hk_region fun K hK=>runs_eval tab_ok ?_
 simp only [evz,fl,gp,tab,simprocAttr,wl_len]
 refine fin_run trivial (hK _ ?_)<;>clear hK K
 refine qa ?_
 refine hk_cond rfl (fun hC1=>?_) (fun hC1=>?_)
 ·(try simp only [nhs] at hC1)
  have hi:i < e.length:=by omega
  obtain ⟨t,ht⟩:∃ t,e.getD i e3d=t:=⟨_,rfl⟩
  have htm:(e.map (rhoE a b)).drop i=rhoE a b t :: (e.map (rhoE a b)).drop (i + 1):=by
   rw [List.drop_eq_getElem_cons (by simpa using hi),← ht,List.getD_eq_getElem?_getD,List.getElem?_eq_getElem hi,List.getElem_map]; rfl
  obtain ⟨ta,tx,tb⟩:=t
  refine qh (qa (qm (ql (qm ?_))))
  refine hk_region fun K hK=>runs_eval tab_ok ?_
  simp only [evz,fl,gp,tab,simprocAttr,wl_len,wl_get hi,ht]
  refine fin_run ?_ (hK _ ?_)<;>clear hK K
  ·omega
  refine qa (qm (qm ?_))
  refine hk_region fun K hK=>runs_eval tab_ok ?_
  simp only [evz,fl,gp,tab,simprocAttr]
  refine fin_run ?_ (hK _ ?_)<;>clear hK K
  ·(first|exact trivial|omega|(simp only [In64] at *; omega)|(simp [In64] at *; omega)|(simp_all; done)|skip)
  refine qa ?_
  refine hk_cut (⟨57,[(0,.p (.list (wl e))),(1,.p (.int .i64 a)),(2,.p (.int .i64 b)),(7,.sls 0 0 f.length 3),(8,.p (.int .i64 (i:Nat))),(9,.ptr 1 0)],[.own (fw f),.own [.p (.int .i64 (rho a b ta)),.p (.int .i64 tx),.p (.int .i64 tb)]]⟩) ?_ ?_
  ·refine hk_cond rfl (fun hC2=>?_) (fun hC2=>?_)
   ·(try simp only [nhs] at hC2)
    refine hk_region fun K hK=>runs_eval tab_ok ?_
    simp only [evz,fl,gp,tab,simprocAttr]
    refine fin_run ?_ (hK _ ?_)<;>clear hK K
    ·(first|exact trivial|omega|(simp only [In64] at *; omega)|(simp [In64] at *; omega)|(simp_all; done)|skip)
    refine ⟨rfl,[0,1],?_⟩
    have h2:ta=b:=by omega
    have h3:rho a b ta=a:=by unfold rho; rw [if_pos h2]
    rw [h3]
    simp only [leq,leA,evz,fl,gp,tab,simprocAttr,fw_ren,fw_sc]<;>trivial
   (try simp only [nhs] at hC2)
   refine qh ?_
   refine ⟨rfl,[0,1],?_⟩
   have h2:¬ ta=b:=by omega
   have h3:rho a b ta=ta:=by unfold rho; rw [if_neg h2]
   rw [h3]
   simp only [leq,leA,evz,fl,gp,tab,simprocAttr,fw_ren,fw_sc]<;>trivial
  refine qm (qm ?_)
  refine hk_region fun K hK=>runs_eval tab_ok ?_
  simp only [evz,fl,gp,tab,simprocAttr]
  refine fin_run ?_ (hK _ ?_)<;>clear hK K
  ·(first|exact trivial|omega|(simp only [In64] at *; omega)|(simp [In64] at *; omega)|(simp_all; done)|skip)
  refine qa ?_
  refine hk_cut (⟨57,[(0,.p (.list (wl e))),(1,.p (.int .i64 a)),(2,.p (.int .i64 b)),(7,.sls 0 0 f.length 3),(8,.p (.int .i64 (i:Nat))),(9,.ptr 1 0)],[.own (fw f),.own [.p (.int .i64 (rho a b ta)),.p (.int .i64 tx),.p (.int .i64 (rho a b tb))]]⟩) ?_ ?_
  ·refine hk_cond rfl (fun hC3=>?_) (fun hC3=>?_)
   ·(try simp only [nhs] at hC3)
    refine hk_region fun K hK=>runs_eval tab_ok ?_
    simp only [evz,fl,gp,tab,simprocAttr]
    refine fin_run ?_ (hK _ ?_)<;>clear hK K
    ·(first|exact trivial|omega|(simp only [In64] at *; omega)|(simp [In64] at *; omega)|(simp_all; done)|skip)
    refine ⟨rfl,[0,1],?_⟩
    have h2:tb=b:=by omega
    have h3:rho a b tb=a:=by unfold rho; rw [if_pos h2]
    rw [h3]
    simp only [leq,leA,evz,fl,gp,tab,simprocAttr,fw_ren,fw_sc]<;>trivial
   (try simp only [nhs] at hC3)
   refine qh ?_
   refine ⟨rfl,[0,1],?_⟩
   have h2:¬ tb=b:=by omega
   have h3:rho a b tb=tb:=by unfold rho; rw [if_neg h2]
   rw [h3]
   simp only [leq,leA,evz,fl,gp,tab,simprocAttr,fw_ren,fw_sc]<;>trivial
  obtain ⟨y,hy⟩:∃ y,rhoE a b (ta,tx,tb)=y:=⟨_,rfl⟩
  have hy1:rho a b ta=y.1:=by rw [← hy]; rfl
  have hy2:tx=y.2.1:=by rw [← hy]; rfl
  have hy3:rho a b tb=y.2.2:=by rw [← hy]; rfl
  rw [hy] at htm
  rw [htm] at q2
  rw [hy1,hy2,hy3]
  obtain ⟨ya,yx,yb⟩:=y
  simp only
  refine qm ?_
  refine hk_region fun K hK=>runs_eval tab_ok ?_
  simp only [evz,fl,gp,tab,simprocAttr]
  refine fin_run trivial (hK _ ?_)<;>clear hK K
  refine qa (qm (qm ?_))
  refine hk_region fun K hK=>runs_eval tab_ok ?_
  simp only [evz,fl,gp,tab,simprocAttr]
  refine fin_run trivial (hK _ ?_)<;>clear hK K
  refine qa (ql ?_)
  refine hk_loop (ι:=Nat × Bool) (fun q=>⟨57,[(0,.p (.list (wl e))),(1,.p (.int .i64 a)),(2,.p (.int .i64 b)),(7,.sls 0 0 f.length 3),(8,.p (.int .i64 (i:Nat))),(9,.ptr 1 0),(10,.p (.bool q.2)),(11,.p (.int .i64 (q.1:Nat)))],[.own (fw f),.own [.p (.int .i64 ya),.p (.int .i64 yx),.p (.int .i64 yb)]]⟩) (fun q=>q.1≤f.length∧(q.2=true→(ya,yx,yb)∈f)∧(q.2=false→∀ k,k < q.1→f.getD k e3d ≠ (ya,yx,yb))) (fun q=>f.length - q.1) (0,false) ⟨Nat.zero_le _,fun h=>(by cases h),fun _ k hk=>absurd hk (Nat.not_lt_zero _)⟩ [0,1] (by simp only [leq,leA,evz,fl,gp,tab,simprocAttr,fw_ren,fw_sc]<;>trivial) fun q hq=>?_
  obtain ⟨k,had⟩:=q
  obtain ⟨k1,k2,k3⟩:=hq
  simp only at k1 k2 k3 ⊢
  refine qm (qm ?_)
  by_cases g12a:(k:Int) < (f.length:Int)
  ·refine hk_region fun K hK=>runs_eval tab_ok ?_
   simp only [evz,fl,gp,tab,simprocAttr,decide_eq_true g12a]
   refine fin_stop ?_ (runs_op (lenS_does tab_ok rfl rfl rfl rfl) rfl (by simp only [dstOk,Nat.reduceLT]) (runs_eval tab_ok ?_))
   ·(first|exact trivial|omega|(simp only [In64] at *; omega)|(simp [In64] at *; omega)|(simp_all; done)|skip)
   simp only [evz,fl,gp,tab,simprocAttr,decide_eq_true g12a]
   refine fin_run trivial (hK _ ?_)<;>clear hK K
   refine qa ?_
   refine hk_cond rfl (fun hC4=>?_) (fun hC4=>?_)
   ·(try simp only [nhs] at hC4)
    have hk:k < f.length:=by omega
    have hfk:=fw_at hk
    have hhad:had=false:=by simpa using hC4
    refine qh (qa (qm (ql ?_)))
    refine hk_draw mixed (by kernel_rfl) fun K hK=>runs_eval tab_ok ?_
    simp only [evz,fl,gp,tab,simprocAttr,Int.toNat_natCast,Nat.zero_add,hfk]
    refine fin_stop ?_ (runs_opD (idxS_loc tab_ok rfl rfl rfl rfl rfl rfl rfl (by omega) (by omega)) rfl (by simp only [dstOk,Nat.reduceLT]) (runs_eval tab_ok ?_))
    ·first|trivial|(rw [fw_len]; omega)
    simp only [evz,fl,gp,tab,simprocAttr,Int.toNat_natCast,Nat.zero_add,hfk]
    refine fin_stop ?_ (runs_opD (arrEq3_loc tab_ok rfl rfl rfl rfl rfl rfl rfl rfl (by kernel_rfl)) rfl (by simp only [dstOk,Nat.reduceLT]) (runs_eval tab_ok ?_))
    ·first|trivial|(rw [fw_len]; omega)
    simp only [evz,fl,gp,tab,simprocAttr,Int.toNat_natCast,Nat.zero_add,hfk]
    refine fin_run ?_ (hK _ ?_)<;>clear hK K
    ·(first|exact trivial|omega|(simp only [In64] at *; omega)|(simp [In64] at *; omega)|(simp_all; done)|skip)
    refine qd (qa ?_)
    refine hk_region fun K hK=>runs_eval tab_ok ?_
    simp only [evz,fl,gp,tab,simprocAttr]
    refine fin_run ?_ (hK _ ?_)<;>clear hK K
    ·(first|exact trivial|omega|(simp only [In64] at *; omega)|(simp [In64] at *; omega)|(simp_all; done)|skip)
    refine qa ?_
    obtain ⟨B,hB⟩:∃ B:Bool,(decide (((f.getD k e3d).1:Int)=(ya:Int)) && (decide ((f.getD k e3d).2.1=yx) && decide (((f.getD k e3d).2.2:Int)=(yb:Int))))=B:=⟨_,rfl⟩
    rw [hB]
    have hBi:B=true↔f.getD k e3d=(ya,yx,yb):=by
     rw [← hB]
     simp only [Bool.and_eq_true,decide_eq_true_eq]
     generalize f.getD k e3d=z
     obtain ⟨p,q,r⟩:=z
     simp only [Prod.mk.injEq]
     omega
    refine ⟨(k + 1,B),[0,1],⟨by simp only; omega,fun h=>?_,fun h k' hk'=>?_⟩,by simp only; omega,by simp only [leq,leA,evz,fl,gp,tab,simprocAttr,fw_ren,fw_sc]<;>trivial⟩
    ·have:=hBi.1 h; rw [← this]; exact mem_e3 hk
    by_cases hk2:k' < k
    ·exact k3 hhad k' hk2
    have hk' : k' < k + 1:=hk'
    obtain rfl:k' = k:=by omega
    intro e0
    have:=hBi.2 e0
    have h:B=false:=h
    rw [h] at this; cases this
   (try simp only [nhs] at hC4)
   refine qj (qc (qc (qf (qa (qm ?_)))))
   refine hk_region fun K hK=>runs_eval tab_ok ?_
   simp only [evz,fl,gp,tab,simprocAttr]
   refine fin_run trivial (hK _ ?_)<;>clear hK K
   refine qa ?_
   refine hk_cond rfl (fun hC5=>?_) (fun hC5=>?_)
   ·(try simp only [nhs] at hC5)
    have hh:had=false:=by simpa using hC5
    have hke:k=f.length:=by first|omega|(exfalso; simp [hh] at hC4)
    have hnm:(ya,yx,yb) ∉ f:=fun h=>by
     obtain ⟨k',hk',e0⟩:=List.getElem_of_mem h
     refine k3 hh k' (by omega) ?_
     rw [List.getD_eq_getElem?_getD,List.getElem?_eq_getElem hk']; exact e0
    rw [dd,if_neg hnm] at q2
    have e1:(fw f).take (f.length * 3)++opl (flat [PV.agg [.int .i64 ya,.int .i64 yx,.int .i64 yb]])=fw (f++[(ya,yx,yb)]):=by
     have:=fw_dropt (W:=f) rfl
     rw [List.drop_zero] at this
     rw [this,fw_app,fw_one]; rfl
    refine hk_region fun K hK=>runs_eval tab_ok ?_
    simp only [evz,fl,gp,tab,simprocAttr,e1]
    refine fin_stop ?_ (runs_op (appS_does (sz:=3) (k:=0) (lo:=0) (len:=f.length) (c:=fw f) (l:=[PV.agg [.int .i64 ya,.int .i64 yx,.int .i64 yb]]) tab_ok rfl rfl rfl rfl rfl rfl (by decide) (by decide) rfl rfl rfl (by intro x hx; simp at hx; subst hx; rfl) (by intro x hx; simp at hx; subst hx; rfl) (show 0 < 1 by decide) (by rw [fw_len]; omega) (by rw [fw_dropt rfl]; exact fw_ok _) (by show (f.length + 1) * 24≤_; omega) (by show (f.length + 1) * 3≤_; omega) (by show f.length + 1≤_; omega)) rfl (by simp only [dstOk,Nat.reduceLT]) (runs_eval tab_ok ?_))
    ·(first|exact trivial|omega|(simp only [In64] at *; omega)|(simp [In64] at *; omega)|(simp_all; done)|skip)
    simp only [evz,fl,gp,tab,simprocAttr,e1]
    refine fin_run ?_ (hK _ ?_)<;>clear hK K
    ·(first|exact trivial|omega|(simp only [In64] at *; omega)|(simp [In64] at *; omega)|(simp_all; done)|skip)
    refine qd (qa ?_)
    refine hk_region fun K hK=>runs_eval tab_ok ?_
    simp only [evz,fl,gp,tab,simprocAttr]
    refine fin_run ?_ (hK _ ?_)<;>clear hK K
    ·(first|exact trivial|omega|(simp only [In64] at *; omega)|(simp [In64] at *; omega)|(simp_all; done)|skip)
    refine qa ?_
    exact ⟨(i + 1,f++[(ya,yx,yb)]),[2],⟨by simp only; omega,q2,by simp only [List.length_append,List.length_singleton]; omega⟩,by simp only; omega,by simp only [leq,leA,evz,fl,gp,tab,simprocAttr,fw_ren,fw_sc,List.length_append,List.length_singleton]<;>first|trivial|trace_state⟩
   (try simp only [nhs] at hC5)
   have hh:had=true:=by simpa using hC5
   rw [dd,if_pos (k2 hh)] at q2
   refine qh (qd (qa ?_))
   refine hk_region fun K hK=>runs_eval tab_ok ?_
   simp only [evz,fl,gp,tab,simprocAttr]
   refine fin_run ?_ (hK _ ?_)<;>clear hK K
   ·(first|exact trivial|omega|(simp only [In64] at *; omega)|(simp [In64] at *; omega)|(simp_all; done)|skip)
   refine qa ?_
   exact ⟨(i + 1,f),[0],⟨by simp only; omega,q2,by simp only; omega⟩,by simp only; omega,by simp only [leq,leA,evz,fl,gp,tab,simprocAttr,fw_ren,fw_sc]<;>trivial⟩
  refine hk_region fun K hK=>runs_eval tab_ok ?_
  simp only [evz,fl,gp,tab,simprocAttr,decide_eq_false g12a]
  refine fin_stop ?_ (runs_op (lenS_does tab_ok rfl rfl rfl rfl) rfl (by simp only [dstOk,Nat.reduceLT]) (runs_eval tab_ok ?_))
  ·(first|exact trivial|omega|(simp only [In64] at *; omega)|(simp [In64] at *; omega)|(simp_all; done)|skip)
  simp only [evz,fl,gp,tab,simprocAttr,decide_eq_false g12a]
  refine fin_run trivial (hK _ ?_)<;>clear hK K
  refine qa ?_
  refine hk_cond rfl (fun hC4=>?_) (fun hC4=>?_)
  ·cases hC4
  refine qj (qc (qc (qf (qa (qm ?_)))))
  refine hk_region fun K hK=>runs_eval tab_ok ?_
  simp only [evz,fl,gp,tab,simprocAttr]
  refine fin_run trivial (hK _ ?_)<;>clear hK K
  refine qa ?_
  refine hk_cond rfl (fun hC5=>?_) (fun hC5=>?_)
  ·(try simp only [nhs] at hC5)
   have hh:had=false:=by simpa using hC5
   have hke:k=f.length:=by first|omega|(exfalso; simp [hh] at hC4)
   have hnm:(ya,yx,yb) ∉ f:=fun h=>by
    obtain ⟨k',hk',e0⟩:=List.getElem_of_mem h
    refine k3 hh k' (by omega) ?_
    rw [List.getD_eq_getElem?_getD,List.getElem?_eq_getElem hk']; exact e0
   rw [dd,if_neg hnm] at q2
   have e1:(fw f).take (f.length * 3)++opl (flat [PV.agg [.int .i64 ya,.int .i64 yx,.int .i64 yb]])=fw (f++[(ya,yx,yb)]):=by
    have:=fw_dropt (W:=f) rfl
    rw [List.drop_zero] at this
    rw [this,fw_app,fw_one]; rfl
   refine hk_region fun K hK=>runs_eval tab_ok ?_
   simp only [evz,fl,gp,tab,simprocAttr,e1]
   refine fin_stop ?_ (runs_op (appS_does (sz:=3) (k:=0) (lo:=0) (len:=f.length) (c:=fw f) (l:=[PV.agg [.int .i64 ya,.int .i64 yx,.int .i64 yb]]) tab_ok rfl rfl rfl rfl rfl rfl (by decide) (by decide) rfl rfl rfl (by intro x hx; simp at hx; subst hx; rfl) (by intro x hx; simp at hx; subst hx; rfl) (show 0 < 1 by decide) (by rw [fw_len]; omega) (by rw [fw_dropt rfl]; exact fw_ok _) (by show (f.length + 1) * 24≤_; omega) (by show (f.length + 1) * 3≤_; omega) (by show f.length + 1≤_; omega)) rfl (by simp only [dstOk,Nat.reduceLT]) (runs_eval tab_ok ?_))
   ·(first|exact trivial|omega|(simp only [In64] at *; omega)|(simp [In64] at *; omega)|(simp_all; done)|skip)
   simp only [evz,fl,gp,tab,simprocAttr,e1]
   refine fin_run ?_ (hK _ ?_)<;>clear hK K
   ·(first|exact trivial|omega|(simp only [In64] at *; omega)|(simp [In64] at *; omega)|(simp_all; done)|skip)
   refine qd (qa ?_)
   refine hk_region fun K hK=>runs_eval tab_ok ?_
   simp only [evz,fl,gp,tab,simprocAttr]
   refine fin_run ?_ (hK _ ?_)<;>clear hK K
   ·(first|exact trivial|omega|(simp only [In64] at *; omega)|(simp [In64] at *; omega)|(simp_all; done)|skip)
   refine qa ?_
   exact ⟨(i + 1,f++[(ya,yx,yb)]),[2],⟨by simp only; omega,q2,by simp only [List.length_append,List.length_singleton]; omega⟩,by simp only; omega,by simp only [leq,leA,evz,fl,gp,tab,simprocAttr,fw_ren,fw_sc,List.length_append,List.length_singleton]<;>first|trivial|trace_state⟩
  (try simp only [nhs] at hC5)
  have hh:had=true:=by simpa using hC5
  rw [dd,if_pos (k2 hh)] at q2
  refine qh (qd (qa ?_))
  refine hk_region fun K hK=>runs_eval tab_ok ?_
  simp only [evz,fl,gp,tab,simprocAttr]
  refine fin_run ?_ (hK _ ?_)<;>clear hK K
  ·(first|exact trivial|omega|(simp only [In64] at *; omega)|(simp [In64] at *; omega)|(simp_all; done)|skip)
  refine qa ?_
  exact ⟨(i + 1,f),[0],⟨by simp only; omega,q2,by simp only; omega⟩,by simp only; omega,by simp only [leq,leA,evz,fl,gp,tab,simprocAttr,fw_ren,fw_sc]<;>trivial⟩
 (try simp only [nhs] at hC1)
 have hie:i=e.length:=by omega
 have hq:f=onceS e a b:=by
  rw [hie,List.drop_of_length_le (by simp)] at q2
  exact q2
 refine qj (qc (qc (qf (qa (qm ?_)))))
 refine hk_seals 7 0 (sz:=3) (l:=wl f) (fun x hx=>by
  unfold wl at hx
  obtain ⟨t,_,rfl⟩:=List.mem_map.1 hx
  rfl) (by show AV.sls 0 0 f.length 3=_; rw [wl_len]) rfl ?_
 refine hk_region fun K hK=>runs_eval tab_ok ?_
 simp only [evz,fl,gp,tab,simprocAttr]
 refine fin_run trivial (hK _ ?_)<;>clear hK K
 refine qa (qk ?_)
 simp only [Try.results50,enA,evz,fl,gp,tab,simprocAttr]
 all_goals (rw [← hq])
end Go.Proofs.Ytneglephfhiamaa

namespace Go.Proofs.Ytneglephfhiamaa
open Go.Pv
def clashP (e:List E3):Int × Int:=match clashS e with
 | none=>(-1,-1)
 | some (a,b)=>(a,b)
def rowS (e:List E3) (i:Nat):Option (Nat × Nat):=(List.range i).findSome? fun k=>cl2 (e.getD i e3d) (e.getD k e3d)
theorem clashP_at {e:List E3} {i k:Nat} {p:Nat × Nat} (hi:i < e.length) (hk:k < i) (h1:∀ j,j < i→rowS e j=none) (h2:∀ j,j < k→cl2 (e.getD i e3d) (e.getD j e3d)=none) (h3:cl2 (e.getD i e3d) (e.getD k e3d)=some p):clashP e=((p.1:Int),(p.2:Int)):=by
 have h4:rowS e i=some p:=find_at hk h2 h3
 have h5:clashS e=some p:=find_at hi h1 h4
 unfold clashP
 rw [h5]
theorem clashP_none {e:List E3} (h1:∀ j,j < e.length→rowS e j=none):clashP e=(-1,-1):=by
 have h5:clashS e=none:=find_none h1
 unfold clashP
 rw [h5]
set_option maxHeartbeats 4000000 in
set_option maxRecDepth 20000 in
theorem clash_c (e:List E3) (hl:e.length≤100000):FnC Try.prog 51 [.list (wl e)] (.tup [.int .i64 (clashP e).1,.int .i64 (clashP e).2]):=by
 refine fnc_of tab_ok Try.func51 rfl (by kernel_rfl) (by rw [Try.ntmps51]; exact Nat.le_add_left 1 _) ?_; rw [Try.ntmps51]
 refine qm ?_
 refine hk_region fun K hK=>runs_eval tab_ok ?_
 simp only [evz,fl,gp,tab,simprocAttr]
 refine fin_run trivial (hK _ ?_)<;>clear hK K
 refine qa (qm (qm ?_))
 refine hk_region fun K hK=>runs_eval tab_ok ?_
 simp only [evz,fl,gp,tab,simprocAttr]
 refine fin_run trivial (hK _ ?_)<;>clear hK K
 refine qa (ql ?_)
 refine hk_loop (ι:=Nat) (fun i=>⟨96,[(0,.p (.list (wl e))),(4,.p (.int .i64 (i:Nat)))],[]⟩) (fun i=>i≤e.length∧∀ j,j < i→rowS e j=none) (fun i=>e.length - i) 0 ⟨Nat.zero_le _,fun j hj=>absurd hj (Nat.not_lt_zero _)⟩ [] (by simp only [leq,leA,evz,fl,gp,tab,simprocAttr]<;>trivial) fun i hi=>?_
 obtain ⟨q1,q2⟩:=hi
 refine qm (qm ?_)
 refine hk_region fun K hK=>runs_eval tab_ok ?_
 simp only [evz,fl,gp,tab,simprocAttr,wl_len]
 refine fin_run trivial (hK _ ?_)<;>clear hK K
 refine qa ?_
 refine hk_cond rfl (fun hC1=>?_) (fun hC1=>?_)
 ·(try simp only [nhs] at hC1)
  have hi:i < e.length:=by omega
  obtain ⟨s,hs⟩:∃ t,e.getD i e3d=t:=⟨_,rfl⟩
  obtain ⟨sa,sx,sb⟩:=s
  refine qh (qa (qm (ql (qm ?_))))
  refine hk_region fun K hK=>runs_eval tab_ok ?_
  simp only [evz,fl,gp,tab,simprocAttr]
  refine fin_run trivial (hK _ ?_)<;>clear hK K
  refine qa (ql ?_)
  refine hk_loop (ι:=Nat) (fun k=>⟨96,[(0,.p (.list (wl e))),(4,.p (.int .i64 (i:Nat))),(5,.p (.int .i64 (k:Nat)))],[]⟩) (fun k=>k≤i∧∀ j,j < k→cl2 (e.getD i e3d) (e.getD j e3d)=none) (fun k=>i - k) 0 ⟨Nat.zero_le _,fun j hj=>absurd hj (Nat.not_lt_zero _)⟩ [] (by simp only [leq,leA,evz,fl,gp,tab,simprocAttr]<;>trivial) fun k hk=>?_
  obtain ⟨p1,p2⟩:=hk
  refine qm (qm ?_)
  refine hk_region fun K hK=>runs_eval tab_ok ?_
  simp only [evz,fl,gp,tab,simprocAttr]
  refine fin_run trivial (hK _ ?_)<;>clear hK K
  refine qa ?_
  refine hk_cond rfl (fun hC2=>?_) (fun hC2=>?_)
  ·(try simp only [nhs] at hC2)
   have hk:k < i:=by omega
   have hke:k < e.length:=by omega
   obtain ⟨t,ht⟩:∃ t,e.getD k e3d=t:=⟨_,rfl⟩
   obtain ⟨ta,tx,tb⟩:=t
   have hn:∀ (h:cl2 (sa,sx,sb) (ta,tx,tb)=none),∀ j,j < k + 1→cl2 (e.getD i e3d) (e.getD j e3d)=none:=fun h j hj=>by
    by_cases hj2:j < k
    ·exact p2 j hj2
    obtain rfl:j=k:=by omega
    rw [hs,ht]; exact h
   refine qh (qa (qm (ql (qm (qm ?_)))))
   refine hk_draw mixed (by kernel_rfl) fun K hK=>runs_eval tab_ok ?_
   simp only [evz,fl,gp,tab,simprocAttr,wl_len,wl_get hi,wl_get hke,hs,ht]
   refine fin_run ?_ (hK _ ?_)<;>clear hK K
   ·exact ⟨⟨by omega,by omega⟩,by omega,by omega⟩
   refine qa ?_
   refine hk_cond rfl (fun hC3=>?_) (fun hC3=>?_)
   ·(try simp only [nhs] at hC3)
    refine qj (qc (qf (qa ?_)))
    refine hk_region fun K hK=>runs_eval tab_ok ?_
    simp only [evz,fl,gp,tab,simprocAttr]
    refine fin_run ?_ (hK _ ?_)<;>clear hK K
    ·(first|exact trivial|omega|(simp only [In64] at *; omega)|(simp [In64] at *; omega)|(simp_all; done)|skip)
    refine qa ?_
    have hnone:cl2 (sa,sx,sb) (ta,tx,tb)=none:=by
     unfold cl2
     by_cases hx:sx=tx
     ·rw [if_neg (fun h=>h hx),if_neg (by simp only; omega),if_neg (by simp only; omega)]
     rw [if_pos hx]
    exact ⟨k + 1,[],⟨by omega,hn hnone⟩,by omega,by simp only [leq,leA,evz,fl,gp,tab,simprocAttr]<;>trivial⟩
   (try simp only [nhs] at hC3)
   refine qh (qa (qm (qm ?_)))
   by_cases g8a:(sa:Int)=(ta:Int)
   ·refine hk_draw mixed (by kernel_rfl) fun K hK=>runs_eval tab_ok ?_
    simp only [evz,fl,gp,tab,simprocAttr,wl_len,wl_get hi,wl_get hke,hs,ht,decide_eq_true g8a]
    refine fin_run ?_ (hK _ ?_)<;>clear hK K
    ·(first|exact trivial|omega|(simp only [In64] at *; omega)|(simp [In64] at *; omega)|(simp_all; done)|skip)
    refine qa ?_
    refine hk_cond rfl (fun hC4=>?_) (fun hC4=>?_)
    ·(try simp only [nhs] at hC4)
     refine qm ?_
     refine hk_draw mixed (by kernel_rfl) fun K hK=>runs_eval tab_ok ?_
     simp only [evz,fl,gp,tab,simprocAttr,wl_len,wl_get hi,wl_get hke,hs,ht]
     refine fin_run ?_ (hK _ ?_)<;>clear hK K
     ·(first|exact trivial|omega|(simp only [In64] at *; omega)|(simp [In64] at *; omega)|(simp_all; done)|skip)
     refine qa (qk (qb (qe (qb (qb (qe (qe (qb (qb (qe (qb ?_)))))))))))
     simp only [Try.results51,enA,evz,fl,gp,tab,simprocAttr]
     have hx:sx=tx:=by simpa using hC3
     rw [clashP_at (p:=(sb,tb)) hi hk q2 p2 (by
      rw [hs,ht]
      unfold cl2
      rw [if_neg (fun h=>h hx),if_pos (by simp only; omega)])]
     exact ⟨rfl,rfl⟩
    (try simp only [nhs] at hC4)
    refine qh (qa (qm ?_))
    by_cases g10a:(sb:Int)=(tb:Int)
    ·refine hk_draw mixed (by kernel_rfl) fun K hK=>runs_eval tab_ok ?_
     simp only [evz,fl,gp,tab,simprocAttr,wl_len,wl_get hi,wl_get hke,hs,ht,decide_eq_true g10a]
     refine fin_run ?_ (hK _ ?_)<;>clear hK K
     ·(first|exact trivial|omega|(simp only [In64] at *; omega)|(simp [In64] at *; omega)|(simp_all; done)|skip)
     refine qa ?_
     refine hk_cond rfl (fun hC5=>?_) (fun hC5=>?_)
     ·(try simp only [nhs] at hC5)
      refine qm ?_
      refine hk_draw mixed (by kernel_rfl) fun K hK=>runs_eval tab_ok ?_
      simp only [evz,fl,gp,tab,simprocAttr,wl_len,wl_get hi,wl_get hke,hs,ht]
      refine fin_run ?_ (hK _ ?_)<;>clear hK K
      ·(first|exact trivial|omega|(simp only [In64] at *; omega)|(simp [In64] at *; omega)|(simp_all; done)|skip)
      refine qa (qk (qe (qb (qb (qe (qe (qb (qb (qe (qb ?_))))))))))
      simp only [Try.results51,enA,evz,fl,gp,tab,simprocAttr]
      have hx:sx=tx:=by simpa using hC3
      rw [clashP_at (p:=(sa,ta)) hi hk q2 p2 (by
       rw [hs,ht]
       unfold cl2
       rw [if_neg (fun h=>h hx),if_neg (by simp only; omega),if_pos (by simp only; omega)])]
      exact ⟨rfl,rfl⟩
     (try simp only [nhs] at hC5)
     refine qh (qd (qa ?_))
     refine hk_region fun K hK=>runs_eval tab_ok ?_
     simp only [evz,fl,gp,tab,simprocAttr]
     refine fin_run ?_ (hK _ ?_)<;>clear hK K
     ·(first|exact trivial|omega|(simp only [In64] at *; omega)|(simp [In64] at *; omega)|(simp_all; done)|skip)
     refine qa ?_
     have hnone:cl2 (sa,sx,sb) (ta,tx,tb)=none:=by
      unfold cl2
      by_cases hx:sx=tx
      ·rw [if_neg (fun h=>h hx),if_neg (by simp only; omega),if_neg (by simp only; omega)]
      rw [if_pos hx]
     exact ⟨k + 1,[],⟨by omega,hn hnone⟩,by omega,by simp only [leq,leA,evz,fl,gp,tab,simprocAttr]<;>trivial⟩
    refine hk_draw mixed (by kernel_rfl) fun K hK=>runs_eval tab_ok ?_
    simp only [evz,fl,gp,tab,simprocAttr,wl_len,wl_get hi,wl_get hke,hs,ht,decide_eq_false g10a]
    refine fin_run ?_ (hK _ ?_)<;>clear hK K
    ·(first|exact trivial|omega|(simp only [In64] at *; omega)|(simp [In64] at *; omega)|(simp_all; done)|skip)
    refine qa ?_
    refine hk_cond rfl (fun hC5=>?_) (fun hC5=>?_)
    ·cases hC5
    refine qh (qd (qa ?_))
    refine hk_region fun K hK=>runs_eval tab_ok ?_
    simp only [evz,fl,gp,tab,simprocAttr]
    refine fin_run ?_ (hK _ ?_)<;>clear hK K
    ·(first|exact trivial|omega|(simp only [In64] at *; omega)|(simp [In64] at *; omega)|(simp_all; done)|skip)
    refine qa ?_
    have hnone:cl2 (sa,sx,sb) (ta,tx,tb)=none:=by
     unfold cl2
     by_cases hx:sx=tx
     ·rw [if_neg (fun h=>h hx),if_neg (by simp only; omega),if_neg (by simp only; omega)]
     rw [if_pos hx]
    exact ⟨k + 1,[],⟨by omega,hn hnone⟩,by omega,by simp only [leq,leA,evz,fl,gp,tab,simprocAttr]<;>trivial⟩
   refine hk_draw mixed (by kernel_rfl) fun K hK=>runs_eval tab_ok ?_
   simp only [evz,fl,gp,tab,simprocAttr,wl_len,wl_get hi,wl_get hke,hs,ht,decide_eq_false g8a]
   refine fin_run ?_ (hK _ ?_)<;>clear hK K
   ·(first|exact trivial|omega|(simp only [In64] at *; omega)|(simp [In64] at *; omega)|(simp_all; done)|skip)
   refine qa ?_
   refine hk_cond rfl (fun hC4=>?_) (fun hC4=>?_)
   ·cases hC4
   refine qh (qa (qm ?_))
   by_cases g10a:(sb:Int)=(tb:Int)
   ·refine hk_draw mixed (by kernel_rfl) fun K hK=>runs_eval tab_ok ?_
    simp only [evz,fl,gp,tab,simprocAttr,wl_len,wl_get hi,wl_get hke,hs,ht,decide_eq_true g10a]
    refine fin_run ?_ (hK _ ?_)<;>clear hK K
    ·(first|exact trivial|omega|(simp only [In64] at *; omega)|(simp [In64] at *; omega)|(simp_all; done)|skip)
    refine qa ?_
    refine hk_cond rfl (fun hC5=>?_) (fun hC5=>?_)
    ·(try simp only [nhs] at hC5)
     refine qm ?_
     refine hk_draw mixed (by kernel_rfl) fun K hK=>runs_eval tab_ok ?_
     simp only [evz,fl,gp,tab,simprocAttr,wl_len,wl_get hi,wl_get hke,hs,ht]
     refine fin_run ?_ (hK _ ?_)<;>clear hK K
     ·(first|exact trivial|omega|(simp only [In64] at *; omega)|(simp [In64] at *; omega)|(simp_all; done)|skip)
     refine qa (qk (qe (qb (qb (qe (qe (qb (qb (qe (qb ?_))))))))))
     simp only [Try.results51,enA,evz,fl,gp,tab,simprocAttr]
     have hx:sx=tx:=by simpa using hC3
     rw [clashP_at (p:=(sa,ta)) hi hk q2 p2 (by
      rw [hs,ht]
      unfold cl2
      rw [if_neg (fun h=>h hx),if_neg (by simp only; omega),if_pos (by simp only; omega)])]
     exact ⟨rfl,rfl⟩
    (try simp only [nhs] at hC5)
    refine qh (qd (qa ?_))
    refine hk_region fun K hK=>runs_eval tab_ok ?_
    simp only [evz,fl,gp,tab,simprocAttr]
    refine fin_run ?_ (hK _ ?_)<;>clear hK K
    ·(first|exact trivial|omega|(simp only [In64] at *; omega)|(simp [In64] at *; omega)|(simp_all; done)|skip)
    refine qa ?_
    have hnone:cl2 (sa,sx,sb) (ta,tx,tb)=none:=by
     unfold cl2
     by_cases hx:sx=tx
     ·rw [if_neg (fun h=>h hx),if_neg (by simp only; omega),if_neg (by simp only; omega)]
     rw [if_pos hx]
    exact ⟨k + 1,[],⟨by omega,hn hnone⟩,by omega,by simp only [leq,leA,evz,fl,gp,tab,simprocAttr]<;>trivial⟩
   refine hk_draw mixed (by kernel_rfl) fun K hK=>runs_eval tab_ok ?_
   simp only [evz,fl,gp,tab,simprocAttr,wl_len,wl_get hi,wl_get hke,hs,ht,decide_eq_false g10a]
   refine fin_run ?_ (hK _ ?_)<;>clear hK K
   ·(first|exact trivial|omega|(simp only [In64] at *; omega)|(simp [In64] at *; omega)|(simp_all; done)|skip)
   refine qa ?_
   refine hk_cond rfl (fun hC5=>?_) (fun hC5=>?_)
   ·cases hC5
   refine qh (qd (qa ?_))
   refine hk_region fun K hK=>runs_eval tab_ok ?_
   simp only [evz,fl,gp,tab,simprocAttr]
   refine fin_run ?_ (hK _ ?_)<;>clear hK K
   ·(first|exact trivial|omega|(simp only [In64] at *; omega)|(simp [In64] at *; omega)|(simp_all; done)|skip)
   refine qa ?_
   have hnone:cl2 (sa,sx,sb) (ta,tx,tb)=none:=by
    unfold cl2
    by_cases hx:sx=tx
    ·rw [if_neg (fun h=>h hx),if_neg (by simp only; omega),if_neg (by simp only; omega)]
    rw [if_pos hx]
   exact ⟨k + 1,[],⟨by omega,hn hnone⟩,by omega,by simp only [leq,leA,evz,fl,gp,tab,simprocAttr]<;>trivial⟩
  (try simp only [nhs] at hC2)
  refine qj (qc (qc (qf (qd (qa ?_)))))
  refine hk_region fun K hK=>runs_eval tab_ok ?_
  simp only [evz,fl,gp,tab,simprocAttr]
  refine fin_run ?_ (hK _ ?_)<;>clear hK K
  ·(first|exact trivial|omega|(simp only [In64] at *; omega)|(simp [In64] at *; omega)|(simp_all; done)|skip)
  refine qa ?_
  refine ⟨i + 1,[],⟨by omega,fun j hj=>?_⟩,by omega,by simp only [leq,leA,evz,fl,gp,tab,simprocAttr]<;>trivial⟩
  by_cases h:j < i
  ·exact q2 j h
  obtain rfl:j=i:=by omega
  exact find_none fun k hk=>p2 k (by omega)
 (try simp only [nhs] at hC1)
 refine qj (qc (qc (qf (qa (qm ?_)))))
 refine hk_region fun K hK=>runs_eval tab_ok ?_
 simp only [evz,fl,gp,tab,simprocAttr]
 refine fin_run trivial (hK _ ?_)<;>clear hK K
 refine qa (qk ?_)
 simp only [Try.results51,enA,evz,fl,gp,tab,simprocAttr]
 have hie:i=e.length:=by omega
 rw [clashP_none (fun j hj=>q2 j (by omega))]
 exact ⟨rfl,rfl⟩
end Go.Proofs.Ytneglephfhiamaa

namespace Go.Proofs.Ytneglephfhiamaa
open Go.Pv
def wkA (at_ x to:Int) (t:E3):Int:=if 0 < x∧(t.1:Int)=at_∧t.2.1=x then (t.2.2:Int) else to
def wkB (at_ x to:Int) (t:E3):Int:=if x < 0∧(t.2.2:Int)=at_∧t.2.1 = -x then (t.1:Int) else wkA at_ x to t
def wk1 (e:List E3) (at_ x:Int):Int:=e.foldl (wkB at_ x) (-1)
def walkS (e:List E3):Int→List Int→Int
 | at_,[]=>at_
 | at_,x :: w=>if 0≤at_ then walkS e (wk1 e at_ x) w else at_
set_option maxHeartbeats 4000000 in
set_option maxRecDepth 20000 in
theorem walk_c (e:List E3) (a0:Int) (w:List Int) (hl:e.length≤100000) (hw:w.length≤1000000000) (hs:Sm w):FnC Try.prog 60 [.list (wl e),.int .i64 a0,.list (il w)] (.int .i64 (walkS e a0 w)):=by
 refine fnc_of tab_ok Try.func60 rfl (by kernel_rfl) (by rw [Try.ntmps60]; exact Nat.le_add_left 3 _) ?_; rw [Try.ntmps60]
 refine qm ?_
 refine hk_region fun K hK=>runs_eval tab_ok ?_
 simp only [evz,fl,gp,tab,simprocAttr]
 refine fin_run trivial (hK _ ?_)<;>clear hK K
 refine qa (qm (qm ?_))
 refine hk_region fun K hK=>runs_eval tab_ok ?_
 simp only [evz,fl,gp,tab,simprocAttr]
 refine fin_run trivial (hK _ ?_)<;>clear hK K
 refine qa (ql ?_)
 refine hk_loop (ι:=Nat × Int) (fun q=>⟨91,[(0,.p (.list (wl e))),(1,.p (.int .i64 q.2)),(2,.p (.list (il w))),(7,.p (.int .i64 (q.1:Nat)))],[]⟩) (fun q=>q.1≤w.length∧walkS e q.2 (w.drop q.1)=walkS e a0 w) (fun q=>w.length - q.1) (0,a0) ⟨Nat.zero_le _,rfl⟩ [] (by simp only [leq,leA,evz,fl,gp,tab,simprocAttr]<;>trivial) fun q hq=>?_
 obtain ⟨i,at_⟩:=q
 obtain ⟨q1,q2⟩:=hq
 simp only at q1 q2 ⊢
 refine qm (qm ?_)
 by_cases g2a:(i:Int) < (w.length:Int)
 ·refine hk_region fun K hK=>runs_eval tab_ok ?_
  simp only [evz,fl,gp,tab,simprocAttr,il_length,decide_eq_true g2a]
  refine fin_run trivial (hK _ ?_)<;>clear hK K
  refine qa ?_
  refine hk_cond rfl (fun hC1=>?_) (fun hC1=>?_)
  ·(try simp only [nhs] at hC1)
   have hi:i < w.length:=by omega
   have ha:0≤at_:=by simpa using hC1
   obtain ⟨x,hx⟩:∃ x,w.getD i 0=x:=⟨_,rfl⟩
   have hxb : -26≤x∧x≤26:=hs x (by rw [← hx,List.getD_eq_getElem?_getD,List.getElem?_eq_getElem hi]; exact List.getElem_mem hi)
   have hdr:w.drop i=x :: w.drop (i + 1):=by
    rw [List.drop_eq_getElem_cons hi,← hx,List.getD_eq_getElem?_getD,List.getElem?_eq_getElem hi]; rfl
   rw [hdr,walkS,if_pos ha] at q2
   refine qh (qa (qm (ql (qm ?_))))
   refine hk_region fun K hK=>runs_eval tab_ok ?_
   simp only [evz,fl,gp,tab,simprocAttr]
   refine fin_run trivial (hK _ ?_)<;>clear hK K
   refine qa (qm (qm ?_))
   refine hk_region fun K hK=>runs_eval tab_ok ?_
   simp only [evz,fl,gp,tab,simprocAttr]
   refine fin_run trivial (hK _ ?_)<;>clear hK K
   refine qa (ql ?_)
   refine hk_loop (ι:=Nat × Int) (fun q=>⟨91,[(0,.p (.list (wl e))),(1,.p (.int .i64 at_)),(2,.p (.list (il w))),(7,.p (.int .i64 (i:Nat))),(8,.p (.int .i64 q.2)),(9,.p (.int .i64 (q.1:Nat)))],[]⟩) (fun q=>q.1≤e.length∧q.2=(e.take q.1).foldl (wkB at_ x) (-1)) (fun q=>e.length - q.1) (0,-1) ⟨Nat.zero_le _,rfl⟩ [] (by simp only [leq,leA,evz,fl,gp,tab,simprocAttr]<;>trivial) fun q hq=>?_
   obtain ⟨k,to⟩:=q
   obtain ⟨k1,k2⟩:=hq
   simp only at k1 k2 ⊢
   refine qm (qm ?_)
   refine hk_region fun K hK=>runs_eval tab_ok ?_
   simp only [evz,fl,gp,tab,simprocAttr,wl_len]
   refine fin_run trivial (hK _ ?_)<;>clear hK K
   refine qa ?_
   refine hk_cond rfl (fun hC2=>?_) (fun hC2=>?_)
   ·(try simp only [nhs] at hC2)
    have hk:k < e.length:=by omega
    obtain ⟨t,ht⟩:∃ t,e.getD k e3d=t:=⟨_,rfl⟩
    obtain ⟨ta,tx,tb⟩:=t
    obtain ⟨to1,hto1⟩:∃ z,wkA at_ x to (ta,tx,tb)=z:=⟨_,rfl⟩
    obtain ⟨to2,hto2⟩:∃ z,wkB at_ x to (ta,tx,tb)=z:=⟨_,rfl⟩
    have hnx:to2=(e.take (k + 1)).foldl (wkB at_ x) (-1):=by
     rw [take_snoc (d:=e3d) hk,List.foldl_append,← k2,ht,← hto2]; rfl
    unfold wkA at hto1
    unfold wkB wkA at hto2
    simp only at hto1 hto2
    refine qh (qa (qm (ql (qm (qm ?_)))))
    by_cases g8a:0 < x
    ·by_cases g8b:(ta:Int)=at_
     ·refine hk_draw mixed (by kernel_rfl) fun K hK=>runs_eval tab_ok ?_
      simp only [evz,fl,gp,tab,simprocAttr,il_length,il_get hi,hx,wl_len,wl_get hk,ht,decide_eq_true g8a,decide_eq_true g8b]
      refine fin_run ?_ (hK _ ?_)<;>clear hK K
      ·(first|exact trivial|omega|(simp only [In64] at *; omega)|(simp [In64] at *; omega)|(simp_all; done)|skip)
      refine qa ?_
      refine hk_cut (⟨91,[(0,.p (.list (wl e))),(1,.p (.int .i64 at_)),(2,.p (.list (il w))),(7,.p (.int .i64 (i:Nat))),(8,.p (.int .i64 to1)),(9,.p (.int .i64 (k:Nat)))],[]⟩) ?_ ?_
      ·refine hk_cond rfl (fun hC3=>?_) (fun hC3=>?_)
       ·(try simp only [nhs] at hC3)
        refine hk_region fun K hK=>runs_eval tab_ok ?_
        simp only [evz,fl,gp,tab,simprocAttr,wl_len,wl_get hk,ht]
        refine fin_run ?_ (hK _ ?_)<;>clear hK K
        ·(first|exact trivial|omega|(simp only [In64] at *; omega)|(simp [In64] at *; omega)|(simp_all; done)|skip)
        have e1:(tb:Int)=to1:=by
         rw [if_pos (by refine ⟨by omega,by omega,?_⟩; simpa using hC3)] at hto1
         exact hto1
        rw [e1]
        refine ⟨rfl,[],?_⟩
        simp only [leq,leA,evz,fl,gp,tab,simprocAttr]<;>trivial
       (try simp only [nhs] at hC3)
       refine qh ?_
       have e1:to=to1:=by
        rw [if_neg (by rintro ⟨h1,h2,h3⟩; first|omega|(exact absurd h3 (by simpa using hC3)))] at hto1
        exact hto1
       rw [e1]
       refine ⟨rfl,[],?_⟩
       simp only [leq,leA,evz,fl,gp,tab,simprocAttr]<;>trivial
      refine qm ?_
      by_cases g10a:x < 0
      ·by_cases g10b:(tb:Int)=at_
       ·refine hk_draw mixed (by kernel_rfl) fun K hK=>runs_eval tab_ok ?_
        simp only [evz,fl,gp,tab,simprocAttr,il_length,il_get hi,hx,wl_len,wl_get hk,ht,decide_eq_true g10a,decide_eq_true g10b]
        refine fin_run ?_ (hK _ ?_)<;>clear hK K
        ·(first|exact trivial|omega|(simp only [In64] at *; omega)|(simp [In64] at *; omega)|(simp_all; done)|skip)
        refine qa ?_
        refine hk_cond rfl (fun hC4=>?_) (fun hC4=>?_)
        ·(try simp only [nhs] at hC4)
         refine hk_region fun K hK=>runs_eval tab_ok ?_
         simp only [evz,fl,gp,tab,simprocAttr,wl_len,wl_get hk,ht]
         refine fin_run ?_ (hK _ ?_)<;>clear hK K
         ·(first|exact trivial|omega|(simp only [In64] at *; omega)|(simp [In64] at *; omega)|(simp_all; done)|skip)
         refine qd (qa ?_)
         refine hk_region fun K hK=>runs_eval tab_ok ?_
         simp only [evz,fl,gp,tab,simprocAttr]
         refine fin_run ?_ (hK _ ?_)<;>clear hK K
         ·(first|exact trivial|omega|(simp only [In64] at *; omega)|(simp [In64] at *; omega)|(simp_all; done)|skip)
         refine qa ?_
         first
         | exact ⟨(k + 1,to2),[],⟨by simp only; omega,hnx⟩,by simp only; omega,by
           rw [show to2=(ta:Int) from (by rw [if_pos (by refine ⟨by omega,by omega,?_⟩; simpa using hC4)] at hto2; exact hto2.symm)]
           simp only [leq,leA,evz,fl,gp,tab,simprocAttr]<;>trivial⟩
         | exact ⟨(k + 1,to2),[],⟨by simp only; omega,hnx⟩,by simp only; omega,by
           rw [show to2=to1 from (by rw [if_neg (by rintro ⟨h1,h2,h3⟩; first|omega|(exact absurd h3 (by simpa using hC4))),hto1] at hto2; exact hto2.symm)]
           simp only [leq,leA,evz,fl,gp,tab,simprocAttr]<;>trivial⟩
        (try simp only [nhs] at hC4)
        refine qh (qd (qa ?_))
        refine hk_region fun K hK=>runs_eval tab_ok ?_
        simp only [evz,fl,gp,tab,simprocAttr]
        refine fin_run ?_ (hK _ ?_)<;>clear hK K
        ·(first|exact trivial|omega|(simp only [In64] at *; omega)|(simp [In64] at *; omega)|(simp_all; done)|skip)
        refine qa ?_
        first
        | exact ⟨(k + 1,to2),[],⟨by simp only; omega,hnx⟩,by simp only; omega,by
          rw [show to2=(ta:Int) from (by rw [if_pos (by refine ⟨by omega,by omega,?_⟩; simpa using hC4)] at hto2; exact hto2.symm)]
          simp only [leq,leA,evz,fl,gp,tab,simprocAttr]<;>trivial⟩
        | exact ⟨(k + 1,to2),[],⟨by simp only; omega,hnx⟩,by simp only; omega,by
          rw [show to2=to1 from (by rw [if_neg (by rintro ⟨h1,h2,h3⟩; first|omega|(exact absurd h3 (by simpa using hC4))),hto1] at hto2; exact hto2.symm)]
          simp only [leq,leA,evz,fl,gp,tab,simprocAttr]<;>trivial⟩
       refine hk_draw mixed (by kernel_rfl) fun K hK=>runs_eval tab_ok ?_
       simp only [evz,fl,gp,tab,simprocAttr,il_length,il_get hi,hx,wl_len,wl_get hk,ht,decide_eq_true g10a,decide_eq_false g10b]
       refine fin_run ?_ (hK _ ?_)<;>clear hK K
       ·(first|exact trivial|omega|(simp only [In64] at *; omega)|(simp [In64] at *; omega)|(simp_all; done)|skip)
       refine qa ?_
       refine hk_cond rfl (fun hC4=>?_) (fun hC4=>?_)
       ·cases hC4
       refine qh (qd (qa ?_))
       refine hk_region fun K hK=>runs_eval tab_ok ?_
       simp only [evz,fl,gp,tab,simprocAttr]
       refine fin_run ?_ (hK _ ?_)<;>clear hK K
       ·(first|exact trivial|omega|(simp only [In64] at *; omega)|(simp [In64] at *; omega)|(simp_all; done)|skip)
       refine qa ?_
       first
       | exact ⟨(k + 1,to2),[],⟨by simp only; omega,hnx⟩,by simp only; omega,by
         rw [show to2=(ta:Int) from (by rw [if_pos (by refine ⟨by omega,by omega,?_⟩; simpa using hC4)] at hto2; exact hto2.symm)]
         simp only [leq,leA,evz,fl,gp,tab,simprocAttr]<;>trivial⟩
       | exact ⟨(k + 1,to2),[],⟨by simp only; omega,hnx⟩,by simp only; omega,by
         rw [show to2=to1 from (by rw [if_neg (by rintro ⟨h1,h2,h3⟩; first|omega|(exact absurd h3 (by simpa using hC4))),hto1] at hto2; exact hto2.symm)]
         simp only [leq,leA,evz,fl,gp,tab,simprocAttr]<;>trivial⟩
      refine hk_draw mixed (by kernel_rfl) fun K hK=>runs_eval tab_ok ?_
      simp only [evz,fl,gp,tab,simprocAttr,il_length,il_get hi,hx,wl_len,wl_get hk,ht,decide_eq_false g10a]
      refine fin_run ?_ (hK _ ?_)<;>clear hK K
      ·(first|exact trivial|omega|(simp only [In64] at *; omega)|(simp [In64] at *; omega)|(simp_all; done)|skip)
      refine qa ?_
      refine hk_cond rfl (fun hC4=>?_) (fun hC4=>?_)
      ·cases hC4
      refine qh (qd (qa ?_))
      refine hk_region fun K hK=>runs_eval tab_ok ?_
      simp only [evz,fl,gp,tab,simprocAttr]
      refine fin_run ?_ (hK _ ?_)<;>clear hK K
      ·(first|exact trivial|omega|(simp only [In64] at *; omega)|(simp [In64] at *; omega)|(simp_all; done)|skip)
      refine qa ?_
      first
      | exact ⟨(k + 1,to2),[],⟨by simp only; omega,hnx⟩,by simp only; omega,by
        rw [show to2=(ta:Int) from (by rw [if_pos (by refine ⟨by omega,by omega,?_⟩; simpa using hC4)] at hto2; exact hto2.symm)]
        simp only [leq,leA,evz,fl,gp,tab,simprocAttr]<;>trivial⟩
      | exact ⟨(k + 1,to2),[],⟨by simp only; omega,hnx⟩,by simp only; omega,by
        rw [show to2=to1 from (by rw [if_neg (by rintro ⟨h1,h2,h3⟩; first|omega|(exact absurd h3 (by simpa using hC4))),hto1] at hto2; exact hto2.symm)]
        simp only [leq,leA,evz,fl,gp,tab,simprocAttr]<;>trivial⟩
     refine hk_draw mixed (by kernel_rfl) fun K hK=>runs_eval tab_ok ?_
     simp only [evz,fl,gp,tab,simprocAttr,il_length,il_get hi,hx,wl_len,wl_get hk,ht,decide_eq_true g8a,decide_eq_false g8b]
     refine fin_run ?_ (hK _ ?_)<;>clear hK K
     ·(first|exact trivial|omega|(simp only [In64] at *; omega)|(simp [In64] at *; omega)|(simp_all; done)|skip)
     refine qa ?_
     refine hk_cut (⟨91,[(0,.p (.list (wl e))),(1,.p (.int .i64 at_)),(2,.p (.list (il w))),(7,.p (.int .i64 (i:Nat))),(8,.p (.int .i64 to1)),(9,.p (.int .i64 (k:Nat)))],[]⟩) ?_ ?_
     ·refine hk_cond rfl (fun hC3=>?_) (fun hC3=>?_)
      ·cases hC3
      refine qh ?_
      have e1:to=to1:=by
       rw [if_neg (by rintro ⟨h1,h2,h3⟩; first|omega|(exact absurd h3 (by simpa using hC3)))] at hto1
       exact hto1
      rw [e1]
      refine ⟨rfl,[],?_⟩
      simp only [leq,leA,evz,fl,gp,tab,simprocAttr]<;>trivial
     refine qm ?_
     by_cases g10a:x < 0
     ·by_cases g10b:(tb:Int)=at_
      ·refine hk_draw mixed (by kernel_rfl) fun K hK=>runs_eval tab_ok ?_
       simp only [evz,fl,gp,tab,simprocAttr,il_length,il_get hi,hx,wl_len,wl_get hk,ht,decide_eq_true g10a,decide_eq_true g10b]
       refine fin_run ?_ (hK _ ?_)<;>clear hK K
       ·(first|exact trivial|omega|(simp only [In64] at *; omega)|(simp [In64] at *; omega)|(simp_all; done)|skip)
       refine qa ?_
       refine hk_cond rfl (fun hC4=>?_) (fun hC4=>?_)
       ·(try simp only [nhs] at hC4)
        refine hk_region fun K hK=>runs_eval tab_ok ?_
        simp only [evz,fl,gp,tab,simprocAttr,wl_len,wl_get hk,ht]
        refine fin_run ?_ (hK _ ?_)<;>clear hK K
        ·(first|exact trivial|omega|(simp only [In64] at *; omega)|(simp [In64] at *; omega)|(simp_all; done)|skip)
        refine qd (qa ?_)
        refine hk_region fun K hK=>runs_eval tab_ok ?_
        simp only [evz,fl,gp,tab,simprocAttr]
        refine fin_run ?_ (hK _ ?_)<;>clear hK K
        ·(first|exact trivial|omega|(simp only [In64] at *; omega)|(simp [In64] at *; omega)|(simp_all; done)|skip)
        refine qa ?_
        first
        | exact ⟨(k + 1,to2),[],⟨by simp only; omega,hnx⟩,by simp only; omega,by
          rw [show to2=(ta:Int) from (by rw [if_pos (by refine ⟨by omega,by omega,?_⟩; simpa using hC4)] at hto2; exact hto2.symm)]
          simp only [leq,leA,evz,fl,gp,tab,simprocAttr]<;>trivial⟩
        | exact ⟨(k + 1,to2),[],⟨by simp only; omega,hnx⟩,by simp only; omega,by
          rw [show to2=to1 from (by rw [if_neg (by rintro ⟨h1,h2,h3⟩; first|omega|(exact absurd h3 (by simpa using hC4))),hto1] at hto2; exact hto2.symm)]
          simp only [leq,leA,evz,fl,gp,tab,simprocAttr]<;>trivial⟩
       (try simp only [nhs] at hC4)
       refine qh (qd (qa ?_))
       refine hk_region fun K hK=>runs_eval tab_ok ?_
       simp only [evz,fl,gp,tab,simprocAttr]
       refine fin_run ?_ (hK _ ?_)<;>clear hK K
       ·(first|exact trivial|omega|(simp only [In64] at *; omega)|(simp [In64] at *; omega)|(simp_all; done)|skip)
       refine qa ?_
       first
       | exact ⟨(k + 1,to2),[],⟨by simp only; omega,hnx⟩,by simp only; omega,by
         rw [show to2=(ta:Int) from (by rw [if_pos (by refine ⟨by omega,by omega,?_⟩; simpa using hC4)] at hto2; exact hto2.symm)]
         simp only [leq,leA,evz,fl,gp,tab,simprocAttr]<;>trivial⟩
       | exact ⟨(k + 1,to2),[],⟨by simp only; omega,hnx⟩,by simp only; omega,by
         rw [show to2=to1 from (by rw [if_neg (by rintro ⟨h1,h2,h3⟩; first|omega|(exact absurd h3 (by simpa using hC4))),hto1] at hto2; exact hto2.symm)]
         simp only [leq,leA,evz,fl,gp,tab,simprocAttr]<;>trivial⟩
      refine hk_draw mixed (by kernel_rfl) fun K hK=>runs_eval tab_ok ?_
      simp only [evz,fl,gp,tab,simprocAttr,il_length,il_get hi,hx,wl_len,wl_get hk,ht,decide_eq_true g10a,decide_eq_false g10b]
      refine fin_run ?_ (hK _ ?_)<;>clear hK K
      ·(first|exact trivial|omega|(simp only [In64] at *; omega)|(simp [In64] at *; omega)|(simp_all; done)|skip)
      refine qa ?_
      refine hk_cond rfl (fun hC4=>?_) (fun hC4=>?_)
      ·cases hC4
      refine qh (qd (qa ?_))
      refine hk_region fun K hK=>runs_eval tab_ok ?_
      simp only [evz,fl,gp,tab,simprocAttr]
      refine fin_run ?_ (hK _ ?_)<;>clear hK K
      ·(first|exact trivial|omega|(simp only [In64] at *; omega)|(simp [In64] at *; omega)|(simp_all; done)|skip)
      refine qa ?_
      first
      | exact ⟨(k + 1,to2),[],⟨by simp only; omega,hnx⟩,by simp only; omega,by
        rw [show to2=(ta:Int) from (by rw [if_pos (by refine ⟨by omega,by omega,?_⟩; simpa using hC4)] at hto2; exact hto2.symm)]
        simp only [leq,leA,evz,fl,gp,tab,simprocAttr]<;>trivial⟩
      | exact ⟨(k + 1,to2),[],⟨by simp only; omega,hnx⟩,by simp only; omega,by
        rw [show to2=to1 from (by rw [if_neg (by rintro ⟨h1,h2,h3⟩; first|omega|(exact absurd h3 (by simpa using hC4))),hto1] at hto2; exact hto2.symm)]
        simp only [leq,leA,evz,fl,gp,tab,simprocAttr]<;>trivial⟩
     refine hk_draw mixed (by kernel_rfl) fun K hK=>runs_eval tab_ok ?_
     simp only [evz,fl,gp,tab,simprocAttr,il_length,il_get hi,hx,wl_len,wl_get hk,ht,decide_eq_false g10a]
     refine fin_run ?_ (hK _ ?_)<;>clear hK K
     ·(first|exact trivial|omega|(simp only [In64] at *; omega)|(simp [In64] at *; omega)|(simp_all; done)|skip)
     refine qa ?_
     refine hk_cond rfl (fun hC4=>?_) (fun hC4=>?_)
     ·cases hC4
     refine qh (qd (qa ?_))
     refine hk_region fun K hK=>runs_eval tab_ok ?_
     simp only [evz,fl,gp,tab,simprocAttr]
     refine fin_run ?_ (hK _ ?_)<;>clear hK K
     ·(first|exact trivial|omega|(simp only [In64] at *; omega)|(simp [In64] at *; omega)|(simp_all; done)|skip)
     refine qa ?_
     first
     | exact ⟨(k + 1,to2),[],⟨by simp only; omega,hnx⟩,by simp only; omega,by
       rw [show to2=(ta:Int) from (by rw [if_pos (by refine ⟨by omega,by omega,?_⟩; simpa using hC4)] at hto2; exact hto2.symm)]
       simp only [leq,leA,evz,fl,gp,tab,simprocAttr]<;>trivial⟩
     | exact ⟨(k + 1,to2),[],⟨by simp only; omega,hnx⟩,by simp only; omega,by
       rw [show to2=to1 from (by rw [if_neg (by rintro ⟨h1,h2,h3⟩; first|omega|(exact absurd h3 (by simpa using hC4))),hto1] at hto2; exact hto2.symm)]
       simp only [leq,leA,evz,fl,gp,tab,simprocAttr]<;>trivial⟩
    refine hk_draw mixed (by kernel_rfl) fun K hK=>runs_eval tab_ok ?_
    simp only [evz,fl,gp,tab,simprocAttr,il_length,il_get hi,hx,wl_len,wl_get hk,ht,decide_eq_false g8a]
    refine fin_run ?_ (hK _ ?_)<;>clear hK K
    ·(first|exact trivial|omega|(simp only [In64] at *; omega)|(simp [In64] at *; omega)|(simp_all; done)|skip)
    refine qa ?_
    refine hk_cut (⟨91,[(0,.p (.list (wl e))),(1,.p (.int .i64 at_)),(2,.p (.list (il w))),(7,.p (.int .i64 (i:Nat))),(8,.p (.int .i64 to1)),(9,.p (.int .i64 (k:Nat)))],[]⟩) ?_ ?_
    ·refine hk_cond rfl (fun hC3=>?_) (fun hC3=>?_)
     ·cases hC3
     refine qh ?_
     have e1:to=to1:=by
      rw [if_neg (by rintro ⟨h1,h2,h3⟩; first|omega|(exact absurd h3 (by simpa using hC3)))] at hto1
      exact hto1
     rw [e1]
     refine ⟨rfl,[],?_⟩
     simp only [leq,leA,evz,fl,gp,tab,simprocAttr]<;>trivial
    refine qm ?_
    by_cases g10a:x < 0
    ·by_cases g10b:(tb:Int)=at_
     ·refine hk_draw mixed (by kernel_rfl) fun K hK=>runs_eval tab_ok ?_
      simp only [evz,fl,gp,tab,simprocAttr,il_length,il_get hi,hx,wl_len,wl_get hk,ht,decide_eq_true g10a,decide_eq_true g10b]
      refine fin_run ?_ (hK _ ?_)<;>clear hK K
      ·(first|exact trivial|omega|(simp only [In64] at *; omega)|(simp [In64] at *; omega)|(simp_all; done)|skip)
      refine qa ?_
      refine hk_cond rfl (fun hC4=>?_) (fun hC4=>?_)
      ·(try simp only [nhs] at hC4)
       refine hk_region fun K hK=>runs_eval tab_ok ?_
       simp only [evz,fl,gp,tab,simprocAttr,wl_len,wl_get hk,ht]
       refine fin_run ?_ (hK _ ?_)<;>clear hK K
       ·(first|exact trivial|omega|(simp only [In64] at *; omega)|(simp [In64] at *; omega)|(simp_all; done)|skip)
       refine qd (qa ?_)
       refine hk_region fun K hK=>runs_eval tab_ok ?_
       simp only [evz,fl,gp,tab,simprocAttr]
       refine fin_run ?_ (hK _ ?_)<;>clear hK K
       ·(first|exact trivial|omega|(simp only [In64] at *; omega)|(simp [In64] at *; omega)|(simp_all; done)|skip)
       refine qa ?_
       first
       | exact ⟨(k + 1,to2),[],⟨by simp only; omega,hnx⟩,by simp only; omega,by
         rw [show to2=(ta:Int) from (by rw [if_pos (by refine ⟨by omega,by omega,?_⟩; simpa using hC4)] at hto2; exact hto2.symm)]
         simp only [leq,leA,evz,fl,gp,tab,simprocAttr]<;>trivial⟩
       | exact ⟨(k + 1,to2),[],⟨by simp only; omega,hnx⟩,by simp only; omega,by
         rw [show to2=to1 from (by rw [if_neg (by rintro ⟨h1,h2,h3⟩; first|omega|(exact absurd h3 (by simpa using hC4))),hto1] at hto2; exact hto2.symm)]
         simp only [leq,leA,evz,fl,gp,tab,simprocAttr]<;>trivial⟩
      (try simp only [nhs] at hC4)
      refine qh (qd (qa ?_))
      refine hk_region fun K hK=>runs_eval tab_ok ?_
      simp only [evz,fl,gp,tab,simprocAttr]
      refine fin_run ?_ (hK _ ?_)<;>clear hK K
      ·(first|exact trivial|omega|(simp only [In64] at *; omega)|(simp [In64] at *; omega)|(simp_all; done)|skip)
      refine qa ?_
      first
      | exact ⟨(k + 1,to2),[],⟨by simp only; omega,hnx⟩,by simp only; omega,by
        rw [show to2=(ta:Int) from (by rw [if_pos (by refine ⟨by omega,by omega,?_⟩; simpa using hC4)] at hto2; exact hto2.symm)]
        simp only [leq,leA,evz,fl,gp,tab,simprocAttr]<;>trivial⟩
      | exact ⟨(k + 1,to2),[],⟨by simp only; omega,hnx⟩,by simp only; omega,by
        rw [show to2=to1 from (by rw [if_neg (by rintro ⟨h1,h2,h3⟩; first|omega|(exact absurd h3 (by simpa using hC4))),hto1] at hto2; exact hto2.symm)]
        simp only [leq,leA,evz,fl,gp,tab,simprocAttr]<;>trivial⟩
     refine hk_draw mixed (by kernel_rfl) fun K hK=>runs_eval tab_ok ?_
     simp only [evz,fl,gp,tab,simprocAttr,il_length,il_get hi,hx,wl_len,wl_get hk,ht,decide_eq_true g10a,decide_eq_false g10b]
     refine fin_run ?_ (hK _ ?_)<;>clear hK K
     ·(first|exact trivial|omega|(simp only [In64] at *; omega)|(simp [In64] at *; omega)|(simp_all; done)|skip)
     refine qa ?_
     refine hk_cond rfl (fun hC4=>?_) (fun hC4=>?_)
     ·cases hC4
     refine qh (qd (qa ?_))
     refine hk_region fun K hK=>runs_eval tab_ok ?_
     simp only [evz,fl,gp,tab,simprocAttr]
     refine fin_run ?_ (hK _ ?_)<;>clear hK K
     ·(first|exact trivial|omega|(simp only [In64] at *; omega)|(simp [In64] at *; omega)|(simp_all; done)|skip)
     refine qa ?_
     first
     | exact ⟨(k + 1,to2),[],⟨by simp only; omega,hnx⟩,by simp only; omega,by
       rw [show to2=(ta:Int) from (by rw [if_pos (by refine ⟨by omega,by omega,?_⟩; simpa using hC4)] at hto2; exact hto2.symm)]
       simp only [leq,leA,evz,fl,gp,tab,simprocAttr]<;>trivial⟩
     | exact ⟨(k + 1,to2),[],⟨by simp only; omega,hnx⟩,by simp only; omega,by
       rw [show to2=to1 from (by rw [if_neg (by rintro ⟨h1,h2,h3⟩; first|omega|(exact absurd h3 (by simpa using hC4))),hto1] at hto2; exact hto2.symm)]
       simp only [leq,leA,evz,fl,gp,tab,simprocAttr]<;>trivial⟩
    refine hk_draw mixed (by kernel_rfl) fun K hK=>runs_eval tab_ok ?_
    simp only [evz,fl,gp,tab,simprocAttr,il_length,il_get hi,hx,wl_len,wl_get hk,ht,decide_eq_false g10a]
    refine fin_run ?_ (hK _ ?_)<;>clear hK K
    ·(first|exact trivial|omega|(simp only [In64] at *; omega)|(simp [In64] at *; omega)|(simp_all; done)|skip)
    refine qa ?_
    refine hk_cond rfl (fun hC4=>?_) (fun hC4=>?_)
    ·cases hC4
    refine qh (qd (qa ?_))
    refine hk_region fun K hK=>runs_eval tab_ok ?_
    simp only [evz,fl,gp,tab,simprocAttr]
    refine fin_run ?_ (hK _ ?_)<;>clear hK K
    ·(first|exact trivial|omega|(simp only [In64] at *; omega)|(simp [In64] at *; omega)|(simp_all; done)|skip)
    refine qa ?_
    first
    | exact ⟨(k + 1,to2),[],⟨by simp only; omega,hnx⟩,by simp only; omega,by
      rw [show to2=(ta:Int) from (by rw [if_pos (by refine ⟨by omega,by omega,?_⟩; simpa using hC4)] at hto2; exact hto2.symm)]
      simp only [leq,leA,evz,fl,gp,tab,simprocAttr]<;>trivial⟩
    | exact ⟨(k + 1,to2),[],⟨by simp only; omega,hnx⟩,by simp only; omega,by
      rw [show to2=to1 from (by rw [if_neg (by rintro ⟨h1,h2,h3⟩; first|omega|(exact absurd h3 (by simpa using hC4))),hto1] at hto2; exact hto2.symm)]
      simp only [leq,leA,evz,fl,gp,tab,simprocAttr]<;>trivial⟩
   (try simp only [nhs] at hC2)
   refine qj (qc (qc (qf (qa ?_))))
   refine hk_region fun K hK=>runs_eval tab_ok ?_
   simp only [evz,fl,gp,tab,simprocAttr]
   refine fin_run trivial (hK _ ?_)<;>clear hK K
   refine qd (qa ?_)
   refine hk_region fun K hK=>runs_eval tab_ok ?_
   simp only [evz,fl,gp,tab,simprocAttr]
   refine fin_run ?_ (hK _ ?_)<;>clear hK K
   ·(first|exact trivial|omega|(simp only [In64] at *; omega)|(simp [In64] at *; omega)|(simp_all; done)|skip)
   refine qa ?_
   have hke:k=e.length:=by omega
   rw [hke,List.take_length] at k2
   refine ⟨(i + 1,to),[],⟨by simp only; omega,?_⟩,by simp only; omega,by simp only [leq,leA,evz,fl,gp,tab,simprocAttr]<;>trivial⟩
   simp only
   rw [k2]
   exact q2
  (try simp only [nhs] at hC1)
  refine qj (qc (qc (qf (qa (qm ?_)))))
  refine hk_region fun K hK=>runs_eval tab_ok ?_
  simp only [evz,fl,gp,tab,simprocAttr]
  refine fin_run trivial (hK _ ?_)<;>clear hK K
  refine qa (qk ?_)
  simp only [Try.results60,enA,evz,fl,gp,tab,simprocAttr]
  rw [List.drop_eq_getElem_cons (by omega),walkS,if_neg (by omega)] at q2
  rw [← q2]
 refine hk_region fun K hK=>runs_eval tab_ok ?_
 simp only [evz,fl,gp,tab,simprocAttr,il_length,decide_eq_false g2a]
 refine fin_run trivial (hK _ ?_)<;>clear hK K
 refine qa ?_
 refine hk_cond rfl (fun hC1=>?_) (fun hC1=>?_)
 ·cases hC1
 refine qj (qc (qc (qf (qa (qm ?_)))))
 refine hk_region fun K hK=>runs_eval tab_ok ?_
 simp only [evz,fl,gp,tab,simprocAttr]
 refine fin_run trivial (hK _ ?_)<;>clear hK K
 refine qa (qk ?_)
 simp only [Try.results60,enA,evz,fl,gp,tab,simprocAttr]
 rw [List.drop_of_length_le (by omega)] at q2
 rw [← q2]; rfl
theorem within_c (e:List E3) (w:List Int) (hl:e.length≤100000) (hw:w.length≤1000000000) (hs:Sm w):FnC Try.prog 33 [.list (wl e),.list (il w)] (.bool (decide (walkS e 0 (short w)=0))):=by
 refine fnc_of tab_ok Try.func33 rfl (by kernel_rfl) (by rw [Try.ntmps33]; exact Nat.le_add_left 2 _) ?_; rw [Try.ntmps33]
 refine qm ?_
 refine hk_region fun K hK=>runs_eval tab_ok ?_
 simp only [evz,fl,gp,tab,simprocAttr]
 refine fin_run trivial (hK _ ?_)<;>clear hK K
 refine qa (qm ?_)
 refine hk_region fun K hK=>runs_eval tab_ok ?_
 simp only [evz,fl,gp,tab,simprocAttr]
 refine fin_stop trivial (runs_call (reduced_c w hw hs) rfl rfl rfl (by simp only [dstOk,Nat.reduceLT]) (by repeat (first|exact trivial|constructor)) (runs_eval tab_ok ?_))
 simp only [evz,fl,gp,tab,simprocAttr]
 refine fin_stop trivial (runs_call (walk_c e 0 (short w) hl (Nat.le_trans (short_len w) hw) (short_sm hs)) rfl rfl rfl (by simp only [dstOk,Nat.reduceLT]) (by repeat (first|exact trivial|constructor)) (runs_eval tab_ok ?_))
 simp only [evz,fl,gp,tab,simprocAttr]
 refine fin_run trivial (hK _ ?_)<;>clear hK K
 refine qa (qk ?_)
 simp only [Try.results33,enA,evz,fl,gp,tab,simprocAttr]
 all_goals ((first|exact rfl|exact ⟨rfl,rfl⟩|exact ⟨rfl,rfl,rfl⟩|exact ⟨trivial,rfl⟩|exact ⟨Nat.le_refl _,rfl⟩|trivial|(simp; done)))
end Go.Proofs.Ytneglephfhiamaa

namespace Go.Proofs.Ytneglephfhiamaa
open Go.Pv
theorem tot_cons (w:List Int) (L:List (List Int)):tot (w :: L)=w.length + tot L:=by simp [tot]
theorem app_fw {f:List E3} (y:E3):(fw f).take (f.length * 3)++opl (flat [PV.agg [.int .i64 y.1,.int .i64 y.2.1,.int .i64 y.2.2]])=fw (f++[y]):=by
 have:=fw_dropt (W:=f) rfl
 rw [List.drop_zero] at this
 rw [this,fw_app]
 obtain ⟨a,x,b⟩:=y
 rw [fw_one]; rfl
set_option maxHeartbeats 4000000 in
set_option maxRecDepth 20000 in
theorem folded_c (L:List (List Int)) (hL:∀ w∈L,Ok w∧w.length≤1000000000) (hn:L.length≤1000000) (hb:tot (L.map short)≤90000):FnC Try.prog 19 [.list (ll L)] (.list (wl (folded L))):=by
 obtain ⟨S,hS⟩:∃ S,L.map short=S:=⟨_,rfl⟩
 have hSl:S.length=L.length:=by rw [← hS]; simp
 have hbq:=bqL_spec (S:=S) S [] [] 1 (bqI_zero _) fun w hw=>⟨hw,by
  rw [← hS] at hw
  obtain ⟨v,hv,rfl⟩:=List.mem_map.1 hw
  exact ((hL v hv).1).short⟩
 rw [List.nil_append] at hbq
 have hbl:=bqL_len S 1 []
 simp only [List.length_nil,Nat.zero_add] at hbl
 rw [hS] at hb
 refine fnc_of tab_ok Try.func19 rfl (by kernel_rfl) (by rw [Try.ntmps19]; exact Nat.le_add_left 1 _) ?_; rw [Try.ntmps19]
 refine qm ?_
 refine hk_region fun K hK=>runs_eval tab_ok ?_
 simp only [evz,fl,gp,tab,simprocAttr]
 refine fin_run trivial (hK _ ?_)<;>clear hK K
 refine qa (qm ?_)
 refine hk_region fun K hK=>runs_eval tab_ok ?_
 simp only [evz,fl,gp,tab,simprocAttr]
 refine fin_run trivial (hK _ ?_)<;>clear hK K
 refine qa (qm ?_)
 refine hk_own0s 3 3 rfl ?_
 refine hk_region fun K hK=>runs_eval tab_ok ?_
 simp only [evz,fl,gp,tab,simprocAttr]
 refine fin_run trivial (hK _ ?_)<;>clear hK K
 refine qa (qm (qm ?_))
 refine hk_region fun K hK=>runs_eval tab_ok ?_
 simp only [evz,fl,gp,tab,simprocAttr]
 refine fin_run trivial (hK _ ?_)<;>clear hK K
 refine qa (ql ?_)
 refine hk_loop (ι:=Nat × Nat × List E3) (fun q=>⟨83,[(0,.p (.list (ll L))),(3,.sls 0 0 q.2.2.length 3),(4,.p (.int .i64 (q.2.1:Nat))),(5,.p (.int .i64 (q.1:Nat)))],[.own (fw q.2.2)]⟩) (fun q=>q.1≤L.length∧bqL (S.drop q.1) q.2.1 q.2.2=bqL S 1 []∧q.2.1≤100000∧q.2.2.length + tot (S.drop q.1)=tot S∧q.2.1 + tot (S.drop q.1)≤1 + tot S) (fun q=>L.length - q.1) (0,1,[]) ⟨Nat.zero_le _,rfl,by decide,by simp,by simp⟩ [0] (by simp only [leq,leA,evz,fl,gp,tab,simprocAttr]<;>trivial) fun q hq=>?_
 obtain ⟨i,n,e⟩:=q
 obtain ⟨q1,q2,q3,q4,q5⟩:=hq
 simp only at q1 q2 q3 q4 q5 ⊢
 refine qm (qm ?_)
 refine hk_region fun K hK=>runs_eval tab_ok ?_
 simp only [evz,fl,gp,tab,simprocAttr,ll_length]
 refine fin_run trivial (hK _ ?_)<;>clear hK K
 refine qa ?_
 refine hk_cond rfl (fun hC1=>?_) (fun hC1=>?_)
 ·(try simp only [nhs] at hC1)
  have hi:i < L.length:=by omega
  obtain ⟨w0,hw0⟩:∃ w,L.getD i []=w:=⟨_,rfl⟩
  have hwm:w0∈L:=by rw [← hw0,List.getD_eq_getElem?_getD,List.getElem?_eq_getElem hi]; exact List.getElem_mem hi
  obtain ⟨hw1,hw2⟩:=hL w0 hwm
  obtain ⟨w,hws⟩:∃ w,short w0=w:=⟨_,rfl⟩
  have hwo:Ok w:=hws ▸ hw1.short
  have hwl:w.length≤1000000000:=hws ▸ Nat.le_trans (short_len w0) hw2
  have hSd:S.drop i=w :: S.drop (i + 1):=by
   rw [List.drop_eq_getElem_cons (by omega)]
   congr 1
   subst hS
   rw [List.getElem_map,← hws,← hw0,List.getD_eq_getElem?_getD,List.getElem?_eq_getElem hi]; rfl
  rw [hSd,tot_cons] at q4 q5
  rw [hSd] at q2
  rw [bqL] at q2
  refine qh (qa (qm (ql (qm ?_))))
  refine hk_region fun K hK=>runs_eval tab_ok ?_
  simp only [evz,fl,gp,tab,simprocAttr,ll_length,ll_get hi,hw0,hws]
  refine fin_stop ?_ (runs_call (reduced_c w0 hw2 hw1.sm) rfl rfl rfl (by simp only [dstOk,Nat.reduceLT]) (by repeat (first|exact trivial|constructor)) (runs_eval tab_ok ?_))
  ·omega
  simp only [evz,fl,gp,tab,simprocAttr,ll_length,ll_get hi,hw0,hws]
  refine fin_run ?_ (hK _ ?_)<;>clear hK K
  ·(first|exact trivial|omega|(simp only [In64] at *; omega)|(simp [In64] at *; omega)|(simp_all; done)|skip)
  refine qa (qm ?_)
  refine hk_region fun K hK=>runs_eval tab_ok ?_
  simp only [evz,fl,gp,tab,simprocAttr]
  refine fin_run trivial (hK _ ?_)<;>clear hK K
  refine qa (qm ?_)
  refine hk_region fun K hK=>runs_eval tab_ok ?_
  simp only [evz,fl,gp,tab,simprocAttr]
  refine fin_run trivial (hK _ ?_)<;>clear hK K
  refine qa (ql ?_)
  refine hk_loop (ι:=Nat × Nat × Nat × List E3) (fun q=>⟨83,[(0,.p (.list (ll L))),(3,.sls 0 0 q.2.2.2.length 3),(4,.p (.int .i64 (q.2.1:Nat))),(5,.p (.int .i64 (i:Nat))),(6,.p (.list (il w))),(7,.p (.int .i64 (q.2.2.1:Nat))),(8,.p (.int .i64 (q.1:Nat)))],[.own (fw q.2.2.2)]⟩) (fun q=>q.1≤w.length∧bqW (w.drop q.1) q.2.2.1 q.2.1 q.2.2.2=bqW w 0 n e∧q.2.1≤n + q.1∧q.2.2.2.length=e.length + q.1) (fun q=>w.length - q.1) (0,n,0,e) ⟨Nat.zero_le _,rfl,Nat.le_refl _,rfl⟩ [0] (by simp only [leq,leA,evz,fl,gp,tab,simprocAttr,fw_ren,fw_sc]<;>trivial) fun q hq=>?_
  obtain ⟨k,n2,at_,e2⟩:=q
  obtain ⟨k1,k2,k3,k4⟩:=hq
  simp only at k1 k2 k3 k4 ⊢
  refine qm (qm ?_)
  refine hk_region fun K hK=>runs_eval tab_ok ?_
  simp only [evz,fl,gp,tab,simprocAttr,il_length]
  refine fin_run trivial (hK _ ?_)<;>clear hK K
  refine qa ?_
  refine hk_cond rfl (fun hC2=>?_) (fun hC2=>?_)
  ·(try simp only [nhs] at hC2)
   have hk:k < w.length:=by omega
   obtain ⟨x,hx⟩:∃ x,w.getD k 0=x:=⟨_,rfl⟩
   obtain ⟨x0,x1,x2⟩:=hwo x (by rw [← hx,List.getD_eq_getElem?_getD,List.getElem?_eq_getElem hk]; exact List.getElem_mem hk)
   have hdr:w.drop k=x :: w.drop (k + 1):=by
    rw [List.drop_eq_getElem_cons hk,← hx,List.getD_eq_getElem?_getD,List.getElem?_eq_getElem hk]; rfl
   have hel:e2.length≤90000:=by omega
   rw [hdr] at k2
   obtain ⟨n3,to,hnt,hb2,hn3⟩:∃ n3 to:Nat,((k=w.length - 1∧n3=n2∧to=0)∨(k ≠ w.length - 1∧n3=n2 + 1∧to=n2))∧bqW (w.drop (k + 1)) to n3 (e2++[edE at_ x to])=bqW w 0 n e∧n3≤n + (k + 1):=by
    by_cases hke:k=w.length - 1
    ·refine ⟨n2,0,.inl ⟨hke,rfl,rfl⟩,?_,by omega⟩
     rw [← k2,List.drop_of_length_le (show w.length≤k + 1 by omega)]; rfl
    refine ⟨n2 + 1,n2,.inr ⟨hke,rfl,rfl⟩,?_,by omega⟩
    rw [← k2,List.drop_eq_getElem_cons (show k + 1 < w.length by omega)]; rfl
   refine qh (qa (qm (ql (qm ?_))))
   refine hk_region fun K hK=>runs_eval tab_ok ?_
   simp only [evz,fl,gp,tab,simprocAttr]
   refine fin_run trivial (hK _ ?_)<;>clear hK K
   refine qa (qm (qm ?_))
   refine hk_region fun K hK=>runs_eval tab_ok ?_
   simp only [evz,fl,gp,tab,simprocAttr,il_length]
   refine fin_run ?_ (hK _ ?_)<;>clear hK K
   ·(first|exact trivial|omega|(simp only [In64] at *; omega)|(simp [In64] at *; omega)|(simp_all; done)|skip)
   refine qa ?_
   refine hk_cut (⟨83,[(0,.p (.list (ll L))),(3,.sls 0 0 e2.length 3),(4,.p (.int .i64 (n3:Nat))),(5,.p (.int .i64 (i:Nat))),(6,.p (.list (il w))),(7,.p (.int .i64 (at_:Nat))),(8,.p (.int .i64 (k:Nat))),(9,.p (.int .i64 (to:Nat)))],[.own (fw e2)]⟩) ?_ ?_
   ·refine hk_cond rfl (fun hC3=>?_) (fun hC3=>?_)
    ·(try simp only [nhs] at hC3)
     refine hk_region fun K hK=>runs_eval tab_ok ?_
     simp only [evz,fl,gp,tab,simprocAttr]
     refine fin_run trivial (hK _ ?_)<;>clear hK K
     have hke:k=w.length - 1:=by
      have:(k:Int)=(w.length:Int) - 1:=by simpa using hC3
      omega
     obtain ⟨_,rfl,rfl⟩:=hnt.resolve_right fun h=>h.1 hke
     refine ⟨rfl,[0],?_⟩
     simp only [leq,leA,evz,fl,gp,tab,simprocAttr,fw_ren,fw_sc]<;>trivial
    (try simp only [nhs] at hC3)
    refine hk_region fun K hK=>runs_eval tab_ok ?_
    simp only [evz,fl,gp,tab,simprocAttr]
    refine fin_run ?_ (hK _ ?_)<;>clear hK K
    ·(first|exact trivial|omega|(simp only [In64] at *; omega)|(simp [In64] at *; omega)|(simp_all; done)|skip)
    have hke:¬ k=w.length - 1:=by
     have:¬ (k:Int)=(w.length:Int) - 1:=by simpa using hC3
     omega
    obtain ⟨_,rfl,rfl⟩:=hnt.resolve_left fun h=>hke h.1
    refine ⟨rfl,[0],?_⟩
    simp only [leq,leA,evz,fl,gp,tab,simprocAttr,fw_ren,fw_sc]<;>trivial
   refine qm (qm ?_)
   refine hk_region fun K hK=>runs_eval tab_ok ?_
   simp only [evz,fl,gp,tab,simprocAttr,il_length,il_get hk,hx]
   refine fin_run ?_ (hK _ ?_)<;>clear hK K
   ·omega
   refine qa ?_
   refine hk_cond rfl (fun hC4=>?_) (fun hC4=>?_)
   ·(try simp only [nhs] at hC4)
    refine hk_region fun K hK=>runs_eval tab_ok ?_
    simp only [evz,fl,gp,tab,simprocAttr,il_length,il_get hk,hx,app_fw (at_,x,to)]
    refine fin_stop ?_ (runs_op (appS_does (sz:=3) (k:=0) (lo:=0) (len:=e2.length) (c:=fw e2) (l:=[PV.agg [.int .i64 at_,.int .i64 x,.int .i64 to]]) tab_ok rfl rfl rfl rfl rfl rfl (by decide) (by decide) rfl rfl rfl (by intro x hx; simp at hx; subst hx; rfl) (by intro x hx; simp at hx; subst hx; rfl) (show 0 < 1 by decide) (by rw [fw_len]; omega) (by rw [fw_dropt rfl]; exact fw_ok _) (by show (e2.length + 1) * 24≤_; omega) (by show (e2.length + 1) * 3≤_; omega) (by show e2.length + 1≤_; omega)) rfl (by simp only [dstOk,Nat.reduceLT]) (runs_eval tab_ok ?_))
    ·omega
    simp only [evz,fl,gp,tab,simprocAttr,il_length,il_get hk,hx,app_fw (at_,x,to)]
    refine fin_run ?_ (hK _ ?_)<;>clear hK K
    ·(first|exact trivial|omega|(simp only [In64] at *; omega)|(simp [In64] at *; omega)|(simp_all; done)|skip)
    refine qa ?_
    refine hk_region fun K hK=>runs_eval tab_ok ?_
    simp only [evz,fl,gp,tab,simprocAttr]
    refine fin_run trivial (hK _ ?_)<;>clear hK K
    refine qd (qa ?_)
    refine hk_region fun K hK=>runs_eval tab_ok ?_
    simp only [evz,fl,gp,tab,simprocAttr]
    refine fin_run ?_ (hK _ ?_)<;>clear hK K
    ·(first|exact trivial|omega|(simp only [In64] at *; omega)|(simp [In64] at *; omega)|(simp_all; done)|skip)
    refine qa ?_
    have hxp:0 < x:=by simpa using hC4
    have he:edE at_ x to=(at_,x,to):=if_pos hxp
    rw [he] at hb2
    exact ⟨(k + 1,n3,to,e2++[(at_,x,to)]),[1],⟨by simp only; omega,hb2,hn3,by simp only [List.length_append,List.length_singleton]; omega⟩,by simp only; omega,by simp only [leq,leA,evz,fl,gp,tab,simprocAttr,fw_ren,fw_sc,List.length_append,List.length_singleton]<;>first|trivial|trace_state⟩
   (try simp only [nhs] at hC4)
   refine hk_region fun K hK=>runs_eval tab_ok ?_
   simp only [evz,fl,gp,tab,simprocAttr,il_length,il_get hk,hx,app_fw (to,-x,at_)]
   refine fin_stop ?_ (runs_op (appS_does (sz:=3) (k:=0) (lo:=0) (len:=e2.length) (c:=fw e2) (l:=[PV.agg [.int .i64 to,.int .i64 (-x),.int .i64 at_]]) tab_ok rfl rfl rfl rfl rfl rfl (by decide) (by decide) rfl rfl rfl (by intro x hx; simp at hx; subst hx; rfl) (by intro x hx; simp at hx; subst hx; rfl) (show 0 < 1 by decide) (by rw [fw_len]; omega) (by rw [fw_dropt rfl]; exact fw_ok _) (by show (e2.length + 1) * 24≤_; omega) (by show (e2.length + 1) * 3≤_; omega) (by show e2.length + 1≤_; omega)) rfl (by simp only [dstOk,Nat.reduceLT]) (runs_eval tab_ok ?_))
   ·simp only [In64]; omega
   simp only [evz,fl,gp,tab,simprocAttr,il_length,il_get hk,hx,app_fw (to,-x,at_)]
   refine fin_run ?_ (hK _ ?_)<;>clear hK K
   ·(first|exact trivial|omega|(simp only [In64] at *; omega)|(simp [In64] at *; omega)|(simp_all; done)|skip)
   refine qa ?_
   refine hk_region fun K hK=>runs_eval tab_ok ?_
   simp only [evz,fl,gp,tab,simprocAttr]
   refine fin_run trivial (hK _ ?_)<;>clear hK K
   refine qd (qa ?_)
   refine hk_region fun K hK=>runs_eval tab_ok ?_
   simp only [evz,fl,gp,tab,simprocAttr]
   refine fin_run ?_ (hK _ ?_)<;>clear hK K
   ·(first|exact trivial|omega|(simp only [In64] at *; omega)|(simp [In64] at *; omega)|(simp_all; done)|skip)
   refine qa ?_
   have hxp:¬ 0 < x:=by simpa using hC4
   have he:edE at_ x to=(to,-x,at_):=if_neg hxp
   rw [he] at hb2
   exact ⟨(k + 1,n3,to,e2++[(to,-x,at_)]),[1],⟨by simp only; omega,hb2,hn3,by simp only [List.length_append,List.length_singleton]; omega⟩,by simp only; omega,by simp only [leq,leA,evz,fl,gp,tab,simprocAttr,fw_ren,fw_sc,List.length_append,List.length_singleton]<;>first|trivial|trace_state⟩
  (try simp only [nhs] at hC2)
  refine qj (qc (qc (qf (qd (qa ?_)))))
  refine hk_region fun K hK=>runs_eval tab_ok ?_
  simp only [evz,fl,gp,tab,simprocAttr]
  refine fin_run ?_ (hK _ ?_)<;>clear hK K
  ·(first|exact trivial|omega|(simp only [In64] at *; omega)|(simp [In64] at *; omega)|(simp_all; done)|skip)
  refine qa ?_
  have hke:k=w.length:=by omega
  rw [hke,List.drop_length] at k2
  have k2:(n2,e2)=bqW w 0 n e:=k2
  rw [← k2] at q2
  exact ⟨(i + 1,n2,e2),[0],⟨by simp only; omega,q2,by simp only; omega,by simp only; omega,by simp only; omega⟩,by simp only; omega,by simp only [leq,leA,evz,fl,gp,tab,simprocAttr,fw_ren,fw_sc]<;>trivial⟩
 (try simp only [nhs] at hC1)
 have hie:i=L.length:=by omega
 rw [hie,List.drop_of_length_le (by omega)] at q2
 have q2:(n,e)=bqL S 1 []:=q2
 refine qj (qc (qc (qf (qa (qm ?_)))))
 refine hk_seals 3 0 (sz:=3) (l:=wl e) (fun x hx=>by
  unfold wl at hx
  obtain ⟨t,_,rfl⟩:=List.mem_map.1 hx
  rfl) (by show AV.sls 0 0 e.length 3=_; rw [wl_len]) rfl ?_
 have hel:e.length≤100000:=by omega
 have hon:=once_c e 0 0 hel
 have hne:e=(bqL S 1 []).2∧n=(bqL S 1 []).1:=by rw [← q2]; exact ⟨rfl,rfl⟩
 have hfc:FC S e:=by
  refine ⟨⟨fun t ht=>(hbq.lt t (hne.1 ▸ ht)).2.2.1,fun w hw=>hne.1 ▸ hbq.cl w hw,fun X step x0 hi hc=>?_⟩,fun t ht=>(hbq.lt t (hne.1 ▸ ht)).2.2.2,fun t ht=>hne.1 ▸ hbq.con _ (hbq.lt t (hne.1 ▸ ht)).1⟩
  obtain ⟨κ,k1,k2,_⟩:=hbq.uni X step x0 hi hc
  exact ⟨κ,k1,hne.1 ▸ k2⟩
 have hlt:Lt n e:=fun t ht=>by
  have:=hbq.lt t (hne.1 ▸ ht)
  rw [hne.2]; exact ⟨this.1,this.2.1⟩
 have hfd:foldF n (onceS e 0 0)=folded L:=by
  unfold folded
  rw [hS,hne.1,hne.2]
 refine hk_region fun K hK=>runs_eval tab_ok ?_
 simp only [evz,fl,gp,tab,simprocAttr]
 refine fin_stop trivial (runs_call (hon) rfl rfl rfl (by simp only [dstOk,Nat.reduceLT]) (by repeat (first|exact trivial|constructor)) (runs_eval tab_ok ?_))
 simp only [evz,fl,gp,tab,simprocAttr]
 refine fin_run trivial (hK _ ?_)<;>clear hK K
 refine qa (ql ?_)
 refine hk_loop (ι:=Nat × List E3) (fun q=>⟨83,[(3,.p (.list (wl q.2)))],[]⟩) (fun q=>FC S q.2∧Lt n q.2∧occ n q.2≤q.1∧foldF q.1 q.2=folded L∧q.2.length≤100000) (fun q=>occ n q.2) (n,onceS e 0 0) ⟨hfc.congr fun t=>once_zero,fun t ht=>hlt t (once_zero.1 ht),occ_le _ _,hfd,Nat.le_trans (once_len _ _ _) hel⟩ [] (by simp only [leq,leA,evz,fl,gp,tab,simprocAttr]<;>trivial) fun q hq=>?_
 obtain ⟨m,g⟩:=q
 obtain ⟨g1,g2,g3,g4,g5⟩:=hq
 simp only at g1 g2 g3 g4 g5 ⊢
 have hcc:=clash_c g g5
 refine ql (qm ?_)
 rcases hcs:clashS g with _ | ⟨a,b⟩
 ·refine hk_region fun K hK=>runs_eval tab_ok ?_
  simp only [evz,fl,gp,tab,simprocAttr]
  refine fin_stop trivial (runs_call ((show FnC Try.prog 51 [.list (wl g)] (.tup [.int .i64 (-1),.int .i64 (-1)]) by rw [show clashP g=(-1,-1) by unfold clashP; rw [hcs]] at hcc; exact hcc)) rfl rfl rfl (by simp only [dstOk,Nat.reduceLT]) (by repeat (first|exact trivial|constructor)) (runs_eval tab_ok ?_))
  simp only [evz,fl,gp,tab,simprocAttr]
  refine fin_run trivial (hK _ ?_)<;>clear hK K
  refine qa (qm (qm ?_))
  refine hk_region fun K hK=>runs_eval tab_ok ?_
  simp only [evz,fl,gp,tab,simprocAttr]
  refine fin_run trivial (hK _ ?_)<;>clear hK K
  refine qa ?_
  refine hk_cond rfl (fun hC5=>?_) (fun hC5=>?_)
  ·(try simp only [nhs] at hC5)
   have hgf:foldF m g=g:=by
    cases m with
    | zero=>rfl
    | succ m=>unfold foldF; rw [hcs]
   rw [hgf] at g4
   refine qm ?_
   refine hk_region fun K hK=>runs_eval tab_ok ?_
   simp only [evz,fl,gp,tab,simprocAttr]
   refine fin_run trivial (hK _ ?_)<;>clear hK K
   refine qa (qk (qb (qe (qb (qe ?_)))))
   simp only [Try.results19,enA,evz,fl,gp,tab,simprocAttr]
   all_goals (rw [g4])
  (try simp only [nhs] at hC5)
  exact absurd hC5 (by decide)
 refine hk_region fun K hK=>runs_eval tab_ok ?_
 simp only [evz,fl,gp,tab,simprocAttr]
 refine fin_stop trivial (runs_call ((show FnC Try.prog 51 [.list (wl g)] (.tup [.int .i64 (a:Int),.int .i64 (b:Int)]) by rw [show clashP g=((a:Int),(b:Int)) by unfold clashP; rw [hcs]] at hcc; exact hcc)) rfl rfl rfl (by simp only [dstOk,Nat.reduceLT]) (by repeat (first|exact trivial|constructor)) (runs_eval tab_ok ?_))
 simp only [evz,fl,gp,tab,simprocAttr]
 refine fin_run trivial (hK _ ?_)<;>clear hK K
 refine qa (qm (qm ?_))
 refine hk_region fun K hK=>runs_eval tab_ok ?_
 simp only [evz,fl,gp,tab,simprocAttr]
 refine fin_run trivial (hK _ ?_)<;>clear hK K
 refine qa ?_
 refine hk_cond rfl (fun hC5=>?_) (fun hC5=>?_)
 ·(try simp only [nhs] at hC5)
  omega
 (try simp only [nhs] at hC5)
 obtain ⟨c1,c2⟩:=clash_some hcs
 have hcl:Clash g (min a b) (max a b)∨Clash g (max a b) (min a b):=by
  rcases Nat.le_total a b with h3 | h3
  ·rw [Nat.min_eq_left h3,Nat.max_eq_right h3]; exact .inl c1
  rw [Nat.min_eq_right h3,Nat.max_eq_left h3]; exact .inr c1
 have hab:=lt_clash g2 c1
 have hoc:=occ_once g2 hcl (by omega)
 obtain ⟨m,rfl⟩:∃ m',m=m' + 1:=⟨m - 1,by omega⟩
 rw [foldF,hcs] at g4
 simp only at g4
 have hnx:FC S (onceS g (min a b) (max a b))∧Lt n (onceS g (min a b) (max a b))∧occ n (onceS g (min a b) (max a b))≤m∧foldF m (onceS g (min a b) (max a b))=folded L∧(onceS g (min a b) (max a b)).length≤100000:=
  ⟨g1.join hcl (by omega),lt_once g2 (by omega),by omega,g4,Nat.le_trans (once_len _ _ _) g5⟩
 refine qh (qa (qm (qm ?_)))
 refine hk_region fun K hK=>runs_eval tab_ok ?_
 simp only [evz,fl,gp,tab,simprocAttr]
 refine fin_run trivial (hK _ ?_)<;>clear hK K
 refine qa ?_
 refine hk_cond rfl (fun hC6=>?_) (fun hC6=>?_)
 ·(try simp only [nhs] at hC6)
  have h6:b < a:=by
   have:(b:Int) < (a:Int):=by simpa using hC6
   omega
  rw [Nat.min_eq_right (by omega),Nat.max_eq_left (by omega)] at hnx hoc
  refine hk_region fun K hK=>runs_eval tab_ok ?_
  simp only [evz,fl,gp,tab,simprocAttr]
  refine fin_run trivial (hK _ ?_)<;>clear hK K
  refine qa ?_
  refine hk_region fun K hK=>runs_eval tab_ok ?_
  simp only [evz,fl,gp,tab,simprocAttr]
  refine fin_stop trivial (runs_call (once_c g b a g5) rfl rfl rfl (by simp only [dstOk,Nat.reduceLT]) (by repeat (first|exact trivial|constructor)) (runs_eval tab_ok ?_))
  simp only [evz,fl,gp,tab,simprocAttr]
  refine fin_run trivial (hK _ ?_)<;>clear hK K
  refine qd (qa ?_)
  exact ⟨(m,onceS g b a),[],hnx,hoc,by simp only [leq,leA,evz,fl,gp,tab,simprocAttr]<;>trivial⟩
 (try simp only [nhs] at hC6)
 have h6:¬ b < a:=by
  have:¬ (b:Int) < (a:Int):=by simpa using hC6
  omega
 rw [Nat.min_eq_left (by omega),Nat.max_eq_right (by omega)] at hnx hoc
 refine qh (qa ?_)
 refine hk_region fun K hK=>runs_eval tab_ok ?_
 simp only [evz,fl,gp,tab,simprocAttr]
 refine fin_stop trivial (runs_call (once_c g a b g5) rfl rfl rfl (by simp only [dstOk,Nat.reduceLT]) (by repeat (first|exact trivial|constructor)) (runs_eval tab_ok ?_))
 simp only [evz,fl,gp,tab,simprocAttr]
 refine fin_run trivial (hK _ ?_)<;>clear hK K
 refine qd (qa ?_)
 exact ⟨(m,onceS g a b),[],hnx,hoc,by simp only [leq,leA,evz,fl,gp,tab,simprocAttr]<;>trivial⟩
end Go.Proofs.Ytneglephfhiamaa

namespace Go.Proofs.Ytneglephfhiamaa
open Go.Pv
def ckG:List (List Int)→Nat→Nat→Int × Int
 | [],_,_=>(0,0)
 | w :: r,i,n=>if (check w).1 ≠ 0 then ((check w).1,(i:Int)) else if 2000 < n + w.length then (2,(i:Int)) else ckG r (i + 1) (n + w.length)
def ckL (L:List (List Int)):Int × Int:=if 20 < L.length then (2,0) else ckG L 0 0
theorem ffault_c (c at_:Int):FnC Try.prog 53 [.int .i64 c,.int .i64 at_] (fl (c,at_)):=by
 refine fnc_of tab_ok Try.func53 rfl (by kernel_rfl) (by rw [Try.ntmps53]; exact Nat.le_add_left 2 _) ?_; rw [Try.ntmps53]
 refine qm ?_
 refine hk_region fun K hK=>runs_eval tab_ok ?_
 simp only [evz,fl,gp,tab,simprocAttr]
 refine fin_run ?_ (hK _ ?_)<;>clear hK K
 ·(first|exact trivial|omega|(simp only [In64] at *; omega)|(simp [In64] at *; omega)|(simp_all; done)|skip)
 refine qa (qm ?_)
 refine hk_region fun K hK=>runs_eval tab_ok ?_
 simp only [evz,fl,gp,tab,simprocAttr]
 refine fin_run ?_ (hK _ ?_)<;>clear hK K
 ·(first|exact trivial|omega|(simp only [In64] at *; omega)|(simp [In64] at *; omega)|(simp_all; done)|skip)
 refine qa (qk ?_)
 simp only [Try.results53,enA,evz,fl,gp,tab,simprocAttr]
 all_goals ((first|exact rfl|exact ⟨rfl,rfl⟩|exact ⟨rfl,rfl,rfl⟩|exact ⟨trivial,rfl⟩|exact ⟨Nat.le_refl _,rfl⟩|trivial|(simp; done)))
set_option maxHeartbeats 4000000 in
theorem checkL_c (L:List (List Int)) (hl:L.length≤1000000000) (hw:∀ w∈L,w.length≤1000000000):FnC Try.prog 34 [.list (ll L)] (fl (ckL L)):=by
 refine fnc_of tab_ok Try.func34 rfl (by kernel_rfl) (by rw [Try.ntmps34]; exact Nat.le_add_left 1 _) ?_; rw [Try.ntmps34]
 refine qm ?_
 refine hk_region fun K hK=>runs_eval tab_ok ?_
 simp only [evz,fl,gp,tab,simprocAttr]
 refine fin_run ?_ (hK _ ?_)<;>clear hK K
 ·(first|exact trivial|omega|(simp only [In64] at *; omega)|(simp [In64] at *; omega)|(simp_all; done)|skip)
 refine qa (qm (qm ?_))
 refine hk_region fun K hK=>runs_eval tab_ok ?_
 simp only [evz,fl,gp,tab,simprocAttr,ll_length]
 refine fin_run trivial (hK _ ?_)<;>clear hK K
 refine qa ?_
 refine hk_cond rfl (fun hC1=>?_) (fun hC1=>?_)
 ·(try simp only [nhs] at hC1)
  have h20:20 < L.length:=by omega
  refine qm ?_
  refine hk_region fun K hK=>runs_eval tab_ok ?_
  simp only [evz,fl,gp,tab,simprocAttr]
  refine fin_stop trivial (runs_call (ffault_c 2 0) rfl rfl rfl (by simp only [dstOk,Nat.reduceLT]) (by repeat (first|exact trivial|constructor)) (runs_eval tab_ok ?_))
  simp only [evz,fl,gp,tab,simprocAttr]
  refine fin_run ?_ (hK _ ?_)<;>clear hK K
  ·(first|exact trivial|omega|(simp only [In64] at *; omega)|(simp [In64] at *; omega)|(simp_all; done)|skip)
  refine qa (qk (qb ?_))
  simp only [Try.results34,enA,evz,fl,gp,tab,simprocAttr]
  have e:ckL L=(2,0):=by unfold ckL; rw [if_pos (by omega)]
  rw [e]
  exact ⟨rfl,rfl⟩
 (try simp only [nhs] at hC1)
 have h20:¬ 20 < L.length:=by omega
 refine qh (qa (qm ?_))
 refine hk_region fun K hK=>runs_eval tab_ok ?_
 simp only [evz,fl,gp,tab,simprocAttr]
 refine fin_run trivial (hK _ ?_)<;>clear hK K
 refine qa (qm (qm ?_))
 refine hk_region fun K hK=>runs_eval tab_ok ?_
 simp only [evz,fl,gp,tab,simprocAttr,ll_length]
 refine fin_run trivial (hK _ ?_)<;>clear hK K
 refine qa (ql ?_)
 refine hk_loop (ι:=Nat × Nat) (fun q=>⟨37,[(2,.ptr 0 0),(3,.p (.int .i64 (q.2:Nat))),(11,.p (.list (ll L))),(12,.p (.int .i64 L.length)),(13,.p (.int .i64 (q.1:Nat)))],[.own [.p (.int .i64 0),.p (.int .i64 0)]]⟩) (fun q=>q.1≤L.length∧q.2≤2000∧ckL L=ckG (L.drop q.1) q.1 q.2) (fun q=>L.length - q.1) (0,0) ⟨Nat.zero_le _,Nat.zero_le _,by unfold ckL; rw [if_neg h20]; rfl⟩ [0] (by simp only [leq,leA,evz,fl,gp,tab,simprocAttr]<;>trivial) fun q hq=>?_
 obtain ⟨i,n⟩:=q
 obtain ⟨q1,q2,q3⟩:=hq
 simp only at q1 q2 q3 ⊢
 refine qm ?_
 refine hk_region fun K hK=>runs_eval tab_ok ?_
 simp only [evz,fl,gp,tab,simprocAttr]
 refine fin_run trivial (hK _ ?_)<;>clear hK K
 refine qa (qm ?_)
 refine hk_cond rfl (fun hC2=>?_) (fun hC2=>?_)
 ·(try simp only [nhs] at hC2)
  have hi:i < L.length:=by omega
  have hdr:L.drop i=L.getD i [] :: L.drop (i + 1):=by
   rw [List.drop_eq_getElem_cons hi,List.getD_eq_getElem?_getD,List.getElem?_eq_getElem hi]; rfl
  obtain ⟨w,hwd⟩:∃ w,L.getD i []=w:=⟨_,rfl⟩
  have hwl:w.length≤1000000000:=hw w (by rw [← hwd,List.getD_eq_getElem?_getD,List.getElem?_eq_getElem hi]; exact List.getElem_mem hi)
  rw [hdr,hwd,ckG] at q3
  refine qh (qa (qm (ql (qm ?_))))
  refine hk_region fun K hK=>runs_eval tab_ok ?_
  simp only [evz,fl,gp,tab,simprocAttr,ll_length,ll_get hi,hwd]
  refine fin_run ?_ (hK _ ?_)<;>clear hK K
  ·omega
  refine qa (qm (qm ?_))
  refine hk_region fun K hK=>runs_eval tab_ok ?_
  simp only [evz,fl,gp,tab,simprocAttr]
  refine fin_stop trivial (runs_call (check_c w) rfl rfl rfl (by simp only [dstOk,Nat.reduceLT]) (by repeat (first|exact trivial|constructor)) (runs_eval tab_ok ?_))
  simp only [evz,fl,gp,tab,simprocAttr]
  refine fin_run ?_ (hK _ ?_)<;>clear hK K
  ·(first|exact trivial|omega|(simp only [In64] at *; omega)|(simp [In64] at *; omega)|(simp_all; done)|skip)
  refine qa (qm ?_)
  refine hk_region fun K hK=>runs_eval tab_ok ?_
  simp only [evz,fl,gp,tab,simprocAttr]
  refine fin_run ?_ (hK _ ?_)<;>clear hK K
  ·(first|exact trivial|omega|(simp only [In64] at *; omega)|(simp [In64] at *; omega)|(simp_all; done)|skip)
  refine qa ?_
  refine hk_cond rfl (fun hC3=>?_) (fun hC3=>?_)
  ·(try simp only [nhs] at hC3)
   have h0:(check w).1 ≠ 0:=hC3
   rw [if_pos h0] at q3
   refine qm ?_
   refine hk_region fun K hK=>runs_eval tab_ok ?_
   simp only [evz,fl,gp,tab,simprocAttr]
   refine fin_stop trivial (runs_call (ffault_c (check w).1 i) rfl rfl rfl (by simp only [dstOk,Nat.reduceLT]) (by repeat (first|exact trivial|constructor)) (runs_eval tab_ok ?_))
   simp only [evz,fl,gp,tab,simprocAttr]
   refine fin_run ?_ (hK _ ?_)<;>clear hK K
   ·(first|exact trivial|omega|(simp only [In64] at *; omega)|(simp [In64] at *; omega)|(simp_all; done)|skip)
   refine qa (qk (qb (qe (qb (qb (qe (qb ?_)))))))
   simp only [Try.results34,enA,evz,fl,gp,tab,simprocAttr]
   all_goals (rw [q3]; exact ⟨rfl,rfl⟩)
  (try simp only [nhs] at hC3)
  have h0:¬ (check w).1 ≠ 0:=fun h=>h hC3
  rw [if_neg h0] at q3
  refine qh (qa (qm ?_))
  refine hk_region fun K hK=>runs_eval tab_ok ?_
  simp only [evz,fl,gp,tab,simprocAttr,il_length]
  refine fin_run ?_ (hK _ ?_)<;>clear hK K
  ·(first|exact trivial|omega|(simp only [In64] at *; omega)|(simp [In64] at *; omega)|(simp_all; done)|skip)
  refine qa (qm ?_)
  refine hk_region fun K hK=>runs_eval tab_ok ?_
  simp only [evz,fl,gp,tab,simprocAttr]
  refine fin_run trivial (hK _ ?_)<;>clear hK K
  refine qa ?_
  refine hk_cond rfl (fun hC4=>?_) (fun hC4=>?_)
  ·(try simp only [nhs] at hC4)
   have h1:2000 < n + w.length:=by omega
   rw [if_pos h1] at q3
   refine qm ?_
   refine hk_region fun K hK=>runs_eval tab_ok ?_
   simp only [evz,fl,gp,tab,simprocAttr]
   refine fin_stop trivial (runs_call (ffault_c 2 i) rfl rfl rfl (by simp only [dstOk,Nat.reduceLT]) (by repeat (first|exact trivial|constructor)) (runs_eval tab_ok ?_))
   simp only [evz,fl,gp,tab,simprocAttr]
   refine fin_run ?_ (hK _ ?_)<;>clear hK K
   ·(first|exact trivial|omega|(simp only [In64] at *; omega)|(simp [In64] at *; omega)|(simp_all; done)|skip)
   refine qa (qk (qe (qb (qb (qe (qb ?_))))))
   simp only [Try.results34,enA,evz,fl,gp,tab,simprocAttr]
   all_goals (rw [q3]; exact ⟨rfl,rfl⟩)
  (try simp only [nhs] at hC4)
  have h1:¬ 2000 < n + w.length:=by omega
  rw [if_neg h1] at q3
  refine qh (qd (qa ?_))
  refine hk_region fun K hK=>runs_eval tab_ok ?_
  simp only [evz,fl,gp,tab,simprocAttr]
  refine fin_run ?_ (hK _ ?_)<;>clear hK K
  ·(first|exact trivial|omega|(simp only [In64] at *; omega)|(simp [In64] at *; omega)|(simp_all; done)|skip)
  refine qa ?_
  refine ⟨(i + 1,n + w.length),[0],⟨by simp only; omega,by simp only; omega,q3⟩,by simp only; omega,?_⟩
  simp only [leq,leA,evz,fl,gp,tab,simprocAttr]<;>first|trivial|trace_state
 (try simp only [nhs] at hC2)
 refine qj (qc (qc (qf (qa (qm ?_)))))
 refine hk_region fun K hK=>runs_eval tab_ok ?_
 simp only [evz,fl,gp,tab,simprocAttr]
 refine fin_run ?_ (hK _ ?_)<;>clear hK K
 ·(first|exact trivial|omega|(simp only [In64] at *; omega)|(simp [In64] at *; omega)|(simp_all; done)|skip)
 refine qa (qk ?_)
 simp only [Try.results34,enA,evz,fl,gp,tab,simprocAttr]
 have hie:i=L.length:=by omega
 rw [hie,List.drop_length,ckG] at q3
 rw [q3]
 exact ⟨rfl,rfl⟩
end Go.Proofs.Ytneglephfhiamaa

namespace Go.Pv
open Go.RowKit Go.Proofs.Ytneglephfhiamaa
theorem ren1_agree {π σ:List Nat} {L:Nat} (h:∀ i,i < L→π.getD i 0=σ.getD i 0) {x:AV} (hx:sc1 L x=true):ren1 π x=ren1 σ x:=by
 cases x<;>simp only [ren1,sc1,decide_eq_true_eq] at hx ⊢
 all_goals rw [h _ hx]
theorem ren_agree {π σ:List Nat} {L:Nat} (h:∀ i,i < L→π.getD i 0=σ.getD i 0) {x:AV} (hx:scA L x=true):Go.Pv.ren π x=Go.Pv.ren σ x:=by
 have hm:∀ l:List AV,l.all (sc1 L)=true→l.map (ren1 π)=l.map (ren1 σ):=fun l hl=>List.map_congr_left fun x hx=>ren1_agree h ((List.all_eq_true.1 hl) x hx)
 cases x with
 | agg l=>simp only [Go.Pv.ren]; rw [hm l hx]
 | tup l=>simp only [Go.Pv.ren]; rw [hm l hx]
 | cl f l=>simp only [Go.Pv.ren]; rw [hm l hx]
 | yv k l vs =>
  simp only [scA,Bool.and_eq_true,decide_eq_true_eq] at hx
  simp only [Go.Pv.ren]; rw [hm l hx.2,h _ hx.1]
 | _=>simp only [Go.Pv.ren]; exact ren1_agree h (by simpa only [scA] using hx)
theorem le_swap1 {S s:St} {P H1:Heap} {c:List PV} (hn:S.n=s.n) (hs:s.H=P++H1.map (Blk.ren (List.range' P.length H1.length))) (h1:∀ b∈H1,hsc H1.length b=true) (h2:H1.all notAnc=true) (h0:hget P 0 = .own (opl c)) (hS:S.H=H1++[.own (opl c)])
  (hsl:LeS (List.range' P.length H1.length++[0]) S.sl s):Le (List.range' P.length H1.length++[0]) S s:=by
 obtain ⟨π,hπ⟩:∃ π,List.range' P.length H1.length++[0]=π:=⟨_,rfl⟩
 have hpl:π.length=H1.length + 1:=by rw [← hπ]; simp
 have hag:∀ i,i < H1.length→π.getD i 0=(List.range' P.length H1.length).getD i 0:=fun i hi=>by
  rw [← hπ,List.getD_eq_getElem?_getD,List.getElem?_append_left (by simpa using hi),← List.getD_eq_getElem?_getD]
 have hp0:0 < P.length:=by
  cases P with
  | nil=>cases h0
  | cons _ _=>exact Nat.succ_pos _
 rw [hπ] at hsl ⊢
 refine ⟨hn,?_,?_,hsl⟩
 ·rw [← hπ,List.nodup_append]
  refine ⟨List.nodup_range' ..,by simp,fun x hx y hy=>?_⟩
  rw [List.mem_range'_1] at hx
  rw [List.mem_singleton] at hy
  omega
 rw [hS]
 conv=>arg 3; rw [← hπ]
 refine leH_app ?_ ⟨?_,trivial⟩
 ·refine leH_at (by simp) fun i hi=>?_
  have e:(List.range' P.length H1.length).getD i 0=P.length + i:=by simp [List.getD,List.getElem?_range' hi]
  have eb:hget s.H (P.length + i)=Blk.ren (List.range' P.length H1.length) (hget H1 i):=by
   rw [hs,hget_app2 (by omega),Nat.add_sub_cancel_left,hget_eq,List.getD_eq_getElem?_getD,List.getElem?_map,hget_eq,List.getD_eq_getElem?_getD,List.getElem?_eq_getElem hi]; rfl
  have hm:hget H1 i∈H1:=by rw [hget_eq,List.getD_eq_getElem?_getD,List.getElem?_eq_getElem hi]; exact List.getElem_mem hi
  have hb:=h1 _ hm
  have hna:=(List.all_eq_true.1 h2) _ hm
  rw [e]
  revert eb hb hna
  generalize hget H1 i=b
  intro eb hb hna
  cases b with
  | own d =>
   simp only [Blk.ren] at eb
   simp only [LeB,eb]
   refine ⟨?_,List.all_eq_true.2 fun x hx=>scA_mn (by omega) ((List.all_eq_true.1 hb) x hx)⟩
   rw [List.take_of_length_le (by simp)]
   exact List.map_congr_left fun x hx=>ren_agree hag ((List.all_eq_true.1 hb) x hx)
  | anc i j=>cases hna
  | dead=>trivial
  | _=>simp only [Blk.ren] at eb; simp only [LeB,eb]
 have e:hget s.H 0 = .own (opl c):=by rw [hs,hget_app1 hp0]; exact h0
 simp only [LeB,e]
 exact ⟨by rw [opl_ren,List.take_of_length_le (Nat.le_refl _)],opl_sc _ _⟩
end Go.Pv
namespace Go.Proofs.Ytneglephfhiamaa
open Go.Pv
section
variable {G:List Mp} {U:List Int}
theorem fold_E {s:St} {o:Oper} {fo:Operand} {args:Array Operand} {ts:Array TypeId} (ho:o.op = .call { callee:=.value fo,args:=args,argTypes:=ts }) (hfo:s.ev fo = .p (.fn 48 []))
  (L:List (List Int)) (hL:∀ w∈L,w.length≤1000000000∧Lt26 w) (hn:L.length≤1000000) (hb:tot (L.map short)≤10000000) (hargs:args.toList.map s.ev++([]:List PV).map .p=[.p (.list (ll L))]) :
  DoesE Try.prog o s (fun av H'=>∃ G U,av = .ptr s.H.length 0∧H' = s.H++(GB G U).map (Blk.ren (List.range' s.H.length (GB G U).length))∧G.length≤10000001∧FI (L.map short) G U (L.map short) 0 []):=by
 have:=call_doesE (ks:=[]) ho hfo (fold_c L hL hn hb) (by rw [hargs]; exact ⟨⟨trivial,rfl⟩,trivial⟩) trivial List.nodup_nil (fun k hk=>by cases hk) rfl (by
  rintro r H1 ⟨rfl,G,U,rfl,h2,h3⟩
  unfold scM
  simp only [Bool.and_eq_true,decide_eq_true_eq]
  refine ⟨⟨⟨⟨?_,?_⟩,Nat.zero_le _⟩,rfl⟩,rfl⟩
  ·rw [GB_len]; simp [scA,sc1]
  rw [List.all_eq_true]
  intro b hb
  have h1:=(List.all_eq_true.1 GB_all) b hb
  have h2:=(List.all_eq_true.1 GB_na) b hb
  cases b with
  | own c=>exact h1
  | anc i j=>cases h2
  | _=>rfl)
 intro C m a w K Q R hK
 refine this C m a w K Q R fun v m' w' av H' ⟨r,H1,⟨e0,G,U,e1,e2,e3⟩,e4,e5⟩ R2 hv=>hK v m' w' av H' ⟨G,U,?_,?_,e2,e3⟩ R2 hv
 ·rw [e4,e0,e1]
  simp only [Go.Pv.ren,ren1,List.nil_append,List.length_nil,Nat.sub_zero]
  rw [List.getD_eq_getElem?_getD,List.getElem?_range' (by rw [GB_len]; omega)]; simp
 rw [e5,e1]
 simp only [putM,List.nil_append,List.length_nil,Nat.sub_zero]
end
end Go.Proofs.Ytneglephfhiamaa

namespace Go.Proofs.Ytneglephfhiamaa
open Go.Pv
open Classical in
noncomputable def memB (L:List (List Int)) (w:List Int):Bool:=decide (Mem (L.map short) (short w))
end Go.Proofs.Ytneglephfhiamaa

namespace Go.Proofs.Ytneglephfhiamaa
open Go.Pv
theorem wkB_cases (u:Nat) (x to:Int) (t:E3):(∃ v:Nat,Re [t] u x v∧wkB u x to t=v)∨((∀ v,¬ Re [t] u x v)∧wkB u x to t=to):=by
 unfold wkB wkA
 obtain ⟨a,y,b⟩:=t
 simp only
 by_cases h1:x < 0∧(b:Int)=u∧y = -x
 ·rw [if_pos h1]
  obtain ⟨h1,h2,rfl⟩:=h1
  obtain rfl:b=u:=by omega
  exact .inl ⟨a,.inr ⟨h1,by simp⟩,rfl⟩
 rw [if_neg h1]
 by_cases h2:0 < x∧(a:Int)=u∧y=x
 ·rw [if_pos h2]
  obtain ⟨h2,h3,rfl⟩:=h2
  obtain rfl:a=u:=by omega
  exact .inl ⟨b,.inl ⟨h2,by simp⟩,rfl⟩
 rw [if_neg h2]
 refine .inr ⟨fun v hv=>?_,rfl⟩
 rcases hv with ⟨p,q⟩ | ⟨p,q⟩
 ·simp only [List.mem_singleton,Prod.mk.injEq] at q
  exact h2 ⟨p,by omega,q.2.1.symm⟩
 simp only [List.mem_singleton,Prod.mk.injEq] at q
 exact h1 ⟨p,by omega,q.2.1.symm⟩
theorem Re.cons {e:List E3} {t:E3} {u v:Nat} {x:Int} : Re (t :: e) u x v↔Re [t] u x v∨Re e u x v:=by
 unfold Re
 simp only [List.mem_cons,List.not_mem_nil,or_false]
 constructor
 ·rintro (⟨h,h1 | h1⟩ | ⟨h,h1 | h1⟩)
  ·exact .inl (.inl ⟨h,h1⟩)
  ·exact .inr (.inl ⟨h,h1⟩)
  ·exact .inl (.inr ⟨h,h1⟩)
  exact .inr (.inr ⟨h,h1⟩)
 rintro ((⟨h,h1⟩ | ⟨h,h1⟩) | (⟨h,h1⟩ | ⟨h,h1⟩))
 ·exact .inl ⟨h,.inl h1⟩
 ·exact .inr ⟨h,.inl h1⟩
 ·exact .inl ⟨h,.inr h1⟩
 exact .inr ⟨h,.inr h1⟩
theorem wk_fold (u:Nat) (x:Int):∀ (e:List E3) (to:Int),(∃ v:Nat,Re e u x v∧e.foldl (wkB u x) to=v)∨((∀ v,¬ Re e u x v)∧e.foldl (wkB u x) to=to)
 | [],to=>.inr ⟨fun v h=>(by rcases h with ⟨_,h⟩ | ⟨_,h⟩<;>cases h),rfl⟩
 | t :: e,to=>by
  rw [List.foldl_cons]
  rcases wk_fold u x e (wkB u x to t) with ⟨v,h1,h2⟩ | ⟨h1,h2⟩
  ·exact .inl ⟨v,Re.cons.2 (.inr h1),h2⟩
  rw [h2]
  rcases wkB_cases u x to t with ⟨v,h3,h4⟩ | ⟨h3,h4⟩
  ·exact .inl ⟨v,Re.cons.2 (.inl h3),h4⟩
  exact .inr ⟨fun v hv=>(Re.cons.1 hv).elim (h3 v) (h1 v),h4⟩
theorem walkS_neg (e:List E3) {a:Int} (h:a < 0):∀ w,walkS e a w=a
 | []=>rfl
 | x :: w=>by unfold walkS; rw [if_neg (by omega)]
theorem walkS_spec {e:List E3} (hd:Det e):∀ (w:List Int) (u v:Nat),walkS e u w=(v:Int)↔PthE e u w v
 | [],u,v=>by
  unfold walkS PthE
  omega
 | x :: w,u,v=>by
  unfold walkS PthE
  rw [if_pos (by omega)]
  unfold wk1
  rcases wk_fold u x e (-1) with ⟨m,h1,h2⟩ | ⟨h1,h2⟩
  ·rw [h2,walkS_spec hd w m v]
   constructor
   ·exact fun h=>⟨m,h1,h⟩
   rintro ⟨m',h3,h4⟩
   rw [hd _ _ _ _ h1 h3]; exact h4
  rw [h2,walkS_neg e (by decide)]
  constructor
  ·intro h; omega
  rintro ⟨m,h3,_⟩; exact absurd h3 (h1 m)
theorem within_mem {L:List (List Int)} {e:List E3} (h:FC (L.map short) e) (hd:Det e) (w:List Int):decide (walkS e 0 (short w)=0)=memB L w:=by
 unfold memB
 refine decide_eq_decide.2 ?_
 rw [← fe_mem h.fe hd]
 exact walkS_spec hd (short w) 0 0
def plA (out:List Nat) (v:Nat):List Nat:=if v∈out then out else out++[v]
def plS (e:List E3):List Nat:=e.foldl (fun out t=>plA (plA out t.1) t.2.2) [0]
theorem mem_plA {out:List Nat} {u v:Nat} : u∈plA out v↔u∈out∨u=v:=by
 unfold plA
 split
 ·rename_i h
  exact ⟨.inl,fun h2=>h2.elim id fun h3=>h3 ▸ h⟩
 simp
theorem plA_nd {out:List Nat} {v:Nat} (h:out.Nodup):(plA out v).Nodup:=by
 unfold plA
 split
 ·exact h
 rename_i hv
 rw [List.nodup_append]
 exact ⟨h,by simp,fun a ha b hb=>by rw [List.mem_singleton] at hb; subst hb; exact fun e=>hv (e ▸ ha)⟩
theorem plA_len (out:List Nat) (v:Nat):(plA out v).length≤out.length + 1:=by
 unfold plA
 split
 ·omega
 simp
theorem plF_spec:∀ (e:List E3) (out:List Nat),out.Nodup→(e.foldl (fun out t=>plA (plA out t.1) t.2.2) out).Nodup∧(∀ u,u∈e.foldl (fun out t=>plA (plA out t.1) t.2.2) out↔u∈out∨∃ t∈e,t.1=u∨t.2.2=u)
 | [],out,h=>⟨h,fun u=>by simp⟩
 | t :: e,out,h=>by
  obtain ⟨h1,h2⟩:=plF_spec e _ (plA_nd (plA_nd h):(plA (plA out t.1) t.2.2).Nodup)
  refine ⟨h1,fun u=>?_⟩
  rw [List.foldl_cons,h2 u,mem_plA,mem_plA]
  constructor
  ·rintro (((h3 | h3) | h3) | ⟨s,hs,h3⟩)
   ·exact .inl h3
   ·exact .inr ⟨t,by simp,.inl h3.symm⟩
   ·exact .inr ⟨t,by simp,.inr h3.symm⟩
   exact .inr ⟨s,by simp [hs],h3⟩
  rintro (h3 | ⟨s,hs,h3⟩)
  ·exact .inl (.inl (.inl h3))
  rcases List.mem_cons.1 hs with rfl | hs
  ·rcases h3 with h3 | h3
   ·exact .inl (.inl (.inr h3.symm))
   exact .inl (.inr h3.symm)
  exact .inr ⟨s,hs,h3⟩
theorem plS_nd (e:List E3):(plS e).Nodup:=(plF_spec e [0] (by simp)).1
theorem mem_plS {e:List E3} {u:Nat} : u∈plS e↔u=0∨∃ t∈e,t.1=u∨t.2.2=u:=by
 have:=(plF_spec e [0] (by simp)).2 u
 simpa [plS] using this
theorem fc_cg {S:List (List Int)} {e:List E3} (h:FC S e) (hd:Det e) (hn:e.Nodup):CG (stE e) (plS e)∧UniG (stE e) (plS e) S∧(∀ s∈S,runW (stE e) 0 s=some 0)∧(PE (stE e) (plS e)).length=e.length:=by
 have hre:∀ {u v:Nat} {x:Int},Re e u x v→u∈plS e∧v∈plS e∧x ≠ 0∧-26≤x∧x≤26:=fun {u v x} hr=>by
  rcases hr with ⟨p,q⟩ | ⟨p,q⟩
  ·have:=h.let26 _ q
   simp only at this
   exact ⟨mem_plS.2 (.inr ⟨_,q,.inl rfl⟩),mem_plS.2 (.inr ⟨_,q,.inr rfl⟩),by omega,by omega,this⟩
  have:=h.let26 _ q
  simp only at this
  exact ⟨mem_plS.2 (.inr ⟨_,q,.inr rfl⟩),mem_plS.2 (.inr ⟨_,q,.inl rfl⟩),by omega,by omega,by omega⟩
 have c:CG (stE e) (plS e):=by
  refine ⟨stE_inv hd,plS_nd e,mem_plS.2 (.inl rfl),fun u hu x v hs=>(hre ((stE_iff hd).1 hs)).2.1,fun u hu x v hs=>(hre ((stE_iff hd).1 hs)).2.2,fun u hu=>?_⟩
  rcases mem_plS.1 hu with rfl | ⟨t,ht,rfl | rfl⟩
  ·exact ⟨[],rfl⟩
  ·obtain ⟨w,hw⟩:=h.con t ht
   exact ⟨w,(runE hd w 0 _).2 hw⟩
  obtain ⟨w,hw⟩:=h.con t ht
  exact ⟨w++[t.2.1],(runE hd _ 0 _).2 (hw.app ⟨t.2.2,.inl ⟨h.fe.pos t ht,ht⟩,rfl⟩)⟩
 refine ⟨c,fun X st x0 hi hc=>?_,fun s hs=>(runE hd s 0 0).2 (h.fe.cl s hs),?_⟩
 ·obtain ⟨κ,k1,k2⟩:=h.fe.uni X st x0 hi hc
  refine ⟨κ,k1,fun u hu x v hs=>?_⟩
  rcases (stE_iff hd).1 hs with ⟨p,q⟩ | ⟨p,q⟩
  ·exact k2 _ q
  have:=hi _ _ _ (by simp only; omega) (k2 _ q)
  simpa using this
 have e1:(e.map fun t=>(t.1,t.2.1)).length=e.length:=List.length_map ..
 rw [← e1]
 refine nd_eq (PE_nd c.nd) (nodup_mapF hn fun a ha b hb e0=>?_) fun p=>?_
 ·injection e0 with e2 e3
  obtain ⟨a1,a2,a3⟩:=a
  obtain ⟨b1,b2,b3⟩:=b
  simp only at e2 e3
  subst e2; subst e3
  have:=hd a1 a2 a3 b3 (.inl ⟨h.fe.pos _ ha,ha⟩) (.inl ⟨h.fe.pos _ ha,hb⟩)
  rw [this]
 obtain ⟨u,x⟩:=p
 rw [mem_PE0 c.lt,List.mem_map]
 constructor
 ·rintro ⟨h1,h2,h3⟩
  obtain ⟨v,hv⟩:=Option.isSome_iff_exists.1 h3
  rcases (stE_iff hd).1 hv with ⟨p,q⟩ | ⟨p,q⟩
  ·exact ⟨_,q,rfl⟩
  omega
 rintro ⟨t,ht,e0⟩
 injection e0 with e2 e3
 subst e2; subst e3
 have hr:Re e t.1 t.2.1 t.2.2:=.inl ⟨h.fe.pos t ht,ht⟩
 exact ⟨(hre hr).1,h.fe.pos t ht,by rw [(stE_iff hd).2 hr]; rfl⟩
theorem fc_cnt {S:List (List Int)} {e:List E3} (h:FC S e) (hd:Det e) (hn:e.Nodup):(plS e).length=vS S∧e.length=eS S:=by
 obtain ⟨c,u,cl,hl⟩:=fc_cg h hd hn
 have:=(IsC.mk c u cl).cnt
 exact ⟨this.1,hl ▸ this.2⟩
theorem plF_len:∀ (e:List E3) (out:List Nat),(e.foldl (fun out t=>plA (plA out t.1) t.2.2) out).length≤out.length + 2 * e.length
 | [],out=>Nat.le_refl _
 | t :: e,out=>by
  rw [List.foldl_cons]
  have h1:=plF_len e (plA (plA out t.1) t.2.2)
  have h2:=plA_len (plA out t.1) t.2.2
  have h3:=plA_len out t.1
  simp only [List.length_cons]; omega
theorem plS_len (e:List E3):(plS e).length≤1 + 2 * e.length:=plF_len e [0]
end Go.Proofs.Ytneglephfhiamaa

namespace Go.Pv
open Go.RowKit
def isF:Cls→Bool
 | .f=>true
 | _=>false
def isLd:Cls→Bool
 | .ld _=>true
 | _=>false
theorem confl_f1 {c d:Cls} (h:isF c=true):confl c d=false:=by cases c<;>simp_all [isF,confl]
theorem confl_f2 {c d:Cls} (h:isF d=true):confl c d=false:=by
 cases d<;>simp [isF] at h
 cases c<;>simp [confl,Cls.tch]
theorem confl_ld {c d:Cls} (h:isLd c=true) (h2:isLd d=true):confl c d=false:=by
 cases c<;>simp [isLd] at h
 cases d<;>simp [isLd] at h2
 rfl
end Go.Pv
namespace Go.Proofs.Ytneglephfhiamaa
open Go.Pv
section
variable {G:List Mp} {U U' : List Int}
theorem Pth.rv (w:WG G U) (hr:∀ u,u < G.length→rV U' u=rV U u):∀ {l:List Int} {u v:Nat},u < G.length→v < G.length→Pth G U u l v→Pth G U' u l v
 | [],u,v,hu,hv,h=>by rw [Pth] at h ⊢; rw [hr u hu,hr v hv]; exact h
 | x :: l,u,v,hu,hv,⟨m,a,b,c⟩=>⟨m,a,(Ed.rv w hr hu a).2 b,Pth.rv w hr a hv c⟩
theorem FI.up {L done:List (List Int)} {v:Nat} {p:List Int} (h:FI L G U done v p) (w' : WG G U') (hr:∀ u,u < G.length→rV U' u=rV U u):FI L G U' done v p:=by
 have hw:=h.wg
 refine ⟨w',h.pos,h.lt,fun u x v hu hv e=>?_,fun w hw'=>Pth.rv hw hr h.pos h.pos (h.cl w hw'),Pth.rv hw hr h.pos h.lt h.pth,fun u hu=>(h.con u hu).imp fun q hq=>Pth.rv hw hr h.pos hu hq,fun X step x0 hi hc=>?_⟩
 ·rw [pe_nil,Ed.rv hw hr hu hv] at e
  rw [pe_nil,Ed.rv hw hr hv hu]
  exact pe_nil.1 (h.sym u x v hu hv (pe_nil.2 e))
 obtain ⟨κ,k1,k2,k3⟩:=h.uni X step x0 hi hc
 refine ⟨κ,k1,⟨fun u hu=>by rw [hr u hu]; exact k2.1 u hu,fun u x v hu hv e=>?_⟩,k3⟩
 rw [pe_nil,Ed.rv hw hr hu hv] at e
 exact k2.2 u x v hu hv (pe_nil.2 e)
end
section
variable {G:List Mp} {U:List Int}
end
end Go.Proofs.Ytneglephfhiamaa

namespace Go.Proofs.Ytneglephfhiamaa
open Go.Pv
section
variable {G:List Mp} {U:List Int}
end
end Go.Proofs.Ytneglephfhiamaa

namespace Go.Pv
open Go.RowKit
end Go.Pv
namespace Go.Proofs.Ytneglephfhiamaa
open Go.Pv
section
variable {G:List Mp} {U:List Int}
end
end Go.Proofs.Ytneglephfhiamaa

namespace Go.Pv
open Go.RowKit
end Go.Pv
namespace Go.Proofs.Ytneglephfhiamaa
open Go.Pv
section
variable {G:List Mp} {U:List Int}
end
end Go.Proofs.Ytneglephfhiamaa

namespace Go.Proofs.Ytneglephfhiamaa
open Go.Pv
def Good (L:List (List Int)):Prop:=(∀ w∈L,w.length≤1000000000∧Lt26 w)∧L.length≤1000000∧tot (L.map short)≤10000000
end Go.Proofs.Ytneglephfhiamaa

namespace Go.Proofs.Ytneglephfhiamaa
open Go.Pv
theorem has_f (l:List Int) (x:Int) (hl:l.length≤1000000000000000):FnC Try.prog 52 [.list (il l),.int .i64 x] (.bool (decide (x∈l))):=by
 refine fnc_of tab_ok Try.func52 rfl (by kernel_rfl) (by rw [Try.ntmps52]; exact Nat.le_add_left 2 _) ?_; rw [Try.ntmps52]
 refine qm ?_
 refine hk_region fun K hK=>runs_eval tab_ok ?_
 simp only [evz,fl,gp,tab,simprocAttr]
 refine fin_run trivial (hK _ ?_)<;>clear hK K
 refine qa (qm (qm ?_))
 refine hk_region fun K hK=>runs_eval tab_ok ?_
 simp only [evz,fl,gp,tab,simprocAttr]
 refine fin_run trivial (hK _ ?_)<;>clear hK K
 refine qa (ql ?_)
 refine hk_loop (ι:=Nat) (fun i=>⟨18,[(0,.p (.list (il l))),(1,.p (.int .i64 x)),(5,.p (.int .i64 i))],[]⟩) (fun i=>i≤l.length∧∀ j,j < i→l.getD j 0 ≠ x) (fun i=>l.length - i) 0 ⟨Nat.zero_le _,fun j hj=>absurd hj (Nat.not_lt_zero _)⟩ [] (by simp only [leq,leA,evz,fl,gp,tab,simprocAttr]<;>trivial) fun i hi=>?_
 obtain ⟨hi1,hi2⟩:=hi
 refine qm (qm ?_)
 refine hk_region fun K hK=>runs_eval tab_ok ?_
 simp only [evz,fl,gp,tab,simprocAttr]
 refine fin_run trivial (hK _ ?_)<;>clear hK K
 refine qa ?_
 refine hk_cond rfl (fun hC1=>?_) (fun hC1=>?_)
 ·(try simp only [nhs] at hC1)
  have hlt:i < l.length:=by omega
  refine qh (qa (qm (ql (qm ?_))))
  refine hk_region fun K hK=>runs_eval tab_ok ?_
  simp only [evz,fl,gp,tab,simprocAttr,il_get hlt]
  refine fin_run ?_ (hK _ ?_)<;>clear hK K
  ·(first|exact trivial|omega|(simp only [In64] at *; omega)|(simp [In64] at *; omega)|(simp_all; done)|skip)
  refine qa ?_
  refine hk_cond rfl (fun hC2=>?_) (fun hC2=>?_)
  ·(try simp only [nhs] at hC2)
   refine qm ?_
   refine hk_region fun K hK=>runs_eval tab_ok ?_
   simp only [evz,fl,gp,tab,simprocAttr]
   refine fin_run trivial (hK _ ?_)<;>clear hK K
   refine qa (qk (qe (qb (qb (qe (qb ?_))))))
   simp only [Try.results52,enA,evz,fl,gp,tab,simprocAttr]
   all_goals (rw [eq_comm]; refine decide_eq_true ?_; rw [← hC2]; simp [List.getD,List.getElem?_eq_getElem hlt])
  (try simp only [nhs] at hC2)
  refine qh (qd (qa ?_))
  refine hk_region fun K hK=>runs_eval tab_ok ?_
  simp only [evz,fl,gp,tab,simprocAttr]
  refine fin_run ?_ (hK _ ?_)<;>clear hK K
  ·(first|exact trivial|omega|(simp only [In64] at *; omega)|(simp [In64] at *; omega)|(simp_all; done)|skip)
  refine qa ?_
  refine ⟨i + 1,[],⟨by omega,fun j hj=>?_⟩,by omega,?_⟩
  ·by_cases hj:j=i
   ·subst hj; exact hC2
   exact hi2 j (by omega)
  simp only [leq,leA,evz,fl,gp,tab,simprocAttr]<;>trivial
 (try simp only [nhs] at hC1)
 refine qj (qc (qc (qf (qa (qm ?_)))))
 refine hk_region fun K hK=>runs_eval tab_ok ?_
 simp only [evz,fl,gp,tab,simprocAttr]
 refine fin_run trivial (hK _ ?_)<;>clear hK K
 refine qa (qk ?_)
 simp only [Try.results52,enA,evz,fl,gp,tab,simprocAttr]
 all_goals (rw [eq_comm]; refine decide_eq_false fun hm=>?_; obtain ⟨j,hj,e⟩:=List.getElem_of_mem hm; exact hi2 j (by omega) (by simp [List.getD,List.getElem?_eq_getElem hj,e]))
theorem mem_ofNat {out:List Nat} {v:Nat} : ((v:Int)∈out.map Int.ofNat)↔v∈out:=by
 rw [List.mem_map]
 constructor
 ·rintro ⟨u,hu,e⟩
  have:u=v:=by
   have e:(u:Int)=v:=e
   omega
  exact this ▸ hu
 exact fun h=>⟨v,h,rfl⟩
theorem plA_row {out:List Nat} {v:Nat} (h:v ∉ out):(plA out v).map Int.ofNat=out.map Int.ofNat++[(v:Int)]:=by
 unfold plA; rw [if_neg h]; simp
set_option maxHeartbeats 4000000 in
set_option maxRecDepth 20000 in
theorem places_c (e:List E3) (hl:e.length≤100000):FnC Try.prog 20 [.list (wl e)] (.list (il ((plS e).map Int.ofNat))):=by
 refine fnc_of tab_ok Try.func20 rfl (by kernel_rfl) (by rw [Try.ntmps20]; exact Nat.le_add_left 1 _) ?_; rw [Try.ntmps20]
 refine qm ?_
 refine hk_region fun K hK=>runs_eval tab_ok ?_
 simp only [evz,fl,gp,tab,simprocAttr]
 refine fin_run trivial (hK _ ?_)<;>clear hK K
 refine qa (qm ?_)
 refine hk_region fun K hK=>runs_op (buildOwn_does (n:=1) (l:=[.int .i64 0]) tab_ok rfl rfl rfl rfl rfl rfl rfl ⟨⟨rfl,rfl,rfl⟩,trivial⟩ rfl (by decide) rfl) rfl (show (5:Nat) < 45 by decide) (runs_eval tab_ok ?_)
 simp only [evz,fl,gp,tab,simprocAttr]
 refine fin_run trivial (hK _ ?_)<;>clear hK K
 refine qa (qm (qm ?_))
 refine hk_region fun K hK=>runs_eval tab_ok ?_
 simp only [evz,fl,gp,tab,simprocAttr]
 refine fin_run trivial (hK _ ?_)<;>clear hK K
 refine qa (ql ?_)
 refine hk_loop (ι:=Nat × List Int) (fun q=>⟨45,[(0,.p (.list (wl e))),(3,.sl 0 0 q.2.length),(4,.p (.int .i64 (q.1:Nat)))],[.own (ol q.2)]⟩) (fun q=>q.1≤e.length∧∃ out:List Nat,q.2=out.map Int.ofNat∧(e.drop q.1).foldl (fun out t=>plA (plA out t.1) t.2.2) out=plS e∧out.length≤1 + 2 * q.1) (fun q=>e.length - q.1) (0,[0]) ⟨Nat.zero_le _,[0],rfl,rfl,by decide⟩ [0] (by simp only [leq,leA,evz,fl,gp,tab,simprocAttr]<;>first|trivial|rfl) fun q hq=>?_
 obtain ⟨i,O⟩:=q
 obtain ⟨q1,out,hO,q2,q3⟩:=hq
 simp only at q1 hO q2 q3 ⊢
 have hOl:O.length=out.length:=by rw [hO,List.length_map]
 refine qm (qm ?_)
 refine hk_region fun K hK=>runs_eval tab_ok ?_
 simp only [evz,fl,gp,tab,simprocAttr,wl_len]
 refine fin_run trivial (hK _ ?_)<;>clear hK K
 refine qa ?_
 refine hk_cond rfl (fun hC1=>?_) (fun hC1=>?_)
 ·(try simp only [nhs] at hC1)
  have hi:i < e.length:=by omega
  obtain ⟨t,ht⟩:∃ t,e.getD i e3d=t:=⟨_,rfl⟩
  have hdr:e.drop i=t :: e.drop (i + 1):=by
   rw [List.drop_eq_getElem_cons hi,← ht,List.getD_eq_getElem?_getD,List.getElem?_eq_getElem hi]; rfl
  rw [hdr,List.foldl_cons] at q2
  obtain ⟨ta,tx,tb⟩:=t
  simp only at q2
  obtain ⟨O1,hO1⟩:∃ O,(plA out ta).map Int.ofNat=O:=⟨_,rfl⟩
  have hO1l:O1.length=(plA out ta).length:=by rw [← hO1,List.length_map]
  have hl1:=plA_len out ta
  refine qh (qa (qm (ql (qm (qm ?_)))))
  refine hk_region fun K hK=>runs_eval tab_ok ?_
  simp only [evz,fl,gp,tab,simprocAttr,wl_len,wl_get hi,ht]
  refine fin_stop ?_ (runs_call (b:=false) (has_f O ta (by omega)) rfl (by simp only [callA,peekList,peekG,peekS,List.map_cons,List.map_nil,List.append_nil,enA,evz,fl,gp,tab,simprocAttr,List.drop_zero,ol_drop,ol_take,take_len,ol_allP,il_all,il_length,List.length_replicate,List.take_replicate,Nat.min_self]; rfl) rfl (by simp only [dstOk,Nat.reduceLT]) ?_ (runs_eval tab_ok ?_))
  ·omega
  ·exact Nat.le_refl _
  simp only [evz,fl,gp,tab,simprocAttr,wl_len,wl_get hi,ht]
  refine fin_run ?_ (hK _ ?_)<;>clear hK K
  ·(first|exact trivial|omega|(simp only [In64] at *; omega)|(simp [In64] at *; omega)|(simp_all; done)|skip)
  refine qa ?_
  refine hk_cut (⟨45,[(0,.p (.list (wl e))),(3,.sl 0 0 O1.length),(4,.p (.int .i64 (i:Nat)))],[.own (ol O1)]⟩) ?_ ?_
  ·refine hk_cond rfl (fun hC2=>?_) (fun hC2=>?_)
   ·(try simp only [nhs] at hC2)
    refine hk_region fun K hK=>runs_eval tab_ok ?_
    simp only [evz,fl,gp,tab,simprocAttr,wl_len,wl_get hi,ht]
    refine fin_run ?_ (hK _ ?_)<;>clear hK K
    ·exact ⟨by omega,Nat.le_refl _,by omega,by omega⟩
    have hnm:ta ∉ out:=fun hm=>by
     have:(ta:Int)∈O:=hO ▸ mem_ofNat.2 hm
     simp [this] at hC2
    have e1:O1=O++[(ta:Int)]:=by rw [← hO1,plA_row hnm,hO]
    refine ⟨rfl,[1],?_⟩
    rw [e1]
    simp only [leq,leA,evz,fl,gp,tab,simprocAttr,ol_ren,ol_sc,List.length_append,List.length_singleton,List.take_length]<;>first|trivial|trace_state
   (try simp only [nhs] at hC2)
   refine qh ?_
   have hm:ta∈out:=by
    have:(ta:Int)∈O:=by simpa using hC2
    exact mem_ofNat.1 (hO ▸ this)
   have e1:O1=O:=by rw [← hO1,hO]; unfold plA; rw [if_pos hm]
   refine ⟨rfl,[0],?_⟩
   rw [e1]
   simp only [leq,leA,evz,fl,gp,tab,simprocAttr,ol_ren,ol_sc]<;>first|trivial|trace_state
  refine qm ?_
  refine hk_region fun K hK=>runs_eval tab_ok ?_
  simp only [evz,fl,gp,tab,simprocAttr,wl_len,wl_get hi,ht]
  refine fin_stop ?_ (runs_call (b:=false) (has_f O1 tb (by omega)) rfl (by simp only [callA,peekList,peekG,peekS,List.map_cons,List.map_nil,List.append_nil,enA,evz,fl,gp,tab,simprocAttr,List.drop_zero,ol_drop,ol_take,take_len,ol_allP,il_all,il_length,List.length_replicate,List.take_replicate,Nat.min_self]; rfl) rfl (by simp only [dstOk,Nat.reduceLT]) ?_ (runs_eval tab_ok ?_))
  ·omega
  ·exact Nat.le_refl _
  simp only [evz,fl,gp,tab,simprocAttr,wl_len,wl_get hi,ht]
  refine fin_run ?_ (hK _ ?_)<;>clear hK K
  ·(first|exact trivial|omega|(simp only [In64] at *; omega)|(simp [In64] at *; omega)|(simp_all; done)|skip)
  refine qa ?_
  refine hk_cond rfl (fun hC3=>?_) (fun hC3=>?_)
  ·(try simp only [nhs] at hC3)
   refine hk_region fun K hK=>runs_eval tab_ok ?_
   simp only [evz,fl,gp,tab,simprocAttr,wl_len,wl_get hi,ht]
   refine fin_run ?_ (hK _ ?_)<;>clear hK K
   ·exact ⟨by omega,Nat.le_refl _,by omega,by omega⟩
   refine qd (qa ?_)
   refine hk_region fun K hK=>runs_eval tab_ok ?_
   simp only [evz,fl,gp,tab,simprocAttr]
   refine fin_run ?_ (hK _ ?_)<;>clear hK K
   ·(first|exact trivial|omega|(simp only [In64] at *; omega)|(simp [In64] at *; omega)|(simp_all; done)|skip)
   refine qa ?_
   have hnm:tb ∉ plA out ta:=fun hm=>by
    have:(tb:Int)∈O1:=hO1 ▸ mem_ofNat.2 hm
    simp [this] at hC3
   have e1:(plA (plA out ta) tb).map Int.ofNat=O1++[(tb:Int)]:=by rw [plA_row hnm,hO1]
   have hl2:=plA_len (plA out ta) tb
   exact ⟨(i + 1,O1++[(tb:Int)]),[1],⟨by simp only; omega,plA (plA out ta) tb,e1.symm,q2,by simp only; omega⟩,by simp only; omega,by simp only [leq,leA,evz,fl,gp,tab,simprocAttr,ol_ren,ol_sc,List.length_append,List.length_singleton,List.take_length]<;>first|trivial|trace_state⟩
  (try simp only [nhs] at hC3)
  refine qh (qd (qa ?_))
  refine hk_region fun K hK=>runs_eval tab_ok ?_
  simp only [evz,fl,gp,tab,simprocAttr]
  refine fin_run ?_ (hK _ ?_)<;>clear hK K
  ·(first|exact trivial|omega|(simp only [In64] at *; omega)|(simp [In64] at *; omega)|(simp_all; done)|skip)
  refine qa ?_
  have hm:tb∈plA out ta:=by
   have:(tb:Int)∈O1:=by simpa using hC3
   exact mem_ofNat.1 (hO1 ▸ this)
  have e1:plA (plA out ta) tb=plA out ta:=by
   generalize plA out ta=o at hm
   unfold plA
   rw [if_pos hm]
  rw [e1] at q2
  exact ⟨(i + 1,O1),[0],⟨by simp only; omega,plA out ta,hO1.symm,q2,by simp only; omega⟩,by simp only; omega,by simp only [leq,leA,evz,fl,gp,tab,simprocAttr,ol_ren,ol_sc]<;>first|trivial|trace_state⟩
 (try simp only [nhs] at hC1)
 refine qj (qc (qc (qf (qa (qm ?_)))))
 refine hk_region fun K hK=>runs_eval tab_ok ?_
 simp only [evz,fl,gp,tab,simprocAttr]
 refine fin_run trivial (hK _ ?_)<;>clear hK K
 refine qa (qk ?_)
 simp only [Try.results20,enA,evz,fl,gp,tab,simprocAttr]
 have hie:i=e.length:=by omega
 rw [hie,List.drop_length] at q2
 have q2:out=plS e:=q2
 rw [hO,q2]
 exact ⟨Nat.le_refl _,rfl⟩
theorem memB_iff {M:List (List Int)} {w:List Int} : memB M w=true↔Mem (M.map short) (short w):=by
 classical
 unfold memB; exact decide_eq_true_iff
end Go.Proofs.Ytneglephfhiamaa

namespace Go.Pv
open Go.RowKit
section
variable {P:Program} {T:TypeId→Option TI} {s:St}
end
end Go.Pv

namespace Go.Proofs.Ytneglephfhiamaa
open Go.Pv
end Go.Proofs.Ytneglephfhiamaa

namespace Go.Pv
open Go.RowKit
def nl:List Int→PV
 | []=>.nn []
 | x :: r=>.list (il (x :: r))
theorem nl_cons (l:List Int) (x:Int):nl (l++[x]) = .list (il (l++[x])):=by
 cases l<;>rfl
theorem nl_list {ok:Nat→Prop} {w:World} {l:List Int} {x:Value} (h:Reads ok w (nl l) x):Reads ok w (.list (il l)) x:=by
 cases l with
 | nil=>exact Reads.nn_list h
 | cons=>exact h
section
variable {P:Program} {T:TypeId→Option TI} {s:St}
theorem clipN_does (hT:∀ t ti,T t=some ti→tiOf P t=some ti) {o:Oper} {t:TypeId} {x y z:Operand} (ho:o.op = .slice t x none (some y) (some z)) {ti te:TI} (ht:T t=some ti) {e:TypeId} (hk:ti.kind = .slice e) (hte:T e=some te)
  {l:List Int} (hx:s.ev x = .p (nl l)) {k1 k2:IntKind} (hy:s.ev y = .p (.int k1 l.length)) (hz:s.ev z = .p (.int k2 l.length)):DoesW P o s (.p (.nn (il l))) s.H:=by
 intro C m a w K Q R hK
 have hu:=ti_slice (hT _ _ ht) hk
 have hss:=ti_size (hT _ _ hte) w
 have ey:a.eval y = .int k1 l.length:=eval_int R hy
 have ez:a.eval z = .int k2 l.length:=eval_int R hz
 have hv:=R.ev x
 rw [hx] at hv
 have hv:=hv.p_inv
 obtain ⟨ad,cap,hev,hcap⟩:∃ ad cap,a.eval x = .slice ad l.length cap∧l.length≤cap:=by
  generalize a.eval x=v at hv
  cases l with
  | nil =>
   rcases hv.nn_inv with ⟨_,ad,rfl⟩ | ⟨b,off,sz,vs,rfl,_⟩
   ·exact ⟨_,_,rfl,Nat.le_refl _⟩
   exact ⟨_,_,rfl,Nat.le_refl _⟩
  | cons c r =>
   have hil:(il (c :: r)).length=(c :: r).length:=il_length _
   have hv:Reads _ w (.list (il (c :: r))) v:=hv
   generalize hL:il (c :: r)=L at hv hil
   cases hv with
   | list0 a cap h=>cases hil
   | list l b off cap sz vs hb hsz hcap hc hr=>rw [hil] at hcap ⊢; exact ⟨_,_,rfl,hcap⟩
 have hbd:(Instr.sliceBounds true l.length cap none (some (a.eval y)) (some (a.eval z))).run P w = .ok (0,l.length,l.length) w:=by
  simp [Instr.sliceBounds,ey,ez,run_sliceBound _ k2 (l.length:Int) cap _ (Int.natCast_nonneg _) (by omega),run_sliceBound _ k1 (l.length:Int) l.length _ (Int.natCast_nonneg _) (Int.le_refl _)]
 have hrun:(execOp a.eval o).run P w = .ok (.value (.slice (if l.length=0 then ad else ad.map (·.add (0 * te.size))) (l.length - 0) (l.length - 0))) w:=by
  simp [execOp,ho,hev,Instr.sliceAt,Instr.slice,run_underlying hu,hbd,hss]
 refine opR_of_wp (by first|rfl|(rw [ho]; rfl)) ?_
 unfold Oper.wp
 rw [hrun]
 refine hK _ _ _ R (.p _ _ ?_)
 rw [hev] at hv
 cases l with
 | nil =>
  rcases hv.nn_inv with ⟨_,ad2,h⟩ | ⟨b,off,sz,vs,h,_⟩
  ·injection h with h
   subst h
   exact .nn0 _
  injection h with h
  subst h
  exact .nn0 _
 | cons c r =>
  have hil:(il (c :: r)).length=(c :: r).length:=il_length _
  have hv:Reads _ w (.list (il (c :: r))) (.slice ad (c :: r).length cap):=hv
  rw [← hil] at hv ⊢
  generalize hL:il (c :: r)=L at hv hil
  have hne:¬ L.length=0:=by rw [hil]; simp
  cases hv with
  | list0 _ _ h=>exact absurd rfl hne
  | list _ b off _ sz vs hb hsz hcap hc hr =>
   rw [if_neg hne,Nat.sub_zero]
   have e:(some (⟨b,off,none⟩:Addr)).map (·.add (0 * te.size))=some ⟨b,off,none⟩:=by simp [Addr.add]
   rw [e]
   exact .nn L b off sz vs hb hsz hc hr
theorem appendNn00_does (hT:∀ t ti,T t=some ti→tiOf P t=some ti) {o:Oper} {t:TypeId} {x y:Operand} (ho:o.op = .call { callee:=.builtin .append,args:=#[x,y],argTypes:=#[t,t] }) {ti te:TI} (ht:T t=some ti) {e:TypeId} (hk:ti.kind = .slice e) (hte:T e=some te) (hsz:te.size=1)
  {l:List PV} (hx:s.ev x = .p (.nn l)) (hy:s.ev y = .p (.nn [])):DoesW P o s (.p (.nn l)) s.H:=by
 intro C m a w K Q R hK
 obtain ⟨dst,op,type,pos,after,guard⟩:=o
 simp only at ho
 subst ho
 have hu:=ti_slice (hT _ _ ht) hk
 obtain ⟨i,d,z,h1,h2,h3,h4,h5,h6,h7,h8⟩:=tiOf_parts (hT _ _ hte)
 have h:=R.ev x
 rw [hx] at h
 have hl:=h.p_inv
 obtain ⟨ad,hv⟩:∃ ad,a.eval x = .slice (some ad) l.length l.length:=by
  generalize a.eval x=v at hl
  rcases hl.nn_inv with ⟨rfl,ad,rfl⟩ | ⟨b,off,sz,vs,rfl,_⟩
  ·exact ⟨ad,rfl⟩
  exact ⟨_,rfl⟩
 have hy':=R.ev y
 rw [hy] at hy'
 have hy':=hy'.p_inv
 obtain ⟨ad2,cap2,hv2⟩:∃ ad2 cap2,a.eval y = .slice ad2 0 cap2:=by
  generalize a.eval y=v at hy'
  rcases hy'.nn_inv with ⟨_,ad,rfl⟩ | ⟨b,off,sz,vs,rfl,_⟩
  ·exact ⟨_,_,rfl⟩
  exact ⟨_,_,rfl⟩
 have hr:=append_nothing (P:=P) (w:=w) type hu h1 (by rw [h4,hsz]) (ad:=some ad) (n:=l.length) (cap:=l.length) (x:=.slice ad2 0 cap2) src_nil (Nat.le_refl _)
 have hrun:(execOp a.eval { dst:=dst,op:=.call { callee:=.builtin .append,args:=#[x,y],argTypes:=#[t,t] },type:=type,pos:=pos,after:=after,guard:=guard }).run P w = .ok (.value (.slice (some ad) l.length l.length)) w:=by
  simp only [BigFrame.execOp_builtin,BigFrame.builtin_append,List.map_toArray,List.map_cons,List.map_nil,hv,hv2,Sem.run_bind,hr,Result.andThen_ok,Sem.run_pure]
 refine opR_of_wp (by first|rfl|(rw [ho]; rfl)) ?_
 unfold Oper.wp
 rw [hrun]
 rw [hv] at hl
 exact hK _ m w R (.p _ _ hl)
end
end Go.Pv

namespace Go.Proofs.Ytneglephfhiamaa
open Go.Pv
theorem FnG_pure {P:Program} {f:FuncId} {args:List PV} {r:PV} (h:FnG P f args (.p r) []):FnC P f args r:=
 ⟨h.1,fun okA w vals h1 h2 h3=>(h.2 okA w vals h1 h2 h3).mono fun e w' ⟨v,m',he,hbl,ho⟩=>⟨v,he,hbl,ho.val.p_inv.mono fun b hb=>⟨hb.1,hb.2.1⟩⟩⟩
theorem clip_nil:FnG Try.prog 80 [.nn []] (.p (.nn [])) []:=by
 refine fng_of tab_ok Try.func80 rfl (by kernel_rfl) (by rw [Try.ntmps80]; exact Nat.le_add_left 1 _) ?_; rw [Try.ntmps80]
 refine qm ?_
 refine hk_region fun K hK=>runs_eval tab_ok ?_
 simp only [evz,fl,gp,tab,simprocAttr]
 refine fin_run trivial (hK _ ?_)<;>clear hK K
 refine qa (qm ?_)
 refine hk_region fun K hK=>runs_eval tab_ok ?_
 simp only [evz,fl,gp,tab,simprocAttr]
 refine fin_stop ?_ (runs_op (clipN_does (l:=[]) (k1:=.i64) (k2:=.i64) tab_ok rfl rfl rfl rfl rfl rfl rfl) rfl (by simp only [dstOk,Nat.reduceLT]) (runs_eval tab_ok ?_))
 ·(first|exact trivial|omega|(simp only [In64] at *; omega)|(simp [In64] at *; omega)|(simp_all; done)|skip)
 simp only [evz,fl,gp,tab,simprocAttr]
 refine fin_run ?_ (hK _ ?_)<;>clear hK K
 ·(first|exact trivial|omega|(simp only [In64] at *; omega)|(simp [In64] at *; omega)|(simp_all; done)|skip)
 refine qa (qk ?_)
 simp only [Try.results80,PostG,endG,rvsA,rvA,mkTup,evz,fl,gp,tab,simprocAttr]
 all_goals (exact ⟨[],rfl,rfl,by simp only [leq,leA,evz,fl,gp,tab,simprocAttr]<;>trivial⟩)
theorem clip_cons (w:List Int) (hw:nl w = .list (il w)):FnG Try.prog 80 [.list (il w)] (.p (.nn (il w))) []:=by
 refine fng_of tab_ok Try.func80 rfl (by kernel_rfl) (by rw [Try.ntmps80]; exact Nat.le_add_left 1 _) ?_; rw [Try.ntmps80]
 refine qm ?_
 refine hk_region fun K hK=>runs_eval tab_ok ?_
 simp only [evz,fl,gp,tab,simprocAttr]
 refine fin_run trivial (hK _ ?_)<;>clear hK K
 refine qa (qm ?_)
 refine hk_region fun K hK=>runs_eval tab_ok ?_
 simp only [evz,fl,gp,tab,simprocAttr]
 refine fin_stop ?_ (runs_op (clipN_does (l:=w) (k1:=.i64) (k2:=.i64) tab_ok rfl rfl rfl rfl (by rw [hw]; rfl) rfl rfl) rfl (by simp only [dstOk,Nat.reduceLT]) (runs_eval tab_ok ?_))
 ·(first|exact trivial|omega|(simp only [In64] at *; omega)|(simp [In64] at *; omega)|(simp_all; done)|skip)
 simp only [evz,fl,gp,tab,simprocAttr]
 refine fin_run ?_ (hK _ ?_)<;>clear hK K
 ·(first|exact trivial|omega|(simp only [In64] at *; omega)|(simp [In64] at *; omega)|(simp_all; done)|skip)
 refine qa (qk ?_)
 simp only [Try.results80,PostG,endG,rvsA,rvA,mkTup,evz,fl,gp,tab,simprocAttr]
 all_goals (exact ⟨[],rfl,rfl,by simp only [leq,leA,evz,fl,gp,tab,simprocAttr]<;>trivial⟩)
theorem clip_n (w:List Int):FnC Try.prog 80 [nl w] (.nn (il w)):=by
 cases w with
 | nil=>exact FnG_pure clip_nil
 | cons c r=>exact FnG_pure (clip_cons (c :: r) rfl)
theorem clone_nil:FnG Try.prog 77 [.nn []] (.p (.nn [])) []:=by
 refine fng_of tab_ok Try.func77 rfl (by kernel_rfl) (by rw [Try.ntmps77]; exact Nat.le_add_left 1 _) ?_; rw [Try.ntmps77]
 refine qm ?_
 refine hk_region fun K hK=>runs_eval tab_ok ?_
 simp only [evz,fl,gp,tab,simprocAttr]
 refine fin_run trivial (hK _ ?_)<;>clear hK K
 refine qa (qm (qm ?_))
 refine hk_region fun K hK=>runs_eval tab_ok ?_
 simp only [evz,fl,gp,tab,simprocAttr]
 refine fin_run trivial (hK _ ?_)<;>clear hK K
 refine qa ?_
 refine hk_cond rfl (fun hC1=>?_) (fun hC1=>?_)
 ·(try simp only [nhs] at hC1)
  cases hC1
 (try simp only [nhs] at hC1)
 refine qh (qa (qm ?_))
 refine hk_region fun K hK=>runs_at 2 (runs_eval tab_ok ?_)
 simp only [List.take_succ_cons,List.take_zero]
 simp only [evz,fl,gp,tab,simprocAttr]
 refine fin_run trivial ?_
 refine runs_op (appendNn00_does tab_ok rfl rfl rfl rfl rfl rfl rfl) rfl (by simp only [dstOk]; decide) (runs_eval tab_ok ?_)
 simp only [evz,fl,gp,tab,simprocAttr]
 refine fin_run trivial (hK _ ?_)<;>clear hK K
 refine qa (qk ?_)
 simp only [Try.results77,PostG,endG,rvsA,rvA,mkTup,evz,fl,gp,tab,simprocAttr]
 all_goals (exact ⟨[],rfl,rfl,by simp only [leq,leA,evz,fl,gp,tab,simprocAttr]<;>trivial⟩)
theorem clone_n (w:List Int) (hl:w.length≤1000000000):FnC Try.prog 77 [nl w] (nl w):=by
 cases w with
 | nil=>exact FnG_pure clone_nil
 | cons c r=>exact clone_c (c :: r) hl
end Go.Proofs.Ytneglephfhiamaa

namespace Go.Proofs
open Go.Shelf
def Try.sortI_ren:Go.Shelf.Ren:=⟨fun | 189=>81 | 125=>90 | 257=>89 | 128=>100 | 129=>101 | 294=>91 | 295=>92 | 296=>93 | 297=>94 | 298=>95 | 299=>96 | 216=>97 | 300=>98 | 301=>99 | 328=>102 | 329=>103 | 330=>104 | 331=>105 | 332=>106 | 215=>107 | 343=>108 | n=>n,fun | 28=>35 | 3=>3 | 46=>117 | 0=>0 | 51=>127 | 53=>129 | 4=>4 | 183=>120 | 182=>119 | 131=>91 | 5=>5 | 9=>9 | 218=>130 | 222=>134 | 228=>137 | 229=>75 | n=>n,fun | n=>n⟩
theorem Try.sortI : Go.Proofs.Lays.n189 Try.prog Try.sortI_ren := {
  mixed := by kernel_rfl
  f125 := Try.func90.trans (congrArg some (by kernel_rfl))
  f128 := Try.func100.trans (congrArg some (by kernel_rfl))
  f129 := Try.func101.trans (congrArg some (by kernel_rfl))
  f189 := Try.func81.trans (congrArg some (by kernel_rfl))
  f215 := Try.func107.trans (congrArg some (by kernel_rfl))
  f216 := Try.func97.trans (congrArg some (by kernel_rfl))
  f257 := Try.func89.trans (congrArg some (by kernel_rfl))
  f294 := Try.func91.trans (congrArg some (by kernel_rfl))
  f295 := Try.func92.trans (congrArg some (by kernel_rfl))
  f296 := Try.func93.trans (congrArg some (by kernel_rfl))
  f297 := Try.func94.trans (congrArg some (by kernel_rfl))
  f298 := Try.func95.trans (congrArg some (by kernel_rfl))
  f299 := Try.func96.trans (congrArg some (by kernel_rfl))
  f300 := Try.func98.trans (congrArg some (by kernel_rfl))
  f301 := Try.func99.trans (congrArg some (by kernel_rfl))
  f328 := Try.func102.trans (congrArg some (by kernel_rfl))
  f329 := Try.func103.trans (congrArg some (by kernel_rfl))
  f330 := Try.func104.trans (congrArg some (by kernel_rfl))
  f331 := Try.func105.trans (congrArg some (by kernel_rfl))
  f332 := Try.func106.trans (congrArg some (by kernel_rfl))
  f343 := Try.func108.trans (congrArg some (by kernel_rfl))
  t0 := Try.underlying0
  a0 := Try.isAgg0
  z0 := Try.sizeOf0
  v0 := Try.zeroValue0
  t3 := Try.underlying3
  a3 := Try.isAgg3
  z3 := Try.sizeOf3
  v3 := Try.zeroValue3
  t4 := Try.underlying4
  a4 := Try.isAgg4
  z4 := Try.sizeOf4
  v4 := Try.zeroValue4
  t5 := Try.underlying5
  a5 := Try.isAgg5
  z5 := Try.sizeOf5
  v5 := Try.zeroValue5
  t9 := Try.underlying9
  a9 := Try.isAgg9
  z9 := Try.sizeOf9
  v9 := Try.zeroValue9
  t28 := Try.underlying35
  a28 := Try.isAgg35
  z28 := Try.sizeOf35
  v28 := Try.zeroValue35
  t46 := Try.underlying117
  a46 := Try.isAgg117
  z46 := Try.sizeOf117
  v46 := Try.zeroValue117
  t51 := Try.underlying127
  a51 := Try.isAgg127
  z51 := Try.sizeOf127
  v51 := Try.zeroValue127
  t53 := Try.underlying129
  a53 := Try.isAgg129
  z53 := Try.sizeOf129
  v53 := Try.zeroValue129
  t131 := Try.underlying91
  a131 := Try.isAgg91
  z131 := Try.sizeOf91
  v131 := Try.zeroValue91
  t182 := Try.underlying119
  a182 := Try.isAgg119
  z182 := Try.sizeOf119
  v182 := Try.zeroValue119
  t183 := Try.underlying120
  a183 := Try.isAgg120
  z183 := Try.sizeOf120
  v183 := Try.zeroValue120
  t218 := Try.underlying130
  a218 := Try.isAgg130
  z218 := Try.sizeOf130
  v218 := Try.zeroValue130
  t222 := Try.underlying134
  a222 := Try.isAgg134
  z222 := Try.sizeOf134
  v222 := Try.zeroValue134
  t228 := Try.underlying137
  a228 := Try.isAgg137
  z228 := Try.sizeOf137
  v228 := Try.zeroValue137
  t229 := Try.underlying75
  a229 := Try.isAgg75
  z229 := Try.sizeOf75
  v229 := Try.zeroValue75 }
end Go.Proofs

namespace Go.Proofs.Ytneglephfhiamaa
open Go.Pv
def Sl (N A κ:Nat) (Bd:Heap) (r:Nat) (L:List Int):St:=
 ⟨26,[(5,.sl N 0 L.length),(14,.itv r)],Bd++[.own (ol L),.anc A κ]⟩
theorem le_Sl {N A κ r q q2:Nat} {Bd:Heap} {L:List Int} {s:St} {d:List AV} (hN:Bd.length=N) (hκ:κ < N) (hBs:∀ b∈Bd,hsc N b=true) (hn:s.n=26) (hq:N≤q) (hq2:N≤q2) (hne:q ≠ q2)
  (h0:∀ i,i < N→hget s.H i=hget Bd i) (hd:hget s.H q = .own d) (hd2:hget s.H q2 = .anc A κ) (hW:ol L=d.take L.length) (g5:s.get 5 = .sl q 0 L.length) (g14:s.get 14 = .itv r):Le (List.range N++[q,q2]) (Sl N A κ Bd r L) s:=by
 have hπq:(List.range N++[q,q2]).getD N 0=q:=by
  rw [List.getD_eq_getElem?_getD,List.getElem?_append_right (by simp)]
  simp
 have hol:(ol L).length=L.length:=by simp [ol,il_length]
 refine le_behind2 (B:=Bd) (c:=ol L) (by rw [hn]; rfl) hN rfl hq hq2 hne hκ hBs h0 hd hd2 ?_ (ol_sc _ _) ?_
 ·rw [hol,← hW]; simp [ol,Go.Pv.ren,ren1]
 unfold Sl
 refine ⟨?_,?_,?_,?_,trivial⟩
 ·rw [g5]; simp only [Go.Pv.ren,ren1,hπq]
 ·simp [scA,sc1]
 ·rw [g14]; rfl
 rfl
section
variable {G:List Mp} {U:List Int}
set_option maxHeartbeats 4000000 in
set_option maxRecDepth 20000 in
theorem letters_e (w:WG G U) (hk:G.length≤100000000) {v:Nat} (hv:v < G.length):FnE Try.prog 58 [.ptr 0 0,.p (.int .i64 v)] (GB G U) (fun r H'=>r = .p (.list (il (lts (gm G v))))∧H' = GB G U):=by
 obtain ⟨Post,hP⟩:∃ Post:AV→Heap→Prop,Post=(fun r H'=>r = .p (.list (il (lts (gm G v))))∧H' = GB G U):=⟨_,rfl⟩
 rw [← hP]
 unfold GB
 refine fne_of tab_ok Try.func58 rfl (by kernel_rfl) (by rw [Try.ntmps58]; exact Nat.le_add_left 2 _) ?_; rw [Try.ntmps58]; simp only [ancs,entA,List.length_cons,List.length_nil,List.cons_append,List.nil_append,Nat.reduceAdd,Nat.zero_add]
 have hXl:(.anc 0 0 :: .anc 1 1 :: .anc 2 2 :: ancs 3 (G.map mpB).length:Heap).length=G.length + 3:=by simp [ancs_length]
 have hXs:∀ L,G.length + 3≤L→∀ b∈(.anc 0 0 :: .anc 1 1 :: .anc 2 2 :: ancs 3 (G.map mpB).length:Heap),hsc L b=true:=fun L hL b hb=>by
  have:(.anc 0 0 :: .anc 1 1 :: .anc 2 2 :: ancs 3 (G.map mpB).length:Heap)=ancs 0 (G.length + 3):=by rw [G_len]; rfl
  rw [this] at hb
  exact ancs_hsc (by omega) b hb
 have hXa:∀ j i:Nat,(.anc 0 0 :: .anc 1 1 :: .anc 2 2 :: ancs 3 (G.map mpB).length:Heap)[j]? ≠ some (.anc (G.length + 3) i):=fun j i hj=>by
  have:(.anc 0 0 :: .anc 1 1 :: .anc 2 2 :: ancs 3 (G.map mpB).length:Heap)=ancs 0 (G.length + 3):=by rw [G_len]; rfl
  rw [this] at hj
  have hjl:=(List.getElem?_eq_some_iff.1 hj).1
  rw [ancs_length] at hjl
  rw [ancs_at _ _ _ hjl] at hj
  simp at hj
  omega
 generalize (.anc 0 0 :: .anc 1 1 :: .anc 2 2 :: ancs 3 (G.map mpB).length:Heap)=X at hXl hXs hXa ⊢
 obtain ⟨n0,hn0⟩:∃ n0,G.length + (G.length + 3)=n0:=⟨_,rfl⟩
 have hXs3:=hXs (n0 + 3) (by omega)
 obtain ⟨B,hB⟩:∃ B,GB G U++X=B:=⟨_,rfl⟩
 have hBl:B.length=n0 + 3:=by rw [← hB,List.length_append,GB_len,hXl]; omega
 have hBs:∀ b∈B,hsc (n0 + 3) b=true:=hB ▸ GB_hscX (by omega) hXs3
 have hBa:∀ b∈B,∀ j,b ≠ .anc (G.length + 3) j:=fun b hb j e=>by
  rw [← hB] at hb
  subst e
  rcases List.mem_append.1 hb with hb | hb
  ·have:=(List.all_eq_true.1 (GB_na (G:=G) (U:=U))) _ hb
   cases this
  obtain ⟨i,hi⟩:=List.getElem?_of_mem hb
  exact hXa i j hi
 have hBg:hget B (v + 3)=mpB (gm G v):=by
  rw [← hB]
  show hget (G.map mpB++X) v=_
  exact hget_G hv
 obtain ⟨Bd,hBd⟩:∃ Bd,hset B (v + 3) .dead=Bd:=⟨_,rfl⟩
 have hDl:Bd.length=n0 + 3:=by rw [← hBd,hset_length]; exact hBl
 have hDm:∀ b∈Bd,b = .dead∨b∈B:=fun b hb=>by
  rw [← hBd,hset_eq] at hb
  rcases List.mem_or_eq_of_mem_set hb with h | h
  ·exact .inr h
  exact .inl h
 have hDs:∀ b∈Bd,hsc (n0 + 3) b=true:=fun b hb=>by
  rcases hDm b hb with rfl | h
  ·rfl
  exact hBs b h
 have hDg:∀ i,hget Bd i=if i=v + 3∧v + 3 < B.length then .dead else hget B i:=fun i=>by rw [← hBd,hset_hget]
 have hH:∀ R:Heap,Blk.own [.sl 1 0 G.length,.sl 2 0 U.length] :: .own (mps G.length) :: .own (ol U) :: (G.map mpB++X++R)=B++R:=fun R=>by
  rw [← hB]; unfold GB; simp
 have happ1:∀ (R:Heap) (i:Nat),i < n0 + 3→hget (B++R) i=hget B i:=fun R i hi=>hget_app1 (by rw [hBl]; exact hi)
 have happ2:∀ (R:Heap) (j:Nat),hget (B++R) (n0 + 3 + j)=hget R j:=fun R j=>by
  rw [hget_app2 (by rw [hBl]; omega),hBl,Nat.add_sub_cancel_left]
 have hdp1:∀ (R:Heap) (i:Nat),i < n0 + 3→hget (Bd++R) i=hget Bd i:=fun R i hi=>hget_app1 (by rw [hDl]; exact hi)
 have hdp2:∀ (R:Heap) (j:Nat),hget (Bd++R) (n0 + 3 + j)=hget R j:=fun R j=>by
  rw [hget_app2 (by rw [hDl]; omega),hDl,Nat.add_sub_cancel_left]
 have hGX:(G.map mpB++X).length=n0:=by rw [List.length_append,G_len,hXl]; exact hn0
 refine qm ?_
 refine hk_region fun K hK=>runs_eval tab_ok ?_
 simp only [evz,fl,gp,tab,simprocAttr]
 refine fin_run trivial (hK _ ?_)<;>clear hK K
 refine qa (qm ?_)
 refine hk_region fun K hK=>runs_eval tab_ok ?_
 simp only [evz,fl,gp,tab,simprocAttr]
 refine fin_run trivial (hK _ ?_)<;>clear hK K
 refine qa (qm ?_)
 refine hk_own0 5 rfl ?_
 refine hk_rangeF tab_ok 7 rfl rfl rfl rfl (G.length + 3) ?_
 simp only [List.length_cons,hGX,List.cons_append]
 refine runs_cut fun K hK=>?_
 simp only [List.take_succ_cons,List.take_zero]
 refine runs_eval tab_ok ?_
 simp only [evz,fl,gp,tab,simprocAttr,mps_get hv,Int.toNat_natCast,Int.ofNat_eq_natCast,mps_len]
 refine fin_run ?_ (hK _ ?_)<;>clear hK K
 ·exact ⟨⟨by omega,by omega⟩,hv⟩
 refine ⟨v + 3,.i64,fun z=>(gm G v z).isSome,fun z=>.int .i64 ((gm G v z).getD 0),rfl,by
  simp only [hH]
  exact (happ1 _ _ (by omega)).trans hBg,fun _ _=>rfl,?_,rfl,
  fun r' L=>Sl (n0 + 3) (G.length + 3) (v + 3) Bd r' L,List.range (n0 + 3)++[n0 + 3,n0 + 3 + 1],v + 3,n0 + 3 + 1,?_,?_,?_,?_⟩
 ·intro k' j hj
  simp only [hH] at hj
  rcases List.mem_append.1 (List.mem_of_getElem? hj) with h | h
  ·exact hBa _ h j rfl
  simp at h
 ·intro r' L
  refine ⟨rfl,rfl,?_,?_,fun k' j hj=>?_⟩
  ·show (Bd++_)[v + 3]? = _
   rw [List.getElem?_append_left (by omega),← hBd,hset_get,if_pos ⟨rfl,by omega⟩]
  ·show (Bd++[_,_])[n0 + 3 + 1]? = _
   rw [List.getElem?_append_right (by omega),hDl,Nat.add_sub_cancel_left]; rfl
  have hj:(Bd++[Blk.own (ol L),Blk.anc (G.length + 3) (v + 3)])[k']? = some (.anc (G.length + 3) j):=hj
  by_cases h:k' < n0 + 3
  ·rw [List.getElem?_append_left (by omega)] at hj
   rcases hDm _ (List.mem_of_getElem? hj) with h2 | h2
   ·cases h2
   exact absurd rfl (hBa _ h2 j)
  rw [List.getElem?_append_right (by omega),hDl] at hj
  have h3:=(List.getElem?_eq_some_iff.1 hj).1
  simp only [List.length_cons,List.length_nil] at h3
  by_cases h4:k' = n0 + 3
  ·rw [h4,Nat.sub_self] at hj; simp at hj
  omega
 ·intro r'
  simp only [hH]
  have hs1:∀ (R:Heap) (x:Blk) (i:Nat),i < n0 + 3→hget (hset (B++R) (v + 3) .dead++[x]) i=hget Bd i:=fun R x i hi=>by
   rw [hget_app1 (by rw [hset_length,List.length_append]; omega),hset_hget,happ1 R i hi,hDg]
   simp only [List.length_append]
   by_cases h:i=v + 3
   ·rw [if_pos ⟨h,by omega⟩,if_pos ⟨h,by omega⟩]
   rw [if_neg (fun e=>h e.1),if_neg (fun e=>h e.1)]
  refine le_Sl (d:=[]) hDl (by omega) hDs rfl (Nat.le_refl _) (by omega) (by omega) (hs1 _ _) ?_ ?_ rfl rfl rfl
  ·show hget (hset (B++[_]) (v + 3) .dead++[_]) (n0 + 3)=_
   rw [hget_app1 (by rw [hset_length,List.length_append]; simp; omega),hset_hget,if_neg (by omega)]
   exact happ2 _ 0
  show hget (hset (B++[_]) (v + 3) .dead++[_]) (n0 + 3 + 1)=_
  rw [hget_app2 (by rw [hset_length,List.length_append]; simp; omega),hset_length,List.length_append]
  simp [hBl,hget]
 ·intro r' L z hLn hLd hz hzn
  have hLl:L.length≤53:=keys_len hLn fun y hy=>by
   obtain ⟨u,hu⟩:=Option.isSome_iff_exists.1 (show (gm G v y).isSome=true from hLd y hy)
   exact (w.ent v y u (by omega) hu).2.2.2
  refine runs_cut fun K hK=>?_
  simp only [List.drop_succ_cons,List.drop_zero]
  refine runs_eval tab_ok ?_
  simp only [evz,fl,gp,tab,simprocAttr,Sl]
  refine fin_run trivial (hK _ ?_)<;>clear hK K
  refine hk_region fun K hK=>runs_eval tab_ok ?_
  simp only [evz,fl,gp,tab,simprocAttr,hdp2 [_,_] 0]
  refine fin_run ?_ (hK _ ?_)<;>clear hK K
  ·exact ⟨Nat.le_refl _,by omega,by omega⟩
  refine qd (qa ?_)
  refine ⟨List.range (n0 + 3)++[n0 + 3 + 2,n0 + 3 + 1],le_Sl (d:=ol (L++[z])) hDl (by omega) hDs rfl (by omega) (by omega) (by omega) (fun i hi=>?_) ?_ ?_ ?_ ?_ rfl⟩
  ·show hget (hset (Bd++[_,_]) (n0 + 3) .dead++[_]) i=_
   rw [hget_app1 (by rw [hset_length,List.length_append]; omega),hset_hget,if_neg (by omega),hdp1 _ _ hi]
  ·show hget (hset (Bd++[_,_]) (n0 + 3) .dead++[_]) (n0 + 3 + 2)=_
   rw [hget_app2 (by rw [hset_length,List.length_append]; simp; omega),hset_length,List.length_append]
   simp [hDl,hget]
  ·show hget (hset (Bd++[_,_]) (n0 + 3) .dead++[_]) (n0 + 3 + 1)=_
   rw [hget_app1 (by rw [hset_length,List.length_append]; simp; omega),hset_hget,if_neg (by omega)]
   exact hdp2 _ 1
  ·exact (List.take_of_length_le (by simp [ol,il_length])).symm
  show AV.sl (Bd++[_,_]).length 0 (L.length + 1)=_
  simp [hDl]
 intro r' L hLn hLd
 have hLb:∀ z∈L,-26≤z∧z≤26:=fun y hy=>by
  obtain ⟨u,hu⟩:=Option.isSome_iff_exists.1 ((hLd y).2 hy)
  exact (w.ent v y u (by omega) hu).2.2.2
 have hsl:srt L=lts (gm G v):=srt_lts hLn hLd hLb
 have hLl:L.length≤53:=keys_len hLn hLb
 have hll:(lts (gm G v)).length=L.length:=by rw [← hsl]; exact (List.mergeSort_perm L _).length_eq
 have hmn:∀ b∈B,hsc (n0 + 3 + 1) b=true:=fun b hb=>by
  have h:=hBs b hb
  cases b with
  | own c=>exact List.all_eq_true.2 fun x hx=>scA_mn (Nat.le_succ _) ((List.all_eq_true.1 h) x hx)
  | anc i j=>simp only [hsc,decide_eq_true_eq] at h ⊢; omega
  | _=>rfl
 refine qa (qm ?_)
 refine hk_le (s1:=⟨26,[(5,.sl (n0 + 3) 0 L.length)],B++[.own (ol L)]⟩) (List.range (n0 + 3)++[n0 + 3]) (le_behind (B:=B) (c:=ol L) (d:=ol L) rfl hBl rfl hmn (Nat.le_refl _) hBs (fun i hi=>?_) ?_ ?_ (ol_sc _ _) ?_) ?_
 ·show hget (hset (hset (Bd++[_,_]) (v + 3) _) (n0 + 3 + 1) .dead) i=_
  rw [hset_hget,if_neg (by omega),hset_hget,List.length_append,hdp1 _ _ hi,hDg]
  by_cases h:i=v + 3
  ·rw [if_pos ⟨h,by simp; omega⟩,h,hBg]; rfl
  rw [if_neg (fun e=>h e.1),if_neg (fun e=>h e.1)]
 ·show hget (hset (hset (Bd++[_,_]) (v + 3) _) (n0 + 3 + 1) .dead) (n0 + 3)=_
  rw [hset_hget,if_neg (by omega),hset_hget,if_neg (by omega)]
  exact hdp2 _ 0
 ·rw [List.take_of_length_le (Nat.le_refl _)]; simp [ol,Go.Pv.ren,ren1]
 ·refine ⟨?_,?_,trivial⟩
  ·show AV.sl (n0 + 3) 0 L.length=_
   have:(List.range (n0 + 3)++[n0 + 3]).getD (n0 + 3) 0=n0 + 3:=by
    rw [List.getD_eq_getElem?_getD,List.getElem?_append_right (by simp)]
    simp
   simp only [Go.Pv.ren,ren1,this]
  simp [scA,sc1]
 have hput:∀ σ,putM (B++[.own (ol L)]) [n0 + 3] [Blk.ren σ (.own (opl (il (lts (gm G v)))))]=B++[.own (ol (lts (gm G v)))]:=fun σ=>by
  simp only [Blk.ren,opl_ren,putM,List.append_nil]
  rw [hset_eq,List.set_append_right _ _ (by omega),hBl,Nat.sub_self]; rfl
 refine hk_region fun K hK=>runs_eval tab_ok ?_
 simp only [evz,fl,gp,tab,simprocAttr]
 refine fin_stop ?_ (runs_callM [n0 + 3] (sortI_m Go.Proofs.Try.sortI L (by omega)) rfl rfl ⟨⟨rfl,rfl⟩,trivial⟩ ⟨show LeB [n0 + 3] (B++[.own (ol L)]) (n0 + 3) (.own (ol L)) from leB_ol (happ2 _ 0),trivial⟩ (by simp) (by simp [hBl]) (by simp [scM,scA,sc1,opl_sc,mpKeep,notAnc]) (by simp only [dstOk,Nat.reduceLT]) (runs_eval tab_ok ?_))
 ·exact trivial
 simp only [hsl,List.map_cons,List.map_nil,hput]
 simp only [evz,fl,gp,tab,simprocAttr,ren,ren1]
 refine fin_run trivial (hK _ ?_)<;>clear hK K
 refine qa (qm ?_)
 refine hk_seal 5 (n0 + 3) (w:=lts (gm G v)) ?_ ?_ ?_
 ·show AV.sl (n0 + 3) 0 L.length=_
  rw [hll]
 ·exact happ2 _ 0
 refine hk_region fun K hK=>runs_eval tab_ok ?_
 simp only [evz,fl,gp,tab,simprocAttr]
 refine fin_run trivial (hK _ ?_)<;>clear hK K
 refine qa (qk ?_)
 simp only [Try.results58,PostG,endG,rvsA,rvA,mkTup,evz,fl,gp,tab,simprocAttr]
 refine ⟨.p (.list (il (lts (gm G v)))),GB G U,by rw [hP]; exact ⟨rfl,rfl⟩,List.range (n0 + 3),rfl,rfl,?_⟩
 refine le_stay (B:=GB G U++X) rfl (by rw [hB]; exact hBl) rfl (by rw [hB]; exact hBs) (fun i hi=>?_) trivial
 show hget (hset (B++[_]) (n0 + 3) _) i=_
 rw [hset_hget,if_neg (by omega),happ1 _ _ hi,hB]
theorem letters_c (w:WG G U) (hk:G.length≤100000000) {v:Nat} (hv:v < G.length):FnM Try.prog 58 [.ptr 0 0,.p (.int .i64 v)] (GB G U) (.p (.list (il (lts (gm G v))))) (GB G U):=
 (letters_e w hk hv).one fun _ _ h=>h
end
end Go.Proofs.Ytneglephfhiamaa

namespace Go.Pv
open Go.RowKit
section
variable {P:Program} {T:TypeId→Option TI}
def RunsE (P:Program) (all:Array Oper):Nat→List Oper→(St→Prop)→St→Prop
 | 0,l,K,s=>Runs P false all l K s
 | j + 1,l,K,s=>∃ n,Runs P false all (l.take n) (fun s1=>∃ o O,l[n]? = some o∧guardA all s1 o=some true∧dstOk s1 o.dst∧DoesE P o s1 O∧∀ av H',O av H'→RunsE P all j (l.drop (n + 1)) K (({ s1 with H:=H' } : St).put o.dst av)) s
theorem runsE_sound {all:Array Oper} {Q:Exit→Act→World→Prop} {C:Ctx} {ds:List Deferred} {K:St→Prop} : ∀ (j:Nat) (l:List Oper) (s:St),RunsE P all j l K s→∀ {m:Map} {a:Act} {w:World},Rel C m s a.tmps w→a.defers=ds →
  (∀ s' m' (a' : Act) w',K s'→Rel C m' s' a'.tmps w'→a'.defers=ds→Q .normal a' w')→lstR P all Q l a w
 | 0,l,s,⟨s',hr,hK⟩,m,a,w,R,hd,hQ=>hr.sound R hd fun m' a' w' R' hd'=>hQ s' m' a' w' hK R' hd'
 | j + 1,l,s,⟨n,s1,hr,o,O,ho,hg,hdst,hdo,hrest⟩,m,a,w,R,hd,hQ=>by
  have hL:l=l.take n++(o :: l.drop (n + 1)):=by
   have hn:=(List.getElem?_eq_some_iff.1 ho).1
   have h1:=List.drop_eq_getElem_cons (l:=l) (i:=n) hn
   rw [List.getElem?_eq_getElem hn,Option.some.injEq] at ho
   rw [ho] at h1
   rw [← h1,List.take_append_drop]
  rw [hL]
  refine hr.soundK R hd fun m' a' w' R' hd'=>?_
  have hw:=guardA_wanted (P:=P) R' hg
  refine lstR_step fun K2 hK2=>?_
  rw [if_pos hw]
  refine hdo C m' a' w' K2 _ R' fun v m2 w2 av H' hO R2 hv=>hK2 _ _ ?_
  exact runsE_sound j _ _ (hrest av H' hO) (R2.put (dstOk_spec hdst) hv) (by rw [put_defers]; exact hd') hQ
theorem hk_regEn {s:St} {id:Nat} {L:List Oper} {Q:Exit→St→Prop} (j:Nat) (h:RunsE P L.toArray j L (Q .normal) s):Holds P (.region id L.toArray false) Q s:=by
 intro r ds C m a w R hd
 refine wpR_region_lit ?_
 exact runsE_sound j L s h R hd fun s' m' a' w' hK R' hd'=>⟨s',m',hK,R',hd'⟩
end
end Go.Pv

namespace Go.Pv
open Go.RowKit
section
variable {P:Program}
theorem runsMid_sound {all:Array Oper} {Q:Exit→Act→World→Prop} {C:Ctx} {ds:List Deferred} {K:St→Prop} {l:List Oper} {s:St} (n:Nat)
  (h:Runs P false all (l.take n) (fun s1=>∃ s2,(∀ (C:Ctx) (m:Map) (tmps:Array Value) (w:World),Rel C m s1 tmps w→Rel C m s2 tmps w)∧Runs P false all (l.drop n) K s2) s) {m:Map} {a:Act} {w:World} (R:Rel C m s a.tmps w) (hd:a.defers=ds)
  (hQ:∀ s' m' (a' : Act) w',K s'→Rel C m' s' a'.tmps w'→a'.defers=ds→Q .normal a' w'):lstR P all Q l a w:=by
 obtain ⟨s1,hr,s2,hm,s',hr2,hK⟩:=h
 rw [show l=l.take n++l.drop n from (List.take_append_drop n l).symm]
 refine hr.soundK R hd fun m' a' w' R' hd'=>?_
 exact hr2.sound (hm C m' a'.tmps w' R') hd' fun m2 a2 w2 R2 hd2=>hQ s' m2 a2 w2 hK R2 hd2
theorem hk_regMid {s:St} {id:Nat} {L:List Oper} {Q:Exit→St→Prop} (n:Nat)
  (h:Runs P false L.toArray (L.take n) (fun s1=>∃ s2,(∀ (C:Ctx) (m:Map) (tmps:Array Value) (w:World),Rel C m s1 tmps w→Rel C m s2 tmps w)∧Runs P false L.toArray (L.drop n) (Q .normal) s2) s):Holds P (.region id L.toArray false) Q s:=by
 intro r ds C m a w R hd
 refine wpR_region_lit ?_
 exact runsMid_sound n h R hd fun s' m' a' w' hK R' hd'=>⟨s',m',hK,R',hd'⟩
theorem Rel.sealI {C:Ctx} {m:Map} {s:St} {tmps:Array Value} {w:World} (R:Rel C m s tmps w) (t k:Nat) {l:List Int} (h1:s.get t = .sl k 0 l.length) (h2:hget s.H k = .own (ol l)):Rel C m { s with sl:=(t,.p (.list (il l))) :: s.sl,H:=hset s.H k (.fro (il l)) } tmps w:=by
 have hkl:k < s.H.length:=(List.getElem?_eq_some_iff.1 (hget_mut h2)).1
 have e2:hget (hset s.H k (.fro (il l))) k = .fro (il l):=by rw [hset_hget,if_pos ⟨rfl,hkl⟩]
 have R2:=R.freeze h2 (ol_allP l)
 have h3:peekG (hset s.H k (.fro (il l))) (({ s with H:=hset s.H k (.fro (il l)) } : St).get t)=some (0 + l.length≤(il l).length∧(((il l).drop 0).take l.length).all PV.one=true,.list (((il l).drop 0).take l.length),true):=by
  have e:({ s with H:=hset s.H k (.fro (il l)) } : St).get t = .sl k 0 l.length:=h1
  rw [e]
  simp only [peekG,peekS,e2]
 have R3:=R2.pure h3 (by
  simp only [il_length,List.drop_zero,il_take,take_len,il_all]
  exact ⟨by omega,trivial⟩)
 simp only [List.drop_zero,il_take,take_len] at R3
 exact R3
end
end Go.Pv

namespace Go.Pv
open Go.RowKit
section
variable {P:Program} {C:Ctx} {m:Map} {s:St} {tmps:Array Value} {w:World}
theorem Rel.mpw (R:Rel C m s tmps w) {k:Nat} {kk:IntKind} {d:Int→Bool} {v v' : Int→PV} (hk:hget s.H k = .mp kk d v) (hv:∀ z,d z=true→∀ ok w x,Reads ok w (v z) x→Reads ok w (v' z) x):Rel C m { s with H:=hset s.H k (.mp kk d v') } tmps w:=by
 have hk2:=hget_some hk (by simp)
 have hkl:k < s.H.length:=(List.getElem?_eq_some_iff.1 hk2).1
 have hget:∀ (j:Nat) (b:Blk),(hset s.H k (.mp kk d v'))[j]? = some b→(j=k∧b = .mp kk d v')∨(j ≠ k∧s.H[j]? = some b):=by
  intro j b h
  rw [hset_get] at h
  by_cases e:j=k
  ·rw [if_pos ⟨e,hkl⟩] at h; exact .inl ⟨e,(Option.some.inj h).symm⟩
  rw [if_neg (by simp [e])] at h; exact .inr ⟨e,h⟩
 have hown:∀ (j:Nat) (c:List AV),(hset s.H k (.mp kk d v'))[j]? = some (.own c)→s.H[j]? = some (.own c):=fun j c h=>by
  rcases hget j _ h with ⟨_,e⟩ | ⟨_,h⟩
  ·cases e
  exact h
 have hok:∀ b,OK C m s.H w b→OK C m (hset s.H k (.mp kk d v')) w b:=fun b h=>⟨h.1,h.2.1,fun j c l hj hl=>h.2.2 j c l (hown j c hj) hl⟩
 have rdx:∀ p x,Reads (OK C m s.H w) w p x→Reads (OK C m (hset s.H k (.mp kk d v')) w) w p x:=fun p x h=>h.mono hok
 have hlen:s.H.length≤(hset s.H k (.mp kk d v')).length:=by rw [hset_length]; exact Nat.le_refl _
 refine ⟨R.laid.ext rdx,R.below,R.base,R.size,fun j j' c c' l l' h1 h2=>R.inj j j' c c' l l' (hown j c h1) (hown j' c' h2),fun j c h=>?_,fun j c h=>?_,fun t=>(R.slot t).ext rdx hlen fun _ _=>rfl,fun j kk2 d2 v2 h=>?_,fun j j' kk2 d2 v2 kk3 d3 v3 l l' h1 h2 h3 h4 h5=>?_,fun j i i' h=>?_,?_⟩
 ·exact (R.blk j c (hown j c h)).ext rdx hlen (fun _ _=>rfl) rfl fun _ _=>rfl
 ·rcases hget j _ h with ⟨_,e⟩ | ⟨_,h⟩
  ·cases e
  rcases R.fro j c h with h' | ⟨l2,vs2,b1,b2,b3,b4⟩
  ·exact .inl h'
  exact .inr ⟨l2,vs2,b1,hok _ b2,b3,fun i hi=>⟨(b4 i hi).1,rdx _ _ (b4 i hi).2⟩⟩
 ·rcases hget j _ h with ⟨rfl,e⟩ | ⟨_,h⟩
  ·simp only [Blk.mp.injEq] at e
   obtain ⟨rfl,rfl,rfl⟩:=e
   obtain ⟨l,ar,clk,vs,a1,a2,a3,a4,a5,a6,a7⟩:=R.mp.1 j _ _ v hk2
   exact ⟨l,ar,clk,vs,a1,a2,a3,a4,a5,a6,fun z hz=>hv z hz _ _ _ (rdx _ _ (a7 z hz))⟩
  obtain ⟨l,ar,clk,vs,a1,a2,a3,a4,a5,a6,a7⟩:=R.mp.1 j _ _ _ h
  exact ⟨l,ar,clk,vs,a1,a2,a3,a4,a5,a6,fun z hz=>rdx _ _ (a7 z hz)⟩
 ·have old:∀ (j:Nat) (kk2:IntKind) (d2:Int→Bool) (v2:Int→PV),(hset s.H k (.mp kk d v'))[j]? = some (.mp kk2 d2 v2)→∃ v4,s.H[j]? = some (.mp kk2 d2 v4):=fun j kk2 d2 v2 h=>by
   rcases hget j _ h with ⟨rfl,e⟩ | ⟨_,h⟩
   ·simp only [Blk.mp.injEq] at e
    obtain ⟨rfl,rfl,rfl⟩:=e
    exact ⟨v,hk2⟩
   exact ⟨v2,h⟩
  obtain ⟨v4,h1'⟩:=old j _ _ _ h1
  obtain ⟨v5,h2'⟩:=old j' _ _ _ h2
  exact R.mp.2.1 j j' kk2 d2 v4 kk3 d3 v5 l l' h1' h2' h3 h4 h5
 ·rcases hget j _ h with ⟨_,e⟩ | ⟨_,h⟩
  ·cases e
  obtain ⟨a1,a2⟩:=R.mp.2.2.1 j i i' h
  exact ⟨by simp only [hset_length]; exact a1,a2⟩
 refine R.mp.2.2.2.ext id (fun j r h=>?_) (fun _ _ _ _ _ _ h=>h) (fun _ _ _ _ _ h=>rfl) fun _ _ _ _ _ h=>h
 rcases hget j _ h with ⟨_,e⟩ | ⟨_,h⟩
 ·cases e
 exact ⟨h,rfl⟩
theorem hk_mpw {c:Code} {Q:Exit→St→Prop} (k:Nat) {kk:IntKind} {d:Int→Bool} {v v' : Int→PV} (hk:hget s.H k = .mp kk d v) (hv:∀ z,d z=true→∀ ok w x,Reads ok w (v z) x→Reads ok w (v' z) x) (h:Holds P c Q { s with H:=hset s.H k (.mp kk d v') }):Holds P c Q s:=
 fun r ds C m a w R hd=>h r ds C m a w (R.mpw hk hv) hd
end
end Go.Pv

namespace Go.Proofs.Ytneglephfhiamaa
open Go.Pv
def wayB (f:Wy):Blk:=.mp .i64 (fun z=>(f z).isSome) (fun z=>.list (il ((f z).getD [])))
def wayN (f:Wy):Blk:=.mp .i64 (fun z=>(f z).isSome) (fun z=>nl ((f z).getD []))
theorem wayN_zero:Blk.mp .i64 (fun u=>decide (u=0) || false) (fun z=>nl ((updW (fun _=>none) 0 [] z).getD []))=wayN (updW (fun _=>none) 0 []):=by
 unfold wayN
 congr 1
 funext z
 unfold updW
 by_cases h:z=0<;>simp [h]
theorem wayN_upd (f:Wy) (u:Int) (l:List Int) (x:Int):Blk.mp .i64 (fun z=>decide (z=u) || (f z).isSome) (fun z=>bif decide (z=u) then .list (il (l++[x])) else nl ((f z).getD []))=wayN (updW f u (l++[x])):=by
 unfold wayN updW
 congr 1
 ·funext z
  by_cases h:z=u<;>simp [h]
 funext z
 by_cases h:z=u
 ·simp only [h,decide_true,cond_true,if_true,Option.getD_some]; exact (nl_cons l x).symm
 simp only [h,decide_false,cond_false,if_false]
section
variable {G:List Mp} {U:List Int}
theorem runs_letters {s:St} {all:Array Oper} {rest:List Oper} {K:St→Prop} {dst:Option Tmp} {ty:TypeId} {pos:String} {aft:Array Edge} {gd:Option (Nat × Bool)} {fo:Operand} {args:Array Operand} {ts:Array TypeId} {X:Heap}
  (w:WG G U) (hk:G.length≤100000000) {v:Nat} (hv:v < G.length) (hfo:s.ev fo = .p (.fn 58 [])) (hg:guardA all s { dst:=dst,op:=.call { callee:=.value fo,args:=args,argTypes:=ts },type:=ty,pos:=pos,after:=aft,guard:=gd } = some true)
  (hH:s.H=GB G U++X) (hargs:args.toList.map s.ev++([]:List PV).map .p=[.ptr 0 0,.p (.int .i64 v)]) (hd:dstOk s dst)
  (h:Runs Try.prog false all rest K (({ s with H:=GB G U++X } : St).put dst (.p (.list (il (lts (gm G v))))))) :
  Runs Try.prog false all ({ dst:=dst,op:=.call { callee:=.value fo,args:=args,argTypes:=ts },type:=ty,pos:=pos,after:=aft,guard:=gd } :: rest) K s:=
 runs_callP (letters_c w hk hv) hfo hg hH hargs (by rw [GB_len]; simp [scA,sc1]) GB_all GB_na (GB_scP rfl) hd h
theorem le_mid {S s:St} {B X:Heap} {N n0:Nat} {kk:IntKind} {d:Int→Bool} {v:Int→PV} (hn:S.n=s.n) (hN:B.length=N) (hn0:N + X.length=n0) (hSH:S.H=B++[.mp kk d v]++X) (hB:∀ b∈B,hsc N b=true) (hX:∀ b∈X,hsc N b=true)
  (h0:∀ i,i < N→hget s.H i=hget B i) (h1:∀ i,i < X.length→hget s.H (N + i)=hget X i) (h2:hget s.H n0 = .mp kk d v) (hsl:LeS (List.range N++[n0]++List.range' N X.length) S.sl s):Le (List.range N++[n0]++List.range' N X.length) S s:=by
 have hπ:∀ i,i < N→(List.range N++[n0]++List.range' N X.length).getD i 0=i:=fun i hi=>by
  rw [List.append_assoc,List.getD_eq_getElem?_getD,List.getElem?_append_left (by simpa using hi)]
  simp [List.getElem?_range hi]
 refine ⟨hn,?_,?_,hsl⟩
 ·rw [List.nodup_append,List.nodup_append]
  refine ⟨⟨List.nodup_range,by simp,fun x hx y hy=>?_⟩,List.nodup_range',fun x hx y hy=>?_⟩
  ·have:=List.mem_range.1 hx
   rw [List.mem_singleton] at hy
   omega
  have hy:=List.mem_range'_1.1 hy
  rcases List.mem_append.1 hx with hx | hx
  ·have:=List.mem_range.1 hx; omega
  rw [List.mem_singleton] at hx; omega
 rw [hSH]
 refine leH_app (leH_app ?_ ⟨h2,trivial⟩) ?_
 ·have:=leH_stay (π:=List.range N++[n0]++List.range' N X.length) (H:=s.H) (B:=B) (a:=0) (L:=N) hπ (by simp) hB (fun i hi=>by rw [Nat.zero_add]; exact h0 i (by omega))
  rwa [hN,← List.range_eq_range'] at this
 exact leH_stay (π:=List.range N++[n0]++List.range' N X.length) (H:=s.H) (B:=X) (a:=N) (L:=N) hπ (by simp) hX h1
set_option maxHeartbeats 4000000 in
set_option maxRecDepth 20000 in
theorem reach_e (w0:WG G U) (hp:0 < G.length) (hk:G.length≤100000000) :
  FnE Try.prog 55 [.ptr 0 0] (GB G U) (fun r H'=>∃ (lst:List Nat) (f:Wy) (U' : List Int),r = .tup [.p (.list (il (lst.map Int.ofNat))),.mptr (G.length + 3)]∧H' = GB G U'++[wayB f]∧(WG G U'∧∀ u,u < G.length→rV U' u=rV U u)∧BI G U' lst f∧BQ G U' lst f lst.length):=by
 obtain ⟨Post,hP⟩:∃ Post:AV→Heap→Prop,Post=(fun r H'=>∃ (lst:List Nat) (f:Wy) (U' : List Int),r = .tup [.p (.list (il (lst.map Int.ofNat))),.mptr (G.length + 3)]∧H' = GB G U'++[wayB f]∧(WG G U'∧∀ u,u < G.length→rV U' u=rV U u)∧BI G U' lst f∧BQ G U' lst f lst.length):=⟨_,rfl⟩
 rw [← hP]
 refine fne_of tab_ok Try.func55 rfl (by kernel_rfl) (by rw [Try.ntmps55]; exact Nat.le_add_left 1 _) ?_; rw [Try.ntmps55]; simp only [ancs,entA,List.length_cons,List.length_nil,List.cons_append,List.nil_append,Nat.reduceAdd,Nat.zero_add]
 have hYl:(ancs 0 (GB G U).length).length=G.length + 3:=by rw [ancs_length,GB_len]
 have hXs0:∀ L,G.length + 3≤L→∀ b∈ancs 0 (GB G U).length,hsc L b=true:=fun L hL b hb=>ancs_hsc (by rw [GB_len]; omega) b hb
 generalize ancs 0 (GB G U).length=X at hYl hXs0 ⊢
 obtain ⟨n0,hn0⟩:∃ n0,G.length + 3 + (G.length + 3)=n0:=⟨_,rfl⟩
 have hBl:∀ U1,(GB G U1++X).length=n0:=fun U1=>by rw [List.length_append,GB_len,hYl]; exact hn0
 obtain ⟨U1,hU1⟩:∃ U1,ofU U 0=U1:=⟨_,rfl⟩
 have w1:WG G U1:=hU1 ▸ w0.of hp
 have r1:∀ u,u < G.length→rV U1 u=rV U u:=hU1 ▸ w0.ofr hp
 have hz:rV U 0=0:=rV_zero w0.fo (by rw [w0.len]; exact hp)
 have hz1:rV U1 0=0:=by rw [r1 0 hp]; exact hz
 obtain ⟨U2,hU2⟩:∃ U2,ofU U1 0=U2:=⟨_,rfl⟩
 have w2:WG G U2:=hU2 ▸ w1.of hp
 have r2:∀ u,u < G.length→rV U2 u=rV U u:=fun u hu=>by rw [← hU2,w1.ofr hp u hu]; exact r1 u hu
 have fi2:WG G U2∧∀ u,u < G.length→rV U2 u=rV U u:=⟨w2,r2⟩
 have hz2:rV U2 0=0:=by rw [r2 0 hp]; exact hz
 have hg0:∀ (V:List Int) (a:Blk) (R:Heap),hget (GB G V++(X++a :: R)) n0=a:=fun V a R=>by
  rw [← List.append_assoc,hget_app2 (by rw [hBl]; exact Nat.le_refl _),hBl,Nat.sub_self]; rfl
 have hg1:∀ (V:List Int) (a b:Blk) (R:Heap),hget (GB G V++(X++a :: b :: R)) (n0 + 1)=b:=fun V a b R=>by
  rw [← List.append_assoc,hget_app2 (by rw [hBl]; omega),hBl,Nat.add_sub_cancel_left]; rfl
 have hs0:∀ (V:List Int) (a c:Blk) (R:Heap),hset (GB G V++(X++a :: R)) n0 c=GB G V++(X++c :: R):=fun V a c R=>by
  rw [← List.append_assoc,hset_eq,List.set_append_right _ _ (by rw [hBl]; exact Nat.le_refl _),hBl,Nat.sub_self,List.append_assoc]; rfl
 have hs1:∀ (V:List Int) (a b c:Blk) (R:Heap),hset (GB G V++(X++a :: b :: R)) (n0 + 1) c=GB G V++(X++a :: c :: R):=fun V a b c R=>by
  rw [← List.append_assoc,hset_eq,List.set_append_right _ _ (by rw [hBl]; omega),hBl,Nat.add_sub_cancel_left,List.append_assoc]; rfl
 have hL:∀ (V:List Int) (R:Heap),(GB G V++(X++R)).length=n0 + R.length:=fun V R=>by
  rw [← List.append_assoc,List.length_append,hBl]
 have hBs:∀ (V:List Int) (f:Wy) (c:List Int),∀ b∈(GB G V++(X++[wayN f,.own (ol c)])),hsc (n0 + 2) b=true:=fun V f c b hb=>by
  rw [← List.append_assoc] at hb
  rcases List.mem_append.1 hb with hb | hb
  ·exact GB_hscX (by omega) (hXs0 _ (by omega)) b hb
  simp only [List.mem_cons,List.not_mem_nil,or_false] at hb
  rcases hb with rfl | rfl
  ·rfl
  exact List.all_eq_true.2 fun x hx=>(List.all_eq_true.1 (ol_sc _ _)) x hx
 have hle:∀ {S1 s1:St} (V:List Int) (f:Wy) (c:List Int),S1.n=s1.n→s1.H=GB G V++(X++[wayN f,.own (ol c)])→S1.H=s1.H→(∀ p∈S1.sl,s1.get p.1=p.2∧scA (n0 + 2) p.2=true)→Le (List.range (n0 + 2)) S1 s1:=fun {S1 s1} V f c h1 h2 h3 h4=>by
  have hlen:s1.H.length=n0 + 2:=by rw [h2,hL]; rfl
  rw [← hlen] at h4 ⊢
  exact le_same h1 h3 (fun b hb=>by rw [hlen]; rw [h2] at hb; exact hBs V f c b hb) h4
 have hgw:∀ (V:List Int) (f:Wy) (R:Heap),hget (GB G V++(X++wayN f :: R)) n0 = .mp .i64 (fun z=>(f z).isSome) (fun z=>nl ((f z).getD [])):=fun V f R=>hg0 V _ R
 have hgA:∀ (V:List Int) (a b c:Blk),hget (GB G V++(X++[a,b])++[c]) (n0 + 2)=c:=fun V a b c=>by
  rw [hget_app2 (by rw [hL]; exact Nat.le_refl _),hL]; simp [hget]
 have hsA:∀ (V:List Int) (a b c d:Blk),hset (GB G V++(X++[a,b])++[c]) (n0 + 2) d=GB G V++(X++[a,b,d]):=fun V a b c d=>by
  rw [hset_eq,List.set_append_right _ _ (by rw [hL]; exact Nat.le_refl _),hL]; simp
 have hgB:∀ (V:List Int) (a b c d:Blk),hget (GB G V++(X++[a,b,c])++[d]) (n0 + 3)=d:=fun V a b c d=>by
  rw [hget_app2 (by rw [hL]; exact Nat.le_refl _),hL]; simp [hget]
 have hBs1:∀ (V:List Int) (f:Wy) (M:Nat),n0≤M→∀ b∈(GB G V++(X++[wayN f])),hsc M b=true:=fun V f M hM b hb=>by
  rw [← List.append_assoc] at hb
  rcases List.mem_append.1 hb with hb | hb
  ·exact GB_hscX (by omega) (hXs0 _ (by omega)) b hb
  rw [List.mem_singleton] at hb; subst hb; rfl
 refine qm ?_
 refine hk_region fun K hK=>runs_eval tab_ok ?_
 simp only [evz,fl,gp,tab,simprocAttr]
 refine fin_run trivial (hK _ ?_)<;>clear hK K
 refine qa (qm ?_)
 refine hk_region fun K hK=>runs_eval tab_ok ?_
 simp only [evz,fl,gp,tab,simprocAttr,hBl]
 refine fin_stop ?_ (runs_of (U:=U) (X:=X++[.mp .i64 (fun _=>false) (fun _=>default)]) w0 (by omega) (v:=0) hp rfl rfl (by rw [List.append_assoc]) rfl (by simp only [dstOk,Nat.reduceLT]) (runs_eval tab_ok ?_))
 ·exact trivial
 simp only [hU1,hz]
 simp only [evz,fl,gp,tab,simprocAttr]
 refine fin_stop ?_ (runs_op (insert_does tab_ok rfl rfl (by
  simp only [mapUpdateA,hg0,evz,fl,gp,tab,simprocAttr]
  rfl) ?_) rfl (by simp only [dstOk,Nat.reduceLT]) (runs_eval tab_ok ?_))
 ·exact trivial
 ·exact trivial
 simp only [hs0]
 simp only [evz,fl,gp,tab,simprocAttr]
 refine fin_run trivial (hK _ ?_)<;>clear hK K
 refine qa (qm ?_)
 refine hk_mpw n0 (v':=fun z=>nl ((updW (fun _=>none) 0 [] z).getD [])) (hg0 _ _ _) (fun z hz ok w x hx=>?_) ?_
 ·have e:z=0:=by simpa using hz
  subst e
  exact hx
 simp only [hs0,wayN_zero]
 refine hk_region fun K hK=>runs_eval tab_ok ?_
 simp only [evz,fl,gp,tab,simprocAttr]
 refine fin_stop ?_ (runs_of (U:=U1) (X:=X++[wayN (updW (fun _=>none) 0 [])]) w1 (by omega) (v:=0) hp rfl rfl rfl rfl (by simp only [dstOk,Nat.reduceLT]) (runs_op (buildOwn_does (n:=1) (l:=[.int .i64 (rV U1 0:Nat)]) tab_ok rfl rfl rfl rfl rfl rfl rfl ⟨⟨rfl,rfl,rfl⟩,trivial⟩ rfl (by decide) rfl) rfl (show (20:Nat) < 75 by decide) (runs_eval tab_ok ?_)))
 ·exact trivial
 simp only [hU2,hz1]
 simp only [evz,fl,gp,tab,simprocAttr,hL,List.append_assoc,List.cons_append,List.nil_append]
 refine fin_run trivial (hK _ ?_)<;>clear hK K
 refine qa (qm (qm ?_))
 refine hk_region fun K hK=>runs_eval tab_ok ?_
 simp only [evz,fl,gp,tab,simprocAttr,List.append_assoc,List.cons_append,List.nil_append]
 refine fin_run trivial (hK _ ?_)<;>clear hK K
 refine qa (ql ?_)
 refine hk_loop (ι:=Nat × List Nat × Wy × List Int) (fun q=>⟨75,[(0,.ptr 0 0),(4,.mptr n0),(5,.sl (n0 + 1) 0 q.2.1.length),(6,.p (.int .i64 (q.1:Nat)))],GB G q.2.2.2++(X++[wayN q.2.2.1,.own (ol (q.2.1.map Int.ofNat))])⟩)
  (fun q=>q.1≤q.2.1.length∧(WG G q.2.2.2∧∀ u,u < G.length→rV q.2.2.2 u=rV U u)∧BI G q.2.2.2 q.2.1 q.2.2.1∧BQ G q.2.2.2 q.2.1 q.2.2.1 q.1) (fun q=>G.length - q.1) (0,[0],updW (fun _=>none) 0 [],U2) ⟨Nat.zero_le _,fi2,bi_zero hz2 hp,bq_zero⟩ (List.range (n0 + 2)) (hle U2 (updW (fun _=>none) 0 []) [0] rfl rfl rfl (by simp [St.get,lk,scA,sc1])) fun q hq=>?_
 obtain ⟨i,lst,f,V⟩:=q
 obtain ⟨q1,fi1,bi1,bq1⟩:=hq
 simp only at q1 fi1 bi1 bq1 ⊢
 have hll:lst.length≤G.length:=nodup_len _ _ bi1.nd fun x hx=>(bi1.rt x hx).1
 refine qm (qm ?_)
 refine hk_region fun K hK=>runs_eval tab_ok ?_
 simp only [evz,fl,gp,tab,simprocAttr]
 refine fin_run trivial (hK _ ?_)<;>clear hK K
 refine qa ?_
 refine hk_cond rfl (fun hC1=>?_) (fun hC1=>?_)
 ·(try simp only [nhs] at hC1)
  have hi:i < lst.length:=by omega
  obtain ⟨v,hv⟩:∃ v,lst.getD i 0=v:=⟨_,rfl⟩
  have hvm:v∈lst:=hv ▸ mem_ix hi
  obtain ⟨hvl,hvr⟩:=bi1.rt v hvm
  have hgl:∀ d:AV,(ol (lst.map Int.ofNat)).getD i d = .p (.int .i64 (v:Nat)):=fun d=>by
   rw [ol_get (by simpa using hi)]
   have:(lst.map Int.ofNat).getD i 0=(v:Int):=by
    rw [← hv,List.getD_eq_getElem?_getD,List.getD_eq_getElem?_getD,List.getElem?_map,List.getElem?_eq_getElem hi]; rfl
   rw [this]
  refine qh (qa (qm (ql (qm ?_))))
  refine hk_region fun K hK=>runs_eval tab_ok ?_
  simp only [evz,fl,gp,tab,simprocAttr,hg1,hgl]
  refine fin_run ?_ (hK _ ?_)<;>clear hK K
  ·exact ⟨by omega,by simpa using hi⟩
  refine qa (qm ?_)
  refine hk_region fun K hK=>runs_eval tab_ok ?_
  simp only [evz,fl,gp,tab,simprocAttr]
  refine fin_stop ?_ (runs_letters (U:=V) (X:=X++[wayN f,.own (ol (lst.map Int.ofNat))]) fi1.1 (by omega) (v:=v) hvl rfl rfl rfl rfl (by simp only [dstOk,Nat.reduceLT]) (runs_eval tab_ok ?_))
  ·exact trivial
  simp only [evz,fl,gp,tab,simprocAttr,il_length]
  refine fin_run trivial (hK _ ?_)<;>clear hK K
  refine qa (ql ?_)
  obtain ⟨L,hLd⟩:∃ L,lts (gm G v)=L:=⟨_,rfl⟩
  have hLl:L.length≤53:=hLd ▸ lts_len _
  rw [hLd]
  refine hk_loop (ι:=Nat × List Nat × Wy × List Int) (fun q=>⟨75,[(0,.ptr 0 0),(4,.mptr n0),(5,.sl (n0 + 1) 0 q.2.1.length),(6,.p (.int .i64 (i:Nat))),(7,.p (.int .i64 (v:Nat))),(33,.p (.list (il L))),(34,.p (.int .i64 L.length)),(35,.p (.int .i64 (q.1:Nat)))],GB G q.2.2.2++(X++[wayN q.2.2.1,.own (ol (q.2.1.map Int.ofNat))])⟩)
   (fun q=>q.1≤L.length∧i < q.2.1.length∧q.2.1.getD i 0=v∧(WG G q.2.2.2∧∀ u,u < G.length→rV q.2.2.2 u=rV U u)∧BI G q.2.2.2 q.2.1 q.2.2.1∧BQ G q.2.2.2 q.2.1 q.2.2.1 i∧BL G q.2.2.2 q.2.1 q.2.2.1 i (L.take q.1)) (fun q=>L.length - q.1) (0,lst,f,V) ⟨Nat.zero_le _,hi,hv,fi1,bi1,bq1,fun x hx=>by simp at hx⟩ (List.range (n0 + 2)) (hle V f (lst.map Int.ofNat) rfl rfl rfl (by simp [St.get,lk,scA,sc1])) fun q hq=>?_
  obtain ⟨j,lst2,f2,V2⟩:=q
  obtain ⟨j1,j2,j3,fi3,bi3,bq3,bl3⟩:=hq
  simp only at j1 j2 j3 fi3 bi3 bq3 bl3 ⊢
  have hll2:lst2.length≤G.length:=nodup_len _ _ bi3.nd fun x hx=>(bi3.rt x hx).1
  have hvm2:v∈lst2:=j3 ▸ mem_ix j2
  have hvr2:rV V2 v=v:=(bi3.rt v hvm2).2
  refine qm ?_
  refine hk_region fun K hK=>runs_eval tab_ok ?_
  simp only [evz,fl,gp,tab,simprocAttr]
  refine fin_run trivial (hK _ ?_)<;>clear hK K
  refine qa (qm ?_)
  refine hk_cond rfl (fun hC2=>?_) (fun hC2=>?_)
  ·(try simp only [nhs] at hC2)
   have hj:j < L.length:=by omega
   obtain ⟨x,hx⟩:∃ x,L.getD j 0=x:=⟨_,rfl⟩
   have hxm:x∈L:=by rw [← hx,List.getD_eq_getElem?_getD,List.getElem?_eq_getElem hj]; exact List.getElem_mem hj
   have hxs:(gm G v x).isSome=true:=(mem_lts.1 (hLd ▸ hxm)).2
   obtain ⟨c,hc⟩:=Option.isSome_iff_exists.1 hxs
   obtain ⟨e0,e1,e2⟩:=fi3.1.ent v x c hvl hc
   obtain ⟨d,rfl⟩:=Int.eq_ofNat_of_zero_le e0
   rw [Int.toNat_natCast] at e1
   obtain ⟨V3,hV3⟩:∃ V3,ofU V2 d=V3:=⟨_,rfl⟩
   have w3:WG G V3:=hV3 ▸ fi3.1.of e1
   have r3:∀ u,u < G.length→rV V3 u=rV V2 u:=hV3 ▸ fi3.1.ofr e1
   have fi4:WG G V3∧∀ u,u < G.length→rV V3 u=rV U u:=⟨w3,fun u hu=>(r3 u hu).trans (fi3.2 u hu)⟩
   have bi4:BI G V3 lst2 f2:=bi3.up fi3.1 r3
   have bq4:BQ G V3 lst2 f2 i:=bq3.up bi3 fi3.1 r3 (by omega)
   have bl4:BL G V3 lst2 f2 i (L.take j):=bl3.up bi3 fi3.1 r3 j2
   obtain ⟨u,hu⟩:∃ u,rV V2 d=u:=⟨_,rfl⟩
   have hul:u < G.length:=hu ▸ fi3.1.rlt e1
   have hur:rV V3 u=u:=by rw [r3 u hul,← hu]; exact fi3.1.idem e1
   have hed:Ed G V3 v x u:=⟨d,by rw [r3 v hvl,hvr2]; exact hc,by rw [Int.toNat_natCast,r3 d e1,hu,hur]⟩
   have huq:∀ y,y < G.length→rV V3 y=y→Ed G V3 (lst2.getD i 0) x y→y=u:=fun y hy hyr ⟨d',hd',hd2⟩=>by
    rw [j3,r3 v hvl,hvr2,hc] at hd'
    obtain rfl:=Option.some.inj hd'
    rw [Int.toNat_natCast,r3 d e1,hu,hyr] at hd2
    exact hd2.symm
   have hLt:L.take (j + 1)=L.take j++[x]:=by rw [take_snoc (d:=0) hj,hx]
   have gM:∀ Y:Heap,hget (G.map mpB++Y) v=mpB (gm G v):=fun Y=>hget_G hvl
   have hGBk:∀ (Y:Heap),GB G V2++Y = .own [.sl 1 0 G.length,.sl 2 0 V2.length] :: .own (mps G.length) :: .own (ol V2) :: (G.map mpB++Y):=fun Y=>rfl
   refine qh (qa (qm (ql (qm ?_))))
   refine hk_region fun K hK=>runs_eval tab_ok ?_
   simp only [evz,fl,gp,tab,simprocAttr,il_length,il_get hj,hx]
   refine fin_run ?_ (hK _ ?_)<;>clear hK K
   ·omega
   refine qa (qm ?_)
   rw [hGBk]
   refine hk_region fun K hK=>runs_eval tab_ok ?_
   simp only [evz,fl,gp,tab,simprocAttr,mps_get hvl,gM,mpB,hc,Option.isSome_some,cond_true,Option.getD_some,Int.ofNat_eq_natCast,mps_len,Int.toNat_natCast]
   refine fin_stop ?_ (runs_of (U:=V2) (X:=X++[wayN f2,.own (ol (lst2.map Int.ofNat))]) fi3.1 (by omega) (v:=d) e1 rfl rfl (hGBk _).symm rfl (by simp only [dstOk,Nat.reduceLT]) (runs_eval tab_ok ?_))
   ·exact ⟨⟨by omega,by omega⟩,hvl⟩
   simp only [hV3,hu]
   simp only [evz,fl,gp,tab,simprocAttr]
   refine fin_run trivial (hK _ ?_)<;>clear hK K
   refine qa (qm ?_)
   refine hk_region fun K hK=>runs_eval tab_ok ?_
   simp only [evz,fl,gp,tab,simprocAttr,hgw]
   refine fin_run ?_ (hK _ ?_)<;>clear hK K
   ·(first|exact trivial|omega|(simp only [In64] at *; omega)|(simp [In64] at *; omega)|(simp_all; done)|skip)
   refine qa (qm ?_)
   refine hk_region fun K hK=>runs_eval tab_ok ?_
   simp only [evz,fl,gp,tab,simprocAttr]
   refine fin_run trivial (hK _ ?_)<;>clear hK K
   refine qa ?_
   refine hk_cond rfl (fun hC3=>?_) (fun hC3=>?_)
   ·(try simp only [nhs] at hC3)
    have hfu:f2 (u:Int)=none:=by simpa using hC3
    obtain ⟨l,hl⟩:∃ l,f2 (v:Int)=some l:=Option.isSome_iff_exists.1 ((bi4.dom v).2 ⟨v,hvm2,rfl⟩)
    have hlw:wy f2 v=l:=by unfold wy; rw [hl]; rfl
    have hlen:l.length < lst2.length:=bi4.len _ _ hl
    refine qm ?_
    refine hk_regMid 10 (runs_cut fun K hK=>?_)
    simp only [List.take_succ_cons,List.take_zero]
    refine runs_eval tab_ok ?_
    simp only [evz,fl,gp,tab,simprocAttr,hgw,hl,Option.isSome_some,cond_true,Option.getD_some]
    refine fin_stop trivial (runs_call (clone_n l (by omega)) rfl rfl rfl (by simp only [dstOk,Nat.reduceLT]) (by repeat (first|exact trivial|constructor)) (runs_eval tab_ok ?_))
    simp only [evz,fl,gp,tab,simprocAttr]
    refine fin_stop trivial (runs_call (clip_n l) rfl rfl rfl (by simp only [dstOk,Nat.reduceLT]) (by repeat (first|exact trivial|constructor)) (runs_eval tab_ok ?_))
    simp only [evz,fl,gp,tab,simprocAttr,hL]
    refine fin_run ?_ (hK _ ?_)<;>clear hK K
    ·exact ⟨by omega,by omega⟩
    refine ⟨_,fun C m tmps w R=>R.sealI 67 (n0 + 2) (l:=l++[x]) ?_ ?_,?_⟩
    ·show AV.sl (n0 + 2) 0 (l.length + 1)=AV.sl (n0 + 2) 0 (l++[x]).length
     rw [List.length_append]; rfl
    ·refine (hgA _ _ _ _).trans ?_
     simp [ol,il]
    refine runs_cut fun K hK=>?_
    simp only [List.drop_succ_cons,List.drop_zero,hsA]
    refine runs_eval tab_ok ?_
    simp only [evz,fl,gp,tab,simprocAttr,hgw,hs0,wayN_upd]
    refine fin_run trivial (hK _ ?_)<;>clear hK K
    refine qa ?_
    refine hk_region fun K hK=>runs_eval tab_ok ?_
    simp only [evz,fl,gp,tab,simprocAttr,hg1,hs1,hL]
    refine fin_run ?_ (hK _ ?_)<;>clear hK K
    ·exact ⟨by simp,by omega,by omega⟩
    refine qd (qa ?_)
    refine hk_region fun K hK=>runs_eval tab_ok ?_
    simp only [evz,fl,gp,tab,simprocAttr]
    refine fin_run ?_ (hK _ ?_)<;>clear hK K
    ·(first|exact trivial|omega|(simp only [In64] at *; omega)|(simp [In64] at *; omega)|(simp_all; done)|skip)
    refine qa ?_
    have e1:wy f2 (lst2.getD i 0)=l:=by rw [j3]; exact hlw
    have bi5:BI G V3 (lst2++[u]) (updW f2 u (l++[x])):=bi4.snoc (i:=i) j2 (by rw [j3]; exact hl) hul hur (by rw [j3]; exact hed) hfu
    have bq5:=BQ.snoc bi4 bq4 j2 (x:=x) hfu
    have bl5:=BL.snoc bi4 bl4 j2 (x:=x) hfu
    rw [e1] at bq5 bl5
    have bl6:=bl5.more (x:=x) (u:=u) (by simp) (by rw [updW_self,snoc_getD j2,bi4.other hfu (mem_ix j2),e1]; simp) (by rw [snoc_getD j2]; exact huq)
    rw [← hLt] at bl6
    obtain ⟨f3,hf3⟩:∃ f3,updW f2 u (l++[x])=f3:=⟨_,rfl⟩
    rw [hf3] at bi5 bq5 bl6 ⊢
    have hml:(lst2++[u]).map Int.ofNat=List.take lst2.length (lst2.map Int.ofNat)++[(u:Int)]:=by
     rw [List.take_of_length_le (by simp)]; simp
    refine ⟨(j + 1,lst2++[u],f3,V3),List.range (n0 + 1)++[n0 + 3],⟨by simp only; omega,by simp only [List.length_append]; omega,by simp only; rw [snoc_getD j2]; exact j3,fi4,bi5,bq5,bl6⟩,by simp only; omega,le_behind (B:=GB G V3++(X++[wayN f3])) (c:=ol ((lst2++[u]).map Int.ofNat)) (d:=ol ((lst2++[u]).map Int.ofNat)) rfl (by rw [hL]; rfl) (by simp) (fun b hb=>hBs1 V3 f3 _ (by omega) b hb) (by omega) (fun b hb=>hBs1 V3 f3 _ (by omega) b hb) (fun k hk=>?_) ?_ ?_ (ol_sc _ _) ?_⟩
    ·show hget (GB G V3++(X++[wayN f3,_,_])++[_]) k=_
     rw [show ∀ b c d:Blk,GB G V3++(X++[wayN f3,b,c])++[d]=(GB G V3++(X++[wayN f3]))++[b,c,d] from fun b c d=>by simp]
     exact hget_app1 (by rw [hL]; simpa using hk)
    ·rw [hml]
     exact hgB _ _ _ _ _
    ·rw [ol_ren,List.take_of_length_le (Nat.le_refl _)]
    have hq3:(List.range (n0 + 1)++[n0 + 3]).getD (n0 + 1) 0=n0 + 3:=by
     rw [List.getD_eq_getElem?_getD,List.getElem?_append_right (by simp)]; simp
    have hq0:(List.range (n0 + 1)++[n0 + 3]).getD 0 0=0:=by
     rw [List.getD_eq_getElem?_getD,List.getElem?_append_left (by simp)]; simp
    have hqn:(List.range (n0 + 1)++[n0 + 3]).getD n0 0=n0:=by
     rw [List.getD_eq_getElem?_getD,List.getElem?_append_left (by simp)]; simp
    refine ⟨?_,?_,?_,?_,?_,?_,rfl,rfl,rfl,rfl,rfl,rfl,rfl,rfl,?_,rfl,trivial⟩
    ·show AV.ptr 0 0=Go.Pv.ren _ _
     simp only [Go.Pv.ren,ren1,hq0]
    ·simp [scA,sc1]
    ·show AV.mptr n0=Go.Pv.ren _ _
     simp only [Go.Pv.ren,ren1,hqn]
    ·simp [scA,sc1]; omega
    ·show AV.sl (n0 + 3) 0 (lst2.length + 1)=Go.Pv.ren _ _
     simp only [Go.Pv.ren,ren1,hq3,List.length_append,List.length_singleton]
    ·simp [scA,sc1]
    rfl
   (try simp only [nhs] at hC3)
   refine qh (qd (qa ?_))
   refine hk_region fun K hK=>runs_eval tab_ok ?_
   simp only [evz,fl,gp,tab,simprocAttr]
   refine fin_run ?_ (hK _ ?_)<;>clear hK K
   ·(first|exact trivial|omega|(simp only [In64] at *; omega)|(simp [In64] at *; omega)|(simp_all; done)|skip)
   refine qa ?_
   obtain ⟨l,hl⟩:∃ l,f2 (u:Int)=some l:=Option.isSome_iff_exists.1 (by simpa using hC3)
   have hum:u∈lst2:=by
    obtain ⟨u',hu',e⟩:=(bi4.dom (u:Int)).1 (by rw [hl]; rfl)
    have:u' = u:=by omega
    exact this ▸ hu'
   have bl6:=bl4.more (x:=x) hum (by
    obtain ⟨k,hk,e⟩:=ix_of hum
    rw [← e]; exact bq4.cap j2 k hk) huq
   rw [← hLt] at bl6
   exact ⟨(j + 1,lst2,f2,V3),List.range (n0 + 2),⟨by simp only; omega,j2,j3,fi4,bi4,bq4,bl6⟩,by simp only; omega,hle V3 f2 (lst2.map Int.ofNat) rfl rfl rfl (by simp [St.get,lk,scA,sc1])⟩
  (try simp only [nhs] at hC2)
  refine qj (qc (qc (qf (qd (qa ?_)))))
  refine hk_region fun K hK=>runs_eval tab_ok ?_
  simp only [evz,fl,gp,tab,simprocAttr]
  refine fin_run ?_ (hK _ ?_)<;>clear hK K
  ·(first|exact trivial|omega|(simp only [In64] at *; omega)|(simp [In64] at *; omega)|(simp_all; done)|skip)
  refine qa ?_
  have hjl:j=L.length:=by omega
  have bq':=bq3.next bl3 fun x y hy hyr ⟨d,hd,_⟩=>by
   rw [j3,hvr2] at hd
   rw [hjl,List.take_length,← hLd]
   obtain ⟨_,_,e2⟩:=fi3.1.ent v x d hvl hd
   exact mem_lts.2 ⟨e2.2,by rw [hd]; rfl⟩
  exact ⟨(i + 1,lst2,f2,V2),List.range (n0 + 2),⟨by simp only; omega,fi3,bi3,bq'⟩,by simp only; omega,hle V2 f2 (lst2.map Int.ofNat) rfl rfl rfl (by simp [St.get,lk,scA,sc1])⟩
 (try simp only [nhs] at hC1)
 refine qj (qc (qc (qf (qa (qm ?_)))))
 refine hk_seal 5 (n0 + 1) (w:=lst.map Int.ofNat) (by show AV.sl (n0 + 1) 0 lst.length=_; rw [List.length_map]) (hg1 _ _ _ _) ?_
 simp only [hs1]
 refine hk_mpw n0 (v':=fun z=>.list (il ((f z).getD []))) (hgw _ _ _) (fun z hz ok w x hx=>nl_list hx) ?_
 simp only [hs0]
 refine hk_region fun K hK=>runs_eval tab_ok ?_
 simp only [evz,fl,gp,tab,simprocAttr]
 refine fin_run trivial (hK _ ?_)<;>clear hK K
 refine qa (qk ?_)
 simp only [Try.results55,PostG,endG,rvsA,rvA,mkTup,evz,fl,gp,tab,simprocAttr]
 have hie:i=lst.length:=by omega
 have hπn:(List.range (G.length + 3)++[n0]++List.range' (G.length + 3) X.length).getD (G.length + 3) 0=n0:=by
  rw [List.append_assoc,List.getD_eq_getElem?_getD,List.getElem?_append_right (by simp)]; simp
 refine ⟨.tup [.p (.list (il (lst.map Int.ofNat))),.mptr (G.length + 3)],GB G V++[wayB f],by rw [hP]; exact ⟨lst,f,V,rfl,rfl,fi1,bi1,hie ▸ bq1⟩,List.range (G.length + 3)++[n0]++List.range' (G.length + 3) X.length,?_,?_,?_⟩
 ·simp only [Go.Pv.ren,ren1,List.map_cons,List.map_nil,hπn]
 ·simp [scA,sc1]
 refine le_mid (B:=GB G V) (X:=X) (N:=G.length + 3) (n0:=n0) rfl (GB_len _ _) (by rw [hYl]; exact hn0) rfl (GB_hsc (Nat.le_refl _)) (hXs0 _ (Nat.le_refl _)) (fun k hk=>?_) (fun k hk=>?_) (hg0 _ _ _) trivial
 ·exact hget_app1 (by rw [GB_len]; exact hk)
 rw [hget_app2 (by rw [GB_len]; omega),GB_len,Nat.add_sub_cancel_left]
 exact hget_app1 hk
end
end Go.Proofs.Ytneglephfhiamaa

namespace Go.Proofs.Ytneglephfhiamaa
open Go.Pv
theorem putM_pre0:∀ (H0 A P X E:Heap),A.length=H0.length→putM (P++H0++X) (List.range' P.length H0.length) (A++E)=P++A++X++E
 | [],[],P,X,E,_=>by simp [putM]
 | [],_ :: _,_,_,_,h=>by simp at h
 | _ :: _,[],_,_,_,h=>by simp at h
 | b :: H0,a :: A,P,X,E,h=>by
  rw [List.length_cons,List.range'_succ,List.cons_append,putM]
  have e:hset (P++b :: H0++X) P.length a=(P++[a])++H0++X:=by
   rw [hset_eq,List.append_assoc,List.set_append_right _ _ (Nat.le_refl _),Nat.sub_self]; simp
  rw [e]
  have:=putM_pre0 H0 A (P++[a]) X E (by simpa using h)
  rw [List.length_append,List.length_singleton] at this
  rw [this]; simp
theorem putM_pre {H0 A X E:Heap} (h:A.length=H0.length):putM (H0++X) (List.range H0.length) (A++E)=A++X++E:=by
 have:=putM_pre0 H0 A [] X E h
 rwa [List.nil_append,List.length_nil,← List.range_eq_range'] at this
section
variable {G:List Mp} {U:List Int}
theorem GBw_scM {f:Wy} {U' : List Int} {l:List PV} : scM (.tup [.p (.list l),.mptr (G.length + 3)]) (GB G U) (GB G U'++[wayB f])=true:=by
 unfold scM
 have hl:(GB G U'++[wayB f]).length=G.length + 4:=by rw [List.length_append,GB_len]; rfl
 have h1:(GB G U'++[wayB f]).all (fun | .own c=>c.all (scA (GB G U'++[wayB f]).length) | .anc _ _=>false | _=>true)=true:=by
  rw [List.all_eq_true]
  intro b hb
  rw [hl]
  rcases List.mem_append.1 hb with hb | hb
  ·have h:=GB_hsc (L:=G.length + 4) (by omega) b hb
   have h2:=(List.all_eq_true.1 (GB_na (G:=G) (U:=U'))) b hb
   cases b with
   | own c=>exact h
   | anc i j=>cases h2
   | _=>rfl
  rw [List.mem_singleton] at hb; subst hb; rfl
 have h2:mpKeep (GB G U) (GB G U'++[wayB f])=true:=mpKeep_app (mpKeep_GB rfl) (by rw [GB_len,GB_len]; exact Nat.le_refl _)
 simp only [Bool.and_eq_true,decide_eq_true_eq]
 refine ⟨⟨⟨⟨?_,h1⟩,?_⟩,h2⟩,GB_na⟩
 ·rw [hl]; simp [scA,sc1]
 rw [hl,GB_len]; omega
theorem reach_E {s:St} {o:Oper} {fo:Operand} {args:Array Operand} {ts:Array TypeId} {X:Heap} (ho:o.op = .call { callee:=.value fo,args:=args,argTypes:=ts }) (hfo:s.ev fo = .p (.fn 55 []))
  (w0:WG G U) (hp:0 < G.length) (hs:SymW G U []) (hk:G.length≤100000000) (hH:s.H=GB G U++X) (hargs:args.toList.map s.ev++([]:List PV).map .p=[.ptr 0 0]) :
  DoesE Try.prog o s (fun av H'=>∃ (lst:List Nat) (f:Wy) (U' : List Int),av = .tup [.p (.list (il (lst.map Int.ofNat))),.mptr (G.length + 3 + X.length)]∧H' = GB G U'++(X++[wayB f])∧WG G U'∧(∀ u,u < G.length→rV U' u=rV U u) ∧
   GT (stR G U) lst f∧(∀ u∈lst,u < G.length∧rV U u=u)∧∀ u∈lst,∀ w,runW (stR G U) 0 w=some u→(wy f u).length≤w.length):=by
 have hsl:s.H.length=G.length + 3 + X.length:=by rw [hH,List.length_append,GB_len]
 have hA:argsM s.H (List.range (GB G U).length) (args.toList.map s.ev++([]:List PV).map .p) [.ptr 0 0]:=by
  rw [hargs]
  refine ⟨?_,trivial⟩
  rw [GB_len]
  exact ⟨(ren_id (by simp [scA,sc1])).symm,by simp [scA,sc1]⟩
 have hL:LeH (List.range (GB G U).length) s.H (List.range (GB G U).length) (GB G U):=by
  have:=leH_stay (π:=List.range (GB G U).length) (H:=s.H) (B:=GB G U) (a:=0) (L:=(GB G U).length) (fun i hi=>by simp [List.getElem?_range hi]) (by simp) (by rw [GB_len]; exact GB_hsc (Nat.le_refl _)) (fun i hi=>by rw [Nat.zero_add,hH]; exact hget_app1 hi)
  rwa [← List.range_eq_range'] at this
 have:=call_doesE ho hfo (reach_e w0 hp hk) hA hL List.nodup_range (fun k hk=>by rw [hH,List.length_append]; have:=List.mem_range.1 hk; omega) GB_na (by
  rintro r H1 ⟨lst,f,U',rfl,rfl,_⟩
  exact GBw_scM)
 intro C m a w K Q R hK
 refine this C m a w K Q R fun v m' w' av H' ⟨r,H1,⟨lst,f,U',e1,e2,⟨w1,r1⟩,bi,bq⟩,e3,e4⟩ R2 hv=>hK v m' w' av H' ⟨lst,f,U',?_,?_,w1,r1,?_⟩ R2 hv
 ·subst e1; subst e2
  have hl:(GB G U'++[wayB f]).length - (List.range (GB G U).length).length=1:=by simp [GB_len]
  have hq:(List.range (GB G U).length++List.range' s.H.length 1).getD (G.length + 3) 0=G.length + 3 + X.length:=by
   rw [List.getD_eq_getElem?_getD,List.getElem?_append_right (by simp [GB_len]),hsl]; simp [GB_len]
  rw [e3,hl]
  simp only [Go.Pv.ren,ren1,List.map_cons,List.map_nil,hq]
 ·subst e1; subst e2
  have hπ:∀ i,i < (GB G U).length→(List.range (GB G U).length++List.range' s.H.length ((GB G U'++[wayB f]).length - (List.range (GB G U).length).length)).getD i 0=i:=fun i hi=>by
   rw [List.getD_eq_getElem?_getD,List.getElem?_append_left (by simpa using hi)]
   simp [List.getElem?_range hi]
  have e5:(GB G U'++[wayB f]).map (Blk.ren (List.range (GB G U).length++List.range' s.H.length ((GB G U'++[wayB f]).length - (List.range (GB G U).length).length)))=GB G U'++[wayB f]:=by
   have:∀ b∈(GB G U'++[wayB f]),Blk.ren (List.range (GB G U).length++List.range' s.H.length ((GB G U'++[wayB f]).length - (List.range (GB G U).length).length)) b=id b:=fun b hb=>by
    rcases List.mem_append.1 hb with hb | hb
    ·have h:=GB_hsc (L:=(GB G U).length) (by rw [GB_len]; exact Nat.le_refl _) b hb
     have h2:=(List.all_eq_true.1 (GB_na (G:=G) (U:=U'))) b hb
     cases b with
     | own c =>
      have:=List.map_congr_left (f:=Go.Pv.ren (List.range (GB G U).length++List.range' s.H.length ((GB G U'++[wayB f]).length - (List.range (GB G U).length).length))) (g:=id) fun x hx=>ren_pre hπ ((List.all_eq_true.1 h) x hx)
      show Blk.own _=Blk.own c
      rw [this,List.map_id]
     | anc i j=>cases h2
     | _=>rfl
    rw [List.mem_singleton] at hb; subst hb; rfl
   rw [List.map_congr_left this,List.map_id]
  rw [e4,e5,hH,putM_pre (by rw [GB_len,GB_len]),List.append_assoc]
 have hs1:SymW G U' []:=fun u x v hu hv e=>by
  rw [pe_nil,Ed.rv w0 r1 hu hv] at e
  rw [pe_nil,Ed.rv w0 r1 hv hu]
  exact pe_nil.1 (hs u x v hu hv (pe_nil.2 e))
 obtain ⟨g,hf⟩:=bq_gt w1 hp hs1 bi bq
 rw [stR_eq w0 r1] at g hf
 exact ⟨g,fun u hu=>⟨(bi.rt u hu).1,by rw [← r1 u (bi.rt u hu).1]; exact (bi.rt u hu).2⟩,hf⟩
end
end Go.Proofs.Ytneglephfhiamaa

namespace Go.Proofs.Ytneglephfhiamaa
open Go.Pv
structure Grp (n:Nat) (f:Nat→Nat→Nat) (e:Nat):Prop where
 pos:0 < n
 cl:∀ a b,a < n→b < n→f a b < n
 el:e < n
 one_l:∀ a,a < n→f e a=a
 one_r:∀ a,a < n→f a e=a
 assoc:∀ a b c,a < n→b < n→c < n→f (f a b) c=f a (f b c)
 inv:∀ a,a < n→∃ b,b < n∧f a b=e∧f b a=e
section
variable {n:Nat} {f:Nat→Nat→Nat} {e:Nat}
theorem Grp.cancel_l (G:Grp n f e) {a b c:Nat} (ha:a < n) (hb:b < n) (hc:c < n) (h:f a b=f a c):b=c:=by
 obtain ⟨i,hi,_,h2⟩:=G.inv a ha
 have h1:f i (f a b)=f i (f a c):=by rw [h]
 rwa [← G.assoc i a b hi ha hb,← G.assoc i a c hi ha hc,h2,G.one_l b hb,G.one_l c hc] at h1
theorem Grp.idem (G:Grp n f e) {a:Nat} (ha:a < n):f a a=a↔a=e:=
 ⟨fun h=>G.cancel_l ha ha G.el (by rw [h,G.one_r a ha]),fun h=>by subst h; exact G.one_l _ ha⟩
end
end Go.Proofs.Ytneglephfhiamaa

namespace Go.Proofs.Ytneglephfhiamaa
open Go.Pv
def Rle (a b:PV):Prop:=∀ (ok:Nat→Prop) (w:World) (v:Value),Reads ok w a v→Reads ok w b v
theorem Rle.rfl {a:PV} : Rle a a:=fun _ _ _ h=>h
theorem Rle.nn {l:List PV} : Rle (.nn l) (.list l):=fun _ _ _ h=>h.nn_list
def Rles:List PV→List PV→Prop
 | [],[]=>True
 | a :: r,b :: s=>Rle a b∧Rles r s
 | _,_=>False
theorem Rles.len:∀ {l r:List PV},Rles l r→l.length=r.length
 | [],[],_=>by rfl
 | a :: l,b :: r,h=>by simp [Rles.len h.2]
 | [],_ :: _,h=>h.elim
 | _ :: _,[],h=>h.elim
theorem Rles.get:∀ {l r:List PV},Rles l r→∀ (i:Nat) (h:i < l.length) (h' : i < r.length),Rle l[i] r[i]
 | a :: l,b :: r,h,0,_,_=>h.1
 | a :: l,b :: r,h,i + 1,h1,h2=>by simpa using Rles.get h.2 i (by simpa using h1) (by simpa using h2)
 | [],[],_,i,h,_=>by simp at h
 | [],_ :: _,h,_,_,_=>h.elim
 | _ :: _,[],h,_,_,_=>h.elim
theorem FnC.weak {P:Program} {f:FuncId} {args args' : List PV} {r:PV} (h:FnC P f args r) (hs:Rles args' args):FnC P f args' r:=by
 refine ⟨h.1,fun okA w vals h1 h2 h3=>h.2 okA w vals h1 (h2.trans hs.len) fun i hi=>?_⟩
 have:=hs.len
 exact hs.get i (by omega) hi _ _ _ (h3 i (by omega))
end Go.Proofs.Ytneglephfhiamaa

namespace Go.Proofs.Ytneglephfhiamaa
open Go.Pv
theorem Rle.nn_mid {a b c:List PV} : Rle (.nn [.list a,.nn b,.list c]) (.nn [.list a,.list b,.list c]):=fun ok w v h=>by
 cases h with
 | nn _ k off sz vs hb hsz hc hr =>
  refine .nn [.list a,.list b,.list c] k off 1 vs hb (by simp [PV.cells]) (fun i hc'=>hc i (by simpa [flat,PV.cells] using hc')) fun i hcl=>?_
  have h0:=hr 0 (by simp [flat,PV.cells])
  have h1:=hr 1 (by simp [flat,PV.cells])
  have h2:=hr 2 (by simp [flat,PV.cells])
  match i,hcl with
  | 0,_=>exact h0
  | 1,_=>exact Reads.nn_list h1
  | 2,_=>exact h2
theorem concat3_c (a:List Int) (x:Int) (c:List Int) (h:a.length + 1 + c.length≤1000000000):FnC Try.prog 67 [.nn [.list (il a),.nn [.int .i64 x],.list (il c)]] (.list (il (a++[x]++c))):=by
 have:=concat_c [a,[x],c] (by simp; omega) (by simp)
 have e:[a,[x],c].flatten=a++[x]++c:=by simp
 rw [e] at this
 exact FnC.weak this ⟨Rle.nn_mid,trivial⟩
section
variable {step:Nat→Int→Option Nat} {lst:List Nat} {f:Wy}
def bL (step:Nat→Int→Option Nat) (f:Wy) (v:Nat) (xs:List Int):List (List Int):=(((xs.filter fun x=>decide (0 < x)).map fun x=>(v,x)).map (bw step f)).filter fun w=>decide (0 < w.length)
theorem basS_take {i:Nat} (h:i < lst.length):basS step (lst.take (i + 1)) f=basS step (lst.take i) f++bL step f (lst.getD i 0) (ltS step (lst.getD i 0)):=by
 unfold basS bL PE
 have:lst.take (i + 1)=lst.take i++[lst.getD i 0]:=take_snoc h
 rw [this,List.flatMap_append,List.map_append,List.filter_append]
 simp
theorem bL_snoc (v:Nat) (xs:List Int) (x:Int):bL step f v (xs++[x])=bL step f v xs++(if 0 < x then (if 0 < (bw step f (v,x)).length then [bw step f (v,x)] else []) else []):=by
 unfold bL
 rw [List.filter_append,List.map_append,List.map_append,List.filter_append]
 congr 1
 by_cases h:0 < x
 ·by_cases h2:0 < (bw step f (v,x)).length
  ·simp [h,h2]
  simp [h,h2]
 simp [h]
end
section
variable {step:Nat→Int→Option Nat} {lst:List Nat} {f:Wy}
theorem way_len (g:GT step lst f) {u:Nat} (hu:u∈lst):(wy f u).length < lst.length:=by
 have go:∀ n j,j≤n→j < lst.length→(wy f (lst.getD j 0)).length≤j:=by
  intro n
  induction n with
  | zero =>
   intro j hj hl
   obtain rfl:j=0:=by omega
   rw [g.ix0.2,g.wy0]; exact Nat.le_refl _
  | succ n ih =>
   intro j hj hl
   by_cases h:j=0
   ·exact ih j (by omega) hl
   obtain ⟨i,x,a1,a2,a3⟩:=g.par hl (by omega)
   have:=ih i (by omega) (by omega)
   rw [a2,List.length_append,List.length_singleton]; omega
 obtain ⟨j,hj,rfl⟩:=ix_of hu
 have:=go j j (Nat.le_refl _) hj
 omega
end
section
variable {G:List Mp} {U:List Int}
set_option maxHeartbeats 4000000 in
set_option maxRecDepth 20000 in
theorem basis_e (w0:WG G U) (hp:0 < G.length) (hs:SymW G U []) (hk:G.length≤10000001) :
  FnE Try.prog 49 [.ptr 0 0] (GB G U) (fun r H'=>∃ (lst:List Nat) (f:Wy) (U' : List Int),r = .p (.list (ll (basS (stR G U) lst f)))∧H' = GB G U'∧GT (stR G U) lst f∧(∀ u∈lst,u < G.length∧rV U u=u)∧∀ u∈lst,∀ w,runW (stR G U) 0 w=some u→(wy f u).length≤w.length):=by
 obtain ⟨Post,hP⟩:∃ Post:AV→Heap→Prop,Post=(fun r H'=>∃ (lst:List Nat) (f:Wy) (U' : List Int),r = .p (.list (ll (basS (stR G U) lst f)))∧H' = GB G U'∧GT (stR G U) lst f∧(∀ u∈lst,u < G.length∧rV U u=u)∧∀ u∈lst,∀ w,runW (stR G U) 0 w=some u→(wy f u).length≤w.length):=⟨_,rfl⟩
 rw [← hP]
 obtain ⟨st,hst⟩:∃ st,stR G U=st:=⟨_,rfl⟩
 rw [hst] at hP
 refine fne_of tab_ok Try.func49 rfl (by kernel_rfl) (by rw [Try.ntmps49]; exact Nat.le_add_left 1 _) ?_; rw [Try.ntmps49]; simp only [ancs,entA,List.length_cons,List.length_nil,List.cons_append,List.nil_append,Nat.reduceAdd,Nat.zero_add]
 have hYl:(ancs 0 (GB G U).length).length=G.length + 3:=by rw [ancs_length,GB_len]
 have hXs0:∀ L,G.length + 3≤L→∀ b∈ancs 0 (GB G U).length,hsc L b=true:=fun L hL b hb=>ancs_hsc (by rw [GB_len]; omega) b hb
 generalize ancs 0 (GB G U).length=X at hYl hXs0 ⊢
 obtain ⟨n0,hn0⟩:∃ n0,G.length + 3 + (G.length + 3)=n0:=⟨_,rfl⟩
 have hBl:∀ U1,(GB G U1++X).length=n0:=fun U1=>by rw [List.length_append,GB_len,hYl]; exact hn0
 have hg0:∀ (V:List Int) (a:Blk) (R:Heap),hget (GB G V++(X++a :: R)) n0=a:=fun V a R=>by
  rw [← List.append_assoc,hget_app2 (by rw [hBl]; exact Nat.le_refl _),hBl,Nat.sub_self]; rfl
 have hg1:∀ (V:List Int) (a b:Blk) (R:Heap),hget (GB G V++(X++a :: b :: R)) (n0 + 1)=b:=fun V a b R=>by
  rw [← List.append_assoc,hget_app2 (by rw [hBl]; omega),hBl,Nat.add_sub_cancel_left]; rfl
 have hs1:∀ (V:List Int) (a b c:Blk) (R:Heap),hset (GB G V++(X++a :: b :: R)) (n0 + 1) c=GB G V++(X++a :: c :: R):=fun V a b c R=>by
  rw [← List.append_assoc,hset_eq,List.set_append_right _ _ (by rw [hBl]; omega),hBl,Nat.add_sub_cancel_left,List.append_assoc]; rfl
 have hL:∀ (V:List Int) (R:Heap),(GB G V++(X++R)).length=n0 + R.length:=fun V R=>by
  rw [← List.append_assoc,List.length_append,hBl]
 have hgw:∀ (V:List Int) (f:Wy) (R:Heap),hget (GB G V++(X++wayB f :: R)) n0 = .mp .i64 (fun z=>(f z).isSome) (fun z=>.list (il ((f z).getD []))):=fun V f R=>hg0 V _ R
 have hBs1:∀ (V:List Int) (f:Wy) (M:Nat),n0≤M→∀ b∈(GB G V++(X++[wayB f])),hsc M b=true:=fun V f M hM b hb=>by
  rw [← List.append_assoc] at hb
  rcases List.mem_append.1 hb with hb | hb
  ·exact GB_hscX (by omega) (hXs0 _ (by omega)) b hb
  rw [List.mem_singleton] at hb; subst hb; rfl
 have hBs:∀ (V:List Int) (f:Wy) (c:List PV),∀ b∈(GB G V++(X++[wayB f,.own (opl c)])),hsc (n0 + 2) b=true:=fun V f c b hb=>by
  rw [show GB G V++(X++[wayB f,Blk.own (opl c)])=(GB G V++(X++[wayB f]))++[Blk.own (opl c)] by simp] at hb
  rcases List.mem_append.1 hb with hb | hb
  ·exact hBs1 V f _ (by omega) b hb
  rw [List.mem_singleton] at hb; subst hb
  exact List.all_eq_true.2 fun x hx=>(List.all_eq_true.1 (opl_sc _ _)) x hx
 have hle:∀ {S1 s1:St} (V:List Int) (f:Wy) (c:List PV),S1.n=s1.n→s1.H=GB G V++(X++[wayB f,.own (opl c)])→S1.H=s1.H→(∀ p∈S1.sl,s1.get p.1=p.2∧scA (n0 + 2) p.2=true)→Le (List.range (n0 + 2)) S1 s1:=fun {S1 s1} V f c h1 h2 h3 h4=>by
  have hlen:s1.H.length=n0 + 2:=by rw [h2,hL]; rfl
  rw [← hlen] at h4 ⊢
  exact le_same h1 h3 (fun b hb=>by rw [hlen]; rw [h2] at hb; exact hBs V f c b hb) h4
 refine qm ?_
 refine hk_region fun K hK=>runs_eval tab_ok ?_
 simp only [evz,fl,gp,tab,simprocAttr]
 refine fin_run trivial (hK _ ?_)<;>clear hK K
 refine qa (qm ?_)
 refine hk_regE 1 (runs_cut fun K hK=>?_)
 simp only [List.take_succ_cons,List.take_zero]
 refine runs_eval tab_ok ?_
 simp only [evz,fl,gp,tab,simprocAttr]
 refine fin_run trivial (hK _ ?_)<;>clear hK K
 refine ⟨_,_,rfl,rfl,by simp only [dstOk,Nat.reduceLT],reach_E (X:=X) rfl rfl w0 hp hs (by omega) rfl rfl,fun av H' hO=>?_⟩
 obtain ⟨lst,f,U1,rfl,rfl,w1,r1,g,hrt,hf⟩:=hO
 rw [hst] at g hf
 refine runs_cut fun K hK=>?_
 simp only [List.drop_succ_cons,List.drop_zero,hYl,hn0]
 refine runs_eval tab_ok ?_
 simp only [evz,fl,gp,tab,simprocAttr]
 refine fin_run trivial (hK _ ?_)<;>clear hK K
 refine qa (qm ?_)
 refine hk_region fun K hK=>runs_eval tab_ok ?_
 simp only [evz,fl,gp,tab,simprocAttr]
 refine fin_run trivial (hK _ ?_)<;>clear hK K
 refine qa (qm (qm ?_))
 refine hk_own0 5 rfl ?_
 simp only [hL,List.append_assoc,List.cons_append,List.nil_append,List.length_cons,List.length_nil,Nat.zero_add]
 refine hk_region fun K hK=>runs_eval tab_ok ?_
 simp only [evz,fl,gp,tab,simprocAttr,il_length,List.length_map]
 refine fin_run trivial (hK _ ?_)<;>clear hK K
 refine qa (ql ?_)
 refine hk_loop (ι:=Nat × List (List Int) × List Int) (fun q=>⟨66,[(0,.ptr 0 0),(4,.mptr n0),(5,.sl (n0 + 1) 0 q.2.1.length),(17,.p (.list (il (lst.map Int.ofNat)))),(18,.p (.int .i64 lst.length)),(19,.p (.int .i64 (q.1:Nat)))],GB G q.2.2++(X++[wayB f,.own (opl (ll q.2.1))])⟩)
  (fun q=>q.1≤lst.length∧q.2.1=basS st (lst.take q.1) f∧q.2.1.length≤53 * q.1∧WG G q.2.2∧∀ u,u < G.length→rV q.2.2 u=rV U u) (fun q=>lst.length - q.1) (0,[],U1) ⟨Nat.zero_le _,rfl,Nat.le_refl _,w1,r1⟩ (List.range (n0 + 2)) (hle U1 f [] rfl rfl rfl (by simp [St.get,lk,scA,sc1,ll])) fun q hq=>?_
 obtain ⟨i,b,V⟩:=q
 obtain ⟨q1,q2,q3,w2,r2⟩:=hq
 simp only at q1 q2 q3 w2 r2 ⊢
 have hll:lst.length≤G.length:=nodup_len _ _ g.nd fun x hx=>(hrt x hx).1
 refine qm ?_
 refine hk_region fun K hK=>runs_eval tab_ok ?_
 simp only [evz,fl,gp,tab,simprocAttr]
 refine fin_run trivial (hK _ ?_)<;>clear hK K
 refine qa (qm ?_)
 refine hk_cond rfl (fun hC1=>?_) (fun hC1=>?_)
 ·(try simp only [nhs] at hC1)
  have hi:i < lst.length:=by omega
  obtain ⟨v,hv⟩:∃ v,lst.getD i 0=v:=⟨_,rfl⟩
  have hvm:v∈lst:=hv ▸ mem_ix hi
  obtain ⟨hvl,hvr⟩:=hrt v hvm
  have hgl:(lst.map Int.ofNat).getD i 0=(v:Int):=by
   rw [← hv,List.getD_eq_getElem?_getD,List.getD_eq_getElem?_getD,List.getElem?_map,List.getElem?_eq_getElem hi]; rfl
  have hil:i < (lst.map Int.ofNat).length:=by simpa using hi
  refine qh (qa (qm (ql (qm ?_))))
  refine hk_region fun K hK=>runs_eval tab_ok ?_
  simp only [evz,fl,gp,tab,simprocAttr,il_length,List.length_map,il_get hil,hgl]
  refine fin_run ?_ (hK _ ?_)<;>clear hK K
  ·omega
  refine qa (qm ?_)
  refine hk_region fun K hK=>runs_eval tab_ok ?_
  simp only [evz,fl,gp,tab,simprocAttr]
  refine fin_stop ?_ (runs_letters (U:=V) (X:=X++[wayB f,.own (opl (ll b))]) w2 (by omega) (v:=v) hvl rfl rfl rfl rfl (by simp only [dstOk,Nat.reduceLT]) (runs_eval tab_ok ?_))
  ·exact trivial
  simp only [evz,fl,gp,tab,simprocAttr,il_length]
  refine fin_run trivial (hK _ ?_)<;>clear hK K
  refine qa (ql ?_)
  obtain ⟨L,hLd⟩:∃ L,lts (gm G v)=L:=⟨_,rfl⟩
  have hLl:L.length≤53:=hLd ▸ lts_len _
  have hLs:ltS st v=L:=by rw [← hst,← lts_ltS ⟨hvl,hvr⟩]; exact hLd
  rw [hLd]
  refine hk_loop (ι:=Nat × List (List Int) × List Int) (fun q=>⟨66,[(0,.ptr 0 0),(4,.mptr n0),(5,.sl (n0 + 1) 0 q.2.1.length),(7,.p (.int .i64 (v:Nat))),(17,.p (.list (il (lst.map Int.ofNat)))),(18,.p (.int .i64 lst.length)),(19,.p (.int .i64 (i:Nat))),(25,.p (.list (il L))),(26,.p (.int .i64 L.length)),(27,.p (.int .i64 (q.1:Nat)))],GB G q.2.2++(X++[wayB f,.own (opl (ll q.2.1))])⟩)
   (fun q=>q.1≤L.length∧q.2.1=b++bL st f v (L.take q.1)∧q.2.1.length≤53 * i + q.1∧WG G q.2.2∧∀ u,u < G.length→rV q.2.2 u=rV U u) (fun q=>L.length - q.1) (0,b,V) ⟨Nat.zero_le _,by simp [bL],q3,w2,r2⟩ (List.range (n0 + 2)) (hle V f (ll b) rfl rfl rfl (by simp [St.get,lk,scA,sc1])) fun q hq=>?_
  obtain ⟨j,c,V2⟩:=q
  obtain ⟨j1,j2,j3,w3,r3⟩:=hq
  simp only at j1 j2 j3 w3 r3 ⊢
  refine qm ?_
  refine hk_region fun K hK=>runs_eval tab_ok ?_
  simp only [evz,fl,gp,tab,simprocAttr]
  refine fin_run trivial (hK _ ?_)<;>clear hK K
  refine qa (qm ?_)
  refine hk_cond rfl (fun hC2=>?_) (fun hC2=>?_)
  ·(try simp only [nhs] at hC2)
   have hj:j < L.length:=by omega
   obtain ⟨x,hx⟩:∃ x,L.getD j 0=x:=⟨_,rfl⟩
   have hxm:x∈L:=by rw [← hx,List.getD_eq_getElem?_getD,List.getElem?_eq_getElem hj]; exact List.getElem_mem hj
   have hLt:L.take (j + 1)=L.take j++[x]:=by rw [take_snoc (d:=0) hj,hx]
   have hsn:=bL_snoc (step:=st) (f:=f) v (L.take j) x
   rw [← hLt] at hsn
   refine qh (qa (qm (ql (qm ?_))))
   refine hk_region fun K hK=>runs_eval tab_ok ?_
   simp only [evz,fl,gp,tab,simprocAttr,il_length,il_get hj,hx]
   refine fin_run ?_ (hK _ ?_)<;>clear hK K
   ·omega
   refine qa (qm (qm ?_))
   refine hk_region fun K hK=>runs_eval tab_ok ?_
   simp only [evz,fl,gp,tab,simprocAttr]
   refine fin_run trivial (hK _ ?_)<;>clear hK K
   refine qa ?_
   refine hk_cond rfl (fun hC3=>?_) (fun hC3=>?_)
   ·(try simp only [nhs] at hC3)
    have hx0:x < 0:=by simpa using hC3
    refine qj (qc (qf (qa ?_)))
    refine hk_region fun K hK=>runs_eval tab_ok ?_
    simp only [evz,fl,gp,tab,simprocAttr]
    refine fin_run ?_ (hK _ ?_)<;>clear hK K
    ·(first|exact trivial|omega|(simp only [In64] at *; omega)|(simp [In64] at *; omega)|(simp_all; done)|skip)
    refine qa ?_
    rw [if_neg (by omega),List.append_nil] at hsn
    exact ⟨(j + 1,c,V2),List.range (n0 + 2),⟨by simp only; omega,by simp only; rw [hsn]; exact j2,by simp only; omega,w3,r3⟩,by simp only; omega,hle V2 f (ll c) rfl rfl rfl (by simp [St.get,lk,scA,sc1])⟩
   (try simp only [nhs] at hC3)
   have hx1:0 < x:=by
    have h1:¬ x < 0:=by simpa using hC3
    obtain ⟨d,hd⟩:=Option.isSome_iff_exists.1 (mem_ltS.1 (hLs ▸ hxm)).2
    have:=g.nz hvm hd
    omega
   rw [if_pos hx1] at hsn
   have hxs:(gm G v x).isSome=true:=(mem_lts.1 (hLd ▸ hxm)).2
   obtain ⟨cc,hc⟩:=Option.isSome_iff_exists.1 hxs
   obtain ⟨e0,e1,e2⟩:=w3.ent v x cc hvl hc
   obtain ⟨d,rfl⟩:=Int.eq_ofNat_of_zero_le e0
   rw [Int.toNat_natCast] at e1
   obtain ⟨V3,hV3⟩:∃ V3,ofU V2 d=V3:=⟨_,rfl⟩
   have w4:WG G V3:=hV3 ▸ w3.of e1
   have r4:∀ u,u < G.length→rV V3 u=rV U u:=fun u hu=>by rw [← hV3,w3.ofr e1 u hu]; exact r3 u hu
   obtain ⟨u,hu⟩:∃ u,rV V2 d=u:=⟨_,rfl⟩
   have hsu:st v x=some u:=by
    rw [← hst,stR_of ⟨hvl,hvr⟩]
    unfold stp
    rw [hc,← hu,r3 d e1]; rfl
   have hum:u∈lst:=g.cl v hvm x u hsu
   have fv:f (v:Int)=some (wy f v):=by
    obtain ⟨l,hl⟩:=Option.isSome_iff_exists.1 ((g.dom v).2 ⟨v,hvm,rfl⟩)
    unfold wy; rw [hl]; rfl
   have fu:f (u:Int)=some (wy f u):=by
    obtain ⟨l,hl⟩:=Option.isSome_iff_exists.1 ((g.dom u).2 ⟨u,hum,rfl⟩)
    unfold wy; rw [hl]; rfl
   have lv:(wy f v).length≤10000001:=by
    have:=way_len g hum
    have:=way_len g hvm
    omega
   have lu:(wy f u).length≤10000001:=by
    have:=way_len g hum
    omega
   have gM:∀ Y:Heap,hget (G.map mpB++Y) v=mpB (gm G v):=fun Y=>hget_G hvl
   have hGBk:∀ (Y:Heap),GB G V2++Y = .own [.sl 1 0 G.length,.sl 2 0 V2.length] :: .own (mps G.length) :: .own (ol V2) :: (G.map mpB++Y):=fun Y=>rfl
   refine qh (qa (qm ?_))
   rw [hGBk]
   refine hk_region fun K hK=>runs_eval tab_ok ?_
   simp only [evz,fl,gp,tab,simprocAttr,mps_get hvl,gM,mpB,hc,Option.isSome_some,cond_true,Option.getD_some,Int.ofNat_eq_natCast,mps_len,Int.toNat_natCast]
   refine fin_stop ?_ (runs_of (U:=V2) (X:=X++[wayB f,.own (opl (ll c))]) w3 (by omega) (v:=d) e1 rfl rfl (hGBk _).symm rfl (by simp only [dstOk,Nat.reduceLT]) (runs_eval tab_ok ?_))
   ·exact ⟨⟨by omega,by omega⟩,hvl⟩
   simp only [hV3,hu]
   simp only [evz,fl,gp,tab,simprocAttr]
   refine fin_run trivial (hK _ ?_)<;>clear hK K
   refine qa (qm ?_)
   obtain ⟨bw0,hbw0⟩:∃ b,wy f v++[x]++back (wy f u)=b:=⟨_,rfl⟩
   have hb1:bw st f (v,x)=short bw0:=by unfold bw; rw [tgt_of hsu]; simp only [hbw0]
   have hokb:Ok bw0:=by
    rw [← hbw0]
    exact ((g.ok v hvm).app fun y hy=>by rw [List.mem_singleton] at hy; subst hy; exact g.lt v hvm _ _ hsu).app (g.ok u hum).back
   have hbl:bw0.length≤30000000:=by rw [← hbw0]; simp [back_len]; omega
   have hbc:=concat3_c (wy f v) x (back (wy f u)) (by rw [back_len]; omega)
   rw [hbw0] at hbc
   have hsb:(short bw0).length≤30000000:=Nat.le_trans (short_len _) hbl
   refine hk_draw2 mixed fun K hK=>runs2_eval tab_ok ?_
   simp only [evD,evz,fl,gp,tab,simprocAttr,hgw,fv,fu,Option.isSome_some,cond_true,Option.getD_some]
   refine fin2_stop trivial (runs2_call (back_c (wy f u) (by omega) (g.ok u hum).sm) rfl rfl rfl rfl (by simp only [dstOk,Nat.reduceLT]) (by repeat (first|exact trivial|constructor)) (runs2_eval tab_ok ?_))
   simp only [evD,evz,fl,gp,tab,simprocAttr,hgw,fv,fu,Option.isSome_some,cond_true,Option.getD_some]
   refine fin2_stop trivial (runs2_call (hbc) rfl rfl rfl rfl (by simp only [dstOk,Nat.reduceLT]) (by repeat (first|exact trivial|constructor)) (runs2_eval tab_ok ?_))
   simp only [evD,evz,fl,gp,tab,simprocAttr,hgw,fv,fu,Option.isSome_some,cond_true,Option.getD_some]
   refine fin2_stop trivial (runs2_call (short_c bw0 (by omega) hokb.sm) rfl rfl rfl rfl (by simp only [dstOk,Nat.reduceLT]) (by repeat (first|exact trivial|constructor)) (runs2_eval tab_ok ?_))
   simp only [evD,evz,fl,gp,tab,simprocAttr,hgw,fv,fu,Option.isSome_some,cond_true,Option.getD_some]
   refine fin2_run ?_ (hK _ _ (by first|kernel_rfl|rfl) ?_)<;>clear hK K
   ·(first|exact trivial|omega|(simp only [In64] at *; omega)|(simp [In64] at *; omega)|(simp_all; done)|skip)
   refine qa (qm ?_)
   refine hk_region fun K hK=>runs_eval tab_ok ?_
   simp only [evz,fl,gp,tab,simprocAttr,il_length]
   refine fin_run trivial (hK _ ?_)<;>clear hK K
   refine qa ?_
   refine hk_cond rfl (fun hC4=>?_) (fun hC4=>?_)
   ·(try simp only [nhs] at hC4)
    have h4:0 < (short bw0).length:=by simpa using hC4
    refine hk_region fun K hK=>runs_eval tab_ok ?_
    simp only [evz,fl,gp,tab,simprocAttr,hg1,hs1,hL]
    refine fin_run ?_ (hK _ ?_)<;>clear hK K
    ·exact ⟨List.all_eq_true.2 fun x hx=>(List.all_eq_true.1 (opl_ok (ll_all c))) x (by
      unfold opl at hx ⊢
      obtain ⟨y,hy,rfl⟩:=List.mem_map.1 hx
      exact List.mem_map.2 ⟨y,List.mem_of_mem_take hy,rfl⟩),Nat.le_refl _,by omega,by omega⟩
    refine qd (qa ?_)
    refine hk_region fun K hK=>runs_eval tab_ok ?_
    simp only [evz,fl,gp,tab,simprocAttr]
    refine fin_run ?_ (hK _ ?_)<;>clear hK K
    ·(first|exact trivial|omega|(simp only [In64] at *; omega)|(simp [In64] at *; omega)|(simp_all; done)|skip)
    refine qa ?_
    rw [hb1,if_pos h4] at hsn
    have e2:List.take c.length (ll c)++[PV.list (il (short bw0))]=ll (c++[short bw0]):=by
     rw [List.take_of_length_le (by rw [ll_length]; exact Nat.le_refl _),ll_snoc]
    refine ⟨(j + 1,c++[short bw0],V3),List.range (n0 + 1)++[n0 + 2],⟨by simp only; omega,by simp only; rw [hsn,j2,List.append_assoc],by simp only [List.length_append,List.length_singleton]; omega,w4,r4⟩,by simp only; omega,le_behind (B:=GB G V3++(X++[wayB f])) (c:=opl (ll (c++[short bw0]))) (d:=opl (ll (c++[short bw0]))) rfl (by rw [hL]; rfl) (by simp) (fun b hb=>hBs1 V3 f _ (by omega) b hb) (by omega) (fun b hb=>hBs1 V3 f _ (by omega) b hb) (fun k hk=>?_) ?_ ?_ (opl_sc _ _) ?_⟩
    ·show hget (GB G V3++(X++[wayB f,_])++[_]) k=_
     rw [show ∀ b d:Blk,GB G V3++(X++[wayB f,b])++[d]=(GB G V3++(X++[wayB f]))++[b,d] from fun b d=>by simp]
     exact hget_app1 (by rw [hL]; simpa using hk)
    ·rw [← e2]
     show hget (GB G V3++(X++[wayB f,_])++[_]) (n0 + 2)=_
     rw [hget_app2 (by rw [hL]; exact Nat.le_refl _),hL]; simp [hget]
    ·rw [opl_ren,List.take_of_length_le (Nat.le_refl _)]
    have hq3:(List.range (n0 + 1)++[n0 + 2]).getD (n0 + 1) 0=n0 + 2:=by
     rw [List.getD_eq_getElem?_getD,List.getElem?_append_right (by simp)]; simp
    have hq0:(List.range (n0 + 1)++[n0 + 2]).getD 0 0=0:=by
     rw [List.getD_eq_getElem?_getD,List.getElem?_append_left (by simp)]; simp
    have hqn:(List.range (n0 + 1)++[n0 + 2]).getD n0 0=n0:=by
     rw [List.getD_eq_getElem?_getD,List.getElem?_append_left (by simp)]; simp
    refine ⟨?_,?_,?_,?_,?_,?_,rfl,rfl,rfl,rfl,rfl,rfl,rfl,rfl,rfl,rfl,rfl,rfl,?_,rfl,trivial⟩
    ·show AV.ptr 0 0=Go.Pv.ren _ _
     simp only [Go.Pv.ren,ren1,hq0]
    ·simp [scA,sc1]
    ·show AV.mptr n0=Go.Pv.ren _ _
     simp only [Go.Pv.ren,ren1,hqn]
    ·simp [scA,sc1]; omega
    ·show AV.sl (n0 + 2) 0 (c.length + 1)=Go.Pv.ren _ _
     simp only [Go.Pv.ren,ren1,hq3,List.length_append,List.length_singleton]
    ·simp [scA,sc1]
    rfl
   (try simp only [nhs] at hC4)
   refine qh (qd (qa ?_))
   refine hk_region fun K hK=>runs_eval tab_ok ?_
   simp only [evz,fl,gp,tab,simprocAttr]
   refine fin_run ?_ (hK _ ?_)<;>clear hK K
   ·(first|exact trivial|omega|(simp only [In64] at *; omega)|(simp [In64] at *; omega)|(simp_all; done)|skip)
   refine qa ?_
   have h4:¬ 0 < (short bw0).length:=by simpa using hC4
   rw [hb1,if_neg h4,List.append_nil] at hsn
   exact ⟨(j + 1,c,V3),List.range (n0 + 2),⟨by simp only; omega,by simp only; rw [hsn]; exact j2,by simp only; omega,w4,r4⟩,by simp only; omega,hle V3 f (ll c) rfl rfl rfl (by simp [St.get,lk,scA,sc1])⟩
  (try simp only [nhs] at hC2)
  refine qj (qc (qc (qf (qd (qa ?_)))))
  refine hk_region fun K hK=>runs_eval tab_ok ?_
  simp only [evz,fl,gp,tab,simprocAttr]
  refine fin_run ?_ (hK _ ?_)<;>clear hK K
  ·(first|exact trivial|omega|(simp only [In64] at *; omega)|(simp [In64] at *; omega)|(simp_all; done)|skip)
  refine qa ?_
  have hjl:j=L.length:=by omega
  have hbt:=basS_take (step:=st) (f:=f) hi
  rw [hv,hLs,← q2] at hbt
  exact ⟨(i + 1,c,V2),List.range (n0 + 2),⟨by simp only; omega,by simp only; rw [hbt,j2,hjl,List.take_length],by simp only; omega,w3,r3⟩,by simp only; omega,hle V2 f (ll c) rfl rfl rfl (by simp [St.get,lk,scA,sc1])⟩
 (try simp only [nhs] at hC1)
 refine qj (qc (qc (qf (qa (qm ?_)))))
 refine hk_sealp 5 (n0 + 1) (l:=ll b) (ll_all b) (by show AV.sl (n0 + 1) 0 b.length=_; rw [ll_length]) (hg1 _ _ _ _) ?_
 refine hk_region fun K hK=>runs_eval tab_ok ?_
 simp only [evz,fl,gp,tab,simprocAttr]
 refine fin_run trivial (hK _ ?_)<;>clear hK K
 refine qa (qk ?_)
 simp only [Try.results49,PostG,endG,rvsA,rvA,mkTup,evz,fl,gp,tab,simprocAttr]
 have hie:i=lst.length:=by omega
 rw [hie,List.take_length] at q2
 refine ⟨.p (.list (ll b)),GB G V,by rw [hP]; exact ⟨lst,f,V,by rw [q2],rfl,g,hrt,hf⟩,List.range n0,rfl,rfl,?_⟩
 refine le_stay (B:=GB G V++X) rfl (hBl V) rfl (fun b hb=>GB_hscX (by omega) (hXs0 _ (by omega)) b hb) (fun k hk=>?_) trivial
 show hget (hset (GB G V++(X++[wayB f,_])) (n0 + 1) _) k=_
 rw [hs1,← List.append_assoc]
 exact hget_app1 (by rw [hBl]; exact hk)
end
end Go.Proofs.Ytneglephfhiamaa

namespace Go.Proofs.Ytneglephfhiamaa
open Go.Pv
open Go.RowKit
theorem call_doesES {P:Program} {s:St} {o:Oper} {fo:Operand} {args:Array Operand} {ts:Array TypeId} (ho:o.op = .call { callee:=.value fo,args:=args,argTypes:=ts }) {g:FuncId} {cap:List PV} (hfo:s.ev fo = .p (.fn g cap)) {avs:List AV} {H0 Q:Heap} {Post:AV→Heap→Prop}
  (hc:FnE P g avs H0 Post) (hH:s.H=Q++H0.map (Blk.ren (List.range' Q.length H0.length))) (hargs:argsM s.H (List.range' Q.length H0.length) (args.toList.map s.ev++cap.map .p) avs) (h1:∀ b∈H0,hsc H0.length b=true) (h2:H0.all notAnc=true) (hsc:∀ r H1,Post r H1→scM r H0 H1=true) :
  DoesE P o s (fun av H'=>∃ r H1,Post r H1∧av=Go.Pv.ren (List.range' Q.length H1.length) r∧H' = Q++H1.map (Blk.ren (List.range' Q.length H1.length))):=by
 have hsl:s.H.length=Q.length + H0.length:=by rw [hH]; simp
 have hle:LeH (List.range' Q.length H0.length) s.H (List.range' Q.length H0.length) H0:=by
  refine leH_at (by simp) fun i hi=>?_
  have e:(List.range' Q.length H0.length).getD i 0=Q.length + i:=by simp [List.getD,List.getElem?_range' hi]
  have eb:hget s.H (Q.length + i)=Blk.ren (List.range' Q.length H0.length) (hget H0 i):=by
   rw [hH,hget_app2 (by omega),Nat.add_sub_cancel_left,hget_eq,List.getD_eq_getElem?_getD,List.getElem?_map,hget_eq,List.getD_eq_getElem?_getD,List.getElem?_eq_getElem hi]; rfl
  have hm:hget H0 i∈H0:=by rw [hget_eq,List.getD_eq_getElem?_getD,List.getElem?_eq_getElem hi]; exact List.getElem_mem hi
  have hb:=h1 _ hm
  have hna:=(List.all_eq_true.1 h2) _ hm
  rw [e]
  revert eb hb hna
  generalize hget H0 i=b
  intro eb hb hna
  cases b with
  | own d =>
   simp only [Blk.ren] at eb
   simp only [LeB,eb]
   refine ⟨?_,List.all_eq_true.2 fun x hx=>scA_mn (by simp) ((List.all_eq_true.1 hb) x hx)⟩
   rw [List.take_of_length_le (by simp)]
  | anc i j=>cases hna
  | dead=>trivial
  | _=>simp only [Blk.ren] at eb; simp only [LeB,eb]
 have:=call_doesE ho hfo hc hargs hle (List.nodup_range' ..) (fun k hk=>by rw [hsl]; have:=List.mem_range'_1.1 hk; omega) h2 hsc
 intro C m a w K R0 R hK
 refine this C m a w K R0 R fun v m' w' av H' ⟨r,H1,e0,e1,e2⟩ R2 hv=>hK v m' w' av H' ⟨r,H1,e0,?_,?_⟩ R2 hv
 ·have hl:H0.length≤H1.length:=by
   have:=hsc r H1 e0
   unfold scM at this
   simp only [Bool.and_eq_true,decide_eq_true_eq] at this
   exact this.1.1.2
  have er:List.range' Q.length H0.length++List.range' s.H.length (H1.length - (List.range' Q.length H0.length).length)=List.range' Q.length H1.length:=by
   rw [List.length_range',hsl,List.range'_append_1]; congr 1; omega
  rw [e1,er]
 have hl:H0.length≤H1.length:=by
  have:=hsc r H1 e0
  unfold scM at this
  simp only [Bool.and_eq_true,decide_eq_true_eq] at this
  exact this.1.1.2
 have er:List.range' Q.length H0.length++List.range' s.H.length (H1.length - (List.range' Q.length H0.length).length)=List.range' Q.length H1.length:=by
  rw [List.length_range',hsl,List.range'_append_1]; congr 1; omega
 rw [e2,er,hH]
 obtain ⟨M,hM⟩:∃ M,H1.map (Blk.ren (List.range' Q.length H1.length))=M:=⟨_,rfl⟩
 have hMl:M.length=H1.length:=by rw [← hM]; simp
 rw [hM]
 have:=putM_pre0 (H0.map (Blk.ren (List.range' Q.length H0.length))) (M.take H0.length) Q [] (M.drop H0.length) (by simp; omega)
 rw [List.append_nil,List.take_append_drop,List.append_nil,List.length_map,List.append_assoc,List.take_append_drop] at this
 exact this
section
variable {G:List Mp} {U:List Int}
theorem GB_scM {v:PV} {U' : List Int} : scM (.p v) (GB G U) (GB G U')=true:=(scP_M (n:=(GB G U).length) GB_na rfl (GB_scP (v:=v) rfl)).1
theorem basis_E {s:St} {o:Oper} {fo:Operand} {args:Array Operand} {ts:Array TypeId} {Q:Heap} (ho:o.op = .call { callee:=.value fo,args:=args,argTypes:=ts }) (hfo:s.ev fo = .p (.fn 49 []))
  (w0:WG G U) (hp:0 < G.length) (hs:SymW G U []) (hk:G.length≤10000001) (hH:s.H=Q++(GB G U).map (Blk.ren (List.range' Q.length (GB G U).length))) (hargs:args.toList.map s.ev++([]:List PV).map .p=[.ptr Q.length 0]) :
  DoesE Try.prog o s (fun av H'=>∃ (lst:List Nat) (f:Wy) (R:Heap),av = .p (.list (ll (basS (stR G U) lst f)))∧H' = Q++R∧GT (stR G U) lst f∧(∀ u∈lst,u < G.length∧rV U u=u)∧∀ u∈lst,∀ w,runW (stR G U) 0 w=some u→(wy f u).length≤w.length):=by
 have h0:(List.range' Q.length (GB G U).length).getD 0 0=Q.length:=by
  rw [List.getD_eq_getElem?_getD,List.getElem?_range' (by rw [GB_len]; omega)]; simp
 have:=call_doesES ho hfo (basis_e w0 hp hs hk) hH (by
  rw [hargs]
  refine ⟨⟨?_,?_⟩,trivial⟩
  ·simp only [Go.Pv.ren,ren1,h0]
  ·rw [List.length_range',GB_len]; simp [scA,sc1]) (by rw [GB_len]; exact GB_hsc (Nat.le_refl _)) GB_na (by
  rintro r H1 ⟨lst,f,U',rfl,rfl,_⟩
  exact GB_scM)
 intro C m a w K R0 R hK
 refine this C m a w K R0 R fun v m' w' av H' ⟨r,H1,⟨lst,f,U',e0,e1,e2⟩,e3,e4⟩ R2 hv=>hK v m' w' av H' ⟨lst,f,_,?_,e4,e2⟩ R2 hv
 rw [e3,e0]; rfl
end
def BasO (L:List (List Int)) (r:AV):Prop:=
 ((ckL L).1 ≠ 0∧r = .p (.tup [.nil,fl (ckL L)]))∨((ckL L).1=0∧∃ st lst f,IsG (L.map short) st lst f∧lst.length≤10000001∧r = .p (.tup [.list (ll (basS st lst f)),fl (0,0)]))
set_option maxHeartbeats 4000000 in
set_option maxRecDepth 20000 in
theorem Basis_e (L:List (List Int)) (hl:L.length≤1000000000) (hw:∀ w∈L,w.length≤1000000000) (hgood:(ckL L).1=0→Good L) :
  FnE Try.prog 15 [.p (.list (ll L))] [] (fun r H'=>BasO L r∧H' = []):=by
 obtain ⟨Post,hP⟩:∃ Post:AV→Heap→Prop,Post=(fun r H'=>BasO L r∧H' = []):=⟨_,rfl⟩
 rw [← hP]
 refine fne_of tab_ok Try.func15 rfl (by kernel_rfl) (by rw [Try.ntmps15]; exact Nat.le_add_left 1 _) ?_; rw [Try.ntmps15]; simp only [ancs,entA,List.length_cons,List.length_nil,List.cons_append,List.nil_append,Nat.reduceAdd,Nat.zero_add]
 refine qm ?_
 refine hk_region fun K hK=>runs_eval tab_ok ?_
 simp only [evz,fl,gp,tab,simprocAttr]
 refine fin_run ?_ (hK _ ?_)<;>clear hK K
 ·(first|exact trivial|omega|(simp only [In64] at *; omega)|(simp [In64] at *; omega)|(simp_all; done)|skip)
 refine qa (qm (qm ?_))
 refine hk_region fun K hK=>runs_eval tab_ok ?_
 simp only [evz,fl,gp,tab,simprocAttr]
 refine fin_stop trivial (runs_call (checkL_c L hl hw) rfl rfl rfl (by simp only [dstOk,Nat.reduceLT]) (by repeat (first|exact trivial|constructor)) (runs_eval tab_ok ?_))
 simp only [evz,fl,gp,tab,simprocAttr]
 refine fin_run ?_ (hK _ ?_)<;>clear hK K
 ·(first|exact trivial|omega|(simp only [In64] at *; omega)|(simp [In64] at *; omega)|(simp_all; done)|skip)
 refine qa (qm ?_)
 refine hk_region fun K hK=>runs_eval tab_ok ?_
 simp only [evz,fl,gp,tab,simprocAttr]
 refine fin_run ?_ (hK _ ?_)<;>clear hK K
 ·(first|exact trivial|omega|(simp only [In64] at *; omega)|(simp [In64] at *; omega)|(simp_all; done)|skip)
 refine qa ?_
 refine hk_cond rfl (fun hC1=>?_) (fun hC1=>?_)
 ·(try simp only [nhs] at hC1)
  have h1:(ckL L).1 ≠ 0:=hC1
  refine qm ?_
  refine hk_draw mixed (by kernel_rfl) fun K hK=>runs_eval tab_ok ?_
  simp only [evz,fl,gp,tab,simprocAttr]
  refine fin_run ?_ (hK _ ?_)<;>clear hK K
  ·(first|exact trivial|omega|(simp only [In64] at *; omega)|(simp [In64] at *; omega)|(simp_all; done)|skip)
  refine qa (qk (qb ?_))
  simp only [Try.results15,PostG,endG,rvsA,rvA,mkTup,evz,fl,gp,tab,simprocAttr]
  all_goals (exact ⟨.p (.tup [.nil,fl (ckL L)]),[],by rw [hP]; exact ⟨.inl ⟨h1,rfl⟩,rfl⟩,[],rfl,rfl,⟨rfl,List.nodup_nil,trivial,trivial⟩⟩)
 (try simp only [nhs] at hC1)
 have h1:(ckL L).1=0:=by simpa using hC1
 obtain ⟨g1,g2,g3⟩:=hgood h1
 refine qh (qa (qm ?_))
 refine hk_regEn 2 ⟨1,runs_cut fun K hK=>?_⟩
 simp only [List.take_succ_cons,List.take_zero]
 refine runs_eval tab_ok ?_
 simp only [evz,fl,gp,tab,simprocAttr]
 refine fin_run trivial (hK _ ?_)<;>clear hK K
 refine ⟨_,_,rfl,rfl,by simp only [dstOk,Nat.reduceLT],fold_E rfl rfl L g1 g2 g3 rfl,fun av H' hO=>?_⟩
 obtain ⟨G,U,rfl,rfl,hGl,fi⟩:=hO
 refine ⟨0,runs_cut fun K hK=>?_⟩
 simp only [List.drop_succ_cons,List.drop_zero,List.take_zero]
 refine runs_eval tab_ok ?_
 simp only [evz,fl,gp,tab,simprocAttr]
 refine fin_run trivial (hK _ ?_)<;>clear hK K
 refine ⟨_,_,rfl,rfl,by simp only [dstOk,Nat.reduceLT],basis_E (Q:=[_,_]) rfl rfl fi.wg fi.pos fi.sym hGl rfl rfl,fun av H' hO=>?_⟩
 obtain ⟨lst,f,R,rfl,rfl,g,hrt,hf⟩:=hO
 have hG:=fi_isG fi g hrt hf
 refine runs_cut fun K hK=>?_
 simp only [List.drop_succ_cons,List.drop_zero]
 refine runs_eval tab_ok ?_
 simp only [evz,fl,gp,tab,simprocAttr]
 refine fin_run trivial (hK _ ?_)<;>clear hK K
 refine qa (qk ?_)
 simp only [Try.results15,PostG,endG,rvsA,rvA,mkTup,evz,fl,gp,tab,simprocAttr]
 have hll:lst.length≤10000001:=Nat.le_trans (nodup_len _ _ g.nd fun x hx=>(hrt x hx).1) hGl
 exact ⟨.p (.tup [.list (ll (basS (stR G U) lst f)),fl (0,0)]),[],by rw [hP]; exact ⟨.inr ⟨h1,_,_,_,hG,hll,rfl⟩,rfl⟩,[],rfl,rfl,⟨rfl,List.nodup_nil,trivial,trivial⟩⟩
theorem BasO.pure {L:List (List Int)} {r:AV} (h:BasO L r):∃ v,r = .p v:=by
 rcases h with ⟨_,rfl⟩ | ⟨_,_,_,_,_,_,rfl⟩
 ·exact ⟨_,rfl⟩
 exact ⟨_,rfl⟩
theorem Basis_E {s:St} {o:Oper} {fo:Operand} {args:Array Operand} {ts:Array TypeId} (ho:o.op = .call { callee:=.value fo,args:=args,argTypes:=ts }) (hfo:s.ev fo = .p (.fn 15 []))
  (L:List (List Int)) (hl:L.length≤1000000000) (hw:∀ w∈L,w.length≤1000000000) (hgood:(ckL L).1=0→Good L) (hargs:args.toList.map s.ev++([]:List PV).map .p=[.p (.list (ll L))]) :
  DoesE Try.prog o s (fun av H'=>BasO L av∧H' = s.H):=by
 have:=call_doesE (ks:=[]) ho hfo (Basis_e L hl hw hgood) (by rw [hargs]; exact ⟨⟨trivial,rfl⟩,trivial⟩) trivial List.nodup_nil (fun k hk=>by cases hk) rfl (by
  rintro r H1 ⟨hb,rfl⟩
  obtain ⟨v,rfl⟩:=hb.pure
  rfl)
 intro C m a w K Q R hK
 refine this C m a w K Q R fun v m' w' av H' ⟨r,H1,⟨e0,e1⟩,e4,e5⟩ R2 hv=>hK v m' w' av H' ⟨?_,?_⟩ R2 hv
 ·obtain ⟨x,rfl⟩:=e0.pure
  rw [e4]; exact e0
 rw [e5,e1]
 simp only [List.map_nil,putM,List.append_nil]
noncomputable def rankS (L:List (List Int)):Int × (Int × Int):=if (ckL L).1 ≠ 0 then (0,ckL L) else ((eS (L.map short):Int) + 1 - vS (L.map short),(0,0))
set_option maxHeartbeats 4000000 in
set_option maxRecDepth 20000 in
theorem rank_c (L:List (List Int)) (hl:L.length≤1000000000) (hw:∀ w∈L,w.length≤1000000000) (hgood:(ckL L).1=0→Good L):FnC Try.prog 17 [.list (ll L)] (.tup [.int .i64 (rankS L).1,fl (rankS L).2]):=by
 refine fnc_of tab_ok Try.func17 rfl (by kernel_rfl) (by rw [Try.ntmps17]; exact Nat.le_add_left 1 _) ?_; rw [Try.ntmps17]
 refine qm ?_
 refine hk_region fun K hK=>runs_eval tab_ok ?_
 simp only [evz,fl,gp,tab,simprocAttr]
 refine fin_run ?_ (hK _ ?_)<;>clear hK K
 ·(first|exact trivial|omega|(simp only [In64] at *; omega)|(simp [In64] at *; omega)|(simp_all; done)|skip)
 refine qa (qm ?_)
 refine hk_regE 1 (runs_cut fun K hK=>?_)
 simp only [List.take_succ_cons,List.take_zero]
 refine runs_eval tab_ok ?_
 simp only [evz,fl,gp,tab,simprocAttr]
 refine fin_run trivial (hK _ ?_)<;>clear hK K
 refine ⟨_,_,rfl,rfl,by simp only [dstOk,Nat.reduceLT],Basis_E rfl rfl L hl hw hgood rfl,fun av H' hO=>?_⟩
 obtain ⟨hO,rfl⟩:=hO
 obtain ⟨n,c,b,hav,hn,hc,hb⟩:∃ (n:Nat) (c:Int × Int) (b:PV),av = .p (.tup [b,fl c])∧n=(rankS L).1∧c=(rankS L).2∧((b = .nil∧n=0)∨∃ l,b = .list (ll l)∧l.length=n):=by
  rcases hO with ⟨h1,rfl⟩ | ⟨h1,st,lst,f,hG,_,rfl⟩
  ·exact ⟨0,ckL L,.nil,rfl,by unfold rankS; rw [if_pos h1]; rfl,by unfold rankS; rw [if_pos h1],.inl ⟨rfl,rfl⟩⟩
  refine ⟨(basS st lst f).length,(0,0),_,rfl,?_,by unfold rankS; rw [if_neg (fun h=>h h1)],.inr ⟨_,rfl,rfl⟩⟩
  have:=hG.rank
  unfold rankS
  rw [if_neg (fun h=>h h1)]
  simp only; omega
 subst hav
 rw [← hn,← hc]
 refine runs_cut fun K hK=>?_
 simp only [List.drop_succ_cons,List.drop_zero]
 refine runs_eval tab_ok ?_
 simp only [evz,fl,gp,tab,simprocAttr]
 refine fin_run trivial (hK _ ?_)<;>clear hK K
 refine qa (qm ?_)
 rcases hb with ⟨rfl,rfl⟩ | ⟨l,rfl,rfl⟩
 ·refine hk_draw mixed (by kernel_rfl) fun K hK=>runs_eval tab_ok ?_
  simp only [evz,fl,gp,tab,simprocAttr]
  refine fin_run ?_ (hK _ ?_)<;>clear hK K
  ·(first|exact trivial|omega|(simp only [In64] at *; omega)|(simp [In64] at *; omega)|(simp_all; done)|skip)
  refine qa (qk ?_)
  simp only [Try.results17,enA,evz,fl,gp,tab,simprocAttr]
  all_goals ((first|exact rfl|exact ⟨rfl,rfl⟩|exact ⟨rfl,rfl,rfl⟩|exact ⟨trivial,rfl⟩|exact ⟨Nat.le_refl _,rfl⟩|trivial|(simp; done)))
 refine hk_draw mixed (by kernel_rfl) fun K hK=>runs_eval tab_ok ?_
 simp only [evz,fl,gp,tab,simprocAttr]
 refine fin_run ?_ (hK _ ?_)<;>clear hK K
 ·(first|exact trivial|omega|(simp only [In64] at *; omega)|(simp [In64] at *; omega)|(simp_all; done)|skip)
 refine qa (qk ?_)
 simp only [Try.results17,enA,evz,fl,gp,tab,simprocAttr]
 all_goals ((first|exact rfl|exact ⟨rfl,rfl⟩|exact ⟨rfl,rfl,rfl⟩|exact ⟨trivial,rfl⟩|exact ⟨Nat.le_refl _,rfl⟩|trivial|(simp; done)))
end Go.Proofs.Ytneglephfhiamaa

namespace Go.Proofs.Ytneglephfhiamaa
open Go.Pv
def badW (n:Int) (w:List Int):Bool:=(short w).any fun x=>decide (n < max x (-x))
def badF (n:Int) (L:List (List Int)):Int × Int:=if L.findIdx (badW n) < L.length then (4,((L.findIdx (badW n):Nat):Int)) else (0,0)
def idxF (L:List (List Int)) (n:Int):Int × Int:=if (ckL L).1 ≠ 0 then ckL L else if n < 1∨26 < n then (3,1) else badF n L
noncomputable def indexS (L:List (List Int)) (n:Int):Int × (Int × Int):=((if (idxF L n).1 ≠ 0 then 0 else if eS (L.map short)=n.toNat * vS (L.map short) then (vS (L.map short):Int) else 0),idxF L n)
section
variable {G:List Mp} {U:List Int}
theorem reach_ES {s:St} {o:Oper} {fo:Operand} {args:Array Operand} {ts:Array TypeId} {Q:Heap} (ho:o.op = .call { callee:=.value fo,args:=args,argTypes:=ts }) (hfo:s.ev fo = .p (.fn 55 []))
  (w0:WG G U) (hp:0 < G.length) (hs:SymW G U []) (hk:G.length≤10000001) (hH:s.H=Q++(GB G U).map (Blk.ren (List.range' Q.length (GB G U).length))) (hargs:args.toList.map s.ev++([]:List PV).map .p=[.ptr Q.length 0]) :
  DoesE Try.prog o s (fun av H'=>∃ (lst:List Nat) (f:Wy) (U' : List Int),av = .tup [.p (.list (il (lst.map Int.ofNat))),.mptr (Q.length + (G.length + 3))]∧H' = Q++(GB G U'++[wayB f]).map (Blk.ren (List.range' Q.length (GB G U'++[wayB f]).length)) ∧
   GT (stR G U) lst f∧(∀ u∈lst,u < G.length∧rV U u=u)∧∀ u∈lst,∀ w,runW (stR G U) 0 w=some u→(wy f u).length≤w.length):=by
 have h0:(List.range' Q.length (GB G U).length).getD 0 0=Q.length:=by
  rw [List.getD_eq_getElem?_getD,List.getElem?_range' (by rw [GB_len]; omega)]; simp
 have:=call_doesES ho hfo (reach_e w0 hp (by omega)) hH (by
  rw [hargs]
  refine ⟨⟨?_,?_⟩,trivial⟩
  ·simp only [Go.Pv.ren,ren1,h0]
  ·rw [List.length_range',GB_len]; simp [scA,sc1]) (by rw [GB_len]; exact GB_hsc (Nat.le_refl _)) GB_na (by
  rintro r H1 ⟨lst,f,U',rfl,rfl,_⟩
  exact GBw_scM)
 intro C m a w K R0 R hK
 refine this C m a w K R0 R fun v m' w' av H' ⟨r,H1,⟨lst,f,U',e0,e1,⟨w1,r1⟩,bi,bq⟩,e3,e4⟩ R2 hv=>hK v m' w' av H' ⟨lst,f,U',?_,?_,?_⟩ R2 hv
 ·have hl:H1.length=G.length + 4:=by rw [e1,List.length_append,GB_len]; rfl
  have hq:(List.range' Q.length H1.length).getD (G.length + 3) 0=Q.length + (G.length + 3):=by
   rw [List.getD_eq_getElem?_getD,List.getElem?_range' (by omega)]; simp
  rw [e3,e0]
  simp only [Go.Pv.ren,ren1,List.map_cons,List.map_nil,hq]
 ·rw [e4,e1]
 have hs1:SymW G U' []:=fun u x v hu hv e=>by
  rw [pe_nil,Ed.rv w0 r1 hu hv] at e
  rw [pe_nil,Ed.rv w0 r1 hv hu]
  exact pe_nil.1 (hs u x v hu hv (pe_nil.2 e))
 obtain ⟨g,hf⟩:=bq_gt w1 hp hs1 bi bq
 rw [stR_eq w0 r1] at g hf
 exact ⟨g,fun u hu=>⟨(bi.rt u hu).1,by rw [← r1 u (bi.rt u hu).1]; exact (bi.rt u hu).2⟩,hf⟩
theorem mpLen_lts (f:Mp) (h:∀ x d,f x=some d→-26≤x∧x≤26):mpLen (fun z=>(f z).isSome)=(lts f).length:=by
 refine mpLen_eq ?_ fun z=>?_
 ·exact List.Nodup.sublist List.filter_sublist (nodup_mapF List.nodup_range fun a _ b _ e=>by omega)
 rw [mem_lts]
 constructor
 ·exact fun h=>h.2
 intro hz
 obtain ⟨d,hd⟩:=Option.isSome_iff_exists.1 hz
 exact ⟨h z d hd,hz⟩
end
theorem badF_at {n:Int} {L:List (List Int)} {i:Nat} (hi:i < L.length) (h1:badW n (L.getD i [])=true) (h2:∀ k,k < i→badW n (L.getD k [])=false):badF n L=(4,((i:Nat):Int)):=by
 have hx:L.findIdx (badW n)=i:=by
  rw [List.findIdx_eq hi]
  refine ⟨?_,fun j hj=>?_⟩
  ·rw [List.getD_eq_getElem?_getD,List.getElem?_eq_getElem hi] at h1; exact h1
  have:=h2 j hj
  rwa [List.getD_eq_getElem?_getD,List.getElem?_eq_getElem (by omega)] at this
 unfold badF
 rw [hx,if_pos hi]
theorem badF_none {n:Int} {L:List (List Int)} (h2:∀ k,k < L.length→badW n (L.getD k [])=false):badF n L=(0,0):=by
 have hx:L.findIdx (badW n)=L.length:=by
  rw [List.findIdx_eq_length]
  intro w hw
  obtain ⟨j,hj,rfl⟩:=List.getElem_of_mem hw
  have:=h2 j hj
  rwa [List.getD_eq_getElem?_getD,List.getElem?_eq_getElem hj] at this
 unfold badF
 rw [hx,if_neg (Nat.lt_irrefl _)]
set_option maxHeartbeats 4000000 in
set_option maxRecDepth 20000 in
theorem index_c (L:List (List Int)) (n:Int) (hl:L.length≤1000000000) (hw:∀ w∈L,w.length≤1000000000) (hgood:(ckL L).1=0→Good L) :
  FnC Try.prog 24 [.list (ll L),.int .i64 n] (.tup [.int .i64 (indexS L n).1,fl (indexS L n).2]):=by
 refine fnc_of tab_ok Try.func24 rfl (by kernel_rfl) (by rw [Try.ntmps24]; exact Nat.le_add_left 2 _) ?_; rw [Try.ntmps24]
 refine qm ?_
 refine hk_region fun K hK=>runs_eval tab_ok ?_
 simp only [evz,fl,gp,tab,simprocAttr]
 refine fin_run ?_ (hK _ ?_)<;>clear hK K
 ·(first|exact trivial|omega|(simp only [In64] at *; omega)|(simp [In64] at *; omega)|(simp_all; done)|skip)
 refine qa (qm (qm ?_))
 refine hk_region fun K hK=>runs_eval tab_ok ?_
 simp only [evz,fl,gp,tab,simprocAttr]
 refine fin_stop trivial (runs_call (checkL_c L hl hw) rfl rfl rfl (by simp only [dstOk,Nat.reduceLT]) (by repeat (first|exact trivial|constructor)) (runs_eval tab_ok ?_))
 simp only [evz,fl,gp,tab,simprocAttr]
 refine fin_run ?_ (hK _ ?_)<;>clear hK K
 ·(first|exact trivial|omega|(simp only [In64] at *; omega)|(simp [In64] at *; omega)|(simp_all; done)|skip)
 refine qa (qm ?_)
 refine hk_region fun K hK=>runs_eval tab_ok ?_
 simp only [evz,fl,gp,tab,simprocAttr]
 refine fin_run ?_ (hK _ ?_)<;>clear hK K
 ·(first|exact trivial|omega|(simp only [In64] at *; omega)|(simp [In64] at *; omega)|(simp_all; done)|skip)
 refine qa ?_
 refine hk_cond rfl (fun hC1=>?_) (fun hC1=>?_)
 ·(try simp only [nhs] at hC1)
  have h1:(ckL L).1 ≠ 0:=hC1
  have hs:indexS L n=(0,ckL L):=by unfold indexS idxF; simp only [if_pos h1]
  refine qm ?_
  refine hk_draw mixed (by kernel_rfl) fun K hK=>runs_eval tab_ok ?_
  simp only [evz,fl,gp,tab,simprocAttr]
  refine fin_run ?_ (hK _ ?_)<;>clear hK K
  ·(first|exact trivial|omega|(simp only [In64] at *; omega)|(simp [In64] at *; omega)|(simp_all; done)|skip)
  refine qa (qk (qb ?_))
  simp only [Try.results24,enA,evz,fl,gp,tab,simprocAttr]
  all_goals (rw [hs]; exact ⟨rfl,rfl,rfl⟩)
 (try simp only [nhs] at hC1)
 have h1:(ckL L).1=0:=by simpa using hC1
 obtain ⟨g1,g2,g3⟩:=hgood h1
 refine qh (qa (qm (qm ?_)))
 by_cases g4a:n < 1
 ·refine hk_region fun K hK=>runs_eval tab_ok ?_
  simp only [evz,fl,gp,tab,simprocAttr,decide_eq_true g4a]
  refine fin_run trivial (hK _ ?_)<;>clear hK K
  refine qa ?_
  refine hk_cond rfl (fun hC2=>?_) (fun hC2=>?_)
  ·have h2:n < 1∨26 < n:=by first|exact .inl g4a|exact .inr (by simpa using hC2)
   have hs:indexS L n=(0,(3,1)):=by
    have:idxF L n=(3,1):=by unfold idxF; rw [if_neg (fun h=>h h1),if_pos h2]
    unfold indexS; rw [this]; rfl
   refine qm ?_
   refine hk_region fun K hK=>runs_eval tab_ok ?_
   simp only [evz,fl,gp,tab,simprocAttr]
   refine fin_stop trivial (runs_call (ffault_c 3 1) rfl rfl rfl (by simp only [dstOk,Nat.reduceLT]) (by repeat (first|exact trivial|constructor)) (runs_eval tab_ok ?_))
   simp only [evz,fl,gp,tab,simprocAttr]
   refine fin_run ?_ (hK _ ?_)<;>clear hK K
   ·(first|exact trivial|omega|(simp only [In64] at *; omega)|(simp [In64] at *; omega)|(simp_all; done)|skip)
   refine qa (qk (qb ?_))
   simp only [Try.results24,enA,evz,fl,gp,tab,simprocAttr]
   all_goals (rw [hs]; exact ⟨rfl,rfl,rfl⟩)
  cases hC2
 refine hk_region fun K hK=>runs_eval tab_ok ?_
 simp only [evz,fl,gp,tab,simprocAttr,decide_eq_false g4a]
 refine fin_run trivial (hK _ ?_)<;>clear hK K
 refine qa ?_
 refine hk_cond rfl (fun hC2=>?_) (fun hC2=>?_)
 ·(try simp only [nhs] at hC2)
  have h2:n < 1∨26 < n:=by first|exact .inl g4a|exact .inr (by simpa using hC2)
  have hs:indexS L n=(0,(3,1)):=by
   have:idxF L n=(3,1):=by unfold idxF; rw [if_neg (fun h=>h h1),if_pos h2]
   unfold indexS; rw [this]; rfl
  refine qm ?_
  refine hk_region fun K hK=>runs_eval tab_ok ?_
  simp only [evz,fl,gp,tab,simprocAttr]
  refine fin_stop trivial (runs_call (ffault_c 3 1) rfl rfl rfl (by simp only [dstOk,Nat.reduceLT]) (by repeat (first|exact trivial|constructor)) (runs_eval tab_ok ?_))
  simp only [evz,fl,gp,tab,simprocAttr]
  refine fin_run ?_ (hK _ ?_)<;>clear hK K
  ·(first|exact trivial|omega|(simp only [In64] at *; omega)|(simp [In64] at *; omega)|(simp_all; done)|skip)
  refine qa (qk (qb ?_))
  simp only [Try.results24,enA,evz,fl,gp,tab,simprocAttr]
  all_goals (rw [hs]; exact ⟨rfl,rfl,rfl⟩)
 (try simp only [nhs] at hC2)
 have h2:¬ (n < 1∨26 < n):=by
  have h3:¬ 26 < n:=by simpa using hC2
  omega
 have hi0:idxF L n=badF n L:=by unfold idxF; rw [if_neg (fun h=>h h1),if_neg h2]
 refine qh (qa (qm (qm ?_)))
 refine hk_region fun K hK=>runs_eval tab_ok ?_
 simp only [evz,fl,gp,tab,simprocAttr,ll_length]
 refine fin_run trivial (hK _ ?_)<;>clear hK K
 refine qa (ql ?_)
 refine hk_loop (ι:=Nat) (fun i=>⟨82,[(0,.p (.list (ll L))),(1,.p (.int .i64 n)),(5,.ptr 0 0),(29,.p (.list (ll L))),(30,.p (.int .i64 L.length)),(31,.p (.int .i64 (i:Nat)))],[.own [.p (.int .i64 0),.p (.int .i64 0)]]⟩) (fun i=>i≤L.length∧∀ k,k < i→badW n (L.getD k [])=false) (fun i=>L.length - i) 0 ⟨Nat.zero_le _,fun k hk=>absurd hk (Nat.not_lt_zero _)⟩ [0] (by simp only [leq,leA,evz,fl,gp,tab,simprocAttr]<;>trivial) fun i hi=>?_
 obtain ⟨q1,q2⟩:=hi
 refine qm ?_
 refine hk_region fun K hK=>runs_eval tab_ok ?_
 simp only [evz,fl,gp,tab,simprocAttr]
 refine fin_run trivial (hK _ ?_)<;>clear hK K
 refine qa (qm ?_)
 refine hk_cond rfl (fun hC3=>?_) (fun hC3=>?_)
 ·(try simp only [nhs] at hC3)
  have hi:i < L.length:=by omega
  obtain ⟨w0,hw0⟩:∃ w,L.getD i []=w:=⟨_,rfl⟩
  have hwm:w0∈L:=by rw [← hw0,List.getD_eq_getElem?_getD,List.getElem?_eq_getElem hi]; exact List.getElem_mem hi
  obtain ⟨hw1,hw2⟩:=g1 w0 hwm
  obtain ⟨w,hws⟩:∃ w,short w0=w:=⟨_,rfl⟩
  have hwl:Lt26 w:=hws ▸ short_lt hw2
  have hwn:w.length≤1000000000:=hws ▸ Nat.le_trans (short_len w0) hw1
  refine qh (qa (qm (ql (qm ?_))))
  refine hk_region fun K hK=>runs_eval tab_ok ?_
  simp only [evz,fl,gp,tab,simprocAttr,ll_length,ll_get hi,hw0]
  refine fin_run ?_ (hK _ ?_)<;>clear hK K
  ·omega
  refine qa (qm ?_)
  refine hk_region fun K hK=>runs_eval tab_ok ?_
  simp only [evz,fl,gp,tab,simprocAttr,hws,il_length]
  refine fin_stop trivial (runs_call (short_c w0 hw1 (fun x hx=>(hw2 x hx).2)) rfl rfl rfl (by simp only [dstOk,Nat.reduceLT]) (by repeat (first|exact trivial|constructor)) (runs_eval tab_ok ?_))
  simp only [evz,fl,gp,tab,simprocAttr,hws,il_length]
  refine fin_run trivial (hK _ ?_)<;>clear hK K
  refine qa (ql ?_)
  refine hk_loop (ι:=Nat) (fun j=>⟨82,[(0,.p (.list (ll L))),(1,.p (.int .i64 n)),(5,.ptr 0 0),(7,.p (.int .i64 (i:Nat))),(29,.p (.list (ll L))),(30,.p (.int .i64 L.length)),(31,.p (.int .i64 (i:Nat))),(37,.p (.list (il w))),(38,.p (.int .i64 w.length)),(39,.p (.int .i64 (j:Nat)))],[.own [.p (.int .i64 0),.p (.int .i64 0)]]⟩) (fun j=>j≤w.length∧∀ k,k < j→¬ n < max (w.getD k 0) (-(w.getD k 0))) (fun j=>w.length - j) 0 ⟨Nat.zero_le _,fun k hk=>absurd hk (Nat.not_lt_zero _)⟩ [0] (by simp only [leq,leA,evz,fl,gp,tab,simprocAttr]<;>trivial) fun j hj=>?_
  obtain ⟨p1,p2⟩:=hj
  refine qm ?_
  refine hk_region fun K hK=>runs_eval tab_ok ?_
  simp only [evz,fl,gp,tab,simprocAttr]
  refine fin_run trivial (hK _ ?_)<;>clear hK K
  refine qa (qm ?_)
  refine hk_cond rfl (fun hC4=>?_) (fun hC4=>?_)
  ·(try simp only [nhs] at hC4)
   have hj:j < w.length:=by omega
   obtain ⟨x,hx⟩:∃ x,w.getD j 0=x:=⟨_,rfl⟩
   have hxm:x∈w:=by rw [← hx,List.getD_eq_getElem?_getD,List.getElem?_eq_getElem hj]; exact List.getElem_mem hj
   obtain ⟨x0,x1,x2⟩:=hwl x hxm
   refine qh (qa (qm (ql (qm ?_))))
   refine hk_region fun K hK=>runs_eval tab_ok ?_
   simp only [evz,fl,gp,tab,simprocAttr,il_length,il_get hj,hx]
   refine fin_run ?_ (hK _ ?_)<;>clear hK K
   ·omega
   refine qa (qm ?_)
   refine hk_region fun K hK=>runs_eval tab_ok ?_
   simp only [evz,fl,gp,tab,simprocAttr]
   refine fin_run ?_ (hK _ ?_)<;>clear hK K
   ·(first|exact trivial|omega|(simp only [In64] at *; omega)|(simp [In64] at *; omega)|(simp_all; done)|skip)
   refine qa ?_
   refine hk_cond rfl (fun hC5=>?_) (fun hC5=>?_)
   ·(try simp only [nhs] at hC5)
    have hbad:n < max x (-x):=by
     have h:n < if x < -x then -x else x:=by simpa using hC5
     split at h<;>omega
    have hb:badW n (L.getD i [])=true:=by
     unfold badW
     rw [hw0,hws,List.any_eq_true]
     exact ⟨x,hxm,by simpa using hbad⟩
    have hs:indexS L n=(0,(4,(i:Int))):=by
     have:idxF L n=(4,(i:Int)):=by rw [hi0]; exact badF_at hi hb q2
     unfold indexS; rw [this]; rfl
    refine qm ?_
    refine hk_region fun K hK=>runs_eval tab_ok ?_
    simp only [evz,fl,gp,tab,simprocAttr]
    refine fin_stop trivial (runs_call (ffault_c 4 i) rfl rfl rfl (by simp only [dstOk,Nat.reduceLT]) (by repeat (first|exact trivial|constructor)) (runs_eval tab_ok ?_))
    simp only [evz,fl,gp,tab,simprocAttr]
    refine fin_run ?_ (hK _ ?_)<;>clear hK K
    ·(first|exact trivial|omega|(simp only [In64] at *; omega)|(simp [In64] at *; omega)|(simp_all; done)|skip)
    refine qa (qk (qe (qb (qb (qe (qe (qb (qb (qe (qb ?_))))))))))
    simp only [Try.results24,enA,evz,fl,gp,tab,simprocAttr]
    all_goals (rw [hs]; exact ⟨rfl,rfl,rfl⟩)
   (try simp only [nhs] at hC5)
   have hgood2:¬ n < max x (-x):=by
    have h:¬ n < if x < -x then -x else x:=by simpa using hC5
    split at h<;>omega
   refine qh (qd (qa ?_))
   refine hk_region fun K hK=>runs_eval tab_ok ?_
   simp only [evz,fl,gp,tab,simprocAttr]
   refine fin_run ?_ (hK _ ?_)<;>clear hK K
   ·(first|exact trivial|omega|(simp only [In64] at *; omega)|(simp [In64] at *; omega)|(simp_all; done)|skip)
   refine qa ?_
   refine ⟨j + 1,[0],⟨by omega,fun k hk=>?_⟩,by omega,by simp only [leq,leA,evz,fl,gp,tab,simprocAttr]<;>trivial⟩
   by_cases h:k < j
   ·exact p2 k h
   obtain rfl:k=j:=by omega
   rw [hx]; exact hgood2
  (try simp only [nhs] at hC4)
  refine qj (qc (qc (qf (qd (qa ?_)))))
  refine hk_region fun K hK=>runs_eval tab_ok ?_
  simp only [evz,fl,gp,tab,simprocAttr]
  refine fin_run ?_ (hK _ ?_)<;>clear hK K
  ·(first|exact trivial|omega|(simp only [In64] at *; omega)|(simp [In64] at *; omega)|(simp_all; done)|skip)
  refine qa ?_
  refine ⟨i + 1,[0],⟨by omega,fun k hk=>?_⟩,by omega,by simp only [leq,leA,evz,fl,gp,tab,simprocAttr]<;>trivial⟩
  by_cases h:k < i
  ·exact q2 k h
  obtain rfl:k=i:=by omega
  unfold badW
  rw [hw0,hws,List.any_eq_false]
  intro x hxm
  obtain ⟨k,hk,rfl⟩:=List.getElem_of_mem hxm
  have:=p2 k (by omega)
  rw [List.getD_eq_getElem?_getD,List.getElem?_eq_getElem hk] at this
  simpa using this
 (try simp only [nhs] at hC3)
 have hie:i=L.length:=by omega
 rw [hie] at q2
 have hf0:idxF L n=(0,0):=by rw [hi0]; exact badF_none q2
 obtain ⟨m,rfl⟩:=Int.eq_ofNat_of_zero_le (show 0≤n by omega)
 have hlet:∀ s∈L.map short,∀ x∈s,-(m:Int)≤x∧x≤m:=fun s hs x hx=>by
  obtain ⟨w,hwm,rfl⟩:=List.mem_map.1 hs
  obtain ⟨k,hk,rfl⟩:=List.getElem_of_mem hwm
  have:=q2 k hk
  rw [List.getD_eq_getElem?_getD,List.getElem?_eq_getElem hk] at this
  unfold badW at this
  rw [List.any_eq_false] at this
  have:=this x hx
  simp only [decide_eq_true_eq] at this
  have h3:max x (-x)≤(m:Int):=by simpa using this
  omega
 refine qj (qc (qc (qf (qa (qm ?_)))))
 refine hk_regE 1 (runs_cut fun K hK=>?_)
 simp only [List.take_succ_cons,List.take_zero]
 refine runs_eval tab_ok ?_
 simp only [evz,fl,gp,tab,simprocAttr]
 refine fin_run trivial (hK _ ?_)<;>clear hK K
 refine ⟨_,_,rfl,rfl,by simp only [dstOk,Nat.reduceLT],fold_E rfl rfl L g1 g2 g3 rfl,fun av H' hO=>?_⟩
 obtain ⟨G,U,rfl,rfl,hGl,fi⟩:=hO
 refine runs_cut fun K hK=>?_
 simp only [List.drop_succ_cons,List.drop_zero]
 refine runs_eval tab_ok ?_
 simp only [evz,fl,gp,tab,simprocAttr]
 refine fin_run trivial (hK _ ?_)<;>clear hK K
 refine qa (qm ?_)
 refine hk_regE 1 (runs_cut fun K hK=>?_)
 simp only [List.take_succ_cons,List.take_zero]
 refine runs_eval tab_ok ?_
 simp only [evz,fl,gp,tab,simprocAttr]
 refine fin_run trivial (hK _ ?_)<;>clear hK K
 refine ⟨_,_,rfl,rfl,by simp only [dstOk,Nat.reduceLT],reach_ES (Q:=[_]) rfl rfl fi.wg fi.pos fi.sym hGl rfl rfl,fun av H' hO=>?_⟩
 obtain ⟨lst,f,V,rfl,rfl,g,hrt,hf⟩:=hO
 have hG:=fi_isG fi g hrt hf
 obtain ⟨st,hst⟩:∃ st,stR G U=st:=⟨_,rfl⟩
 rw [hst] at g hf hG
 refine runs_cut fun K hK=>?_
 simp only [List.drop_succ_cons,List.drop_zero]
 refine runs_eval tab_ok ?_
 simp only [evz,fl,gp,tab,simprocAttr]
 refine fin_run trivial (hK _ ?_)<;>clear hK K
 refine qa (qm (qm ?_))
 obtain ⟨N,hN⟩:∃ N,G.length + 3=N:=⟨_,rfl⟩
 have hH1l:(GB G V++[wayB f]).length=N + 1:=by rw [List.length_append,GB_len,hN]; rfl
 have hπ0:(List.range' 1 (GB G V++[wayB f]).length++[0]).getD 0 0=1:=by
  rw [List.getD_eq_getElem?_getD,List.getElem?_append_left (by rw [List.length_range',hH1l]; omega),List.getElem?_range' (by rw [hH1l]; omega)]; rfl
 have hπk:(List.range' 1 (GB G V++[wayB f]).length++[0]).getD (N + 1) 0=0:=by
  rw [List.getD_eq_getElem?_getD,List.getElem?_append_right (by rw [List.length_range',hH1l]; omega),List.length_range',hH1l,Nat.sub_self]; rfl
 refine hk_le (s1:=⟨82,[(1,.p (.int .i64 m)),(5,.ptr (N + 1) 0),(11,.ptr 0 0),(12,.p (.list (il (lst.map Int.ofNat))))],GB G V++[wayB f,.own (opl [.int .i64 0,.int .i64 0])]⟩) _ (le_swap1 (P:=[_]) (H1:=GB G V++[wayB f]) (c:=[.int .i64 0,.int .i64 0]) rfl rfl (fun b hb=>?_) ?_ rfl (by simp) ?_) ?_
 ·rw [hH1l]
  rcases List.mem_append.1 hb with hb | hb
  ·exact GB_hsc (by omega) b hb
  rw [List.mem_singleton] at hb; subst hb; rfl
 ·rw [List.all_append,GB_na]; rfl
 ·refine ⟨rfl,rfl,?_,?_,?_,?_,rfl,rfl,trivial⟩
  ·show AV.ptr 0 0=Go.Pv.ren _ _
   simp only [Go.Pv.ren,ren1,List.length_cons,List.length_nil,Nat.zero_add,hπk]
  ·rw [List.length_append,List.length_range',hH1l]; simp [scA,sc1]
  ·show AV.ptr 1 0=Go.Pv.ren _ _
   simp only [Go.Pv.ren,ren1,List.length_cons,List.length_nil,Nat.zero_add,hπ0]
  rw [List.length_append,List.length_range',hH1l]; simp [scA,sc1]
 have hgN:∀ a b:Blk,hget (GB G V++[a,b]) (N + 1)=b:=fun a b=>by
  rw [hget_app2 (by rw [GB_len]; omega),GB_len,show N + 1 - (G.length + 3)=1 by omega]; rfl
 have hsN:∀ a b c:Blk,hset (GB G V++[a,b]) (N + 1) c=GB G V++[a,c]:=fun a b c=>by
  rw [hset_eq,List.set_append_right _ _ (by rw [GB_len]; omega),GB_len,show N + 1 - (G.length + 3)=1 by omega]; rfl
 have hHs:∀ c:List PV,∀ b∈(GB G V++[wayB f,.own (opl c)]),hsc (N + 2) b=true:=fun c b hb=>by
  rcases List.mem_append.1 hb with hb | hb
  ·exact GB_hsc (by omega) b hb
  simp only [List.mem_cons,List.not_mem_nil,or_false] at hb
  rcases hb with rfl | rfl
  ·rfl
  exact List.all_eq_true.2 fun x hx=>(List.all_eq_true.1 (opl_sc _ _)) x hx
 have hll:lst.length≤G.length:=nodup_len _ _ g.nd fun x hx=>(hrt x hx).1
 refine hk_region fun K hK=>runs_eval tab_ok ?_
 simp only [evz,fl,gp,tab,simprocAttr,il_length,List.length_map]
 refine fin_run trivial (hK _ ?_)<;>clear hK K
 refine qa (ql ?_)
 have hHl:(GB G V++[wayB f,Blk.own (opl [.int .i64 0,.int .i64 0])]).length=N + 2:=by rw [List.length_append,GB_len,hN]; rfl
 refine hk_loop (ι:=Nat) (fun i=>⟨82,[(1,.p (.int .i64 m)),(5,.ptr (N + 1) 0),(11,.ptr 0 0),(12,.p (.list (il (lst.map Int.ofNat)))),(60,.p (.list (il (lst.map Int.ofNat)))),(61,.p (.int .i64 lst.length)),(62,.p (.int .i64 (i:Nat)))],GB G V++[wayB f,.own (opl [.int .i64 0,.int .i64 0])]⟩) (fun i=>i≤lst.length∧∀ k,k < i→2 * m≤(ltS st (lst.getD k 0)).length) (fun i=>lst.length - i) 0 ⟨Nat.zero_le _,fun k hk=>absurd hk (Nat.not_lt_zero _)⟩ (List.range (N + 2)) (by
  rw [← hHl]
  refine le_same rfl rfl (by rw [hHl]; exact hHs _) ?_
  rw [hHl]
  simp [St.get,lk,scA,sc1]) fun i hi=>?_
 obtain ⟨r1,r2⟩:=hi
 refine qm ?_
 refine hk_region fun K hK=>runs_eval tab_ok ?_
 simp only [evz,fl,gp,tab,simprocAttr]
 refine fin_run trivial (hK _ ?_)<;>clear hK K
 refine qa (qm ?_)
 refine hk_cond rfl (fun hC6=>?_) (fun hC6=>?_)
 ·(try simp only [nhs] at hC6)
  have hi:i < lst.length:=by omega
  obtain ⟨v,hv⟩:∃ v,lst.getD i 0=v:=⟨_,rfl⟩
  have hvm:v∈lst:=hv ▸ mem_ix hi
  obtain ⟨hvl,hvr⟩:=hrt v hvm
  have hgl:(lst.map Int.ofNat).getD i 0=(v:Int):=by
   rw [← hv,List.getD_eq_getElem?_getD,List.getD_eq_getElem?_getD,List.getElem?_map,List.getElem?_eq_getElem hi]; rfl
  have hil:i < (lst.map Int.ofNat).length:=by simpa using hi
  have hml:mpLen (fun z=>(gm G v z).isSome)=(ltS st v).length:=by
   rw [mpLen_lts _ fun x d hd=>(fi.wg.ent v x d hvl hd).2.2.2,lts_ltS ⟨hvl,hvr⟩,hst]
  have gM:∀ Y:Heap,hget (G.map mpB++Y) v=mpB (gm G v):=fun Y=>hget_G hvl
  have hGBk:∀ (Y:Heap),GB G V++Y = .own [.sl 1 0 G.length,.sl 2 0 V.length] :: .own (mps G.length) :: .own (ol V) :: (G.map mpB++Y):=fun Y=>rfl
  have hll2:(ltS st v).length≤53:=by rw [← hst,← lts_ltS ⟨hvl,hvr⟩]; exact lts_len _
  refine qh (qa (qm (ql (qm ?_))))
  refine hk_region fun K hK=>runs_eval tab_ok ?_
  simp only [evz,fl,gp,tab,simprocAttr,il_length,List.length_map,il_get hil,hgl]
  refine fin_run ?_ (hK _ ?_)<;>clear hK K
  ·omega
  refine qa (qm ?_)
  rw [hGBk]
  refine hk_region fun K hK=>runs_eval tab_ok ?_
  simp only [evz,fl,gp,tab,simprocAttr,mps_get hvl,mps_len,Int.toNat_natCast]
  refine fin_stop ?_ (runs_mapLen tab_ok rfl rfl (k:=v + 3) rfl (gM _) rfl (by simp only [dstOk,Nat.reduceLT]) (runs_eval tab_ok ?_))
  ·exact ⟨⟨by omega,by omega⟩,hvl⟩
  simp only [hml]
  simp only [evz,fl,gp,tab,simprocAttr]
  refine fin_run ?_ (hK _ ?_)<;>clear hK K
  ·simp only [In64]; omega
  rw [← hGBk]
  refine qa ?_
  refine hk_cond rfl (fun hC7=>?_) (fun hC7=>?_)
  ·(try simp only [nhs] at hC7)
   have hlt:(ltS st v).length < 2 * m:=by
    have:((ltS st v).length:Int) < 2 * m:=by simpa using hC7
    omega
   have hne:¬ eS (L.map short)=m * vS (L.map short):=fun e=>by
    have:=(hG.full hlet).2 e v hvm
    omega
   have hs:indexS L m=(0,(0,0)):=by
    unfold indexS
    rw [hf0,Int.toNat_natCast,if_neg (by decide),if_neg hne]
   refine qm ?_
   refine hk_region fun K hK=>runs_eval tab_ok ?_
   simp only [evz,fl,gp,tab,simprocAttr,hgN,hsN]
   refine fin_run ?_ (hK _ ?_)<;>clear hK K
   ·(first|exact trivial|omega|(simp only [In64] at *; omega)|(simp [In64] at *; omega)|(simp_all; done)|skip)
   refine qa (qk (qe (qb (qb (qe (qb ?_))))))
   simp only [Try.results24,enA,evz,fl,gp,tab,simprocAttr]
   simp only [hgN,enA,evz,fl,gp,tab,simprocAttr]
   rw [hs]; exact ⟨rfl,rfl,rfl⟩
  (try simp only [nhs] at hC7)
  have hge:2 * m≤(ltS st v).length:=by
   have:¬ ((ltS st v).length:Int) < 2 * m:=by simpa using hC7
   omega
  refine qh (qd (qa ?_))
  refine hk_region fun K hK=>runs_eval tab_ok ?_
  simp only [evz,fl,gp,tab,simprocAttr]
  refine fin_run ?_ (hK _ ?_)<;>clear hK K
  ·(first|exact trivial|omega|(simp only [In64] at *; omega)|(simp [In64] at *; omega)|(simp_all; done)|skip)
  refine qa ?_
  refine ⟨i + 1,List.range (N + 2),⟨by omega,fun k hk=>?_⟩,by omega,?_⟩
  ·by_cases h:k < i
   ·exact r2 k h
   obtain rfl:k=i:=by omega
   rw [hv]; exact hge
  rw [← hHl]
  refine le_same rfl rfl (by rw [hHl]; exact hHs _) ?_
  rw [hHl]
  simp [St.get,lk,scA,sc1]
 (try simp only [nhs] at hC6)
 have hie2:i=lst.length:=by omega
 have hfu:Full st lst m:=fun u hu=>by
  obtain ⟨k,hk,rfl⟩:=ix_of hu
  exact r2 k (by omega)
 have heq:=(hG.full hlet).1 hfu
 have hs:indexS L m=((lst.length:Int),(0,0)):=by
  unfold indexS
  rw [hf0,Int.toNat_natCast,if_neg (by decide),if_pos heq,hG.cnt.1]
 refine qj (qc (qc (qf (qa (qm ?_)))))
 refine hk_region fun K hK=>runs_eval tab_ok ?_
 simp only [evz,fl,gp,tab,simprocAttr,hgN,hsN,il_length,List.length_map]
 refine fin_run ?_ (hK _ ?_)<;>clear hK K
 ·(first|exact trivial|omega|(simp only [In64] at *; omega)|(simp [In64] at *; omega)|(simp_all; done)|skip)
 refine qa (qk ?_)
 simp only [Try.results24,enA,evz,fl,gp,tab,simprocAttr]
 simp only [hgN,enA,evz,fl,gp,tab,simprocAttr]
 rw [hs]; exact ⟨rfl,rfl,rfl⟩
end Go.Proofs.Ytneglephfhiamaa

namespace Go.Proofs.Ytneglephfhiamaa
open Go.Pv
def stX (u:Nat) (x:Int):Option Nat:=if (u=0∧(x=1∨x = -1)) then some 1 else if (u=1∧(x=1∨x = -1)) then some 0 else if (u≤1∧(x=2∨x = -2)) then some u else none
def fX:Wy:=updW (updW (fun _=>none) 0 []) 1 [1]
def sX:List (List Int):=[[1,1],[2],[1,2,-1]]
theorem stX_iff {u v:Nat} {x:Int} : stX u x=some v↔(u=0∧(x=1∨x = -1)∧v=1)∨(u=1∧(x=1∨x = -1)∧v=0)∨(u≤1∧(x=2∨x = -2)∧v=u):=by
 unfold stX
 split
 ·rename_i h; obtain ⟨rfl,h⟩:=h
  constructor
  ·intro e; have:=Option.some.inj e; left; omega
  intro e; have:v=1:=by omega
  rw [this]
 split
 ·rename_i h; obtain ⟨rfl,h⟩:=h
  constructor
  ·intro e; have:=Option.some.inj e; right; left; omega
  intro e; have:v=0:=by omega
  rw [this]
 split
 ·constructor
  ·intro e; have:=Option.some.inj e; right; right; omega
  intro e; have:v=u:=by omega
  rw [this]
 constructor
 ·intro e; cases e
 intro e; omega
theorem isX:IsG sX stX [0,1] fX:=by
 have f0:fX 0=some []:=rfl
 have f1:fX 1=some [1]:=rfl
 refine ⟨⟨fun c d x _ h=>?_,by simp,rfl,fun z=>?_,rfl,fun j hj h0=>?_,fun u hu x v h=>?_,fun u hu x v h=>?_⟩,fun X st x0 hi hc=>?_,fun s hs=>?_,fun u hu w hw=>?_⟩
 ·rw [stX_iff] at h ⊢; omega
 ·unfold fX updW
  by_cases h1:z=1
  ·subst h1; simp
  rw [if_neg h1]
  by_cases h2:z=0
  ·subst h2; simp
  rw [if_neg h2]
  simp only [Option.isSome_none,Bool.false_eq_true,List.mem_cons,List.not_mem_nil,or_false,false_iff,not_exists,not_and]
  rintro u (rfl | rfl)<;>omega
 ·simp only [List.length_cons,List.length_nil] at hj
  obtain rfl:j=1:=by omega
  exact ⟨0,1,[],by omega,rfl,rfl,rfl⟩
 ·rw [stX_iff] at h
  simp only [List.mem_cons,List.not_mem_nil,or_false]; omega
 ·rw [stX_iff] at h; omega
 ·have c1:=hc [1,1] (by simp [sX])
  have c2:=hc [2] (by simp [sX])
  have c3:=hc [1,2,-1] (by simp [sX])
  simp only [runW] at c1 c2 c3
  cases e1:st x0 1 with
  | none=>rw [e1] at c1; cases c1
  | some y =>
   rw [e1] at c1 c3
   simp only at c1 c3
   cases e2:st y 1 with
   | none=>rw [e2] at c1; cases c1
   | some z =>
    rw [e2] at c1
    obtain rfl:z=x0:=Option.some.inj c1
    cases e3:st z 2 with
    | none=>rw [e3] at c2; cases c2
    | some t =>
     rw [e3] at c2
     obtain rfl:t=z:=Option.some.inj c2
     cases e4:st y 2 with
     | none=>rw [e4] at c3; cases c3
     | some q =>
      rw [e4] at c3
      simp only at c3
      cases e5:st q (-1) with
      | none=>rw [e5] at c3; cases c3
      | some q2 =>
       rw [e5] at c3
       obtain rfl:q2=t:=Option.some.inj c3
       have e6:=hi _ _ _ (by decide) e5
       rw [Int.neg_neg,e1] at e6
       obtain rfl:=Option.some.inj e6
       refine ⟨fun u=>if u=0 then q2 else y,rfl,fun u hu x v h=>?_⟩
       rw [stX_iff] at h
       have i1:=hi _ _ _ (by decide) e1
       have i2:=hi _ _ _ (by decide) e2
       have i3:=hi _ _ _ (by decide) e3
       have i4:=hi _ _ _ (by decide) e4
       rcases h with ⟨rfl,rfl | rfl,rfl⟩ | ⟨rfl,rfl | rfl,rfl⟩ | ⟨hu1,rfl | rfl,rfl⟩
       ·exact e1
       ·exact i2
       ·exact e2
       ·exact i1
       ·rcases (show v=0∨v=1 by omega) with rfl | rfl
        ·exact e3
        exact e4
       rcases (show v=0∨v=1 by omega) with rfl | rfl
       ·exact i3
       exact i4
 ·simp only [sX,List.mem_cons,List.not_mem_nil,or_false] at hs
  rcases hs with rfl | rfl | rfl<;>rfl
 simp only [List.mem_cons,List.not_mem_nil,or_false] at hu
 rcases hu with rfl | rfl
 ·exact Nat.zero_le _
 cases w with
 | nil=>cases hw
 | cons x w=>show 1≤(x :: w).length; simp
theorem cntX:vS sX=2∧eS sX=4:=by
 have:=isX.cnt
 refine ⟨this.1.symm,?_⟩
 rw [← this.2]
 decide
end Go.Proofs.Ytneglephfhiamaa
