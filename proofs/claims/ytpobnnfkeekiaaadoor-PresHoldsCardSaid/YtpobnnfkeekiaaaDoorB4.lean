/-
  Texts of this proof, one behind the other: what each says stands at its head. Conditions: none.
-/
import Derived.Test.YtpobnnfkeekiaaaDoorB3
import Derived.RangeFuncRecord
import Derived.RangeFuncLeaves
set_option linter.all false
namespace Go.Proofs.YtpobnnfkeekiaaaDoor.Pr
open Go.Pv
set_option maxHeartbeats 4000000 in
theorem uE (n:Int) (L:List (List (List Int))) (hL:ID L):ct Tryd.prog 11 [.int .i64 n,.list (wy L)] (fl (fH n L)):=by
 refine aV ae Tryd.func11 rfl (by kernel_rfl) (by rw [Tryd.ntmps11]; exact Nat.le_add_left 2 _) ?_; rw [Tryd.ntmps11]
 have hLl:=hL.1
 refine qm ?_
 refine ab fun K hK=>aa ae ?_
 simp only [an,fl,gp,ak,simprocAttr]
 refine af ?_ (hK _ ?_)<;>clear hK K
 ·first|exact trivial|omega|(simp only [ah] at *; omega)|(simp [ah] at *; omega)|simp_all
 refine qa (qm (qm ?_))
 by_cases g1a:n < 1
 ·refine ab fun K hK=>aa ae ?_
  simp only [an,fl,gp,ak,simprocAttr,decide_eq_true g1a]
  refine af trivial (hK _ ?_)<;>clear hK K
  refine qa ?_
  refine aq rfl (fun hC1=>?_) (fun hC1=>?_)
  ·have hr:fH n L=(3,1):=by unfold fH; rw [if_pos (by first|exact .inl g1a|omega)]
   refine qm ?_
   refine ab fun K hK=>aa ae ?_
   simp only [an,fl,gp,ak,simprocAttr]
   refine ao trivial (au (pN 3 1) rfl rfl rfl (by simp only [ay,Nat.reduceLT]) (by repeat (first|exact trivial|constructor)) (aa ae ?_))
   simp only [an,fl,gp,ak,simprocAttr]
   refine af ?_ (hK _ ?_)<;>clear hK K
   ·first|exact trivial|omega|(simp only [ah] at *; omega)|(simp [ah] at *; omega)|simp_all
   refine qa (qk (qb ?_))
   simp only [Tryd.results11,bT,an,fl,gp,ak,simprocAttr]
   all_goals (rw [hr]; exact ⟨rfl,rfl⟩)
  cases hC1
 refine ab fun K hK=>aa ae ?_
 simp only [an,fl,gp,ak,simprocAttr,decide_eq_false g1a]
 refine af trivial (hK _ ?_)<;>clear hK K
 refine qa ?_
 refine aq rfl (fun hC1=>?_) (fun hC1=>?_)
 ·(try simp only [aE] at hC1)
  have hr:fH n L=(3,1):=by unfold fH; rw [if_pos (by first|exact .inl g1a|omega)]
  refine qm ?_
  refine ab fun K hK=>aa ae ?_
  simp only [an,fl,gp,ak,simprocAttr]
  refine ao trivial (au (pN 3 1) rfl rfl rfl (by simp only [ay,Nat.reduceLT]) (by repeat (first|exact trivial|constructor)) (aa ae ?_))
  simp only [an,fl,gp,ak,simprocAttr]
  refine af ?_ (hK _ ?_)<;>clear hK K
  ·first|exact trivial|omega|(simp only [ah] at *; omega)|(simp [ah] at *; omega)|simp_all
  refine qa (qk (qb ?_))
  simp only [Tryd.results11,bT,an,fl,gp,ak,simprocAttr]
  all_goals (rw [hr]; exact ⟨rfl,rfl⟩)
 (try simp only [aE] at hC1)
 have h1:1≤n:=by omega
 have h6:n≤6:=by omega
 have hr:fH n L=vW n L 0:=by unfold fH; rw [if_neg (by omega)]
 refine qh (qa (qm (qm ?_)))
 refine ab fun K hK=>aa ae ?_
 simp only [an,fl,gp,ak,simprocAttr]
 refine af trivial (hK _ ?_)<;>clear hK K
 refine qa (ql ?_)
 refine aD (ι:=Nat) (fun i=>⟨83,[(0,.p (.int .i64 n)),(1,.p (.list (wy L))),(4,.ptr 0 0),(5,.p (.int .i64 (i:Nat)))],[.own [.p (.int .i64 0),.p (.int .i64 0)]]⟩) (fun i=>i≤L.length∧fH n L=vW n (L.drop i) i) (fun i=>L.length - i) 0 ⟨Nat.zero_le _,hr⟩ [0] (by simp only [leq,bx,an,fl,gp,ak,simprocAttr]<;>trivial) fun i hq=>?_
 obtain ⟨q1,q2⟩:=hq
 refine qm (qm ?_)
 refine ab fun K hK=>aa ae ?_
 simp only [an,fl,gp,ak,simprocAttr,b9]
 refine af trivial (hK _ ?_)<;>clear hK K
 refine qa ?_
 refine aq rfl (fun hC2=>?_) (fun hC2=>?_)
 ·(try simp only [aE] at hC2)
  have hi:i < L.length:=by omega
  obtain ⟨l,hl⟩:∃ l,L.getD i []=l:=⟨_,rfl⟩
  have hlm:l∈L:=hl ▸ fa hi
  obtain ⟨hl1,hl2⟩:=hL.2 l hlm
  have hdr:L.drop i=l :: L.drop (i + 1):=by
   rw [List.drop_eq_getElem_cons hi,← hl,List.getD_eq_getElem?_getD,List.getElem?_eq_getElem hi]; rfl
  rw [hdr,vW] at q2
  refine qh (qa (qm (ql (qm ?_))))
  refine ab fun K hK=>aa ae ?_
  simp only [an,fl,gp,ak,simprocAttr,b9,gb hi,hl]
  refine ao ?_ (au (um l hl1 hl2) rfl rfl rfl (by simp only [ay,Nat.reduceLT]) (by repeat (first|exact trivial|constructor)) (aa ae ?_))
  ·first|trivial|omega|exact ⟨by omega,by omega⟩
  simp only [an,fl,gp,ak,simprocAttr,b9,gb hi,hl]
  refine af ?_ (hK _ ?_)<;>clear hK K
  ·first|trivial|omega
  refine qa (qm (qm ?_))
  refine ab fun K hK=>aa ae ?_
  simp only [an,fl,gp,ak,simprocAttr]
  refine af ?_ (hK _ ?_)<;>clear hK K
  ·first|exact trivial|omega|(simp only [ah] at *; omega)|(simp [ah] at *; omega)|simp_all
  refine qa ?_
  refine aq rfl (fun hC3=>?_) (fun hC3=>?_)
  ·(try simp only [aE] at hC3)
   have h0:(qQ l).1 ≠ 0:=hC3
   rw [if_pos h0] at q2
   refine qm ?_
   refine ab fun K hK=>aa ae ?_
   simp only [an,fl,gp,ak,simprocAttr]
   refine af ?_ (hK _ ?_)<;>clear hK K
   ·first|exact trivial|omega|(simp only [ah] at *; omega)|(simp [ah] at *; omega)|simp_all
   refine qa (qk (qb (qe (qb (qb (qe (qb ?_)))))))
   simp only [Tryd.results11,bT,an,fl,gp,ak,simprocAttr]
   all_goals (rw [q2]; exact ⟨rfl,rfl⟩)
  (try simp only [aE] at hC3)
  have h0:¬ (qQ l).1 ≠ 0:=fun h=>h hC3
  rw [if_neg h0] at q2
  refine qh (qa (qm ?_))
  refine ab fun K hK=>aa ae ?_
  simp only [an,fl,gp,ak,simprocAttr]
  refine af trivial (hK _ ?_)<;>clear hK K
  refine qa (ql ?_)
  refine aD (ι:=Nat) (fun j=>⟨83,[(0,.p (.int .i64 n)),(1,.p (.list (wy L))),(4,.ptr 0 0),(5,.p (.int .i64 (i:Nat))),(7,.p (.int .i64 (j:Nat)))],[.own [.p (.int .i64 0),.p (.int .i64 0)]]⟩) (fun j=>j≤l.length∧gD n l=gD n (l.drop j)) (fun j=>l.length - j) 0 ⟨Nat.zero_le _,rfl⟩ [0] (by simp only [leq,bx,an,fl,gp,ak,simprocAttr]<;>trivial) fun j hq=>?_
  obtain ⟨j1,j2⟩:=hq
  refine qm (qm ?_)
  refine ab fun K hK=>aa ae ?_
  simp only [an,fl,gp,ak,simprocAttr,b9,gb hi,hl,aC]
  refine af ?_ (hK _ ?_)<;>clear hK K
  ·omega
  refine qa ?_
  refine aq rfl (fun hC4=>?_) (fun hC4=>?_)
  ·(try simp only [aE] at hC4)
   have hj:j < l.length:=by omega
   obtain ⟨w,hw⟩:∃ w,l.getD j []=w:=⟨_,rfl⟩
   have hwl:w.length≤1000000000:=hl2 w (hw ▸ fa hj)
   refine qh (qa (qm (ql (qm ?_))))
   refine ab fun K hK=>aa ae ?_
   simp only [an,fl,gp,ak,simprocAttr]
   refine af trivial (hK _ ?_)<;>clear hK K
   refine qa (ql ?_)
   refine aD (ι:=Nat) (fun k=>⟨83,[(0,.p (.int .i64 n)),(1,.p (.list (wy L))),(4,.ptr 0 0),(5,.p (.int .i64 (i:Nat))),(7,.p (.int .i64 (j:Nat))),(8,.p (.int .i64 (k:Nat)))],[.own [.p (.int .i64 0),.p (.int .i64 0)]]⟩) (fun k=>k≤w.length∧w.any (js n)=(w.drop k).any (js n)) (fun k=>w.length - k) 0 ⟨Nat.zero_le _,rfl⟩ [0] (by simp only [leq,bx,an,fl,gp,ak,simprocAttr]<;>trivial) fun k hq=>?_
   obtain ⟨k1,k2⟩:=hq
   refine qm (qm ?_)
   refine ab fun K hK=>aa ae ?_
   simp only [an,fl,gp,ak,simprocAttr,b9,gb hi,hl,aC,b8 hj,hw,aw]
   refine af ?_ (hK _ ?_)<;>clear hK K
   ·first|omega|exact ⟨by omega,by omega⟩
   refine qa ?_
   refine aq rfl (fun hC5=>?_) (fun hC5=>?_)
   ·(try simp only [aE] at hC5)
    have hk:k < w.length:=by omega
    obtain ⟨x,hx⟩:∃ x,w.getD k 0=x:=⟨_,rfl⟩
    refine qh (qa (qm (ql (qm ?_))))
    by_cases g15a:x > n
    ·refine ab fun K hK=>aa ae ?_
     simp only [an,fl,gp,ak,simprocAttr,b9,gb hi,hl,aC,b8 hj,hw,aw,aL hk,hx,decide_eq_true g15a]
     refine af ?_ (hK _ ?_)<;>clear hK K
     ·first|trivial|omega|(simp only [ah]; omega)|(refine ⟨?_,?_⟩<;>first|omega|(simp only [ah]; omega))|(repeat (first|omega|(simp only [ah]; omega)|constructor))
     refine qa ?_
     refine aq rfl (fun hC6=>?_) (fun hC6=>?_)
     ·have hb:gD n l=true:=by
       refine jx hj (d:=[]) ?_
       rw [hw]
       refine jx hk (d:=0) ?_
       rw [hx]
       unfold js
       simp only [Bool.or_eq_true,decide_eq_true_eq]
       first|exact .inl g15a|omega
      rw [if_pos hb] at q2
      refine qm ?_
      refine ab fun K hK=>aa ae ?_
      simp only [an,fl,gp,ak,simprocAttr]
      refine ao ?_ (au (pN 4 (i + 1)) rfl rfl rfl (by simp only [ay,Nat.reduceLT]) (by repeat (first|exact trivial|constructor)) (aa ae ?_))
      ·first|omega|(simp only [ah]; omega)
      simp only [an,fl,gp,ak,simprocAttr]
      refine af ?_ (hK _ ?_)<;>clear hK K
      ·first|exact trivial|omega|(simp only [ah] at *; omega)|(simp [ah] at *; omega)|simp_all
      refine qa (qk (qe (qb (qb (qe (qe (qb (qb (qe (qe (qb (qb (qe (qb ?_))))))))))))))
      simp only [Tryd.results11,bT,an,fl,gp,ak,simprocAttr]
      all_goals (rw [q2]; exact ⟨rfl,rfl⟩)
     cases hC6
    refine ab fun K hK=>aa ae ?_
    simp only [an,fl,gp,ak,simprocAttr,b9,gb hi,hl,aC,b8 hj,hw,aw,aL hk,hx,decide_eq_false g15a]
    refine af ?_ (hK _ ?_)<;>clear hK K
    ·first|trivial|omega|(simp only [ah]; omega)|(refine ⟨?_,?_⟩<;>first|omega|(simp only [ah]; omega))|(repeat (first|omega|(simp only [ah]; omega)|constructor))
    refine qa ?_
    refine aq rfl (fun hC6=>?_) (fun hC6=>?_)
    ·(try simp only [aE] at hC6)
     have hb:gD n l=true:=by
      refine jx hj (d:=[]) ?_
      rw [hw]
      refine jx hk (d:=0) ?_
      rw [hx]
      unfold js
      simp only [Bool.or_eq_true,decide_eq_true_eq]
      first|exact .inl g15a|omega
     rw [if_pos hb] at q2
     refine qm ?_
     refine ab fun K hK=>aa ae ?_
     simp only [an,fl,gp,ak,simprocAttr]
     refine ao ?_ (au (pN 4 (i + 1)) rfl rfl rfl (by simp only [ay,Nat.reduceLT]) (by repeat (first|exact trivial|constructor)) (aa ae ?_))
     ·first|omega|(simp only [ah]; omega)
     simp only [an,fl,gp,ak,simprocAttr]
     refine af ?_ (hK _ ?_)<;>clear hK K
     ·first|exact trivial|omega|(simp only [ah] at *; omega)|(simp [ah] at *; omega)|simp_all
     refine qa (qk (qe (qb (qb (qe (qe (qb (qb (qe (qe (qb (qb (qe (qb ?_))))))))))))))
     simp only [Tryd.results11,bT,an,fl,gp,ak,simprocAttr]
     all_goals (rw [q2]; exact ⟨rfl,rfl⟩)
    (try simp only [aE] at hC6)
    have hx1:js n x=false:=by
     unfold js
     simp only [Bool.or_eq_false_iff,decide_eq_false_iff_not]
     omega
    rw [sE hk (d:=0),hx,hx1,Bool.false_or] at k2
    refine qh (qd (qa ?_))
    refine ab fun K hK=>aa ae ?_
    simp only [an,fl,gp,ak,simprocAttr]
    refine af ?_ (hK _ ?_)<;>clear hK K
    ·first|exact trivial|omega|(simp only [ah] at *; omega)|(simp [ah] at *; omega)|simp_all
    refine qa ?_
    refine ⟨k + 1,[0],⟨by omega,k2⟩,by omega,by simp only [leq,bx,an,fl,gp,ak,simprocAttr]<;>first|trivial|trace_state⟩
   (try simp only [aE] at hC5)
   have hkw:w.any (js n)=false:=by rw [k2,List.drop_eq_nil_of_le (by omega)]; rfl
   have j3:gD n l=gD n (l.drop (j + 1)):=by
    rw [j2]
    unfold gD
    rw [sE hj (d:=[]),hw,hkw,Bool.false_or]
   refine qj (qc (qc (qf (qd (qa ?_)))))
   refine ab fun K hK=>aa ae ?_
   simp only [an,fl,gp,ak,simprocAttr]
   refine af ?_ (hK _ ?_)<;>clear hK K
   ·first|exact trivial|omega|(simp only [ah] at *; omega)|(simp [ah] at *; omega)|simp_all
   refine qa ?_
   refine ⟨j + 1,[0],⟨by omega,j3⟩,by omega,by simp only [leq,bx,an,fl,gp,ak,simprocAttr]<;>first|trivial|trace_state⟩
  (try simp only [aE] at hC4)
  have hb:¬ gD n l=true:=by rw [j2,List.drop_eq_nil_of_le (by omega)]; simp [gD]
  rw [if_neg hb] at q2
  refine qj (qc (qc (qf (qd (qa ?_)))))
  refine ab fun K hK=>aa ae ?_
  simp only [an,fl,gp,ak,simprocAttr]
  refine af ?_ (hK _ ?_)<;>clear hK K
  ·first|exact trivial|omega|(simp only [ah] at *; omega)|(simp [ah] at *; omega)|simp_all
  refine qa ?_
  refine ⟨i + 1,[0],⟨by omega,q2⟩,by omega,by simp only [leq,bx,an,fl,gp,ak,simprocAttr]<;>first|trivial|trace_state⟩
 (try simp only [aE] at hC2)
 rw [List.drop_eq_nil_of_le (by omega),vW] at q2
 refine qj (qc (qc (qf (qa (qm ?_)))))
 refine ab fun K hK=>aa ae ?_
 simp only [an,fl,gp,ak,simprocAttr]
 refine af ?_ (hK _ ?_)<;>clear hK K
 ·first|exact trivial|omega|(simp only [ah] at *; omega)|(simp [ah] at *; omega)|simp_all
 refine qa (qk ?_)
 simp only [Tryd.results11,bT,an,fl,gp,ak,simprocAttr]
 all_goals (rw [q2]; exact ⟨rfl,rfl⟩)
def qT (L:List (List (List Int))):Nat:=(L.map kU).foldr (· + ·) 0
theorem tX (l:List (List Int)) (L:List (List (List Int))):qT (l :: L)=kU l + qT L:=rfl
theorem BG {L:List (List (List Int))} {i:Nat} (h:i < L.length):qT (L.take (i + 1))=qT (L.take i) + kU (L.getD i []):=by
 induction L generalizing i with
 | nil=>simp at h
 | cons l L ih =>
  cases i with
  | zero=>simp [qT]
  | succ i =>
   have:=ih (i:=i) (by simpa using h)
   simp only [List.take_succ_cons,tX,this,List.getD_cons_succ]
   omega
theorem Ff (L:List (List (List Int))) (i:Nat):qT (L.take i)≤qT L:=by
 induction L generalizing i with
 | nil=>simp
 | cons l L ih =>
  cases i with
  | zero=>simp [qT]
  | succ i =>
   have:=ih i
   simp only [List.take_succ_cons,tX]
   omega
set_option maxHeartbeats 4000000 in
theorem we (L:List (List (List Int))) (hl:L.length≤1000) (hl2:∀ l∈L,l.length≤1000000000) (hb:qT L≤4000000000000000000):ct Tryd.prog 5 [.list (wy L)] (.int .i64 (qT L)):=by
 refine aV ae Tryd.func5 rfl (by kernel_rfl) (by rw [Tryd.ntmps5]; exact Nat.le_add_left 1 _) ?_; rw [Tryd.ntmps5]
 refine qm ?_
 refine ab fun K hK=>aa ae ?_
 simp only [an,fl,gp,ak,simprocAttr]
 refine af trivial (hK _ ?_)<;>clear hK K
 refine qa (qm ?_)
 refine ab fun K hK=>aa ae ?_
 simp only [an,fl,gp,ak,simprocAttr]
 refine af trivial (hK _ ?_)<;>clear hK K
 refine qa (qm (qm ?_))
 refine ab fun K hK=>aa ae ?_
 simp only [an,fl,gp,ak,simprocAttr]
 refine af trivial (hK _ ?_)<;>clear hK K
 refine qa (ql ?_)
 refine aD (ι:=Nat) (fun i=>⟨32,[(0,.p (.list (wy L))),(3,.p (.int .i64 (qT (L.take i):Nat))),(4,.p (.int .i64 (i:Nat)))],[]⟩) (fun i=>i≤L.length) (fun i=>L.length - i) 0 (Nat.zero_le _) [] ⟨rfl,List.nodup_nil,trivial,rfl,rfl,by simp [qT]; rfl,rfl,rfl,rfl,trivial⟩ fun i hq=>?_
 refine qm (qm ?_)
 refine ab fun K hK=>aa ae ?_
 simp only [an,fl,gp,ak,simprocAttr,b9]
 refine af trivial (hK _ ?_)<;>clear hK K
 refine qa ?_
 refine aq rfl (fun hC1=>?_) (fun hC1=>?_)
 ·(try simp only [aE] at hC1)
  have hi:i < L.length:=by omega
  obtain ⟨l,hl'⟩:∃ l,L.getD i []=l:=⟨_,rfl⟩
  have hll:=hl2 l (hl' ▸ fa hi)
  have ht:=BG hi
  have htl:=Ff L (i + 1)
  rw [hl'] at ht
  refine qh (qa (qm (ql (qm ?_))))
  refine ab fun K hK=>aa ae ?_
  simp only [an,fl,gp,ak,simprocAttr]
  refine af trivial (hK _ ?_)<;>clear hK K
  refine qa (ql ?_)
  refine aD (ι:=Nat) (fun j=>⟨32,[(0,.p (.list (wy L))),(3,.p (.int .i64 ((qT (L.take i) + kU (l.take j):Nat):Int))),(4,.p (.int .i64 (i:Nat))),(5,.p (.int .i64 (j:Nat)))],[]⟩) (fun j=>j≤l.length) (fun j=>l.length - j) 0 (Nat.zero_le _) [] ⟨rfl,List.nodup_nil,trivial,rfl,rfl,by simp [kU]; rfl,rfl,rfl,rfl,rfl,rfl,trivial⟩ fun j hj=>?_
  refine qm (qm ?_)
  refine ab fun K hK=>aa ae ?_
  simp only [an,fl,gp,ak,simprocAttr,b9,gb hi,hl',aC]
  refine af ?_ (hK _ ?_)<;>clear hK K
  ·omega
  refine qa ?_
  refine aq rfl (fun hC2=>?_) (fun hC2=>?_)
  ·(try simp only [aE] at hC2)
   have hjl:j < l.length:=by omega
   have htj:kU (l.take (j + 1))=kU (l.take j) + (l.getD j []).length:=by rw [kI (d:=[]) hjl,GW]
   have htk:=G9 l (j + 1)
   refine qh (qa (qm (ql ?_)))
   refine ab fun K hK=>aa ae ?_
   simp only [an,fl,gp,ak,simprocAttr,b9,gb hi,hl',aC,b8 hjl,aw]
   refine af ?_ (hK _ ?_)<;>clear hK K
   ·(repeat (first|omega|(simp only [ah]; omega)|constructor))
   refine qd (qa ?_)
   refine ab fun K hK=>aa ae ?_
   simp only [an,fl,gp,ak,simprocAttr]
   refine af ?_ (hK _ ?_)<;>clear hK K
   ·first|exact trivial|omega|(simp only [ah] at *; omega)|(simp [ah] at *; omega)|simp_all
   refine qa ?_
   refine ⟨j + 1,[],by omega,by omega,?_⟩
   rw [htj]
   have e:((qT (L.take i) + (kU (l.take j) + (l.getD j []).length):Nat):Int)=((qT (L.take i) + kU (l.take j):Nat):Int) + ((l.getD j []).length:Int):=by omega
   rw [e]
   simp only [leq,bx,an,fl,gp,ak,simprocAttr]<;>first|trivial|trace_state
  (try simp only [aE] at hC2)
  have hje:j=l.length:=by omega
  rw [hje,List.take_length,← ht]
  refine qj (qc (qc (qf (qd (qa ?_)))))
  refine ab fun K hK=>aa ae ?_
  simp only [an,fl,gp,ak,simprocAttr]
  refine af ?_ (hK _ ?_)<;>clear hK K
  ·first|exact trivial|omega|(simp only [ah] at *; omega)|(simp [ah] at *; omega)|simp_all
  refine qa ?_
  refine ⟨i + 1,[],by omega,by omega,by simp only [leq,bx,an,fl,gp,ak,simprocAttr]<;>first|trivial|trace_state⟩
 (try simp only [aE] at hC1)
 have hie:i=L.length:=by omega
 rw [hie,List.take_length]
 refine qj (qc (qc (qf (qa (qm ?_)))))
 refine ab fun K hK=>aa ae ?_
 simp only [an,fl,gp,ak,simprocAttr]
 refine af trivial (hK _ ?_)<;>clear hK K
 refine qa (qk ?_)
 simp only [Tryd.results5,bT,an,fl,gp,ak,simprocAttr]
 all_goals ((first|exact rfl|exact ⟨rfl,rfl⟩|exact ⟨rfl,rfl,rfl⟩|exact ⟨trivial,rfl⟩|exact ⟨Nat.le_refl _,rfl⟩|trivial|(simp; done)))
set_option maxHeartbeats 4000000 in
theorem uk (L:List (List Int)) (hl:L.length≤1000000000) (hw:∀ w∈L,w.length≤1000000000∧HO w):ct Tryd.prog 43 [.list (ll L)] (.list (ll (L.map short))):=by
 refine aV ae Tryd.func43 rfl (by kernel_rfl) (by rw [Tryd.ntmps43]; exact Nat.le_add_left 1 _) ?_; rw [Tryd.ntmps43]
 refine qm ?_
 refine ab fun K hK=>aa ae ?_
 simp only [an,fl,gp,ak,simprocAttr]
 refine af trivial (hK _ ?_)<;>clear hK K
 refine qa (qm ?_)
 refine ab fun K hK=>aa ae ?_
 simp only [an,fl,gp,ak,simprocAttr]
 refine af trivial (hK _ ?_)<;>clear hK K
 refine qa (qm (qm ?_))
 refine ji 3 rfl ?_
 refine ab fun K hK=>aa ae ?_
 simp only [an,fl,gp,ak,simprocAttr,aC]
 refine af trivial (hK _ ?_)<;>clear hK K
 refine qa (ql ?_)
 refine aD (ι:=Nat) (fun i=>⟨19,[(3,.sl 0 0 i),(6,.p (.list (ll L))),(7,.p (.int .i64 L.length)),(8,.p (.int .i64 (i:Nat)))],[.own (bq (ll ((L.take i).map short)))]⟩) (fun i=>i≤L.length) (fun i=>L.length - i) 0 (Nat.zero_le _) [0] ⟨rfl,by decide,⟨⟨rfl,rfl⟩,trivial⟩,rfl,rfl,rfl,rfl,rfl,rfl,rfl,rfl,trivial⟩ fun i hq=>?_
 refine qm ?_
 refine ab fun K hK=>aa ae ?_
 simp only [an,fl,gp,ak,simprocAttr]
 refine af trivial (hK _ ?_)<;>clear hK K
 refine qa (qm ?_)
 refine aq rfl (fun hC1=>?_) (fun hC1=>?_)
 ·(try simp only [aE] at hC1)
  have hi:i < L.length:=by omega
  obtain ⟨w,hwd⟩:∃ w,L.getD i []=w:=⟨_,rfl⟩
  obtain ⟨hw1,hw2⟩:=hw w (hwd ▸ fa hi)
  have hlen:((L.take i).map short).length=i:=by rw [List.length_map,List.length_take]; omega
  have ha:(L.take (i + 1)).map short=(L.take i).map short++[short w]:=by
   rw [kI (d:=[]) hi,List.map_append,hwd]; rfl
  have htk:List.take i (bq (ll ((L.take i).map short)))=bq (ll ((L.take i).map short)):=List.take_of_length_le (by rw [aJ,aC,hlen]; exact Nat.le_refl _)
  refine qh (qa (qm (ql (qm ?_))))
  refine ab fun K hK=>aa ae ?_
  simp only [an,fl,gp,ak,simprocAttr,aC,b8 hi,hwd]
  refine af ?_ (hK _ ?_)<;>clear hK K
  ·omega
  refine qa ?_
  refine ab fun K hK=>aa ae ?_
  simp only [an,fl,gp,ak,simprocAttr,htk,aJ,aC,hlen]
  refine ao trivial (au (Cz w hw1 (fun x hx=>(hw2 x hx).2)) rfl rfl rfl (by simp only [ay,Nat.reduceLT]) (by repeat (first|exact trivial|constructor)) (aa ae ?_))
  simp only [an,fl,gp,ak,simprocAttr,htk,aJ,aC,hlen]
  refine af ?_ (hK _ ?_)<;>clear hK K
  ·exact ⟨Nat.le_refl _,by omega,by omega⟩
  refine qd (qa ?_)
  refine ab fun K hK=>aa ae ?_
  simp only [an,fl,gp,ak,simprocAttr]
  refine af ?_ (hK _ ?_)<;>clear hK K
  ·first|exact trivial|omega|(simp only [ah] at *; omega)|(simp [ah] at *; omega)|simp_all
  refine qa ?_
  refine ⟨i + 1,[1],by omega,by omega,rfl,by decide,⟨⟨?_,?_⟩,trivial⟩,rfl,rfl,rfl,rfl,rfl,rfl,rfl,rfl,trivial⟩
  ·rw [ha,iW]; exact (List.take_of_length_le (Nat.le_refl _)).symm
  exact jY _ _
 (try simp only [aE] at hC1)
 refine qj (qc (qc (qf (qa (qm ?_)))))
 have hie:i=L.length:=by omega
 rw [hie,List.take_length]
 refine mI 3 0 (jL _) (by rw [aC,List.length_map]; rfl) rfl ?_
 refine ab fun K hK=>aa ae ?_
 simp only [an,fl,gp,ak,simprocAttr]
 refine af trivial (hK _ ?_)<;>clear hK K
 refine qa (qk ?_)
 simp only [Tryd.results43,bT,an,fl,gp,ak,simprocAttr]
 all_goals ((first|exact rfl|exact ⟨rfl,rfl⟩|exact ⟨rfl,rfl,rfl⟩|exact ⟨trivial,rfl⟩|exact ⟨Nat.le_refl _,rfl⟩|trivial|(simp; done)))
def lF (m:Nat) (r:List Int):Mp:=fun x=>if x ≠ 0∧-(m:Int)≤x∧x≤m∧¬ rg r x < 0 then some (rg r x) else none
def gN (m:Nat) (N:List (List Int)):List Mp:=N.map (lF m)
theorem aQ {m:Nat} {N:List (List Int)} : (gN m N).length=N.length:=by simp [gN]
theorem lW {m:Nat} {N:List (List Int)} {i:Nat} (h:i < N.length):gm (gN m N) i=lF m (N.getD i []):=by
 unfold gm gN
 rw [List.getD_eq_getElem?_getD,List.getElem?_map,List.getElem?_eq_getElem h,List.getD_eq_getElem?_getD,List.getElem?_eq_getElem h]; rfl
theorem WR.wg {m:Nat} {N:List (List Int)} {U:List Int} (hm:m≤26) (w:WR m N U):WG (gN m N) U:=by
 refine ⟨by rw [aQ]; exact w.len,w.fo,fun v x d hv hd=>?_⟩
 rw [aQ] at hv ⊢
 rw [lW hv] at hd
 unfold lF at hd
 split at hd
 ·rename_i h
  obtain rfl:=Option.some.inj hd
  exact ⟨by omega,w.rg hv h.2.2.2,h.1,by omega,by omega⟩
 cases hd
theorem Ep {m:Nat} {r:List Int} (hr:r.length=2 * m) {x:Int} (hx:x ≠ 0∧-(m:Int)≤x∧x≤m) (b:Nat):lF m (r.set (cI x).toNat (b:Int))=tv (lF m r) x b:=by
 funext y
 by_cases hy:y=x
 ·subst hy
  unfold tv
  rw [if_pos rfl]
  have e:rg (r.set (cI y).toNat (b:Int)) y=b:=by
   unfold rg
   rw [List.getD_eq_getElem?_getD,List.getElem?_set_self (by rw [hr]; exact (jy hx.1 hx.2.1 hx.2.2).2)]; rfl
  unfold lF
  rw [e,if_pos ⟨hx.1,hx.2.1,hx.2.2,by omega⟩]
 have e2:tv (lF m r) x b y=lF m r y:=by unfold tv; rw [if_neg hy]
 rw [e2]
 unfold lF
 by_cases hy0:y=0
 ·rw [if_neg (fun h=>h.1 hy0),if_neg (fun h=>h.1 hy0)]
 have e:rg (r.set (cI x).toNat (b:Int)) y=rg r y:=by
  unfold rg
  rw [List.getD_eq_getElem?_getD,List.getElem?_set_ne (fun h=>hy (Bz hx.1 hy0 h).symm),List.getD_eq_getElem?_getD]
 rw [e]
theorem E9 {m:Nat} {N:List (List Int)} {a:Nat} {r:List Int} : gN m (N.set a r)=(gN m N).set a (lF m r):=by
 unfold gN; rw [List.map_set]
theorem yH {m:Nat} {r:List Int} {aI:Nat} : ∀ (L:List Int) (S:List E3),(∀ y∈L,-(m:Int)≤y∧y≤m)→(L.foldl (qS r aI) S).reverse=S.reverse++jV (lF m r) aI (L.filter fun y=>(lF m r y).isSome)
 | [],S,_=>by simp [jV]
 | x :: L,S,h=>by
  rw [List.foldl_cons,yH L _ fun y hy=>h y (by simp [hy])]
  obtain ⟨h1,h2⟩:=h x (by simp)
  unfold qS
  by_cases h0:x=0
  ·have e:(lF m r x).isSome=false:=by unfold lF; rw [if_neg (fun h=>h.1 h0)]; rfl
   rw [if_pos h0,List.filter_cons,e]; rfl
  by_cases hx:rg r x < 0
  ·have e:(lF m r x).isSome=false:=by unfold lF; rw [if_neg (fun h=>h.2.2.2 hx)]; rfl
   rw [if_neg h0,if_pos hx,List.filter_cons,e]; rfl
  have e:lF m r x=some (rg r x):=by unfold lF; rw [if_pos ⟨h0,h1,h2,hx⟩]
  rw [if_neg h0,if_neg hx,List.filter_cons,e]
  simp only [Option.isSome_some,if_true,List.reverse_cons,List.append_assoc,List.cons_append,List.nil_append]
  unfold jV
  rw [List.flatMap_cons,e]
  rfl
theorem Bo {m:Nat} (hm:m≤26) {N:List (List Int)} {U:List Int} {t:E3} {S:List E3} (w:WR m N U) (h:Ct m N.length (t :: S)) (hs:kc (gN m N) U (S.reverse++[t])) :
  sO (gN m N) U (S.reverse++[t]) (gN m (eP m N U t S).1) (eP m N U t S).2.1 (eP m N U t S).2.2.reverse:=by
 obtain ⟨e0,x,e2⟩:=t
 obtain ⟨h0,h2,hx⟩:=h (e0,x,e2) (by simp)
 simp only at h0 h2 hx
 have hW:I4 (gN m N).length (S.reverse++[(e0,x,e2)]):=fun t ht=>by
  have:t∈(e0,x,e2) :: S:=by simpa [or_comm] using ht
  obtain ⟨a1,a2,a3,a4,a5⟩:=h t this
  rw [aQ]
  exact ⟨a1,a2,a3,by omega,by omega⟩
 have w1:=w.of h0
 have w2:=w1.of h2
 have r1:∀ u,u < N.length→rV (aT U e0) u=rV U u:=fun u hu=>lK w.fo (by rw [w.len]; exact h0) (by rw [w.len]; exact hu)
 have r2:∀ u,u < N.length→rV (aT (aT U e0) e2) u=rV U u:=fun u hu=>by
  rw [lK w1.fo (by rw [w1.len]; exact h2) (by rw [w1.len]; exact hu)]; exact r1 u hu
 have ea:dO U e0=rV U e0:=bS w.fo (by rw [w.len]; exact h0)
 have eb:dO (aT U e0) e2=rV U e2:=by
  rw [bS w1.fo (by rw [w1.len]; exact h2)]; exact r1 e2 h2
 have ha:rV U e0 < N.length:=by
  have:=dP w.fo e0 (by rw [w.len]; exact h0)
  omega
 have g1:gm (gN m N) (rV U e0)=lF m (N.getD (rV U e0) []):=lW ha
 unfold eP
 simp only [ea,eb]
 split
 ·rename_i hu
  have hn:gm (gN m N) (rV (aT (aT U e0) e2) e0) x=none:=by
   rw [r2 e0 h0,g1]; unfold lF; rw [if_neg (fun h=>h.2.2.2 hu)]
  have n1:=ta (w.wg hm) hW hs (U':=aT (aT U e0) e2) fun u hu=>r2 u (by rwa [aQ] at hu)
  have n2:=Eg (w2.wg hm) n1.sym (by rw [aQ]; exact h0) (by rw [aQ]; exact h2) hn
  rw [r2 e0 h0,r2 e2 h2,g1] at n2
  have e:gN m (N.set (rV U e0) ((N.getD (rV U e0) []).set (cI x).toNat (rV U e2:Nat)))=(gN m N).set (rV U e0) (tv (lF m (N.getD (rV U e0) [])) x (rV U e2:Nat)):=by
   rw [E9,Ep (w.at ha).1 hx]
  rw [e]
  exact n1.trans n2
 rename_i hu
 have hul:=w.rg ha hu
 have hgu:gm (gN m N) (rV U e0) x=some (rg (N.getD (rV U e0) []) x):=by
  rw [g1]; unfold lF; rw [if_pos ⟨hx.1,hx.2.1,hx.2.2,hu⟩]
 generalize rg (N.getD (rV U e0) []) x=u0 at hul hu hgu
 obtain ⟨u,rfl⟩:=Int.eq_ofNat_of_zero_le (show 0≤u0 by omega)
 rw [Int.toNat_natCast] at hul ⊢
 have w3:=w2.of hul
 have r3:∀ v,v < N.length→rV (aT (aT (aT U e0) e2) u) v=rV U v:=fun v hv=>by
  rw [lK w2.fo (by rw [w2.len]; exact hul) (by rw [w2.len]; exact hv)]; exact r2 v hv
 have hr:dO (aT (aT U e0) e2) u=rV U u:=by
  rw [bS w2.fo (by rw [w2.len]; exact hul)]; exact r2 u hul
 rw [hr]
 have n1:=ta (w.wg hm) hW hs (U':=aT (aT (aT U e0) e2) u) fun v hv=>r3 v (by rwa [aQ] at hv)
 have hc:gm (gN m N) (rV (aT (aT (aT U e0) e2) u) e0) x=some (u:Int):=by rw [r3 e0 h0]; exact hgu
 split
 ·rename_i he
  have n2:=CH n1.sym hc (by rw [Int.toNat_natCast,r3 u hul,r3 e2 h2]; exact he)
  exact n1.trans n2
 rename_i hne
 have i1:=dt w.fo (v:=u) (by rw [w.len]; exact hul)
 have i2:=dt w.fo (v:=e2) (by rw [w.len]; exact h2)
 have l1:=dP w.fo u (by rw [w.len]; exact hul)
 have l2:=dP w.fo e2 (by rw [w.len]; exact h2)
 have hlt:min (rV U u) (rV U e2) < max (rV U u) (rV U e2):=by omega
 have hgl:max (rV U u) (rV U e2) < N.length:=by omega
 have n2:=BW (aI:=min (rV U u) (rV U e2)) (gone:=max (rV U u) (rV U e2)) (L:=(iT m).filter fun y=>(lF m (N.getD (max (rV U u) (rV U e2)) []) y).isSome) (w3.wg hm) hW n1.sym hc hlt (by
  rw [Int.toNat_natCast,r3 u hul,r3 e2 h2]
  rcases Nat.lt_or_gt_of_ne hne with h | h
  ·exact .inr ⟨by omega,by omega⟩
  ·exact .inl ⟨by omega,by omega⟩) fun y=>by
  rw [lW hgl,List.mem_filter]
  constructor
  ·intro hy
   refine ⟨gU.2 ?_,hy⟩
   unfold lF at hy
   split at hy
   ·rename_i h; exact ⟨h.2.1,h.2.2.1⟩
   cases hy
  exact fun h=>h.2
 rw [lW hgl,← yH (iT m) S fun y hy=>gU.1 hy] at n2
 exact n1.trans n2
theorem vQ {m:Nat} (hm:m≤26):∀ (k:Nat) (N:List (List Int)) (U:List Int) (S:List E3) (Z:List (List Int) × List Int),WR m N U→Ct m N.length S→kc (gN m N) U S.reverse→jW m k N U S=some Z→sO (gN m N) U S.reverse (gN m Z.1) Z.2 []
 | k,N,U,[],Z,w,_,hs,h=>by
  have:Z=(N,U):=by cases k<;>exact (Option.some.inj h).symm
  subst this
  exact sO.refl hs
 | 0,N,U,t :: S,Z,w,_,_,h=>by cases h
 | k + 1,N,U,t :: S,Z,w,hS,hs,h=>by
  obtain ⟨h1,h2,h3,h4⟩:=tw w hS
  rw [List.reverse_cons] at hs ⊢
  have n1:=Bo hm w hS hs
  exact n1.trans (vQ hm k _ _ _ Z h1 (by rw [h2]; exact h3) n1.sym h)
theorem vI {m:Nat} (hm:m≤26) {N:List (List Int)} {U:List Int} {a b:Nat} {x:Int} (w:WR m N U) (ha:a < N.length) (hb:b < N.length) (hx:x ≠ 0∧-(m:Int)≤x∧x≤m) (hs:kc (gN m N) U []) :
  sO (gN m N) U [(a,x,b),(b,-x,a)] (gN m (cJ m N U a x b).1) (cJ m N U a x b).2 []:=by
 obtain ⟨h1,h2,h3⟩:=nu w ha hb hx
 have:=vQ hm _ N U [(b,-x,a),(a,x,b)] _ w (fun t ht=>by
  simp only [List.mem_cons,List.not_mem_nil,or_false] at ht
  rcases ht with rfl | rfl
  ·exact ⟨hb,ha,by simp only; omega,by simp only; omega,by simp only; omega⟩
  ·exact ⟨ha,hb,hx⟩) (by
  show kc (gN m N) U [(a,x,b),(b,-x,a)]
  exact DK hs a x b) h1
 exact this
abbrev CS:=List (List Int) × List Int
def Aq (m:Nat):List Int:=List.replicate (2 * m) (-1)
def nk (N:List (List Int)) (U:List Int) (v:Nat) (x:Int):Int:=if rg (N.getD v []) x < 0 then -1 else (dO U (rg (N.getD v []) x).toNat:Nat)
def gi (N:List (List Int)) (U:List Int) (v:Nat) (x:Int):List Int:=if rg (N.getD v []) x < 0 then U else aT U (rg (N.getD v []) x).toNat
def br (m:Nat) (s:CS):CS:=(s.1++[Aq m],s.2++[(s.2.length:Int)])
def gE (N:List (List Int)):List Int→List Int→Nat→List Int × Nat × List Int
 | [],U,a=>(U,a,[])
 | x :: r,U,a=>if rg (N.getD a []) x < 0 then (U,a,x :: r) else gE N r (gi N (gi N U a x) a x) (nk N (gi N U a x) a x).toNat
def kT (m most:Nat):List Int→CS→Nat→Option (CS × Nat × List Int)
 | [],s,a=>some (s,a,[])
 | [x],s,a=>some (s,a,[x])
 | x :: y :: r,s,a=>if s.1.length < most then
   kT m most (y :: r) ((cJ m (br m s).1 (br m s).2 a x s.1.length).1,aT (cJ m (br m s).1 (br m s).2 a x s.1.length).2 s.1.length) (dO (cJ m (br m s).1 (br m s).2 a x s.1.length).2 s.1.length)
  else none
def zA (m:Nat) (w:List Int) (v:Nat) (s:CS) (a:Nat):List Int→CS
 | x :: _=>cJ m s.1 s.2 a x v
 | []=>let U2:=aT s.2 a
  let U3:=aT U2 v
  if dO s.2 a=dO U2 v then (s.1,U3) else
  cJ m s.1 (gi s.1 U3 (dO s.2 a) (-w.getLastD 0)) (nk s.1 U3 (dO s.2 a) (-w.getLastD 0)).toNat (w.getLastD 0) v
def rK (m most:Nat) (s:CS) (v:Nat) (w:List Int):Option CS:=
 if w=[] then some (s.1,aT s.2 v) else
 (kT m most (gE s.1 w (aT s.2 v) (dO s.2 v)).2.2 (s.1,(gE s.1 w (aT s.2 v) (dO s.2 v)).1) (gE s.1 w (aT s.2 v) (dO s.2 v)).2.1).map fun q=>zA m w (dO s.2 v) q.1 q.2.1 q.2.2
structure cw (m:Nat) (s:CS):Prop where
 wr:WR m s.1 s.2
 sy:kc (gN m s.1) s.2 []
structure Ext (m:Nat) (s s' : CS):Prop where
 len:s.1.length≤s'.1.length
 same:∀ u v,u < s.1.length→v < s.1.length→rV s.2 u=rV s.2 v→rV s'.2 u=rV s'.2 v
 ed:∀ u x v,u < s.1.length→v < s.1.length→Ed (gN m s.1) s.2 u x v→Ed (gN m s'.1) s'.2 u x v
theorem Ext.refl (m:Nat) (s:CS):Ext m s s:=⟨Nat.le_refl _,fun _ _ _ _ h=>h,fun _ _ _ _ _ h=>h⟩
theorem Ext.trans {m : Nat} {s t u : CS} (h : Ext m s t) (k : Ext m t u) : Ext m s u :=
  ⟨Nat.le_trans h.len k.len, fun a b ha hb e => k.same a b (Nat.lt_of_lt_of_le ha h.len) (Nat.lt_of_lt_of_le hb h.len) (h.same a b ha hb e),
   fun a x b ha hb e => k.ed a x b (Nat.lt_of_lt_of_le ha h.len) (Nat.lt_of_lt_of_le hb h.len) (h.ed a x b ha hb e)⟩
theorem Ext.oo {m:Nat} {s t:CS} (h:Ext m s t):∀ {w:List Int} {u v:Nat},u < s.1.length→v < s.1.length→fP (gN m s.1) s.2 u w v→fP (gN m t.1) t.2 u w v
 | [],u,v,hu,hv,hp=>h.same u v hu hv hp
 | x :: w,u,v,hu,hv,⟨q,a,b,c⟩=>by
  rw [aQ] at a
  exact ⟨q,by rw [aQ]; exact Nat.lt_of_lt_of_le a h.len,h.ed u x q hu a b,Ext.oo h a hv c⟩
theorem eA {m:Nat} {N:List (List Int)} {U:List Int} (w:WR m N U) (hm:m≤26) {U' : List Int} (hr:∀ u,u < N.length→rV U' u=rV U u):Ext m (N,U) (N,U'):=
 ⟨Nat.le_refl _,fun u v hu hv e=>by simp only at hu hv e ⊢; rw [hr u hu,hr v hv]; exact e,fun u x v hu hv e=>(Ed.rv (w.wg hm) (fun u hu=>hr u (by rwa [aQ] at hu)) (by rw [aQ]; exact hu) (by rw [aQ]; exact hv)).2 e⟩
theorem cU {m:Nat} (hm:m≤26) {s:CS} (h:cw m s) {v:Nat} (hv:v < s.1.length):cw m (s.1,aT s.2 v)∧(∀ u,u < s.1.length→rV (aT s.2 v) u=rV s.2 u):=by
 have hr:∀ u,u < s.1.length→rV (aT s.2 v) u=rV s.2 u:=fun u hu=>lK h.wr.fo (by rw [h.wr.len]; exact hv) (by rw [h.wr.len]; exact hu)
 exact ⟨⟨h.wr.of hv,(ta (h.wr.wg hm) (fun t ht=>by cases ht) h.sy (U':=aT s.2 v) fun u hu=>hr u (by rwa [aQ] at hu)).sym⟩,hr⟩
theorem ec {m:Nat} (hm:m≤26) {s:CS} (h:cw m s) {a b:Nat} {x:Int} (ha:a < s.1.length) (hb:b < s.1.length) (hx:x ≠ 0∧-(m:Int)≤x∧x≤m) :
  cw m (cJ m s.1 s.2 a x b)∧(cJ m s.1 s.2 a x b).1.length=s.1.length∧Ext m s (cJ m s.1 s.2 a x b)∧Ed (gN m (cJ m s.1 s.2 a x b).1) (cJ m s.1 s.2 a x b).2 a x b:=by
 obtain ⟨_,h2,h3⟩:=nu h.wr ha hb hx
 have n:=vI hm h.wr ha hb hx h.sy
 refine ⟨⟨h2,n.sym⟩,h3,⟨by rw [h3]; exact Nat.le_refl _,fun u v hu hv e=>n.same u v (by rw [aQ]; exact hu) (by rw [aQ]; exact hv) e,fun u x v hu hv e=>n.ed (by rw [aQ]; exact hu) (by rw [aQ]; exact hv) e⟩,?_⟩
 exact cV.1 (n.aI a x b (by rw [aQ]; exact ha) (by rw [aQ]; exact hb) (.inr ⟨(a,x,b),by simp,rfl,rfl,rfl⟩))
theorem yG (m:Nat):lF m (Aq m)=DG:=by
 funext x
 unfold lF DG
 rw [if_neg]
 rintro ⟨_,_,_,h⟩
 apply h
 unfold rg Aq
 rw [List.getD_eq_getElem?_getD,List.getElem?_replicate]
 split<;>decide
theorem lH {m:Nat} (hm:m≤26) {s:CS} (h:cw m s):cw m (br m s)∧(br m s).1.length=s.1.length + 1∧Ext m s (br m s):=by
 have hg:gN m (br m s).1=gN m s.1++[DG]:=by unfold br gN; simp [yG]
 have wg:=h.wr.wg hm
 refine ⟨⟨⟨by unfold br; simp [h.wr.len],h.wr.fo.snoc,fun r hr=>?_⟩,by rw [hg]; exact zl wg h.sy⟩,by unfold br; simp,⟨by unfold br; simp,fun u v hu hv e=>?_,fun u x v hu hv e=>?_⟩⟩
 ·unfold br at hr ⊢
  simp only [List.mem_append,List.mem_cons,List.not_mem_nil,or_false,List.length_append,List.length_cons,List.length_nil] at hr ⊢
  rcases hr with hr | rfl
  ·obtain ⟨h1,h2⟩:=h.wr.row r hr
   exact ⟨h1,fun d hd=>by have:=h2 d hd; omega⟩
  refine ⟨by simp [Aq],fun d hd=>?_⟩
  have:=List.eq_of_mem_replicate hd
  omega
 ·have h1:=wg.gA (u:=u) (by rw [aQ]; exact hu)
  have h2:=wg.gA (u:=v) (by rw [aQ]; exact hv)
  show rV (s.2++[(s.2.length:Int)]) u=rV (s.2++[(s.2.length:Int)]) v
  rw [h1,h2]; exact e
 rw [hg]
 exact (jC wg (by rw [aQ]; omega) (by rw [aQ]; omega)).2 ⟨by rw [aQ]; exact hu,by rw [aQ]; exact hv,e⟩
theorem pf {m:Nat} {s:CS} (h:cw m s) {a:Nat} (ha:a < s.1.length) (hr:rV s.2 a=a):s.2.getD a 0=(a:Int):=by
 have:=kz h.wr.fo a (by rw [h.wr.len]; exact ha)
 rwa [hr] at this
theorem gV {m:Nat} (hm:m≤26) {s:CS} (h:cw m s) {a:Nat} {x:Int} (ha:a < s.1.length) (hr:rV s.2 a=a) (hx:x ≠ 0∧-(m:Int)≤x∧x≤m) (hd:¬ rg (s.1.getD a []) x < 0) :
  ∃ b:Nat,nk s.1 s.2 a x=b∧b < s.1.length∧rV s.2 b=b∧Ed (gN m s.1) s.2 a x b∧cw m (s.1,gi s.1 s.2 a x)∧∀ u,u < s.1.length→rV (gi s.1 s.2 a x) u=rV s.2 u:=by
 have hdl:=h.wr.rg ha hd
 have he:gm (gN m s.1) (rV s.2 a) x=some (rg (s.1.getD a []) x):=by
  rw [hr,lW ha]; unfold lF; rw [if_pos ⟨hx.1,hx.2.1,hx.2.2,hd⟩]
 have h1:nk s.1 s.2 a x=(rV s.2 (rg (s.1.getD a []) x).toNat:Nat):=by
  unfold nk; rw [if_neg hd,bS h.wr.fo (by rw [h.wr.len]; exact hdl)]
 have h2:gi s.1 s.2 a x=aT s.2 (rg (s.1.getD a []) x).toNat:=by unfold gi; rw [if_neg hd]
 have hi:=dt h.wr.fo (v:=(rg (s.1.getD a []) x).toNat) (by rw [h.wr.len]; exact hdl)
 have hle:=dP h.wr.fo (rg (s.1.getD a []) x).toNat (by rw [h.wr.len]; exact hdl)
 rw [h1,h2]
 obtain ⟨g1,g2⟩:=cU hm h hdl
 exact ⟨_,rfl,by omega,hi,⟨_,he,hi.symm⟩,g1,g2⟩
def Lt (m:Nat) (w:List Int):Prop:=∀ x∈w,x ≠ 0∧-(m:Int)≤x∧x≤m
theorem uG {m:Nat} (hm:m≤26) {N:List (List Int)} {U:List Int} (h:cw m (N,U)) {a:Nat} {x:Int} (ha:a < N.length) (hr:rV U a=a) (hx:x ≠ 0∧-(m:Int)≤x∧x≤m) (hd:¬ rg (N.getD a []) x < 0) :
  ∃ b:Nat,nk N (gi N U a x) a x=b∧nk N U a x=b∧b < N.length∧cw m (N,gi N U a x)∧rV (gi N U a x) a=a∧cw m (N,gi N (gi N U a x) a x)∧(∀ u,u < N.length→rV (gi N (gi N U a x) a x) u=rV U u)∧rV U b=b∧Ed (gN m N) U a x b:=by
 obtain ⟨b,h1,h2,h3,h4,h5,h6⟩:=gV hm h ha hr hx hd
 obtain ⟨b',k1,k2,k3,k4,k5,k6⟩:=gV hm h5 ha (by simp only; rw [h6 a ha]; exact hr) hx hd
 simp only at h1 h2 h3 h4 h5 h6 k1 k2 k3 k4 k5 k6
 have hdl:(rg (N.getD a []) x).toNat < N.length:=h.wr.rg ha hd
 have hb:b' = b:=by
  have e1:nk N (gi N U a x) a x=(rV (gi N U a x) (rg (N.getD a []) x).toNat:Nat):=by
   unfold nk; rw [if_neg hd,bS h5.wr.fo (by rw [h5.wr.len]; exact hdl)]
  have e2:nk N U a x=(rV U (rg (N.getD a []) x).toNat:Nat):=by
   unfold nk; rw [if_neg hd,bS h.wr.fo (by rw [h.wr.len]; exact hdl)]
  rw [h6 _ hdl] at e1
  omega
 subst hb
 exact ⟨b',k1,h1,h2,h5,by rw [h6 a ha]; exact hr,k5,fun u hu=>by rw [k6 u hu,h6 u hu],h3,h4⟩
theorem jO {m:Nat} (hm:m≤26) {N:List (List Int)} : ∀ (w:List Int) (U:List Int) (a:Nat),cw m (N,U)→a < N.length→rV U a=a→Lt m w →
  cw m (N,(gE N w U a).1)∧(∀ u,u < N.length→rV (gE N w U a).1 u=rV U u)∧(gE N w U a).2.1 < N.length∧rV U (gE N w U a).2.1=(gE N w U a).2.1∧∃ p,w=p++(gE N w U a).2.2∧fP (gN m N) U a p (gE N w U a).2.1
 | [],U,a,h,ha,hr,_=>⟨h,fun _ _=>rfl,ha,hr,[],rfl,rfl⟩
 | x :: w,U,a,h,ha,hr,hw=>by
  unfold gE
  split
  ·exact ⟨h,fun _ _=>rfl,ha,hr,[],rfl,rfl⟩
  rename_i hd
  obtain ⟨b,h1,_,h2,_,_,h5,h6,h7,h8⟩:=uG hm h ha hr (hw x (by simp)) hd
  rw [h1,Int.toNat_natCast]
  obtain ⟨g1,g2,g3,g4,p,g5,g6⟩:=jO hm w _ b h5 h2 (by rw [h6 b h2]; exact h7) fun y hy=>hw y (by simp [hy])
  refine ⟨g1,fun u hu=>by rw [g2 u hu,h6 u hu],g3,by rw [← h6 _ g3]; exact g4,x :: p,by rw [List.cons_append,← g5],⟨b,by rw [aQ]; exact h2,h8,?_⟩⟩
  exact Ext.oo (s:=(N,gi N (gi N U a x) a x)) (t:=(N,U)) (eA h5.wr hm fun u hu=>(h6 u hu).symm) h2 g3 g6
theorem l9 {m:Nat} (hm:m≤26) {s:CS} (h:cw m s) {a:Nat} {x:Int} (ha:a < s.1.length) (hx:x ≠ 0∧-(m:Int)≤x∧x≤m) {t:CS} (ht:t=cJ m (br m s).1 (br m s).2 a x s.1.length) :
  cw m (br m s)∧(br m s).1.length=s.1.length + 1∧cw m t∧t.1.length=s.1.length + 1∧dO t.2 s.1.length < t.1.length∧rV (aT t.2 s.1.length) (dO t.2 s.1.length)=dO t.2 s.1.length∧cw m (t.1,aT t.2 s.1.length)∧Ext m s (t.1,aT t.2 s.1.length)∧Ed (gN m t.1) (aT t.2 s.1.length) a x (dO t.2 s.1.length):=by
 obtain ⟨h1,h2,h3⟩:=lH hm h
 obtain ⟨k1,k2,k3,k4⟩:=ec hm h1 (a:=a) (b:=s.1.length) (x:=x) (by omega) (by omega) hx
 rw [← ht] at k1 k2 k3 k4
 have hl:s.1.length < t.1.length:=by omega
 obtain ⟨g1,g2⟩:=cU hm k1 hl
 have e1:dO t.2 s.1.length=rV t.2 s.1.length:=bS k1.wr.fo (by rw [k1.wr.len]; exact hl)
 have hle:=dP k1.wr.fo s.1.length (by rw [k1.wr.len]; exact hl)
 have hi:=dt k1.wr.fo (v:=s.1.length) (by rw [k1.wr.len]; exact hl)
 have ex:=eA (N:=t.1) k1.wr hm (U':=aT t.2 s.1.length) g2
 rw [e1]
 refine ⟨h1,h2,k1,by omega,by omega,by rw [g2 _ (by omega)]; exact hi,g1,h3.trans (k3.trans ex),?_⟩
 have:=ex.ed a x (rV t.2 s.1.length) (by simp only; omega) (by simp only; omega) (k4.mv rfl hi.symm)
 exact this
theorem mN {m most:Nat} (hm:m≤26):∀ (w:List Int) (s:CS) (a:Nat) (q:CS × Nat × List Int),cw m s→a < s.1.length→rV s.2 a=a→Lt m w→kT m most w s a=some q →
  cw m q.1∧Ext m s q.1∧q.2.1 < q.1.1.length∧rV q.1.2 q.2.1=q.2.1∧(w=[]→q=(s,a,[]))∧(w ≠ []→∃ p x,w=p++[x]∧q.2.2=[x]∧fP (gN m q.1.1) q.1.2 a p q.2.1)
 | [],s,a,q,h,ha,hr,_,hq=>by
  cases hq
  exact ⟨h,Ext.refl _ _,ha,hr,fun _=>rfl,fun h=>absurd rfl h⟩
 | [x],s,a,q,h,ha,hr,_,hq=>by
  cases hq
  exact ⟨h,Ext.refl _ _,ha,hr,fun h=>absurd h (by simp),fun _=>⟨[],x,rfl,rfl,rfl⟩⟩
 | x :: y :: r,s,a,q,h,ha,hr,hw,hq=>by
  unfold kT at hq
  split at hq
  ·obtain ⟨t,ht⟩:∃ t,t=cJ m (br m s).1 (br m s).2 a x s.1.length:=⟨_,rfl⟩
   rw [← ht] at hq
   obtain ⟨_,_,_,k2,k3,k4,k5,k6,k7⟩:=l9 hm h ha (hw x (by simp)) ht
   obtain ⟨g1,g2,g3,g4,_,g6⟩:=mN hm (y :: r) _ _ q k5 k3 k4 (fun z hz=>hw z (by simp [hz])) hq
   refine ⟨g1,k6.trans g2,g3,g4,fun h=>absurd h (by simp),fun _=>?_⟩
   obtain ⟨p,z,e1,e2,e3⟩:=g6 (by simp)
   refine ⟨x :: p,z,by rw [e1]; rfl,e2,⟨dO t.2 s.1.length,by rw [aQ]; exact Nat.lt_of_lt_of_le k3 g2.len,g2.ed _ _ _ (by simp only; omega) k3 k7,e3⟩⟩
  cases hq
theorem Dg {m:Nat} {s:CS} (h:cw m s) {a p:Nat} {x:Int} (hx:x ≠ 0∧-(m:Int)≤x∧x≤m) (hp:p < s.1.length) (ha:a < s.1.length) (hr:rV s.2 a=a) (he:Ed (gN m s.1) s.2 p x a):¬ rg (s.1.getD a []) (-x) < 0:=by
 have h1:=cV.1 (h.sy p x a (by rw [aQ]; exact hp) (by rw [aQ]; exact ha) (cV.2 he))
 obtain ⟨d,h2,_⟩:=h1
 rw [hr,lW ha] at h2
 unfold lF at h2
 split at h2
 ·rename_i h3; exact h3.2.2.2
 cases h2
theorem qW (p:List Int) (x:Int):(p++[x]).getLastD 0=x:=by simp
theorem fP.cut {G:List Mp} {U:List Int} {x:Int} : ∀ {p:List Int} {u v:Nat},u < G.length→fP G U u (p++[x]) v→∃ q,q < G.length∧fP G U u p q∧Ed G U q x v
 | [],u,v,hu,⟨q,h1,h2,h3⟩=>⟨u,hu,rfl,h2.mv rfl h3⟩
 | y :: p,u,v,hu,⟨q,h1,h2,h3⟩=>by
  obtain ⟨q',g1,g2,g3⟩:=fP.cut (p:=p) h1 h3
  exact ⟨q',g1,⟨q,h1,h2,g2⟩,g3⟩
theorem s8 {m:Nat} (hm:m≤26) {s:CS} (h:cw m s) {w:List Int} (hw:Lt m w) (hne:w ≠ []) {v a:Nat} (hv:v < s.1.length) (ha:a < s.1.length) (hr:rV s.2 a=a) (hp:fP (gN m s.1) s.2 v w a) :
  dO s.2 a=a∧cw m (s.1,aT s.2 a)∧cw m (s.1,aT (aT s.2 a) v)∧dO (aT s.2 a) v=rV s.2 v∧rV (aT (aT s.2 a) v) a=a∧(∀ u,u < s.1.length→rV (aT (aT s.2 a) v) u=rV s.2 u) ∧
  (w.getLastD 0 ≠ 0∧-(m:Int)≤w.getLastD 0∧w.getLastD 0≤m)∧¬ rg (s.1.getD a []) (-w.getLastD 0) < 0 ∧
  ∃ b:Nat,nk s.1 (aT (aT s.2 a) v) a (-w.getLastD 0)=b∧b < s.1.length∧cw m (s.1,gi s.1 (aT (aT s.2 a) v) a (-w.getLastD 0))∧(∀ u,u < s.1.length→rV (gi s.1 (aT (aT s.2 a) v) a (-w.getLastD 0)) u=rV s.2 u)∧∃ p q,w=p++[w.getLastD 0]∧q < s.1.length∧fP (gN m s.1) s.2 v p q∧rV s.2 q=rV s.2 b:=by
 obtain ⟨p,x,rfl⟩:∃ p x,w=p++[x]:=⟨w.dropLast,w.getLast hne,(List.dropLast_concat_getLast hne).symm⟩
 rw [qW]
 have hx:=hw x (by simp)
 obtain ⟨g1,g2⟩:=cU hm h ha
 obtain ⟨k1,k2⟩:=cU hm g1 (v:=v) hv
 simp only at k1 k2
 have hall:∀ u,u < s.1.length→rV (aT (aT s.2 a) v) u=rV s.2 u:=fun u hu=>by rw [k2 u hu,g2 u hu]
 obtain ⟨q,q1,q2,q3⟩:=hp.cut (by rw [aQ]; exact hv)
 rw [aQ] at q1
 have hb:=Dg h hx q1 ha hr q3
 have hx2 : -x ≠ 0∧-(m:Int)≤-x∧-x≤m:=⟨by omega,by omega,by omega⟩
 obtain ⟨b,t1,t2,t3,t4,t5,t6⟩:=gV hm k1 ha (by simp only; rw [hall a ha]; exact hr) hx2 hb
 simp only at t1 t2 t3 t4 t5 t6
 refine ⟨by rw [bS h.wr.fo (by rw [h.wr.len]; exact ha)]; exact hr,g1,k1,by rw [bS g1.wr.fo (by rw [g1.wr.len]; exact hv)]; exact g2 v hv,by rw [hall a ha]; exact hr,hall,hx,hb,b,t1,t2,t5,fun u hu=>by rw [t6 u hu,hall u hu],p,q,rfl,q1,q2,?_⟩
 have h1:=cV.1 (h.sy q x a (by rw [aQ]; exact q1) (by rw [aQ]; exact ha) (cV.2 q3))
 obtain ⟨d,d1,d2⟩:=h1
 obtain ⟨e,e1,e2⟩:=t4
 rw [hall a ha] at e1
 rw [d1] at e1
 obtain rfl:=Option.some.inj e1
 have hd:=((h.wr.wg hm).tp _ _ _ (by rw [aQ,hr]; exact ha) d1).2.1
 rw [aQ] at hd
 rw [hall _ hd,hall _ t2] at e2
 rw [← d2,e2]
theorem kQ {m most:Nat} (hm:m≤26) {s:CS} (h:cw m s) {v:Nat} (hv:v < s.1.length) {w:List Int} (hw:Lt m w) {s' : CS} (ht:rK m most s v w=some s') :
  cw m s'∧Ext m s s'∧fP (gN m s'.1) s'.2 v w v:=by
 obtain ⟨g1,g2⟩:=cU hm h hv
 have ex0:=eA (N:=s.1) h.wr hm (U':=aT s.2 v) g2
 have ev:dO s.2 v=rV s.2 v:=bS h.wr.fo (by rw [h.wr.len]; exact hv)
 have hle:=dP h.wr.fo v (by rw [h.wr.len]; exact hv)
 have hi:=dt h.wr.fo (v:=v) (by rw [h.wr.len]; exact hv)
 unfold rK at ht
 split at ht
 ·rename_i hn
  subst hn
  obtain rfl:=Option.some.inj ht
  exact ⟨g1,ex0,rfl⟩
 rename_i hn
 rw [ev] at ht
 obtain ⟨v1,hv1⟩:∃ v1,rV s.2 v=v1:=⟨_,rfl⟩
 rw [hv1] at ht hi hle
 have hv1l:v1 < s.1.length:=by omega
 have hr1:rV (aT s.2 v) v1=v1:=by rw [g2 v1 hv1l]; exact hi
 obtain ⟨f1,f2,f3,f4,p,f5,f6⟩:=jO hm w (aT s.2 v) v1 g1 hv1l hr1 hw
 generalize gE s.1 w (aT s.2 v) v1=F at ht f1 f2 f3 f4 f5 f6
 obtain ⟨U1,a,r⟩:=F
 simp only at ht f1 f2 f3 f4 f5 f6
 have ex1:Ext m (s.1,aT s.2 v) (s.1,U1):=eA (N:=s.1) g1.wr hm (U':=U1) f2
 have hra:rV U1 a=a:=by rw [f2 a f3]; exact f4
 cases hq:kT m most r (s.1,U1) a with
 | none=>rw [hq] at ht; cases ht
 | some q =>
  rw [hq] at ht
  simp only [Option.map_some,Option.some.injEq] at ht
  obtain ⟨k1,k2,k3,k4,k5,k6⟩:=mN hm r (s.1,U1) a q f1 f3 hra (fun z hz=>hw z (by rw [f5]; simp [hz])) hq
  have exq:=ex0.trans (ex1.trans k2)
  have hvq:rV q.1.2 v=rV q.1.2 v1:=exq.same v v1 hv hv1l (by rw [hv1]; exact hi.symm)
  have hl:s.1.length≤q.1.1.length:=exq.len
  have pq:fP (gN m q.1.1) q.1.2 v1 p a:=k2.oo (s:=(s.1,U1)) hv1l f3 (ex1.oo (s:=(s.1,aT s.2 v)) hv1l f3 f6)
  by_cases hrn:r=[]
  ·have hqe:=k5 hrn
   subst hqe
   subst hrn
   simp only [List.append_nil] at f5
   subst f5
   simp only at hvq k1 k3 k4 hl pq exq
   obtain ⟨c1,c2,c3,c4,c5,c6,c7,c8,b,c9,c10,c11,c12,p2,q2,c13,c14,c15,c16⟩:=s8 hm k1 hw hn (v:=v1) hv1l k3 k4 pq
   simp only at c1 c2 c3 c4 c5 c6 c8 c9 c10 c11 c12 c14 c15 c16
   unfold zA at ht
   simp only [c1,c4] at ht
   split at ht
   ·rename_i he
    subst ht
    have e3:Ext m (s.1,U1) (s.1,aT (aT U1 a) v1):=eA (N:=s.1) k1.wr hm c6
    refine ⟨c3,exq.trans e3,?_⟩
    have:=e3.oo (w:=w) (u:=v1) (v:=a) hv1l k3 pq
    exact this.mv (by rw [c6 v1 hv1l,c6 v hv]; exact hvq.symm) (by rw [c6 a k3,c6 v hv,k4,hvq]; exact he)
   rename_i he
   rw [c9,Int.toNat_natCast] at ht
   have e3:Ext m (s.1,U1) (s.1,gi s.1 (aT (aT U1 a) v1) a (-w.getLastD 0)):=eA (N:=s.1) k1.wr hm c12
   obtain ⟨l1,l2,l3,l4⟩:=ec hm c11 (a:=b) (b:=v1) c10 hv1l c7
   simp only at ht l1 l2 l3 l4
   rw [ht] at l1 l2 l3 l4
   have e4:=e3.trans l3
   refine ⟨l1,exq.trans e4,?_⟩
   have h1:=e4.oo (w:=p2) (u:=v1) (v:=q2) hv1l c14 c15
   have h2:rV s'.2 q2=rV s'.2 b:=e4.same q2 b c14 c10 c16
   have h3:fP (gN m s'.1) s'.2 v1 (p2++[w.getLastD 0]) v1:=fP.snoc (by rw [aQ,l2]; exact c14) (by rw [aQ,l2]; exact hv1l) (l4.mv h2.symm rfl) h1
   rw [← c13] at h3
   have h4:rV s'.2 v1=rV s'.2 v:=e4.same v1 v hv1l hv hvq.symm
   exact h3.mv h4 h4
  obtain ⟨p2,x,e1,e2,e3⟩:=k6 hrn
  unfold zA at ht
  rw [e2] at ht
  simp only at ht
  have hx:=hw x (by rw [f5,e1]; simp)
  obtain ⟨l1,l2,l3,l4⟩:=ec hm k1 (a:=q.2.1) (b:=v1) k3 (by omega) hx
  rw [ht] at l1 l2 l3 l4
  refine ⟨l1,exq.trans l3,?_⟩
  have h1:=l3.oo (w:=p) (u:=v1) (v:=a) (by omega) (Nat.lt_of_lt_of_le f3 k2.len) pq
  have h2:=l3.oo (w:=p2) (u:=a) (v:=q.2.1) (Nat.lt_of_lt_of_le f3 k2.len) k3 e3
  have h3:fP (gN m s'.1) s'.2 v1 (p++p2) q.2.1:=by
   have app:∀ {p:List Int} {u:Nat},fP (gN m s'.1) s'.2 u p a→fP (gN m s'.1) s'.2 u (p++p2) q.2.1:=by
    intro p
    induction p with
    | nil=>intro u h; exact h2.mv h.symm rfl
    | cons y p ih=>intro u ⟨q,a,b,c⟩; exact ⟨q,a,b,ih c⟩
   exact app h1
  have h5:fP (gN m s'.1) s'.2 v1 (p++p2++[x]) v1:=fP.snoc (by rw [aQ,l2]; exact k3) (by rw [aQ,l2]; omega) l4 h3
  rw [List.append_assoc,← e1,← f5] at h5
  have h4:rV s'.2 v1=rV s'.2 v:=l3.same v1 v (by omega) (by omega) hvq.symm
  exact h5.mv h4 h4
def kX (m most v:Nat):List (List Int)→CS→Option CS
 | [],s=>some s
 | w :: r,s=>if dO s.2 v=v then (rK m most (s.1,aT s.2 v) v w).bind (kX m most v r) else kX m most v r (s.1,aT s.2 v)
def iE (m most v:Nat):List Int→CS→Option CS
 | [],s=>some s
 | x :: r,s=>if dO s.2 v=v then
   if x=0 then iE m most v r (s.1,aT s.2 v) else
   if rg (s.1.getD v []) x < 0 then
    if s.1.length < most then iE m most v r (cJ m (br m (s.1,aT s.2 v)).1 (br m (s.1,aT s.2 v)).2 v x s.1.length) else none
   else iE m most v r (s.1,gi s.1 (aT s.2 v) v x)
  else some (s.1,aT s.2 v)
def re (m most:Nat):List (List Int)→CS→Option CS
 | [],s=>some s
 | w :: r,s=>(rK m most s 0 w).bind (re m most r)
def ju (m most:Nat) (rels:List (List Int)):Nat→Nat→CS→Option CS
 | 0,_,s=>some s
 | k + 1,v,s=>if v < s.1.length then ((kX m most v rels s).bind (iE m most v (iT m))).bind (ju m most rels k (v + 1)) else some s
def po (m most:Nat) (rels bb:List (List Int)):Option CS:=(re m most bb (br m ([],[]))).bind (ju m most rels (most + 1) 0)
theorem Ext.dead {m:Nat} {s t:CS} (e:Ext m s t) (h:cw m s) (k:cw m t) {v:Nat} (hv:v < s.1.length) (hd:rV s.2 v ≠ v):rV t.2 v ≠ v:=by
 have h1:=dP h.wr.fo v (by rw [h.wr.len]; exact hv)
 have hi:=dt h.wr.fo (v:=v) (by rw [h.wr.len]; exact hv)
 have h2:=e.same v (rV s.2 v) hv (by omega) hi.symm
 have h3:=dP k.wr.fo (rV s.2 v) (by rw [k.wr.len]; have:=e.len; omega)
 omega
theorem mh {m most:Nat} (hm:m≤26) {v:Nat} : ∀ (rels:List (List Int)) (s s' : CS),cw m s→v < s.1.length→(∀ w∈rels,Lt m w)→kX m most v rels s=some s' →
  cw m s'∧Ext m s s'∧(rV s'.2 v=v→∀ w∈rels,fP (gN m s'.1) s'.2 v w v)
 | [],s,s',h,hv,_,hq=>by
  cases hq
  exact ⟨h,Ext.refl _ _,fun _ w hw=>by cases hw⟩
 | w :: r,s,s',h,hv,hr,hq=>by
  obtain ⟨g1,g2⟩:=cU hm h hv
  have ex0:=eA (N:=s.1) h.wr hm (U':=aT s.2 v) g2
  have ev:dO s.2 v=rV s.2 v:=bS h.wr.fo (by rw [h.wr.len]; exact hv)
  unfold kX at hq
  rw [ev] at hq
  split at hq
  ·cases ht:rK m most (s.1,aT s.2 v) v w with
   | none=>rw [ht] at hq; cases hq
   | some s1 =>
    rw [ht] at hq
    obtain ⟨k1,k2,k3⟩:=kQ hm g1 hv (hr w (by simp)) ht
    have hv1:v < s1.1.length:=Nat.lt_of_lt_of_le hv k2.len
    obtain ⟨l1,l2,l3⟩:=mh hm r s1 s' k1 hv1 (fun w hw=>hr w (by simp [hw])) hq
    refine ⟨l1,ex0.trans (k2.trans l2),fun hv' w' hw'=>?_⟩
    rcases List.mem_cons.1 hw' with rfl | hw'
    ·exact l2.oo hv1 hv1 k3
    exact l3 hv' w' hw'
  rename_i hd
  obtain ⟨l1,l2,l3⟩:=mh hm r (s.1,aT s.2 v) s' g1 hv (fun w hw=>hr w (by simp [hw])) hq
  exact ⟨l1,ex0.trans l2,fun hv'=>absurd hv' ((ex0.trans l2).dead h l1 hv hd)⟩
theorem jS {m most:Nat} (hm:m≤26) {v:Nat} : ∀ (L:List Int) (s s' : CS),cw m s→v < s.1.length→(∀ x∈L,-(m:Int)≤x∧x≤m)→iE m most v L s=some s' →
  cw m s'∧Ext m s s'∧(rV s'.2 v=v→∀ x∈L,x ≠ 0→∃ b,b < s'.1.length∧Ed (gN m s'.1) s'.2 v x b)
 | [],s,s',h,hv,_,hq=>by
  cases hq
  exact ⟨h,Ext.refl _ _,fun _ w hw=>by cases hw⟩
 | x :: r,s,s',h,hv,hr,hq=>by
  obtain ⟨g1,g2⟩:=cU hm h hv
  have ex0:=eA (N:=s.1) h.wr hm (U':=aT s.2 v) g2
  have ev:dO s.2 v=rV s.2 v:=bS h.wr.fo (by rw [h.wr.len]; exact hv)
  obtain ⟨x1,x2⟩:=hr x (by simp)
  unfold iE at hq
  rw [ev] at hq
  split at hq
  ·rename_i hroot
   have hr1:rV (aT s.2 v) v=v:=by rw [g2 v hv]; exact hroot
   split at hq
   ·rename_i hx0
    obtain ⟨l1,l2,l3⟩:=jS hm r (s.1,aT s.2 v) s' g1 hv (fun w hw=>hr w (by simp [hw])) hq
    refine ⟨l1,ex0.trans l2,fun hv' y hy hy0=>?_⟩
    rcases List.mem_cons.1 hy with rfl | hy
    ·exact absurd hx0 hy0
    exact l3 hv' y hy hy0
   rename_i hx0
   split at hq
   ·split at hq
    ·obtain ⟨f1,f2,f3⟩:=lH hm g1
     obtain ⟨k1,k2,k3,k4⟩:=ec hm f1 (a:=v) (b:=s.1.length) (x:=x) (by simp only at f2; omega) (by simp only at f2; omega) ⟨hx0,x1,x2⟩
     have hv1:v < (cJ m (br m (s.1,aT s.2 v)).1 (br m (s.1,aT s.2 v)).2 v x s.1.length).1.length:=by rw [k2,f2]; simp only; omega
     have hb1:s.1.length < (cJ m (br m (s.1,aT s.2 v)).1 (br m (s.1,aT s.2 v)).2 v x s.1.length).1.length:=by rw [k2,f2]; simp
     obtain ⟨l1,l2,l3⟩:=jS hm r _ s' k1 hv1 (fun w hw=>hr w (by simp [hw])) hq
     refine ⟨l1,ex0.trans (f3.trans (k3.trans l2)),fun hv' y hy hy0=>?_⟩
     rcases List.mem_cons.1 hy with rfl | hy
     ·exact ⟨s.1.length,Nat.lt_of_lt_of_le hb1 l2.len,l2.ed _ _ _ hv1 hb1 k4⟩
     exact l3 hv' y hy hy0
    cases hq
   rename_i hd
   obtain ⟨b,t1,t2,t3,t4,t5,t6⟩:=gV hm g1 hv hr1 ⟨hx0,x1,x2⟩ hd
   simp only at t1 t2 t3 t4 t5 t6
   have ex1:=eA (N:=s.1) g1.wr hm (U':=gi s.1 (aT s.2 v) v x) t6
   obtain ⟨l1,l2,l3⟩:=jS hm r (s.1,gi s.1 (aT s.2 v) v x) s' t5 hv (fun w hw=>hr w (by simp [hw])) hq
   refine ⟨l1,ex0.trans (ex1.trans l2),fun hv' y hy hy0=>?_⟩
   rcases List.mem_cons.1 hy with rfl | hy
   ·exact ⟨b,Nat.lt_of_lt_of_le t2 (ex1.trans l2).len,(ex1.trans l2).ed _ _ _ hv t2 t4⟩
   exact l3 hv' y hy hy0
  rename_i hd
  cases hq
  exact ⟨g1,ex0,fun hv'=>absurd hv' (ex0.dead h g1 hv hd)⟩
theorem yo {m most:Nat} (hm:m≤26):∀ (w:List Int) (s:CS) (a:Nat) (q:CS × Nat × List Int),cw m s→a < s.1.length→Lt m w→s.1.length≤most→kT m most w s a=some q→q.1.1.length≤most
 | [],s,a,q,_,_,_,hl,hq=>by cases hq; exact hl
 | [x],s,a,q,_,_,_,hl,hq=>by cases hq; exact hl
 | x :: y :: r,s,a,q,h,ha,hw,hl,hq=>by
  unfold kT at hq
  split at hq
  ·rename_i hlt
   obtain ⟨t,ht⟩:∃ t,t=cJ m (br m s).1 (br m s).2 a x s.1.length:=⟨_,rfl⟩
   rw [← ht] at hq
   obtain ⟨_,_,_,k2,k3,k4,k5,k6,k7⟩:=l9 hm h ha (hw x (by simp)) ht
   exact yo hm (y :: r) _ _ q k5 k3 (fun z hz=>hw z (by simp [hz])) (by simp only; omega) hq
  cases hq
theorem sR {m most:Nat} (hm:m≤26) {s:CS} (h:cw m s) {v:Nat} (hv:v < s.1.length) {w:List Int} (hw:Lt m w) (hl:s.1.length≤most) {s' : CS} (ht:rK m most s v w=some s'):s'.1.length≤most:=by
 obtain ⟨g1,g2⟩:=cU hm h hv
 have ev:dO s.2 v=rV s.2 v:=bS h.wr.fo (by rw [h.wr.len]; exact hv)
 have hle:=dP h.wr.fo v (by rw [h.wr.len]; exact hv)
 have hi:=dt h.wr.fo (v:=v) (by rw [h.wr.len]; exact hv)
 unfold rK at ht
 split at ht
 ·cases ht; exact hl
 rename_i hn
 rw [ev] at ht
 obtain ⟨v1,hv1⟩:∃ v1,rV s.2 v=v1:=⟨_,rfl⟩
 rw [hv1] at ht hi hle
 have hv1l:v1 < s.1.length:=by omega
 have hr1:rV (aT s.2 v) v1=v1:=by rw [g2 v1 hv1l]; exact hi
 obtain ⟨f1,f2,f3,f4,p,f5,f6⟩:=jO hm w (aT s.2 v) v1 g1 hv1l hr1 hw
 generalize gE s.1 w (aT s.2 v) v1=F at ht f1 f2 f3 f4 f5 f6
 obtain ⟨U1,a,r⟩:=F
 simp only at ht f1 f2 f3 f4 f5 f6
 have hra:rV U1 a=a:=by rw [f2 a f3]; exact f4
 cases hq:kT m most r (s.1,U1) a with
 | none=>rw [hq] at ht; cases ht
 | some q =>
  rw [hq] at ht
  simp only [Option.map_some,Option.some.injEq] at ht
  have hwr:Lt m r:=fun z hz=>hw z (by rw [f5]; simp [hz])
  have hql:=yo hm r (s.1,U1) a q f1 f3 hwr hl hq
  obtain ⟨k1,k2,k3,k4,k5,k6⟩:=mN hm r (s.1,U1) a q f1 f3 hra hwr hq
  have hl2:s.1.length≤q.1.1.length:=k2.len
  by_cases hrn:r=[]
  ·have hqe:=k5 hrn
   subst hqe
   subst hrn
   simp only [List.append_nil] at f5
   subst f5
   have ex1:Ext m (s.1,aT s.2 v) (s.1,U1):=eA (N:=s.1) g1.wr hm (U':=U1) f2
   have pq:=ex1.oo (w:=w) (u:=v1) (v:=a) hv1l f3 f6
   obtain ⟨c1,c2,c3,c4,c5,c6,c7,c8,b,c9,c10,c11,c12,_⟩:=s8 hm k1 hw hn (v:=v1) hv1l k3 k4 pq
   simp only at c1 c9 c10 c11
   unfold zA at ht
   simp only [c1] at ht
   split at ht
   ·subst ht; exact hl
   rw [c9,Int.toNat_natCast] at ht
   rw [← ht,(ec hm c11 (a:=b) (b:=v1) c10 hv1l c7).2.1]
   exact hl
  obtain ⟨p2,x,e1,e2,e3⟩:=k6 hrn
  unfold zA at ht
  rw [e2] at ht
  simp only at ht
  have hx:=hw x (by rw [f5,e1]; simp)
  rw [← ht,(ec hm k1 (a:=q.2.1) (b:=v1) k3 (by omega) hx).2.1]
  exact hql
theorem tJ {m most:Nat} (hm:m≤26) {v:Nat} : ∀ (rels:List (List Int)) (s s' : CS),cw m s→v < s.1.length→(∀ w∈rels,Lt m w)→s.1.length≤most→kX m most v rels s=some s'→s'.1.length≤most
 | [],s,s',_,_,_,hl,hq=>by cases hq; exact hl
 | w :: r,s,s',h,hv,hr,hl,hq=>by
  obtain ⟨g1,g2⟩:=cU hm h hv
  unfold kX at hq
  split at hq
  ·cases ht:rK m most (s.1,aT s.2 v) v w with
   | none=>rw [ht] at hq; cases hq
   | some s1 =>
    rw [ht] at hq
    obtain ⟨k1,k2,k3⟩:=kQ hm g1 hv (hr w (by simp)) ht
    exact tJ hm r s1 s' k1 (Nat.lt_of_lt_of_le hv k2.len) (fun w hw=>hr w (by simp [hw])) (sR hm g1 hv (hr w (by simp)) hl ht) hq
  exact tJ hm r (s.1,aT s.2 v) s' g1 hv (fun w hw=>hr w (by simp [hw])) hl hq
theorem oq {m most:Nat} (hm:m≤26) {v:Nat} : ∀ (L:List Int) (s s' : CS),cw m s→v < s.1.length→(∀ x∈L,-(m:Int)≤x∧x≤m)→s.1.length≤most→iE m most v L s=some s'→s'.1.length≤most
 | [],s,s',_,_,_,hl,hq=>by cases hq; exact hl
 | x :: r,s,s',h,hv,hr,hl,hq=>by
  obtain ⟨g1,g2⟩:=cU hm h hv
  obtain ⟨x1,x2⟩:=hr x (by simp)
  have ev:dO s.2 v=rV s.2 v:=bS h.wr.fo (by rw [h.wr.len]; exact hv)
  unfold iE at hq
  split at hq
  ·rename_i hroot
   have hr1:rV (aT s.2 v) v=v:=by rw [g2 v hv,← ev]; exact hroot
   split at hq
   ·exact oq hm r (s.1,aT s.2 v) s' g1 hv (fun w hw=>hr w (by simp [hw])) hl hq
   rename_i hx0
   split at hq
   ·split at hq
    ·rename_i hlt
     obtain ⟨f1,f2,f3⟩:=lH hm g1
     obtain ⟨k1,k2,k3,k4⟩:=ec hm f1 (a:=v) (b:=s.1.length) (x:=x) (by simp only at f2; omega) (by simp only at f2; omega) ⟨hx0,x1,x2⟩
     simp only at f2
     exact oq hm r _ s' k1 (by rw [k2,f2]; omega) (fun w hw=>hr w (by simp [hw])) (by rw [k2,f2]; omega) hq
    cases hq
   rename_i hd
   obtain ⟨b,t1,t2,t3,t4,t5,t6⟩:=gV hm g1 hv hr1 ⟨hx0,x1,x2⟩ hd
   exact oq hm r (s.1,gi s.1 (aT s.2 v) v x) s' t5 hv (fun w hw=>hr w (by simp [hw])) hl hq
  cases hq; exact hl
def uS (m:Nat) (rels:List (List Int)) (s:CS) (u:Nat):Prop:=rV s.2 u=u→(∀ w∈rels,fP (gN m s.1) s.2 u w u)∧∀ x,x ≠ 0→-(m:Int)≤x→x≤m→∃ b,b < s.1.length∧Ed (gN m s.1) s.2 u x b
theorem uS.ext {m:Nat} {rels:List (List Int)} {s t:CS} {u:Nat} (d:uS m rels s u) (e:Ext m s t) (h:cw m s) (k:cw m t) (hu:u < s.1.length):uS m rels t u:=fun hr=>by
 by_cases hs:rV s.2 u=u
 ·obtain ⟨d1,d2⟩:=d hs
  exact ⟨fun w hw=>e.oo hu hu (d1 w hw),fun x h0 h1 h2=>let ⟨b,b1,b2⟩:=d2 x h0 h1 h2; ⟨b,Nat.lt_of_lt_of_le b1 e.len,e.ed _ _ _ hu b1 b2⟩⟩
 exact absurd hr (e.dead h k hu hs)
theorem vT {m most:Nat} (hm:m≤26) {rels:List (List Int)} (hr:∀ w∈rels,Lt m w):∀ (k v:Nat) (s s' : CS),cw m s→s.1.length≤most→most < v + k→(∀ u,u < v→u < s.1.length→uS m rels s u)→ju m most rels k v s=some s' →
  cw m s'∧Ext m s s'∧s'.1.length≤most∧∀ u,u < s'.1.length→uS m rels s' u
 | 0,v,s,s',h,hl,hk,hd,hq=>by
  cases hq
  exact ⟨h,Ext.refl _ _,hl,fun u hu=>hd u (by omega) hu⟩
 | k + 1,v,s,s',h,hl,hk,hd,hq=>by
  unfold ju at hq
  split at hq
  ·rename_i hv
   cases h1:kX m most v rels s with
   | none=>rw [h1] at hq; cases hq
   | some s1 =>
    rw [h1] at hq
    simp only [Option.bind_some] at hq
    obtain ⟨a1,a2,a3⟩:=mh hm rels s s1 h hv hr h1
    have al:=tJ hm rels s s1 h hv hr hl h1
    have hv1:v < s1.1.length:=Nat.lt_of_lt_of_le hv a2.len
    cases h2:iE m most v (iT m) s1 with
    | none=>rw [h2] at hq; cases hq
    | some s2 =>
     rw [h2] at hq
     simp only [Option.bind_some] at hq
     obtain ⟨b1,b2,b3⟩:=jS hm (iT m) s1 s2 a1 hv1 (fun x hx=>gU.1 hx) h2
     have bl:=oq hm (iT m) s1 s2 a1 hv1 (fun x hx=>gU.1 hx) al h2
     obtain ⟨c1,c2,c3,c4⟩:=vT hm hr k (v + 1) s2 s' b1 bl (by omega) (fun u hu hul=>by
      by_cases e:u=v
      ·subst e
       intro hroot
       refine ⟨fun w hw=>?_,fun x h0 h1 h2=>b3 hroot x (gU.2 ⟨h1,h2⟩) h0⟩
       by_cases hs:rV s1.2 u=u
       ·exact b2.oo hv1 hv1 (a3 hs w hw)
       exact absurd hroot (b2.dead a1 b1 hv1 hs)
      exact (hd u (by omega) (by omega)).ext (a2.trans b2) h b1 (by omega)) hq
     exact ⟨c1,a2.trans (b2.trans c2),c3,c4⟩
  cases hq
  exact ⟨h,Ext.refl _ _,hl,fun u hu=>hd u (by omega) hu⟩
def jv (t:List (List Int)) (a:Nat) (x:Int):Nat:=((t.getD a []).getD (cI x).toNat 0).toNat
def cb (t:List (List Int)):Nat→List Int→Nat
 | a,[]=>a
 | a,x :: w=>cb t (jv t a x) w
structure Tb (m:Nat) (t:List (List Int)):Prop where
 row:∀ r∈t,r.length=2 * m∧∀ d∈r,0≤d∧d < t.length
def BS:Nat→List Int→Option Nat
 | n,[]=>some n
 | n,d :: r=>if (n:Int) < d then none else BS (if d=n then n + 1 else n) r
def H9:Nat→Nat→List (List Int)→Prop
 | _,_,[]=>True
 | n,i,r :: rs=>i < n∧∃ n',BS n r=some n'∧H9 n' (i + 1) rs
structure eX (m:Nat) (t rels bb:List (List Int)):Prop where
 tb:Tb m t
 nx:H9 1 0 t
 und:∀ i,i < t.length→∀ x:Int,x ≠ 0→-(m:Int)≤x→x≤m→jv t (jv t i x) (-x)=i
 rel:∀ i,i < t.length→∀ w∈rels,cb t i w=i
 sub:∀ w∈bb,cb t 0 w=0
 rl:∀ w∈rels,Lt m w
 sl:∀ w∈bb,Lt m w
theorem Tb.at {m:Nat} {t:List (List Int)} (h:Tb m t) {a:Nat} (ha:a < t.length):(t.getD a []).length=2 * m∧∀ c,c < 2 * m→∃ d:Nat,(t.getD a []).getD c 0=(d:Int)∧d < t.length:=by
 have hm:t.getD a []∈t:=by rw [List.getD_eq_getElem?_getD,List.getElem?_eq_getElem ha]; exact List.getElem_mem ha
 obtain ⟨h1,h2⟩:=h.row _ hm
 refine ⟨h1,fun c hc=>?_⟩
 have:=h2 ((t.getD a []).getD c 0) (by rw [List.getD_eq_getElem?_getD (l:=t.getD a []),List.getElem?_eq_getElem (by omega)]; exact List.getElem_mem _)
 exact ⟨((t.getD a []).getD c 0).toNat,by omega,by omega⟩
theorem Tb.st {m:Nat} {t:List (List Int)} (h:Tb m t) {a:Nat} (ha:a < t.length) {x:Int} (hx:x ≠ 0∧-(m:Int)≤x∧x≤m):(t.getD a []).getD (cI x).toNat 0=(jv t a x:Int)∧jv t a x < t.length:=by
 obtain ⟨d,h1,h2⟩:=(h.at ha).2 (cI x).toNat (jy hx.1 hx.2.1 hx.2.2).2
 unfold jv
 rw [h1]
 exact ⟨by simp,by simpa using h2⟩
theorem mP {m:Nat} {t:List (List Int)} (h:Tb m t):∀ {w:List Int} {a:Nat},Lt m w→a < t.length→cb t a w < t.length
 | [],a,_,ha=>ha
 | x :: w,a,hw,ha=>mP (w:=w) h (fun y hy=>hw y (by simp [hy])) (h.st ha (hw x (by simp))).2
theorem gF (t:List (List Int)):∀ (v w:List Int) (a:Nat),cb t a (v++w)=cb t (cb t a v) w
 | [],_,_=>rfl
 | x :: v,w,a=>gF t v w (jv t a x)
theorem zt {m:Nat} {t:List (List Int)} (h:Tb m t) (hu:∀ i,i < t.length→∀ x:Int,x ≠ 0→-(m:Int)≤x→x≤m→jv t (jv t i x) (-x)=i) {o:List Int} {x:Int} {a:Nat} (ho:Lt m o) (hx:x ≠ 0∧-(m:Int)≤x∧x≤m) (ha:a < t.length):cb t a (push o x)=jv t (cb t a o) x:=by
 unfold push
 split
 ·rename_i hc
  obtain ⟨p,y,rfl⟩:∃ p y,o=p++[y]:=by
   have hne:o ≠ []:=by intro e; subst e; simp at hc
   exact ⟨o.dropLast,o.getLast hne,(List.dropLast_concat_getLast hne).symm⟩
  have e1:(p++[y]).take ((p++[y]).length - 1)=p:=by simp
  have e2:y = -x:=by
   simpa using hc
  have hpl:cb t a p < t.length:=mP h (fun z hz=>ho z (by simp [hz])) ha
  have hy:y ≠ 0∧-(m:Int)≤y∧y≤m:=ho y (by simp)
  have:=hu _ hpl y hy.1 hy.2.1 hy.2.2
  rw [gF]
  simp only [cb]
  rw [show x = -y by omega,this]
  first|rw [e1]|simp
 rw [gF]; rfl
theorem tP {m:Nat} {o:List Int} {x:Int} (ho:Lt m o) (hx:x ≠ 0∧-(m:Int)≤x∧x≤m):Lt m (push o x):=by
 unfold push
 split
 ·exact fun y hy=>ho y (List.mem_of_mem_take hy)
 intro y hy
 rcases List.mem_append.1 hy with h | h
 ·exact ho y h
 rw [List.mem_singleton] at h; subst h; exact hx
theorem pT {m:Nat} {t:List (List Int)} (h:Tb m t) (hu:∀ i,i < t.length→∀ x:Int,x ≠ 0→-(m:Int)≤x→x≤m→jv t (jv t i x) (-x)=i) {w:List Int} (hw:Lt m w) {a:Nat} (ha:a < t.length):cb t a (short w)=cb t a w:=by
 have:∀ (w o:List Int),Lt m w→Lt m o→cb t a (w.foldl push o)=cb t (cb t a o) w:=by
  intro w
  induction w with
  | nil=>intro o _ _; rfl
  | cons x w ih =>
   intro o hw ho
   have hx:=hw x (by simp)
   rw [List.foldl_cons,ih _ (fun y hy=>hw y (by simp [hy])) (tP ho hx),zt h hu ho hx ha]
   rfl
 have:=this w [] hw (fun x hx=>by simp at hx)
 exact this
theorem eY {m:Nat} {w:List Int} (hw:Lt m w):Lt m (short w):=by
 have:∀ (w o:List Int),Lt m w→Lt m o→Lt m (w.foldl push o):=by
  intro w
  induction w with
  | nil=>intro o _ ho; exact ho
  | cons x r ih=>exact fun o hw ho=>ih _ (fun y hy=>hw y (by simp [hy])) (tP ho (hw x (by simp)))
 exact this w [] hw (fun x hx=>by simp at hx)
def oh (s:CS) (v:Nat) (x:Int):Nat:=rV s.2 (rg (s.1.getD v []) x).toNat
def bQ (nb:Int→Nat) (q:List Nat × List Int) (y:Int):List Nat × List Int:=
 if nb y∈q.1 then (q.1,q.2++[(q.1.idxOf (nb y):Int)]) else (q.1++[nb y],q.2++[(q.1.length:Int)])
def dx (m:Nat):List Int:=(List.range (2 * m)).map fun k=>if k % 2=0 then ((k / 2 + 1:Nat):Int) else -((k / 2 + 1:Nat):Int)
def wB (s:CS) (m v:Nat) (L:List Nat):List Nat × List Int:=(dx m).foldl (bQ (oh s v)) (L,[])
def kj (s:CS) (m:Nat):Nat→Nat→List Nat→List (List Int)→List Nat × List (List Int)
 | 0,_,L,out=>(L,out)
 | k + 1,i,L,out=>if i < L.length then kj s m k (i + 1) (wB s m (L.getD i 0) L).1 (out++[(wB s m (L.getD i 0) L).2]) else (L,out)
def mf (m:Nat) (s:CS):List (List Int):=(kj s m (s.1.length + 1) 0 [rV s.2 0] []).2
theorem dd (m:Nat):(dx m).length=2 * m:=by simp [dx]
theorem mU {m k:Nat} (h:k < 2 * m):(dx m).getD k 0=if k % 2=0 then ((k / 2 + 1:Nat):Int) else -((k / 2 + 1:Nat):Int):=by
 unfold dx
 rw [List.getD_eq_getElem?_getD,List.getElem?_map,List.getElem?_range h]; rfl
theorem mG {m k:Nat} (h:k < 2 * m):(dx m).getD k 0 ≠ 0∧-(m:Int)≤(dx m).getD k 0∧(dx m).getD k 0≤m∧cI ((dx m).getD k 0)=k:=by
 rw [mU h]
 unfold cI
 split
 ·rw [if_pos (by omega)]; omega
 rw [if_neg (by omega)]; omega
theorem zy {m:Nat} {x:Int} (h:x∈dx m):x ≠ 0∧-(m:Int)≤x∧x≤m:=by
 obtain ⟨k,hk,rfl⟩:=List.getElem_of_mem h
 rw [dd] at hk
 have:=mG hk
 rw [List.getD_eq_getElem?_getD,List.getElem?_eq_getElem (by rw [dd]; exact hk)] at this
 exact ⟨this.1,this.2.1,this.2.2.1⟩
theorem BD {m:Nat} {x:Int} (h:x ≠ 0∧-(m:Int)≤x∧x≤m):(dx m).getD (cI x).toNat 0=x:=by
 have h1:=jy h.1 h.2.1 h.2.2
 have h2:=mG h1.2
 exact Bz h2.1 h.1 (by rw [h2.2.2.2]; omega)
structure LI (s:CS) (L:List Nat):Prop where
 nd:L.Nodup
 rt:∀ v∈L,v < s.1.length∧rV s.2 v=v
def Full (m:Nat) (s:CS):Prop:=∀ v,v < s.1.length→rV s.2 v=v→∀ x:Int,x ≠ 0→-(m:Int)≤x→x≤m→¬ rg (s.1.getD v []) x < 0
theorem ko {L:List Nat} {n:Nat} (h:L.Nodup) (hl:∀ x∈L,x < n):L.length≤n:=by
 have:=ni n L h hl
 exact this
theorem sJ {m:Nat} {s:CS} (h:cw m s) (hf:Full m s) {v:Nat} (hv:v < s.1.length) (hr:rV s.2 v=v) {x:Int} (hx:x ≠ 0∧-(m:Int)≤x∧x≤m):oh s v x < s.1.length∧rV s.2 (oh s v x)=oh s v x:=by
 have h1:=h.wr.rg hv (hf v hv hr x hx.1 hx.2.1 hx.2.2)
 have h2:=dP h.wr.fo (rg (s.1.getD v []) x).toNat (by rw [h.wr.len]; exact h1)
 have h3:=dt h.wr.fo (v:=(rg (s.1.getD v []) x).toNat) (by rw [h.wr.len]; exact h1)
 unfold oh
 exact ⟨by omega,h3⟩
theorem pB {s:CS} {nb:Int→Nat} {q:List Nat × List Int} {y:Int} (h:LI s q.1) (hy:nb y < s.1.length∧rV s.2 (nb y)=nb y):LI s (bQ nb q y).1∧(∃ Z,(bQ nb q y).1=q.1++Z)∧nb y∈(bQ nb q y).1∧(bQ nb q y).2=q.2++[((bQ nb q y).1.idxOf (nb y):Int)]:=by
 unfold bQ
 split
 ·rename_i hm
  exact ⟨h,⟨[],by simp⟩,hm,rfl⟩
 rename_i hm
 refine ⟨⟨?_,fun v hv=>?_⟩,⟨[nb y],rfl⟩,by simp,?_⟩
 ·rw [List.nodup_append]
  exact ⟨h.nd,by simp,fun a ha b hb e=>hm (by rw [List.mem_singleton] at hb; rw [← hb,← e]; exact ha)⟩
 ·rcases List.mem_append.1 hv with hv | hv
  ·exact h.rt v hv
  rw [List.mem_singleton] at hv; subst hv; exact hy
 simp only [List.append_cancel_left_eq,List.cons.injEq,and_true]
 rw [List.idxOf_append,if_neg hm]
 simp
theorem vD {L Z:List Nat} {u:Nat} (h:u∈L):(L++Z).idxOf u=L.idxOf u:=by rw [List.idxOf_append,if_pos h]
theorem oW {s:CS} {nb:Int→Nat} : ∀ (xs:List Int) (q:List Nat × List Int),LI s q.1→(∀ y∈xs,nb y < s.1.length∧rV s.2 (nb y)=nb y) →
  LI s (xs.foldl (bQ nb) q).1∧(∃ Z,(xs.foldl (bQ nb) q).1=q.1++Z)∧(∀ y∈xs,nb y∈(xs.foldl (bQ nb) q).1)∧(xs.foldl (bQ nb) q).2=q.2++xs.map (fun y=>((xs.foldl (bQ nb) q).1.idxOf (nb y):Int))
 | [],q,h,_=>⟨h,⟨[],by simp⟩,fun y hy=>by simp at hy,by simp⟩
 | y :: xs,q,h,hy=>by
  obtain ⟨a1,⟨Z1,a2⟩,a3,a4⟩:=pB h (hy y (by simp))
  obtain ⟨b1,⟨Z2,b2⟩,b3,b4⟩:=oW xs (bQ nb q y) a1 fun z hz=>hy z (by simp [hz])
  rw [List.foldl_cons]
  have hy2:nb y∈(xs.foldl (bQ nb) (bQ nb q y)).1:=by rw [b2]; exact List.mem_append_left _ a3
  refine ⟨b1,⟨Z1++Z2,by rw [b2,a2,List.append_assoc]⟩,fun z hz=>?_,?_⟩
  ·rcases List.mem_cons.1 hz with rfl | hz
   ·exact hy2
   exact b3 z hz
  rw [b4,a4,List.append_assoc,List.map_cons]
  congr 1
  rw [List.singleton_append]
  congr 1
  rw [b2,vD a3]
theorem xG {s:CS} {nb:Int→Nat} : ∀ (xs:List Int) (q:List Nat × List Int),LI s q.1→(∀ y∈xs,nb y < s.1.length∧rV s.2 (nb y)=nb y) →
  BS q.1.length ((xs.foldl (bQ nb) q).2.drop q.2.length)=some (xs.foldl (bQ nb) q).1.length
 | [],q,h,_=>by simp [BS]
 | y :: xs,q,h,hy=>by
  obtain ⟨a1,⟨Z1,a2⟩,a3,a4⟩:=pB h (hy y (by simp))
  have ih:=xG xs (bQ nb q y) a1 fun z hz=>hy z (by simp [hz])
  obtain ⟨b1,⟨Z2,b2⟩,b3,b4⟩:=oW xs (bQ nb q y) a1 fun z hz=>hy z (by simp [hz])
  rw [List.foldl_cons]
  have hdr:(xs.foldl (bQ nb) (bQ nb q y)).2.drop q.2.length=((bQ nb q y).1.idxOf (nb y):Int) :: (xs.foldl (bQ nb) (bQ nb q y)).2.drop (bQ nb q y).2.length:=by
   rw [b4,a4]
   simp
  rw [hdr,BS]
  by_cases hm:nb y∈q.1
  ·have e1:(bQ nb q y).1=q.1:=by unfold bQ; rw [if_pos hm]
   have hlt:=List.idxOf_lt_length_of_mem hm
   rw [e1] at ih ⊢
   rw [if_neg (by omega),if_neg (by omega)]
   exact ih
  have e1:(bQ nb q y).1=q.1++[nb y]:=by unfold bQ; rw [if_neg hm]
  have e2:(bQ nb q y).1.idxOf (nb y)=q.1.length:=by rw [e1,List.idxOf_append,if_neg hm]; simp
  rw [e2,if_neg (by omega),if_pos rfl]
  have e3:(bQ nb q y).1.length=q.1.length + 1:=by rw [e1]; simp
  rw [e3] at ih
  exact ih
theorem r6 {L Z:List Nat} {j:Nat} (h:j < L.length):(L++Z).getD j 0=L.getD j 0:=by
 rw [List.getD_eq_getElem?_getD,List.getElem?_append_left h,List.getD_eq_getElem?_getD]
theorem dh {L:List Nat} {j:Nat} (h:j < L.length):L.getD j 0∈L:=by
 rw [List.getD_eq_getElem?_getD,List.getElem?_eq_getElem h]; exact List.getElem_mem h
def iq (m:Nat) (s:CS) (L:List Nat) (out:List (List Int)) (i:Nat):Prop:=∀ j,j < i→out.getD j []=(dx m).map (fun y=>(L.idxOf (oh s (L.getD j 0) y):Int))∧∀ y∈dx m,oh s (L.getD j 0) y∈L
theorem iq.grow {m:Nat} {s:CS} {L Z:List Nat} {out:List (List Int)} {i:Nat} (h:iq m s L out i) (hi:i≤L.length):iq m s (L++Z) out i:=fun j hj=>by
 obtain ⟨h1,h2⟩:=h j hj
 rw [r6 (by omega)]
 refine ⟨?_,fun y hy=>List.mem_append_left _ (h2 y hy)⟩
 rw [h1]
 refine List.map_congr_left fun y hy=>?_
 rw [vD (h2 y hy)]
theorem qs {m:Nat} {s:CS} (h:cw m s) (hf:Full m s):∀ (k i:Nat) (L:List Nat) (out:List (List Int)),LI s L→out.length=i→i≤L.length→iq m s L out i→s.1.length + 1≤i + k →
  LI s (kj s m k i L out).1∧(∃ Z,(kj s m k i L out).1=L++Z)∧(kj s m k i L out).2.length=(kj s m k i L out).1.length∧iq m s (kj s m k i L out).1 (kj s m k i L out).2 (kj s m k i L out).1.length∧(∃ Y,(kj s m k i L out).2=out++Y∧H9 L.length i Y)
 | 0,i,L,out,hL,ho,hi,hr,hk=>by
  have:=ko hL.nd fun x hx=>(hL.rt x hx).1
  omega
 | k + 1,i,L,out,hL,ho,hi,hr,hk=>by
  unfold kj
  split
  ·rename_i hil
   obtain ⟨v,hv⟩:∃ v,L.getD i 0=v:=⟨_,rfl⟩
   obtain ⟨hv1,hv2⟩:=hL.rt v (hv ▸ dh hil)
   rw [hv]
   have hnb:∀ y∈dx m,oh s v y < s.1.length∧rV s.2 (oh s v y)=oh s v y:=fun y hy=>sJ h hf hv1 hv2 (zy hy)
   obtain ⟨a1,⟨Z,a2⟩,a3,a4⟩:=oW (dx m) (L,[]) hL hnb
   have a5:=xG (dx m) (L,[]) hL hnb
   obtain ⟨R,hR⟩:∃ R,wB s m v L=R:=⟨_,rfl⟩
   have hR2:(dx m).foldl (bQ (oh s v)) (L,[])=R:=hR
   rw [hR2] at a1 a2 a3 a4 a5
   simp only [List.nil_append] at a2 a4
   simp only [List.length_nil,List.drop_zero] at a5
   rw [hR]
   have hro:iq m s R.1 (out++[R.2]) (i + 1):=fun j hj=>by
    by_cases hji:j=i
    ·subst hji
     have e1:R.1.getD j 0=v:=by rw [a2,r6 hil,hv]
     rw [e1]
     refine ⟨?_,a3⟩
     rw [List.getD_eq_getElem?_getD,List.getElem?_append_right (by omega),ho,Nat.sub_self]
     exact a4
    have:=(hr.grow (Z:=Z) hi) j (by omega)
    rw [← a2] at this
    refine ⟨?_,this.2⟩
    rw [List.getD_eq_getElem?_getD,List.getElem?_append_left (by omega),← List.getD_eq_getElem?_getD]
    exact this.1
   have hi1:i + 1≤R.1.length:=by rw [a2,List.length_append]; omega
   obtain ⟨b1,⟨Z2,b2⟩,b3,b4,Y,b5,b6⟩:=qs h hf k (i + 1) R.1 (out++[R.2]) a1 (by simp [ho]) hi1 hro (by omega)
   refine ⟨b1,⟨Z++Z2,by rw [b2,a2,List.append_assoc]⟩,b3,b4,R.2 :: Y,by rw [b5,List.append_assoc]; rfl,hil,R.1.length,a5,b6⟩
  rename_i hil
  have hie:i=L.length:=by omega
  subst hie
  exact ⟨hL,⟨[],by simp⟩,ho,hr,[],by simp,trivial⟩
section
variable {m:Nat} {s:CS} {L:List Nat} {T:List (List Int)}
theorem qG {L:List Nat} {u:Nat} (h:u∈L):L.getD (L.idxOf u) 0=u:=by
 have hl:=List.idxOf_lt_length_of_mem h
 rw [List.getD_eq_getElem?_getD,List.getElem?_eq_getElem hl]
 exact List.getElem_idxOf hl
theorem jZ {L:List Nat} (h:L.Nodup) {i:Nat} (hi:i < L.length):L.idxOf (L.getD i 0)=i:=by
 obtain ⟨u,hu⟩:∃ u,L.getD i 0=u:=⟨_,rfl⟩
 have hm:u∈L:=hu ▸ dh hi
 have h2:=List.idxOf_lt_length_of_mem hm
 have h3:L[L.idxOf u]=u:=List.getElem_idxOf h2
 rw [List.getD_eq_getElem?_getD,List.getElem?_eq_getElem hi] at hu
 have h4:L[i]=u:=hu
 rw [List.getD_eq_getElem?_getD,List.getElem?_eq_getElem hi]
 simp only [Option.getD_some,h4]
 exact (List.getElem_inj h).1 (h3.trans h4.symm)
theorem ot (hr:iq m s L T L.length) {i:Nat} (hi:i < L.length) {x:Int} (hx:x ≠ 0∧-(m:Int)≤x∧x≤m):jv T i x=L.idxOf (oh s (L.getD i 0) x)∧oh s (L.getD i 0) x∈L:=by
 obtain ⟨h1,h2⟩:=hr i hi
 have hc:=jy hx.1 hx.2.1 hx.2.2
 have hg:=BD hx
 have hmem:x∈dx m:=by
  rw [← hg,List.getD_eq_getElem?_getD,List.getElem?_eq_getElem (by rw [dd]; exact hc.2)]; exact List.getElem_mem _
 refine ⟨?_,h2 x hmem⟩
 unfold jv
 rw [h1,List.getD_eq_getElem?_getD,List.getElem?_map,List.getElem?_eq_getElem (by rw [dd]; exact hc.2)]
 have:(dx m)[(cI x).toNat]'(by rw [dd]; exact hc.2)=x:=by
  rw [List.getD_eq_getElem?_getD,List.getElem?_eq_getElem (by rw [dd]; exact hc.2)] at hg
  exact hg
 simp [this]
theorem DI (hr:iq m s L T L.length) (hl:T.length=L.length):Tb m T:=⟨fun r hr'=>by
 obtain ⟨j,hj,rfl⟩:=List.getElem_of_mem hr'
 obtain ⟨h1,h2⟩:=hr j (by omega)
 rw [List.getD_eq_getElem?_getD,List.getElem?_eq_getElem hj] at h1
 simp only [Option.getD_some] at h1
 rw [h1]
 refine ⟨by simp [dd],fun d hd=>?_⟩
 obtain ⟨y,hy,rfl⟩:=List.mem_map.1 hd
 have:=List.idxOf_lt_length_of_mem (h2 y hy)
 omega⟩
theorem EW (h:cw m s) {u q:Nat} {x:Int} (hu:u < s.1.length) (hx:x ≠ 0∧-(m:Int)≤x∧x≤m) (he:Ed (gN m s.1) s.2 u x q):oh s (rV s.2 u) x=rV s.2 q:=by
 obtain ⟨d,h1,h2⟩:=he
 have hl:=dP h.wr.fo u (by rw [h.wr.len]; exact hu)
 rw [lW (by omega)] at h1
 unfold lF at h1
 split at h1
 ·obtain rfl:=Option.some.inj h1
  exact h2
 cases h1
theorem EV (h:cw m s) (hf:Full m s) {v:Nat} (hv:v < s.1.length) (hr:rV s.2 v=v) {x:Int} (hx:x ≠ 0∧-(m:Int)≤x∧x≤m):Ed (gN m s.1) s.2 v x (oh s v x):=by
 have h1:=hf v hv hr x hx.1 hx.2.1 hx.2.2
 refine ⟨rg (s.1.getD v []) x,?_,?_⟩
 ·rw [hr,lW hv]
  unfold lF
  rw [if_pos ⟨hx.1,hx.2.1,hx.2.2,h1⟩]
 have h2:=h.wr.rg hv h1
 exact (dt h.wr.fo (v:=(rg (s.1.getD v []) x).toNat) (by rw [h.wr.len]; exact h2)).symm
theorem C5 (h:cw m s) (hf:Full m s) {v:Nat} (hv:v < s.1.length) (hr:rV s.2 v=v) {x:Int} (hx:x ≠ 0∧-(m:Int)≤x∧x≤m):oh s (oh s v x) (-x)=v:=by
 obtain ⟨h1,h2⟩:=sJ h hf hv hr hx
 have e:=EV h hf hv hr hx
 have e2:=cV.1 (h.sy v x (oh s v x) (by rw [aQ]; exact hv) (by rw [aQ]; exact h1) (cV.2 e))
 have:=EW h h1 (x:=-x) ⟨by omega,by omega,by omega⟩ e2
 rw [h2,hr] at this
 exact this
theorem El (h:cw m s) (hf:Full m s) (hL:LI s L) (hr:iq m s L T L.length) {i:Nat} (hi:i < L.length) {x:Int} (hx:x ≠ 0∧-(m:Int)≤x∧x≤m):jv T (jv T i x) (-x)=i:=by
 obtain ⟨a1,a2⟩:=ot hr hi hx
 obtain ⟨v1,v2⟩:=hL.rt _ (dh hi)
 have hlt:=List.idxOf_lt_length_of_mem a2
 rw [a1]
 obtain ⟨b1,b2⟩:=ot hr hlt (x:=-x) ⟨by omega,by omega,by omega⟩
 rw [b1,qG a2,C5 h hf v1 v2 hx,jZ hL.nd hi]
theorem sI (h:cw m s) (hf:Full m s) (hL:LI s L) (hr:iq m s L T L.length):∀ (w:List Int) (a u v:Nat),a < L.length→u < s.1.length→Lt m w→rV s.2 u=L.getD a 0→fP (gN m s.1) s.2 u w v→cb T a w < L.length∧L.getD (cb T a w) 0=rV s.2 v
 | [],a,u,v,ha,hu,_,e,hp=>⟨ha,(show L.getD a 0=rV s.2 v from e.symm.trans hp)⟩
 | x :: w,a,u,v,ha,hu,hw,e,⟨q,q1,q2,q3⟩=>by
  rw [aQ] at q1
  have hx:=hw x (by simp)
  obtain ⟨a1,a2⟩:=ot hr ha hx
  have hlt:=List.idxOf_lt_length_of_mem a2
  have hn:=EW h hu hx q2
  rw [e] at hn
  refine sI h hf hL hr w _ q v (by rw [a1]; exact hlt) q1 (fun y hy=>hw y (by simp [hy])) ?_ q3
  rw [a1,qG a2,hn]
end
theorem qI {m:Nat} {s:CS} (h:cw m s) (h0:0 < s.1.length):rV s.2 0=0:=by
 have:=dP h.wr.fo 0 (by rw [h.wr.len]; exact h0)
 omega
theorem nA {m:Nat} {rels:List (List Int)} {s:CS} (h:cw m s) (hd:∀ u,u < s.1.length→uS m rels s u):Full m s:=fun v hv hr x h0 h1 h2=>by
 obtain ⟨b,b1,d,d1,d2⟩:=(hd v hv hr).2 x h0 h1 h2
 rw [hr,lW hv] at d1
 unfold lF at d1
 split at d1
 ·rename_i h; exact h.2.2.2
 cases d1
theorem Ds {m:Nat} {rels bb:List (List Int)} {s:CS} (h:cw m s) (h0:0 < s.1.length) (hd:∀ u,u < s.1.length→uS m (rels.map short) s u) (hs:∀ w∈bb,fP (gN m s.1) s.2 0 (short w) 0) (hr:∀ w∈rels,Lt m w) (hsl:∀ w∈bb,Lt m w):eX m (mf m s) rels bb∧0 < (mf m s).length∧(mf m s).length≤s.1.length:=by
 have hf:=nA h hd
 have hz:=qI h h0
 have hL0:LI s [rV s.2 0]:=⟨by simp,fun v hv=>by
  rw [List.mem_singleton] at hv
  subst hv
  rw [hz]; exact ⟨h0,hz⟩⟩
 obtain ⟨b1,⟨Z,b2⟩,b3,b4,Y,b5,b6⟩:=qs h hf (s.1.length + 1) 0 [rV s.2 0] [] hL0 rfl (by simp) (fun j hj=>by omega) (by omega)
 unfold mf
 generalize kj s m (s.1.length + 1) 0 [rV s.2 0] []=R at b1 b2 b3 b4 b5 b6
 obtain ⟨L,T⟩:=R
 simp only at b1 b2 b3 b4 b5 b6 ⊢
 have htb:=DI b4 b3
 have hund:∀ i,i < T.length→∀ x:Int,x ≠ 0→-(m:Int)≤x→x≤m→jv T (jv T i x) (-x)=i:=fun i hi x h1 h2 h3=>El h hf b1 b4 (by omega) ⟨h1,h2,h3⟩
 have hL0:0 < L.length:=by rw [b2]; simp
 have hg0:L.getD 0 0=0:=by rw [b2,hz]; rfl
 refine ⟨⟨htb,?_,hund,fun i hi w hw=>?_,fun w hw=>?_,hr,hsl⟩,by omega,?_⟩
 ·rw [b5]
  simpa using b6
 ·have hiL:i < L.length:=by omega
  obtain ⟨v1,v2⟩:=b1.rt _ (dh hiL)
  have hp:=(hd _ v1 v2).1 (short w) (List.mem_map.2 ⟨w,hw,rfl⟩)
  obtain ⟨c1,c2⟩:=sI h hf b1 b4 (short w) i _ _ hiL v1 (eY (hr w hw)) v2 hp
  rw [pT htb hund (hr w hw) hi] at c1 c2
  rw [v2] at c2
  have:=jZ b1.nd c1
  rw [c2,jZ b1.nd hiL] at this
  exact this.symm
 ·obtain ⟨c1,c2⟩:=sI h hf b1 b4 (short w) 0 0 0 hL0 h0 (eY (hsl w hw)) (by rw [hg0]; exact hz) (hs w hw)
  rw [pT htb hund (hsl w hw) (by omega)] at c1 c2
  have:=jZ b1.nd c1
  rw [c2,hz] at this
  have h2:=jZ b1.nd hL0
  rw [hg0] at h2
  omega
 rw [b3]
 exact ko b1.nd fun x hx=>(b1.rt x hx).1
open Go.Pv
theorem vd {m most:Nat} (hm:m≤26):∀ (bb:List (List Int)) (s s' : CS),cw m s→0 < s.1.length→s.1.length≤most→(∀ w∈bb,Lt m w)→re m most bb s=some s' →
  cw m s'∧Ext m s s'∧s'.1.length≤most∧∀ w∈bb,fP (gN m s'.1) s'.2 0 w 0
 | [],s,s',h,h0,hl,_,hq=>by cases hq; exact ⟨h,Ext.refl _ _,hl,fun w hw=>by cases hw⟩
 | w :: r,s,s',h,h0,hl,hr,hq=>by
  unfold re at hq
  cases ht:rK m most s 0 w with
  | none=>rw [ht] at hq; cases hq
  | some s1 =>
   rw [ht] at hq
   obtain ⟨k1,k2,k3⟩:=kQ hm h h0 (hr w (by simp)) ht
   have kl:=sR hm h h0 (hr w (by simp)) hl ht
   have h1:0 < s1.1.length:=Nat.lt_of_lt_of_le h0 k2.len
   obtain ⟨l1,l2,l3,l4⟩:=vd hm r s1 s' k1 h1 kl (fun w hw=>hr w (by simp [hw])) hq
   refine ⟨l1,k2.trans l2,l3,fun w' hw'=>?_⟩
   rcases List.mem_cons.1 hw' with rfl | hw'
   ·exact l2.oo h1 h1 k3
   exact l4 w' hw'
theorem xk {m:Nat} (hm:m≤26):cw m (br m ([],[])):=
 (lH (s:=([],[])) hm ⟨⟨rfl,fun v hv=>by simp at hv,fun r hr=>by simp at hr⟩,fun u x v hu=>by simp [gN] at hu⟩).1
theorem sq {m most:Nat} (hm:m≤26) (h1:1≤most) {rels bb:List (List Int)} (hr:∀ w∈rels,Lt m w) (hs:∀ w∈bb,Lt m w) {t:CS} (h:po m most rels bb=some t) :
  cw m t∧0 < t.1.length∧t.1.length≤most∧(∀ u,u < t.1.length→uS m rels t u)∧∀ w∈bb,fP (gN m t.1) t.2 0 w 0:=by
 unfold po at h
 have k0:=xk (m:=m) hm
 have kl:(br m ([],[])).1.length=1:=rfl
 cases hq:re m most bb (br m ([],[])) with
 | none=>rw [hq] at h; cases h
 | some s1 =>
  rw [hq] at h
  simp only [Option.bind_some] at h
  obtain ⟨a1,a2,a3,a4⟩:=vd hm bb _ s1 k0 (by omega) (by omega) hs hq
  have h0:0 < s1.1.length:=Nat.lt_of_lt_of_le (by omega) a2.len
  obtain ⟨b1,b2,b3,b4⟩:=vT hm hr (most + 1) 0 s1 t a1 a3 (by omega) (fun u hu=>by omega) h
  exact ⟨b1,Nat.lt_of_lt_of_le h0 b2.len,b3,b4,fun w hw=>b2.oo h0 h0 (a4 w hw)⟩
def oK (m:Nat) (rels bb:List (List Int)) (mo:Nat):Option (List (List Int)):=
 match po m (max (20 * mo) 20000) (rels.map short) (bb.map short) with
 | some t=>if mo < (mf m t).length then none else some (mf m t)
 | none=>none
theorem Ch {m mo:Nat} (hm:m≤26) {rels bb T:List (List Int)} (hr:∀ w∈rels,Lt m w) (hs:∀ w∈bb,Lt m w) (h:oK m rels bb mo=some T):eX m T rels bb∧0 < T.length∧T.length≤mo:=by
 unfold oK at h
 cases hc:po m (max (20 * mo) 20000) (rels.map short) (bb.map short) with
 | none=>rw [hc] at h; cases h
 | some t =>
  rw [hc] at h
  simp only at h
  split at h
  ·cases h
  rename_i hl
  obtain rfl:=Option.some.inj h
  obtain ⟨a1,a2,a3,a4,a5⟩:=sq hm (by omega) (fun w hw=>by
   obtain ⟨v,hv,rfl⟩:=List.mem_map.1 hw
   exact eY (hr v hv)) (fun w hw=>by
   obtain ⟨v,hv,rfl⟩:=List.mem_map.1 hw
   exact eY (hs v hv)) hc
  obtain ⟨b1,b2,b3⟩:=Ds a1 a2 a4 (fun w hw=>a5 _ (List.mem_map.2 ⟨w,hw,rfl⟩)) hr hs
  exact ⟨b1,b2,by omega⟩
theorem Fp:(oK 2 [[1,1,1],[2,2],[1,2,1,2]] [] 60).map List.length=some 6:=by decide +kernel
def eU (w k:Nat):List AV:=(List.range k).map fun i=>.sl (i + 3) 0 w
def qR (n:Int) (k m:Nat) (most:Int):aH:=.own [.p (.int .i64 n),.sl 1 0 k,.sl 2 0 m,.p (.int .i64 most)]
def bZ (r:List Int):aH:=.own (ol r)
def CB (n most:Int) (w:Nat) (N:List (List Int)) (U:List Int):az:=qR n N.length U.length most :: .own (eU w N.length) :: .own (ol U) :: N.map bZ
theorem cp (w k:Nat):(eU w k).length=k:=by simp [eU]
theorem gS {w k a:Nat} (h:a < k) (x:AV):(eU w k).getD a x = .sl (a + 3) 0 w:=by
 simp [eU,List.getD,List.getElem?_map,List.getElem?_range h]
theorem wP {w k L:Nat} (h:k + 3≤L):(eU w k).all (bj L)=true:=by
 rw [List.all_eq_true]
 intro x hx
 obtain ⟨i,hi,rfl⟩:=List.mem_map.1 hx
 have:=List.mem_range.1 hi
 simp [bj,bn]; omega
theorem Ab (w k:Nat):eU w k++[.sl (k + 3) 0 w]=eU w (k + 1):=by simp [eU,List.range_succ]
theorem aK {n most:Int} {w:Nat} {N:List (List Int)} {U:List Int} : (CB n most w N U).length=N.length + 3:=by simp [CB]
theorem qL {n most:Int} {w:Nat} {N:List (List Int)} {U:List Int} {L:Nat} (h:N.length + 3≤L):∀ b∈CB n most w N U,bD L b=true:=by
 intro b hb
 unfold CB at hb
 rcases List.mem_cons.1 hb with rfl | hb
 ·simp [qR,bD,bj,bn]; omega
 rcases List.mem_cons.1 hb with rfl | hb
 ·exact wP h
 rcases List.mem_cons.1 hb with rfl | hb
 ·exact fG _ _
 obtain ⟨f,_,rfl⟩:=List.mem_map.1 hb
 exact fG _ _
theorem gZ {n most:Int} {w:Nat} {N:List (List Int)} {U:List Int} {X:az} {L:Nat} (h:N.length + 3≤L) (hX:∀ b∈X,bD L b=true):∀ b∈(CB n most w N U++X),bD L b=true:=fun b hb=>by
 rcases List.mem_append.1 hb with hb | hb
 ·exact qL h b hb
 exact hX b hb
section
variable {N:List (List Int)} {U:List Int} {n most:Int} {w:Nat}
set_option maxHeartbeats 4000000 in
set_option maxRecDepth 20000 in
theorem Iu (hU:Fo U) (hl:U.length=N.length) (hk:N.length≤100000000) {v:Nat} (hv:v < N.length):zI Tryd.prog 46 [.ptr 0 0,.p (.int .i64 v)] (CB n most w N U) (.p (.int .i64 (dO U v:Nat))) (CB n most w N (aT U v)):=by
 unfold CB qR
 refine w6 ae Tryd.func46 rfl (by kernel_rfl) (by rw [Tryd.ntmps46]; exact Nat.le_add_left 2 _) ?_; rw [Tryd.ntmps46]; simp only [aR,cK,List.length_cons,List.length_nil,List.cons_append,List.nil_append,Nat.reduceAdd,Nat.zero_add]
 have hGl:(N.map bZ).length=N.length:=by simp
 have hXs:∀ b∈(.bf 0 0 :: .bf 1 1 :: .bf 2 2 :: aR 3 (N.map bZ).length:az),bD (N.length + 3 + (N.length + 3)) b=true:=fun b hb=>by
  have:(.bf 0 0 :: .bf 1 1 :: .bf 2 2 :: aR 3 (N.map bZ).length:az)=aR 0 (N.length + 3):=by rw [hGl]; rfl
  rw [this] at hb
  exact o8 (by omega) b hb
 have hXl:(.bf 0 0 :: .bf 1 1 :: .bf 2 2 :: aR 3 (N.map bZ).length:az).length=N.length + 3:=by simp [gO]
 generalize (.bf 0 0 :: .bf 1 1 :: .bf 2 2 :: aR 3 (N.map bZ).length:az)=X at hXs hXl ⊢
 have hHl:∀ U1:List Int,(.own [.p (.int .i64 n),.sl 1 0 N.length,.sl 2 0 U.length,.p (.int .i64 most)] :: .own (eU w N.length) :: .own (ol U1) :: (N.map bZ++X):az).length=N.length + 3 + (N.length + 3):=fun U1=>by simp [hXl]; omega
 have hHs:∀ U1:List Int,U1.length=U.length→∀ b∈(.own [.p (.int .i64 n),.sl 1 0 N.length,.sl 2 0 U.length,.p (.int .i64 most)] :: .own (eU w N.length) :: .own (ol U1) :: (N.map bZ++X):az),bD (.own [.p (.int .i64 n),.sl 1 0 N.length,.sl 2 0 U.length,.p (.int .i64 most)] :: .own (eU w N.length) :: .own (ol U1) :: (N.map bZ++X):az).length b=true:=fun U1 h1 b hb=>by
  rw [hHl]
  refine gZ (n:=n) (most:=most) (w:=w) (N:=N) (U:=U1) (X:=X) (by omega) hXs b ?_
  unfold CB qR
  rw [h1]
  simpa using hb
 refine qm ?_
 refine ab fun K hK=>aa ae ?_
 simp only [an,fl,gp,ak,simprocAttr]
 refine af trivial (hK _ ?_)<;>clear hK K
 refine qa (qm (ql ?_))
 refine aD (ι:=Nat × List Int) (fun x=>⟨41,[(0,.ptr 0 0),(1,.p (.int .i64 (x.1:Nat)))],.own [.p (.int .i64 n),.sl 1 0 N.length,.sl 2 0 U.length,.p (.int .i64 most)] :: .own (eU w N.length) :: .own (ol x.2) :: (N.map bZ++X)⟩) (fun x=>Fo x.2∧x.2.length=U.length∧x.1 < U.length∧pR (v + 1) U v=pR (x.1 + 1) x.2 x.1) (fun x=>x.1) (v,U) ⟨hU,rfl,by simp only; omega,rfl⟩ (List.range (.own [.p (.int .i64 n),.sl 1 0 N.length,.sl 2 0 U.length,.p (.int .i64 most)] :: .own (eU w N.length) :: .own (ol U) :: (N.map bZ++X):az).length) (dM rfl rfl (hHs U rfl) (by
  rw [hHl]
  simp [St.get,lk,bj,bn]; omega)) fun x hx=>?_
 obtain ⟨y,U1⟩:=x
 obtain ⟨x1,x2,x3,x4⟩:=hx
 simp only at x1 x2 x3 x4
 have hy:=x1 y (by omega)
 obtain ⟨p,hp⟩:=Int.eq_ofNat_of_zero_le hy.1
 obtain ⟨f1,f2,f3,f4⟩:=x1.half (v:=y) (by omega)
 have hpn:(U1.getD y 0).toNat=p:=by omega
 rw [hpn] at f1 f2 f3 f4
 obtain ⟨q,hq⟩:=Int.eq_ofNat_of_zero_le f4
 have hqn:(U1.getD p 0).toNat=q:=by omega
 obtain ⟨U2,hU2⟩:∃ U2,U1.set y (U1.getD p 0)=U2:=⟨_,rfl⟩
 have l2:U2.length=U.length:=by rw [← hU2,List.length_set]; exact x2
 have g2:U2.getD y 0=(q:Int):=by
  rw [← hU2,← hq,List.getD_eq_getElem?_getD,List.getElem?_set_self (by omega)]; rfl
 rw [hU2] at f1
 refine qm (qm ?_)
 refine ab fun K hK=>aa ae ?_
 simp only [an,fl,gp,ak,simprocAttr,bt (show y < U1.length by omega)]
 refine af ?_ (hK _ ?_)<;>clear hK K
 ·exact ⟨⟨by omega,by omega⟩,by omega⟩
 refine qa ?_
 refine aq rfl (fun hC1=>?_) (fun hC1=>?_)
 ·(try simp only [aE] at hC1)
  have hne:¬ U1.getD y 0=(y:Int):=by simpa using hC1
  refine qh (qa (ql (qm ?_)))
  refine aO mixed (by kernel_rfl) fun K hK=>aa ae ?_
  simp only [an,fl,gp,ak,simprocAttr,bt (show y < U1.length by omega),hp,Int.ofNat_eq_natCast,Int.toNat_natCast,bt (show p < U1.length by omega),cH,hU2]
  refine af ?_ (hK _ ?_)<;>clear hK K
  ·first|exact trivial|omega|(simp only [ah] at *; omega)|(simp [ah] at *; omega)|simp_all
  refine qa ?_
  refine ab fun K hK=>aa ae ?_
  simp only [an,fl,gp,ak,simprocAttr,bt (show y < U2.length by omega),g2]
  refine af ?_ (hK _ ?_)<;>clear hK K
  ·first|exact trivial|omega|(simp only [ah] at *; omega)|(simp [ah] at *; omega)|simp_all
  refine qd (qa ?_)
  have hst:pR (y + 1) U1 y=pR (q + 1) U2 q:=by
   rw [pR,if_neg hne,hpn,hU2,hqn]
   exact uH _ _ _ _ f1 (by omega) (by omega) (by omega)
  refine ⟨(q,U2),List.range (.own [.p (.int .i64 n),.sl 1 0 N.length,.sl 2 0 U.length,.p (.int .i64 most)] :: .own (eU w N.length) :: .own (ol U2) :: (N.map bZ++X):az).length,⟨f1,l2,by simp only; omega,by rw [x4,hst]⟩,by simp only; omega,dM rfl rfl (hHs U2 l2) (by
   rw [hHl]
   simp [St.get,lk,bj,bn]; omega)⟩
 (try simp only [aE] at hC1)
 have hey:U1.getD y 0=(y:Int):=by simpa using hC1
 have hst:pR (v + 1) U v=(y,U1):=by rw [x4,pR,if_pos hey]
 refine qj (qc (qc (qf (qa (qm ?_)))))
 refine ab fun K hK=>aa ae ?_
 simp only [an,fl,gp,ak,simprocAttr]
 refine af trivial (hK _ ?_)<;>clear hK K
 refine qa (qk ?_)
 simp only [Tryd.results46,eR,gq,dk,kR,bY,an,fl,gp,ak,simprocAttr]
 have e1:dO U v=y:=by rw [dO,hst]
 have e2:aT U v=U1:=by rw [aT,hst]
 rw [e1,e2,x2]
 exact ⟨List.range (.own [.p (.int .i64 n),.sl 1 0 N.length,.sl 2 0 U.length,.p (.int .i64 most)] :: .own (eU w N.length) :: .own (ol U1) :: (N.map bZ++X):az).length,rfl,rfl,dM rfl rfl (hHs U1 x2) (by simp)⟩
end
open Go.Pv
theorem jb {N:List (List Int)} {X:az} {i:Nat} (h:i < N.length):aA (N.map bZ++X) i=bZ (N.getD i []):=by
 rw [bX (by simpa using h),cA]
 simp [List.getD,List.getElem?_map,List.getElem?_eq_getElem h]
theorem FP {N:List (List Int)} {X:az} {i:Nat} (h:i < N.length) (f:List Int):aF (N.map bZ++X) i (bZ f)=(N.set i f).map bZ++X:=by
 rw [gQ,List.set_append_left _ _ (by simpa using h),List.map_set]
theorem du (N:List (List Int)):(N.map bZ).length=N.length:=by simp
theorem dm {n most:Int} {w:Nat} {N:List (List Int)} {U:List Int} : (CB n most w N U).all (bD (CB n most w N U).length)=true:=by
 rw [List.all_eq_true,aK]
 exact qL (Nat.le_refl _)
theorem eV {n most:Int} {w:Nat} {N:List (List Int)} {U:List Int} : (CB n most w N U).all cf=true:=by
 rw [List.all_eq_true]
 intro b hb
 unfold CB at hb
 simp only [List.mem_cons] at hb
 rcases hb with rfl | rfl | rfl | hb
 ·rfl
 ·rfl
 ·rfl
 obtain ⟨f,_,rfl⟩:=List.mem_map.1 hb; rfl
theorem ke:∀ {N N' : List (List Int)},N.length=N'.length→cQ (N.map bZ) (N'.map bZ)=true
 | [],[],_=>rfl
 | [],_ :: _,h=>by simp at h
 | _ :: _,[],h=>by simp at h
 | f :: r,g :: t,h=>by
  show cQ (r.map bZ) (t.map bZ)=true
  exact ke (by simpa using h)
theorem lj {n most:Int} {w:Nat} {N N' : List (List Int)} {U U' : List Int} {v:PV} (h:N'.length=N.length):EI (CB n most w N U).length (.p v) (CB n most w N U) (CB n most w N' U')=true:=by
 unfold EI
 have hm:cQ (CB n most w N U) (CB n most w N' U')=true:=ke h.symm
 rw [aK,aK,h,hm,eV]
 have:(CB n most w N' U').all (bD (N.length + 3))=true:=by
  rw [List.all_eq_true]
  exact qL (by omega)
 rw [this]
 simp [bj,bn]
theorem ri {x:Int} (hx : -1000≤x∧x≤1000):ct Tryd.prog 30 [.int .i64 x] (.int .i64 (cI x)):=by
 refine aV ae Tryd.func30 rfl (by kernel_rfl) (by rw [Tryd.ntmps30]; exact Nat.le_add_left 1 _) ?_; rw [Tryd.ntmps30]
 refine qm ?_
 refine ab fun K hK=>aa ae ?_
 simp only [an,fl,gp,ak,simprocAttr]
 refine af trivial (hK _ ?_)<;>clear hK K
 refine qa (qm (qm ?_))
 refine ab fun K hK=>aa ae ?_
 simp only [an,fl,gp,ak,simprocAttr]
 refine af trivial (hK _ ?_)<;>clear hK K
 refine qa ?_
 refine aq rfl (fun hC1=>?_) (fun hC1=>?_)
 ·(try simp only [aE] at hC1)
  have h:0 < x:=by simpa using hC1
  refine qm ?_
  refine ab fun K hK=>aa ae ?_
  simp only [an,fl,gp,ak,simprocAttr]
  refine af ?_ (hK _ ?_)<;>clear hK K
  ·first|exact trivial|omega|(simp only [ah] at *; omega)|(simp [ah] at *; omega)|simp_all
  refine qa (qk (qb ?_))
  simp only [Tryd.results30,bT,an,fl,gp,ak,simprocAttr]
  unfold cI
  first|rw [if_pos h]|rw [if_neg h]
 (try simp only [aE] at hC1)
 have h:¬ 0 < x:=by simpa using hC1
 refine qh (qa (qm ?_))
 refine ab fun K hK=>aa ae ?_
 simp only [an,fl,gp,ak,simprocAttr]
 refine af ?_ (hK _ ?_)<;>clear hK K
 ·first|exact trivial|omega|(simp only [ah] at *; omega)|(simp [ah] at *; omega)|simp_all
 refine qa (qk ?_)
 simp only [Tryd.results30,bT,an,fl,gp,ak,simprocAttr]
 unfold cI
 first|rw [if_pos h]|rw [if_neg h]
section
variable {N:List (List Int)} {U:List Int} {n most:Int} {w:Nat}
theorem zT {m:Nat} (h:WR m N U) (hk:N.length≤100000000) {v:Nat} (hv:v < N.length):zI Tryd.prog 46 [.ptr 0 0,.p (.int .i64 v)] (CB n most w N U) (.p (.int .i64 (dO U v:Nat))) (CB n most w N (aT U v)):=Iu h.fo h.len hk hv
theorem dT {m:Nat} {s:St} {all:Array Oper} {rest:List Oper} {K:St→Prop} {dst:Option Tmp} {ty:TypeId} {pos:String} {aft:Array Edge} {gd:Option (Nat × Bool)} {fo:Operand} {args:Array Operand} {ts:Array TypeId} {X:az}
  (h:WR m N U) (hk:N.length≤100000000) {v:Nat} (hv:v < N.length) (hfo:s.ev fo = .p (.fn 46 [])) (hg:a8 all s { dst:=dst,op:=.call { callee:=.value fo,args:=args,argTypes:=ts },type:=ty,pos:=pos,after:=aft,guard:=gd } = some true)
  (hH:s.H=CB n most w N U++X) (hargs:args.toList.map s.ev++([]:List PV).map .p=[.ptr 0 0,.p (.int .i64 v)]) (hd:ay s dst)
  (hK:dL Tryd.prog false all rest K (({ s with H:=CB n most w N (aT U v)++X } : St).put dst (.p (.int .i64 (dO U v:Nat))))) :
  dL Tryd.prog false all ({ dst:=dst,op:=.call { callee:=.value fo,args:=args,argTypes:=ts },type:=ty,pos:=pos,after:=aft,guard:=gd } :: rest) K s:=
 gI (zT h hk hv) hfo hg hH hargs (by rw [aK]; simp [bj,bn]) dm eV (lj rfl) hd hK
theorem rD {m:Nat} {s:St} {all:Array Oper} {rest:List Oper} {K:St→List I2→Prop} {acc:List I2} {dst:Option Tmp} {ty:TypeId} {pos:String} {aft:Array Edge} {gd:Option (Nat × Bool)} {fo:Operand} {args:Array Operand} {ts:Array TypeId} {X:az}
  (h:WR m N U) (hk:N.length≤100000000) {v:Nat} (hv:v < N.length) (hfo:s.ev fo = .p (.fn 46 [])) (hg:a8 all s { dst:=dst,op:=.call { callee:=.value fo,args:=args,argTypes:=ts },type:=ty,pos:=pos,after:=aft,guard:=gd } = some true)
  (hH:s.H=CB n most w N U++X) (hargs:args.toList.map s.ev++([]:List PV).map .p=[.ptr 0 0,.p (.int .i64 v)]) (hd:ay s dst)
  (hK:fE Tryd.prog all rest K (({ s with H:=CB n most w N (aT U v)++X } : St).put dst (.p (.int .i64 (dO U v:Nat)))) (acc++[⟨.ms ((List.range (CB n most w N U).length).zip (CB n most w N (aT U v))),.p (.int .i64 (dO U v:Nat)),.dead,false⟩])) :
  fE Tryd.prog all ({ dst:=dst,op:=.call { callee:=.value fo,args:=args,argTypes:=ts },type:=ty,pos:=pos,after:=aft,guard:=gd } :: rest) K s acc:=
 uD (zT h hk hv) hfo hg hH hargs (by rw [aK]; simp [bj,bn]) dm eV (lj rfl) hd hK
end
def Sc (k n0:Nat) (X:az) (n most:Int) (w:Nat) (sl:List (Nat × PV)) (N:List (List Int)) (U:List Int) (W:List E3):St:=
 ⟨134,(0,.ptr 0 0) :: (8,.sls (n0 + 1 + 1 + 1) 0 W.length 3) :: sl.map (fun p=>(p.1,.p p.2)),.own [.p (.int .i64 n),.sl 1 0 k,.sl 2 0 k,.p (.int .i64 most)] :: .own (eU w k) :: .own (ol U) :: (N.map bZ++(X++[.own (fw W)]))⟩
theorem eB {π:List Nat} {s:St} : ∀ {sl:List (Nat × PV)},(∀ p∈sl,s.get p.1 = .p p.2)→jr π (sl.map fun p=>(p.1,.p p.2)) s
 | [],_=>trivial
 | p :: r,h=>⟨h p (by simp),rfl,eB fun q hq=>h q (by simp [hq])⟩
theorem nX {k n0 q:Nat} {X:az} {n most:Int} {w:Nat} {sl:List (Nat × PV)} {N:List (List Int)} {U:List Int} {W:List E3} {s:St} {d:List AV} (hN:N.length=k) (hU:U.length=k) (hX:X.length=k + 3) (hn0:k + (k + 3)=n0) (hXs:∀ b∈X,bD (n0 + 3) b=true) (hn:s.n=134) (hq:n0 + 3≤q)
  (h0:∀ i,i < n0 + 3→aA s.H i=aA (CB n most w N U++X) i) (hd:aA s.H q = .own d) (hW:fw W=d.take (W.length * 3)) (g0:s.get 0 = .ptr 0 0) (g8:s.get 8 = .sls q 0 W.length 3) (hsl:∀ p∈sl,s.get p.1 = .p p.2):Le (List.range (n0 + 3)++[q]) (Sc k n0 X n most w sl N U W) s:=by
 have hBl:(CB n most w N U++X).length=n0 + 3:=by rw [List.length_append,aK,hX,hN]; omega
 have hBs:∀ b∈(CB n most w N U++X),bD (n0 + 3) b=true:=gZ (by omega) hXs
 have hmn:∀ b:aH,bD (n0 + 3) b=true→bD (n0 + 3 + 1) b=true:=fun b h=>by
  cases b with
  | own c=>exact List.all_eq_true.2 fun x hx=>zV (Nat.le_succ _) ((List.all_eq_true.1 h) x hx)
  | bf i j=>simp only [bD,decide_eq_true_eq] at h ⊢; omega
  | _=>rfl
 have hπ0:(List.range (n0 + 3)++[q]).getD 0 0=0:=by
  rw [List.getD_eq_getElem?_getD,List.getElem?_append_left (by simp)]
  simp
 have hπq:(List.range (n0 + 3)++[q]).getD (n0 + 1 + 1 + 1) 0=q:=by
  rw [List.getD_eq_getElem?_getD,List.getElem?_append_right (by simp)]
  simp
 refine zj (B:=CB n most w N U++X) (c:=fw W) (by rw [hn]; rfl) hBl ?_ (fun b hb=>hmn b (hBs b hb)) hq hBs h0 hd ?_ (HL _ _) ?_
 ·unfold Sc CB qR
  rw [hN,hU]
  simp
 ·rw [Gw,gB]; exact hW
 unfold Sc
 refine ⟨?_,?_,?_,?_,eB hsl⟩
 ·rw [g0]; simp only [Go.Pv.aY,bg,hπ0]
 ·simp [bj,bn]
 ·rw [g8]; simp only [Go.Pv.aY,bg,hπq]
 simp [bj,bn]
theorem iQ {k n0 i:Nat} {X R:az} {n most:Int} {w:Nat} {N:List (List Int)} {U:List Int} (hN:N.length=k) (hU:U.length=k) (hX:X.length=k + 3) (hn0:k + (k + 3)=n0) (hi:i < n0 + 3) :
  aA (.own [.p (.int .i64 n),.sl 1 0 k,.sl 2 0 k,.p (.int .i64 most)] :: .own (eU w k) :: .own (ol U) :: (N.map bZ++(X++R))) i=aA (CB n most w N U++X) i:=by
 have h:=bX (H:=CB n most w N U++X) (H2:=R) (j:=i) (by rw [List.length_append,aK,hX,hN]; omega)
 rw [← h]
 unfold CB qR
 rw [hN,hU]; simp
open Go.Pv
section
variable {N:List (List Int)} {U:List Int} {most:Int} {m:Nat}
theorem wh {r:List Int} {x:Int} (h:(cI x).toNat < r.length):r.getD (cI x).toNat 0=rg r x:=by
 unfold rg
 rw [List.getD_eq_getElem?_getD,List.getD_eq_getElem?_getD,List.getElem?_eq_getElem h]; rfl
set_option maxHeartbeats 4000000 in
set_option maxRecDepth 20000 in
theorem xp (hm:1≤m∧m≤6) (h:WR m N U) (hk:N.length≤100000000) {a b:Nat} {x:Int} (ha:a < N.length) (hb:b < N.length) (hx:x ≠ 0∧-(m:Int)≤x∧x≤m) :
  zI Tryd.prog 55 [.ptr 0 0,.p (.int .i64 a),.p (.int .i64 x),.p (.int .i64 b)] (CB m most (2 * m) N U) (.p (.tup [])) (CB m most (2 * m) (cJ m N U a x b).1 (cJ m N U a x b).2):=by
 obtain ⟨s1,s2,s3⟩:=nu h ha hb hx
 generalize cJ m N U a x b=Z at s1 s2 s3 ⊢
 have hW0:Ct m N.length [(b,-x,a),(a,x,b)]:=fun t ht=>by
  simp only [List.mem_cons,List.not_mem_nil,or_false] at ht
  rcases ht with rfl | rfl
  ·exact ⟨hb,ha,by simp only; omega,by simp only; omega,by simp only; omega⟩
  exact ⟨ha,hb,hx⟩
 unfold CB qR
 refine w6 ae Tryd.func55 rfl (by kernel_rfl) (by rw [Tryd.ntmps55]; exact Nat.le_add_left 4 _) ?_; rw [Tryd.ntmps55]; simp only [aR,cK,List.length_cons,List.length_nil,List.cons_append,List.nil_append,Nat.reduceAdd,Nat.zero_add]
 have hXl:(.bf 0 0 :: .bf 1 1 :: .bf 2 2 :: aR 3 (N.map bZ).length:az).length=N.length + 3:=by simp [gO]
 have hXs:∀ L,N.length + 3≤L→∀ b∈(.bf 0 0 :: .bf 1 1 :: .bf 2 2 :: aR 3 (N.map bZ).length:az),bD L b=true:=fun L hL b hb=>by
  have:(.bf 0 0 :: .bf 1 1 :: .bf 2 2 :: aR 3 (N.map bZ).length:az)=aR 0 (N.length + 3):=by rw [du]; rfl
  rw [this] at hb
  exact o8 (by omega) b hb
 generalize (.bf 0 0 :: .bf 1 1 :: .bf 2 2 :: aR 3 (N.map bZ).length:az)=X at hXl hXs ⊢
 refine qm ?_
 refine ab fun K hK=>xo 9 ?_
 simp only [List.take_succ_cons,List.take_zero,List.drop_succ_cons,List.drop_zero]
 refine aa ae ?_
 simp only [an,fl,gp,ak,simprocAttr]
 refine af ?_ ?_
 ·simp only [ah]; omega
 refine cB (uo (n:=2) (sz:=3) ae rfl rfl rfl rfl rfl rfl rfl (by repeat (first|exact trivial|constructor)) rfl (by decide)) rfl (show (26:Nat) < 134 by decide) (aa ae ?_)
 simp only [an,fl,gp,ak,simprocAttr]
 refine af trivial (hK _ ?_)<;>clear hK K
 refine qa (ql ?_)
 obtain ⟨n0,hn0⟩:∃ n0,N.length + (N.length + 3)=n0:=⟨_,rfl⟩
 have gR0:∀ (N' : List (List Int)) (b:aH) (R:az),N'.length=N.length→aA (N'.map bZ++(X++(b :: R))) n0=b:=fun N' b R h=>by
  rw [← List.append_assoc,bc (by rw [List.length_append,du,hXl]; omega)]
  rw [show n0 - (N'.map bZ++X).length=0 by rw [List.length_append,du,hXl]; omega]; rfl
 have gR1:∀ (N' : List (List Int)) (b c:aH) (R:az),N'.length=N.length→aA (N'.map bZ++(X++(b :: c :: R))) (n0 + 1)=c:=fun N' b c R h=>by
  rw [← List.append_assoc,bc (by rw [List.length_append,du,hXl]; omega)]
  rw [show n0 + 1 - (N'.map bZ++X).length=1 by rw [List.length_append,du,hXl]; omega]; rfl
 have gS1:∀ (N' : List (List Int)) (b c d:aH) (R:az),N'.length=N.length→aF (N'.map bZ++(X++(b :: c :: R))) (n0 + 1) d=N'.map bZ++(X++(b :: d :: R)):=fun N' b c d R h=>by
  rw [← List.append_assoc,gQ,List.set_append_right _ _ (by rw [List.length_append,du,hXl]; omega)]
  rw [show n0 + 1 - (N'.map bZ++X).length=1 by rw [List.length_append,du,hXl]; omega,List.append_assoc]; rfl
 have lR:∀ (N' : List (List Int)) (R:az),N'.length=N.length→(N'.map bZ++(X++R)).length=n0 + R.length:=fun N' R h=>by
  rw [List.length_append,List.length_append,du,hXl]; omega
 have hXs3:=hXs (n0 + 3) (by omega)
 have hNX:(N.map bZ++X).length=n0:=by rw [List.length_append,du,hXl]; exact hn0
 rw [hNX,List.append_assoc]
 refine aD (ι:=Nat × List (List Int) × List Int × List E3) (fun q=>Sc N.length n0 X m most (2 * m) [] q.2.1 q.2.2.1 q.2.2.2.reverse) (fun q=>WR m q.2.1 q.2.2.1∧q.2.1.length=N.length∧Ct m N.length q.2.2.2∧mS m N.length q.2.2.1 q.2.2.2≤N.length * (4 * m + 3) + 2∧jW m q.1 q.2.1 q.2.2.1 q.2.2.2=some Z) (fun q=>q.1) (N.length * (4 * m + 3) + 2,N,U,[(b,-x,a),(a,x,b)]) ⟨h,rfl,hW0,by
   have:=Nat.mul_le_mul_right (4 * m + 3) (EJ U N.length)
   unfold mS
   simp only [List.length_cons,List.length_nil]; omega,s1⟩ (List.range (n0 + 3)++[n0 + 3]) (nX (d:=fw [(a,x,b),(b,-x,a)]) rfl h.len hXl hn0 hXs3 rfl (Nat.le_refl _) (fun i hi=>by
   simp only [h.len]; exact iQ rfl h.len hXl hn0 hi) (gR0 N _ [] rfl) (List.take_of_length_le (Nat.le_refl _)).symm rfl rfl (fun p hp=>by cases hp)) fun q hq=>?_
 obtain ⟨j,N1,U1,S1⟩:=q
 obtain ⟨w1,l1,o1,bd,sf⟩:=hq
 simp only at w1 l1 o1 bd sf
 show Holds _ _ _ (Sc N.length n0 X m most (2 * m) [] N1 U1 S1.reverse)
 unfold Sc
 refine qm (qm ?_)
 refine ab fun K hK=>aa ae ?_
 simp only [an,fl,gp,ak,simprocAttr]
 refine ao ?_ (cB (mZ ae rfl rfl rfl rfl) rfl (by simp only [ay,Nat.reduceLT]) (aa ae ?_))
 ·first|exact trivial|omega|(simp only [ah] at *; omega)|(simp [ah] at *; omega)|simp_all
 simp only [an,fl,gp,ak,simprocAttr]
 refine af trivial (hK _ ?_)<;>clear hK K
 refine qa ?_
 refine aq rfl (fun hC1=>?_) (fun hC1=>?_)
 ·(try simp only [aE] at hC1)
  have hne:S1 ≠ []:=fun e=>by subst e; simp at hC1
  obtain ⟨t,W,rfl⟩:∃ t W,S1=t :: W:=by
   cases S1 with
   | nil=>exact absurd rfl hne
   | cons t W=>exact ⟨t,W,rfl⟩
  obtain ⟨c1,y,c2⟩:=t
  obtain ⟨j,rfl⟩:∃ j',j=j' + 1:=by
   cases j with
   | zero=>simp [jW] at sf
   | succ j=>exact ⟨j,rfl⟩
  have so:=tw w1 (by rw [l1]; exact o1)
  obtain ⟨n,hn⟩:∃ n,W.length=n:=⟨_,rfl⟩
  have hrv:((c1,y,c2) :: W).reverse=W.reverse++[(c1,y,c2)]:=by simp
  rw [hrv] at *
  have hl1:(W.reverse++[(c1,y,c2)]).length=n + 1:=by rw [List.length_append,List.length_reverse,hn]; rfl
  have hsub:((n + 1:Nat):Int) - 1=(n:Int):=by omega
  have hfl:=CP W.reverse c1 c2 y
  rw [List.length_reverse,hn] at hfl
  obtain ⟨hc1,hc2,hy⟩:=o1 (c1,y,c2) (by simp)
  simp only at hc1 hc2 hy
  have hnb:n≤2700000100:=by
   have h1:(4 * m + 3)≤27:=by omega
   have h2:=Nat.mul_le_mul hk h1
   unfold mS at bd
   rw [List.length_cons,hn] at bd
   omega
  rw [hl1]
  refine qh (qa (ql (qm ?_)))
  refine ab fun K hK=>aa ae ?_
  simp only [an,fl,gp,ak,simprocAttr,hsub,hfl,gR0 N1 _ _ l1,gR1 N1 _ _ _ l1,gS1 N1 _ _ _ _ l1,lR N1 _ l1,List.append_assoc,Int.toNat_natCast,Nat.zero_add]
  refine ao ?_ (cB (mZ ae rfl rfl rfl rfl) rfl (by simp only [ay,Nat.reduceLT]) (aa ae ?_))
  ·exact trivial
  simp only [an,fl,gp,ak,simprocAttr,hsub,hfl,gR0 N1 _ _ l1,gR1 N1 _ _ _ l1,gS1 N1 _ _ _ _ l1,lR N1 _ l1,List.append_assoc,Int.toNat_natCast,Nat.zero_add]
  refine ao ?_ (cB (zG ae rfl rfl rfl rfl rfl rfl rfl (by omega) (by omega)) rfl (by simp only [ay,Nat.reduceLT]) (aa ae ?_))
  ·simp only [ah]; omega
  simp only [an,fl,gp,ak,simprocAttr,hsub,hfl,gR0 N1 _ _ l1,gR1 N1 _ _ _ l1,gS1 N1 _ _ _ _ l1,lR N1 _ l1,List.append_assoc,Int.toNat_natCast,Nat.zero_add]
  refine af ?_ (hK _ ?_)<;>clear hK K
  ·rw [gB,hl1]; omega
  refine qa (qm ?_)
  refine ab fun K hK=>aa ae ?_
  simp only [an,fl,gp,ak,simprocAttr,hsub,Int.toNat_natCast]
  refine ao ?_ (cB (mZ ae rfl rfl rfl rfl) rfl (by simp only [ay,Nat.reduceLT]) (aa ae ?_))
  ·exact trivial
  simp only [an,fl,gp,ak,simprocAttr,hsub,Int.toNat_natCast]
  refine ao ?_ (cB (y7 ae rfl rfl rfl rfl rfl rfl rfl (by omega) (by omega) (by omega)) rfl (by simp only [ay,Nat.reduceLT]) (aa ae ?_))
  ·simp only [ah]; omega
  simp only [an,fl,gp,ak,simprocAttr,hsub,Int.toNat_natCast]
  refine af ?_ (hK _ ?_)<;>clear hK K
  ·trivial
  refine qa (qm ?_)
  refine er (n0 + 1 + 1 + 1 + 1) (gR1 N1 _ _ _ l1) rfl ?_
  simp only [aF,gS1 N1 _ _ _ _ l1]
  refine sB 9 (p:=0≤3) (pv:=.ptr [.int .i64 c1,.int .i64 y,.int .i64 c2]) (by
   show bH _ (.ptr (n0 + 1 + 1 + 1 + 1) 0)=_
   simp only [bH,cg,aA,gR1 N1 _ _ _ l1]
   rfl) (by decide) ?_
  have hCBk:∀ (U2:List Int) (Y:az),U2.length=N.length→CB m most (2 * m) N1 U2++Y = .own [.p (.int .i64 m),.sl 1 0 N.length,.sl 2 0 N.length,.p (.int .i64 most)] :: .own (eU (2 * m) N.length) :: .own (ol U2) :: (N1.map bZ++Y):=fun U2 Y h=>by
   unfold CB qR; rw [l1,h]; rfl
  obtain ⟨U2,hU2⟩:∃ U2,aT U1 c1=U2:=⟨_,rfl⟩
  have w2:WR m N1 U2:=hU2 ▸ w1.of (by omega)
  obtain ⟨U3,hU3⟩:∃ U3,aT U2 c2=U3:=⟨_,rfl⟩
  have w3:WR m N1 U3:=hU3 ▸ w2.of (by omega)
  obtain ⟨p,hp⟩:∃ p,dO U1 c1=p:=⟨_,rfl⟩
  obtain ⟨q,hq⟩:∃ q,dO U2 c2=q:=⟨_,rfl⟩
  have hpl:p < N.length:=by
   rw [← hp,bS w1.fo (by rw [w1.len]; omega)]
   have:=dP w1.fo c1 (by rw [w1.len]; omega)
   omega
  have hql:q < N.length:=by
   rw [← hq,bS w2.fo (by rw [w2.len]; omega)]
   have:=dP w2.fo c2 (by rw [w2.len]; omega)
   omega
  have hlen1:U1.length=N.length:=by rw [w1.len]; exact l1
  have hlen2:U2.length=N.length:=by rw [w2.len]; exact l1
  have hlen3:U3.length=N.length:=by rw [w3.len]; exact l1
  refine cZ mixed fun K hK=>aM ae ?_
  simp only [lP,an,fl,gp,ak,simprocAttr]
  refine bw ?_ (rD (U:=U1) (X:=X++[.own (fw (W.reverse++[(c1,y,c2)])),.fro [.int .i64 c1,.int .i64 y,.int .i64 c2]]) w1 (by omega) (v:=c1) (by omega) rfl rfl (hCBk _ _ hlen1).symm rfl (by simp only [ay,Nat.reduceLT]) (aM ae ?_))
  ·exact trivial
  simp only [hU2,hp,hCBk U2 _ hlen2,lP,an,fl,gp,ak,simprocAttr]
  refine bw ?_ (rD (U:=U2) (X:=X++[.own (fw (W.reverse++[(c1,y,c2)])),.fro [.int .i64 c1,.int .i64 y,.int .i64 c2]]) w2 (by omega) (v:=c2) (by omega) rfl rfl (hCBk _ _ hlen2).symm rfl (by simp only [ay,Nat.reduceLT]) (aM ae ?_))
  ·exact trivial
  simp only [hU3,hq,hCBk U3 _ hlen3,lP,an,fl,gp,ak,simprocAttr]
  refine db ?_ (hK _ _ (BY (by kernel_rfl)) ?_)<;>clear hK K
  ·exact trivial
  refine qa (qm ?_)
  have hrow:=(w1.at (a:=p) (by omega)).1
  obtain ⟨cy,hcy⟩:∃ c,(cI y).toNat=c:=⟨_,rfl⟩
  obtain ⟨y1,y2⟩:=jy (n:=m) hy.1 hy.2.1 hy.2.2
  have hcyI:cI y=(cy:Int):=by omega
  have hrgd:(N1.getD p []).getD cy 0=rg (N1.getD p []) y:=by rw [← hcy]; exact wh (by omega)
  have gM:∀ Y:az,aA (N1.map bZ++Y) p=bZ (N1.getD p []):=fun Y=>jb (by omega)
  obtain ⟨rp,hrp⟩:∃ r,N1.getD p []=r:=⟨_,rfl⟩
  rw [hrp] at hrow hrgd gM
  obtain ⟨u,hu⟩:∃ u,rg rp y=u:=⟨_,rfl⟩
  rw [hu] at hrgd
  refine aO mixed (by kernel_rfl) fun K hK=>aa ae ?_
  simp only [an,fl,gp,ak,simprocAttr,gS hpl,gM,bZ,Int.toNat_natCast,cp,Int.ofNat_eq_natCast,hcyI,bt (show cy < rp.length by omega),hrgd]
  refine ao ?_ (au (ri (by omega)) rfl rfl rfl (by simp only [ay,Nat.reduceLT]) (by repeat (first|exact trivial|constructor)) (aa ae ?_))
  ·exact ⟨⟨by omega,by omega⟩,hpl⟩
  simp only [an,fl,gp,ak,simprocAttr,gS hpl,gM,bZ,Int.toNat_natCast,cp,Int.ofNat_eq_natCast,hcyI,bt (show cy < rp.length by omega),hrgd]
  refine af ?_ (hK _ ?_)<;>clear hK K
  ·first|exact trivial|omega|(simp only [ah] at *; omega)|(simp [ah] at *; omega)|simp_all
  refine qa (qm (qm ?_))
  refine ab fun K hK=>aa ae ?_
  simp only [an,fl,gp,ak,simprocAttr]
  refine af trivial (hK _ ?_)<;>clear hK K
  refine qa ?_
  refine aq rfl (fun hC2=>?_) (fun hC2=>?_)
  ·(try simp only [aE] at hC2)
   have hf:u < 0:=by simpa using hC2
   have hse:eP m N1 U1 (c1,y,c2) W=(N1.set p (rp.set cy (q:Nat)),U3,W):=by
    unfold eP
    simp only [hp,hU2,hq,hU3,hrp,hu,hcy]
    rw [if_pos hf]
   refine qm ?_
   refine aO mixed (by kernel_rfl) fun K hK=>aa ae ?_
   simp only [an,fl,gp,ak,simprocAttr,gS hpl,gM,bZ,Int.toNat_natCast,cp,Int.ofNat_eq_natCast,hcyI,bt (show cy < rp.length by omega),cH]
   refine ao ?_ (au (ri (by omega)) rfl rfl rfl (by simp only [ay,Nat.reduceLT]) (by repeat (first|exact trivial|constructor)) (aa ae ?_))
   ·exact ⟨⟨by omega,by omega⟩,hpl⟩
   simp only [an,fl,gp,ak,simprocAttr,gS hpl,gM,bZ,Int.toNat_natCast,cp,Int.ofNat_eq_natCast,hcyI,bt (show cy < rp.length by omega),cH]
   refine af ?_ (hK _ ?_)<;>clear hK K
   ·first|exact trivial|omega|(simp only [ah] at *; omega)|(simp [ah] at *; omega)|simp_all
   refine qa (qj (qc (qf (qa ?_))))
   have hM:aH.own (ol (rp.set cy (q:Int)))=bZ (rp.set cy (q:Int)):=rfl
   rw [hM,FP (by omega)]
   rw [hse] at so
   have sf' : jW m j (N1.set p (rp.set cy (q:Int))) U3 W=some Z:=by
    have:jW m (j + 1) N1 U1 ((c1,y,c2) :: W)=jW m j (eP m N1 U1 (c1,y,c2) W).1 (eP m N1 U1 (c1,y,c2) W).2.1 (eP m N1 U1 (c1,y,c2) W).2.2:=rfl
    rw [this,hse] at sf
    exact sf
   simp only at so
   rw [l1] at so
   obtain ⟨so1,so2,so3,so4⟩:=so
   refine ⟨(j,N1.set p (rp.set cy (q:Int)),U3,W),List.range (n0 + 3)++[n0 + 3],⟨so1,so2,so3,by simp only; omega,sf'⟩,by simp only; omega,?_⟩
   refine nX (d:=fw (W.reverse++[(c1,y,c2)])) so2 hlen3 hXl hn0 hXs3 rfl (Nat.le_refl _) (fun i hi=>?_) (gR0 _ _ _ so2) (tE _ _).symm rfl (by rw [List.length_reverse,hn]; rfl) (fun p hp=>by cases hp)
   exact iQ so2 hlen3 hXl hn0 hi
  (try simp only [aE] at hC2)
  have hu0:¬ u < 0:=by simpa using hC2
  obtain ⟨d,rfl⟩:=Int.eq_ofNat_of_zero_le (show 0≤u by omega)
  have hdl:d < N.length:=by
   have:=w1.rg (a:=p) (x:=y) (by omega) (by rw [hrp,hu]; omega)
   rw [hrp,hu] at this
   omega
  try simp only [Int.ofNat_eq_natCast]
  obtain ⟨U4,hU4⟩:∃ U4,aT U3 d=U4:=⟨_,rfl⟩
  have w4:WR m N1 U4:=hU4 ▸ w3.of (by omega)
  have hlen4:U4.length=N.length:=by rw [w4.len]; exact l1
  obtain ⟨r,hr⟩:∃ r,dO U3 d=r:=⟨_,rfl⟩
  have hrl:r < N.length:=by
   rw [← hr,bS w3.fo (by rw [w3.len]; omega)]
   have:=dP w3.fo d (by rw [w3.len]; omega)
   omega
  refine qh (qa (qm (qm ?_)))
  refine ab fun K hK=>aa ae ?_
  simp only [an,fl,gp,ak,simprocAttr]
  refine ao ?_ (dT (U:=U3) (X:=X++[.own (fw (W.reverse++[(c1,y,c2)])),.fro [.int .i64 c1,.int .i64 y,.int .i64 c2]]) w3 (by omega) (v:=d) (by omega) rfl rfl (hCBk _ _ hlen3).symm rfl (by simp only [ay,Nat.reduceLT]) (aa ae ?_))
  ·exact trivial
  simp only [hU4,hr,hCBk U4 _ hlen4,an,fl,gp,ak,simprocAttr]
  refine af trivial (hK _ ?_)<;>clear hK K
  refine qa (qm ?_)
  refine ab fun K hK=>aa ae ?_
  simp only [an,fl,gp,ak,simprocAttr]
  refine af trivial (hK _ ?_)<;>clear hK K
  refine qa ?_
  refine aq rfl (fun hC3=>?_) (fun hC3=>?_)
  ·(try simp only [aE] at hC3)
   refine qj (qc (qf (qa ?_)))
   have hrq:r=q:=by omega
   have hse:eP m N1 U1 (c1,y,c2) W=(N1,U4,W):=by
    unfold eP
    simp only [hp,hU2,hq,hU3,hrp,hu,hcy]
    rw [if_neg (by omega)]
    simp only [Int.toNat_natCast,hr,hU4]
    rw [if_pos hrq]
   rw [hse] at so
   have sf' : jW m j N1 U4 W=some Z:=by
    have:jW m (j + 1) N1 U1 ((c1,y,c2) :: W)=jW m j (eP m N1 U1 (c1,y,c2) W).1 (eP m N1 U1 (c1,y,c2) W).2.1 (eP m N1 U1 (c1,y,c2) W).2.2:=rfl
    rw [this,hse] at sf
    exact sf
   simp only at so
   rw [l1] at so
   obtain ⟨so1,so2,so3,so4⟩:=so
   refine ⟨(j,N1,U4,W),List.range (n0 + 3)++[n0 + 3],⟨so1,l1,so3,by simp only; omega,sf'⟩,by simp only; omega,?_⟩
   refine nX (d:=fw (W.reverse++[(c1,y,c2)])) l1 hlen4 hXl hn0 hXs3 rfl (Nat.le_refl _) (fun i hi=>?_) (gR0 _ _ _ l1) (tE _ _).symm rfl (by rw [List.length_reverse,hn]; rfl) (fun p hp=>by cases hp)
   exact iQ l1 hlen4 hXl hn0 hi
  (try simp only [aE] at hC3)
  have hne2:r ≠ q:=by
   intro e; apply hC3; simp [e]
  obtain ⟨aI,gone,hkg,hmin,hmax,hkq⟩:∃ aI gone:Nat,aI < gone∧(if (q:Int) < (r:Int) then (q:Int) else (r:Int))=(aI:Int)∧(if (q:Int) > (r:Int) then (q:Int) else (r:Int))=(gone:Int)∧((aI=q∧gone=r)∨(aI=r∧gone=q)):=by
   rcases Nat.lt_or_gt_of_ne hne2 with h | h
   ·exact ⟨r,q,h,by rw [if_neg (by omega)],by rw [if_pos (by omega)],.inr ⟨rfl,rfl⟩⟩
   exact ⟨q,r,h,by rw [if_pos (by omega)],by rw [if_neg (by omega)],.inl ⟨rfl,rfl⟩⟩
  have hgl:gone < N.length:=by rcases hkq with ⟨_,h⟩ | ⟨_,h⟩<;>omega
  have hkl:aI < N.length:=by omega
  obtain ⟨U5,hU5⟩:∃ U5,U4.set gone (aI:Int)=U5:=⟨_,rfl⟩
  have l5:U5.length=N.length:=by rw [← hU5,List.length_set]; exact hlen4
  refine qh (qa (qm ?_))
  refine ab fun K hK=>aa ae ?_
  simp only [an,fl,gp,ak,simprocAttr,hmin,hmax]
  refine af ?_ (hK _ ?_)<;>clear hK K
  ·first|exact trivial|omega|(simp only [ah] at *; omega)|(simp [ah] at *; omega)|simp_all
  refine qa (qm ?_)
  refine ab fun K hK=>aa ae ?_
  simp only [an,fl,gp,ak,simprocAttr,bt (show gone < U4.length by omega),cH,Int.toNat_natCast,Int.ofNat_eq_natCast,hU5]
  refine af ?_ (hK _ ?_)<;>clear hK K
  ·exact ⟨⟨by omega,by omega⟩,by omega⟩
  refine qa (qm ?_)
  refine ab fun K hK=>aa ae ?_
  simp only [an,fl,gp,ak,simprocAttr]
  refine af ?_ (hK _ ?_)<;>clear hK K
  ·first|exact trivial|omega|(simp only [ah] at *; omega)|(simp [ah] at *; omega)|simp_all
  refine qa (ql ?_)
  obtain ⟨gr,hgr⟩:∃ g,N1.getD gone []=g:=⟨_,rfl⟩
  obtain ⟨grow,gent⟩:=w1.at (a:=gone) (by omega)
  have grg:∀ x,¬ rg gr x < 0→(rg gr x).toNat < N.length:=fun x hx=>by rw [← l1,← hgr]; exact w1.rg (by omega) (by rw [hgr]; exact hx)
  rw [hgr] at grow
  have gG:∀ Y:az,aA (N1.map bZ++Y) gone=bZ gr:=fun Y=>by rw [← hgr]; exact jb (by omega)
  have gS0:∀ (b d:aH) (R:az),aF (N1.map bZ++(X++(b :: R))) n0 d=N1.map bZ++(X++(d :: R)):=fun b d R=>by
   rw [← List.append_assoc,gQ,List.set_append_right _ _ (by rw [List.length_append,du,hXl]; omega)]
   rw [show n0 - (N1.map bZ++X).length=0 by rw [List.length_append,du,hXl]; omega,List.append_assoc]; rfl
  have hse:eP m N1 U1 (c1,y,c2) W=(N1,U5,(iT m).foldl (qS gr aI) W):=by
   unfold eP
   simp only [hp,hU2,hq,hU3,hrp,hu,hcy]
   rw [if_neg (by omega)]
   simp only [Int.toNat_natCast,hr,hU4]
   rw [if_neg hne2,show min r q=aI by omega,show max r q=gone by omega,hgr,hU5]
  have tkS:∀ i,i < 2 * m + 1→(iT m).take (i + 1)=(iT m).take i++[(i:Int) - m]:=fun i hi=>by
   rw [List.take_succ]
   congr 1
   unfold iT
   rw [List.getElem?_map,List.getElem?_range hi]; rfl
  refine aD (ι:=Nat) (fun i=>Sc N.length n0 X m most (2 * m) [(13,.int .i64 aI),(14,.int .i64 gone),(15,.int .i64 ((i:Int) - m))] N1 U5 (((iT m).take i).foldl (qS gr aI) W).reverse) (fun i=>i≤2 * m + 1) (fun i=>2 * m + 1 - i) 0 (Nat.zero_le _) (List.range (n0 + 3)++[n0 + 3]) (nX (d:=fw (W.reverse++[(c1,y,c2)])) l1 l5 hXl hn0 hXs3 rfl (Nat.le_refl _) (fun i hi=>iQ l1 l5 hXl hn0 hi) (gR0 _ _ _ l1) (by
    show fw W.reverse=_
    rw [List.take_zero,List.foldl_nil]
    exact (tE _ _).symm) rfl (by rw [List.take_zero,List.foldl_nil,List.length_reverse,hn]; rfl) (fun p hp=>by
    simp only [List.mem_cons,List.not_mem_nil,or_false] at hp
    rcases hp with rfl | rfl | rfl
    ·rfl
    ·rfl
    simp [St.get,St.put,lk])) fun i hi=>?_
  obtain ⟨Si,hSi⟩:∃ S,((iT m).take i).foldl (qS gr aI) W=S:=⟨_,rfl⟩
  have hSl:Si.length≤n + 2 * i:=by
   rw [← hSi]
   have:=sH gr aI ((iT m).take i) W
   rw [List.length_take,hn] at this
   omega
  show Holds _ _ _ (Sc N.length n0 X m most (2 * m) _ N1 U5 (((iT m).take i).foldl (qS gr aI) W).reverse)
  rw [hSi]
  unfold Sc
  simp only [List.map_cons,List.map_nil]
  refine qm (qm ?_)
  refine ab fun K hK=>aa ae ?_
  simp only [an,fl,gp,ak,simprocAttr]
  refine af ?_ (hK _ ?_)<;>clear hK K
  ·first|exact trivial|omega|(simp only [ah] at *; omega)|(simp [ah] at *; omega)|simp_all
  refine qa ?_
  refine aq rfl (fun hC4=>?_) (fun hC4=>?_)
  ·(try simp only [aE] at hC4)
   have hil:i < 2 * m + 1:=by omega
   have hx1 : -(m:Int)≤(i:Int) - m:=by omega
   have hx2:(i:Int) - m≤m:=by omega
   obtain ⟨z,hz⟩:∃ z,(i:Int) - m=z:=⟨_,rfl⟩
   have hS1:((iT m).take (i + 1)).foldl (qS gr aI) W=qS gr aI Si z:=by
    rw [tkS i hil,List.foldl_append,hSi,List.foldl_cons,List.foldl_nil,hz]
   have hz1:((i + 1:Nat):Int) - m=z + 1:=by omega
   rw [hz] at hx1 hx2 ⊢
   obtain ⟨li,hli⟩:∃ l,Si.reverse.length=l:=⟨_,rfl⟩
   have hli2:li≤2700000200:=by rw [← hli,List.length_reverse]; omega
   rw [hli]
   refine qh (qa (qm (ql (qm (qm ?_)))))
   refine ab fun K hK=>aa ae ?_
   simp only [an,fl,gp,ak,simprocAttr]
   refine af trivial (hK _ ?_)<;>clear hK K
   refine qa ?_
   refine aq rfl (fun hC5=>?_) (fun hC5=>?_)
   ·(try simp only [aE] at hC5)
    refine qj (qc (qf (qa ?_)))
    refine ab fun K hK=>aa ae ?_
    simp only [an,fl,gp,ak,simprocAttr]
    refine af ?_ (hK _ ?_)<;>clear hK K
    ·first|exact trivial|omega|(simp only [ah] at *; omega)|(simp [ah] at *; omega)|simp_all
    refine qa ?_
    have hz0:z=0:=by omega
    refine ⟨i + 1,List.range (n0 + 3)++[n0 + 3],by omega,by omega,?_⟩
    have hS2:((iT m).take (i + 1)).foldl (qS gr aI) W=Si:=by rw [hS1]; unfold qS; rw [if_pos hz0]
    simp only [hS2,hz1]
    show Le _ (Sc N.length n0 X m most (2 * m) [(13,.int .i64 aI),(14,.int .i64 gone),(15,.int .i64 (z + 1))] N1 U5 Si.reverse) _
    refine nX (d:=fw Si.reverse) l1 l5 hXl hn0 hXs3 rfl (Nat.le_refl _) (fun i hi=>iQ l1 l5 hXl hn0 hi) (gR0 _ _ _ l1) (List.take_of_length_le (by rw [gB]; exact Nat.le_refl _)).symm rfl (by rw [hli]; rfl) (fun p hp=>by
      simp only [List.mem_cons,List.not_mem_nil,or_false] at hp
      rcases hp with rfl | rfl | rfl<;>rfl)
   (try simp only [aE] at hC5)
   have hz0:z ≠ 0:=by
    intro e; apply hC5; simp [e]
   obtain ⟨cz,hcz⟩:∃ c,(cI z).toNat=c:=⟨_,rfl⟩
   obtain ⟨z1,z2⟩:=jy (n:=m) hz0 hx1 hx2
   have hczI:cI z=(cz:Int):=by omega
   have hrgz:gr.getD cz 0=rg gr z:=by rw [← hcz]; exact wh (by omega)
   obtain ⟨v,hv⟩:∃ u,rg gr z=u:=⟨_,rfl⟩
   rw [hv] at hrgz
   refine qh (qa (qm ?_))
   refine aO mixed (by kernel_rfl) fun K hK=>aa ae ?_
   simp only [an,fl,gp,ak,simprocAttr,gS hgl,gG,bZ,Int.toNat_natCast,cp,Int.ofNat_eq_natCast,hczI,bt (show cz < gr.length by omega),hrgz]
   refine ao ?_ (au (ri (by omega)) rfl rfl rfl (by simp only [ay,Nat.reduceLT]) (by repeat (first|exact trivial|constructor)) (aa ae ?_))
   ·exact ⟨⟨by omega,by omega⟩,hgl⟩
   simp only [an,fl,gp,ak,simprocAttr,gS hgl,gG,bZ,Int.toNat_natCast,cp,Int.ofNat_eq_natCast,hczI,bt (show cz < gr.length by omega),hrgz]
   refine af ?_ (hK _ ?_)<;>clear hK K
   ·first|exact trivial|omega|(simp only [ah] at *; omega)|(simp [ah] at *; omega)|simp_all
   refine qa (qm ?_)
   refine ab fun K hK=>aa ae ?_
   simp only [an,fl,gp,ak,simprocAttr]
   refine af trivial (hK _ ?_)<;>clear hK K
   refine qa ?_
   refine aq rfl (fun hC6=>?_) (fun hC6=>?_)
   ·(try simp only [aE] at hC6)
    have hv0:0≤v:=by simpa using hC6
    obtain ⟨dz,rfl⟩:=Int.eq_ofNat_of_zero_le hv0
    have hdl2:dz < N.length:=by
     have:=grg z (by rw [hv]; omega)
     rw [hv] at this
     omega
    refine ab fun K hK=>aa ae ?_
    simp only [an,fl,gp,ak,simprocAttr,Int.toNat_natCast,Int.ofNat_eq_natCast,gS0,List.append_assoc]
    refine ao ?_ (cB (zr (sz:=3) (k:=n0 + 3) (lo:=0) (len:=li) (c:=fw Si.reverse) (l:=[PV.agg [.int .i64 aI,.int .i64 z,.int .i64 dz],PV.agg [.int .i64 dz,.int .i64 (-z),.int .i64 aI]]) ae rfl rfl rfl rfl rfl rfl (by decide) (by decide) rfl (gR0 N1 _ [] l1) rfl (by intro x hx; simp at hx; rcases hx with rfl | rfl<;>rfl) (by intro x hx; simp at hx; rcases hx with rfl | rfl<;>rfl) (show 0 < 2 by decide) (by rw [gB,hli]; omega) (by rw [Bq hli]; exact HM _) (by show (li + 2) * 24≤_; omega) (by show (li + 2) * 3≤_; omega) (by show li + 2≤_; omega)) rfl (by simp only [ay,Nat.reduceLT]) (aa ae ?_))
    ·simp only [ah]; omega
    simp only [an,fl,gp,ak,simprocAttr,Int.toNat_natCast,Int.ofNat_eq_natCast,gS0,List.append_assoc]
    refine af ?_ (hK _ ?_)<;>clear hK K
    ·first|exact trivial|omega|(simp only [ah] at *; omega)|(simp [ah] at *; omega)|simp_all
    refine qd (qa ?_)
    refine ab fun K hK=>aa ae ?_
    simp only [an,fl,gp,ak,simprocAttr]
    refine af ?_ (hK _ ?_)<;>clear hK K
    ·first|exact trivial|omega|(simp only [ah] at *; omega)|(simp [ah] at *; omega)|simp_all
    refine qa ?_
    have hS2:((iT m).take (i + 1)).foldl (qS gr aI) W=(dz,-z,aI) :: (aI,z,dz) :: Si:=by
     rw [hS1]; unfold qS; rw [if_neg hz0,hv,if_neg (by omega),Int.toNat_natCast]
    refine ⟨i + 1,List.range (n0 + 3)++[n0 + 3 + 1],by omega,by omega,?_⟩
    simp only [hS2,hz1]
    show Le _ (Sc N.length n0 X m most (2 * m) [(13,.int .i64 aI),(14,.int .i64 gone),(15,.int .i64 (z + 1))] N1 U5 ((dz,-z,aI) :: (aI,z,dz) :: Si).reverse) _
    rw [show ((dz,-z,aI) :: (aI,z,dz) :: Si).reverse=Si.reverse++[(aI,z,dz),(dz,-z,aI)] by simp]
    refine nX (q:=n0 + 3 + 1) (d:=(fw Si.reverse).take (li * 3)++bq (flat [PV.agg [.int .i64 aI,.int .i64 z,.int .i64 dz],PV.agg [.int .i64 dz,.int .i64 (-z),.int .i64 aI]])) l1 l5 hXl hn0 hXs3 rfl (by omega) (fun i hi=>iQ l1 l5 hXl hn0 hi) (gR1 N1 _ _ [] l1) ?_ rfl ?_ (fun p hp=>by
      simp only [List.mem_cons,List.not_mem_nil,or_false] at hp
      rcases hp with rfl | rfl | rfl<;>rfl)
    ·rw [show (fw Si.reverse).take (li * 3)=fw Si.reverse from List.take_of_length_le (by rw [gB,hli]; exact Nat.le_refl _)]
     rw [oV]
     exact (List.take_of_length_le (by rw [List.length_append,gB,List.length_append]; show Si.reverse.length * 3 + 6≤(Si.reverse.length + 2) * 3; omega)).symm
    show AV.sls _ 0 (li + 2) 3=_
    rw [lR N1 _ l1,List.length_append,hli]
    rfl
   (try simp only [aE] at hC6)
   refine qh (qd (qa ?_))
   refine ab fun K hK=>aa ae ?_
   simp only [an,fl,gp,ak,simprocAttr]
   refine af ?_ (hK _ ?_)<;>clear hK K
   ·first|exact trivial|omega|(simp only [ah] at *; omega)|(simp [ah] at *; omega)|simp_all
   refine qa ?_
   have hS2:((iT m).take (i + 1)).foldl (qS gr aI) W=Si:=by
    rw [hS1]; unfold qS; rw [if_neg hz0,hv,if_pos (by omega)]
   refine ⟨i + 1,List.range (n0 + 3)++[n0 + 3],by omega,by omega,?_⟩
   simp only [hS2,hz1]
   show Le _ (Sc N.length n0 X m most (2 * m) [(13,.int .i64 aI),(14,.int .i64 gone),(15,.int .i64 (z + 1))] N1 U5 Si.reverse) _
   refine nX (d:=fw Si.reverse) l1 l5 hXl hn0 hXs3 rfl (Nat.le_refl _) (fun i hi=>iQ l1 l5 hXl hn0 hi) (gR0 _ _ _ l1) (List.take_of_length_le (by rw [gB]; exact Nat.le_refl _)).symm rfl (by rw [hli]; rfl) (fun p hp=>by
     simp only [List.mem_cons,List.not_mem_nil,or_false] at hp
     rcases hp with rfl | rfl | rfl<;>rfl)
  (try simp only [aE] at hC4)
  have hie:i=2 * m + 1:=by omega
  rw [hie,List.take_of_length_le (by rw [mb]; exact Nat.le_refl _)] at hSi
  refine qj (qc (qc (qf (qd (qa ?_)))))
  rw [hse,hSi] at so
  have sf' : jW m j N1 U5 Si=some Z:=by
   have:jW m (j + 1) N1 U1 ((c1,y,c2) :: W)=jW m j (eP m N1 U1 (c1,y,c2) W).1 (eP m N1 U1 (c1,y,c2) W).2.1 (eP m N1 U1 (c1,y,c2) W).2.2:=rfl
   rw [this,hse,hSi] at sf
   exact sf
  simp only at so
  rw [l1] at so
  obtain ⟨so1,so2,so3,so4⟩:=so
  refine ⟨(j,N1,U5,Si),List.range (n0 + 3)++[n0 + 3],⟨so1,l1,so3,by simp only; omega,sf'⟩,by simp only; omega,?_⟩
  show Le _ (Sc N.length n0 X m most (2 * m) [] N1 U5 Si.reverse) _
  refine nX (d:=fw Si.reverse) l1 l5 hXl hn0 hXs3 rfl (Nat.le_refl _) (fun i hi=>?_) (gR0 _ _ _ l1) (List.take_of_length_le (by rw [gB]; exact Nat.le_refl _)).symm rfl rfl (fun p hp=>by cases hp)
  exact iQ l1 l5 hXl hn0 hi
 (try simp only [aE] at hC1)
 refine qj (qc (qc (qf ?_)))
 simp only [Tryd.results55,eR,gq,dk,kR,bY,an,fl,gp,ak,simprocAttr]
 have hnil:S1=[]:=by
  cases S1 with
  | nil=>rfl
  | cons t r=>exact absurd hC1 (by simp)
 subst hnil
 have hz:Z=(N1,U1):=by
  have:jW m j N1 U1 []=some (N1,U1):=by cases j<;>rfl
  rw [this] at sf
  exact (Option.some.inj sf).symm
 subst hz
 refine ⟨List.range (n0 + 3),rfl,rfl,?_⟩
 have hU1:U1.length=N.length:=by rw [w1.len]; exact l1
 refine iO (B:=CB m most (2 * m) N1 U1++X) rfl (by rw [List.length_append,aK,hXl,l1]; omega) (by unfold CB qR; simp) (gZ (by omega) hXs3) (fun i hi=>iQ l1 hU1 hXl hn0 hi) trivial
end
end Go.Proofs.YtpobnnfkeekiaaaDoor.Pr
namespace Go.Pv
open Go.RowKit
section
variable {P:Program} {s:St}
theorem wG {draw:Bool} {all:Array Oper} {rest:List Oper} {K:St→Prop} {dst:Option Tmp} {ty:TypeId} {pos:String} {aft:Array Edge} {gd:Option (Nat × Bool)} {fo:Operand} {args:Array Operand} {ts:Array TypeId} {g:FuncId} {avs:List AV} {H0 X:az} {r:AV}
  (hc:zI P g avs H0 r H0) {cap:List PV} (hfo:s.ev fo = .p (.fn g cap)) (hg:a8 all s { dst:=dst,op:=.call { callee:=.value fo,args:=args,argTypes:=ts },type:=ty,pos:=pos,after:=aft,guard:=gd } = some true)
  (hH:s.H=H0++X) (hargs:args.toList.map s.ev++cap.map .p=avs) (ha:avs.all (bj H0.length)=true) (hs:H0.all (bD H0.length)=true) (h0:H0.all cf=true) (bD:EI H0.length r H0 H0=true) (hd:ay s dst)
  (h:dL P draw all rest K (s.put dst r)) :
  dL P draw all ({ dst:=dst,op:=.call { callee:=.value fo,args:=args,argTypes:=ts },type:=ty,pos:=pos,after:=aft,guard:=gd } :: rest) K s:=by
 obtain ⟨s',hr,hK⟩:=h
 have key:∀ s2:St,s2.n=s.n→dW { dst:=dst,op:=.call { callee:=.value fo,args:=args,argTypes:=ts },type:=ty,pos:=pos,after:=aft,guard:=gd } s s2→s2.H=s.H→bu P { dst:=dst,op:=.call { callee:=.value fo,args:=args,argTypes:=ts },type:=ty,pos:=pos,after:=aft,guard:=gd } s2 r s.H:=by
  intro s2 hn ha2 hH2
  simp only [dW,Op.operands,Call.operands] at ha2
  have h1:s2.ev fo = .p (.fn g cap):=(ha2 fo (by simp)).trans hfo
  have h2:args.toList.map s2.ev=args.toList.map s.ev:=List.map_congr_left fun x hx=>ha2 x (by simp; right; simpa using hx)
  intro C m a w K Q R hK
  exact nG (P:=P) rfl h1 hc.Je (hH2.trans hH) (by rw [h2]; exact hargs) ha hs h0 (fun r' H' h=>by rw [h.1,h.2]; exact bD) C m a w K Q R fun v m' w' av H' ⟨H1',⟨e1,e2⟩,e3⟩ R2 hv=>by
   subst e1 e2 e3
   rw [← hH] at R2 hv
   exact hK v m' w' R2 hv
 refine ⟨s',.cons (.op s r s.H hg (bC hd) (key s rfl (fun _ _=>rfl) rfl) fun _=>⟨key,fun hf=>?_,fun _=>rfl⟩) hr,hK⟩
 cases hf
end
end Go.Pv
namespace Go.Proofs.YtpobnnfkeekiaaaDoor.Pr
open Go.Pv
section
variable {N:List (List Int)} {U:List Int} {most:Int} {m:Nat}
theorem vr {U:List Int} {v:Nat} (h:U.getD v 0=(v:Int)):∀ k,pR k U v=(v,U)
 | 0=>rfl
 | k + 1=>by rw [pR,if_pos h]
theorem zO {U:List Int} {v:Nat} (h:U.getD v 0=(v:Int)):dO U v=v:=by rw [dO,vr h]
theorem A2 {U:List Int} {v:Nat} (h:U.getD v 0=(v:Int)):aT U v=U:=by rw [aT,vr h]
set_option maxHeartbeats 4000000 in
set_option maxRecDepth 20000 in
theorem Jb (hm:1≤m∧m≤6) (h:WR m N U) (hk:N.length≤100000000) {v:Nat} {x:Int} (hv:v < N.length) (hr:U.getD v 0=(v:Int)) (hx:x ≠ 0∧-(m:Int)≤x∧x≤m) :
  zI Tryd.prog 47 [.ptr 0 0,.p (.int .i64 v),.p (.int .i64 x)] (CB m most (2 * m) N U) (.p (.int .i64 (nk N U v x))) (CB m most (2 * m) N (gi N U v x)):=by
 have hcc:=zT (most:=most) (n:=m) (w:=2 * m) h hk hv
 rw [zO hr,A2 hr] at hcc
 obtain ⟨rp,hrp⟩:∃ r,N.getD v []=r:=⟨_,rfl⟩
 have hrow:=(h.at hv).1
 obtain ⟨cy,hcy⟩:∃ c,(cI x).toNat=c:=⟨_,rfl⟩
 obtain ⟨y1,y2⟩:=jy (n:=m) hx.1 hx.2.1 hx.2.2
 have hcyI:cI x=(cy:Int):=by omega
 have hrgd:(N.getD v []).getD cy 0=rg (N.getD v []) x:=by rw [← hcy]; exact wh (by omega)
 have gM:∀ Y:az,aA (N.map bZ++Y) v=bZ (N.getD v []):=fun Y=>jb (by omega)
 unfold nk gi
 have hug:=h.rg (a:=v) (x:=x) hv
 rw [hrp] at hrow hrgd gM hug ⊢
 obtain ⟨u,hu⟩:∃ u,rg rp x=u:=⟨_,rfl⟩
 rw [hu] at hrgd hug ⊢
 have hCBk:∀ (U2:List Int) (Y:az),U2.length=N.length→CB m most (2 * m) N U2++Y = .own [.p (.int .i64 m),.sl 1 0 N.length,.sl 2 0 N.length,.p (.int .i64 most)] :: .own (eU (2 * m) N.length) :: .own (ol U2) :: (N.map bZ++Y):=fun U2 Y h=>by
  unfold CB qR; rw [h]; rfl
 unfold CB qR
 rw [h.len]
 refine w6 ae Tryd.func47 rfl (by kernel_rfl) (by rw [Tryd.ntmps47]; exact Nat.le_add_left 3 _) ?_; rw [Tryd.ntmps47]; simp only [aR,cK,List.length_cons,List.length_nil,List.cons_append,List.nil_append,Nat.reduceAdd,Nat.zero_add]
 have hXl:(.bf 0 0 :: .bf 1 1 :: .bf 2 2 :: aR 3 (N.map bZ).length:az).length=N.length + 3:=by simp [gO]
 have hXs:∀ L,N.length + 3≤L→∀ b∈(.bf 0 0 :: .bf 1 1 :: .bf 2 2 :: aR 3 (N.map bZ).length:az),bD L b=true:=fun L hL b hb=>by
  have:(.bf 0 0 :: .bf 1 1 :: .bf 2 2 :: aR 3 (N.map bZ).length:az)=aR 0 (N.length + 3):=by rw [du]; rfl
  rw [this] at hb
  exact o8 (by omega) b hb
 generalize (.bf 0 0 :: .bf 1 1 :: .bf 2 2 :: aR 3 (N.map bZ).length:az)=X at hXl hXs ⊢
 have hXs3:=hXs (N.length + (N.length + 3) + 3) (by omega)
 refine qm ?_
 refine ab fun K hK=>aa ae ?_
 simp only [an,fl,gp,ak,simprocAttr]
 refine af trivial (hK _ ?_)<;>clear hK K
 refine qa (qm ?_)
 refine aO mixed (by kernel_rfl) fun K hK=>aa ae ?_
 simp only [an,fl,gp,ak,simprocAttr]
 refine ao ?_ (wG (X:=X) hcc rfl rfl (hCBk _ _ h.len).symm rfl (by rw [aK]; simp [bj,bn]) dm eV (lj rfl) (by simp only [ay,Nat.reduceLT]) (aa ae ?_))
 ·exact trivial
 simp only [an,fl,gp,ak,simprocAttr,gS hv,gM,bZ,Int.toNat_natCast,cp,Int.ofNat_eq_natCast,hcyI]
 refine ao ?_ (au (ri (by omega)) rfl rfl rfl (by simp only [ay,Nat.reduceLT]) (by repeat (first|exact trivial|constructor)) (aa ae ?_))
 ·exact ⟨⟨by omega,by omega⟩,hv⟩
 simp only [an,fl,gp,ak,simprocAttr,gS hv,gM,bZ,Int.toNat_natCast,cp,Int.ofNat_eq_natCast,hcyI,bt (show cy < rp.length by omega),hrgd]
 refine af ?_ (hK _ ?_)<;>clear hK K
 ·exact ⟨⟨by omega,by omega⟩,by omega⟩
 refine qa (qm (qm ?_))
 refine ab fun K hK=>aa ae ?_
 simp only [an,fl,gp,ak,simprocAttr]
 refine af trivial (hK _ ?_)<;>clear hK K
 refine qa ?_
 refine aq rfl (fun hC1=>?_) (fun hC1=>?_)
 ·(try simp only [aE] at hC1)
  have hf:u < 0:=by simpa using hC1
  refine qm ?_
  refine ab fun K hK=>aa ae ?_
  simp only [an,fl,gp,ak,simprocAttr]
  refine af trivial (hK _ ?_)<;>clear hK K
  refine qa (qk (qb ?_))
  simp only [Tryd.results47,eR,gq,dk,kR,bY,an,fl,gp,ak,simprocAttr]
  simp only [if_pos hf]
  exact ⟨List.range (N.length + (N.length + 3) + 3),rfl,rfl,iO (B:=CB m most (2 * m) N U++X) rfl (by rw [List.length_append,aK,hXl]; omega) (by rw [hCBk _ _ h.len,h.len]) (gZ (by omega) hXs3) (fun i hi=>by rw [hCBk _ _ h.len]) trivial⟩
 (try simp only [aE] at hC1)
 have hu0:¬ u < 0:=by simpa using hC1
 obtain ⟨d,rfl⟩:=Int.eq_ofNat_of_zero_le (show 0≤u by omega)
 have hdl:d < N.length:=by
  have:=hug (by omega)
  omega
 have hlU:(aT U d).length=N.length:=by rw [xN]; exact h.len
 refine qh (qa (qm ?_))
 refine ab fun K hK=>aa ae ?_
 simp only [an,fl,gp,ak,simprocAttr]
 refine ao ?_ (dT (U:=U) (X:=X) h (by omega) (v:=d) (by omega) rfl rfl (hCBk _ _ h.len).symm rfl (by simp only [ay,Nat.reduceLT]) (aa ae ?_))
 ·exact trivial
 simp only [hCBk _ _ hlU,an,fl,gp,ak,simprocAttr]
 refine af trivial (hK _ ?_)<;>clear hK K
 refine qa (qk ?_)
 simp only [Tryd.results47,eR,gq,dk,kR,bY,an,fl,gp,ak,simprocAttr]
 simp only [if_neg hu0]
 exact ⟨List.range (N.length + (N.length + 3) + 3),rfl,rfl,iO (B:=CB m most (2 * m) N (aT U d)++X) rfl (by rw [List.length_append,aK,hXl]; omega) (by rw [hCBk _ _ hlU,hlU]) (gZ (by omega) hXs3) (fun i hi=>by rw [hCBk _ _ hlU]) trivial⟩
end
end Go.Proofs.YtpobnnfkeekiaaaDoor.Pr
namespace Go.Pv.Fw
open Go.Pv Go.RowKit
structure FW where
 W:Oper→Bool
 T:Oper→Bool
 wt:∀ {o:Oper},W o=true→T o=true
structure vg (F:FW) (P:Program) (o:Oper) (s:St) (av:AV) (H' : az):Prop where
 here:∀ s2:St,s2.n=s.n→dW o s s2→s2.H=s.H→bu P o s2 av H'
 free:F.T o=false→H' = s.H∧∀ s2:St,s2.n=s.n→dW o s s2→bu P o s2 av s2.H
 calm:F.W o=false→H' = s.H
inductive qM (F:FW) (P:Program) (draw:Bool) (all:Array Oper) (o:Oper):St→St→Prop
 | skip (s:St) (hg:a8 all s o=some false) (hd:∀ t,o.dst=some t→t < s.n):qM F P draw all o s (s.put o.dst (.p (.tup [])))
 | op (s:St) (av:AV) (H' : az) (hg:a8 all s o=some true) (hd:∀ t,o.dst=some t→t < s.n) (h:bu P o s av H') (hl:draw=true→vg F P o s av H'):qM F P draw all o s ({ s with H:=H' }.put o.dst av)
inductive iz (F:FW) (P:Program) (draw:Bool) (all:Array Oper):List Oper→St→St→Prop
 | nil (s:St):iz F P draw all [] s s
 | cons {o:Oper} {r:List Oper} {s s1 s2:St} (h:qM F P draw all o s s1) (hr:iz F P draw all r s1 s2):iz F P draw all (o :: r) s s2
section
variable {F:FW} {P:Program} {ops:Array Oper}
def sD (F:FW) (ops:Array Oper) (out:Nat→Out) (s:St) (D:Nat→Bool):Nat→St
 | 0=>s
 | k + 1=>if D k then ({ sD F ops out s D k with H:=if F.W (bP ops k) then (out k).H else (sD F ops out s D k).H } : St).put (bP ops k).dst (out k).av else sD F ops out s D k
structure Fact (F:FW) (P:Program) (ops:Array Oper) (out:Nat→Out) (s:St) (j:Nat) (o:Oper):Prop where
 dst:∀ t,o.dst=some t→t < s.n
 how:(a8 ops (sD F ops out s (fun _=>true) j) o=some false∧(out j).av = .p (.tup [])∧F.W o=false) ∨
  (a8 ops (sD F ops out s (fun _=>true) j) o=some true∧vg F P o (sD F ops out s (fun _=>true) j) (out j).av (out j).H)
end
section
variable {F:FW} {P:Program} {all:Array Oper} {o:Oper} {rest:List Oper} {K:St→Prop} {s:St}
end
end Go.Pv.Fw
namespace Go.Pv
open Go.RowKit
section
variable {P:Program} {T:TypeId→Option TI}
end
open Go.RowKit
section
variable {P:Program} {T:TypeId→Option TI} {C:Ctx} {m:Map} {s:St} {tmps:Array Value} {w:World}
def Ee (P:Program) (q:Nat) (f:FuncId) (args:List AV) (H0:az) (r:AV) (H1:az):Prop:=
 Fj P f∧∀ (C:Ctx) (m:Map) (w:World) (vals:Array Value),Rel C m ⟨args.length,cK 0 args,H0++aR 0 q⟩ vals w →
  Calls P f vals w fun e w'=>∃ v m',e = .returned v∧Rel C m' ⟨1,[(0,r)],H1++aR 0 q⟩ #[v] w'
theorem A7 (hT:∀ t ti,T t=some ti→bk P t=some ti) {q:Nat} {f:FuncId} {fn:Func} {c:Code} {args:List AV} {av:AV} {H0 H1:az} (hf:P.funcs[f]? = some fn) (hb:fn.body=some c) (hnm:(fn.name == "runtime.NumGoroutine")=false) (hn:args.length≤fn.ntmps)
  (h:Holds P c (eR T fn.results.toList av (H1++aR 0 q)) ⟨fn.ntmps,cK 0 args,H0++aR 0 q⟩):Ee P q f args H0 av H1:=by
 refine ⟨⟨fn,hf,hnm,by rw [hb]; rfl⟩,fun C m w vals R0=>calls_of_wp hf hb (fq.1 ?_)⟩
 have hsz:vals.size=args.length:=R0.size
 have R:Rel C m ⟨fn.ntmps,cK 0 args,H0++aR 0 q⟩ (vals++Array.replicate (fn.ntmps - vals.size) undef) w:=by
  refine ⟨R0.laid,R0.below,R0.base,by simp; omega,R0.inj,R0.blk,R0.fro,fun t=>?_,R0.mp⟩
  have hs:=R0.slot t
  by_cases ht:t < vals.size
  ·rw [Array.getD_eq_getD_getElem?,Array.getElem?_append_left ht,← Array.getD_eq_getD_getElem?]
   exact hs
  have e:lk (cK 0 args) t = .dead:=by
   rw [gR,if_pos (Nat.zero_le _),List.getD_eq_getElem?_getD,List.getElem?_eq_none (by omega)]; rfl
  unfold St.get
  simp only
  rw [e]
  exact .dead _
 refine eF (h none [] _ _ { tmps:=vals++Array.replicate (fn.ntmps - vals.size) undef,defers:=[] } w R rfl) fun e a' w' ⟨s',m',h1,h2,h3⟩=>?_
 have fini:gq T fn.results.toList av (H1++aR 0 q) s'→a'.defers=[]∧∃ v,(results fn a'.tmps).run P w' = .ok v w'∧∃ v_1 m'',Ending.returned v = .returned v_1∧Rel C m'' ⟨1,[(0,av)],H1++aR 0 q⟩ #[v_1] w':=by
  intro he
  unfold gq at he
  split at he
  ·rename_i p l hl
   obtain ⟨hp,π,hav,bD,hle⟩:=he
   obtain ⟨vs,e1,e2,e3⟩:=iK hT h2 fn.results.toList hl hp
   have hv:=kH (w:=w') e2 e3
   have R':=h2.weaken hle
   rw [hav] at hv
   have hlen:(H1++aR 0 q).length=π.length:=(hle.2.2.1.get).1.symm
   have ho:=OK.weaken (C:=C) (m:=m') (w:=w') hle.2.2.1
   have hv2:=hv.rX (fun p v h=>h.mono ho) hlen bD
   refine ⟨h3,(if h:vs.toArray.size=1 then vs.toArray[0] else .tuple vs.toArray),?_,_,_,rfl,R'.laid,R'.below,R'.base,rfl,R'.inj,R'.blk,R'.fro,fun t=>?_,R'.mp⟩
   ·rw [eh,Array.mapM_eq_mapM_toList]
    simp only [Sem.run_bind,Sem.run_map]
    rw [e1]
    simp only [Result.andThen_ok]
    rfl
   cases t with
   | zero=>exact hv2
   | succ t=>exact .dead _
  exact he.elim
 cases e with
 | normal=>exact fini h1
 | ret=>exact fini h1
 | _=>exact h1.elim
def Bp:AV→Option (FuncId × List AV)
 | .cl g l=>some (g,l)
 | .p (.fn g l)=>some (g,l.map .p)
 | _=>none
theorem ym {a:Act} (R:Rel C m s a.tmps w) {fo:Operand} {g:FuncId} {cap:List AV} (h:Bp (s.ev fo)=some (g,cap)) :
  ∃ vs:Array Value,a.eval fo = .func (.func g) #[] vs∧vs.size=cap.length∧∀ c (h:c < cap.length),aG (Reads (OK C m s.H w) w) m s.H cap[c] (vs.getD c undef):=by
 have hv:=R.ev fo
 generalize a.eval fo=v at hv
 unfold Bp at h
 split at h
 ·rename_i g' l e
  simp only [Option.some.injEq,Prod.mk.injEq] at h
  obtain ⟨rfl,rfl⟩:=h
  rw [e] at hv
  cases hv with
  | cl _ _ vs hl hr=>exact ⟨vs,rfl,hl,hr⟩
 ·rename_i g' l e
  simp only [Option.some.injEq,Prod.mk.injEq] at h
  obtain ⟨rfl,rfl⟩:=h
  rw [e] at hv
  have hv:=hv.aN
  cases hv with
  | fn _ _ vs hl hr =>
   refine ⟨vs,rfl,by simpa using hl,fun c hc=>?_⟩
   rw [List.getElem_map]
   exact .p _ _ (hr c (by simpa using hc))
 cases h
theorem Rel.A3 (R:Rel C m s tmps w) {q:Nat} {ks:List Nat} {avs:List AV} {H0:az} {vals:Array Value} (hle:dQ ks s.H ks H0) (hnd:ks.Nodup) (hq:q≤H0.length) (hna:H0.all cf=true) (hsz:vals.size=avs.length)
  (hv:∀ t (h:t < avs.length),aG (Reads (OK (iA C m s.H ks H0 w) (bV m ks) H0 w) w) (bV m ks) H0 avs[t] (vals.getD t undef)):Rel (iA C m s.H ks H0 w) (bV m ks) ⟨avs.length,cK 0 avs,H0++aR 0 q⟩ vals w:=by
 obtain ⟨g1,g2⟩:=hle.get
 have ho1:∀ b,OK C m s.H w b→OK (iA C m s.H ks H0 w) (bV m ks) H0 w b:=by
  refine fun b h=>⟨.inl h,h.2.1,fun k c l hk hl=>?_⟩
  obtain ⟨k',d,a1,a2,_⟩:=dQ.own g2 k c hk
  simp only [bV,a1,Option.bind_some] at hl
  exact h.2.2 k' _ l a2 hl
 have R0:Rel (iA C m s.H ks H0 w) (bV m ks) ⟨avs.length,cK 0 avs,H0⟩ vals w:=by
  refine R.oB (s1:=⟨avs.length,cK 0 avs,H0⟩) hsz hnd hle ho1 (ca.refl _ _) (fun b h=>.inl h) (fun k b l h hw hl _=>.inr ⟨k,b,l,h,hw,hl,rfl⟩) (fun k i j h=>?_) fun t=>?_
  ·exact absurd rfl (fB ((List.all_eq_true.1 hna) _ (List.mem_of_getElem? h)) i j)
  unfold St.get
  simp only
  rw [gR,if_pos (Nat.zero_le _),Nat.sub_zero]
  by_cases ht:t < avs.length
  ·have:=hv t ht
   simpa [List.getD,List.getElem?_eq_getElem ht] using this
  rw [List.getD_eq_getElem?_getD,List.getElem?_eq_none (by omega)]
  exact .dead _
 exact R0.tx (n:=q) hq fun i _=>rfl
theorem yK {ks:List Nat} {H0:az} (hle:dQ ks s.H ks H0):∀ b,OK C m s.H w b→OK (iA C m s.H ks H0 w) (bV m ks) H0 w b:=by
 obtain ⟨g1,g2⟩:=hle.get
 refine fun b h=>⟨.inl h,h.2.1,fun k c l hk hl=>?_⟩
 obtain ⟨k',d,a1,a2,_⟩:=dQ.own g2 k c hk
 simp only [bV,a1,Option.bind_some] at hl
 exact h.2.2 k' _ l a2 hl
theorem yY {q:Nat} {r:AV} {H0 H1:az} (h:xB q r H0 H1=true):q≤H1.length∧q≤H0.length∧H0.all cf=true:=by
 unfold xB at h
 rw [Bool.and_eq_true,Bool.and_eq_true,Bool.and_eq_true,Bool.and_eq_true,Bool.and_eq_true,Bool.and_eq_true,decide_eq_true_eq,decide_eq_true_eq] at h
 exact ⟨h.1.1.1.1.2,h.1.1.1.2,h.2⟩
theorem o6 {o:Oper} {fo:Operand} {args:Array Operand} {ts:Array TypeId} (ho:o.op = .call { callee:=.value fo,args:=args,argTypes:=ts }) {g:FuncId} {cap:List AV} (hfo:Bp (s.ev fo)=some (g,cap)) {q:Nat} {ks:List Nat} {avs:List AV} {H0 H1:az} {r:AV}
  (hc:Ee P q g avs H0 r H1) (hargs:nF s.H ks (args.toList.map s.ev++cap) avs) (hle:dQ ks s.H ks H0) (hnd:ks.Nodup) (hks:ks.all (fun k=>decide (k < s.H.length))=true) (bD:xB q r H0 H1=true) :
  bu P o s (Go.Pv.aY (ks.take q++List.range' s.H.length (H1.length - q)) r) (dE (cC s.H (ks.drop q)) (ks.take q) (H1.map (aH.aY (ks.take q++List.range' s.H.length (H1.length - q))))):=by
 intro C m a w K Q R hK
 have hks' : ∀ k∈ks,k < s.H.length:=fun k hk=>by simpa using (List.all_eq_true.1 hks) k hk
 obtain ⟨vs,hfe,hcl,hcr⟩:=ym R hfo
 obtain ⟨⟨fn,hfn,hnm,hbd⟩,hcalls⟩:=hc
 obtain ⟨_,hq,hna⟩:=yY bD
 have hrun:(execOp a.eval o).run P w = .ok (.enter g (args.map a.eval++vs)) w:=by
  have hnm' : ¬ fn.name = "runtime.NumGoroutine":=by simpa using hnm
  have hbd' : ¬ fn.body=none:=by intro e; rw [e] at hbd; simp at hbd
  simp [execOp,ho,resolve,hfe,Deferred.ofValue,invoke,callFunc,hfn,hnm',hbd']
 refine aW (by rw [ho]; rfl) ?_
 unfold Oper.wp
 rw [hrun]
 simp only [Oper.upon]
 have g1:=(hle.get).1
 obtain ⟨e1,e2⟩:=iG R (rd':=Reads (OK (iA C m s.H ks H0 w) (bV m ks) H0 w) w) (H0:=H0) (fun p v h=>h.mono (yK hle)) g1.symm _ avs (fun i=>(args.map a.eval++vs).getD i undef) hargs fun i hi=>by
  simp only [List.length_append,List.length_map,Array.length_toList] at hi
  by_cases hip:i < args.size
  ·rw [List.getElem_append_left (by simpa using hip)]
   simp only [Array.getD_eq_getD_getElem?]
   rw [Array.getElem?_append_left (by simpa using hip)]
   have:=R.ev args[i]
   simpa [Array.getElem?_eq_getElem hip] using this
  rw [List.getElem_append_right (by simp; omega)]
  simp only [Array.getD_eq_getD_getElem?]
  rw [Array.getElem?_append_right (by simp; omega)]
  simp only [List.length_map,Array.length_toList,Array.size_map]
  have:=hcr (i - args.size) (by omega)
  rw [Array.getD_eq_getD_getElem?] at this
  exact this
 have hsz:(args.map a.eval++vs).size=avs.length:=by
  rw [e1]; simp; omega
 have R0':=R.A3 (q:=q) hle hnd hq hna hsz e2
 refine (hcalls _ _ w _ R0').mono fun e w' ⟨v,m',he,R1⟩=>?_
 subst he
 obtain ⟨m2,R2,hv,_⟩:=R.zY hle hks' R1 bD
 exact hK v m2 w' R2 hv
theorem p5 {all:Array Oper} {rest:List Oper} {K:St→Prop} {dst:Option Tmp} {ty:TypeId} {pos:String} {aft:Array Edge} {gd:Option (Nat × Bool)} {fo:Operand} {args:Array Operand} {ts:Array TypeId} {g:FuncId} {avs:List AV} {H0 H1:az} {r:AV} {q:Nat} (ks:List Nat)
  (hc:Ee P q g avs H0 r H1) {cap:List AV} (hfo:Bp (s.ev fo)=some (g,cap)) (hg:a8 all s { dst:=dst,op:=.call { callee:=.value fo,args:=args,argTypes:=ts },type:=ty,pos:=pos,after:=aft,guard:=gd } = some true)
  (hargs:nF s.H ks (args.toList.map s.ev++cap) avs) (hle:dQ ks s.H ks H0) (hnd:ks.Nodup) (hks:ks.all (fun k=>decide (k < s.H.length))=true) (bD:xB q r H0 H1=true) (hd:ay s dst)
  (h:dL P false all rest K (({ s with H:=dE (cC s.H (ks.drop q)) (ks.take q) (H1.map (aH.aY (ks.take q++List.range' s.H.length (H1.length - q)))) } : St).put dst (Go.Pv.aY (ks.take q++List.range' s.H.length (H1.length - q)) r))) :
  dL P false all ({ dst:=dst,op:=.call { callee:=.value fo,args:=args,argTypes:=ts },type:=ty,pos:=pos,after:=aft,guard:=gd } :: rest) K s:=by
 obtain ⟨s',hr,hK⟩:=h
 exact ⟨s',.cons (.op s _ _ hg (bC hd) (o6 rfl hfo hc hargs hle hnd hks bD) fun h=>by cases h) hr,hK⟩
end
open Go.RowKit
section
variable {P:Program} {T:TypeId→Option TI} {C:Ctx} {m:Map} {s:St} {tmps:Array Value} {w:World} {t:TypeId}
def eZ (t:TypeId) (ch:List PanicEntry):Prop:=ch=[{ v:=.iface t (.agg #[]),recovered:=false }]
theorem Rel.none (R:Rel C m s tmps w):Rel C (bV m []) ⟨s.n,[],[]⟩ tmps w:=
 R.weaken (π:=[]) ⟨rfl,List.nodup_nil,trivial,trivial⟩
def Gb (P:Program) (q:Nat) (t:TypeId) (f:FuncId) (args:List AV) (H0:az):Prop:=
 Fj P f∧∀ (C:Ctx) (m:Map) (w:World) (vals:Array Value),Rel C m ⟨args.length,cK 0 args,H0++aR 0 q⟩ vals w →
  Calls P f vals w fun e w'=>∃ ch n tmps m',e = .panicked ch∧eZ t ch∧Rel C m' ⟨n,[],[]⟩ tmps w'
def Ji (P:Program) (q:Nat) (t:TypeId) (f:FuncId) (args:List AV) (H0:az):Option (AV × az)→Prop
 | some x=>Ee P q f args H0 x.1 x.2
 | .none=>Gb P q t f args H0
def uL (T:TypeId→Option TI) (t:TypeId) (rs:List ResultVar) (q:Nat):Option (AV × az)→Exit→St→Prop
 | some x=>eR T rs x.1 (x.2++aR 0 q)
 | .none=>fun e _=>∃ ch,e = .panic ch∧eZ t ch
theorem Ca {q:Nat} {f:FuncId} {fn:Func} {c:Code} {args:List AV} {H0:az} (hf:P.funcs[f]? = some fn) (hb:fn.body=some c) (hnm:(fn.name == "runtime.NumGoroutine")=false) (hn:args.length≤fn.ntmps)
  (h:Holds P c (fun e _=>∃ ch,e = .panic ch∧eZ t ch) ⟨fn.ntmps,cK 0 args,H0++aR 0 q⟩):Gb P q t f args H0:=by
 refine ⟨⟨fn,hf,hnm,by rw [hb]; rfl⟩,fun C m w vals R0=>calls_of_wp hf hb (fq.1 ?_)⟩
 have hsz:vals.size=args.length:=R0.size
 have R:Rel C m ⟨fn.ntmps,cK 0 args,H0++aR 0 q⟩ (vals++Array.replicate (fn.ntmps - vals.size) undef) w:=by
  refine ⟨R0.laid,R0.below,R0.base,by simp; omega,R0.inj,R0.blk,R0.fro,fun t=>?_,R0.mp⟩
  have hs:=R0.slot t
  by_cases ht:t < vals.size
  ·rw [Array.getD_eq_getD_getElem?,Array.getElem?_append_left ht,← Array.getD_eq_getD_getElem?]
   exact hs
  have e:lk (cK 0 args) t = .dead:=by
   rw [gR,if_pos (Nat.zero_le _),List.getD_eq_getElem?_getD,List.getElem?_eq_none (by omega)]; rfl
  unfold St.get
  simp only
  rw [e]
  exact .dead _
 refine eF (h Option.none [] _ _ { tmps:=vals++Array.replicate (fn.ntmps - vals.size) undef,defers:=[] } w R rfl) fun e a' w' ⟨s',m',⟨ch,he,hc⟩,h2,h3⟩=>?_
 subst he
 exact ⟨h3,ch,_,_,_,rfl,hc,h2.none⟩
theorem Hq (hT:∀ t ti,T t=some ti→bk P t=some ti) {q:Nat} {f:FuncId} {fn:Func} {c:Code} {args:List AV} {H0:az} {o:Option (AV × az)} (hf:P.funcs[f]? = some fn) (hb:fn.body=some c) (hnm:(fn.name == "runtime.NumGoroutine")=false) (hn:args.length≤fn.ntmps)
  (h:Holds P c (uL T t fn.results.toList q o) ⟨fn.ntmps,cK 0 args,H0++aR 0 q⟩):Ji P q t f args H0 o:=by
 cases o with
 | some x=>exact A7 hT hf hb hnm hn h
 | none=>exact Ca hf hb hnm hn h
def ir (P:Program) (t:TypeId) (o:Oper) (s:St) (H' : az):Prop:=
 ∀ C m (a:Act) w (K:Act→World→Prop) (Q:Exit→Act→World→Prop),Rel C m s a.tmps w→(∀ ch m' w',eZ t ch→Rel C m' { s with H:=H' } a.tmps w'→Q (.panic ch) a w')→zu P o a w K Q
theorem ud {o:Oper} {fo:Operand} {args:Array Operand} {ts:Array TypeId} (ho:o.op = .call { callee:=.value fo,args:=args,argTypes:=ts }) {g:FuncId} {cap:List AV} (hfo:Bp (s.ev fo)=some (g,cap)) {q:Nat} {ks:List Nat} {avs:List AV} {H0:az}
  (hc:Gb P q t g avs H0) (hargs:nF s.H ks (args.toList.map s.ev++cap) avs) (hle:dQ ks s.H ks H0) (hnd:ks.Nodup) (hks:ks.all (fun k=>decide (k < s.H.length))=true) (hq:q≤H0.length) (hna:H0.all cf=true) (hsp:H0.all (fun b=>!b.AX)=true) :
  ir P t o s (cC s.H ks):=by
 intro C m a w K Q R hK
 have hks' : ∀ k∈ks,k < s.H.length:=fun k hk=>by simpa using (List.all_eq_true.1 hks) k hk
 obtain ⟨vs,hfe,hcl,hcr⟩:=ym R hfo
 obtain ⟨⟨fn,hfn,hnm,hbd⟩,hcalls⟩:=hc
 have hrun:(execOp a.eval o).run P w = .ok (.enter g (args.map a.eval++vs)) w:=by
  have hnm' : ¬ fn.name = "runtime.NumGoroutine":=by simpa using hnm
  have hbd' : ¬ fn.body = .none:=by intro e; rw [e] at hbd; simp at hbd
  simp [execOp,ho,resolve,hfe,Deferred.ofValue,invoke,callFunc,hfn,hnm',hbd']
 refine aW (by rw [ho]; rfl) ?_
 unfold Oper.wp
 rw [hrun]
 simp only [Oper.upon]
 have g1:=(hle.get).1
 obtain ⟨e1,e2⟩:=iG R (rd':=Reads (OK (iA C m s.H ks H0 w) (bV m ks) H0 w) w) (H0:=H0) (fun p v h=>h.mono (yK hle)) g1.symm _ avs (fun i=>(args.map a.eval++vs).getD i undef) hargs fun i hi=>by
  simp only [List.length_append,List.length_map,Array.length_toList] at hi
  by_cases hip:i < args.size
  ·rw [List.getElem_append_left (by simpa using hip)]
   simp only [Array.getD_eq_getD_getElem?]
   rw [Array.getElem?_append_left (by simpa using hip)]
   have:=R.ev args[i]
   simpa [Array.getElem?_eq_getElem hip] using this
  rw [List.getElem_append_right (by simp; omega)]
  simp only [Array.getD_eq_getD_getElem?]
  rw [Array.getElem?_append_right (by simp; omega)]
  simp only [List.length_map,Array.length_toList,Array.size_map]
  have:=hcr (i - args.size) (by omega)
  rw [Array.getD_eq_getD_getElem?] at this
  exact this
 have hsz:(args.map a.eval++vs).size=avs.length:=by
  rw [e1]; simp; omega
 have R0':=R.A3 (q:=q) hle hnd hq hna hsz e2
 refine (hcalls _ _ w _ R0').mono fun e w' ⟨ch,n,tmps,m',he,hch,R1⟩=>?_
 subst he
 have R2:Rel (iA C m s.H ks H0 w) m' ⟨1,[(0,.dead)],[]++aR 0 0⟩ #[undef] w':=
  ⟨R1.laid,R1.below,R1.base,rfl,R1.inj,R1.blk,R1.fro,fun t=>by
   cases t with
   | zero=>exact .dead _
   | succ t=>exact .dead _,R1.mp⟩
 obtain ⟨m2,R3,_⟩:=R.zY (q:=0) (H1:=[]) hle hks' R2 (by
  unfold xB
  simp only [List.drop_zero,hsp,hna,List.take_zero]
  rfl)
 refine hK ch m2 w' hch ?_
 have e:dE (cC s.H (ks.drop 0)) (ks.take 0) (([]:az).map (aH.aY (ks.take 0++List.range' s.H.length (([]:az).length - 0))))=cC s.H ks:=by
  simp [dE]
 rw [e] at R3
 exact R3
theorem sF {id:Nat} {L:List Oper} {Q:Exit→St→Prop} (n:Nat)
  (h:dL P false L.toArray (L.take n) (fun s1=>∃ o H',L[n]? = some o∧a8 L.toArray s1 o=some true∧ir P t o s1 H'∧∀ ch,eZ t ch→Q (.panic ch) { s1 with H:=H' }) s):Holds P (.region id L.toArray false) Q s:=by
 intro r ds C m a w R hd
 obtain ⟨s1,hr,o,H',ho,hg,hth,hQ⟩:=h
 refine gu ?_
 have hL:L=L.take n++(o :: L.drop (n + 1)):=by
  have hn:=(List.getElem?_eq_some_iff.1 ho).1
  have h1:=List.drop_eq_getElem_cons (l:=L) (i:=n) hn
  rw [List.getElem?_eq_getElem hn,Option.some.injEq] at ho
  rw [ho] at h1
  rw [← h1,List.take_append_drop]
 have go:jc P L.toArray (fun e a' w'=>∃ s' m',Q e s'∧Rel C m' s' a'.tmps w'∧a'.defers=ds) (L.take n++(o :: L.drop (n + 1))) a w:=by
  refine hr.Gr R hd fun m' a' w' R' hd'=>?_
  have hw:=bW (P:=P) R' hg
  refine kD fun K hK=>?_
  rw [if_pos hw]
  exact hth C m' a' w' K _ R' fun ch m2 w2 hch R2=>⟨_,m2,hQ ch hch,R2,hd'⟩
 rwa [← hL] at go
theorem bI {a:Act} {d:Nat} {v:Value} (h:d < a.tmps.size):(a.put (some d) v).eval (.tmp d)=v:=by
 simp [Act.put,Act.eval,Array.getD_eq_getD_getElem?,Array.getElem?_setIfInBounds,h]
theorem zS (hT:∀ t ti,T t=some ti→bk P t=some ti) {ti:TI} (ht:T t=some ti) (hk:ti.kind = .struct []) (hz:ti.zero=[]) {id a b ty1 ty2 ty3:Nat} {p1 p2 p3:String} {e1 e2 e3:Array Edge} {Q:Exit→St→Prop} (ha:a < s.n) (hb:b < s.n)
  (hQ:∀ ch s',eZ t ch→s'.n=s.n→s'.H=s.H→Q (.panic ch) s') :
  Holds P (.region id #[{ dst:=some a,op:=.build t #[],type:=ty1,pos:=p1,after:=e1,guard:=.none },{ dst:=some b,op:=.makeInterface t (.tmp a),type:=ty2,pos:=p2,after:=e2,guard:=.none },{ dst:=.none,op:=.panic (.tmp b),type:=ty3,pos:=p3,after:=e3,guard:=.none }] false) Q s:=by
 intro r ds C m ac w R hd
 refine gu (l:=[_,_,_]) ?_
 refine lq rfl fun K hK=>?_
 obtain ⟨hr1,v,hv1,hv2⟩:=n4 hT R (o:={ dst:=some a,op:=.build t #[],type:=ty1,pos:=p1,after:=e1,guard:=.none }) (t:=t) (parts:=#[]) rfl ht (r:=⟨True,.p (.agg []),s.H⟩) (by unfold kn; rw [hk,hz]; rfl) trivial
 have hv:v = .agg #[]:=by
  have:=hv2.aN
  cases this with
  | agg _ vs hl _ =>
   have:vs = #[]:=by
    apply Array.eq_empty_of_size_eq_zero
    simpa using hl
   rw [this]
 subst hv
 refine aW rfl ?_
 unfold Oper.wp
 rw [hv1]
 simp only [Oper.upon]
 refine hK _ _ ?_
 have R1:Rel C m (s.put (some a) .dead) (ac.put (some a) (.agg #[])).tmps w:=R.put (fun t h=>by cases h; exact ha) (.dead _)
 refine lq rfl fun K hK=>?_
 have hu:∃ fs,P.underlying t=some (.struct fs):=by
  obtain ⟨fs,h,_⟩:=kJ (hT _ _ ht) hk
  exact ⟨fs,h⟩
 obtain ⟨fs,hu⟩:=hu
 have h2:(execOp (ac.put (some a) (.agg #[])).eval { dst:=some b,op:=.makeInterface t (.tmp a),type:=ty2,pos:=p2,after:=e2,guard:=.none }).run P w = .ok (.value (.iface t (.agg #[]))) w:=by
  simp only [execOp,Instr.makeInterface]
  rw [bI (by rw [R.size]; exact ha)]
  simp [run_underlying hu]
 refine aW rfl ?_
 unfold Oper.wp
 rw [h2]
 simp only [Oper.upon]
 refine hK _ _ ?_
 have R2:Rel C m ((s.put (some a) .dead).put (some b) .dead) ((ac.put (some a) (.agg #[])).put (some b) (.iface t (.agg #[]))).tmps w:=R1.put (fun t h=>by cases h; exact hb) (.dead _)
 refine lq rfl fun K hK=>?_
 have h3:(execOp ((ac.put (some a) (.agg #[])).put (some b) (.iface t (.agg #[]))).eval { dst:=.none,op:=.panic (.tmp b),type:=ty3,pos:=p3,after:=e3,guard:=.none }).run P w = .halt (.panic (.iface t (.agg #[]))) w:=by
  simp only [execOp]
  rw [bI (by rw [R1.size]; exact hb)]
  simp [Instr.panic,goPanic]
 refine aW rfl ?_
 unfold Oper.wp
 rw [h3]
 simp only [Oper.upon]
 exact ⟨_,m,hQ _ ((s.put (some a) .dead).put (some b) .dead) rfl rfl rfl,R2,by rw [put_defers,put_defers]; exact hd⟩
theorem Cj (hm:P.follows .mixedOrders=true) {id:Nat} {ops:Array Oper} {Q:Exit→St→Prop} (n:Nat) {on:Oper} (hn:ops[n]? = some on) (out:Nat→AV) {H' : az}
  (hedge:∀ (j:Nat) (o:Oper),ops[j]? = some o→∀ e∈o.after.toList,Region.binds .any e=true→e.on < j)
  (hdst:∀ (i j:Nat) (oi oj:Oper) (t:Nat),ops[i]? = some oi→ops[j]? = some oj→oi.dst=some t→oj.dst=some t→i=j)
  (hbig:∀ (j:Nat) (o:Oper),ops[j]? = some o→j ≠ n→(∃ e∈o.after.toList,Region.binds .any e=true∧e.on=n) ∨
   (o.guard = .none∧(∀ t,o.dst=some t→t < s.n)∧(∀ x∈o.op.operands,∀ t,x = .tmp t→∀ (i:Nat) (oi:Oper),ops[i]? = some oi→oi.dst ≠ some t) ∧
    ∀ s2:St,s2.n=s.n→s2.H=s.H→(∀ x∈o.op.operands,s2.ev x=s.ev x)→bu P o s2 (out j) s.H))
  (hg:on.guard = .none)
  (hth:∀ s2:St,s2.n=s.n→s2.H=s.H→(∀ t,(∀ (i:Nat) (oi:Oper),ops[i]? = some oi→oi.dst ≠ some t)→s2.get t=s.get t)→(∀ e∈on.after.toList,Region.binds .any e=true→∀ (o:Oper) (t:Nat),ops[e.on]? = some o→o.dst=some t→s2.get t=out e.on)→ir P t on s2 H')
  (hQ:∀ ch s',eZ t ch→s'.n=s.n→s'.H=H'→(∀ t,(∀ (i:Nat) (oi:Oper),ops[i]? = some oi→oi.dst ≠ some t)→s'.get t=s.get t)→Q (.panic ch) s'):Holds P (.region id ops true) Q s:=by
 intro r ds C m a w R hd
 refine eM hm ?_
 have hnl:n < ops.size:=(Array.getElem?_eq_some_iff.1 hn).1
 have key:∀ (fuel:Nat) (listed:Array Bool) (s2:St) (m:Map) (a:Act) (w:World),listed.size=ops.size→(List.range ops.size).countP (fun i=>!listed.getD i true)=fuel→listed.getD n false=false →
   s2.n=s.n→s2.H=s.H→(∀ t,(∀ (i:Nat) (oi:Oper),ops[i]? = some oi→oi.dst ≠ some t)→s2.get t=s.get t)→(∀ (j:Nat) (o:Oper) (t:Nat),listed.getD j false=true→ops[j]? = some o→o.dst=some t→s2.get t=out j) →
   Rel C m s2 a.tmps w→a.defers=ds→lM P .any ops (fun e a' w'=>∃ s' m',Q e s'∧Rel C m' s' a'.tmps w'∧a'.defers=ds) fuel listed a w:=by
  intro fuel
  induction fuel with
  | zero =>
   intro listed s2 m a w hsz hcnt hln
   exfalso
   have:=List.countP_eq_zero.1 hcnt n (by simpa using hnl)
   simp [Array.getD_eq_getD_getElem?,Array.getElem?_eq_getElem (show n < listed.size by omega)] at this hln
   rw [this] at hln; cases hln
  | succ fuel ih =>
   intro listed s2 m a w hsz hcnt hln e1 e2 e3 e4 R hd
   refine ⟨fun hnil=>?_,fun j hj=>?_⟩
   ·exfalso
    have hex:∃ i,i < ops.size∧listed.getD i true=false:=⟨n,hnl,by
     simp [Array.getD_eq_getD_getElem?,Array.getElem?_eq_getElem (show n < listed.size by omega)] at hln ⊢
     exact hln⟩
    have hmin:∃ i,i < ops.size∧listed.getD i true=false∧∀ k,k < i→listed.getD k true=true:=by
     obtain ⟨i,hi,h⟩:=hex
     induction i using Nat.strongRecOn with
     | _ i ihh =>
      by_cases hall:∀ k,k < i→listed.getD k true=true
      ·exact ⟨i,hi,h,hall⟩
      simp only [Classical.not_forall] at hall
      obtain ⟨k,hk,hkn⟩:=hall
      exact ihh k hk (by omega) (by simpa using hkn)
    obtain ⟨i,hi,hli,hbelow⟩:=hmin
    have hmem:i∈Region.ready .any ops listed:=by
     unfold Region.ready
     rw [List.mem_filter]
     refine ⟨by simpa using hi,?_⟩
     rw [hli,Array.getElem?_eq_getElem hi]
     simp only [Bool.not_false,Bool.true_and,Option.map_some,Option.getD_some]
     rw [Array.all_eq_true_iff_forall_mem]
     intro e he
     by_cases hb:Region.binds .any e=true
     ·have hlt:=hedge i ops[i] (Array.getElem?_eq_getElem hi) e (by simpa using he) hb
      have:=hbelow e.on hlt
      have hlt' : e.on < listed.size:=by omega
      simp [Array.getD_eq_getD_getElem?,Array.getElem?_eq_getElem hlt'] at this ⊢
      simp [this]
     simp [hb]
    rw [hnil] at hmem
    simp at hmem
   unfold Region.ready at hj
   rw [List.mem_filter] at hj
   obtain ⟨hjlt,hj⟩:=hj
   have hjlt:j < ops.size:=by simpa using hjlt
   have hoj:ops[j]? = some ops[j]:=Array.getElem?_eq_getElem hjlt
   generalize ops[j]=o at hoj
   rw [hoj] at hj
   simp only [Option.map_some,Option.getD_some,Bool.and_eq_true,Bool.not_eq_eq_eq_not,Bool.not_true] at hj
   obtain ⟨hnl2,hal⟩:=hj
   have hjls:j < listed.size:=by omega
   have hpre:∀ e∈o.after.toList,Region.binds .any e=true→listed.getD e.on false=true:=by
    intro e he hb
    have:=(Array.all_eq_true_iff_forall_mem.1 hal) e (by simpa using he)
    rw [hb] at this
    simpa using this
   unfold Hx
   rw [hoj]
   by_cases hjn:j=n
   ·subst hjn
    rw [hn] at hoj; cases hoj
    simp only [Region.wanted,hg,if_true]
    refine .inl ?_
    refine hth s2 e1 e2 e3 (fun e he hb o t ho ht=>e4 _ o t (hpre e he hb) ho ht) C m a w _ _ R fun ch m' w' hch R'=>?_
    exact ⟨{ s2 with H:=H' },m',hQ ch { s2 with H:=H' } hch e1 rfl e3,R',hd⟩
   rcases hbig j o hoj hjn with ⟨e,he,hb,heq⟩ | ⟨h1,h2,h3,h4⟩
   ·have:=hpre e he hb
    rw [heq,hln] at this; cases this
   simp only [Region.wanted,h1,if_true]
   refine .inl ?_
   have hev:∀ x∈o.op.operands,s2.ev x=s.ev x:=by
    intro x hx
    cases x with
    | tmp t=>exact e3 t (h3 _ hx t rfl)
    | _=>rfl
   refine h4 s2 e1 e2 hev C m a w _ _ R fun v m' w' R' hv=>?_
   rw [← e2] at R' hv
   have R2:Rel C m' (s2.put o.dst (out j)) (a.put o.dst v).tmps w':=R'.put (fun t ht=>by rw [e1]; exact h2 t ht) hv
   have hsz2:(listed.setIfInBounds j true).size=ops.size:=by rw [Array.size_setIfInBounds]; exact hsz
   have hgl:∀ i,(listed.setIfInBounds j true).getD i false=if i=j then true else listed.getD i false:=by
    intro i
    simp only [Array.getD_eq_getD_getElem?,Array.getElem?_setIfInBounds]
    by_cases hij:i=j
    ·subst hij; simp [hjls]
    rw [if_neg (fun h=>hij h.symm),if_neg hij]
   have hglt:∀ i,(listed.setIfInBounds j true).getD i true=if i=j then true else listed.getD i true:=by
    intro i
    simp only [Array.getD_eq_getD_getElem?,Array.getElem?_setIfInBounds]
    by_cases hij:i=j
    ·subst hij; simp [hjls]
    rw [if_neg (fun h=>hij h.symm),if_neg hij]
   refine ih _ (s2.put o.dst (out j)) m' _ w' hsz2 ?_ (by rw [hgl,if_neg (fun h=>hjn h.symm)]; exact hln) (by rw [St.jl]; exact e1) (by rw [St.fD]; exact e2) (fun t ht=>?_) (fun i oi t hi ho ht=>?_) R2 (by rw [put_defers]; exact hd)
   ·have:(List.range ops.size).countP (fun i=>!(listed.setIfInBounds j true).getD i true) + 1=(List.range ops.size).countP (fun i=>!listed.getD i true):=by
     have hj1:listed.getD j true=false:=by
      simpa using hnl2
     have hsplit:∀ (l:List Nat),l.Nodup→j∈l→l.countP (fun i=>!listed.getD i true)=l.countP (fun i=>!(listed.setIfInBounds j true).getD i true) + 1:=by
      intro l hnd hmem
      induction l with
      | nil=>cases hmem
      | cons x r ihl =>
       rw [List.nodup_cons] at hnd
       by_cases hxj:x=j
       ·subst hxj
        have e1:(listed.setIfInBounds x true).getD x true=true:=by rw [hglt,if_pos rfl]
        rw [List.countP_cons,List.countP_cons,hj1,e1]
        have:r.countP (fun i=>!listed.getD i true)=r.countP (fun i=>!(listed.setIfInBounds x true).getD i true):=by
         apply List.countP_congr
         intro i hi
         rw [hglt,if_neg (fun h=>hnd.1 (by rw [← h]; exact hi))]
        rw [this]; rfl
       rw [List.countP_cons,List.countP_cons,hglt x,if_neg hxj,ihl hnd.2 (by rcases List.mem_cons.1 hmem with h | h; exact absurd h.symm hxj; exact h)]
       omega
     exact (hsplit _ List.nodup_range (by simpa using hjlt)).symm
    omega
   ·rw [dB,if_neg (ht j o hoj)]
    exact e3 t ht
   rw [dB]
   by_cases hij:i=j
   ·subst hij
    rw [hoj] at ho; cases ho
    rw [if_pos ht]
   rw [if_neg (fun h=>hij (hdst i j oi o t ho hoj ht h))]
   rw [hgl,if_neg hij] at hi
   exact e4 i oi t hi ho ht
 refine key _ _ s m a _ (by simp) ?_ ?_ rfl rfl (fun _ _=>rfl) (fun j o t hj=>?_) ?_ hd
 ·have h1:∀ i∈List.range ops.size,(!(Array.replicate ops.size false).getD i true)=true:=by
   intro i hi
   have:=List.mem_range.1 hi
   simp [Array.getD_eq_getD_getElem?,this]
  rw [List.countP_eq_length.2 h1,List.length_range]
 ·simp [Array.getD_eq_getD_getElem?,Array.getElem?_replicate,hnl]
 ·exfalso
  simp only [Array.getD_eq_getD_getElem?,Array.getElem?_replicate] at hj
  split at hj<;>cases hj
 exact R.later ⟨rfl,rfl,rfl,Nat.le_refl _,fun _ _=>rfl,Nat.le_succ _⟩
end
end Go.Pv
namespace Go.Proofs.YtpobnnfkeekiaaaDoor.Pr
open Go.Pv
section
variable {N:List (List Int)} {U:List Int} {most:Int} {m:Nat}
theorem Ge (w k:Nat):(eU w k).all bm=true:=by simp [eU,bm]
set_option maxHeartbeats 4000000 in
set_option maxRecDepth 20000 in
theorem ve (h:U.length=N.length) (hk:N.length≤100000000) (hf:¬ (N.length:Int) < most) :
  Gb Tryd.prog 1 72 53 [.ptr 0 0] (CB m most (2 * m) N U):=by
 unfold CB qR
 refine Ca (q:=1) Tryd.func53 rfl (by kernel_rfl) (by rw [Tryd.ntmps53]; exact Nat.le_add_left 1 _) ?_; rw [Tryd.ntmps53]; simp only [aR,cK,List.length_cons,List.length_nil,List.cons_append,List.nil_append,Nat.reduceAdd,Nat.zero_add]
 have hh:=h
 refine qm ?_
 refine ab fun K hK=>aa ae ?_
 simp only [an,fl,gp,ak,simprocAttr]
 refine af trivial (hK _ ?_)<;>clear hK K
 refine qa (qm (qm ?_))
 refine aO mixed (by kernel_rfl) fun K hK=>aa ae ?_
 simp only [an,fl,gp,ak,simprocAttr]
 refine af ?_ (hK _ ?_)<;>clear hK K
 ·first|exact trivial|omega|(simp only [ah] at *; omega)|(simp [ah] at *; omega)|simp_all
 refine qa ?_
 refine aq rfl (fun hC1=>?_) (fun hC1=>?_)
 ·(try simp only [aE] at hC1)
  refine zS ae rfl rfl rfl (show (15:Nat) < 62 by decide) (show (16:Nat) < 62 by decide) fun ch s' hch _ _=>?_
  exact ⟨ch,rfl,hch⟩
 (try simp only [aE] at hC1)
 exact absurd hC1 (by simp; omega)
theorem D8 (k:Nat) (z:Int):List.replicate k (AV.p (.int .i64 z))=ol (List.replicate k z):=by simp [ol,il]
theorem Ao {n i:Nat} (h:i < n) (a b:Int):(List.replicate i a++List.replicate (n - i) b).set i a=List.replicate (i + 1) a++List.replicate (n - (i + 1)) b:=by
 rw [List.set_append_right _ _ (by simp),List.length_replicate,Nat.sub_self,show n - i=(n - (i + 1)) + 1 by omega,List.replicate_succ,List.set_cons_zero,List.replicate_succ',List.append_assoc]; rfl
set_option maxHeartbeats 4000000 in
set_option maxRecDepth 20000 in
theorem pZ (hm:1≤m∧m≤6) (h:U.length=N.length) (hk:N.length≤100000000) (hf:(N.length:Int) < most) :
  Ee Tryd.prog 1 53 [.ptr 0 0] (CB m most (2 * m) N U) (.p (.int .i64 (N.length:Nat))) (CB m most (2 * m) (N++[Aq m]) (U++[(U.length:Int)])):=by
 obtain ⟨H1,hH1⟩:∃ H1,CB m most (2 * m) (N++[Aq m]) (U++[(U.length:Int)])=H1:=⟨_,rfl⟩
 rw [hH1]
 unfold CB qR
 refine A7 (q:=1) ae Tryd.func53 rfl (by kernel_rfl) (by rw [Tryd.ntmps53]; exact Nat.le_add_left 1 _) ?_; rw [Tryd.ntmps53]; simp only [aR,cK,List.length_cons,List.length_nil,List.cons_append,List.nil_append,Nat.reduceAdd,Nat.zero_add]
 obtain ⟨k,hkN⟩:∃ k,N.length=k:=⟨_,rfl⟩
 have hAl:(N.map bZ++[.bf 0 0]:az).length=k + 1:=by simp [hkN]
 obtain ⟨A,hA⟩:∃ A,(N.map bZ++[.bf 0 0]:az)=A:=⟨_,rfl⟩
 rw [hA] at hAl
 rw [hA,h]
 rw [hkN] at h hk hf ⊢
 refine qm ?_
 refine ab fun K hK=>aa ae ?_
 simp only [an,fl,gp,ak,simprocAttr]
 refine af trivial (hK _ ?_)<;>clear hK K
 refine qa (qm (qm ?_))
 refine aO mixed (by kernel_rfl) fun K hK=>aa ae ?_
 simp only [an,fl,gp,ak,simprocAttr]
 refine af ?_ (hK _ ?_)<;>clear hK K
 ·first|exact trivial|omega|(simp only [ah] at *; omega)|(simp [ah] at *; omega)|simp_all
 refine qa ?_
 refine aq rfl (fun hC1=>?_) (fun hC1=>?_)
 ·(try simp only [aE] at hC1)
  exact absurd hC1 (by simp; omega)
 (try simp only [aE] at hC1)
 refine qh (qa (qm ?_))
 refine ab fun K hK=>aa ae ?_
 simp only [an,fl,gp,ak,simprocAttr,cq.eq_def,-List.reduceReplicate,hAl,List.length_append,(show (2 * (m:Int)).toNat=2 * m by omega),D8]
 refine af ?_ (hK _ ?_)<;>clear hK K
 ·exact ⟨⟨by omega,by omega⟩,by omega,by omega,by omega,by omega⟩
 refine qa (qm (qm ?_))
 refine ab fun K hK=>aa ae ?_
 simp only [an,fl,gp,ak,simprocAttr]
 refine af trivial (hK _ ?_)<;>clear hK K
 refine qa (ql ?_)
 have hAs:∀ L,k + 3≤L→∀ b∈A,bD L b=true:=fun L hL b hb=>by
  rw [← hA] at hb
  rcases List.mem_append.1 hb with hb | hb
  ·obtain ⟨f,_,rfl⟩:=List.mem_map.1 hb
   exact fG _ _
  simp only [List.mem_cons,List.not_mem_nil,or_false] at hb
  subst hb
  simp [bD]; omega
 have hHl:∀ R:List Int,(.own [.p (.int .i64 m),.sl 1 0 k,.sl 2 0 k,.p (.int .i64 most)] :: .own (eU (2 * m) k) :: .own (ol U) :: (A++[.own (ol R)]):az).length=k + 5:=fun R=>by simp [hAl]
 have hHs:∀ R:List Int,∀ b∈(.own [.p (.int .i64 m),.sl 1 0 k,.sl 2 0 k,.p (.int .i64 most)] :: .own (eU (2 * m) k) :: .own (ol U) :: (A++[.own (ol R)]):az),bD (.own [.p (.int .i64 m),.sl 1 0 k,.sl 2 0 k,.p (.int .i64 most)] :: .own (eU (2 * m) k) :: .own (ol U) :: (A++[.own (ol R)]):az).length b=true:=fun R b hb=>by
  rw [hHl]
  simp only [List.mem_cons,List.mem_append,List.not_mem_nil,or_false] at hb
  rcases hb with rfl | rfl | rfl | hb | rfl
  ·simp [bD,bj,bn]
  ·exact wP (by omega)
  ·exact fG _ _
  ·exact hAs _ (by omega) b hb
  exact fG _ _
 have g0:∀ x:aH,aA (A++[x]) (k + 1)=x:=fun x=>by
  have:=kE A x
  rwa [hAl] at this
 have s0:∀ x y:aH,aF (A++[x]) (k + 1) y=A++[y]:=fun x y=>by
  rw [gQ,List.set_append_right _ _ (by omega),hAl,Nat.sub_self]; rfl
 refine aD (ι:=Nat) (fun i=>⟨62,[(0,.ptr 0 0),(3,.sl (k + 1 + 1 + 1 + 1) 0 (2 * m)),(24,.p (.int .i64 (2 * m:Nat))),(25,.p (.int .i64 i))],.own [.p (.int .i64 m),.sl 1 0 k,.sl 2 0 k,.p (.int .i64 most)] :: .own (eU (2 * m) k) :: .own (ol U) :: (A++[.own (ol (List.replicate i (-1)++List.replicate (2 * m - i) 0))])⟩) (fun i=>i≤2 * m) (fun i=>2 * m - i) 0 (Nat.zero_le _) _ (dM rfl (by simp) (hHs _) (by
  rw [hHl]
  simp [St.get,lk,bj,bn])) fun i hi=>?_
 refine qm ?_
 refine ab fun K hK=>aa ae ?_
 simp only [an,fl,gp,ak,simprocAttr]
 refine af trivial (hK _ ?_)<;>clear hK K
 refine qa (qm ?_)
 refine aq rfl (fun hC2=>?_) (fun hC2=>?_)
 ·(try simp only [aE] at hC2)
  have hil:i < 2 * m:=by omega
  refine qh (qa (qm (ql (qm ?_))))
  refine ab fun K hK=>aa ae ?_
  simp only [an,fl,gp,ak,simprocAttr]
  refine af trivial (hK _ ?_)<;>clear hK K
  refine qa ?_
  refine ab fun K hK=>aa ae ?_
  simp only [an,fl,gp,ak,simprocAttr,g0,s0,Int.toNat_natCast,cH,Ao hil]
  refine af ?_ (hK _ ?_)<;>clear hK K
  ·exact ⟨⟨by omega,by omega⟩,by simp; omega⟩
  refine qd (qa ?_)
  refine ab fun K hK=>aa ae ?_
  simp only [an,fl,gp,ak,simprocAttr]
  refine af ?_ (hK _ ?_)<;>clear hK K
  ·first|exact trivial|omega|(simp only [ah] at *; omega)|(simp [ah] at *; omega)|simp_all
  refine qa ?_
  refine ⟨i + 1,_,by omega,by omega,dM rfl rfl (hHs _) (by
   rw [hHl]
   simp [St.get,lk,bj,bn])⟩
 (try simp only [aE] at hC2)
 have hie:i=2 * m:=by omega
 subst hie
 rw [Nat.sub_self,List.replicate_zero,List.append_nil,show List.replicate (2 * m) (-1)=Aq m from rfl]
 have g1:∀ x y:aH,aA (A++[x]++[y]) (k + 1 + 1)=y:=fun x y=>by
  have:=kE (A++[x]) y
  rwa [List.length_append,hAl] at this
 have g2:∀ x y z:aH,aA (A++[x]++[y]++[z]) (k + 1 + 2)=z:=fun x y z=>by
  have:=kE (A++[x]++[y]) z
  rwa [List.length_append,List.length_append,hAl] at this
 have g3:∀ x y z t:aH,aA (A++[x]++[y]++[z]++[t]) (k + 1 + 3)=t:=fun x y z t=>by
  have:=kE (A++[x]++[y]++[z]) t
  rwa [List.length_append,List.length_append,List.length_append,hAl] at this
 have g4:(eU (2 * m) k).take k=eU (2 * m) k:=List.take_of_length_le (by rw [cp]; exact Nat.le_refl _)
 refine qj (qc (qc (qf (qa (qm ?_)))))
 refine ab fun K hK=>aa ae ?_
 simp only [an,fl,gp,ak,simprocAttr,g1,g4,hAl,List.length_append]
 refine ao ?_ (cB (r7 ae rfl rfl rfl rfl rfl rfl rfl rfl) rfl (by simp only [ay,Nat.reduceLT]) (aa ae ?_))
 ·first|exact trivial|omega|(simp only [ah] at *; omega)|(simp [ah] at *; omega)|simp_all
 simp only [an,fl,gp,ak,simprocAttr,g1,g4,hAl,List.length_append]
 refine af ?_ (hK _ ?_)<;>clear hK K
 ·exact ⟨Ge _ _,by rw [cp]; exact Nat.le_refl _,by omega,by omega⟩
 refine qa (qm ?_)
 refine aO mixed (by kernel_rfl) fun K hK=>aa ae ?_
 simp only [an,fl,gp,ak,simprocAttr,g1,g2,g3,hAl,List.length_append]
 refine af ?_ (hK _ ?_)<;>clear hK K
 ·exact ⟨by omega,by omega,by omega⟩
 refine qa (qm ?_)
 refine ab fun K hK=>aa ae ?_
 simp only [an,fl,gp,ak,simprocAttr]
 refine af ?_ (hK _ ?_)<;>clear hK K
 ·first|exact trivial|omega|(simp only [ah] at *; omega)|(simp [ah] at *; omega)|simp_all
 refine qa (qk ?_)
 simp only [Tryd.results53,eR,gq,dk,kR,bY,an,fl,gp,ak,simprocAttr]
 subst hA
 obtain ⟨π,hπ⟩:∃ π,π=0 :: (k + 6) :: (k + 7) :: (List.range' 3 k++[k + 4,k + 3]):=⟨_,rfl⟩
 have hpl:π.length=k + 5:=by rw [hπ]; simp
 have hp0:π.getD 0 0=0:=by rw [hπ]; rfl
 have hp1:π.getD 1 0=k + 6:=by rw [hπ]; rfl
 have hp2:π.getD 2 0=k + 7:=by rw [hπ]; rfl
 have hp3:∀ i,i < k→π.getD (i + 3) 0=i + 3:=fun i hi=>by
  rw [hπ,List.getD_cons_succ,List.getD_cons_succ,List.getD_cons_succ,List.getD_eq_getElem?_getD,List.getElem?_append_left (by simpa using hi)]
  simp [List.getElem?_range' hi]; omega
 have hp4:π.getD (k + 3) 0=k + 4:=by
  rw [hπ,List.getD_cons_succ,List.getD_cons_succ,List.getD_cons_succ,List.getD_eq_getElem?_getD,List.getElem?_append_right (by simp)]
  simp
 have hU:il [(k:Int)]=[PV.int .i64 k]:=rfl
 obtain ⟨H,hH⟩:∃ H:az,H=aH.own [AV.p (.int .i64 m),AV.sl (k + 1 + 1 + 1 + 1 + 1 + 1) 0 (k + 1),AV.sl (k + 1 + 1 + 1 + 1 + 1 + 1 + 1) 0 (k + 1),AV.p (.int .i64 most)] :: aH.dead :: aH.dead ::
   (N.map bZ++[aH.bf 0 0]++[aH.own (ol (Aq m))]++[aH.own [AV.sl (k + 1 + 1 + 1 + 1) 0 (2 * m)]]++[aH.own (eU (2 * m) k++[AV.sl (k + 1 + 1 + 1 + 1) 0 (2 * m)])]++[aH.own (ol (U++[(k:Int)]))]):=⟨_,rfl⟩
 refine ⟨π,?_,rfl,rfl,?_,?_,trivial⟩
 ·simp only [Go.Pv.aY,bg]
  rw [show (((k + 1:Nat):Int) - 1)=(k:Int) by omega]
 ·rw [hπ]
  refine List.nodup_cons.2 ⟨?_,List.nodup_cons.2 ⟨?_,List.nodup_cons.2 ⟨?_,?_⟩⟩⟩
  ·simp
  ·simp [List.mem_range'_1]; omega
  ·simp [List.mem_range'_1]; omega
  rw [List.nodup_append]
  refine ⟨List.nodup_range' ..,by simp,fun x hx y hy=>?_⟩
  rw [List.mem_range'_1] at hx
  simp only [List.mem_cons,List.not_mem_nil,or_false] at hy
  omega
 show dQ π _ π (H1++[aH.bf 0 0])
 have e0:∀ (a b c:aH) (T:az) (i:Nat),aA (a :: b :: c :: T) (i + 3)=aA T i:=fun _ _ _ _ _=>rfl
 have f0:aA H 0=aH.own [AV.p (.int .i64 m),AV.sl (k + 1 + 1 + 1 + 1 + 1 + 1) 0 (k + 1),AV.sl (k + 1 + 1 + 1 + 1 + 1 + 1 + 1) 0 (k + 1),AV.p (.int .i64 most)]:=by rw [hH]; rfl
 have f1:∀ i,i < k→aA H (3 + i)=bZ (N.getD i []):=fun i hi=>by
  rw [hH,Nat.add_comm 3 i,e0]
  simp only [List.append_assoc]
  exact jb (by omega)
 have f2:aA H (k + 3) = .bf 0 0:=by
  rw [hH,e0]
  simp only [List.append_assoc]
  rw [bc (by simp [hkN]),du,hkN,Nat.sub_self]; rfl
 have f3:aA H (k + 4)=bZ (Aq m):=by
  rw [hH,show k + 4=k + 1 + 3 by omega,e0]
  simp only [List.append_assoc]
  rw [bc (by simp [hkN]),du,hkN,Nat.add_sub_cancel_left]; rfl
 have f4:aA H (k + 6) = .own (eU (2 * m) k++[AV.sl (k + 1 + 1 + 1 + 1) 0 (2 * m)]):=by
  rw [hH,show k + 6=k + 3 + 3 by omega,e0]
  simp only [List.append_assoc]
  rw [bc (by simp [hkN]),du,hkN,Nat.add_sub_cancel_left]; rfl
 have f5:aA H (k + 7) = .own (ol (U++[(k:Int)])):=by
  rw [hH,show k + 7=k + 4 + 3 by omega,e0]
  simp only [List.append_assoc]
  rw [bc (by simp [hkN]),du,hkN,Nat.add_sub_cancel_left]; rfl
 have hb:H1++[aH.bf 0 0] = .own [.p (.int .i64 m),.sl 1 0 (k + 1),.sl 2 0 (k + 1),.p (.int .i64 most)] :: .own (eU (2 * m) (k + 1)) :: .own (ol (U++[(k:Int)])) :: (N.map bZ++[bZ (Aq m),.bf 0 0]):=by
  rw [← hH1]
  unfold CB qR
  simp [hkN,h]
 rw [hb]
 have hq1:(eU (2 * m) (k + 1)).map (Go.Pv.aY π)=eU (2 * m) k++[AV.sl (k + 1 + 1 + 1 + 1) 0 (2 * m)]:=by
  rw [← Ab,List.map_append]
  congr 1
  ·refine List.ext_getElem (by simp) fun i h1 h2=>?_
   have hi:i < k:=by simpa [cp] using h2
   simp only [eU,List.getElem_map,List.getElem_range,Go.Pv.aY,bg,hp3 i hi]
  simp only [List.map_cons,List.map_nil,Go.Pv.aY,bg,hp4]
 have goal:dQ π H (0 :: (k + 6) :: (k + 7) :: (List.range' 3 k++[k + 4,k + 3])) (.own [.p (.int .i64 m),.sl 1 0 (k + 1),.sl 2 0 (k + 1),.p (.int .i64 most)] :: .own (eU (2 * m) (k + 1)) :: .own (ol (U++[(k:Int)])) :: (N.map bZ++[bZ (Aq m),.bf 0 0])):=by
  refine ⟨?_,?_,ik f5,jd ?_ ⟨ik f3,?_,trivial⟩⟩
  ·simp only [dJ,f0,List.map_cons,List.map_nil,Go.Pv.aY,bg,hp1,hp2]
   refine ⟨rfl,?_⟩
   simp [bj,bn,hpl]
  ·simp only [dJ,f4,hq1]
   refine ⟨by rw [List.take_of_length_le (by simp [cp])],wP (by omega)⟩
  ·have:=oI (π:=π) (H:=H) (B:=N.map bZ) (a:=3) (fun i hi=>by
    rw [du,hkN] at hi
    rw [f1 i hi]
    have:=jb (N:=N) (X:=[]) (i:=i) (by omega)
    rw [List.append_nil] at this
    rw [this]) fun b hb=>by
    obtain ⟨f,_,rfl⟩:=List.mem_map.1 hb
    exact ik rfl
   rwa [du,hkN] at this
  simp only [dJ,f2,hp0]
  exact ⟨trivial,by omega⟩
 rw [← hπ,hH] at goal
 have hUt:U.take k=U:=List.take_of_length_le (by omega)
 simpa [hUt] using goal
end
end Go.Proofs.YtpobnnfkeekiaaaDoor.Pr
namespace Go.Pv
open Go.RowKit
section
variable {P:Program} {s:St}
theorem xl {L M:Nat} (h:L≤M) {x:AV} (hx:bn L x=true):bn M x=true:=by
 cases x<;>simp only [bn,decide_eq_true_eq,reduceCtorEq,Bool.false_eq_true] at hx ⊢<;>omega
theorem CK {L M:Nat} (h:L≤M) {x:AV} (hx:bj L x=true):bj M x=true:=by
 have hm:∀ l:List AV,l.all (bn L)=true→l.all (bn M)=true:=fun l hl=>List.all_eq_true.2 fun y hy=>xl h ((List.all_eq_true.1 hl) y hy)
 cases x with
 | agg l=>exact hm l hx
 | tup l=>exact hm l hx
 | cl f l=>exact hm l hx
 | yv k l vs =>
  simp only [bj,Bool.and_eq_true,decide_eq_true_eq] at hx ⊢
  exact ⟨by omega,hm l hx.2⟩
 | _=>simp only [bj] at hx ⊢; exact xl h hx
theorem AM {π:List Nat} {H:az} : ∀ {ks:List Nat} {H1:az},ks.length=H1.length→(∀ i,i < H1.length→dJ π H (ks.getD i 0) (aA H1 i))→dQ π H ks H1
 | [],[],_,_=>trivial
 | [],_ :: _,h,_=>by simp at h
 | _ :: _,[],h,_=>by simp at h
 | k :: ks,b :: r,h,hb=>⟨by simpa [aA] using hb 0 (by simp),AM (by simpa using h) fun i hi=>by simpa [aA] using hb (i + 1) (by simpa using hi)⟩
theorem BP {π:List Nat} {H:az} : ∀ {k1 k2:List Nat} {H1 H2:az},dQ π H k1 H1→dQ π H k2 H2→dQ π H (k1++k2) (H1++H2)
 | [],_,[],_,_,h=>h
 | [],_,_ :: _,_,h,_=>h.elim
 | _ :: _,_,[],_,h,_=>h.elim
 | _ :: _,_,_ :: _,_,h,h2=>⟨h.1,BP h.2 h2⟩
theorem ja:∀ (ks:List Nat) (H:az) (j:Nat),(∀ k∈ks,k ≠ j)→aA (cC H ks) j=aA H j
 | [],H,j,_=>rfl
 | k :: ks,H,j,h=>by
  rw [cC,ja ks _ j fun x hx=>h x (by simp [hx]),bO,if_neg (fun e=>h k (by simp) e.1.symm)]
def n8 (H0 X H1:az):az:=dE (cC (H0++X) ((List.range H0.length).drop 1)) ((List.range H0.length).take 1) (H1.map (aH.aY ((List.range H0.length).take 1++List.range' (H0++X).length (H1.length - 1))))
theorem yF {H0 X:az} {b1:aH} {R1:az} (h0:0 < H0.length):n8 H0 X (b1 :: R1)=aF (cC (H0++X) ((List.range H0.length).drop 1)) 0 (aH.aY (0 :: List.range' (H0.length + X.length) R1.length) b1)++R1.map (aH.aY (0 :: List.range' (H0.length + X.length) R1.length)):=by
 obtain ⟨k,hk⟩:∃ k,H0.length=k + 1:=⟨H0.length - 1,by omega⟩
 have e1:(List.range H0.length).take 1=[0]:=by
  rw [hk,List.range_succ_eq_map]; rfl
 unfold n8
 rw [e1]
 simp only [List.length_append,List.length_cons,Nat.add_sub_cancel,List.map_cons,dE,List.cons_append,List.nil_append]
theorem Ii {H0 X:az} {b1:aH} {R1:az} (h0:0 < H0.length):aA (n8 H0 X (b1 :: R1)) 0=aH.aY (0 :: List.range' (H0.length + X.length) R1.length) b1:=by
 rw [yF h0,bX (by rw [aB,bA]; simp; omega),bO,if_pos ⟨rfl,by rw [bA]; simp; omega⟩]
theorem Iq {H0 X:az} {b1:aH} {R1:az} (h0:0 < H0.length) {i:Nat} (hi:i < X.length):aA (n8 H0 X (b1 :: R1)) (H0.length + i)=aA X i:=by
 rw [yF h0,bX (by rw [aB,bA]; simp; omega),bO,if_neg (by omega),ja _ _ _ (fun k hk=>by
  have:=List.mem_range.1 (List.mem_of_mem_drop hk)
  omega),bc (by omega),Nat.add_sub_cancel_left]
theorem HC {H0 X:az} {b1:aH} {R1:az} (h0:0 < H0.length) {i:Nat} : aA (n8 H0 X (b1 :: R1)) (H0.length + X.length + i)=aA (R1.map (aH.aY (0 :: List.range' (H0.length + X.length) R1.length))) i:=by
 rw [yF h0,bc (by rw [aB,bA]; simp),aB,bA,List.length_append,Nat.add_sub_cancel_left]
def lN (a x r:Nat):List Nat:=(0 :: List.range' (a + x) r)++List.range' a x
theorem dD {π ρ:List Nat} {L:Nat} (h:∀ i,i < L→π.getD i 0=ρ.getD i 0) {x:AV} (hx:bn L x=true):bg π x=bg ρ x:=by
 cases x with
 | sl k lo len=>simp only [bg,h k (by simpa [bn] using hx)]
 | ptr k i=>simp only [bg,h k (by simpa [bn] using hx)]
 | mptr k=>simp only [bg,h k (by simpa [bn] using hx)]
 | sls k lo len sz=>simp only [bg,h k (by simpa [bn] using hx)]
 | _=>rfl
theorem zw {π ρ:List Nat} {L:Nat} (h:∀ i,i < L→π.getD i 0=ρ.getD i 0) {x:AV} (hx:bj L x=true):Go.Pv.aY π x=Go.Pv.aY ρ x:=by
 cases x with
 | agg l=>simp only [Go.Pv.aY]; congr 1; exact List.map_congr_left fun y hy=>dD h ((List.all_eq_true.1 hx) y hy)
 | tup l=>simp only [Go.Pv.aY]; congr 1; exact List.map_congr_left fun y hy=>dD h ((List.all_eq_true.1 hx) y hy)
 | cl f l=>simp only [Go.Pv.aY]; congr 1; exact List.map_congr_left fun y hy=>dD h ((List.all_eq_true.1 hx) y hy)
 | yv k l vs =>
  simp only [bj,Bool.and_eq_true,decide_eq_true_eq] at hx
  simp only [Go.Pv.aY,h _ hx.1]
  congr 1
  exact List.map_congr_left fun y hy=>dD h ((List.all_eq_true.1 hx.2) y hy)
 | dead=>rfl
 | p v=>rfl
 | itv r=>rfl
 | sl k lo len=>exact dD h (x:=.sl k lo len) hx
 | ptr k i=>exact dD h (x:=.ptr k i) hx
 | mptr k=>exact dD h (x:=.mptr k) hx
 | sls k lo len sz=>exact dD h (x:=.sls k lo len sz) hx
theorem mK {π ρ:List Nat} {H:az} {k L:Nat} {b:aH} (hp:∀ i,i < L→π.getD i 0=ρ.getD i 0) (hl:L≤π.length) (hb:bD L b=true) (hn:cf b=true) (h:aA H k=aH.aY ρ b):dJ π H k b:=by
 cases b with
 | own c =>
  simp only [dJ,h,aH.aY]
  have h1:c.map (Go.Pv.aY π)=c.map (Go.Pv.aY ρ):=List.map_congr_left fun x hx=>zw hp ((List.all_eq_true.1 hb) x hx)
  refine ⟨by rw [h1,List.take_of_length_le (by simp)],?_⟩
  exact List.all_eq_true.2 fun x hx=>CK hl ((List.all_eq_true.1 hb) x hx)
 | bf i j=>cases hn
 | dead=>trivial
 | _=>simp only [dJ,h,aH.aY]
theorem EH {S s:St} {H0 X X' H1:az} {b1:aH} {R1:az} (h0:0 < H0.length) (h1:H1=b1 :: R1) (hn:S.n=s.n) (hS:S.H=H1++X') (hs:s.H=n8 H0 X H1) (hXX:X'.length=X.length) (hsc1:H1.all (bD H1.length)=true) (hna:H1.all cf=true)
  (hX:∀ i,i < X.length→∀ H,aA H (H0.length + i)=aA X i→dJ (lN H0.length X.length R1.length) H (H0.length + i) (aA X' i)) (hsl:jr (lN H0.length X.length R1.length) S.sl s):Le (lN H0.length X.length R1.length) S s:=by
 subst h1
 have hl1:(b1 :: R1).length=R1.length + 1:=rfl
 have hpl:(lN H0.length X.length R1.length).length=R1.length + 1 + X.length:=by unfold lN; simp; omega
 have hag:∀ i,i < R1.length + 1→(lN H0.length X.length R1.length).getD i 0=(0 :: List.range' (H0.length + X.length) R1.length).getD i 0:=fun i hi=>by
  unfold lN
  rw [List.getD_eq_getElem?_getD,List.getElem?_append_left (by simpa using hi),List.getD_eq_getElem?_getD]
 refine ⟨hn,?_,?_,hsl⟩
 ·unfold lN
  rw [List.nodup_append]
  refine ⟨List.nodup_cons.2 ⟨?_,List.nodup_range' ..⟩,List.nodup_range' ..,?_⟩
  ·rw [List.mem_range'_1]; omega
  intro x hx y hy
  rw [List.mem_range'_1] at hy
  simp only [List.mem_cons,List.mem_range'_1] at hx
  omega
 rw [hS]
 have e:dQ (lN H0.length X.length R1.length) s.H ((0 :: List.range' (H0.length + X.length) R1.length)++List.range' H0.length X.length) ((b1 :: R1)++X'):=by
  refine BP ⟨?_,AM (by simp) fun i hi=>?_⟩ (AM (by simp [hXX]) fun i hi=>?_)
  ·refine mK (L:=R1.length + 1) hag (by rw [hpl]; omega) ?_ ?_ (by rw [hs]; exact Ii h0)
   ·exact (List.all_eq_true.1 hsc1) b1 (by simp)
   exact (List.all_eq_true.1 hna) b1 (by simp)
  ·have e1:(List.range' (H0.length + X.length) R1.length).getD i 0=H0.length + X.length + i:=by simp [List.getD,List.getElem?_range' hi]
   have hm:aA R1 i∈R1:=by rw [cA,List.getD_eq_getElem?_getD,List.getElem?_eq_getElem hi]; exact List.getElem_mem hi
   rw [e1]
   refine mK (L:=R1.length + 1) hag (by rw [hpl]; omega) ?_ ?_ ?_
   ·exact (List.all_eq_true.1 hsc1) _ (by simp [hm])
   ·exact (List.all_eq_true.1 hna) _ (by simp [hm])
   rw [hs,HC h0]
   simp [cA,List.getD,List.getElem?_map,List.getElem?_eq_getElem hi]
  rw [hXX] at hi
  have e1:(List.range' H0.length X.length).getD i 0=H0.length + i:=by simp [List.getD,List.getElem?_range' hi]
  rw [e1]
  exact hX i hi s.H (by rw [hs]; exact Iq h0 hi)
 exact e
theorem jB {all:Array Oper} {rest:List Oper} {K:St→Prop} {dst:Option Tmp} {ty:TypeId} {pos:String} {aft:Array Edge} {gd:Option (Nat × Bool)} {fo:Operand} {args:Array Operand} {ts:Array TypeId} {g:FuncId} {avs:List AV} {H0 H1 X:az} {r:PV}
  (hc:Ee P 1 g avs H0 (.p r) H1) {cap:List AV} (hfo:Bp (s.ev fo)=some (g,cap)) (hg:a8 all s { dst:=dst,op:=.call { callee:=.value fo,args:=args,argTypes:=ts },type:=ty,pos:=pos,after:=aft,guard:=gd } = some true)
  (hH:s.H=H0++X) (hargs:args.toList.map s.ev++cap=avs) (ha:avs.all (bj H0.length)=true) (hs:H0.all (bD H0.length)=true) (bD:xB 1 (.p r) H0 H1=true) (hd:ay s dst)
  (h:dL P false all rest K (({ s with H:=n8 H0 X H1 } : St).put dst (.p r))) :
  dL P false all ({ dst:=dst,op:=.call { callee:=.value fo,args:=args,argTypes:=ts },type:=ty,pos:=pos,after:=aft,guard:=gd } :: rest) K s:=by
 have hargN:∀ (l:List AV),l.all (bj H0.length)=true→mM (List.range H0.length) l l:=by
  intro l
  induction l with
  | nil=>intro _; trivial
  | cons x r ih =>
   intro hl
   rw [List.all_cons,Bool.and_eq_true] at hl
   refine ⟨?_,ih hl.2⟩
   cases x with
   | p v=>rfl
   | _=>exact ⟨(fO hl.1).symm,by rw [List.length_range]; exact hl.1⟩
 refine p5 (List.range H0.length) hc hfo hg (by rw [hargs]; exact iZ (hargN _ ha)) (by rw [hH]; exact kM fun b hb=>(List.all_eq_true.1 hs) b hb) List.nodup_range (by
  rw [List.all_eq_true]
  intro k hk
  have:=List.mem_range.1 hk
  simp only [decide_eq_true_eq,hH,List.length_append]; omega) bD hd ?_
 rw [hH]
 exact h
theorem By {o:Oper} {fo:Operand} {args:Array Operand} {ts:Array TypeId} (ho:o.op = .call { callee:=.value fo,args:=args,argTypes:=ts }) {t:TypeId} {q:Nat} {g:FuncId} {avs:List AV} {H0 X:az} (hc:Gb P q t g avs H0) {cap:List AV} (hfo:Bp (s.ev fo)=some (g,cap))
  (hH:s.H=H0++X) (hargs:args.toList.map s.ev++cap=avs) (ha:avs.all (bj H0.length)=true) (hs:H0.all (bD H0.length)=true) (hq:q≤H0.length) (hna:H0.all cf=true) (hsp:H0.all (fun b=>!b.AX)=true):ir P t o s (cC (H0++X) (List.range H0.length)):=by
 have hargN:∀ (l:List AV),l.all (bj H0.length)=true→mM (List.range H0.length) l l:=by
  intro l
  induction l with
  | nil=>intro _; trivial
  | cons x r ih =>
   intro hl
   rw [List.all_cons,Bool.and_eq_true] at hl
   refine ⟨?_,ih hl.2⟩
   cases x with
   | p v=>rfl
   | _=>exact ⟨(fO hl.1).symm,by rw [List.length_range]; exact hl.1⟩
 rw [← hH]
 exact ud ho hfo hc (by rw [hargs]; exact iZ (hargN _ ha)) (by rw [hH]; exact kM fun b hb=>(List.all_eq_true.1 hs) b hb) List.nodup_range (by
  rw [List.all_eq_true]
  intro k hk
  have:=List.mem_range.1 hk
  simp only [decide_eq_true_eq,hH,List.length_append]; omega) hq hna hsp
theorem o0 {x y:Code} {Q Q2:Exit→St→Prop} (S:St) (h1:Holds P x (fun e s'=>e = .normal∧∃ π,Le π S s') s) (h2:EE (Holds P y Q2) Q .normal S):Holds P x (EE (Holds P y Q2) Q) s:=by
 refine yn (fun e s' h=>?_) h1
 obtain ⟨rfl,π,h⟩:=h
 exact pH π h h2
end
end Go.Pv
