/-
  Texts of this proof, one behind the other: what each says stands at its head. Conditions: none.
-/
import Derived.Test.YtpobnnfkeekiaaaDoorB5
import Derived.Test.YtpobnnfkeekiaaaDoorB3
import Derived.Test.YtpobnnfkeekiaaaDoorB2
set_option linter.all false
namespace Go.Proofs.YtpobnnfkeekiaaaDoor.Pr
open Go.Pv
def EF (n:Int) (rels:List (List Int)):PV:=
 if (fH n [rels,[]]).1 ≠ 0 then .tup [gp 0 [],.list [],fl (fH n [rels,[]])] else
 match oK n.toNat rels [] 60 with
 | none=>.tup [gp 0 [],.list [],fl (9,0)]
 | some T=>.tup [gp T.length (gK T (dj T n.toNat)),.list (il (kV T n.toNat)),fl (0,0)]
theorem BN (v:List Int) (h0:v ≠ []) (hl:v.length≤1000000):wz Tryd.prog 29 [.list (il v)] (.sl 0 0 v.length) [.own (ol v)]:=by
 have hp:0 < v.length:=List.length_pos_iff.2 h0
 refine nc ae Tryd.func29 rfl (by kernel_rfl) (by rw [Tryd.ntmps29]; exact Nat.le_add_left 1 _) ?_; rw [Tryd.ntmps29]
 refine qm ?_
 refine ab fun K hK=>aa ae ?_
 simp only [an,fl,gp,ak,simprocAttr]
 refine af trivial (hK _ ?_)<;>clear hK K
 refine qa (qm (qm ?_))
 refine ab fun K hK=>aa ae ?_
 simp only [an,fl,gp,ak,simprocAttr]
 refine af ?_ (hK _ ?_)<;>clear hK K
 ·simp [il,h0]
 refine qa ?_
 refine aq rfl (fun hC1=>?_) (fun hC1=>?_)
 ·cases hC1
 (try simp only [aE] at hC1)
 refine qh (qa (qm ?_))
 refine ab fun K hK=>aa ae ?_
 simp only [an,fl,gp,ak,simprocAttr]
 refine af ?_ (hK _ ?_)<;>clear hK K
 ·first|exact trivial|omega|(simp only [ah] at *; omega)|(simp [ah] at *; omega)|simp_all
 refine qa (qk ?_)
 simp only [Tryd.results29,eR,gq,dk,kR,bY,an,fl,gp,ak,simprocAttr]
 refine ⟨[0],rfl,rfl,rfl,by simp,⟨⟨?_,fG _ _⟩,trivial⟩,trivial⟩
 rw [nC,dX]
theorem pr.IN:pr .nil (.list []):=fun _ _ _ h=>h.o9
theorem zg (n:Int) (rels:List (List Int)) (hr:rels.length≤1000000000∧∀ w∈rels,w.length≤1000000000) :
  ct Tryd.prog 28 [.int .i64 n,.list (ll rels),.nil,.int .i64 60] (Hy n rels [] 60):=
 ct.vm (BB n rels [] 60 hr ⟨by simp,fun w hw=>by simp at hw⟩) ⟨pr.rfl,pr.rfl,pr.IN,pr.rfl,trivial⟩
def qH (ws:List (List Int)) (N:Nat):List AV:=ws.map (fun w=>.p (nl w))++List.replicate (N - ws.length) (.p .nil)
theorem dq {ws:List (List Int)} {N:Nat} (h:ws.length≤N):(qH ws N).length=N:=by simp [qH]; omega
theorem jX {ws:List (List Int)} {N u:Nat} (h:u < ws.length) (d:AV):(qH ws N).getD u d = .p (nl (ws.getD u [])):=by
 unfold qH
 rw [List.getD_eq_getElem?_getD,List.getElem?_append_left (by simpa using h),List.getElem?_map,List.getElem?_eq_getElem h,List.getD_eq_getElem?_getD,List.getElem?_eq_getElem h]; rfl
theorem FT {ws:List (List Int)} {N:Nat} (h:ws.length < N) (d:AV):(qH ws N).getD ws.length d = .p .nil:=by
 unfold qH
 rw [List.getD_eq_getElem?_getD,List.getElem?_append_right (by simp),List.length_map,Nat.sub_self,List.getElem?_replicate,if_pos (by omega)]; rfl
theorem DH {ws:List (List Int)} {N:Nat} (h:ws.length < N) (w:List Int):(qH ws N).set ws.length (.p (nl w))=qH (ws++[w]) N:=by
 unfold qH
 rw [List.set_append_right _ _ (by simp),List.length_map,Nat.sub_self,show N - ws.length=(N - (ws++[w]).length) + 1 by simp; omega,List.replicate_succ,List.set_cons_zero]
 simp
theorem FD (L:Nat) (ws:List (List Int)) (N:Nat):(qH ws N).all (bj L)=true:=by
 unfold qH
 rw [List.all_append,Bool.and_eq_true]
 exact ⟨List.all_eq_true.2 fun x hx=>(by obtain ⟨w,_,rfl⟩:=List.mem_map.1 hx; rfl),List.all_eq_true.2 fun x hx=>(by rw [List.eq_of_mem_replicate hx]; rfl)⟩
theorem oR (ws:List (List Int)) (N:Nat):∀ b∈([.own [.p (.int .i64 0),.p .nil],.own [.p (.int .i64 0),.p (.int .i64 0)],.own [.p (.int .i64 0),.p (.int .i64 0)],.own (qH ws N)]:az),bD 4 b=true:=fun b hb=>by
 simp only [List.mem_cons,List.not_mem_nil,or_false] at hb
 rcases hb with rfl | rfl | rfl | rfl
 ·rfl
 ·rfl
 ·rfl
 exact FD _ _ _
theorem uv {S s:St} {A B C D:aH} {X:az} (hn:S.n=s.n) (hS:S.H=[A,B,C,D]) (hH:s.H=A :: B :: C :: D :: X) (hsc4:∀ b∈([A,B,C,D]:az),bD 4 b=true) (hsl:∀ p∈S.sl,s.get p.1=p.2∧bj 4 p.2=true):Le [0,1,2,3] S s:=by
 have:=iO (S:=S) (s:=s) (B:=[A,B,C,D]) hn rfl hS hsc4 (fun i hi=>by
  rw [hH]
  rcases (show i=0∨i=1∨i=2∨i=3 by simp at hi; omega) with rfl | rfl | rfl | rfl<;>rfl) (pj hsl)
 exact this
theorem uP (ws:List (List Int)) (N:Int) (M:List Int):∀ b∈([.own [.p (.int .i64 0),.p .nil],.own [.p (.int .i64 0),.p (.int .i64 0)],.own [.p (.int .i64 0),.p (.int .i64 0)],.fro (ll ws),.own [.p (.int .i64 N),.sl 5 0 M.length],.own (ol M)]:az),bD 6 b=true:=fun b hb=>by
 simp only [List.mem_cons,List.not_mem_nil,or_false] at hb
 rcases hb with rfl | rfl | rfl | rfl | rfl | rfl
 ·rfl
 ·rfl
 ·rfl
 ·rfl
 ·rfl
 exact fG _ _
theorem Fz (ws:List (List Int)) (N:Int) (M K:List Int):∀ b∈([.own [.p (.int .i64 0),.p .nil],.own [.p (.int .i64 0),.p (.int .i64 0)],.own [.p (.int .i64 0),.p (.int .i64 0)],.fro (ll ws),.own [.p (.int .i64 N),.sl 5 0 M.length],.own (ol M),.own (ol K)]:az),bD 7 b=true:=fun b hb=>by
 simp only [List.mem_cons,List.not_mem_nil,or_false] at hb
 rcases hb with rfl | rfl | rfl | rfl | rfl | rfl | rfl
 ·rfl
 ·rfl
 ·rfl
 ·rfl
 ·rfl
 ·exact fG _ _
 exact fG _ _
set_option maxHeartbeats 4000000 in
theorem uj (n:Int) (rels:List (List Int)) (f:Int × Int) (hc:ct Tryd.prog 28 [.int .i64 n,.list (ll rels),.nil,.int .i64 60] (.tup [.list [],fl f])) (hf:f.1 ≠ 0):ct Tryd.prog 15 [.int .i64 n,.list (ll rels)] (.tup [gp 0 [],.list [],fl f]):=by
 refine aV ae Tryd.func15 rfl (by kernel_rfl) (by rw [Tryd.ntmps15]; exact Nat.le_add_left 2 _) ?_; rw [Tryd.ntmps15]
 refine qm ?_
 refine ab fun K hK=>aa ae ?_
 simp only [an,fl,gp,ak,simprocAttr]
 refine af ?_ (hK _ ?_)<;>clear hK K
 ·first|exact trivial|omega|(simp only [ah] at *; omega)|(simp [ah] at *; omega)|simp_all
 refine qa (qm ?_)
 refine ab fun K hK=>aa ae ?_
 simp only [an,fl,gp,ak,simprocAttr]
 refine ao trivial (au (hc) rfl rfl rfl (by simp only [ay,Nat.reduceLT]) (by repeat (first|exact trivial|constructor)) (aa ae ?_))
 simp only [an,fl,gp,ak,simprocAttr]
 refine af ?_ (hK _ ?_)<;>clear hK K
 ·first|exact trivial|omega|(simp only [ah] at *; omega)|(simp [ah] at *; omega)|simp_all
 refine qa (qm (qm ?_))
 refine ab fun K hK=>aa ae ?_
 simp only [an,fl,gp,ak,simprocAttr]
 refine af ?_ (hK _ ?_)<;>clear hK K
 ·first|exact trivial|omega|(simp only [ah] at *; omega)|(simp [ah] at *; omega)|simp_all
 refine qa ?_
 refine aq rfl (fun hC1=>?_) (fun hC1=>?_)
 ·(try simp only [aE] at hC1)
  refine qm ?_
  refine cZ mixed fun K hK=>aM ae ?_
  simp only [lP,an,fl,gp,ak,simprocAttr]
  refine db ?_ (hK _ _ (by first|kernel_rfl|rfl) ?_)<;>clear hK K
  ·first|exact trivial|omega|(simp only [ah] at *; omega)|(simp [ah] at *; omega)|simp_all
  refine qa (qk (qb ?_))
  simp only [Tryd.results15,bT,an,fl,gp,ak,simprocAttr]
  all_goals ((first|exact rfl|exact ⟨rfl,rfl⟩|exact ⟨rfl,rfl,rfl⟩|exact ⟨trivial,rfl⟩|exact ⟨Nat.le_refl _,rfl⟩|trivial|(simp; done)))
 (try simp only [aE] at hC1)
 exact absurd hC1 hf
set_option maxHeartbeats 8000000 in
set_option maxRecDepth 20000 in
theorem Cn {m:Nat} (hm:1≤m∧m≤6) (rels T:List (List Int)) (hc:ct Tryd.prog 28 [.int .i64 m,.list (ll rels),.nil,.int .i64 60] (.tup [.list (ll T),fl (0,0)])) (tk:eX m T rels []) (t0:0 < T.length) (t60:T.length≤60) :
  ct Tryd.prog 15 [.int .i64 m,.list (ll rels)] (.tup [gp T.length (gK T (dj T m)),.list (il (kV T m)),fl (0,0)]):=by
 obtain ⟨wa1,wa2⟩:=oA tk t0
 obtain ⟨N,hN⟩:∃ N,T.length=N:=⟨_,rfl⟩
 rw [hN] at t0 t60 wa2
 refine aV ae Tryd.func15 rfl (by kernel_rfl) (by rw [Tryd.ntmps15]; exact Nat.le_add_left 2 _) ?_; rw [Tryd.ntmps15]
 refine qm ?_
 refine ab fun K hK=>aa ae ?_
 simp only [an,fl,gp,ak,simprocAttr]
 refine af ?_ (hK _ ?_)<;>clear hK K
 ·first|exact trivial|omega|(simp only [ah] at *; omega)|(simp [ah] at *; omega)|simp_all
 refine qa (qm ?_)
 refine ab fun K hK=>aa ae ?_
 simp only [an,fl,gp,ak,simprocAttr]
 refine ao trivial (au (hc) rfl rfl rfl (by simp only [ay,Nat.reduceLT]) (by repeat (first|exact trivial|constructor)) (aa ae ?_))
 simp only [an,fl,gp,ak,simprocAttr]
 refine af ?_ (hK _ ?_)<;>clear hK K
 ·first|exact trivial|omega|(simp only [ah] at *; omega)|(simp [ah] at *; omega)|simp_all
 refine qa (qm (qm ?_))
 refine ab fun K hK=>aa ae ?_
 simp only [an,fl,gp,ak,simprocAttr]
 refine af ?_ (hK _ ?_)<;>clear hK K
 ·first|exact trivial|omega|(simp only [ah] at *; omega)|(simp [ah] at *; omega)|simp_all
 refine qa ?_
 refine aq rfl (fun hC1=>?_) (fun hC1=>?_)
 ·(try simp only [aE] at hC1)
  first|exact hC1.elim|exact absurd rfl hC1|(simp at hC1; done)
 (try simp only [aE] at hC1)
 refine qh (qa (qm ?_))
 refine ab fun K hK=>aa ae ?_
 simp only [an,fl,gp,ak,simprocAttr,aC,hN,cq.eq_def,-List.reduceReplicate,Int.toNat_natCast]
 refine af ?_ (hK _ ?_)<;>clear hK K
 ·first|trivial|omega|exact ⟨by omega,by omega,by omega⟩|(repeat (first|omega|constructor))
 refine qa (qm ?_)
 refine ab fun K hK=>aa ae ?_
 simp only [an,fl,gp,ak,simprocAttr,-List.reduceReplicate]
 refine af ?_ (hK _ ?_)<;>clear hK K
 ·first|trivial|omega|(simp; omega)|(repeat (first|omega|(simp; omega)|constructor))
 refine qa (qm (qm ?_))
 refine ab fun K hK=>aa ae ?_
 simp only [an,fl,gp,ak,simprocAttr,aC,hN]
 refine af trivial (hK _ ?_)<;>clear hK K
 refine qa (ql ?_)
 have hw0:(List.replicate N (AV.p .nil)).set 0 (.p (.nn []))=qH [[]] N:=by
  obtain ⟨M,rfl⟩:∃ M,N=M + 1:=⟨N - 1,by omega⟩
  rfl
 refine aD (ι:=Nat × List (List Int)) (fun q=>⟨140,[(0,.p (.int .i64 (m:Nat))),(4,.ptr 0 0),(6,.ptr 1 0),(7,.p (.list (ll T))),(8,.ptr 2 0),(9,.sl 3 0 N),(39,.p (.int .i64 (N:Nat))),(40,.p (.int .i64 (q.1:Nat)))],[.own [.p (.int .i64 0),.p .nil],.own [.p (.int .i64 0),.p (.int .i64 0)],.own [.p (.int .i64 0),.p (.int .i64 0)],.own (qH (q.2) N)]⟩) (fun q=>q.1≤N∧pg m T q.2∧H9 q.2.length q.1 (T.drop q.1)∧(List.range' q.1 (N - q.1)).foldl (fun ws i=>qt T m i ws) q.2=dj T m) (fun q=>N - q.1) (0,[[]]) ⟨Nat.zero_le _,⟨by simp,by simp; omega,fun j hj=>?_⟩,by simpa using tk.nx,?_⟩ [0,1,2,3] ?_ fun q hq=>?_
 ·have:j=0:=by simp at hj; omega
  subst this
  exact ⟨fun x hx=>by simp at hx,rfl,by simp⟩
 ·rw [Nat.sub_zero,← List.range_eq_range',← hN]; rfl
 ·rw [hw0]
  exact dM rfl rfl (oR _ _) (by simp [St.get,lk,bj,bn])
 obtain ⟨i,ws⟩:=q
 obtain ⟨q1,q2,q3,q4⟩:=hq
 simp only at q1 q2 q3 q4 ⊢
 refine qm ?_
 refine ab fun K hK=>aa ae ?_
 simp only [an,fl,gp,ak,simprocAttr]
 refine af trivial (hK _ ?_)<;>clear hK K
 refine qa (qm ?_)
 refine aq rfl (fun hC2=>?_) (fun hC2=>?_)
 ·(try simp only [aE] at hC2)
  have hi:i < N:=by omega
  have hiT:i < T.length:=by omega
  obtain ⟨r,hrd⟩:∃ r,T.getD i []=r:=⟨_,rfl⟩
  have hrow:=(tk.tb.at hiT).1
  have hent:=(tk.tb.at hiT).2
  rw [hrd] at hrow hent
  have hdr:T.drop i=r :: T.drop (i + 1):=by
   rw [List.drop_eq_getElem_cons hiT,← hrd,List.getD_eq_getElem?_getD,List.getElem?_eq_getElem hiT]; rfl
  rw [hdr] at q3
  obtain ⟨hin,n2,q5,q6⟩:=q3
  have q7:(List.range' (i + 1) (N - (i + 1))).foldl (fun ws i=>qt T m i ws) (qt T m i ws)=dj T m:=by
   rw [show N - i=(N - (i + 1)) + 1 by omega,List.range'_succ,List.foldl_cons] at q4
   exact q4
  refine qh (qa (qm (ql (qm ?_))))
  refine ab fun K hK=>aa ae ?_
  simp only [an,fl,gp,ak,simprocAttr]
  refine af trivial (hK _ ?_)<;>clear hK K
  refine qa (qm ?_)
  refine ab fun K hK=>aa ae ?_
  simp only [an,fl,gp,ak,simprocAttr,aC,b8 hiT,hrd,aw,hrow]
  refine af ?_ (hK _ ?_)<;>clear hK K
  ·omega
  refine qa (ql ?_)
  refine aD (ι:=Nat × List (List Int)) (fun q=>⟨140,[(0,.p (.int .i64 (m:Nat))),(4,.ptr 0 0),(6,.ptr 1 0),(7,.p (.list (ll T))),(8,.ptr 2 0),(9,.sl 3 0 N),(10,.p (.int .i64 (i:Nat))),(39,.p (.int .i64 (N:Nat))),(40,.p (.int .i64 (i:Nat))),(46,.p (.list (il r))),(47,.p (.int .i64 ((2 * m:Nat):Int))),(48,.p (.int .i64 (q.1:Nat)))],[.own [.p (.int .i64 0),.p .nil],.own [.p (.int .i64 0),.p (.int .i64 0)],.own [.p (.int .i64 0),.p (.int .i64 0)],.own (qH (q.2) N)]⟩) (fun q=>q.1≤2 * m∧pg m T q.2∧i < q.2.length∧BS q.2.length (r.drop q.1)=some n2∧(List.range' q.1 (2 * m - q.1)).foldl (eQ T i) q.2=qt T m i ws) (fun q=>2 * m - q.1) (0,ws) ⟨Nat.zero_le _,q2,hin,q5,by rw [Nat.sub_zero,← List.range_eq_range']; rfl⟩ [0,1,2,3] ?_ fun q hq=>?_
  ·exact dM rfl rfl (oR _ _) (by simp [St.get,lk,bj,bn])
  clear q2 q4 q5
  obtain ⟨k,w2⟩:=q
  obtain ⟨k1,q2,q8,q9,q10⟩:=hq
  simp only at k1 q2 q8 q9 q10 ⊢
  refine qm ?_
  refine ab fun K hK=>aa ae ?_
  simp only [an,fl,gp,ak,simprocAttr]
  refine af trivial (hK _ ?_)<;>clear hK K
  refine qa (qm ?_)
  refine aq rfl (fun hC3=>?_) (fun hC3=>?_)
  ·(try simp only [aE] at hC3)
   have hk:k < 2 * m:=by omega
   obtain ⟨d,hd1,hd2⟩:=hent k hk
   have hkr:k < r.length:=by omega
   rw [hN] at hd2
   obtain ⟨k3,k4⟩:=AB q9 hkr
   rw [hd1] at k3 k4
   have q11:(List.range' (k + 1) (2 * m - (k + 1))).foldl (eQ T i) (eQ T i w2 k)=qt T m i ws:=by
    rw [show 2 * m - k=(2 * m - (k + 1)) + 1 by omega,List.range'_succ,List.foldl_cons] at q10
    exact q10
   have hu:((T.getD i []).getD k 0).toNat=d:=by rw [hrd,hd1]; simp
   have hw2N:w2.length≤N:=by have:=q2.le; omega
   have hcase:(d < w2.length∧w2.getD d []=[])∨(d < w2.length∧∃ c rr,w2.getD d []=c :: rr)∨d=w2.length:=by
    rcases Nat.lt_or_ge d w2.length with h | h
    ·rcases hq:w2.getD d [] with _ | ⟨c,rr⟩
     ·exact .inl ⟨h,rfl⟩
     exact .inr (.inl ⟨h,c,rr,rfl⟩)
    exact .inr (.inr (by omega))
   refine qh (qa (qm (ql (qm ?_))))
   refine ab fun K hK=>aa ae ?_
   simp only [an,fl,gp,ak,simprocAttr,aw,aL hkr,hd1]
   refine af ?_ (hK _ ?_)<;>clear hK K
   ·omega
   refine qa (qm ?_)
   rcases hcase with ⟨hdl,hwd⟩ | ⟨hdl,c,rr,hwd⟩ | hdl
   ·refine ab fun K hK=>aa ae ?_
    simp only [an,fl,gp,ak,simprocAttr,dq hw2N,jX hdl,hwd,nl,Int.toNat_natCast,Int.ofNat_eq_natCast]
    refine af ?_ (hK _ ?_)<;>clear hK K
    ·first|trivial|omega|(simp [il]; done)|exact ⟨⟨by omega,by omega⟩,by simp [il]⟩|exact ⟨by omega,by omega⟩|(repeat (first|omega|(simp [dq hw2N]; omega)|constructor))
    refine qa ?_
    refine aq rfl (fun hC4=>?_) (fun hC4=>?_)
    ·(try simp only [aE] at hC4)
     first|exact hC4.elim|cases hC4|(simp at hC4; done)
    (try simp only [aE] at hC4)
    refine qh (qd (qa ?_))
    refine ab fun K hK=>aa ae ?_
    simp only [an,fl,gp,ak,simprocAttr]
    refine af ?_ (hK _ ?_)<;>clear hK K
    ·first|exact trivial|omega|(simp only [ah] at *; omega)|(simp [ah] at *; omega)|simp_all
    refine qa ?_
    have e1:eQ T i w2 k=w2:=by unfold eQ; rw [if_neg (by omega)]
    rw [e1] at q11
    rw [if_neg (by omega)] at k4
    refine ⟨(k + 1,w2),[0,1,2,3],⟨hk,q2,q8,k4,q11⟩,by simp only; omega,?_⟩
    exact uv rfl rfl rfl (oR _ _) (by simp [St.get,lk,bj,bn])
   ·refine ab fun K hK=>aa ae ?_
    simp only [an,fl,gp,ak,simprocAttr,dq hw2N,jX hdl,hwd,nl,Int.toNat_natCast,Int.ofNat_eq_natCast]
    refine af ?_ (hK _ ?_)<;>clear hK K
    ·first|trivial|omega|(simp [il]; done)|exact ⟨⟨by omega,by omega⟩,by simp [il]⟩|exact ⟨by omega,by omega⟩|(repeat (first|omega|(simp [dq hw2N]; omega)|constructor))
    refine qa ?_
    refine aq rfl (fun hC4=>?_) (fun hC4=>?_)
    ·(try simp only [aE] at hC4)
     first|exact hC4.elim|cases hC4|(simp at hC4; done)
    (try simp only [aE] at hC4)
    refine qh (qd (qa ?_))
    refine ab fun K hK=>aa ae ?_
    simp only [an,fl,gp,ak,simprocAttr]
    refine af ?_ (hK _ ?_)<;>clear hK K
    ·first|exact trivial|omega|(simp only [ah] at *; omega)|(simp [ah] at *; omega)|simp_all
    refine qa ?_
    have e1:eQ T i w2 k=w2:=by unfold eQ; rw [if_neg (by omega)]
    rw [e1] at q11
    rw [if_neg (by omega)] at k4
    refine ⟨(k + 1,w2),[0,1,2,3],⟨hk,q2,q8,k4,q11⟩,by simp only; omega,?_⟩
    exact uv rfl rfl rfl (oR _ _) (by simp [St.get,lk,bj,bn])
   have hlt:w2.length < N:=by omega
   subst hdl
   refine ab fun K hK=>aa ae ?_
   simp only [an,fl,gp,ak,simprocAttr,dq hw2N,FT hlt,Int.toNat_natCast,Int.ofNat_eq_natCast]
   refine af ?_ (hK _ ?_)<;>clear hK K
   ·first|trivial|omega|(simp [il]; done)|exact ⟨⟨by omega,by omega⟩,by simp [il]⟩|exact ⟨by omega,by omega⟩|(repeat (first|omega|(simp [dq hw2N]; omega)|constructor))
   refine qa ?_
   refine aq rfl (fun hC4=>?_) (fun hC4=>?_)
   ·(try simp only [aE] at hC4)
    have z1:Int.tdiv (k:Int) 2=((k / 2:Nat):Int):=by rw [Int.tdiv_eq_ediv_of_nonneg (by omega)]; omega
    have z2:Int.tdiv (-(k:Int)) 2 = -((k / 2:Nat):Int):=by rw [Int.neg_tdiv,z1]
    have z3:Int.tmod (k:Int) 2=((k % 2:Nat):Int):=by rw [Int.tmod_eq_emod_of_nonneg (by omega)]; omega
    obtain ⟨wd1,wd2,wd3⟩:=q2.wd i q8
    have z4:([PV.int .i64 (((k / 2:Nat):Int) + 1),.int .i64 (-((k / 2:Nat):Int) - 1)]:List PV).getD (k % 2) default = .int .i64 (kS k):=by
     unfold kS
     rcases (show k % 2=0∨k % 2=1 by omega) with h | h
     ·rw [h,if_pos rfl]; rfl
     rw [h,if_neg (by omega)]
     have : -((k / 2 + 1:Nat):Int) = -((k / 2:Nat):Int) - 1:=by omega
     rw [this]; rfl
    have e1:eQ T i w2 k=w2++[w2.getD i []++[kS k]]:=by unfold eQ; rw [if_pos hu]
    have e2:(w2++[w2.getD i []++[kS k]]).length=w2.length + 1:=by simp
    have q12:=q2.step tk.tb q8 hk hu
    have e3:=DH hlt (w2.getD i []++[kS k])
    rw [e1] at q11
    rw [if_pos rfl,← e2] at k4
    rw [oD] at e3
    rcases hwi:w2.getD i [] with _ | ⟨c,rr⟩
    ·refine cZ mixed fun K hK=>aM ae ?_
     simp only [lP,an,fl,gp,ak,simprocAttr,dq hw2N,jX q8,hwi,nl,Int.toNat_natCast,Int.ofNat_eq_natCast,z1,z2,z3,z4]
     refine bw ?_ (bJ ((Di [] (by simp):ct Tryd.prog 29 [.nn []] (.nn []))) rfl rfl rfl rfl (by simp only [ay,Nat.reduceLT]) (by repeat (first|exact trivial|constructor)) (aM ae ?_))
     ·exact ⟨⟨by omega,by omega⟩,by omega⟩
     simp only [lP,an,fl,gp,ak,simprocAttr,dq hw2N,jX q8,hwi,nl,Int.toNat_natCast,Int.ofNat_eq_natCast,z1,z2,z3,z4]
     refine bw ?_ (pk (l:=[.int .i64 (kS k)]) ae rfl rfl rfl ⟨rfl,rfl⟩ rfl rfl rfl (by simp only [ay,Nat.reduceLT]) rfl (Nat.le_of_ble_eq_true rfl) ⟨Nat.le_of_ble_eq_true rfl,Nat.le_of_ble_eq_true rfl⟩ (aM ae ?_))
     ·first|trivial|(simp only [ah,true_and,and_true]; omega)
     simp only [lP,an,fl,gp,ak,simprocAttr,dq hw2N,jX q8,hwi,nl,Int.toNat_natCast,Int.ofNat_eq_natCast,z1,z2,z3,z4]
     refine db ?_ (hK _ _ (by first|kernel_rfl|rfl) ?_)<;>clear hK K
     ·first|trivial|omega|(simp only [ah,true_and,and_true]; omega)
     refine qd (qa ?_)
     rw [hwi] at e3 q11 q12 k4 e2
     simp only [List.nil_append] at e3 q11 q12 k4 e2
     refine er 4 (b:=bq [.int .i64 (kS k)]) (ps:=[.int .i64 (kS k)]) rfl rfl ?_
     refine l7 3 w2.length (b:=(qH w2 N).set w2.length (.sl 4 0 1)) (x:=.sl 4 0 1) rfl (by rw [List.getElem?_set_self (by rw [dq hw2N]; exact hlt)]) (p:=0 + 1≤1∧(([PV.int .i64 (kS k)].drop 0).take 1).all PV.one=true) (pv:=.list [.int .i64 (kS k)]) rfl ⟨by omega,rfl⟩ ?_
     simp only [aF,List.set_set]
     have e4:(qH w2 N).set w2.length (.p (.list [.int .i64 (kS k)]))=qH (w2++[[kS k]]) N:=e3
     rw [e4]
     refine ab fun K hK=>aa ae ?_
     simp only [an,fl,gp,ak,simprocAttr]
     refine af ?_ (hK _ ?_)<;>clear hK K
     ·first|exact trivial|omega|(simp only [ah] at *; omega)|(simp [ah] at *; omega)|simp_all
     refine qa ?_
     refine ⟨(k + 1,w2++[[kS k]]),[0,1,2,3],⟨hk,q12,by simp only; omega,k4,q11⟩,by simp only; omega,?_⟩
     exact uv rfl rfl rfl (oR _ _) (by simp [St.get,lk,bj,bn])
    refine cZ mixed fun K hK=>aM ae ?_
    simp only [lP,an,fl,gp,ak,simprocAttr,dq hw2N,jX q8,hwi,nl,Int.toNat_natCast,Int.ofNat_eq_natCast,z1,z2,z3,z4]
    refine bw ?_ (ua (BN (c :: rr) (by simp) (by rw [hwi] at wd3; omega)) rfl rfl rfl (by simp only [ay,Nat.reduceLT]) (by repeat (first|exact trivial|constructor)) (aM ae ?_))
    ·first|exact trivial|omega|(simp only [ah] at *; omega)|(simp [ah] at *; omega)|simp_all
    simp only [lP,an,fl,gp,ak,simprocAttr,dq hw2N,jX q8,hwi,nl,Int.toNat_natCast,Int.ofNat_eq_natCast,z1,z2,z3,z4]
    refine db ?_ (hK _ _ (by first|kernel_rfl|rfl) ?_)<;>clear hK K
    ·have hc1:(bq (il (c :: rr))).all bm=true:=by simp [bq,il,bm,PV.one]
     rw [hwi] at wd3
     simp only [List.length_cons] at wd3
     simp only [ah,hc1,true_and,and_true]; omega
    refine qd (qa ?_)
    rw [hwi] at e3 q11 q12 k4 e2
    refine er 5 (b:=bq (il (c :: rr)++[.int .i64 (kS k)])) (ps:=il (c :: rr++[kS k])) rfl (by rw [show il (c :: rr)++[PV.int .i64 (kS k)]=il (c :: rr++[kS k]) by simp [il]]; exact jg _) ?_
    refine l7 3 w2.length (b:=(qH w2 N).set w2.length (.sl 5 0 (rr.length + 1 + 1))) (x:=.sl 5 0 (rr.length + 1 + 1)) rfl (by rw [List.getElem?_set_self (by rw [dq hw2N]; exact hlt)]) (p:=0 + (rr.length + 1 + 1)≤(il (c :: rr++[kS k])).length∧(((il (c :: rr++[kS k])).drop 0).take (rr.length + 1 + 1)).all PV.one=true) (pv:=.list (((il (c :: rr++[kS k])).drop 0).take (rr.length + 1 + 1))) rfl ⟨by simp [aw],by rw [List.drop_zero,List.take_of_length_le (by simp [aw])]; exact ij _⟩ ?_
    rw [List.drop_zero,List.take_of_length_le (show (il (c :: rr++[kS k])).length≤rr.length + 1 + 1 by simp [aw])]
    simp only [aF,List.set_set]
    have e4:(qH w2 N).set w2.length (.p (.list (il (c :: rr++[kS k]))))=qH (w2++[c :: rr++[kS k]]) N:=e3
    rw [e4]
    refine ab fun K hK=>aa ae ?_
    simp only [an,fl,gp,ak,simprocAttr]
    refine af ?_ (hK _ ?_)<;>clear hK K
    ·first|exact trivial|omega|(simp only [ah] at *; omega)|(simp [ah] at *; omega)|simp_all
    refine qa ?_
    refine ⟨(k + 1,w2++[c :: rr++[kS k]]),[0,1,2,3],⟨hk,q12,by simp only; omega,k4,q11⟩,by simp only; omega,?_⟩
    exact uv rfl rfl rfl (oR _ _) (by simp [St.get,lk,bj,bn])
   (try simp only [aE] at hC4)
   first|exact (hC4 rfl).elim|exact absurd rfl hC4|cases hC4|(simp at hC4; done)
  (try simp only [aE] at hC3)
  have hke:k=2 * m:=by omega
  subst hke
  rw [List.drop_eq_nil_of_le (by omega)] at q9
  have hn2:w2.length=n2:=Option.some.inj q9
  rw [Nat.sub_self] at q10
  have hwr:w2=qt T m i ws:=q10
  rw [← hwr] at q7
  rw [← hn2] at q6
  refine qj (qc (qc (qf (qd (qa ?_)))))
  refine ab fun K hK=>aa ae ?_
  simp only [an,fl,gp,ak,simprocAttr]
  refine af ?_ (hK _ ?_)<;>clear hK K
  ·first|exact trivial|omega|(simp only [ah] at *; omega)|(simp [ah] at *; omega)|simp_all
  refine qa ?_
  refine ⟨(i + 1,w2),[0,1,2,3],⟨hi,q2,q6,q7⟩,by simp only; omega,?_⟩
  exact uv rfl rfl rfl (oR _ _) (by simp [St.get,lk,bj,bn])
 (try simp only [aE] at hC2)
 have hie:i=N:=by omega
 subst hie
 rw [Nat.sub_self] at q4
 have hws:ws=dj T m:=q4
 rw [← hws] at wa1 wa2 ⊢
 clear q2 q3 q4
 refine qj (qc (qc (qf (qa (qm ?_)))))
 refine ux 3 (b:=qH ws i) (b':=bq (ll ws)) rfl (by rw [dq (by omega),aJ,aC]; exact wa2) (fun C mm tmps w R j h h' v hv=>?_) ?_
 ·have hj:j < ws.length:=by rw [aJ,aC] at h'; exact h'
  have e1:(qH ws i)[j] = .p (nl (ws.getD j [])):=by
   have:=jX (N:=i) hj (.p .nil)
   rw [List.getD_eq_getElem?_getD,List.getElem?_eq_getElem h] at this
   exact this
  have e2:(bq (ll ws))[j] = .p (.list (il (ws.getD j []))):=by
   simp [bq,ll,List.getD_eq_getElem?_getD,List.getElem?_eq_getElem hj]
  rw [e1] at hv
  rw [e2]
  exact .p _ _ (DE hv.aN)
 simp only [aF]
 refine mI 9 3 (l:=ll ws) (jL ws) (by rw [aC,wa2]; rfl) rfl ?_
 simp only [aF]
 refine ab fun K hK=>aa ae ?_
 simp only [an,fl,gp,ak,simprocAttr,aC,hN]
 refine af ?_ (hK _ ?_)<;>clear hK K
 ·first|exact trivial|omega|(simp only [ah] at *; omega)|(simp [ah] at *; omega)|simp_all
 refine qa (qm (qm ?_))
 refine ab fun K hK=>aa ae ?_
 simp only [an,fl,gp,ak,simprocAttr,aC,hN]
 refine af trivial (hK _ ?_)<;>clear hK K
 refine qa (ql ?_)
 obtain ⟨M,hM⟩:∃ M,gK T ws=M:=⟨_,rfl⟩
 have hMl:M.length=i * i:=by rw [← hM]; unfold gK; simp [hN]
 have Hz:i * i≤3600:=Nat.mul_le_mul t60 t60
 have hMg:∀ a b,a < i→b < i→M.getD (a * i + b) 0=(cb T a (ws.getD b []):Int)∧a * i + b < i * i:=fun a b ha hb=>by
  have h1:a * i + b < i * i:=by
   have:(a + 1) * i≤i * i:=Nat.mul_le_mul_right i ha
   rw [Nat.add_mul] at this; omega
  refine ⟨?_,h1⟩
  rw [← hM]
  unfold gK
  rw [hN,List.getD_eq_getElem?_getD,List.getElem?_map,List.getElem?_range h1]
  have e1:(a * i + b) / i=a:=by rw [Nat.mul_comm,Nat.mul_add_div (by omega),Nat.div_eq_of_lt hb]; omega
  have e2:(a * i + b) % i=b:=by rw [Nat.mul_comm,Nat.mul_add_mod,Nat.mod_eq_of_lt hb]
  simp [e1,e2]
 rw [hM]
 refine qJ 4 1 rfl rfl ?_
 simp only [List.cons_append,List.nil_append,aF,List.set_cons_succ,List.set_cons_zero,List.length_cons,List.length_nil,Nat.zero_add,Nat.reduceAdd]
 refine aD (ι:=Nat) (fun a=>⟨140,[(0,.p (.int .i64 (m:Nat))),(4,.ptr 0 0),(6,.ptr 1 0),(7,.p (.list (ll T))),(8,.ptr 2 0),(9,.p (.list (ll ws))),(13,.ptr 4 0),(86,.p (.int .i64 (i:Nat))),(87,.p (.int .i64 (a:Nat)))],[.own [.p (.int .i64 0),.p .nil],.own [.p (.int .i64 0),.p (.int .i64 0)],.own [.p (.int .i64 0),.p (.int .i64 0)],.fro (ll ws),.own [.p (.int .i64 i),.sl 5 0 (M.take (a * i)).length],.own (ol (M.take (a * i)))]⟩) (fun a=>a≤i) (fun a=>i - a) 0 (Nat.zero_le _) [0,1,2,3,4,5] ?_ fun a ha=>?_
 ·rw [Nat.zero_mul,List.take_zero]
  exact dM rfl rfl (uP ws (i:Int) []) (by simp [St.get,lk,bj,bn])
 refine qm ?_
 refine ab fun K hK=>aa ae ?_
 simp only [an,fl,gp,ak,simprocAttr]
 refine af trivial (hK _ ?_)<;>clear hK K
 refine qa (qm ?_)
 refine aq rfl (fun hC5=>?_) (fun hC5=>?_)
 ·(try simp only [aE] at hC5)
  have hai:a < i:=by omega
  refine qh (qa (qm (ql (qm ?_))))
  refine ab fun K hK=>aa ae ?_
  simp only [an,fl,gp,ak,simprocAttr]
  refine af trivial (hK _ ?_)<;>clear hK K
  refine qa (qm ?_)
  refine ab fun K hK=>aa ae ?_
  simp only [an,fl,gp,ak,simprocAttr,aC,hN]
  refine af trivial (hK _ ?_)<;>clear hK K
  refine qa (ql ?_)
  have htk0:M.take (a * i)=M.take (a * i + 0):=rfl
  refine aD (ι:=Nat) (fun b=>⟨140,[(0,.p (.int .i64 (m:Nat))),(4,.ptr 0 0),(6,.ptr 1 0),(7,.p (.list (ll T))),(8,.ptr 2 0),(9,.p (.list (ll ws))),(13,.ptr 4 0),(14,.p (.int .i64 (a:Nat))),(86,.p (.int .i64 (i:Nat))),(87,.p (.int .i64 (a:Nat))),(91,.p (.int .i64 (i:Nat))),(92,.p (.int .i64 (b:Nat)))],[.own [.p (.int .i64 0),.p .nil],.own [.p (.int .i64 0),.p (.int .i64 0)],.own [.p (.int .i64 0),.p (.int .i64 0)],.fro (ll ws),.own [.p (.int .i64 i),.sl 5 0 (M.take (a * i + b)).length],.own (ol (M.take (a * i + b)))]⟩) (fun b=>b≤i) (fun b=>i - b) 0 (Nat.zero_le _) [0,1,2,3,4,5] ?_ fun b hb=>?_
  ·exact dM rfl rfl (uP _ _ _) (by simp [St.get,lk,bj,bn])
  refine qm ?_
  refine ab fun K hK=>aa ae ?_
  simp only [an,fl,gp,ak,simprocAttr]
  refine af trivial (hK _ ?_)<;>clear hK K
  refine qa (qm ?_)
  refine aq rfl (fun hC6=>?_) (fun hC6=>?_)
  ·(try simp only [aE] at hC6)
   have hbi:b < i:=by omega
   obtain ⟨hmg,hml⟩:=hMg a b hai hbi
   have hbw:b < ws.length:=by omega
   obtain ⟨w,hw⟩:∃ w,ws.getD b []=w:=⟨_,rfl⟩
   obtain ⟨wd1,wd2,wd3⟩:=wa1.wd b hbw
   rw [hw] at wd1 wd2 wd3 hmg
   refine qh (qa (qm (ql (qm ?_))))
   refine ab fun K hK=>aa ae ?_
   simp only [an,fl,gp,ak,simprocAttr]
   refine af trivial (hK _ ?_)<;>clear hK K
   refine qa (qm ?_)
   refine ab fun K hK=>aa ae ?_
   simp only [an,fl,gp,ak,simprocAttr]
   refine af trivial (hK _ ?_)<;>clear hK K
   refine qa (qm (qm ?_))
   refine ab fun K hK=>aa ae ?_
   simp only [an,fl,gp,ak,simprocAttr,aC,b8 hbw,hw,aw]
   refine af ?_ (hK _ ?_)<;>clear hK K
   ·omega
   refine qa (ql ?_)
   refine aD (ι:=Nat × Nat) (fun q=>⟨140,[(0,.p (.int .i64 (m:Nat))),(4,.ptr 0 0),(6,.ptr 1 0),(7,.p (.list (ll T))),(8,.ptr 2 0),(9,.p (.list (ll ws))),(13,.ptr 4 0),(14,.p (.int .i64 (a:Nat))),(16,.p (.int .i64 (q.2:Nat))),(86,.p (.int .i64 (i:Nat))),(87,.p (.int .i64 (a:Nat))),(91,.p (.int .i64 (i:Nat))),(92,.p (.int .i64 (b:Nat))),(99,.p (.list (il w))),(100,.p (.int .i64 w.length)),(101,.p (.int .i64 (q.1:Nat)))],[.own [.p (.int .i64 0),.p .nil],.own [.p (.int .i64 0),.p (.int .i64 0)],.own [.p (.int .i64 0),.p (.int .i64 0)],.fro (ll ws),.own [.p (.int .i64 i),.sl 5 0 (M.take (a * i + b)).length],.own (ol (M.take (a * i + b)))]⟩) (fun q=>q.1≤w.length∧q.2 < i∧cb T q.2 (w.drop q.1)=cb T a w) (fun q=>w.length - q.1) (0,a) ⟨Nat.zero_le _,hai,rfl⟩ [0,1,2,3,4,5] ?_ fun q hq=>?_
   ·exact dM rfl rfl (uP _ _ _) (by simp [St.get,lk,bj,bn])
   obtain ⟨p,v⟩:=q
   obtain ⟨p1,p2,p3⟩:=hq
   simp only at p1 p2 p3 ⊢
   refine qm ?_
   refine ab fun K hK=>aa ae ?_
   simp only [an,fl,gp,ak,simprocAttr]
   refine af trivial (hK _ ?_)<;>clear hK K
   refine qa (qm ?_)
   refine aq rfl (fun hC7=>?_) (fun hC7=>?_)
   ·(try simp only [aE] at hC7)
    have hp:p < w.length:=by omega
    obtain ⟨x,hx⟩:∃ x,w.getD p 0=x:=⟨_,rfl⟩
    have hxl:=wd1 x (hx ▸ fa hp)
    have hdrw:w.drop p=x :: w.drop (p + 1):=by
     rw [List.drop_eq_getElem_cons hp,← hx,List.getD_eq_getElem?_getD,List.getElem?_eq_getElem hp]; rfl
    rw [hdrw,cb] at p3
    obtain ⟨cc,hcc⟩:=Int.eq_ofNat_of_zero_le (jy hxl.1 hxl.2.1 hxl.2.2).1
    have hcc2:=(jy hxl.1 hxl.2.1 hxl.2.2).2
    have hvT:v < T.length:=by omega
    obtain ⟨s1,s2⟩:=tk.tb.st hvT hxl
    have hrowv:=(tk.tb.at hvT).1
    rw [hcc,Int.toNat_natCast] at s1 hcc2
    refine qh (qa (qm (ql (qm ?_))))
    refine ab fun K hK=>aa ae ?_
    simp only [an,fl,gp,ak,simprocAttr,aw,aL hp,hx]
    refine af ?_ (hK _ ?_)<;>clear hK K
    ·omega
    refine qa ?_
    refine aO mixed (by kernel_rfl) fun K hK=>aa ae ?_
    simp only [an,fl,gp,ak,simprocAttr,aC,b8 hvT,aw,hcc,Int.toNat_natCast,Int.ofNat_eq_natCast,aL (show cc < (T.getD v []).length by omega),s1]
    refine ao ?_ (au (ri (by omega)) rfl rfl rfl (by simp only [ay,Nat.reduceLT]) (by repeat (first|exact trivial|constructor)) (aa ae ?_))
    ·(repeat (first|omega|(simp only [ah]; omega)|constructor))
    simp only [an,fl,gp,ak,simprocAttr,aC,b8 hvT,aw,hcc,Int.toNat_natCast,Int.ofNat_eq_natCast,aL (show cc < (T.getD v []).length by omega),s1]
    refine af ?_ (hK _ ?_)<;>clear hK K
    ·(repeat (first|trivial|omega|(simp only [ah]; omega)|constructor))
    refine qd (qa ?_)
    refine ab fun K hK=>aa ae ?_
    simp only [an,fl,gp,ak,simprocAttr]
    refine af ?_ (hK _ ?_)<;>clear hK K
    ·first|exact trivial|omega|(simp only [ah] at *; omega)|(simp [ah] at *; omega)|simp_all
    refine qa ?_
    refine ⟨(p + 1,jv T v x),[0,1,2,3,4,5],⟨hp,by simp only; omega,p3⟩,by simp only; omega,?_⟩
    exact dM rfl rfl (uP _ _ _) (by simp [St.get,lk,bj,bn])
   (try simp only [aE] at hC7)
   have hpe:p=w.length:=by omega
   rw [hpe,List.drop_length] at p3
   have hva:(v:Int)=M.getD (a * i + b) 0:=by rw [hmg,← p3]; rfl
   have htk:M.take (a * i + (b + 1))=M.take (a * i + b)++[(v:Int)]:=by
    rw [← Nat.add_assoc,kI (d:=0) (by omega),hva]
   have hlk:(M.take (a * i + b)).length=a * i + b:=by rw [List.length_take]; omega
   have htt:List.take (a * i + b) (ol (M.take (a * i + b)))=ol (M.take (a * i + b)):=List.take_of_length_le (by rw [dg,hlk]; exact Nat.le_refl _)
   rw [hlk]
   refine qj (qc (qc (qf (qa ?_))))
   refine ab fun K hK=>aa ae ?_
   simp only [an,fl,gp,ak,simprocAttr,htt,dg,hlk]
   refine af ?_ (hK _ ?_)<;>clear hK K
   ·(repeat (first|trivial|omega|(simp; omega)|constructor))
   refine qd (qa ?_)
   refine ab fun K hK=>aa ae ?_
   simp only [an,fl,gp,ak,simprocAttr]
   refine af ?_ (hK _ ?_)<;>clear hK K
   ·first|exact trivial|omega|(simp only [ah] at *; omega)|(simp [ah] at *; omega)|simp_all
   refine qa ?_
   refine ⟨b + 1,[0,1,2,3,4,6],by omega,by omega,?_⟩
   rw [htk]
   refine ⟨rfl,by decide,⟨⟨rfl,rfl⟩,⟨rfl,rfl⟩,⟨rfl,rfl⟩,rfl,⟨?_,rfl⟩,⟨?_,fG _ _⟩,trivial⟩,iH rfl (dw rfl rfl (by decide) (dw rfl rfl (by decide) (iH rfl (dw rfl rfl (by decide) (iH rfl (dw rfl rfl (by decide) (iH rfl (iH rfl (iH rfl (iH rfl (iH rfl trivial)))))))))))⟩
   ·rw [List.length_append,hlk]; rfl
   rw [nC]
   have e:ol (M.take (a * i + b)++[(v:Int)])=ol (M.take (a * i + b))++[.p (.int .i64 (v:Nat))]:=by simp [ol,il]
   rw [e,List.take_of_length_le (Nat.le_refl _)]
  (try simp only [aE] at hC6)
  have hbe:b=i:=by omega
  have htk:M.take (a * i + b)=M.take ((a + 1) * i):=by rw [hbe,Nat.add_mul,Nat.one_mul]
  rw [htk]
  refine qj (qc (qc (qf (qd (qa ?_)))))
  refine ab fun K hK=>aa ae ?_
  simp only [an,fl,gp,ak,simprocAttr]
  refine af ?_ (hK _ ?_)<;>clear hK K
  ·first|exact trivial|omega|(simp only [ah] at *; omega)|(simp [ah] at *; omega)|simp_all
  refine qa ?_
  refine ⟨a + 1,[0,1,2,3,4,5],by omega,by omega,?_⟩
  exact dM rfl rfl (uP _ _ _) (by simp [St.get,lk,bj,bn])
 (try simp only [aE] at hC5)
 have hae:a=i:=by omega
 have htk:M.take (a * i)=M:=by rw [hae]; exact List.take_of_length_le (by omega)
 rw [htk]
 refine qj (qc (qc (qf (qa (qm ?_)))))
 refine ab fun K hK=>aa ae ?_
 simp only [an,fl,gp,ak,simprocAttr]
 refine af trivial (hK _ ?_)<;>clear hK K
 refine qa (qm (qm ?_))
 refine ji 19 rfl ?_
 refine ab fun K hK=>aa ae ?_
 simp only [an,fl,gp,ak,simprocAttr]
 refine af trivial (hK _ ?_)<;>clear hK K
 refine qa (ql ?_)
 obtain ⟨K1,hK1⟩:∃ K,kV T m=K:=⟨_,rfl⟩
 have hKl:K1.length=m:=by rw [← hK1]; simp [kV]
 have hKg:∀ x,x < m→K1.getD x 0=(jv T 0 ((x + 1:Nat):Int):Int):=fun x hx=>by
  rw [← hK1]
  unfold kV
  rw [List.getD_eq_getElem?_getD,List.getElem?_map,List.getElem?_range hx]; rfl
 rw [hK1]
 refine aD (ι:=Nat) (fun x=>⟨140,[(0,.p (.int .i64 (m:Nat))),(4,.ptr 0 0),(6,.ptr 1 0),(7,.p (.list (ll T))),(8,.ptr 2 0),(13,.ptr 4 0),(19,.sl 6 0 (K1.take (x - 1)).length),(20,.p (.int .i64 (x:Nat)))],[.own [.p (.int .i64 0),.p .nil],.own [.p (.int .i64 0),.p (.int .i64 0)],.own [.p (.int .i64 0),.p (.int .i64 0)],.fro (ll ws),.own [.p (.int .i64 i),.sl 5 0 M.length],.own (ol M),.own (ol (K1.take (x - 1)))]⟩) (fun x=>1≤x∧x≤m + 1) (fun x=>m + 1 - x) 1 ⟨Nat.le_refl _,by omega⟩ [0,1,2,3,4,5,6] ?_ fun x hx=>?_
 ·exact dM rfl rfl (Fz ws (i:Int) M []) (by simp [St.get,lk,bj,bn])
 obtain ⟨x1,x2⟩:=hx
 refine qm (qm ?_)
 refine ab fun K hK=>aa ae ?_
 simp only [an,fl,gp,ak,simprocAttr]
 refine af trivial (hK _ ?_)<;>clear hK K
 refine qa ?_
 refine aq rfl (fun hC8=>?_) (fun hC8=>?_)
 ·(try simp only [aE] at hC8)
  have hxm:x≤m:=by omega
  have hxl:(x:Int) ≠ 0∧-(m:Int)≤x∧(x:Int)≤m:=⟨by omega,by omega,by omega⟩
  obtain ⟨cc,hcc⟩:=Int.eq_ofNat_of_zero_le (jy hxl.1 hxl.2.1 hxl.2.2).1
  have hcc2:=(jy hxl.1 hxl.2.1 hxl.2.2).2
  have h0T:0 < T.length:=by omega
  obtain ⟨s1,s2⟩:=tk.tb.st h0T hxl
  have hrow0:=(tk.tb.at h0T).1
  rw [hcc,Int.toNat_natCast] at s1 hcc2
  have hlx:(K1.take (x - 1)).length=x - 1:=by rw [List.length_take]; omega
  have htt:List.take (x - 1) (ol (K1.take (x - 1)))=ol (K1.take (x - 1)):=List.take_of_length_le (by rw [dg,hlx]; exact Nat.le_refl _)
  have htk2:K1.take (x + 1 - 1)=K1.take (x - 1)++[(jv T 0 (x:Int):Int)]:=by
   have e:=hKg (x - 1) (by omega)
   rw [show x - 1 + 1=x by omega] at e
   rw [show x + 1 - 1=(x - 1) + 1 by omega,kI (d:=0) (by omega),e]
  rw [hlx]
  refine qh (qa (qm (ql ?_)))
  refine cZ mixed fun K hK=>aM ae ?_
  simp only [lP,an,fl,gp,ak,simprocAttr,aC,b8 h0T,aw,hcc,Int.toNat_natCast,Int.ofNat_eq_natCast,aL (show cc < (T.getD 0 []).length by omega),s1,htt,dg,hlx]
  refine bw ?_ (bJ (ri (by omega)) rfl rfl rfl rfl (by simp only [ay,Nat.reduceLT]) (by repeat (first|exact trivial|constructor)) (aM ae ?_))
  ·(repeat (first|omega|(simp only [ah]; omega)|constructor))
  simp only [lP,an,fl,gp,ak,simprocAttr,aC,b8 h0T,aw,hcc,Int.toNat_natCast,Int.ofNat_eq_natCast,aL (show cc < (T.getD 0 []).length by omega),s1,htt,dg,hlx]
  refine db ?_ (hK _ _ (by first|kernel_rfl|rfl) ?_)<;>clear hK K
  ·(repeat (first|trivial|omega|(simp; omega)|(simp only [ah]; omega)|constructor))
  refine qd (qa ?_)
  refine ab fun K hK=>aa ae ?_
  simp only [an,fl,gp,ak,simprocAttr]
  refine af ?_ (hK _ ?_)<;>clear hK K
  ·first|exact trivial|omega|(simp only [ah] at *; omega)|(simp [ah] at *; omega)|simp_all
  refine qa ?_
  refine ⟨x + 1,[0,1,2,3,4,5,7],⟨by omega,by omega⟩,by omega,?_⟩
  rw [htk2]
  refine ⟨rfl,by decide,⟨⟨rfl,rfl⟩,⟨rfl,rfl⟩,⟨rfl,rfl⟩,rfl,⟨rfl,rfl⟩,⟨?_,fG _ _⟩,⟨?_,fG _ _⟩,trivial⟩,iH rfl (dw rfl rfl (by decide) (dw rfl rfl (by decide) (iH rfl (dw rfl rfl (by decide) (dw rfl rfl (by decide) (ny (p:=7) ?_ rfl (by decide) (iH rfl trivial)))))))⟩
  ·rw [nC]; exact (List.take_of_length_le (Nat.le_refl _)).symm
  ·rw [nC]
   have e:ol (K1.take (x - 1)++[(jv T 0 (x:Int):Int)])=ol (K1.take (x - 1))++[.p (.int .i64 (jv T 0 (x:Int):Nat))]:=by simp [ol,il]
   rw [e,List.take_of_length_le (Nat.le_refl _)]
  rw [List.length_append,hlx]; rfl
 (try simp only [aE] at hC8)
 have hxe:x=m + 1:=by omega
 have htk2:K1.take (x - 1)=K1:=List.take_of_length_le (by omega)
 rw [htk2]
 refine qj (qc (qc (qf (qa (qm ?_)))))
 refine si 19 6 (w:=K1) rfl rfl ?_
 refine er 5 (b:=ol M) (ps:=il M) rfl (jg M) ?_
 refine l7 4 1 (b:=[.p (.int .i64 i),.sl 5 0 M.length]) (x:=.sl 5 0 M.length) rfl rfl (p:=0 + M.length≤(il M).length∧(((il M).drop 0).take M.length).all PV.one=true) (pv:=.list (((il M).drop 0).take M.length)) rfl ⟨by simp [aw],by rw [List.drop_zero,List.take_of_length_le (by simp [aw])]; exact ij _⟩ ?_
 rw [List.drop_zero,List.take_of_length_le (show (il M).length≤M.length by simp [aw])]
 simp only [aF,List.set_cons_succ,List.set_cons_zero]
 refine cZ mixed fun K hK=>aM ae ?_
 simp only [lP,an,fl,gp,ak,simprocAttr]
 refine db ?_ (hK _ _ (by first|kernel_rfl|rfl) ?_)<;>clear hK K
 ·first|exact trivial|omega|(simp only [ah] at *; omega)|(simp [ah] at *; omega)|simp_all
 refine qa (qk ?_)
 simp only [Tryd.results15,bT,an,fl,gp,ak,simprocAttr]
 all_goals (rw [hN])
theorem yI (n:Int) (rels:List (List Int)) (hr:rels.length≤1000000000∧∀ w∈rels,w.length≤1000000000):ct Tryd.prog 15 [.int .i64 n,.list (ll rels)] (EF n rels):=by
 have hc:=zg n rels hr
 unfold EF
 unfold Hy at hc
 by_cases h1:(fH n [rels,[]]).1 ≠ 0
 ·rw [if_pos h1] at hc ⊢
  exact uj n rels _ hc h1
 rw [if_neg h1] at hc ⊢
 rw [if_neg (by omega)] at hc
 obtain ⟨hn,hlk,hok⟩:=ka (Classical.not_not.1 h1)
 obtain ⟨m,rfl⟩:=Int.eq_ofNat_of_zero_le (show 0≤n by omega)
 have hrl:=hok rels (by simp)
 rw [Int.toNat_natCast] at hrl ⊢
 rw [Int.toNat_natCast,show (60:Int).toNat=60 from rfl] at hc
 have hm:1≤m∧m≤6:=by omega
 cases ho:oK m rels [] 60 with
 | none =>
  rw [ho] at hc
  exact uj _ rels (9,0) hc (by decide)
 | some T =>
  rw [ho] at hc
  obtain ⟨tk,t0,t60⟩:=Ch (by omega) (fun w hw=>(hrl.2.2 w hw).1) (fun w hw=>by simp at hw) ho
  exact Cn hm rels T hc tk t0 t60
def FZ:List (List Int):=[[1,1,1],[2,2],[1,2,1,2]]
theorem H5:∃ M K,EF 2 FZ = .tup [gp 6 M,.list (il K),fl (0,0)]:=by
 have h1:(fH 2 [FZ,[]]).1=0:=by decide
 have h2:=Fp
 unfold EF
 rw [if_neg (by rw [h1]; simp)]
 rw [show (2:Int).toNat=2 from rfl]
 cases ho:oK 2 FZ [] 60 with
 | none =>
  rw [show (oK 2 [[1,1,1],[2,2],[1,2,1,2]] [] 60)=oK 2 FZ [] 60 from rfl,ho] at h2
  cases h2
 | some T =>
  rw [show (oK 2 [[1,1,1],[2,2],[1,2,1,2]] [] 60)=oK 2 FZ [] 60 from rfl,ho] at h2
  have h3:T.length=6:=Option.some.inj h2
  exact ⟨gK T (dj T 2),kV T 2,by simp only [h3]; rfl⟩
theorem pr.Ib {a b c:List PV} : pr (.nn [.nn a,.nn b,.nn c]) (.list [.list a,.list b,.list c]):=fun ok w v h=>by
 cases h with
 | nn _ k off sz vs hb hsz hc hr =>
  refine .list [.list a,.list b,.list c] k off 3 1 vs hb (by simp [PV.cells]) (by simp) (fun i hc'=>hc i (by simpa [flat,PV.cells] using hc')) fun i hcl=>?_
  have h0:=hr 0 (by simp [flat,PV.cells])
  have h1:=hr 1 (by simp [flat,PV.cells])
  have h2:=hr 2 (by simp [flat,PV.cells])
  match i,hcl with
  | 0,_=>exact Reads.iP h0
  | 1,_=>exact Reads.iP h1
  | 2,_=>exact Reads.iP h2
theorem zB (M K:List Int) (h:EF 2 FZ = .tup [gp 6 M,.list (il K),fl (0,0)]):ct Tryd.prog 15 [.int .i64 2,.nn [.nn [.int .i64 1,.int .i64 1,.int .i64 1],.nn [.int .i64 2,.int .i64 2],.nn [.int .i64 1,.int .i64 2,.int .i64 1,.int .i64 2]]] (.tup [gp 6 M,.list (il K),fl (0,0)]):=by
 have:=yI 2 FZ ⟨by decide,by decide⟩
 rw [h] at this
 exact ct.vm this ⟨pr.rfl,pr.Ib,trivial⟩
set_option maxHeartbeats 4000000 in
theorem vb:ct Tryd.prog 4 [] (.bool true):=by
 obtain ⟨M,K,h⟩:=H5
 have hg:=zB M K h
 refine aV ae Tryd.func4 rfl (by kernel_rfl) (by rw [Tryd.ntmps4]; exact Nat.le_add_left 0 _) ?_; rw [Tryd.ntmps4]
 refine qm ?_
 refine ab fun K hK=>aa ae ?_
 simp only [an,fl,gp,ak,simprocAttr]
 refine af trivial (hK _ ?_)<;>clear hK K
 refine qa (qm ?_)
 refine ab fun K hK=>aa ae ?_
 simp only [an,fl,gp,ak,simprocAttr]
 refine ao trivial (au (hg) rfl rfl rfl (by simp only [ay,Nat.reduceLT]) (by repeat (first|exact trivial|constructor)) (aa ae ?_))
 simp only [an,fl,gp,ak,simprocAttr]
 refine af ?_ (hK _ ?_)<;>clear hK K
 ·first|exact trivial|omega|(simp only [ah] at *; omega)|(simp [ah] at *; omega)|simp_all
 refine qa (qm ?_)
 refine ab fun K hK=>aa ae ?_
 simp only [an,fl,gp,ak,simprocAttr]
 refine af ?_ (hK _ ?_)<;>clear hK K
 ·first|exact trivial|omega|(simp only [ah] at *; omega)|(simp [ah] at *; omega)|simp_all
 refine qa (qk ?_)
 simp only [Tryd.results4,bT,an,fl,gp,ak,simprocAttr]
 all_goals ((first|exact rfl|exact ⟨rfl,rfl⟩|exact ⟨rfl,rfl,rfl⟩|exact ⟨trivial,rfl⟩|exact ⟨Nat.le_refl _,rfl⟩|trivial|(simp; done)))
section
variable {X:Type} {m most:Nat} {act:X→Int→X} {κ:Nat→X}
def CF (m:Nat) (act:X→Int→X) (c:X) (x:Int):Option X:=if x ≠ 0∧-(m:Int)≤x∧x≤m then some (act c x) else none
def o7 (m:Nat) (act:X→Int→X):Prop:=∀ c (x:Int),x ≠ 0→-(m:Int)≤x→x≤m→act (act c x) (-x)=c
abbrev eu (m:Nat) (act:X→Int→X) (κ:Nat→X) (s:CS):Prop:=Ea (CF m act) κ (gN m s.1) s.2 []
theorem eu.up (hm:m≤26) {s:CS} (h:cw m s) {U' : List Int} (hr:∀ u,u < s.1.length→rV U' u=rV s.2 u) (hc:eu m act κ s):eu m act κ (s.1,U'):=
 (ta (h.wr.wg hm) (fun t ht=>by cases ht) h.sy (U':=U') fun u hu=>hr u (by rwa [aQ] at hu)).cmp X _ κ hc
theorem eu.rv {s:CS} (hc:eu m act κ s) {u v:Nat} (hu:u < s.1.length) (hv:v < s.1.length) (e:rV s.2 u=rV s.2 v):κ u=κ v:=by
 rw [← hc.1 u (by rw [aQ]; exact hu),← hc.1 v (by rw [aQ]; exact hv),e]
theorem eu.ed {s:CS} (hc:eu m act κ s) {u v:Nat} {x:Int} (hu:u < s.1.length) (hv:v < s.1.length) (hx:x ≠ 0∧-(m:Int)≤x∧x≤m) (e:Ed (gN m s.1) s.2 u x v):κ v=act (κ u) x:=by
 have:=hc.2 u x v (by rw [aQ]; exact hu) (by rw [aQ]; exact hv) (cV.2 e)
 unfold CF at this
 rw [if_pos hx] at this
 exact (Option.some.inj this).symm
theorem eu.oo {s:CS} (hc:eu m act κ s):∀ {w:List Int} {u v:Nat},u < s.1.length→v < s.1.length→Lt m w→fP (gN m s.1) s.2 u w v→κ v=w.foldl act (κ u)
 | [],u,v,hu,hv,_,hp=>(hc.rv hu hv hp).symm
 | x :: w,u,v,hu,hv,hw,⟨q,a,b,c⟩=>by
  rw [aQ] at a
  rw [List.foldl_cons,← hc.ed hu a (hw x (by simp)) b]
  exact eu.oo hc a hv (fun y hy=>hw y (by simp [hy])) c
theorem eu.set (hm:m≤26) (hi:o7 m act) {s:CS} (h:cw m s) {a b:Nat} {x:Int} (ha:a < s.1.length) (hb:b < s.1.length) (hx:x ≠ 0∧-(m:Int)≤x∧x≤m) (hc:eu m act κ s) (he:act (κ a) x=κ b):eu m act κ (cJ m s.1 s.2 a x b):=by
 refine (vI hm h.wr ha hb hx h.sy).cmp X _ κ (xw (by rw [aQ]; exact ha) (by rw [aQ]; exact hb) hc ?_ ?_)
 ·unfold CF; rw [if_pos hx,he]
 unfold CF; rw [if_pos ⟨by omega,by omega,by omega⟩,← he,hi _ x hx.1 hx.2.1 hx.2.2]
theorem eu.fr (hm:m≤26) {s:CS} (h:cw m s) (hc:eu m act κ s) (c:X):eu m act (fun u=>if u=s.1.length then c else κ u) (br m s):=by
 have hg:gN m (br m s).1=gN m s.1++[DG]:=by unfold br gN; simp [yG]
 have:=yR (h.wr.wg hm) hc c
 rw [aQ] at this
 show Ea _ _ (gN m (br m s).1) (br m s).2 []
 rw [hg]
 exact this
theorem yf (hm:m≤26) (hi:o7 m act):∀ (w:List Int) (s:CS) (a:Nat) (q:CS × Nat × List Int) (κ:Nat→X),cw m s→a < s.1.length→rV s.2 a=a→Lt m w→eu m act κ s→kT m most w s a=some q →
  ∃ κ' : Nat→X,(∀ u,u < s.1.length→κ' u=κ u)∧eu m act κ' q.1
 | [],s,a,q,κ,h,ha,hr,_,hc,hq=>by cases hq; exact ⟨κ,fun _ _=>rfl,hc⟩
 | [x],s,a,q,κ,h,ha,hr,_,hc,hq=>by cases hq; exact ⟨κ,fun _ _=>rfl,hc⟩
 | x :: y :: r,s,a,q,κ,h,ha,hr,hw,hc,hq=>by
  unfold kT at hq
  split at hq
  ·obtain ⟨t,ht⟩:∃ t,t=cJ m (br m s).1 (br m s).2 a x s.1.length:=⟨_,rfl⟩
   rw [← ht] at hq
   have hx:=hw x (by simp)
   obtain ⟨f1,f2,k1,k2,k3,k4,k5,k6,k7⟩:=l9 hm h ha hx ht
   have c1:=hc.fr hm h (act (κ a) x)
   have c2:=c1.set hm hi f1 (a:=a) (b:=s.1.length) (x:=x) (by omega) (by omega) hx (by
    show act (if a=s.1.length then _ else κ a) x=if s.1.length=s.1.length then _ else _
    rw [if_neg (by omega),if_pos rfl])
   rw [← ht] at c2
   have c3:=c2.up hm k1 (U':=aT t.2 s.1.length) (cU hm k1 (v:=s.1.length) (by omega)).2
   obtain ⟨κ',e1,e2⟩:=yf hm hi (y :: r) _ _ q _ k5 k3 k4 (fun z hz=>hw z (by simp [hz])) c3 hq
   refine ⟨κ',fun u hu=>?_,e2⟩
   rw [e1 u (by simp only; omega)]
   exact if_neg (by omega)
  cases hq
theorem Ft (hm:m≤26) (hi:o7 m act) {s:CS} (h:cw m s) {v:Nat} (hv:v < s.1.length) {w:List Int} (hw:Lt m w) {s' : CS} (hc:eu m act κ s) (hrel:w.foldl act (κ v)=κ v) (ht:rK m most s v w=some s') :
  ∃ κ' : Nat→X,(∀ u,u < s.1.length→κ' u=κ u)∧eu m act κ' s':=by
 obtain ⟨g1,g2⟩:=cU hm h hv
 have hc0:=hc.up hm h g2
 have ev:dO s.2 v=rV s.2 v:=bS h.wr.fo (by rw [h.wr.len]; exact hv)
 have hle:=dP h.wr.fo v (by rw [h.wr.len]; exact hv)
 have hidm:=dt h.wr.fo (v:=v) (by rw [h.wr.len]; exact hv)
 unfold rK at ht
 split at ht
 ·obtain rfl:=Option.some.inj ht
  exact ⟨κ,fun _ _=>rfl,hc0⟩
 rename_i hn
 rw [ev] at ht
 obtain ⟨v1,hv1⟩:∃ v1,rV s.2 v=v1:=⟨_,rfl⟩
 rw [hv1] at ht hidm hle
 have hv1l:v1 < s.1.length:=by omega
 have hkv:κ v1=κ v:=hc.rv hv1l hv (by rw [hv1]; exact hidm)
 have hr1:rV (aT s.2 v) v1=v1:=by rw [g2 v1 hv1l]; exact hidm
 obtain ⟨f1,f2,f3,f4,p,f5,f6⟩:=jO hm w (aT s.2 v) v1 g1 hv1l hr1 hw
 generalize gE s.1 w (aT s.2 v) v1=F at ht f1 f2 f3 f4 f5 f6
 obtain ⟨U1,a,r⟩:=F
 simp only at ht f1 f2 f3 f4 f5 f6
 have hra:rV U1 a=a:=by rw [f2 a f3]; exact f4
 have hc1:eu m act κ (s.1,U1):=hc0.up hm g1 f2
 have hwp:Lt m p:=fun z hz=>hw z (by rw [f5]; simp [hz])
 have hka:κ a=p.foldl act (κ v1):=hc0.oo (s:=(s.1,aT s.2 v)) hv1l f3 hwp f6
 cases hq:kT m most r (s.1,U1) a with
 | none=>rw [hq] at ht; cases ht
 | some q =>
  rw [hq] at ht
  simp only [Option.map_some,Option.some.injEq] at ht
  have hwr:Lt m r:=fun z hz=>hw z (by rw [f5]; simp [hz])
  obtain ⟨k1,k2,k3,k4,k5,k6⟩:=mN hm r (s.1,U1) a q f1 f3 hra hwr hq
  obtain ⟨κ',e1,e2⟩:=yf hm hi r (s.1,U1) a q κ f1 f3 hra hwr hc1 hq
  simp only at e1
  have hl:s.1.length≤q.1.1.length:=k2.len
  have hkv1:κ' v1=κ v1:=e1 v1 hv1l
  have hrel' : w.foldl act (κ' v1)=κ' v1:=by rw [hkv1,hkv]; exact hrel
  by_cases hrn:r=[]
  ·have hqe:=k5 hrn
   subst hqe
   subst hrn
   simp only [List.append_nil] at f5
   subst f5
   simp only at k1 k3 k4 hl e2
   have ex1:Ext m (s.1,aT s.2 v) (s.1,U1):=eA (N:=s.1) g1.wr hm (U':=U1) f2
   have pq:=ex1.oo (w:=w) (u:=v1) (v:=a) hv1l f3 f6
   obtain ⟨c1,c2,c3,c4,c5,c6,c7,c8,b,c9,c10,c11,c12,p2,q2,c13,c14,c15,c16⟩:=s8 hm k1 hw hn (v:=v1) hv1l k3 k4 pq
   simp only at c1 c2 c3 c4 c5 c6 c8 c9 c10 c11 c12 c14 c15 c16
   unfold zA at ht
   simp only [c1,c4] at ht
   split at ht
   ·subst ht
    exact ⟨κ',e1,e2.up hm k1 c6⟩
   rw [c9,Int.toNat_natCast] at ht
   have e3:=e2.up hm k1 c12
   have h2:κ' b=p2.foldl act (κ' v1):=by
    rw [← e2.oo (s:=(s.1,U1)) hv1l c14 (fun z hz=>hw z (by rw [c13]; simp [hz])) c15]
    exact (e2.rv (s:=(s.1,U1)) c14 c10 c16).symm
   have e4:=e3.set hm hi c11 (a:=b) (b:=v1) c10 hv1l c7 (by
    rw [h2]
    have:(p2++[w.getLastD 0]).foldl act (κ' v1)=κ' v1:=by rw [← c13]; exact hrel'
    rw [List.foldl_append] at this
    exact this)
   rw [ht] at e4
   exact ⟨κ',e1,e4⟩
  obtain ⟨p2,x,g3,g4,g5⟩:=k6 hrn
  unfold zA at ht
  rw [g4] at ht
  simp only at ht
  have hx:=hw x (by rw [f5,g3]; simp)
  have h2:κ' q.2.1=p2.foldl act (κ' a):=e2.oo (Nat.lt_of_lt_of_le f3 k2.len) k3 (fun z hz=>hwr z (by rw [g3]; simp [hz])) g5
  have e4:=e2.set hm hi k1 (a:=q.2.1) (b:=v1) k3 (by omega) hx (by
   rw [h2,e1 a f3,hka]
   have:(p++(p2++[x])).foldl act (κ v1)=κ v1:=by rw [← g3,← f5,hkv]; exact hrel
   rw [List.foldl_append,List.foldl_append] at this
   rw [hkv1]
   exact this)
  rw [ht] at e4
  exact ⟨κ',e1,e4⟩
theorem sC (hm:m≤26) (hi:o7 m act) {v:Nat} : ∀ (rels:List (List Int)) (s s' : CS) (κ:Nat→X),cw m s→v < s.1.length→(∀ w∈rels,Lt m w)→(∀ c,∀ w∈rels,w.foldl act c=c)→eu m act κ s→kX m most v rels s=some s' →
  ∃ κ' : Nat→X,(∀ u,u < s.1.length→κ' u=κ u)∧eu m act κ' s'
 | [],s,s',κ,h,hv,_,_,hc,hq=>by cases hq; exact ⟨κ,fun _ _=>rfl,hc⟩
 | w :: r,s,s',κ,h,hv,hr,hh,hc,hq=>by
  obtain ⟨g1,g2⟩:=cU hm h hv
  have hc0:=hc.up hm h g2
  unfold kX at hq
  split at hq
  ·cases ht:rK m most (s.1,aT s.2 v) v w with
   | none=>rw [ht] at hq; cases hq
   | some s1 =>
    rw [ht] at hq
    obtain ⟨k1,k2,k3⟩:=kQ hm g1 hv (hr w (by simp)) ht
    obtain ⟨κ1,e1,e2⟩:=Ft hm hi g1 hv (hr w (by simp)) hc0 (hh _ w (by simp)) ht
    have hv1:v < s1.1.length:=Nat.lt_of_lt_of_le hv k2.len
    obtain ⟨κ2,e3,e4⟩:=sC hm hi r s1 s' κ1 k1 hv1 (fun w hw=>hr w (by simp [hw])) (fun c w hw=>hh c w (by simp [hw])) e2 hq
    exact ⟨κ2,fun u hu=>by rw [e3 u (Nat.lt_of_lt_of_le hu k2.len),e1 u hu],e4⟩
  exact sC hm hi r (s.1,aT s.2 v) s' κ g1 hv (fun w hw=>hr w (by simp [hw])) (fun c w hw=>hh c w (by simp [hw])) hc0 hq
theorem ox (hm:m≤26) (hi:o7 m act) {v:Nat} : ∀ (L:List Int) (s s' : CS) (κ:Nat→X),cw m s→v < s.1.length→(∀ x∈L,-(m:Int)≤x∧x≤m)→eu m act κ s→iE m most v L s=some s' →
  ∃ κ' : Nat→X,(∀ u,u < s.1.length→κ' u=κ u)∧eu m act κ' s'
 | [],s,s',κ,h,hv,_,hc,hq=>by cases hq; exact ⟨κ,fun _ _=>rfl,hc⟩
 | x :: r,s,s',κ,h,hv,hr,hc,hq=>by
  obtain ⟨g1,g2⟩:=cU hm h hv
  have hc0:=hc.up hm h g2
  obtain ⟨x1,x2⟩:=hr x (by simp)
  have ev:dO s.2 v=rV s.2 v:=bS h.wr.fo (by rw [h.wr.len]; exact hv)
  unfold iE at hq
  split at hq
  ·rename_i hroot
   have hr1:rV (aT s.2 v) v=v:=by rw [g2 v hv,← ev]; exact hroot
   split at hq
   ·exact ox hm hi r (s.1,aT s.2 v) s' κ g1 hv (fun w hw=>hr w (by simp [hw])) hc0 hq
   rename_i hx0
   split at hq
   ·split at hq
    ·obtain ⟨f1,f2,f3⟩:=lH hm g1
     obtain ⟨k1,k2,k3,k4⟩:=ec hm f1 (a:=v) (b:=s.1.length) (x:=x) (by simp only at f2; omega) (by simp only at f2; omega) ⟨hx0,x1,x2⟩
     simp only at f2
     have c1:=hc0.fr hm g1 (act (κ v) x)
     have c2:=c1.set hm hi f1 (a:=v) (b:=s.1.length) (x:=x) (by omega) (by omega) ⟨hx0,x1,x2⟩ (by
      show act (if v=s.1.length then _ else κ v) x=if s.1.length=s.1.length then _ else _
      rw [if_neg (by omega),if_pos rfl])
     obtain ⟨κ',e1,e2⟩:=ox hm hi r _ s' _ k1 (by rw [k2,f2]; omega) (fun w hw=>hr w (by simp [hw])) c2 hq
     refine ⟨κ',fun u hu=>?_,e2⟩
     rw [e1 u (Nat.lt_of_lt_of_le hu (f3.trans k3).len)]
     show (if u=s.1.length then _ else κ u)=κ u
     exact if_neg (by omega)
    cases hq
   rename_i hd
   obtain ⟨b,t1,t2,t3,t4,t5,t6⟩:=gV hm g1 hv hr1 ⟨hx0,x1,x2⟩ hd
   simp only at t5 t6
   exact ox hm hi r (s.1,gi s.1 (aT s.2 v) v x) s' κ t5 hv (fun w hw=>hr w (by simp [hw])) (hc0.up hm g1 t6) hq
  cases hq
  exact ⟨κ,fun _ _=>rfl,hc0⟩
theorem uM (hm:m≤26) (hi:o7 m act) {rels:List (List Int)} (hr:∀ w∈rels,Lt m w) (hh:∀ c,∀ w∈rels,w.foldl act c=c):∀ (k v:Nat) (s s' : CS) (κ:Nat→X),cw m s→eu m act κ s→ju m most rels k v s=some s' →
  ∃ κ' : Nat→X,(∀ u,u < s.1.length→κ' u=κ u)∧eu m act κ' s'
 | 0,v,s,s',κ,h,hc,hq=>by cases hq; exact ⟨κ,fun _ _=>rfl,hc⟩
 | k + 1,v,s,s',κ,h,hc,hq=>by
  unfold ju at hq
  split at hq
  ·rename_i hv
   cases h1:kX m most v rels s with
   | none=>rw [h1] at hq; cases hq
   | some s1 =>
    rw [h1] at hq
    simp only [Option.bind_some] at hq
    obtain ⟨a1,a2,a3⟩:=mh hm rels s s1 h hv hr h1
    obtain ⟨κ1,e1,e2⟩:=sC hm hi rels s s1 κ h hv hr hh hc h1
    have hv1:v < s1.1.length:=Nat.lt_of_lt_of_le hv a2.len
    cases h2:iE m most v (iT m) s1 with
    | none=>rw [h2] at hq; cases hq
    | some s2 =>
     rw [h2] at hq
     simp only [Option.bind_some] at hq
     obtain ⟨b1,b2,b3⟩:=jS hm (iT m) s1 s2 a1 hv1 (fun x hx=>gU.1 hx) h2
     obtain ⟨κ2,e3,e4⟩:=ox hm hi (iT m) s1 s2 κ1 a1 hv1 (fun x hx=>gU.1 hx) e2 h2
     obtain ⟨κ3,e5,e6⟩:=uM hm hi hr hh k (v + 1) s2 s' κ2 b1 e4 hq
     exact ⟨κ3,fun u hu=>by rw [e5 u (Nat.lt_of_lt_of_le hu (a2.trans b2).len),e3 u (Nat.lt_of_lt_of_le hu a2.len),e1 u hu],e6⟩
  cases hq
  exact ⟨κ,fun _ _=>rfl,hc⟩
theorem Bj (hm:m≤26) (hi:o7 m act) {rels:List (List Int)} (hr:∀ w∈rels,Lt m w) (hh:∀ c,∀ w∈rels,w.foldl act c=c) (x0:X) {t:CS} (h:po m most rels []=some t):∃ κ:Nat→X,κ 0=x0∧eu m act κ t:=by
 unfold po at h
 simp only [re,Option.bind_some] at h
 have k0:=xk (m:=m) hm
 have c0:eu m act (fun _=>x0) (br m ([],[])):=by
  have:=eu.fr (act:=act) (κ:=fun _=>x0) hm (s:=([],[])) ⟨⟨rfl,fun v hv=>by simp at hv,fun r hr=>by simp at hr⟩,fun u x v hu=>by simp [gN] at hu⟩ ⟨fun u hu=>by simp [gN] at hu,fun u x v hu=>by simp [gN] at hu⟩ x0
  have e:(fun u=>if u=([]:List (List Int)).length then x0 else x0)=fun _:Nat=>x0:=by funext u; split<;>rfl
  rw [e] at this
  exact this
 obtain ⟨κ,e1,e2⟩:=uM hm hi hr hh (most + 1) 0 _ t _ k0 c0 h
 exact ⟨κ,e1 0 (by simp [br]),e2⟩
end
theorem tO {X:Type} {m:Nat} {act:X→Int→X} (hi:o7 m act) {w:List Int} (hw:Lt m w) (c:X):(short w).foldl act c=w.foldl act c:=by
 have hp:∀ (o:List Int) (x:Int),Lt m o→(x ≠ 0∧-(m:Int)≤x∧x≤m)→(push o x).foldl act c=act (o.foldl act c) x:=by
  intro o x ho hx
  unfold push
  split
  ·rename_i hc
   obtain ⟨p,y,rfl⟩:∃ p y,o=p++[y]:=by
    have hne:o ≠ []:=by intro e; subst e; simp at hc
    exact ⟨o.dropLast,o.getLast hne,(List.dropLast_concat_getLast hne).symm⟩
   have e1:(p++[y]).take ((p++[y]).length - 1)=p:=by simp
   have e2:y = -x:=by simpa using hc
   have hy:y ≠ 0∧-(m:Int)≤y∧y≤m:=ho y (by simp)
   rw [e1,List.foldl_append]
   simp only [List.foldl_cons,List.foldl_nil]
   rw [show x = -y by omega,hi _ y hy.1 hy.2.1 hy.2.2]
  rw [List.foldl_append]; rfl
 have:∀ (w o:List Int),Lt m w→Lt m o→(w.foldl push o).foldl act c=w.foldl act (o.foldl act c):=by
  intro w
  induction w with
  | nil=>intro o _ _; rfl
  | cons x w ih =>
   intro o hw ho
   have hx:=hw x (by simp)
   rw [List.foldl_cons,ih _ (fun y hy=>hw y (by simp [hy])) (tP ho hx),hp o x ho hx]
   rfl
 exact this w [] hw (fun x hx=>by simp at hx)
open Go.Pv
section
variable {m mo:Nat} {rels T:List (List Int)}
theorem yl (hm:m≤26) (hr:∀ w∈rels,Lt m w) (h:oK m rels [] mo=some T) {X:Type} {act:X→Int→X} (hi:o7 m act) (hh:∀ c,∀ w∈rels,w.foldl act c=c) (x0:X) :
  ∃ κ:Nat→X,κ 0=x0∧∀ a,a < T.length→∀ x:Int,x ≠ 0→-(m:Int)≤x→x≤m→κ (jv T a x)=act (κ a) x:=by
 unfold oK at h
 cases hc:po m (max (20 * mo) 20000) (rels.map short) (([]:List (List Int)).map short) with
 | none=>rw [hc] at h; cases h
 | some t =>
  rw [hc] at h
  simp only at h
  split at h
  ·cases h
  obtain rfl:=Option.some.inj h
  have hrs:∀ w∈rels.map short,Lt m w:=fun w hw=>by
   obtain ⟨v,hv,rfl⟩:=List.mem_map.1 hw
   exact eY (hr v hv)
  obtain ⟨a1,a2,a3,a4,a5⟩:=sq hm (by omega) hrs (fun w hw=>by simp at hw) hc
  obtain ⟨κ,k1,k2⟩:=Bj hm hi hrs (fun c w hw=>by
   obtain ⟨v,hv,rfl⟩:=List.mem_map.1 hw
   rw [tO hi (hr v hv)]
   exact hh c v hv) x0 hc
  have hf:=nA a1 a4
  have hz:=qI a1 a2
  have hL0:LI t [rV t.2 0]:=⟨by simp,fun v hv=>by
   rw [List.mem_singleton] at hv
   subst hv
   rw [hz]; exact ⟨a2,hz⟩⟩
  obtain ⟨b1,⟨Z,b2⟩,b3,b4,Y,b5,b6⟩:=qs a1 hf (t.1.length + 1) 0 [rV t.2 0] [] hL0 rfl (by simp) (fun j hj=>by omega) (by omega)
  unfold mf
  generalize kj t m (t.1.length + 1) 0 [rV t.2 0] []=R at b1 b2 b3 b4 b5 b6
  obtain ⟨L,T⟩:=R
  simp only at b1 b2 b3 b4 b5 b6 ⊢
  refine ⟨fun j=>κ (L.getD j 0),?_,fun a ha x h0 h1 h2=>?_⟩
  ·show κ (L.getD 0 0)=x0
   rw [b2,hz]; exact k1
  have haL:a < L.length:=by omega
  obtain ⟨c1,c2⟩:=ot b4 haL ⟨h0,h1,h2⟩
  obtain ⟨v1,v2⟩:=b1.rt _ (dh haL)
  show κ (L.getD (jv T a x) 0)=_
  rw [c1,qG c2]
  exact k2.ed v1 (sJ a1 hf v1 v2 ⟨h0,h1,h2⟩).1 ⟨h0,h1,h2⟩ (EV a1 hf v1 v2 ⟨h0,h1,h2⟩)
theorem oF (tk:eX m T rels []) {X:Type} {act:X→Int→X} {κ:Nat→X} (hκ:∀ a,a < T.length→∀ x:Int,x ≠ 0→-(m:Int)≤x→x≤m→κ (jv T a x)=act (κ a) x):∀ (w:List Int) (a:Nat),Lt m w→a < T.length→κ (cb T a w)=w.foldl act (κ a)
 | [],a,_,_=>rfl
 | x :: w,a,hw,ha=>by
  have hx:=hw x (by simp)
  rw [List.foldl_cons,← hκ a ha x hx.1 hx.2.1 hx.2.2]
  exact oF tk hκ w _ (fun y hy=>hw y (by simp [hy])) (tk.tb.st ha hx).2
def Dm (T:List (List Int)) (c:Nat→Nat) (x:Int):Nat→Nat:=fun i=>if c i < T.length then jv T (c i) x else c i
theorem zQ (tk:eX m T rels []):o7 m (Dm T):=by
 intro c x h0 h1 h2
 funext i
 unfold Dm
 by_cases h:c i < T.length
 ·simp only [if_pos h]
  rw [if_pos (tk.tb.st h ⟨h0,h1,h2⟩).2,tk.und _ h x h0 h1 h2]
 simp only [if_neg h]
theorem kA (tk:eX m T rels []):∀ (w:List Int) (c:Nat→Nat),Lt m w→w.foldl (Dm T) c=fun i=>if c i < T.length then cb T (c i) w else c i
 | [],c,_=>by funext i; simp [cb]
 | x :: w,c,hw=>by
  rw [List.foldl_cons,kA tk w _ fun y hy=>hw y (by simp [hy])]
  funext i
  have hx:=hw x (by simp)
  unfold Dm
  by_cases h:c i < T.length
  ·simp only [if_pos h,if_pos (tk.tb.st h hx).2,cb]
  simp only [if_neg h]
theorem Df (hm:m≤26) (h:oK m rels [] mo=some T) (tk:eX m T rels []) (h0:0 < T.length) {w w' : List Int} (hw:Lt m w) (hw' : Lt m w') (he:cb T 0 w=cb T 0 w') {a:Nat} (ha:a < T.length):cb T a w=cb T a w':=by
 obtain ⟨κ,k1,k2⟩:=yl hm tk.rl h (zQ tk) (fun c v hv=>by
  rw [kA tk v c (tk.rl v hv)]
  funext i
  by_cases hc:c i < T.length
  ·rw [if_pos hc,tk.rel _ hc v hv]
  rw [if_neg hc]) id
 have e1:=oF tk k2 w 0 hw h0
 have e2:=oF tk k2 w' 0 hw' h0
 rw [he,e2,k1,kA tk w id hw,kA tk w' id hw'] at e1
 have:=congrFun e1 a
 simp only [id,if_pos ha] at this
 exact this.symm
def jo (w:List Int):List Int:=w.reverse.map fun x=>-x
theorem pF {w:List Int} (h:Lt m w):Lt m (jo w):=fun x hx=>by
 obtain ⟨y,hy,rfl⟩:=List.mem_map.1 hx
 have:=h y (List.mem_reverse.1 hy)
 omega
theorem pd (tk:eX m T rels []):∀ (w:List Int) (a:Nat),Lt m w→a < T.length→cb T (cb T a w) (jo w)=a
 | [],a,_,_=>rfl
 | x :: w,a,hw,ha=>by
  have hx:=hw x (by simp)
  have e:jo (x :: w)=jo w++[-x]:=by simp [jo]
  rw [e,gF]
  show jv T (cb T (cb T (jv T a x) w) (jo w)) (-x)=a
  rw [pd tk w _ (fun y hy=>hw y (by simp [hy])) (tk.tb.st ha hx).2]
  exact tk.und a ha x hx.1 hx.2.1 hx.2.2
theorem zC (tk:eX m T rels []) {w:List Int} {a:Nat} (hw:Lt m w) (ha:a < T.length):cb T (cb T a (jo w)) w=a:=by
 have e:jo (jo w)=w:=by
  unfold jo
  rw [← List.map_reverse,List.reverse_reverse,List.map_map]
  have:((fun x:Int=>-x) ∘ fun x=>-x)=id:=by funext x; simp
  rw [this,List.map_id]
 have:=pd tk (jo w) a (pF hw) ha
 rwa [e] at this
def GR (T ws:List (List Int)) (a b:Nat):Nat:=cb T a (ws.getD b [])
structure Jt (m:Nat) (T:List (List Int)) (f:Nat→Nat→Nat):Prop where
 cl:∀ a b,a < T.length→b < T.length→f a b < T.length
 one_l:∀ a,a < T.length→f 0 a=a
 one_r:∀ a,a < T.length→f a 0=a
 assoc:∀ a b c,a < T.length→b < T.length→c < T.length→f (f a b) c=f a (f b c)
 inv:∀ a,a < T.length→∃ b,b < T.length∧f a b=0∧f b a=0
 let_:∀ a,a < T.length→∀ x:Int,x ≠ 0→-(m:Int)≤x→x≤m→jv T a x=f a (jv T 0 x)
 led:∀ (w:List Int),Lt m w→∀ a,a < T.length→cb T a w=f a (cb T 0 w)
theorem A4 (hm:m≤26) (h:oK m rels [] mo=some T) (tk:eX m T rels []) (h0:0 < T.length):Jt m T (GR T (dj T m)):=by
 obtain ⟨w1,w2⟩:=oA tk h0
 have hw:∀ j,j < T.length→Lt m ((dj T m).getD j [])∧cb T 0 ((dj T m).getD j [])=j:=fun j hj=>by
  obtain ⟨a,b,_⟩:=w1.wd j (by omega)
  exact ⟨a,b⟩
 have led:∀ (w:List Int),Lt m w→∀ a,a < T.length→cb T a w=GR T (dj T m) a (cb T 0 w):=fun w hlw a ha=>by
  have hl:=mP tk.tb hlw h0
  obtain ⟨c1,c2⟩:=hw _ hl
  exact Df hm h tk h0 hlw c1 c2.symm ha
 have cl:∀ a b,a < T.length→b < T.length→GR T (dj T m) a b < T.length:=fun a b ha hb=>mP tk.tb (hw b hb).1 ha
 refine ⟨cl,fun a ha=>(hw a ha).2,fun a ha=>?_,fun a b c ha hb hc=>?_,fun a ha=>?_,fun a ha x x0 x1 x2=>?_,led⟩
 ·have:=led [] (fun x hx=>by simp at hx) a ha
  exact this.symm
 ·have e1:GR T (dj T m) (GR T (dj T m) a b) c=cb T a ((dj T m).getD b []++(dj T m).getD c []):=by
   rw [gF]; rfl
  have hl:Lt m ((dj T m).getD b []++(dj T m).getD c []):=fun x hx=>by
   rcases List.mem_append.1 hx with hx | hx
   ·exact (hw b hb).1 x hx
   exact (hw c hc).1 x hx
  rw [e1,led _ hl a ha,gF,(hw b hb).2]
  rfl
 ·obtain ⟨c1,c2⟩:=hw a ha
  refine ⟨cb T 0 (jo ((dj T m).getD a [])),mP tk.tb (pF c1) h0,?_,?_⟩
  ·rw [← led _ (pF c1) a ha]
   have:=pd tk _ 0 c1 h0
   rw [c2] at this
   exact this
  exact zC tk c1 h0
 exact led [x] (fun y hy=>by rw [List.mem_singleton] at hy; subst hy; exact ⟨x0,x1,x2⟩) a ha
end
end Go.Proofs.YtpobnnfkeekiaaaDoor.Pr
namespace Go.Proofs.YtpobnnfkeekiaaaDoor
open Go.Pv
structure GS (S:List Nat) (f:Nat→Nat→Nat) (e:Nat):Prop where
 nd:S.Nodup
 cl:∀ a b,a∈S→b∈S→f a b∈S
 el:e∈S
 one_l:∀ a,a∈S→f e a=a
 one_r:∀ a,a∈S→f a e=a
 assoc:∀ a b c,a∈S→b∈S→c∈S→f (f a b) c=f a (f b c)
 inv:∀ a,a∈S→∃ b,b∈S∧f a b=e∧f b a=e
def Dy (S:List Nat) (x:Nat):Nat:=(cE (fun i=>decide (S.getD i 0=x)) S.length).getD 0
theorem dY {S:List Nat} {x:Nat} (hx:x∈S):Dy S x < S.length∧S.getD (Dy S x) 0=x:=by
 unfold Dy
 cases h:cE (fun i=>decide (S.getD i 0=x)) S.length with
 | none =>
  obtain ⟨i,hi,he⟩:=List.getElem_of_mem hx
  have:=df h i hi
  simp [List.getD,List.getElem?_eq_getElem hi,he] at this
 | some a =>
  obtain ⟨h1,h2,_⟩:=gl h
  exact ⟨h1,by simpa using h2⟩
theorem at_mem {S:List Nat} {i:Nat} (hi:i < S.length):S.getD i 0∈S:=by
 simp [List.getD,List.getElem?_eq_getElem hi]
theorem AN {S:List Nat} (h:S.Nodup) {i j:Nat} (hi:i < S.length) (hj:j < S.length) (he:S.getD i 0=S.getD j 0):i=j:=by
 simp only [List.getD,List.getElem?_eq_getElem hi,List.getElem?_eq_getElem hj,Option.getD_some] at he
 rcases Nat.lt_trichotomy i j with hl | hl | hl
 ·exact absurd he (List.pairwise_iff_getElem.1 h i j hi hj hl)
 ·exact hl
 exact absurd he.symm (List.pairwise_iff_getElem.1 h j i hj hi hl)
theorem Cm {S:List Nat} (h:S.Nodup) {i:Nat} (hi:i < S.length):Dy S (S.getD i 0)=i:=
 AN h (dY (at_mem hi)).1 hi (dY (at_mem hi)).2
def DO (S:List Nat) (f:Nat→Nat→Nat) (i j:Nat):Nat:=Dy S (f (S.getD i 0) (S.getD j 0))
section
variable {S:List Nat} {f:Nat→Nat→Nat} {e:Nat}
theorem GS.zR (G:GS S f e) {i j:Nat} (hi:i < S.length) (hj:j < S.length):S.getD (DO S f i j) 0=f (S.getD i 0) (S.getD j 0):=
 (dY (G.cl _ _ (at_mem hi) (at_mem hj))).2
theorem GS.F7 (G:GS S f e) {i j:Nat} (hi:i < S.length) (hj:j < S.length):DO S f i j < S.length:=
 (dY (G.cl _ _ (at_mem hi) (at_mem hj))).1
theorem GS.zk (G:GS S f e):ba S.length (DO S f) (Dy S e) where
 pos:=List.length_pos_of_mem G.el
 cl a b ha hb:=G.F7 ha hb
 el:=(dY G.el).1
 one_l a ha:=by unfold DO; rw [(dY G.el).2,G.one_l _ (at_mem ha),Cm G.nd ha]
 one_r a ha:=by unfold DO; rw [(dY G.el).2,G.one_r _ (at_mem ha),Cm G.nd ha]
 assoc a b c ha hb hc:=by
  show Dy S (f (S.getD (DO S f a b) 0) (S.getD c 0))=Dy S (f (S.getD a 0) (S.getD (DO S f b c) 0))
  rw [G.zR ha hb,G.zR hb hc,G.assoc _ _ _ (at_mem ha) (at_mem hb) (at_mem hc)]
 inv a ha:=by
  obtain ⟨b,hb,h1,h2⟩:=G.inv _ (at_mem ha)
  exact ⟨Dy S b,(dY hb).1,by unfold DO; rw [(dY hb).2,h1],by unfold DO; rw [(dY hb).2,h2]⟩
end
section
variable {n:Nat} {f:Nat→Nat→Nat} {e:Nat}
structure Sub (n:Nat) (f:Nat→Nat→Nat) (e:Nat) (H:Nat→Bool):Prop where
 one:H e=true
 mul:∀ a b,a < n→b < n→H a=true→H b=true→H (f a b)=true
 inv:∀ a,a < n→H a=true→H (iv n f e a)=true
def mem (n:Nat) (H:Nat→Bool):List Nat:=(List.range n).filter H
theorem bh {H:Nat→Bool} {a:Nat} : a∈mem n H↔a < n∧H a=true:=by simp [mem]
theorem Sub.gs {H:Nat→Bool} (G:ba n f e) (h:Sub n f e H):GS (mem n H) f e where
 nd:=List.nodup_range.filter _
 cl a b ha hb:=by
  obtain ⟨a1,a2⟩:=bh.1 ha
  obtain ⟨b1,b2⟩:=bh.1 hb
  exact bh.2 ⟨G.cl a b a1 b1,h.mul a b a1 b1 a2 b2⟩
 el:=bh.2 ⟨G.el,h.one⟩
 one_l a ha:=G.one_l a (bh.1 ha).1
 one_r a ha:=G.one_r a (bh.1 ha).1
 assoc a b c ha hb hc:=G.assoc a b c (bh.1 ha).1 (bh.1 hb).1 (bh.1 hc).1
 inv a ha:=by
  obtain ⟨a1,a2⟩:=bh.1 ha
  exact ⟨iv n f e a,bh.2 ⟨G.aS a1,h.inv a a1 a2⟩,G.cr a1,G.eO a1⟩
end
open Go.Pv
inductive dC (n:Nat) (f:Nat→Nat→Nat) (e:Nat) (p:Nat→Bool):Nat→Prop
 | one:dC n f e p e
 | step (a b:Nat):dC n f e p a→b < n→p b=true→dC n f e p (f a b)
section
variable {n:Nat} {f:Nat→Nat→Nat} {e:Nat} {p q:Nat→Bool}
theorem dC.lt (G:ba n f e) {a:Nat} (h:dC n f e p a):a < n:=by
 induction h with
 | one=>exact G.el
 | step a b _ hb _ ih=>exact G.cl a b ih hb
theorem dC.mem (G:ba n f e) {b:Nat} (hb:b < n) (h:p b=true):dC n f e p b:=by
 have:=dC.step (f:=f) e b (dC.one) hb h
 rwa [G.one_l b hb] at this
theorem dC.mul (G:ba n f e) {a b:Nat} (ha:dC n f e p a) (hb:dC n f e p b):dC n f e p (f a b):=by
 induction hb with
 | one=>rw [G.one_r a (ha.lt G)]; exact ha
 | step c d hc hd hp ih =>
  rw [← G.assoc a c d (ha.lt G) (hc.lt G) hd]
  exact .step _ d ih hd hp
theorem dC.pw (G:ba n f e) {a:Nat} (ha:dC n f e p a):∀ k,dC n f e p (pw f e a k)
 | 0=>.one
 | k + 1=>dC.mul G (dC.pw G ha k) ha
theorem ba.B4 (G:ba n f e) {a:Nat} (ha:a < n):iv n f e a=Go.Proofs.YtpobnnfkeekiaaaDoor.pw f e a (ord n f e a - 1):=by
 refine (G.di ha (G.jH ha _) (.inr ?_)).symm
 have h:=G.GH ha
 have o:=G.D7 ha
 rw [show ord n f e a=(ord n f e a - 1) + 1 by omega] at h
 exact h
theorem dC.iv (G:ba n f e) {a:Nat} (ha:dC n f e p a):dC n f e p (iv n f e a):=by
 rw [G.B4 (ha.lt G)]
 exact dC.pw G ha _
theorem dC.least {H:Nat→Prop} (h1:H e) (h2:∀ a b,dC n f e p a→b < n→p b=true→H a→H (f a b)) {a:Nat} (h:dC n f e p a):H a:=by
 induction h with
 | one=>exact h1
 | step a b ha hb hp ih=>exact h2 a b ha hb hp ih
theorem dC.sub {H:Nat→Bool} (G:ba n f e) (hH:Sub n f e H) (hp:∀ b,b < n→p b=true→H b=true) {a:Nat} (h:dC n f e p a):H a=true:=by
 induction h with
 | one=>exact hH.one
 | step a b ha hb hpb ih=>exact hH.mul a b (ha.lt G) hb ih (hp b hb hpb)
theorem dC.mono (h:∀ b,b < n→p b=true→q b=true) {a:Nat} (ha:dC n f e p a):dC n f e q a:=by
 induction ha with
 | one=>exact .one
 | step a b _ hb hp ih=>exact .step a b ih hb (h b hb hp)
theorem Dc (G:ba n f e) (hq:∀ a,a < n→(q a=true↔dC n f e p a)):Sub n f e q where
 one:=(hq e G.el).2 .one
 mul a b ha hb h1 h2:=(hq _ (G.cl a b ha hb)).2 (dC.mul G ((hq a ha).1 h1) ((hq b hb).1 h2))
 inv a ha h:=(hq _ (G.aS ha)).2 (dC.iv G ((hq a ha).1 h))
theorem qu (n:Nat) (f:Nat→Nat→Nat) (e:Nat) (p:Nat→Bool):∃ q:Nat→Bool,∀ a,a < n→(q a=true↔dC n f e p a):=
 ⟨fun a=>@decide (dC n f e p a) (Classical.propDecidable _),fun a _=>by simp⟩
theorem Sub.gen (G:ba n f e) (hp:Sub n f e p) {a:Nat} (ha:a < n):p a=true↔dC n f e p a:=
 ⟨fun h=>dC.mem G ha h,fun h=>dC.sub G hp (fun _ _ h=>h) h⟩
theorem lr (G:ba n f e) (h1:p e=true) (h2:∀ a b,a < n→b < n→p a=true→p b=true→p (f a b)=true):Sub n f e p where
 one:=h1
 mul:=h2
 inv a ha h:=by
  rw [G.B4 ha]
  generalize ord n f e a - 1=k
  induction k with
  | zero=>exact h1
  | succ k ih=>exact h2 _ _ (G.jH ha k) ha ih h
end
open Go.Pv
def fl (p:Int × Int):PV:=.agg [.int .i64 p.1,.int .i64 p.2]
def op (m:List Int) (n a b:Nat):Nat:=(m.getD (a * n + b) 0).toNat
structure uh (n:Nat) (m:List Int):Prop where
 pos:1≤n
 big:n≤60
 len:m.length=n * n
 rng:∀ i,i < n * n→0≤m.getD i 0∧m.getD i 0 < n
theorem vp {n a b:Nat} (ha:a < n) (hb:b < n):a * n + b < n * n:=by
 have:(a + 1) * n≤n * n:=Nat.mul_le_mul_right _ ha
 rw [Nat.add_mul,Nat.one_mul] at this
 omega
theorem uW {n:Nat} (h:n≤60):n * n≤3600:=Nat.mul_le_mul h h
theorem uh.val {n:Nat} {m:List Int} (T:uh n m) {a b:Nat} (ha:a < n) (hb:b < n):m.getD (a * n + b) 0=((op m n a b:Nat):Int):=by
 have:=T.rng _ (vp ha hb)
 unfold op; omega
theorem uh.lt {n:Nat} {m:List Int} (T:uh n m) {a b:Nat} (ha:a < n) (hb:b < n):op m n a b < n:=by
 have:=T.rng _ (vp ha hb)
 unfold op; omega
theorem zX (a n b:Nat):((a:Int) * (n:Int) + (b:Int)).toNat=a * n + b:=by
 have:(a:Int) * (n:Int)=((a * n:Nat):Int):=(Int.natCast_mul a n).symm
 omega
theorem vV {n:Nat} {m:List Int} (T:uh n m) {a b:Nat} (ha:a < n) (hb:b < n):ct Tryd.prog 25 [gp n m,.int .i64 a,.int .i64 b] (.int .i64 (op m n a b:Nat)):=by
 have h1:=vp ha hb
 have h2:=uW T.big
 have h3:=T.len
 have hc:(a:Int) * (n:Int)=((a * n:Nat):Int):=(Int.natCast_mul a n).symm
 have hv:=T.val ha hb
 refine aV ae Tryd.func25 rfl (by kernel_rfl) (by rw [Tryd.ntmps25]; exact Nat.le_add_left 3 _) ?_; rw [Tryd.ntmps25]
 refine qm ?_
 refine ab fun K hK=>aa ae ?_
 simp only [an,fl,gp,ak,simprocAttr]
 refine af ?_ (hK _ ?_)<;>clear hK K
 ·first|exact trivial|omega|(simp only [ah] at *; omega)|(simp [ah] at *; omega)|simp_all
 refine qa (qm ?_)
 refine ab fun K hK=>aa ae ?_
 simp only [an,fl,gp,ak,simprocAttr,zX,aL (show a * n + b < m.length by omega),hv]
 refine af ?_ (hK _ ?_)<;>clear hK K
 ·rw [hc]; simp only [ah]; omega
 refine qa (qk ?_)
 simp only [Tryd.results25,bT,an,fl,gp,ak,simprocAttr]
 all_goals (rfl)
def tS (m:List Int) (n a:Nat):Prop:=∀ b,b < n→op m n a b=b∧op m n b a=b
instance (m:List Int) (n a:Nat):Decidable (tS m n a):=by unfold tS; infer_instance
def eI (m:List Int) (n:Nat):Int:=match cE (fun a=>decide (tS m n a)) n with | some a=>(a:Int) | none=>-1
theorem oJ {P:Nat→Prop} {b:Nat} [Decidable (∀ c,c < b + 1→P c)] (h:¬ P b):decide (∀ c,c < b + 1→P c)=false:=by
 simp only [decide_eq_false_iff_not]
 exact fun h'=>h (h' b (Nat.lt_succ_self b))
theorem o5 {P:Nat→Prop} {b:Nat} [Decidable (∀ c,c < b + 1→P c)] [Decidable (∀ c,c < b→P c)] (h:P b):decide (∀ c,c < b + 1→P c)=decide (∀ c,c < b→P c):=by
 apply decide_eq_decide.2
 constructor
 ·exact fun h' c hc=>h' c (by omega)
 intro h' c hc
 by_cases e:c=b
 ·subst e; exact h
 exact h' c (by omega)
theorem FB {n:Nat} {m:List Int} (T:uh n m):ct Tryd.prog 14 [gp n m] (.int .i64 (eI m n)):=by
 have hb:=T.big
 refine aV ae Tryd.func14 rfl (by kernel_rfl) (by rw [Tryd.ntmps14]; exact Nat.le_add_left 1 _) ?_; rw [Tryd.ntmps14]
 refine qm ?_
 refine ab fun K hK=>aa ae ?_
 simp only [an,fl,gp,ak,simprocAttr]
 refine af ?_ (hK _ ?_)<;>clear hK K
 ·first|exact trivial|omega|(simp only [ah] at *; omega)|(simp [ah] at *; omega)|simp_all
 refine qa (qm (qm ?_))
 refine ab fun K hK=>aa ae ?_
 simp only [an,fl,gp,ak,simprocAttr]
 refine af trivial (hK _ ?_)<;>clear hK K
 refine qa (ql ?_)
 refine aD (ι:=Nat) (fun i=>⟨34,[(1,.ptr 0 0),(3,.p (.int .i64 i))],[.own [.p (.int .i64 n),.p (.list (il m))]]⟩) (fun i=>i≤n∧∀ j,j < i→¬ tS m n j) (fun i=>n - i) 0 ⟨Nat.zero_le _,fun j hj=>by omega⟩ [0] (by simp only [leq,bx,an,fl,gp,ak,simprocAttr]<;>trivial) fun i hi=>?_
 obtain ⟨hi1,hi2⟩:=hi
 refine qm (qm ?_)
 refine ab fun K hK=>aa ae ?_
 simp only [an,fl,gp,ak,simprocAttr]
 refine af ?_ (hK _ ?_)<;>clear hK K
 ·first|exact trivial|omega|(simp only [ah] at *; omega)|(simp [ah] at *; omega)|simp_all
 refine qa ?_
 refine aq rfl (fun hC1=>?_) (fun hC1=>?_)
 ·(try simp only [aE] at hC1)
  have hlt:i < n:=by omega
  refine qh (qa (qm (ql (qm ?_))))
  refine ab fun K hK=>aa ae ?_
  simp only [an,fl,gp,ak,simprocAttr]
  refine af trivial (hK _ ?_)<;>clear hK K
  refine qa (qm (qm ?_))
  refine ab fun K hK=>aa ae ?_
  simp only [an,fl,gp,ak,simprocAttr]
  refine af trivial (hK _ ?_)<;>clear hK K
  refine qa (ql ?_)
  refine aD (ι:=Nat) (fun b=>⟨34,[(1,.ptr 0 0),(3,.p (.int .i64 i)),(4,.p (.bool (decide (∀ c,c < b→op m n i c=c∧op m n c i=c)))),(5,.p (.int .i64 b))],[.own [.p (.int .i64 n),.p (.list (il m))]]⟩) (fun b=>b≤n) (fun b=>n - b) 0 (Nat.zero_le _) [0] (by simp only [leq,bx,an,fl,gp,ak,simprocAttr]<;>simp) fun b hb=>?_
  refine qm (qm ?_)
  refine ab fun K hK=>aa ae ?_
  simp only [an,fl,gp,ak,simprocAttr]
  refine af ?_ (hK _ ?_)<;>clear hK K
  ·first|exact trivial|omega|(simp only [ah] at *; omega)|(simp [ah] at *; omega)|simp_all
  refine qa ?_
  refine aq rfl (fun hC2=>?_) (fun hC2=>?_)
  ·(try simp only [aE] at hC2)
   have hbl:b < n:=by omega
   refine qh (qa (qm (ql (qm ?_))))
   by_cases g8a:(((op m n i b:Nat):Int)=(b:Nat))
   ·refine ab fun K hK=>aa ae ?_
    simp only [an,fl,gp,ak,simprocAttr,decide_eq_true g8a]
    refine ao trivial (au (vV T hlt hbl) rfl rfl rfl (by simp only [ay,Nat.reduceLT]) (by repeat (first|exact trivial|constructor)) (aa ae ?_))
    simp only [an,fl,gp,ak,simprocAttr,decide_eq_true g8a]
    refine ao trivial (au (vV T hbl hlt) rfl rfl rfl (by simp only [ay,Nat.reduceLT]) (by repeat (first|exact trivial|constructor)) (aa ae ?_))
    simp only [an,fl,gp,ak,simprocAttr,decide_eq_true g8a]
    refine af ?_ (hK _ ?_)<;>clear hK K
    ·first|exact trivial|omega|(simp only [ah] at *; omega)|(simp [ah] at *; omega)|simp_all
    refine qa ?_
    refine aq rfl (fun hC3=>?_) (fun hC3=>?_)
    ·(try simp only [aE] at hC3)
     have hno:¬ (op m n i b=b∧op m n b i=b):=by omega
     refine ab fun K hK=>aa ae ?_
     simp only [an,fl,gp,ak,simprocAttr]
     refine af trivial (hK _ ?_)<;>clear hK K
     refine qd (qa ?_)
     refine ab fun K hK=>aa ae ?_
     simp only [an,fl,gp,ak,simprocAttr]
     refine af ?_ (hK _ ?_)<;>clear hK K
     ·first|exact trivial|omega|(simp only [ah] at *; omega)|(simp [ah] at *; omega)|simp_all
     refine qa ?_
     refine ⟨b + 1,[0],by omega,by omega,?_⟩
     first|rw [oJ hno]|rw [o5 hyes]
     simp only [leq,bx,an,fl,gp,ak,simprocAttr]<;>trivial
    (try simp only [aE] at hC3)
    have hyes:op m n i b=b∧op m n b i=b:=by omega
    refine qh (qd (qa ?_))
    refine ab fun K hK=>aa ae ?_
    simp only [an,fl,gp,ak,simprocAttr]
    refine af ?_ (hK _ ?_)<;>clear hK K
    ·first|exact trivial|omega|(simp only [ah] at *; omega)|(simp [ah] at *; omega)|simp_all
    refine qa ?_
    refine ⟨b + 1,[0],by omega,by omega,?_⟩
    first|rw [oJ hno]|rw [o5 hyes]
    simp only [leq,bx,an,fl,gp,ak,simprocAttr]<;>trivial
   refine ab fun K hK=>aa ae ?_
   simp only [an,fl,gp,ak,simprocAttr,decide_eq_false g8a]
   refine ao trivial (au (vV T hlt hbl) rfl rfl rfl (by simp only [ay,Nat.reduceLT]) (by repeat (first|exact trivial|constructor)) (aa ae ?_))
   simp only [an,fl,gp,ak,simprocAttr,decide_eq_false g8a]
   refine af ?_ (hK _ ?_)<;>clear hK K
   ·first|exact trivial|omega|(simp only [ah] at *; omega)|(simp [ah] at *; omega)|simp_all
   refine qa ?_
   refine aq rfl (fun hC3=>?_) (fun hC3=>?_)
   ·have hno:¬ (op m n i b=b∧op m n b i=b):=by omega
    refine ab fun K hK=>aa ae ?_
    simp only [an,fl,gp,ak,simprocAttr]
    refine af trivial (hK _ ?_)<;>clear hK K
    refine qd (qa ?_)
    refine ab fun K hK=>aa ae ?_
    simp only [an,fl,gp,ak,simprocAttr]
    refine af ?_ (hK _ ?_)<;>clear hK K
    ·first|exact trivial|omega|(simp only [ah] at *; omega)|(simp [ah] at *; omega)|simp_all
    refine qa ?_
    refine ⟨b + 1,[0],by omega,by omega,?_⟩
    first|rw [oJ hno]|rw [o5 hyes]
    simp only [leq,bx,an,fl,gp,ak,simprocAttr]<;>trivial
   cases hC3
  (try simp only [aE] at hC2)
  refine qj (qc (qc (qf (qa (qm ?_)))))
  refine ab fun K hK=>aa ae ?_
  simp only [an,fl,gp,ak,simprocAttr]
  refine af trivial (hK _ ?_)<;>clear hK K
  refine qa ?_
  refine aq rfl (fun hC4=>?_) (fun hC4=>?_)
  ·(try simp only [aE] at hC4)
   have hE:tS m n i:=by
    have:b=n:=by omega
    subst this; exact hC4
   refine qm ?_
   refine ab fun K hK=>aa ae ?_
   simp only [an,fl,gp,ak,simprocAttr]
   refine af trivial (hK _ ?_)<;>clear hK K
   refine qa (qk (qe (qb (qb (qe (qb ?_))))))
   simp only [Tryd.results14,bT,an,fl,gp,ak,simprocAttr]
   all_goals (unfold eI; rw [dG hlt (decide_eq_true hE) fun j hj=>decide_eq_false (hi2 j hj)])
  (try simp only [aE] at hC4)
  refine qh (qd (qa ?_))
  refine ab fun K hK=>aa ae ?_
  simp only [an,fl,gp,ak,simprocAttr]
  refine af ?_ (hK _ ?_)<;>clear hK K
  ·first|exact trivial|omega|(simp only [ah] at *; omega)|(simp [ah] at *; omega)|simp_all
  refine qa ?_
  refine ⟨i + 1,[0],⟨by omega,fun j hj=>?_⟩,by omega,?_⟩
  ·by_cases hj:j=i
   ·subst hj
    have:b=n:=by omega
    subst this; exact hC4
   exact hi2 j (by omega)
  simp only [leq,bx,an,fl,gp,ak,simprocAttr]<;>omega
 (try simp only [aE] at hC1)
 refine qj (qc (qc (qf (qa (qm ?_)))))
 refine ab fun K hK=>aa ae ?_
 simp only [an,fl,gp,ak,simprocAttr]
 refine af trivial (hK _ ?_)<;>clear hK K
 refine qa (qk ?_)
 simp only [Tryd.results14,bT,an,fl,gp,ak,simprocAttr]
 all_goals (unfold eI; rw [eK fun j hj=>decide_eq_false (hi2 j (by omega))])
theorem pN (c a:Int):ct Tryd.prog 12 [.int .i64 c,.int .i64 a] (fl (c,a)):=by
 refine aV ae Tryd.func12 rfl (by kernel_rfl) (by rw [Tryd.ntmps12]; exact Nat.le_add_left 2 _) ?_; rw [Tryd.ntmps12]
 refine qm ?_
 refine ab fun K hK=>aa ae ?_
 simp only [an,fl,gp,ak,simprocAttr]
 refine af ?_ (hK _ ?_)<;>clear hK K
 ·first|exact trivial|omega|(simp only [ah] at *; omega)|(simp [ah] at *; omega)|simp_all
 refine qa (qm ?_)
 refine ab fun K hK=>aa ae ?_
 simp only [an,fl,gp,ak,simprocAttr]
 refine af ?_ (hK _ ?_)<;>clear hK K
 ·first|exact trivial|omega|(simp only [ah] at *; omega)|(simp [ah] at *; omega)|simp_all
 refine qa (qk ?_)
 simp only [Tryd.results12,bT,an,fl,gp,ak,simprocAttr]
 all_goals (rfl)
def iI (m:List Int) (n a:Nat):Int:=match cE (fun b=>decide (((op m n a b:Nat):Int)=eI m n∧((op m n b a:Nat):Int)=eI m n)) n with | some b=>(b:Int) | none=>-1
theorem Jg {n:Nat} {m:List Int} (T:uh n m) {a:Nat} (ha:a < n):ct Tryd.prog 26 [gp n m,.int .i64 a] (.int .i64 (iI m n a)):=by
 have hb:=T.big
 refine aV ae Tryd.func26 rfl (by kernel_rfl) (by rw [Tryd.ntmps26]; exact Nat.le_add_left 2 _) ?_; rw [Tryd.ntmps26]
 refine qm ?_
 refine ab fun K hK=>aa ae ?_
 simp only [an,fl,gp,ak,simprocAttr]
 refine af ?_ (hK _ ?_)<;>clear hK K
 ·first|exact trivial|omega|(simp only [ah] at *; omega)|(simp [ah] at *; omega)|simp_all
 refine qa (qm ?_)
 refine ab fun K hK=>aa ae ?_
 simp only [an,fl,gp,ak,simprocAttr]
 refine ao trivial (au (FB T) rfl rfl rfl (by simp only [ay,Nat.reduceLT]) (by repeat (first|exact trivial|constructor)) (aa ae ?_))
 simp only [an,fl,gp,ak,simprocAttr]
 refine af ?_ (hK _ ?_)<;>clear hK K
 ·first|exact trivial|omega|(simp only [ah] at *; omega)|(simp [ah] at *; omega)|simp_all
 refine qa (qm (qm ?_))
 refine ab fun K hK=>aa ae ?_
 simp only [an,fl,gp,ak,simprocAttr]
 refine af trivial (hK _ ?_)<;>clear hK K
 refine qa (ql ?_)
 refine aD (ι:=Nat) (fun i=>⟨30,[(1,.p (.int .i64 a)),(2,.ptr 0 0),(5,.p (.int .i64 (eI m n))),(6,.p (.int .i64 i))],[.own [.p (.int .i64 n),.p (.list (il m))]]⟩) (fun i=>i≤n∧∀ j,j < i→¬ (((op m n a j:Nat):Int)=eI m n∧((op m n j a:Nat):Int)=eI m n)) (fun i=>n - i) 0 ⟨Nat.zero_le _,fun j hj=>by omega⟩ [0] (by simp only [leq,bx,an,fl,gp,ak,simprocAttr]<;>trivial) fun i hi=>?_
 obtain ⟨hi1,hi2⟩:=hi
 refine qm (qm ?_)
 refine ab fun K hK=>aa ae ?_
 simp only [an,fl,gp,ak,simprocAttr]
 refine af ?_ (hK _ ?_)<;>clear hK K
 ·first|exact trivial|omega|(simp only [ah] at *; omega)|(simp [ah] at *; omega)|simp_all
 refine qa ?_
 refine aq rfl (fun hC1=>?_) (fun hC1=>?_)
 ·(try simp only [aE] at hC1)
  have hlt:i < n:=by omega
  refine qh (qa (qm (ql (qm ?_))))
  by_cases g5a:((op m n a i:Nat):Int)=eI m n
  ·refine ab fun K hK=>aa ae ?_
   simp only [an,fl,gp,ak,simprocAttr,decide_eq_true g5a]
   refine ao trivial (au (vV T ha hlt) rfl rfl rfl (by simp only [ay,Nat.reduceLT]) (by repeat (first|exact trivial|constructor)) (aa ae ?_))
   simp only [an,fl,gp,ak,simprocAttr,decide_eq_true g5a]
   refine ao trivial (au (vV T hlt ha) rfl rfl rfl (by simp only [ay,Nat.reduceLT]) (by repeat (first|exact trivial|constructor)) (aa ae ?_))
   simp only [an,fl,gp,ak,simprocAttr,decide_eq_true g5a]
   refine af ?_ (hK _ ?_)<;>clear hK K
   ·first|exact trivial|omega|(simp only [ah] at *; omega)|(simp [ah] at *; omega)|simp_all
   refine qa ?_
   refine aq rfl (fun hC2=>?_) (fun hC2=>?_)
   ·(try simp only [aE] at hC2)
    refine qm ?_
    refine ab fun K hK=>aa ae ?_
    simp only [an,fl,gp,ak,simprocAttr]
    refine af trivial (hK _ ?_)<;>clear hK K
    refine qa (qk (qe (qb (qb (qe (qb ?_))))))
    simp only [Tryd.results26,bT,an,fl,gp,ak,simprocAttr]
    all_goals (unfold iI; rw [dG hlt (decide_eq_true ⟨g5a,hC2⟩) fun j hj=>decide_eq_false (hi2 j hj)])
   (try simp only [aE] at hC2)
   have hno:¬ (((op m n a i:Nat):Int)=eI m n∧((op m n i a:Nat):Int)=eI m n):=fun h=>by first|exact hC2 h.2|exact g5a h.1
   refine qh (qd (qa ?_))
   refine ab fun K hK=>aa ae ?_
   simp only [an,fl,gp,ak,simprocAttr]
   refine af ?_ (hK _ ?_)<;>clear hK K
   ·first|exact trivial|omega|(simp only [ah] at *; omega)|(simp [ah] at *; omega)|simp_all
   refine qa ?_
   refine ⟨i + 1,[0],⟨by omega,fun j hj=>?_⟩,by omega,?_⟩
   ·by_cases hj:j=i
    ·subst hj; exact hno
    exact hi2 j (by omega)
   simp only [leq,bx,an,fl,gp,ak,simprocAttr]<;>omega
  refine ab fun K hK=>aa ae ?_
  simp only [an,fl,gp,ak,simprocAttr,decide_eq_false g5a]
  refine ao trivial (au (vV T ha hlt) rfl rfl rfl (by simp only [ay,Nat.reduceLT]) (by repeat (first|exact trivial|constructor)) (aa ae ?_))
  simp only [an,fl,gp,ak,simprocAttr,decide_eq_false g5a]
  refine af ?_ (hK _ ?_)<;>clear hK K
  ·first|exact trivial|omega|(simp only [ah] at *; omega)|(simp [ah] at *; omega)|simp_all
  refine qa ?_
  refine aq rfl (fun hC2=>?_) (fun hC2=>?_)
  ·cases hC2
  have hno:¬ (((op m n a i:Nat):Int)=eI m n∧((op m n i a:Nat):Int)=eI m n):=fun h=>by first|exact hC2 h.2|exact g5a h.1
  refine qh (qd (qa ?_))
  refine ab fun K hK=>aa ae ?_
  simp only [an,fl,gp,ak,simprocAttr]
  refine af ?_ (hK _ ?_)<;>clear hK K
  ·first|exact trivial|omega|(simp only [ah] at *; omega)|(simp [ah] at *; omega)|simp_all
  refine qa ?_
  refine ⟨i + 1,[0],⟨by omega,fun j hj=>?_⟩,by omega,?_⟩
  ·by_cases hj:j=i
   ·subst hj; exact hno
   exact hi2 j (by omega)
  simp only [leq,bx,an,fl,gp,ak,simprocAttr]<;>omega
 (try simp only [aE] at hC1)
 refine qj (qc (qc (qf (qa (qm ?_)))))
 refine ab fun K hK=>aa ae ?_
 simp only [an,fl,gp,ak,simprocAttr]
 refine af trivial (hK _ ?_)<;>clear hK K
 refine qa (qk ?_)
 simp only [Tryd.results26,bT,an,fl,gp,ak,simprocAttr]
 all_goals (unfold iI; rw [eK fun j hj=>decide_eq_false (hi2 j (by omega))])
def vY (m:List Int) (n a:Nat):Prop:=∀ b,b < n→∀ c,c < n→op m n (op m n a b) c=op m n a (op m n b c)
instance (m:List Int) (n a:Nat):Decidable (vY m n a):=by unfold vY; infer_instance
def AE (m:List Int) (n:Nat):Int × Int:=
 if eI m n < 0 then (6,0)
 else match cE (fun a=>decide (¬ vY m n a)) n with
  | some a=>(7,(a:Int))
  | none=>match cE (fun a=>decide (iI m n a < 0)) n with
   | some a=>(4,(a:Int))
   | none=>(0,0)
def bad (N:Int) (m:List Int) (i:Nat):Bool:=decide (m.getD i 0 < 0∨m.getD i 0 ≥ N)
def gf (N:Int) (m:List Int):Int × Int:=
 if N < 1∨N > 60 then (2,0)
 else if ¬ (m.length:Int)=N * N then (8,0)
 else match cE (bad N m) m.length with
  | some i=>(3,(i:Int))
  | none=>AE m N.toNat
theorem nf (n:Nat):(n:Int) * (n:Int)=((n * n:Nat):Int):=(Int.natCast_mul n n).symm
theorem x6 {n:Nat} {m:List Int} (h1:1≤n) (h2:n≤60) (h3:m.length ≠ n * n):gf n m=(8,0):=by
 unfold gf
 rw [if_neg (by omega),if_pos (by rw [nf]; omega)]
theorem lT {n:Nat} {m:List Int} (h1:1≤n) (h2:n≤60) (h3:m.length=n * n) {i:Nat} (hi:i < m.length) (hb:bad n m i=true) (hj:∀ j,j < i→bad n m j=false):gf n m=(3,(i:Int)):=by
 unfold gf
 rw [if_neg (by omega),if_neg (by rw [nf]; omega),dG hi hb hj]
theorem iR {n:Nat} {m:List Int} (T:uh n m):gf n m=AE m n:=by
 have h1:=T.pos
 have h2:=T.big
 have h3:=T.len
 unfold gf
 rw [if_neg (by omega),if_neg (by rw [nf]; omega),eK]
 ·rfl
 intro j hj
 have:=T.rng j (by omega)
 exact decide_eq_false (by omega)
theorem EC {m:List Int} {n:Nat} (h:eI m n < 0):AE m n=(6,0):=by
 unfold AE; rw [if_pos h]
theorem E5 {m:List Int} {n a:Nat} (h:¬ eI m n < 0) (ha:a < n) (hn:¬ vY m n a) (hj:∀ j,j < a→vY m n j):AE m n=(7,(a:Int)):=by
 have:cE (fun a=>decide (¬ vY m n a)) n=some a:=dG ha (decide_eq_true hn) fun j h=>decide_eq_false fun h'=>h' (hj j h)
 unfold AE; rw [if_neg h,this]
theorem EG {m:List Int} {n a:Nat} (h:¬ eI m n < 0) (hs:∀ j,j < n→vY m n j) (ha:a < n) (hn:iI m n a < 0) (hj:∀ j,j < a→¬ iI m n j < 0):AE m n=(4,(a:Int)):=by
 have h1:cE (fun a=>decide (¬ vY m n a)) n=none:=eK fun j h=>decide_eq_false fun h'=>h' (hs j h)
 have h2:cE (fun a=>decide (iI m n a < 0)) n=some a:=dG ha (decide_eq_true hn) fun j h=>decide_eq_false (hj j h)
 unfold AE; rw [if_neg h,h1,h2]
theorem BK {m:List Int} {n:Nat} (h:¬ eI m n < 0) (hs:∀ j,j < n→vY m n j) (hj:∀ j,j < n→¬ iI m n j < 0):AE m n=(0,0):=by
 have h1:cE (fun a=>decide (¬ vY m n a)) n=none:=eK fun j h=>decide_eq_false fun h'=>h' (hs j h)
 have h2:cE (fun a=>decide (iI m n a < 0)) n=none:=eK fun j h=>decide_eq_false (hj j h)
 unfold AE; rw [if_neg h,h1,h2]
set_option maxHeartbeats 2000000 in
theorem AW (N:Int) (m:List Int) (hm:m.length≤1000000000000000):ct Tryd.prog 10 [gp N m] (fl (gf N m)):=by
 refine aV ae Tryd.func10 rfl (by kernel_rfl) (by rw [Tryd.ntmps10]; exact Nat.le_add_left 1 _) ?_; rw [Tryd.ntmps10]
 refine qm ?_
 refine ab fun K hK=>aa ae ?_
 simp only [an,fl,gp,ak,simprocAttr]
 refine af ?_ (hK _ ?_)<;>clear hK K
 ·first|exact trivial|omega|(simp only [ah] at *; omega)|(simp [ah] at *; omega)|simp_all
 refine qa (qm (qm ?_))
 by_cases g1a:N < 1
 ·refine ab fun K hK=>aa ae ?_
  simp only [an,fl,gp,ak,simprocAttr,decide_eq_true g1a]
  refine af ?_ (hK _ ?_)<;>clear hK K
  ·first|exact trivial|omega|(simp only [ah] at *; omega)|(simp [ah] at *; omega)|simp_all
  refine qa ?_
  refine aq rfl (fun hC1=>?_) (fun hC1=>?_)
  ·refine qm ?_
   refine ab fun K hK=>aa ae ?_
   simp only [an,fl,gp,ak,simprocAttr]
   refine ao trivial (au (pN 2 0) rfl rfl rfl (by simp only [ay,Nat.reduceLT]) (by repeat (first|exact trivial|constructor)) (aa ae ?_))
   simp only [an,fl,gp,ak,simprocAttr]
   refine af ?_ (hK _ ?_)<;>clear hK K
   ·first|exact trivial|omega|(simp only [ah] at *; omega)|(simp [ah] at *; omega)|simp_all
   refine qa (qk (qb ?_))
   simp only [Tryd.results10,bT,an,fl,gp,ak,simprocAttr]
   all_goals (unfold gf; rw [if_pos (.inl g1a)]; simp)
  cases hC1
 refine ab fun K hK=>aa ae ?_
 simp only [an,fl,gp,ak,simprocAttr,decide_eq_false g1a]
 refine af ?_ (hK _ ?_)<;>clear hK K
 ·first|exact trivial|omega|(simp only [ah] at *; omega)|(simp [ah] at *; omega)|simp_all
 refine qa ?_
 refine aq rfl (fun hC1=>?_) (fun hC1=>?_)
 ·(try simp only [aE] at hC1)
  refine qm ?_
  refine ab fun K hK=>aa ae ?_
  simp only [an,fl,gp,ak,simprocAttr]
  refine ao trivial (au (pN 2 0) rfl rfl rfl (by simp only [ay,Nat.reduceLT]) (by repeat (first|exact trivial|constructor)) (aa ae ?_))
  simp only [an,fl,gp,ak,simprocAttr]
  refine af ?_ (hK _ ?_)<;>clear hK K
  ·first|exact trivial|omega|(simp only [ah] at *; omega)|(simp [ah] at *; omega)|simp_all
  refine qa (qk (qb ?_))
  simp only [Tryd.results10,bT,an,fl,gp,ak,simprocAttr]
  all_goals (unfold gf; rw [if_pos (.inr hC1)]; simp)
 (try simp only [aE] at hC1)
 obtain ⟨n,rfl⟩:=Int.eq_ofNat_of_zero_le (show 0≤N by omega)
 have hnn:=nf n
 have Hz:=uW (show n≤60 by omega)
 refine qh (qa (qm (qm ?_)))
 refine ab fun K hK=>aa ae ?_
 simp only [an,fl,gp,ak,simprocAttr]
 refine af ?_ (hK _ ?_)<;>clear hK K
 ·simp only [ah]; omega
 refine qa ?_
 refine aq rfl (fun hC2=>?_) (fun hC2=>?_)
 ·(try simp only [aE] at hC2)
  refine qm ?_
  refine ab fun K hK=>aa ae ?_
  simp only [an,fl,gp,ak,simprocAttr]
  refine ao trivial (au (pN 8 0) rfl rfl rfl (by simp only [ay,Nat.reduceLT]) (by repeat (first|exact trivial|constructor)) (aa ae ?_))
  simp only [an,fl,gp,ak,simprocAttr]
  refine af ?_ (hK _ ?_)<;>clear hK K
  ·first|exact trivial|omega|(simp only [ah] at *; omega)|(simp [ah] at *; omega)|simp_all
  refine qa (qk (qb ?_))
  simp only [Tryd.results10,bT,an,fl,gp,ak,simprocAttr]
  all_goals (rw [x6 (by omega) (by omega) (by omega)]; simp)
 (try simp only [aE] at hC2)
 have hl:m.length=n * n:=by omega
 refine qh (qa (qm (qm ?_)))
 refine ab fun K hK=>aa ae ?_
 simp only [an,fl,gp,ak,simprocAttr]
 refine af trivial (hK _ ?_)<;>clear hK K
 refine qa (ql ?_)
 refine aD (ι:=Nat) (fun i=>⟨104,[(1,.ptr 0 0),(2,.ptr 1 0),(3,.p (.int .i64 i))],[.own [.p (.int .i64 n),.p (.list (il m))],.own [.p (.int .i64 0),.p (.int .i64 0)]]⟩) (fun i=>i≤m.length∧∀ j,j < i→bad n m j=false) (fun i=>m.length - i) 0 ⟨Nat.zero_le _,fun j hj=>by omega⟩ [0,1] (by simp only [leq,bx,an,fl,gp,ak,simprocAttr]<;>trivial) fun i hi=>?_
 obtain ⟨hi1,hi2⟩:=hi
 refine qm (qm ?_)
 refine ab fun K hK=>aa ae ?_
 simp only [an,fl,gp,ak,simprocAttr]
 refine af ?_ (hK _ ?_)<;>clear hK K
 ·first|exact trivial|omega|(simp only [ah] at *; omega)|(simp [ah] at *; omega)|simp_all
 refine qa ?_
 refine aq rfl (fun hC3=>?_) (fun hC3=>?_)
 ·(try simp only [aE] at hC3)
  have hlt:i < m.length:=by omega
  refine qh (qa (qm (ql (qm ?_))))
  by_cases g8a:m.getD i 0 < 0
  ·refine aO mixed (by kernel_rfl) fun K hK=>aa ae ?_
   simp only [an,fl,gp,ak,simprocAttr,aL hlt,decide_eq_true g8a]
   refine af ?_ (hK _ ?_)<;>clear hK K
   ·first|exact trivial|omega|(simp only [ah] at *; omega)|(simp [ah] at *; omega)|simp_all
   refine qa ?_
   refine aq rfl (fun hC4=>?_) (fun hC4=>?_)
   ·refine qm ?_
    refine ab fun K hK=>aa ae ?_
    simp only [an,fl,gp,ak,simprocAttr]
    refine ao trivial (au (pN 3 i) rfl rfl rfl (by simp only [ay,Nat.reduceLT]) (by repeat (first|exact trivial|constructor)) (aa ae ?_))
    simp only [an,fl,gp,ak,simprocAttr]
    refine af ?_ (hK _ ?_)<;>clear hK K
    ·first|exact trivial|omega|(simp only [ah] at *; omega)|(simp [ah] at *; omega)|simp_all
    refine qa (qk (qe (qb (qb (qe (qb ?_))))))
    simp only [Tryd.results10,bT,an,fl,gp,ak,simprocAttr]
    all_goals (rw [lT (by omega) (by omega) hl hlt (decide_eq_true (.inl g8a)) hi2]; simp)
   cases hC4
  refine aO mixed (by kernel_rfl) fun K hK=>aa ae ?_
  simp only [an,fl,gp,ak,simprocAttr,aL hlt,decide_eq_false g8a]
  refine af ?_ (hK _ ?_)<;>clear hK K
  ·first|exact trivial|omega|(simp only [ah] at *; omega)|(simp [ah] at *; omega)|simp_all
  refine qa ?_
  refine aq rfl (fun hC4=>?_) (fun hC4=>?_)
  ·(try simp only [aE] at hC4)
   refine qm ?_
   refine ab fun K hK=>aa ae ?_
   simp only [an,fl,gp,ak,simprocAttr]
   refine ao trivial (au (pN 3 i) rfl rfl rfl (by simp only [ay,Nat.reduceLT]) (by repeat (first|exact trivial|constructor)) (aa ae ?_))
   simp only [an,fl,gp,ak,simprocAttr]
   refine af ?_ (hK _ ?_)<;>clear hK K
   ·first|exact trivial|omega|(simp only [ah] at *; omega)|(simp [ah] at *; omega)|simp_all
   refine qa (qk (qe (qb (qb (qe (qb ?_))))))
   simp only [Tryd.results10,bT,an,fl,gp,ak,simprocAttr]
   all_goals (rw [lT (by omega) (by omega) hl hlt (decide_eq_true (.inr hC4)) hi2]; simp)
  (try simp only [aE] at hC4)
  refine qh (qd (qa ?_))
  refine ab fun K hK=>aa ae ?_
  simp only [an,fl,gp,ak,simprocAttr]
  refine af ?_ (hK _ ?_)<;>clear hK K
  ·first|exact trivial|omega|(simp only [ah] at *; omega)|(simp [ah] at *; omega)|simp_all
  refine qa ?_
  refine ⟨i + 1,[0,1],⟨by omega,fun j hj=>?_⟩,by omega,?_⟩
  ·by_cases hj:j=i
   ·subst hj; exact decide_eq_false (by omega)
   exact hi2 j (by omega)
  simp only [leq,bx,an,fl,gp,ak,simprocAttr]<;>omega
 (try simp only [aE] at hC3)
 have T:uh n m:=by
  refine ⟨by omega,by omega,hl,fun j hj=>?_⟩
  have:=of_decide_eq_false (hi2 j (by omega))
  omega
 refine qj (qc (qc (qf (qa (qm (qm ?_))))))
 refine ab fun K hK=>aa ae ?_
 simp only [an,fl,gp,ak,simprocAttr]
 refine ao trivial (au (FB T) rfl rfl rfl (by simp only [ay,Nat.reduceLT]) (by repeat (first|exact trivial|constructor)) (aa ae ?_))
 simp only [an,fl,gp,ak,simprocAttr]
 refine af ?_ (hK _ ?_)<;>clear hK K
 ·first|exact trivial|omega|(simp only [ah] at *; omega)|(simp [ah] at *; omega)|simp_all
 refine qa ?_
 refine aq rfl (fun hC5=>?_) (fun hC5=>?_)
 ·(try simp only [aE] at hC5)
  refine qm ?_
  refine ab fun K hK=>aa ae ?_
  simp only [an,fl,gp,ak,simprocAttr]
  refine ao trivial (au (pN 6 0) rfl rfl rfl (by simp only [ay,Nat.reduceLT]) (by repeat (first|exact trivial|constructor)) (aa ae ?_))
  simp only [an,fl,gp,ak,simprocAttr]
  refine af ?_ (hK _ ?_)<;>clear hK K
  ·first|exact trivial|omega|(simp only [ah] at *; omega)|(simp [ah] at *; omega)|simp_all
  refine qa (qk (qb ?_))
  simp only [Tryd.results10,bT,an,fl,gp,ak,simprocAttr]
  all_goals (rw [iR T,EC hC5]; simp)
 (try simp only [aE] at hC5)
 refine qh (qa (qm (qm ?_)))
 refine ab fun K hK=>aa ae ?_
 simp only [an,fl,gp,ak,simprocAttr]
 refine af trivial (hK _ ?_)<;>clear hK K
 refine qa (ql ?_)
 refine aD (ι:=Nat) (fun a=>⟨104,[(1,.ptr 0 0),(2,.ptr 1 0),(4,.p (.int .i64 a))],[.own [.p (.int .i64 n),.p (.list (il m))],.own [.p (.int .i64 0),.p (.int .i64 0)]]⟩) (fun a=>a≤n∧∀ j,j < a→vY m n j) (fun a=>n - a) 0 ⟨Nat.zero_le _,fun j hj=>by omega⟩ [0,1] (by simp only [leq,bx,an,fl,gp,ak,simprocAttr]<;>trivial) fun a ha=>?_
 obtain ⟨ha1,ha2⟩:=ha
 refine qm (qm ?_)
 refine ab fun K hK=>aa ae ?_
 simp only [an,fl,gp,ak,simprocAttr]
 refine af ?_ (hK _ ?_)<;>clear hK K
 ·first|exact trivial|omega|(simp only [ah] at *; omega)|(simp [ah] at *; omega)|simp_all
 refine qa ?_
 refine aq rfl (fun hC6=>?_) (fun hC6=>?_)
 ·(try simp only [aE] at hC6)
  have hal:a < n:=by omega
  refine qh (qa (qm (ql (qm ?_))))
  refine ab fun K hK=>aa ae ?_
  simp only [an,fl,gp,ak,simprocAttr]
  refine af trivial (hK _ ?_)<;>clear hK K
  refine qa (ql ?_)
  refine aD (ι:=Nat) (fun b=>⟨104,[(1,.ptr 0 0),(2,.ptr 1 0),(4,.p (.int .i64 a)),(5,.p (.int .i64 b))],[.own [.p (.int .i64 n),.p (.list (il m))],.own [.p (.int .i64 0),.p (.int .i64 0)]]⟩) (fun b=>b≤n∧∀ j,j < b→∀ c,c < n→op m n (op m n a j) c=op m n a (op m n j c)) (fun b=>n - b) 0 ⟨Nat.zero_le _,fun j hj=>by omega⟩ [0,1] (by simp only [leq,bx,an,fl,gp,ak,simprocAttr]<;>trivial) fun b hb=>?_
  obtain ⟨hb1,hb2⟩:=hb
  refine qm (qm ?_)
  refine ab fun K hK=>aa ae ?_
  simp only [an,fl,gp,ak,simprocAttr]
  refine af ?_ (hK _ ?_)<;>clear hK K
  ·first|exact trivial|omega|(simp only [ah] at *; omega)|(simp [ah] at *; omega)|simp_all
  refine qa ?_
  refine aq rfl (fun hC7=>?_) (fun hC7=>?_)
  ·(try simp only [aE] at hC7)
   have hbl:b < n:=by omega
   refine qh (qa (qm (ql (qm ?_))))
   refine ab fun K hK=>aa ae ?_
   simp only [an,fl,gp,ak,simprocAttr]
   refine af trivial (hK _ ?_)<;>clear hK K
   refine qa (ql ?_)
   refine aD (ι:=Nat) (fun c=>⟨104,[(1,.ptr 0 0),(2,.ptr 1 0),(4,.p (.int .i64 a)),(5,.p (.int .i64 b)),(6,.p (.int .i64 c))],[.own [.p (.int .i64 n),.p (.list (il m))],.own [.p (.int .i64 0),.p (.int .i64 0)]]⟩) (fun c=>c≤n∧∀ j,j < c→op m n (op m n a b) j=op m n a (op m n b j)) (fun c=>n - c) 0 ⟨Nat.zero_le _,fun j hj=>by omega⟩ [0,1] (by simp only [leq,bx,an,fl,gp,ak,simprocAttr]<;>trivial) fun c hc=>?_
   obtain ⟨hc1,hc2⟩:=hc
   refine qm (qm ?_)
   refine ab fun K hK=>aa ae ?_
   simp only [an,fl,gp,ak,simprocAttr]
   refine af ?_ (hK _ ?_)<;>clear hK K
   ·first|exact trivial|omega|(simp only [ah] at *; omega)|(simp [ah] at *; omega)|simp_all
   refine qa ?_
   refine aq rfl (fun hC8=>?_) (fun hC8=>?_)
   ·(try simp only [aE] at hC8)
    have hcl:c < n:=by omega
    refine qh (qa (qm (ql (qm ?_))))
    refine aO mixed (by kernel_rfl) fun K hK=>aa ae ?_
    simp only [an,fl,gp,ak,simprocAttr]
    refine ao trivial (au (vV T hal hbl) rfl rfl rfl (by simp only [ay,Nat.reduceLT]) (by repeat (first|exact trivial|constructor)) (aa ae ?_))
    simp only [an,fl,gp,ak,simprocAttr]
    refine ao trivial (au (vV T (T.lt hal hbl) hcl) rfl rfl rfl (by simp only [ay,Nat.reduceLT]) (by repeat (first|exact trivial|constructor)) (aa ae ?_))
    simp only [an,fl,gp,ak,simprocAttr]
    refine ao trivial (au (vV T hbl hcl) rfl rfl rfl (by simp only [ay,Nat.reduceLT]) (by repeat (first|exact trivial|constructor)) (aa ae ?_))
    simp only [an,fl,gp,ak,simprocAttr]
    refine ao trivial (au (vV T hal (T.lt hbl hcl)) rfl rfl rfl (by simp only [ay,Nat.reduceLT]) (by repeat (first|exact trivial|constructor)) (aa ae ?_))
    simp only [an,fl,gp,ak,simprocAttr]
    refine af ?_ (hK _ ?_)<;>clear hK K
    ·first|exact trivial|omega|(simp only [ah] at *; omega)|(simp [ah] at *; omega)|simp_all
    refine qa ?_
    refine aq rfl (fun hC9=>?_) (fun hC9=>?_)
    ·(try simp only [aE] at hC9)
     refine qm ?_
     refine ab fun K hK=>aa ae ?_
     simp only [an,fl,gp,ak,simprocAttr]
     refine ao trivial (au (pN 7 a) rfl rfl rfl (by simp only [ay,Nat.reduceLT]) (by repeat (first|exact trivial|constructor)) (aa ae ?_))
     simp only [an,fl,gp,ak,simprocAttr]
     refine af ?_ (hK _ ?_)<;>clear hK K
     ·first|exact trivial|omega|(simp only [ah] at *; omega)|(simp [ah] at *; omega)|simp_all
     refine qa (qk (qe (qb (qb (qe (qe (qb (qb (qe (qe (qb (qb (qe (qb ?_))))))))))))))
     simp only [Tryd.results10,bT,an,fl,gp,ak,simprocAttr]
     all_goals (rw [iR T,E5 hC5 hal (fun h=>hC9 (by rw [h b hbl c hcl])) ha2]; simp)
    (try simp only [aE] at hC9)
    refine qh (qd (qa ?_))
    refine ab fun K hK=>aa ae ?_
    simp only [an,fl,gp,ak,simprocAttr]
    refine af ?_ (hK _ ?_)<;>clear hK K
    ·first|exact trivial|omega|(simp only [ah] at *; omega)|(simp [ah] at *; omega)|simp_all
    refine qa ?_
    refine ⟨c + 1,[0,1],⟨by omega,fun j hj=>?_⟩,by omega,?_⟩
    ·by_cases hj:j=c
     ·subst hj; omega
     exact hc2 j (by omega)
    simp only [leq,bx,an,fl,gp,ak,simprocAttr]<;>omega
   (try simp only [aE] at hC8)
   refine qj (qc (qc (qf (qd (qa ?_)))))
   refine ab fun K hK=>aa ae ?_
   simp only [an,fl,gp,ak,simprocAttr]
   refine af ?_ (hK _ ?_)<;>clear hK K
   ·first|exact trivial|omega|(simp only [ah] at *; omega)|(simp [ah] at *; omega)|simp_all
   refine qa ?_
   refine ⟨b + 1,[0,1],⟨by omega,fun j hj=>?_⟩,by omega,?_⟩
   ·by_cases hj:j=b
    ·subst hj; exact fun c' hc'=>hc2 c' (by omega)
    exact hb2 j (by omega)
   simp only [leq,bx,an,fl,gp,ak,simprocAttr]<;>omega
  (try simp only [aE] at hC7)
  refine qj (qc (qc (qf (qd (qa ?_)))))
  refine ab fun K hK=>aa ae ?_
  simp only [an,fl,gp,ak,simprocAttr]
  refine af ?_ (hK _ ?_)<;>clear hK K
  ·first|exact trivial|omega|(simp only [ah] at *; omega)|(simp [ah] at *; omega)|simp_all
  refine qa ?_
  refine ⟨a + 1,[0,1],⟨by omega,fun j hj=>?_⟩,by omega,?_⟩
  ·by_cases hj:j=a
   ·subst hj; exact fun c' hc'=>hb2 c' (by omega)
   exact ha2 j (by omega)
  simp only [leq,bx,an,fl,gp,ak,simprocAttr]<;>omega
 (try simp only [aE] at hC6)
 refine qj (qc (qc (qf (qa (qm (qm ?_))))))
 refine ab fun K hK=>aa ae ?_
 simp only [an,fl,gp,ak,simprocAttr]
 refine af trivial (hK _ ?_)<;>clear hK K
 refine qa (ql ?_)
 refine aD (ι:=Nat) (fun a=>⟨104,[(1,.ptr 0 0),(2,.ptr 1 0),(7,.p (.int .i64 a))],[.own [.p (.int .i64 n),.p (.list (il m))],.own [.p (.int .i64 0),.p (.int .i64 0)]]⟩) (fun a=>a≤n∧∀ j,j < a→¬ iI m n j < 0) (fun a=>n - a) 0 ⟨Nat.zero_le _,fun j hj=>by omega⟩ [0,1] (by simp only [leq,bx,an,fl,gp,ak,simprocAttr]<;>trivial) fun k hk=>?_
 obtain ⟨hk1,hk2⟩:=hk
 refine qm (qm ?_)
 refine ab fun K hK=>aa ae ?_
 simp only [an,fl,gp,ak,simprocAttr]
 refine af ?_ (hK _ ?_)<;>clear hK K
 ·first|exact trivial|omega|(simp only [ah] at *; omega)|(simp [ah] at *; omega)|simp_all
 refine qa ?_
 refine aq rfl (fun hC10=>?_) (fun hC10=>?_)
 ·(try simp only [aE] at hC10)
  have hkl:k < n:=by omega
  refine qh (qa (qm (ql (qm ?_))))
  refine ab fun K hK=>aa ae ?_
  simp only [an,fl,gp,ak,simprocAttr]
  refine ao trivial (au (Jg T hkl) rfl rfl rfl (by simp only [ay,Nat.reduceLT]) (by repeat (first|exact trivial|constructor)) (aa ae ?_))
  simp only [an,fl,gp,ak,simprocAttr]
  refine af ?_ (hK _ ?_)<;>clear hK K
  ·first|exact trivial|omega|(simp only [ah] at *; omega)|(simp [ah] at *; omega)|simp_all
  refine qa ?_
  refine aq rfl (fun hC11=>?_) (fun hC11=>?_)
  ·(try simp only [aE] at hC11)
   refine qm ?_
   refine ab fun K hK=>aa ae ?_
   simp only [an,fl,gp,ak,simprocAttr]
   refine ao trivial (au (pN 4 k) rfl rfl rfl (by simp only [ay,Nat.reduceLT]) (by repeat (first|exact trivial|constructor)) (aa ae ?_))
   simp only [an,fl,gp,ak,simprocAttr]
   refine af ?_ (hK _ ?_)<;>clear hK K
   ·first|exact trivial|omega|(simp only [ah] at *; omega)|(simp [ah] at *; omega)|simp_all
   refine qa (qk (qe (qb (qb (qe (qb ?_))))))
   simp only [Tryd.results10,bT,an,fl,gp,ak,simprocAttr]
   all_goals (rw [iR T,EG hC5 (fun j hj=>ha2 j (by omega)) hkl hC11 hk2]; simp)
  (try simp only [aE] at hC11)
  refine qh (qd (qa ?_))
  refine ab fun K hK=>aa ae ?_
  simp only [an,fl,gp,ak,simprocAttr]
  refine af ?_ (hK _ ?_)<;>clear hK K
  ·first|exact trivial|omega|(simp only [ah] at *; omega)|(simp [ah] at *; omega)|simp_all
  refine qa ?_
  refine ⟨k + 1,[0,1],⟨by omega,fun j hj=>?_⟩,by omega,?_⟩
  ·by_cases hj:j=k
   ·subst hj; omega
   exact hk2 j (by omega)
  simp only [leq,bx,an,fl,gp,ak,simprocAttr]<;>omega
 (try simp only [aE] at hC10)
 refine qj (qc (qc (qf (qa (qm ?_)))))
 refine ab fun K hK=>aa ae ?_
 simp only [an,fl,gp,ak,simprocAttr]
 refine af ?_ (hK _ ?_)<;>clear hK K
 ·first|exact trivial|omega|(simp only [ah] at *; omega)|(simp [ah] at *; omega)|simp_all
 refine qa (qk ?_)
 simp only [Tryd.results10,bT,an,fl,gp,ak,simprocAttr]
 all_goals (rw [iR T,BK hC5 (fun j hj=>ha2 j (by omega)) (fun j hj=>hk2 j (by omega))]; simp)
theorem oU {m:List Int} {n a b:Nat} (ha:a < n) (hb:b < n) (h1:tS m n a) (h2:tS m n b):a=b:=by
 have e1:=(h1 b hb).1
 have e2:=(h2 a ha).2
 omega
theorem lX (m:List Int) (n:Nat):(eI m n = -1∧∀ a,a < n→¬ tS m n a)∨∃ e,e < n∧tS m n e∧eI m n=(e:Nat):=by
 unfold eI
 cases h:cE (fun a=>decide (tS m n a)) n with
 | none=>exact .inl ⟨rfl,fun a ha=>of_decide_eq_false (df h a ha)⟩
 | some e =>
  obtain ⟨h1,h2,_⟩:=gl h
  exact .inr ⟨e,h1,of_decide_eq_true h2,rfl⟩
theorem HK {m:List Int} {n e:Nat} (he:e < n) (h:tS m n e):eI m n=(e:Nat):=by
 rcases lX m n with ⟨_,h2⟩ | ⟨e',h1,h2,h3⟩
 ·exact absurd h (h2 e he)
 rw [h3,oU he h1 h h2]
theorem mE (m:List Int) (n a:Nat):(iI m n a = -1∧∀ b,b < n→¬ (((op m n a b:Nat):Int)=eI m n∧((op m n b a:Nat):Int)=eI m n)) ∨
  ∃ b,b < n∧((op m n a b:Nat):Int)=eI m n∧((op m n b a:Nat):Int)=eI m n∧iI m n a=(b:Nat):=by
 unfold iI
 cases h:cE (fun b=>decide (((op m n a b:Nat):Int)=eI m n∧((op m n b a:Nat):Int)=eI m n)) n with
 | none=>exact .inl ⟨rfl,fun b hb=>of_decide_eq_false (df h b hb)⟩
 | some b =>
  obtain ⟨h1,h2,_⟩:=gl h
  have h2:=of_decide_eq_true h2
  exact .inr ⟨b,h1,h2.1,h2.2,rfl⟩
def GT (N:Int) (m:List Int) (n e:Nat):Prop:=N=(n:Int)∧uh n m∧ba n (op m n) e
theorem yg {N:Int} {m:List Int} (h:(gf N m).1=0):∃ n e,GT N m n e∧eI m n=(e:Nat):=by
 unfold gf at h
 by_cases h1:N < 1∨N > 60
 ·rw [if_pos h1] at h; simp at h
 rw [if_neg h1] at h
 obtain ⟨n,rfl⟩:=Int.eq_ofNat_of_zero_le (show 0≤N by omega)
 have Hz:=nf n
 by_cases h2:(m.length:Int)=(n:Int) * n
 ·rw [if_neg (by simpa using h2)] at h
  cases h3:cE (bad n m) m.length with
  | some i=>rw [h3] at h; simp at h
  | none =>
   rw [h3] at h
   have hl:m.length=n * n:=by omega
   have T:uh n m:=by
    refine ⟨by omega,by omega,hl,fun j hj=>?_⟩
    have:=of_decide_eq_false (df h3 j (by omega))
    omega
   simp only [Int.toNat_natCast] at h
   unfold AE at h
   by_cases h4:eI m n < 0
   ·rw [if_pos h4] at h; simp at h
   rw [if_neg h4] at h
   rcases lX m n with ⟨h5,_⟩ | ⟨e,he,hE,heq⟩
   ·omega
   cases h6:cE (fun a=>decide (¬ vY m n a)) n with
   | some a=>rw [h6] at h; simp at h
   | none =>
    rw [h6] at h
    simp only at h
    have hasc:∀ a,a < n→vY m n a:=fun a ha=>by
     have:=of_decide_eq_false (df h6 a ha)
     exact Classical.not_not.1 this
    cases h7:cE (fun a=>decide (iI m n a < 0)) n with
    | some a=>rw [h7] at h; simp at h
    | none =>
     have hinv:∀ a,a < n→¬ iI m n a < 0:=fun a ha=>of_decide_eq_false (df h7 a ha)
     refine ⟨n,e,⟨rfl,T,⟨by omega,fun a b ha hb=>T.lt ha hb,he,fun a ha=>(hE a ha).1,fun a ha=>(hE a ha).2,fun a b c ha hb hc=>hasc a ha b hb c hc,fun a ha=>?_⟩⟩,heq⟩
     rcases mE m n a with ⟨h8,_⟩ | ⟨b,hb,h8,h9,_⟩
     ·have:=hinv a ha; omega
     exact ⟨b,hb,by omega,by omega⟩
 rw [if_pos h2] at h; simp at h
theorem GT.one {N:Int} {m:List Int} {n e:Nat} (h:GT N m n e):tS m n e:=fun b hb=>⟨h.2.2.one_l b hb,h.2.2.one_r b hb⟩
theorem GT.eI {N:Int} {m:List Int} {n e:Nat} (h:GT N m n e):eI m n=(e:Nat):=HK h.2.2.el h.one
theorem GT.iI {N:Int} {m:List Int} {n e a:Nat} (h:GT N m n e) (ha:a < n):iI m n a=(iv n (op m n) e a:Nat):=by
 have G:=h.2.2
 rcases mE m n a with ⟨_,h2⟩ | ⟨b,hb,h8,h9,h10⟩
 ·exact absurd ⟨by rw [h.eI,G.cr ha],by rw [h.eI,G.eO ha]⟩ (h2 _ (G.aS ha))
 rw [h10]
 rw [h.eI] at h8
 rw [G.di ha hb (.inl (by omega))]
theorem uT {N:Int} {m:List Int} {n e:Nat} (h:GT N m n e):gf N m=(0,0):=by
 obtain ⟨rfl,T,G⟩:=h
 have h' : GT n m n e:=⟨rfl,T,G⟩
 rw [iR T,BK (by rw [h'.eI]; omega) (fun a ha b hb c hc=>G.assoc a b c ha hb hc) fun a ha=>by rw [h'.iI ha]; omega]
theorem y8 {n:Nat} {f:Nat→Nat→Nat} {e:Nat} (hcl:∀ a b,a < n→b < n→f a b < n) (he:e < n) (hl:∀ a,a < n→f e a=a) (hr:∀ a,a < n→f a e=a)
  (has:∀ a b c,a < n→b < n→c < n→f (f a b) c=f a (f b c)) {a b:Nat} (ha:a < n) (hb:b < n) (h:f a b=e):f b a=e:=by
 obtain ⟨c,hc,h1⟩:=B5 (f:=f b) (fun i hi=>hcl b i hb hi) (fun i j hi hj hij=>by
  have h2:f a (f b i)=f a (f b j):=by rw [hij]
  rwa [← has a b i ha hb hi,← has a b j ha hb hj,h,hl i hi,hl j hj] at h2) he
 have:a=c:=by
  have h2:=has a b c ha hb hc
  rw [h,h1,hl c hc,hr a ha] at h2
  exact h2.symm
 rw [this]; exact h1
def IF (N:Int) (l:List Int) (i:Nat):Prop:=¬ (l.getD i 0 < 0∨l.getD i 0 ≥ N)
instance (N:Int) (l:List Int) (i:Nat):Decidable (IF N l i):=by unfold IF; infer_instance
def tf (N:Int) (m l:List Int):Int × Int:=
 if ¬ (gf N m).1=0 then gf N m
 else match cE (fun i=>decide (¬ IF N l i)) l.length with
  | some i=>(3,(i:Int) + 1)
  | none=>(0,0)
def HY (m:List Int) (n:Nat):Prop:=∀ a,a < n→∀ b,b < n→op m n a b=op m n b a
instance (m:List Int) (n:Nat):Decidable (HY m n):=by unfold HY; infer_instance
theorem qB (w:List Int) (hl:w.length≤17592186043904):ct Tryd.prog 8 [.list (il w)] (.list (il w)):=by
 refine aV ae Tryd.func8 rfl (by kernel_rfl) (by rw [Tryd.ntmps8]; exact Nat.le_add_left 1 _) ?_; rw [Tryd.ntmps8]
 refine qm ?_
 refine ab fun K hK=>aa ae ?_
 simp only [an,fl,gp,ak,simprocAttr]
 refine af trivial (hK _ ?_)<;>clear hK K
 refine qa (qm ?_)
 refine ab fun K hK=>aa ae ?_
 simp only [an,fl,gp,ak,simprocAttr]
 refine af ?_ (hK _ ?_)<;>clear hK K
 ·first|exact trivial|omega|(simp only [ah] at *; omega)|(simp [ah] at *; omega)|simp_all
 refine qa (qk ?_)
 simp only [Tryd.results8,bT,an,fl,gp,ak,simprocAttr]
 all_goals (simp)
theorem iN (N:Int) (m:List Int) (hl:m.length≤17592186043904):ct Tryd.prog 7 [gp N m] (gp N m):=by
 refine aV ae Tryd.func7 rfl (by kernel_rfl) (by rw [Tryd.ntmps7]; exact Nat.le_add_left 1 _) ?_; rw [Tryd.ntmps7]
 refine qm ?_
 refine ab fun K hK=>aa ae ?_
 simp only [an,fl,gp,ak,simprocAttr]
 refine af ?_ (hK _ ?_)<;>clear hK K
 ·first|exact trivial|omega|(simp only [ah] at *; omega)|(simp [ah] at *; omega)|simp_all
 refine qa (qm ?_)
 refine aO mixed (by kernel_rfl) fun K hK=>aa ae ?_
 simp only [an,fl,gp,ak,simprocAttr]
 refine ao trivial (au (qB m hl) rfl rfl rfl (by simp only [ay,Nat.reduceLT]) (by repeat (first|exact trivial|constructor)) (aa ae ?_))
 simp only [an,fl,gp,ak,simprocAttr]
 refine af ?_ (hK _ ?_)<;>clear hK K
 ·first|exact trivial|omega|(simp only [ah] at *; omega)|(simp [ah] at *; omega)|simp_all
 refine qa (qk ?_)
 simp only [Tryd.results7,bT,an,fl,gp,ak,simprocAttr]
 all_goals (simp)
theorem eG (c a:Int):ct Tryd.prog 38 [.int .i64 c,.int .i64 a] (fl (c,a)):=by
 refine aV ae Tryd.func38 rfl (by kernel_rfl) (by rw [Tryd.ntmps38]; exact Nat.le_add_left 2 _) ?_; rw [Tryd.ntmps38]
 refine qm ?_
 refine ab fun K hK=>aa ae ?_
 simp only [an,fl,gp,ak,simprocAttr]
 refine af ?_ (hK _ ?_)<;>clear hK K
 ·first|exact trivial|omega|(simp only [ah] at *; omega)|(simp [ah] at *; omega)|simp_all
 refine qa (qm ?_)
 refine ab fun K hK=>aa ae ?_
 simp only [an,fl,gp,ak,simprocAttr]
 refine af ?_ (hK _ ?_)<;>clear hK K
 ·first|exact trivial|omega|(simp only [ah] at *; omega)|(simp [ah] at *; omega)|simp_all
 refine qa (qk ?_)
 simp only [Tryd.results38,bT,an,fl,gp,ak,simprocAttr]
 all_goals (rfl)
theorem lG {n:Nat} {m:List Int} (T:uh n m) {a b:Nat} (ha:a < n) (hb:b < n):ct Tryd.prog 24 [gp n m,.int .i64 a,.int .i64 b] (.int .i64 (op m n a b:Nat)):=by
 have h1:=vp ha hb
 have h2:=uW T.big
 have h3:=T.len
 have hc:(a:Int) * (n:Int)=((a * n:Nat):Int):=(Int.natCast_mul a n).symm
 have hv:=T.val ha hb
 refine aV ae Tryd.func24 rfl (by kernel_rfl) (by rw [Tryd.ntmps24]; exact Nat.le_add_left 3 _) ?_; rw [Tryd.ntmps24]
 refine qm ?_
 refine ab fun K hK=>aa ae ?_
 simp only [an,fl,gp,ak,simprocAttr]
 refine af ?_ (hK _ ?_)<;>clear hK K
 ·first|exact trivial|omega|(simp only [ah] at *; omega)|(simp [ah] at *; omega)|simp_all
 refine qa (qm ?_)
 refine ab fun K hK=>aa ae ?_
 simp only [an,fl,gp,ak,simprocAttr,zX,aL (show a * n + b < m.length by omega),hv]
 refine af ?_ (hK _ ?_)<;>clear hK K
 ·rw [hc]; simp only [ah]; omega
 refine qa (qk ?_)
 simp only [Tryd.results24,bT,an,fl,gp,ak,simprocAttr]
 all_goals (rfl)
def ix (l:List Int) (x:Int):Int:=match cE (fun i=>decide (l.getD i 0=x)) l.length with | some i=>(i:Int) | none=>-1
theorem yA (l:List Int) (x:Int) (hl:l.length≤1000000000000):ct Tryd.prog 41 [.list (il l),.int .i64 x] (.int .i64 (ix l x)):=by
 refine aV ae Tryd.func41 rfl (by kernel_rfl) (by rw [Tryd.ntmps41]; exact Nat.le_add_left 2 _) ?_; rw [Tryd.ntmps41]
 refine qm ?_
 refine ab fun K hK=>aa ae ?_
 simp only [an,fl,gp,ak,simprocAttr]
 refine af trivial (hK _ ?_)<;>clear hK K
 refine qa (qm (qm ?_))
 refine ab fun K hK=>aa ae ?_
 simp only [an,fl,gp,ak,simprocAttr]
 refine af trivial (hK _ ?_)<;>clear hK K
 refine qa (ql ?_)
 refine aD (ι:=Nat) (fun i=>⟨19,[(0,.p (.list (il l))),(1,.p (.int .i64 x)),(7,.p (.int .i64 l.length)),(8,.p (.int .i64 i))],[]⟩) (fun i=>i≤l.length∧∀ j,j < i→¬ l.getD j 0=x) (fun i=>l.length - i) 0 ⟨Nat.zero_le _,fun j hj=>by omega⟩ [] (by simp only [leq,bx,an,fl,gp,ak,simprocAttr]<;>trivial) fun i hi=>?_
 obtain ⟨hi1,hi2⟩:=hi
 refine qm ?_
 refine ab fun K hK=>aa ae ?_
 simp only [an,fl,gp,ak,simprocAttr]
 refine af trivial (hK _ ?_)<;>clear hK K
 refine qa (qm ?_)
 refine aq rfl (fun hC1=>?_) (fun hC1=>?_)
 ·(try simp only [aE] at hC1)
  have hlt:i < l.length:=by omega
  refine qh (qa (qm (ql (qm ?_))))
  refine ab fun K hK=>aa ae ?_
  simp only [an,fl,gp,ak,simprocAttr]
  refine af trivial (hK _ ?_)<;>clear hK K
  refine qa (qm ?_)
  refine ab fun K hK=>aa ae ?_
  simp only [an,fl,gp,ak,simprocAttr,aL hlt]
  refine af ?_ (hK _ ?_)<;>clear hK K
  ·first|exact trivial|omega|(simp only [ah] at *; omega)|(simp [ah] at *; omega)|simp_all
  refine qa ?_
  refine aq rfl (fun hC2=>?_) (fun hC2=>?_)
  ·(try simp only [aE] at hC2)
   refine qm ?_
   refine ab fun K hK=>aa ae ?_
   simp only [an,fl,gp,ak,simprocAttr]
   refine af trivial (hK _ ?_)<;>clear hK K
   refine qa (qk (qe (qb (qb (qe (qb ?_))))))
   simp only [Tryd.results41,bT,an,fl,gp,ak,simprocAttr]
   all_goals (unfold ix; rw [dG hlt (decide_eq_true hC2.symm) fun j hj=>decide_eq_false (hi2 j hj)])
  (try simp only [aE] at hC2)
  refine qh (qd (qa ?_))
  refine ab fun K hK=>aa ae ?_
  simp only [an,fl,gp,ak,simprocAttr]
  refine af ?_ (hK _ ?_)<;>clear hK K
  ·first|exact trivial|omega|(simp only [ah] at *; omega)|(simp [ah] at *; omega)|simp_all
  refine qa ?_
  refine ⟨i + 1,[],⟨by omega,fun j hj=>?_⟩,by omega,?_⟩
  ·by_cases hj:j=i
   ·subst hj; exact fun h=>hC2 h.symm
   exact hi2 j (by omega)
  simp only [leq,bx,an,fl,gp,ak,simprocAttr]<;>first|trivial|omega
 (try simp only [aE] at hC1)
 refine qj (qc (qc (qf (qa (qm ?_)))))
 refine ab fun K hK=>aa ae ?_
 simp only [an,fl,gp,ak,simprocAttr]
 refine af trivial (hK _ ?_)<;>clear hK K
 refine qa (qk ?_)
 simp only [Tryd.results41,bT,an,fl,gp,ak,simprocAttr]
 all_goals (unfold ix; rw [eK fun j hj=>decide_eq_false (hi2 j (by omega))])
theorem F5 (l:List Int) (x:Int):ix l x ≥ 0↔∃ i,i < l.length∧l.getD i 0=x:=by
 unfold ix
 cases h:cE (fun i=>decide (l.getD i 0=x)) l.length with
 | none =>
  constructor
  ·intro h; simp at h
  rintro ⟨i,hi,e⟩
  exact absurd e (of_decide_eq_false (df h i hi))
 | some i =>
  obtain ⟨h1,h2,_⟩:=gl h
  exact ⟨fun _=>⟨i,h1,of_decide_eq_true h2⟩,fun _=>by simp⟩
theorem xb (l:List Int) (x:Int) (hl:l.length≤1000000000000):ct Tryd.prog 39 [.list (il l),.int .i64 x] (.bool (decide (ix l x ≥ 0))):=by
 refine aV ae Tryd.func39 rfl (by kernel_rfl) (by rw [Tryd.ntmps39]; exact Nat.le_add_left 2 _) ?_; rw [Tryd.ntmps39]
 refine qm ?_
 refine ab fun K hK=>aa ae ?_
 simp only [an,fl,gp,ak,simprocAttr]
 refine af trivial (hK _ ?_)<;>clear hK K
 refine qa (qm ?_)
 refine ab fun K hK=>aa ae ?_
 simp only [an,fl,gp,ak,simprocAttr]
 refine ao trivial (au (yA l x hl) rfl rfl rfl (by simp only [ay,Nat.reduceLT]) (by repeat (first|exact trivial|constructor)) (aa ae ?_))
 simp only [an,fl,gp,ak,simprocAttr]
 refine af trivial (hK _ ?_)<;>clear hK K
 refine qa (qk ?_)
 simp only [Tryd.results39,bT,an,fl,gp,ak,simprocAttr]
 all_goals ((first|exact rfl|exact ⟨rfl,rfl⟩|exact ⟨rfl,rfl,rfl⟩|exact ⟨trivial,rfl⟩|exact ⟨Nat.le_refl _,rfl⟩|trivial|(simp; done)))
def row (m:List Int) (n a:Nat):List Int:=(m.drop (a * n)).take n
theorem oQ {m:List Int} {n a:Nat} (T:uh n m) (ha:a < n):(row m n a).length=n:=by
 have:(a + 1) * n≤n * n:=Nat.mul_le_mul_right _ ha
 rw [Nat.add_mul,Nat.one_mul] at this
 have:=T.len
 simp [row]; omega
theorem oP {m:List Int} {n a b:Nat} (T:uh n m) (ha:a < n) (hb:b < n):(row m n a).getD b 0=((op m n a b:Nat):Int):=by
 rw [← T.val ha hb]
 simp only [row,List.getD,List.getElem?_take,if_pos hb,List.getElem?_drop]
theorem Hl {m:List Int} {n a:Nat} (T:uh n m) (ha:a < n) (x:Int):ix (row m n a) x ≥ 0↔∃ b,b < n∧((op m n a b:Nat):Int)=x:=by
 rw [F5,oQ T ha]
 constructor
 ·rintro ⟨b,hb,e⟩; exact ⟨b,hb,by rw [← oP T ha hb]; exact e⟩
 rintro ⟨b,hb,e⟩; exact ⟨b,hb,by rw [oP T ha hb]; exact e⟩
def qU (m:List Int) (n:Nat):Nat→Int
 | 0=>-1
 | i + 1=>if tS m n i then (i:Int) else qU m n i
theorem xn {m:List Int} {n:Nat} (h:∀ a,a < n→¬ tS m n a):∀ i,i≤n→qU m n i = -1
 | 0,_=>rfl
 | i + 1,hi=>by simp only [qU]; rw [if_neg (h i (by omega)),xn h i (by omega)]
theorem uK {m:List Int} {n e:Nat} (he:e < n) (h:tS m n e):∀ i,i≤n→e < i→qU m n i=(e:Nat)
 | 0,_,h2=>by omega
 | i + 1,hi,h2=>by
  simp only [qU]
  by_cases hE:tS m n i
  ·rw [if_pos hE,oU he (by omega) h hE]
  rw [if_neg hE]
  have:e ≠ i:=fun h'=>hE (h' ▸ h)
  exact uK he h i (by omega) (by omega)
theorem Da (m:List Int) (n:Nat):qU m n n=eI m n:=by
 rcases lX m n with ⟨h1,h2⟩ | ⟨e,he,h1,h2⟩
 ·rw [h1,xn h2 n (Nat.le_refl _)]
 rw [h2,uK he h1 n (Nat.le_refl _) he]
theorem zL {m:List Int} {n a:Nat} (T:uh n m) (he:¬ eI m n < 0) (hs:∀ a,a < n→vY m n a) (ha:a < n):ix (row m n a) (eI m n) ≥ 0↔¬ iI m n a < 0:=by
 rw [Hl T ha]
 rcases lX m n with ⟨h1,_⟩ | ⟨e,hel,hE,heq⟩
 ·omega
 constructor
 ·rintro ⟨b,hb,h⟩ h2
  rcases mE m n a with ⟨_,h3⟩ | ⟨b',_,_,_,h4⟩
  ·refine h3 b hb ⟨h,?_⟩
   rw [heq] at h ⊢
   have:=y8 (f:=op m n) (fun a b ha hb=>T.lt ha hb) hel (fun a ha=>(hE a ha).1) (fun a ha=>(hE a ha).2) (fun a b c ha hb hc=>hs a ha b hb c hc) ha hb (by omega)
   omega
  omega
 intro h
 rcases mE m n a with ⟨h3,_⟩ | ⟨b,hb,h4,_,_⟩
 ·omega
 exact ⟨b,hb,h4⟩
theorem qp (a n:Nat):((a:Int) * (n:Int)).toNat=a * n:=by
 rw [← Int.natCast_mul]; rfl
theorem pL (a n:Nat):(((a:Int) + 1) * (n:Int)).toNat=(a + 1) * n:=by
 have:((a:Int) + 1) * (n:Int)=(((a + 1) * n:Nat):Int):=by rw [Int.natCast_mul]; rfl
 rw [this]; rfl
theorem pP (a n:Nat):(a + 1) * n - a * n=n:=by rw [Nat.add_mul,Nat.one_mul]; omega
set_option maxHeartbeats 1000000 in
theorem mF (N:Int) (m:List Int) (hm:m.length≤1000000000000000):ct Tryd.prog 19 [gp N m] (fl (gf N m)):=by
 refine aV ae Tryd.func19 rfl (by kernel_rfl) (by rw [Tryd.ntmps19]; exact Nat.le_add_left 1 _) ?_; rw [Tryd.ntmps19]
 refine qm ?_
 refine ab fun K hK=>aa ae ?_
 simp only [an,fl,gp,ak,simprocAttr]
 refine af ?_ (hK _ ?_)<;>clear hK K
 ·first|exact trivial|omega|(simp only [ah] at *; omega)|(simp [ah] at *; omega)|simp_all
 refine qa (qm (qm ?_))
 by_cases g1a:N < 1
 ·refine ab fun K hK=>aa ae ?_
  simp only [an,fl,gp,ak,simprocAttr,decide_eq_true g1a]
  refine af ?_ (hK _ ?_)<;>clear hK K
  ·first|exact trivial|omega|(simp only [ah] at *; omega)|(simp [ah] at *; omega)|simp_all
  refine qa ?_
  refine aq rfl (fun hC1=>?_) (fun hC1=>?_)
  ·refine qm ?_
   refine ab fun K hK=>aa ae ?_
   simp only [an,fl,gp,ak,simprocAttr]
   refine ao trivial (au (eG 2 0) rfl rfl rfl (by simp only [ay,Nat.reduceLT]) (by repeat (first|exact trivial|constructor)) (aa ae ?_))
   simp only [an,fl,gp,ak,simprocAttr]
   refine af ?_ (hK _ ?_)<;>clear hK K
   ·first|exact trivial|omega|(simp only [ah] at *; omega)|(simp [ah] at *; omega)|simp_all
   refine qa (qk (qb ?_))
   simp only [Tryd.results19,bT,an,fl,gp,ak,simprocAttr]
   all_goals (unfold gf; rw [if_pos (.inl g1a)]; simp)
  cases hC1
 refine ab fun K hK=>aa ae ?_
 simp only [an,fl,gp,ak,simprocAttr,decide_eq_false g1a]
 refine af ?_ (hK _ ?_)<;>clear hK K
 ·first|exact trivial|omega|(simp only [ah] at *; omega)|(simp [ah] at *; omega)|simp_all
 refine qa ?_
 refine aq rfl (fun hC1=>?_) (fun hC1=>?_)
 ·(try simp only [aE] at hC1)
  refine qm ?_
  refine ab fun K hK=>aa ae ?_
  simp only [an,fl,gp,ak,simprocAttr]
  refine ao trivial (au (eG 2 0) rfl rfl rfl (by simp only [ay,Nat.reduceLT]) (by repeat (first|exact trivial|constructor)) (aa ae ?_))
  simp only [an,fl,gp,ak,simprocAttr]
  refine af ?_ (hK _ ?_)<;>clear hK K
  ·first|exact trivial|omega|(simp only [ah] at *; omega)|(simp [ah] at *; omega)|simp_all
  refine qa (qk (qb ?_))
  simp only [Tryd.results19,bT,an,fl,gp,ak,simprocAttr]
  all_goals (unfold gf; rw [if_pos (.inr hC1)]; simp)
 (try simp only [aE] at hC1)
 obtain ⟨n,rfl⟩:=Int.eq_ofNat_of_zero_le (show 0≤N by omega)
 have hnn:=nf n
 have Hz:=uW (show n≤60 by omega)
 refine qh (qa (qm (qm ?_)))
 refine ab fun K hK=>aa ae ?_
 simp only [an,fl,gp,ak,simprocAttr]
 refine af ?_ (hK _ ?_)<;>clear hK K
 ·simp only [ah]; omega
 refine qa ?_
 refine aq rfl (fun hC2=>?_) (fun hC2=>?_)
 ·(try simp only [aE] at hC2)
  refine qm ?_
  refine ab fun K hK=>aa ae ?_
  simp only [an,fl,gp,ak,simprocAttr]
  refine ao trivial (au (eG 8 0) rfl rfl rfl (by simp only [ay,Nat.reduceLT]) (by repeat (first|exact trivial|constructor)) (aa ae ?_))
  simp only [an,fl,gp,ak,simprocAttr]
  refine af ?_ (hK _ ?_)<;>clear hK K
  ·first|exact trivial|omega|(simp only [ah] at *; omega)|(simp [ah] at *; omega)|simp_all
  refine qa (qk (qb ?_))
  simp only [Tryd.results19,bT,an,fl,gp,ak,simprocAttr]
  all_goals (rw [x6 (by omega) (by omega) (by omega)]; simp)
 (try simp only [aE] at hC2)
 have hl:m.length=n * n:=by omega
 refine qh (qa (qm (qm ?_)))
 refine ab fun K hK=>aa ae ?_
 simp only [an,fl,gp,ak,simprocAttr]
 refine af ?_ (hK _ ?_)<;>clear hK K
 ·first|exact trivial|omega|(simp only [ah] at *; omega)|(simp [ah] at *; omega)|simp_all
 refine qa (ql ?_)
 refine aD (ι:=Nat) (fun i=>⟨144,[(1,.ptr 0 0),(2,.ptr 1 0),(33,.p (.list (il m))),(34,.p (.int .i64 m.length)),(35,.p (.int .i64 i))],[.own [.p (.int .i64 n),.p (.list (il m))],.own [.p (.int .i64 0),.p (.int .i64 0)]]⟩) (fun i=>i≤m.length∧∀ j,j < i→bad n m j=false) (fun i=>m.length - i) 0 ⟨Nat.zero_le _,fun j hj=>by omega⟩ [0,1] (by simp only [leq,bx,an,fl,gp,ak,simprocAttr]<;>trivial) fun i hi=>?_
 obtain ⟨hi1,hi2⟩:=hi
 refine qm ?_
 refine ab fun K hK=>aa ae ?_
 simp only [an,fl,gp,ak,simprocAttr]
 refine af trivial (hK _ ?_)<;>clear hK K
 refine qa (qm ?_)
 refine aq rfl (fun hC3=>?_) (fun hC3=>?_)
 ·(try simp only [aE] at hC3)
  have hlt:i < m.length:=by omega
  refine qh (qa (qm (ql (qm ?_))))
  refine ab fun K hK=>aa ae ?_
  simp only [an,fl,gp,ak,simprocAttr,aL hlt]
  refine af ?_ (hK _ ?_)<;>clear hK K
  ·first|exact trivial|omega|(simp only [ah] at *; omega)|(simp [ah] at *; omega)|simp_all
  refine qa (qm ?_)
  by_cases g8a:m.getD i 0 < 0
  ·refine ab fun K hK=>aa ae ?_
   simp only [an,fl,gp,ak,simprocAttr,decide_eq_true g8a]
   refine af trivial (hK _ ?_)<;>clear hK K
   refine qa ?_
   refine aq rfl (fun hC4=>?_) (fun hC4=>?_)
   ·refine qm ?_
    refine ab fun K hK=>aa ae ?_
    simp only [an,fl,gp,ak,simprocAttr]
    refine ao trivial (au (eG 3 i) rfl rfl rfl (by simp only [ay,Nat.reduceLT]) (by repeat (first|exact trivial|constructor)) (aa ae ?_))
    simp only [an,fl,gp,ak,simprocAttr]
    refine af ?_ (hK _ ?_)<;>clear hK K
    ·first|exact trivial|omega|(simp only [ah] at *; omega)|(simp [ah] at *; omega)|simp_all
    refine qa (qk (qe (qb (qb (qe (qb ?_))))))
    simp only [Tryd.results19,bT,an,fl,gp,ak,simprocAttr]
    all_goals (rw [lT (by omega) (by omega) hl hlt (decide_eq_true (.inl g8a)) hi2]; simp)
   cases hC4
  refine ab fun K hK=>aa ae ?_
  simp only [an,fl,gp,ak,simprocAttr,decide_eq_false g8a]
  refine af ?_ (hK _ ?_)<;>clear hK K
  ·first|exact trivial|omega|(simp only [ah] at *; omega)|(simp [ah] at *; omega)|simp_all
  refine qa ?_
  refine aq rfl (fun hC4=>?_) (fun hC4=>?_)
  ·(try simp only [aE] at hC4)
   refine qm ?_
   refine ab fun K hK=>aa ae ?_
   simp only [an,fl,gp,ak,simprocAttr]
   refine ao trivial (au (eG 3 i) rfl rfl rfl (by simp only [ay,Nat.reduceLT]) (by repeat (first|exact trivial|constructor)) (aa ae ?_))
   simp only [an,fl,gp,ak,simprocAttr]
   refine af ?_ (hK _ ?_)<;>clear hK K
   ·first|exact trivial|omega|(simp only [ah] at *; omega)|(simp [ah] at *; omega)|simp_all
   refine qa (qk (qe (qb (qb (qe (qb ?_))))))
   simp only [Tryd.results19,bT,an,fl,gp,ak,simprocAttr]
   all_goals (rw [lT (by omega) (by omega) hl hlt (decide_eq_true (.inr hC4)) hi2]; simp)
  (try simp only [aE] at hC4)
  refine qh (qd (qa ?_))
  refine ab fun K hK=>aa ae ?_
  simp only [an,fl,gp,ak,simprocAttr]
  refine af ?_ (hK _ ?_)<;>clear hK K
  ·first|exact trivial|omega|(simp only [ah] at *; omega)|(simp [ah] at *; omega)|simp_all
  refine qa ?_
  refine ⟨i + 1,[0,1],⟨by omega,fun j hj=>?_⟩,by omega,?_⟩
  ·by_cases hj:j=i
   ·subst hj; exact decide_eq_false (by omega)
   exact hi2 j (by omega)
  simp only [leq,bx,an,fl,gp,ak,simprocAttr]<;>first|trivial|omega
 (try simp only [aE] at hC3)
 have T:uh n m:=by
  refine ⟨by omega,by omega,hl,fun j hj=>?_⟩
  have:=of_decide_eq_false (hi2 j (by omega))
  omega
 refine qj (qc (qc (qf (qa (qm ?_)))))
 refine ab fun K hK=>aa ae ?_
 simp only [an,fl,gp,ak,simprocAttr]
 refine af trivial (hK _ ?_)<;>clear hK K
 refine qa (qm (qm ?_))
 refine ab fun K hK=>aa ae ?_
 simp only [an,fl,gp,ak,simprocAttr]
 refine af ?_ (hK _ ?_)<;>clear hK K
 ·first|exact trivial|omega|(simp only [ah] at *; omega)|(simp [ah] at *; omega)|simp_all
 refine qa (ql ?_)
 refine aD (ι:=Nat) (fun i=>⟨144,[(1,.ptr 0 0),(2,.ptr 1 0),(5,.p (.int .i64 (qU m n i))),(52,.p (.int .i64 n)),(53,.p (.int .i64 i))],[.own [.p (.int .i64 n),.p (.list (il m))],.own [.p (.int .i64 0),.p (.int .i64 0)]]⟩) (fun i=>i≤n) (fun i=>n - i) 0 (Nat.zero_le _) [0,1] (by simp only [leq,bx,an,fl,gp,ak,simprocAttr]<;>trivial) fun i hi=>?_
 refine qm ?_
 refine ab fun K hK=>aa ae ?_
 simp only [an,fl,gp,ak,simprocAttr]
 refine af trivial (hK _ ?_)<;>clear hK K
 refine qa (qm ?_)
 refine aq rfl (fun hC5=>?_) (fun hC5=>?_)
 ·(try simp only [aE] at hC5)
  have hil:i < n:=by omega
  refine qh (qa (qm (ql (qm ?_))))
  refine ab fun K hK=>aa ae ?_
  simp only [an,fl,gp,ak,simprocAttr]
  refine af trivial (hK _ ?_)<;>clear hK K
  refine qa (qm ?_)
  refine ab fun K hK=>aa ae ?_
  simp only [an,fl,gp,ak,simprocAttr]
  refine af trivial (hK _ ?_)<;>clear hK K
  refine qa (qm (qm ?_))
  refine ab fun K hK=>aa ae ?_
  simp only [an,fl,gp,ak,simprocAttr]
  refine af ?_ (hK _ ?_)<;>clear hK K
  ·first|exact trivial|omega|(simp only [ah] at *; omega)|(simp [ah] at *; omega)|simp_all
  refine qa (ql ?_)
  refine aD (ι:=Nat) (fun b=>⟨144,[(1,.ptr 0 0),(2,.ptr 1 0),(5,.p (.int .i64 (qU m n i))),(6,.p (.int .i64 i)),(7,.p (.bool (decide (∀ c,c < b→op m n i c=c∧op m n c i=c)))),(52,.p (.int .i64 n)),(53,.p (.int .i64 i)),(57,.p (.int .i64 n)),(58,.p (.int .i64 b))],[.own [.p (.int .i64 n),.p (.list (il m))],.own [.p (.int .i64 0),.p (.int .i64 0)]]⟩) (fun b=>b≤n) (fun b=>n - b) 0 (Nat.zero_le _) [0,1] (by simp only [leq,bx,an,fl,gp,ak,simprocAttr]<;>simp) fun b hb=>?_
  refine qm ?_
  refine ab fun K hK=>aa ae ?_
  simp only [an,fl,gp,ak,simprocAttr]
  refine af trivial (hK _ ?_)<;>clear hK K
  refine qa (qm ?_)
  refine aq rfl (fun hC6=>?_) (fun hC6=>?_)
  ·(try simp only [aE] at hC6)
   have hbl:b < n:=by omega
   refine qh (qa (qm (ql (qm ?_))))
   refine ab fun K hK=>aa ae ?_
   simp only [an,fl,gp,ak,simprocAttr]
   refine af trivial (hK _ ?_)<;>clear hK K
   refine qa ?_
   by_cases g19a:∀ c,c < b→op m n i c=c∧op m n c i=c
   ·by_cases g19b:((op m n i b:Nat):Int)=(b:Nat)
    ·refine ab fun K hK=>aa ae ?_
     simp only [an,fl,gp,ak,simprocAttr,decide_eq_true g19a,decide_eq_true g19b]
     refine ao trivial (au (lG T hil hbl) rfl rfl rfl (by simp only [ay,Nat.reduceLT]) (by repeat (first|exact trivial|constructor)) (aa ae ?_))
     simp only [an,fl,gp,ak,simprocAttr,decide_eq_true g19a,decide_eq_true g19b]
     refine ao trivial (au (lG T hbl hil) rfl rfl rfl (by simp only [ay,Nat.reduceLT]) (by repeat (first|exact trivial|constructor)) (aa ae ?_))
     simp only [an,fl,gp,ak,simprocAttr,decide_eq_true g19a,decide_eq_true g19b]
     refine af ?_ (hK _ ?_)<;>clear hK K
     ·first|exact trivial|omega|(simp only [ah] at *; omega)|(simp [ah] at *; omega)|simp_all
     refine qd (qa ?_)
     refine ab fun K hK=>aa ae ?_
     simp only [an,fl,gp,ak,simprocAttr]
     refine af ?_ (hK _ ?_)<;>clear hK K
     ·first|exact trivial|omega|(simp only [ah] at *; omega)|(simp [ah] at *; omega)|simp_all
     refine qa ?_
     refine ⟨b + 1,[0,1],by omega,by omega,?_⟩
     have hd:decide (∀ c,c < b + 1→op m n i c=c∧op m n c i=c)=decide (((op m n b i:Nat):Int)=(b:Nat)):=by
      apply decide_eq_decide.2
      constructor
      ·intro h; have:=h b (by omega); omega
      intro h c hc
      by_cases hcb:c=b
      ·subst hcb; omega
      exact g19a c (by omega)
     rw [hd]
     simp only [leq,bx,an,fl,gp,ak,simprocAttr]<;>first|trivial|omega
    refine ab fun K hK=>aa ae ?_
    simp only [an,fl,gp,ak,simprocAttr,decide_eq_true g19a,decide_eq_false g19b]
    refine ao trivial (au (lG T hil hbl) rfl rfl rfl (by simp only [ay,Nat.reduceLT]) (by repeat (first|exact trivial|constructor)) (aa ae ?_))
    simp only [an,fl,gp,ak,simprocAttr,decide_eq_true g19a,decide_eq_false g19b]
    refine af ?_ (hK _ ?_)<;>clear hK K
    ·first|exact trivial|omega|(simp only [ah] at *; omega)|(simp [ah] at *; omega)|simp_all
    refine qd (qa ?_)
    refine ab fun K hK=>aa ae ?_
    simp only [an,fl,gp,ak,simprocAttr]
    refine af ?_ (hK _ ?_)<;>clear hK K
    ·first|exact trivial|omega|(simp only [ah] at *; omega)|(simp [ah] at *; omega)|simp_all
    refine qa ?_
    refine ⟨b + 1,[0,1],by omega,by omega,?_⟩
    rw [oJ (P:=fun c=>op m n i c=c∧op m n c i=c) (b:=b) fun h=>by omega]
    simp only [leq,bx,an,fl,gp,ak,simprocAttr]<;>first|trivial|omega
   refine ab fun K hK=>aa ae ?_
   simp only [an,fl,gp,ak,simprocAttr,decide_eq_false g19a]
   refine af trivial (hK _ ?_)<;>clear hK K
   refine qd (qa ?_)
   refine ab fun K hK=>aa ae ?_
   simp only [an,fl,gp,ak,simprocAttr]
   refine af ?_ (hK _ ?_)<;>clear hK K
   ·first|exact trivial|omega|(simp only [ah] at *; omega)|(simp [ah] at *; omega)|simp_all
   refine qa ?_
   refine ⟨b + 1,[0,1],by omega,by omega,?_⟩
   rw [show decide (∀ c,c < b + 1→op m n i c=c∧op m n c i=c)=false from decide_eq_false fun h=>g19a fun c hc=>h c (by omega)]
   simp only [leq,bx,an,fl,gp,ak,simprocAttr]<;>first|trivial|omega
  (try simp only [aE] at hC6)
  have hbn:b=n:=by omega
  subst hbn
  refine qj (qc (qc (qf (qa (qm ?_)))))
  refine ab fun K hK=>aa ae ?_
  simp only [an,fl,gp,ak,simprocAttr]
  refine af trivial (hK _ ?_)<;>clear hK K
  refine qa ?_
  refine aq rfl (fun hone=>?_) (fun hone=>?_)
  ·(try simp only [aE] at hone)
   refine ab fun K hK=>aa ae ?_
   simp only [an,fl,gp,ak,simprocAttr]
   refine af trivial (hK _ ?_)<;>clear hK K
   refine qd (qa ?_)
   refine ab fun K hK=>aa ae ?_
   simp only [an,fl,gp,ak,simprocAttr]
   refine af ?_ (hK _ ?_)<;>clear hK K
   ·first|exact trivial|omega|(simp only [ah] at *; omega)|(simp [ah] at *; omega)|simp_all
   refine qa ?_
   refine ⟨i + 1,[0,1],by omega,by omega,?_⟩
   simp only [qU]
   rw [if_pos (show tS m b i from hone)]
   simp only [leq,bx,an,fl,gp,ak,simprocAttr]<;>first|trivial|omega
  (try simp only [aE] at hone)
  refine qh (qd (qa ?_))
  refine ab fun K hK=>aa ae ?_
  simp only [an,fl,gp,ak,simprocAttr]
  refine af ?_ (hK _ ?_)<;>clear hK K
  ·first|exact trivial|omega|(simp only [ah] at *; omega)|(simp [ah] at *; omega)|simp_all
  refine qa ?_
  refine ⟨i + 1,[0,1],by omega,by omega,?_⟩
  simp only [qU]
  rw [if_neg (show ¬ tS m b i from hone)]
  simp only [leq,bx,an,fl,gp,ak,simprocAttr]<;>first|trivial|omega
 (try simp only [aE] at hC5)
 have hin:i=n:=by omega
 subst hin
 rw [Da]
 refine qj (qc (qc (qf (qa (qm (qm ?_))))))
 refine ab fun K hK=>aa ae ?_
 simp only [an,fl,gp,ak,simprocAttr]
 refine af trivial (hK _ ?_)<;>clear hK K
 refine qa ?_
 refine aq rfl (fun hC8=>?_) (fun hC8=>?_)
 ·(try simp only [aE] at hC8)
  refine qm ?_
  refine ab fun K hK=>aa ae ?_
  simp only [an,fl,gp,ak,simprocAttr]
  refine ao trivial (au (eG 6 0) rfl rfl rfl (by simp only [ay,Nat.reduceLT]) (by repeat (first|exact trivial|constructor)) (aa ae ?_))
  simp only [an,fl,gp,ak,simprocAttr]
  refine af ?_ (hK _ ?_)<;>clear hK K
  ·first|exact trivial|omega|(simp only [ah] at *; omega)|(simp [ah] at *; omega)|simp_all
  refine qa (qk (qb ?_))
  simp only [Tryd.results19,bT,an,fl,gp,ak,simprocAttr]
  all_goals (rw [iR T,EC hC8]; simp)
 (try simp only [aE] at hC8)
 refine qh (qa (qm (qm ?_)))
 refine ab fun K hK=>aa ae ?_
 simp only [an,fl,gp,ak,simprocAttr]
 refine af ?_ (hK _ ?_)<;>clear hK K
 ·first|exact trivial|omega|(simp only [ah] at *; omega)|(simp [ah] at *; omega)|simp_all
 refine qa (ql ?_)
 refine aD (ι:=Nat) (fun a=>⟨144,[(1,.ptr 0 0),(2,.ptr 1 0),(5,.p (.int .i64 (eI m i))),(86,.p (.int .i64 i)),(87,.p (.int .i64 a))],[.own [.p (.int .i64 i),.p (.list (il m))],.own [.p (.int .i64 0),.p (.int .i64 0)]]⟩) (fun a=>a≤i∧∀ j,j < a→vY m i j) (fun a=>i - a) 0 ⟨Nat.zero_le _,fun j hj=>by omega⟩ [0,1] (by simp only [leq,bx,an,fl,gp,ak,simprocAttr]<;>trivial) fun a ha=>?_
 obtain ⟨ha1,ha2⟩:=ha
 refine qm ?_
 refine ab fun K hK=>aa ae ?_
 simp only [an,fl,gp,ak,simprocAttr]
 refine af trivial (hK _ ?_)<;>clear hK K
 refine qa (qm ?_)
 refine aq rfl (fun hC9=>?_) (fun hC9=>?_)
 ·(try simp only [aE] at hC9)
  have hal:a < i:=by omega
  refine qh (qa (qm (ql (qm ?_))))
  refine ab fun K hK=>aa ae ?_
  simp only [an,fl,gp,ak,simprocAttr]
  refine af trivial (hK _ ?_)<;>clear hK K
  refine qa (qm ?_)
  refine ab fun K hK=>aa ae ?_
  simp only [an,fl,gp,ak,simprocAttr]
  refine af ?_ (hK _ ?_)<;>clear hK K
  ·first|exact trivial|omega|(simp only [ah] at *; omega)|(simp [ah] at *; omega)|simp_all
  refine qa (ql ?_)
  refine aD (ι:=Nat) (fun b=>⟨144,[(1,.ptr 0 0),(2,.ptr 1 0),(5,.p (.int .i64 (eI m i))),(9,.p (.int .i64 a)),(86,.p (.int .i64 i)),(87,.p (.int .i64 a)),(91,.p (.int .i64 i)),(92,.p (.int .i64 b))],[.own [.p (.int .i64 i),.p (.list (il m))],.own [.p (.int .i64 0),.p (.int .i64 0)]]⟩) (fun b=>b≤i∧∀ j,j < b→∀ c,c < i→op m i (op m i a j) c=op m i a (op m i j c)) (fun b=>i - b) 0 ⟨Nat.zero_le _,fun j hj=>by omega⟩ [0,1] (by simp only [leq,bx,an,fl,gp,ak,simprocAttr]<;>trivial) fun b hb=>?_
  obtain ⟨hb1,hb2⟩:=hb
  refine qm ?_
  refine ab fun K hK=>aa ae ?_
  simp only [an,fl,gp,ak,simprocAttr]
  refine af trivial (hK _ ?_)<;>clear hK K
  refine qa (qm ?_)
  refine aq rfl (fun hC10=>?_) (fun hC10=>?_)
  ·(try simp only [aE] at hC10)
   have hbl:b < i:=by omega
   refine qh (qa (qm (ql (qm ?_))))
   refine ab fun K hK=>aa ae ?_
   simp only [an,fl,gp,ak,simprocAttr]
   refine af trivial (hK _ ?_)<;>clear hK K
   refine qa (qm ?_)
   refine ab fun K hK=>aa ae ?_
   simp only [an,fl,gp,ak,simprocAttr]
   refine af ?_ (hK _ ?_)<;>clear hK K
   ·first|exact trivial|omega|(simp only [ah] at *; omega)|(simp [ah] at *; omega)|simp_all
   refine qa (ql ?_)
   refine aD (ι:=Nat) (fun c=>⟨144,[(1,.ptr 0 0),(2,.ptr 1 0),(5,.p (.int .i64 (eI m i))),(9,.p (.int .i64 a)),(10,.p (.int .i64 b)),(86,.p (.int .i64 i)),(87,.p (.int .i64 a)),(91,.p (.int .i64 i)),(92,.p (.int .i64 b)),(96,.p (.int .i64 i)),(97,.p (.int .i64 c))],[.own [.p (.int .i64 i),.p (.list (il m))],.own [.p (.int .i64 0),.p (.int .i64 0)]]⟩) (fun c=>c≤i∧∀ j,j < c→op m i (op m i a b) j=op m i a (op m i b j)) (fun c=>i - c) 0 ⟨Nat.zero_le _,fun j hj=>by omega⟩ [0,1] (by simp only [leq,bx,an,fl,gp,ak,simprocAttr]<;>trivial) fun c hc=>?_
   obtain ⟨hc1,hc2⟩:=hc
   refine qm ?_
   refine ab fun K hK=>aa ae ?_
   simp only [an,fl,gp,ak,simprocAttr]
   refine af trivial (hK _ ?_)<;>clear hK K
   refine qa (qm ?_)
   refine aq rfl (fun hC11=>?_) (fun hC11=>?_)
   ·(try simp only [aE] at hC11)
    have hcl:c < i:=by omega
    refine qh (qa (qm (ql (qm ?_))))
    refine ab fun K hK=>aa ae ?_
    simp only [an,fl,gp,ak,simprocAttr]
    refine af trivial (hK _ ?_)<;>clear hK K
    refine qa (qm ?_)
    refine aO mixed (by kernel_rfl) fun K hK=>aa ae ?_
    simp only [an,fl,gp,ak,simprocAttr]
    refine ao trivial (au (lG T hal hbl) rfl rfl rfl (by simp only [ay,Nat.reduceLT]) (by repeat (first|exact trivial|constructor)) (aa ae ?_))
    simp only [an,fl,gp,ak,simprocAttr]
    refine ao trivial (au (lG T (T.lt hal hbl) hcl) rfl rfl rfl (by simp only [ay,Nat.reduceLT]) (by repeat (first|exact trivial|constructor)) (aa ae ?_))
    simp only [an,fl,gp,ak,simprocAttr]
    refine ao trivial (au (lG T hbl hcl) rfl rfl rfl (by simp only [ay,Nat.reduceLT]) (by repeat (first|exact trivial|constructor)) (aa ae ?_))
    simp only [an,fl,gp,ak,simprocAttr]
    refine ao trivial (au (lG T hal (T.lt hbl hcl)) rfl rfl rfl (by simp only [ay,Nat.reduceLT]) (by repeat (first|exact trivial|constructor)) (aa ae ?_))
    simp only [an,fl,gp,ak,simprocAttr]
    refine af ?_ (hK _ ?_)<;>clear hK K
    ·first|exact trivial|omega|(simp only [ah] at *; omega)|(simp [ah] at *; omega)|simp_all
    refine qa ?_
    refine aq rfl (fun hC12=>?_) (fun hC12=>?_)
    ·(try simp only [aE] at hC12)
     refine qm ?_
     refine ab fun K hK=>aa ae ?_
     simp only [an,fl,gp,ak,simprocAttr]
     refine ao trivial (au (eG 7 a) rfl rfl rfl (by simp only [ay,Nat.reduceLT]) (by repeat (first|exact trivial|constructor)) (aa ae ?_))
     simp only [an,fl,gp,ak,simprocAttr]
     refine af ?_ (hK _ ?_)<;>clear hK K
     ·first|exact trivial|omega|(simp only [ah] at *; omega)|(simp [ah] at *; omega)|simp_all
     refine qa (qk (qe (qb (qb (qe (qe (qb (qb (qe (qe (qb (qb (qe (qb ?_))))))))))))))
     simp only [Tryd.results19,bT,an,fl,gp,ak,simprocAttr]
     all_goals (rw [iR T,E5 hC8 hal (fun h=>hC12 (by rw [h b hbl c hcl])) ha2]; simp)
    (try simp only [aE] at hC12)
    refine qh (qd (qa ?_))
    refine ab fun K hK=>aa ae ?_
    simp only [an,fl,gp,ak,simprocAttr]
    refine af ?_ (hK _ ?_)<;>clear hK K
    ·first|exact trivial|omega|(simp only [ah] at *; omega)|(simp [ah] at *; omega)|simp_all
    refine qa ?_
    refine ⟨c + 1,[0,1],⟨by omega,fun j hj=>?_⟩,by omega,?_⟩
    ·by_cases hj:j=c
     ·subst hj; omega
     exact hc2 j (by omega)
    simp only [leq,bx,an,fl,gp,ak,simprocAttr]<;>first|trivial|omega
   (try simp only [aE] at hC11)
   refine qj (qc (qc (qf (qd (qa ?_)))))
   refine ab fun K hK=>aa ae ?_
   simp only [an,fl,gp,ak,simprocAttr]
   refine af ?_ (hK _ ?_)<;>clear hK K
   ·first|exact trivial|omega|(simp only [ah] at *; omega)|(simp [ah] at *; omega)|simp_all
   refine qa ?_
   refine ⟨b + 1,[0,1],⟨by omega,fun j hj=>?_⟩,by omega,?_⟩
   ·by_cases hj:j=b
    ·subst hj; exact fun c' hc'=>hc2 c' (by omega)
    exact hb2 j (by omega)
   simp only [leq,bx,an,fl,gp,ak,simprocAttr]<;>first|trivial|omega
  (try simp only [aE] at hC10)
  refine qj (qc (qc (qf (qd (qa ?_)))))
  refine ab fun K hK=>aa ae ?_
  simp only [an,fl,gp,ak,simprocAttr]
  refine af ?_ (hK _ ?_)<;>clear hK K
  ·first|exact trivial|omega|(simp only [ah] at *; omega)|(simp [ah] at *; omega)|simp_all
  refine qa ?_
  refine ⟨a + 1,[0,1],⟨by omega,fun j hj=>?_⟩,by omega,?_⟩
  ·by_cases hj:j=a
   ·subst hj; exact fun c' hc'=>hb2 c' (by omega)
   exact ha2 j (by omega)
  simp only [leq,bx,an,fl,gp,ak,simprocAttr]<;>first|trivial|omega
 (try simp only [aE] at hC9)
 have hs:∀ a,a < i→vY m i a:=fun j hj=>ha2 j (by omega)
 refine qj (qc (qc (qf (qa (qm (qm ?_))))))
 refine ab fun K hK=>aa ae ?_
 simp only [an,fl,gp,ak,simprocAttr]
 refine af ?_ (hK _ ?_)<;>clear hK K
 ·first|exact trivial|omega|(simp only [ah] at *; omega)|(simp [ah] at *; omega)|simp_all
 refine qa (ql ?_)
 refine aD (ι:=Nat) (fun a=>⟨144,[(1,.ptr 0 0),(2,.ptr 1 0),(5,.p (.int .i64 (eI m i))),(121,.p (.int .i64 i)),(122,.p (.int .i64 a))],[.own [.p (.int .i64 i),.p (.list (il m))],.own [.p (.int .i64 0),.p (.int .i64 0)]]⟩) (fun a=>a≤i∧∀ j,j < a→¬ iI m i j < 0) (fun a=>i - a) 0 ⟨Nat.zero_le _,fun j hj=>by omega⟩ [0,1] (by simp only [leq,bx,an,fl,gp,ak,simprocAttr]<;>trivial) fun k hk=>?_
 obtain ⟨hk1,hk2⟩:=hk
 refine qm ?_
 refine ab fun K hK=>aa ae ?_
 simp only [an,fl,gp,ak,simprocAttr]
 refine af trivial (hK _ ?_)<;>clear hK K
 refine qa (qm ?_)
 refine aq rfl (fun hC13=>?_) (fun hC13=>?_)
 ·(try simp only [aE] at hC13)
  have hkl:k < i:=by omega
  have ht:=zL T hC8 hs hkl
  have hr1:=oQ T hkl
  have hr2:(k + 1) * i≤i * i:=Nat.mul_le_mul_right _ hkl
  have hr3:k * i≤(k + 1) * i:=Nat.mul_le_mul_right _ (by omega)
  have hr4:(k:Int) * (i:Int)=((k * i:Nat):Int):=(Int.natCast_mul k i).symm
  have hr5:((k:Int) + 1) * (i:Int)=(((k + 1) * i:Nat):Int):=by rw [Int.natCast_mul]; rfl
  refine qh (qa (qm (ql (qm ?_))))
  refine ab fun K hK=>aa ae ?_
  simp only [an,fl,gp,ak,simprocAttr]
  refine af trivial (hK _ ?_)<;>clear hK K
  refine qa (qm ?_)
  refine ab fun K hK=>aa ae ?_
  simp only [an,fl,gp,ak,simprocAttr,qp,pL,pP]
  refine ao ?_ (au (xb (row m i k) (eI m i) (by omega)) rfl rfl rfl (by simp only [ay,Nat.reduceLT]) (by repeat (first|exact trivial|constructor)) (aa ae ?_))
  ·rw [hr4,hr5]; simp only [ah]; omega
  simp only [an,fl,gp,ak,simprocAttr,qp,pL,pP]
  refine af ?_ (hK _ ?_)<;>clear hK K
  ·first|exact trivial|omega|(simp only [ah] at *; omega)|(simp [ah] at *; omega)|simp_all
  refine qa ?_
  refine aq rfl (fun hC14=>?_) (fun hC14=>?_)
  ·(try simp only [aE] at hC14)
   refine qm ?_
   refine ab fun K hK=>aa ae ?_
   simp only [an,fl,gp,ak,simprocAttr]
   refine ao trivial (au (eG 4 k) rfl rfl rfl (by simp only [ay,Nat.reduceLT]) (by repeat (first|exact trivial|constructor)) (aa ae ?_))
   simp only [an,fl,gp,ak,simprocAttr]
   refine af ?_ (hK _ ?_)<;>clear hK K
   ·first|exact trivial|omega|(simp only [ah] at *; omega)|(simp [ah] at *; omega)|simp_all
   refine qa (qk (qe (qb (qb (qe (qb ?_))))))
   simp only [Tryd.results19,bT,an,fl,gp,ak,simprocAttr]
   all_goals (rw [iR T,EG hC8 hs hkl (Classical.not_not.1 fun h=>hC14 (ht.2 h)) hk2]; simp)
  (try simp only [aE] at hC14)
  refine qh (qd (qa ?_))
  refine ab fun K hK=>aa ae ?_
  simp only [an,fl,gp,ak,simprocAttr]
  refine af ?_ (hK _ ?_)<;>clear hK K
  ·first|exact trivial|omega|(simp only [ah] at *; omega)|(simp [ah] at *; omega)|simp_all
  refine qa ?_
  refine ⟨k + 1,[0,1],⟨by omega,fun j hj=>?_⟩,by omega,?_⟩
  ·by_cases hj:j=k
   ·subst hj; exact ht.1 hC14
   exact hk2 j (by omega)
  simp only [leq,bx,an,fl,gp,ak,simprocAttr]<;>first|trivial|omega
 (try simp only [aE] at hC13)
 refine qj (qc (qc (qf (qa (qm ?_)))))
 refine ab fun K hK=>aa ae ?_
 simp only [an,fl,gp,ak,simprocAttr]
 refine af ?_ (hK _ ?_)<;>clear hK K
 ·first|exact trivial|omega|(simp only [ah] at *; omega)|(simp [ah] at *; omega)|simp_all
 refine qa (qk ?_)
 simp only [Tryd.results19,bT,an,fl,gp,ak,simprocAttr]
 all_goals (rw [iR T,BK hC8 hs (fun j hj=>hk2 j (by omega))]; simp)
theorem ff {n e:Nat} {m:List Int} (h:GT n m n e):ct Tryd.prog 22 [gp n m] (.int .i64 (e:Nat)):=by
 have G:=h.2.2
 have T:=h.2.1
 have hb:=T.big
 have hel:=G.el
 refine aV ae Tryd.func22 rfl (by kernel_rfl) (by rw [Tryd.ntmps22]; exact Nat.le_add_left 1 _) ?_; rw [Tryd.ntmps22]
 refine qm ?_
 refine ab fun K hK=>aa ae ?_
 simp only [an,fl,gp,ak,simprocAttr]
 refine af ?_ (hK _ ?_)<;>clear hK K
 ·first|exact trivial|omega|(simp only [ah] at *; omega)|(simp [ah] at *; omega)|simp_all
 refine qa (qm (qm ?_))
 refine ab fun K hK=>aa ae ?_
 simp only [an,fl,gp,ak,simprocAttr]
 refine af ?_ (hK _ ?_)<;>clear hK K
 ·first|exact trivial|omega|(simp only [ah] at *; omega)|(simp [ah] at *; omega)|simp_all
 refine qa (ql ?_)
 refine aD (ι:=Nat) (fun i=>⟨17,[(1,.ptr 0 0),(5,.p (.int .i64 n)),(6,.p (.int .i64 i))],[.own [.p (.int .i64 n),.p (.list (il m))]]⟩) (fun i=>i≤e) (fun i=>n - i) 0 (Nat.zero_le _) [0] (by simp only [leq,bx,an,fl,gp,ak,simprocAttr]<;>trivial) fun i hi=>?_
 refine qm ?_
 refine ab fun K hK=>aa ae ?_
 simp only [an,fl,gp,ak,simprocAttr]
 refine af trivial (hK _ ?_)<;>clear hK K
 refine qa (qm ?_)
 refine aq rfl (fun hC1=>?_) (fun hC1=>?_)
 ·(try simp only [aE] at hC1)
  refine qh (qa (qm (ql (qm ?_))))
  refine ab fun K hK=>aa ae ?_
  simp only [an,fl,gp,ak,simprocAttr]
  refine af trivial (hK _ ?_)<;>clear hK K
  refine qa (qm ?_)
  refine ab fun K hK=>aa ae ?_
  simp only [an,fl,gp,ak,simprocAttr]
  refine ao trivial (au (lG T (show i < n by omega) (show i < n by omega)) rfl rfl rfl (by simp only [ay,Nat.reduceLT]) (by repeat (first|exact trivial|constructor)) (aa ae ?_))
  simp only [an,fl,gp,ak,simprocAttr]
  refine af ?_ (hK _ ?_)<;>clear hK K
  ·first|exact trivial|omega|(simp only [ah] at *; omega)|(simp [ah] at *; omega)|simp_all
  refine qa ?_
  refine aq rfl (fun hC2=>?_) (fun hC2=>?_)
  ·(try simp only [aE] at hC2)
   have hie:i=e:=(G.idem (by omega)).1 (by omega)
   refine qm ?_
   refine ab fun K hK=>aa ae ?_
   simp only [an,fl,gp,ak,simprocAttr]
   refine af trivial (hK _ ?_)<;>clear hK K
   refine qa (qk (qe (qb (qb (qe (qb ?_))))))
   simp only [Tryd.results22,bT,an,fl,gp,ak,simprocAttr]
   all_goals (rw [hie])
  (try simp only [aE] at hC2)
  have hie:i ≠ e:=fun h=>hC2 (by rw [(G.idem (show i < n by omega)).2 h])
  refine qh (qd (qa ?_))
  refine ab fun K hK=>aa ae ?_
  simp only [an,fl,gp,ak,simprocAttr]
  refine af ?_ (hK _ ?_)<;>clear hK K
  ·first|exact trivial|omega|(simp only [ah] at *; omega)|(simp [ah] at *; omega)|simp_all
  refine qa ?_
  refine ⟨i + 1,[0],by omega,by omega,?_⟩
  simp only [leq,bx,an,fl,gp,ak,simprocAttr]<;>first|trivial|omega
 (try simp only [aE] at hC1)
 omega
theorem Gj {n e:Nat} {m:List Int} (h:GT n m n e) {a:Nat} (ha:a < n):ix (row m n a) (e:Nat)=(iv n (op m n) e a:Nat):=by
 have G:=h.2.2
 have T:=h.2.1
 obtain ⟨i1,i2,i3,i4⟩:=G.mi ha
 unfold ix
 rw [dG (a:=iv n (op m n) e a) (by rw [oQ T ha]; exact i1) (decide_eq_true (by rw [oP T ha i1,i2])) fun j hj=>decide_eq_false fun hj2=>?_]
 rw [oP T ha (by omega)] at hj2
 have:=i4 j (by omega) (.inl (by omega))
 omega
theorem Er {n e:Nat} {m:List Int} (h:GT n m n e) {a:Nat} (ha:a < n):ct Tryd.prog 23 [gp n m,.int .i64 a] (.int .i64 (iv n (op m n) e a:Nat)):=by
 have G:=h.2.2
 have T:=h.2.1
 have hb:=T.big
 have hr:=Gj h ha
 have hr1:=oQ T ha
 have hl:=T.len
 have Hz:=uW hb
 have hr2:(a + 1) * n≤n * n:=Nat.mul_le_mul_right _ ha
 have hr3:a * n≤(a + 1) * n:=Nat.mul_le_mul_right _ (by omega)
 have hr4:(a:Int) * (n:Int)=((a * n:Nat):Int):=(Int.natCast_mul a n).symm
 have hr5:((a:Int) + 1) * (n:Int)=(((a + 1) * n:Nat):Int):=by rw [Int.natCast_mul]; rfl
 refine aV ae Tryd.func23 rfl (by kernel_rfl) (by rw [Tryd.ntmps23]; exact Nat.le_add_left 2 _) ?_; rw [Tryd.ntmps23]
 refine qm ?_
 refine ab fun K hK=>aa ae ?_
 simp only [an,fl,gp,ak,simprocAttr]
 refine af ?_ (hK _ ?_)<;>clear hK K
 ·first|exact trivial|omega|(simp only [ah] at *; omega)|(simp [ah] at *; omega)|simp_all
 refine qa (qm ?_)
 refine aO mixed (by kernel_rfl) fun K hK=>aa ae ?_
 simp only [an,fl,gp,ak,simprocAttr,qp,pL,pP]
 refine ao ?_ (au (ff h) rfl rfl rfl (by simp only [ay,Nat.reduceLT]) (by repeat (first|exact trivial|constructor)) (aa ae ?_))
 ·rw [hr4,hr5]; simp only [ah]; omega
 simp only [an,fl,gp,ak,simprocAttr,qp,pL,pP]
 refine ao trivial (au (yA (row m n a) (e:Nat) (by omega)) rfl rfl rfl (by simp only [ay,Nat.reduceLT]) (by repeat (first|exact trivial|constructor)) (aa ae ?_))
 simp only [an,fl,gp,ak,simprocAttr,qp,pL,pP]
 refine af ?_ (hK _ ?_)<;>clear hK K
 ·first|exact trivial|omega|(simp only [ah] at *; omega)|(simp [ah] at *; omega)|simp_all
 refine qa (qk ?_)
 simp only [Tryd.results23,bT,an,fl,gp,ak,simprocAttr]
 all_goals (rw [hr])
theorem pE (z:Int):IntKind.u64.wrap z=z % 18446744073709551616:=rfl
theorem w5 {a:Nat} (h:a < 2 ^ 64):IntKind.u64.wrap (a:Int)=(a:Int):=by
 rw [pE]; omega
theorem kq {a:Nat} (h:a < 2 ^ 64):(BitVec.ofInt 64 (a:Int)).toNat=a:=by
 rw [BitVec.toNat_ofInt]; omega
theorem bv_and {a b:Nat} (ha:a < 2 ^ 64) (hb:b < 2 ^ 64):nT (fun _ x y=>x &&& y) .u64 (a:Int) (b:Int) = .int .u64 ((a &&& b:Nat):Int):=by
 show PV.int .u64 (IntKind.u64.wrap ((BitVec.ofInt 64 (a:Int) &&& BitVec.ofInt 64 (b:Int)).toNat:Int))=_
 rw [BitVec.toNat_and,kq ha,kq hb,w5 (Nat.and_lt_two_pow a hb)]
theorem EL {a b:Nat} (ha:a < 2 ^ 64) (hb:b < 2 ^ 64):nT (fun _ x y=>x ||| y) .u64 (a:Int) (b:Int) = .int .u64 ((a ||| b:Nat):Int):=by
 show PV.int .u64 (IntKind.u64.wrap ((BitVec.ofInt 64 (a:Int) ||| BitVec.ofInt 64 (b:Int)).toNat:Int))=_
 rw [BitVec.toNat_or,kq ha,kq hb,w5 (Nat.or_lt_two_pow ha hb)]
theorem v8:IntKind.u64.bits=64:=rfl
theorem ss {b:Nat} (hb:b < 64):IntKind.u64.wrap (1 * 2 ^ (min b IntKind.u64.bits))=((2 ^ b:Nat):Int):=by
 rw [v8,Nat.min_eq_left (by omega),Int.one_mul,show (2:Int) ^ b=((2 ^ b:Nat):Int) by simp,w5 (Nat.pow_lt_pow_right (by omega) hb)]
theorem Il {a b:Nat} (hb:b < 64):(a:Int).fdiv (2 ^ (min b IntKind.u64.bits))=((a / 2 ^ b:Nat):Int):=by
 rw [v8,Nat.min_eq_left (by omega),show (2:Int) ^ b=((2 ^ b:Nat):Int) by simp,Int.fdiv_eq_ediv_of_nonneg _ (Int.natCast_nonneg _),← Int.natCast_ediv]
theorem DQ {a:Nat} (ha:a < 2 ^ 64):nT (fun _ x y=>x &&& y) .u64 (a:Int) 1 = .int .u64 ((a % 2:Nat):Int):=by
 have:=bv_and ha (show 1 < 2 ^ 64 by omega)
 rwa [Nat.and_one_is_mod] at this
def tz (s:Nat):Nat:=(cE s.testBit 64).getD 64
theorem Af {s i:Nat} (hs:s < 2 ^ 64) (h:s.testBit i=true):i < 64:=by
 rcases Nat.lt_or_ge i 64 with h1 | h1
 ·exact h1
 have:=Nat.testBit_lt_two_pow (Nat.lt_of_lt_of_le hs (Nat.pow_le_pow_right (by omega) h1))
 rw [h] at this; cases this
theorem kK {s:Nat} (hs:s < 2 ^ 64) (h0:s ≠ 0):tz s < 64∧s.testBit (tz s)=true∧∀ j,j < tz s→s.testBit j=false:=by
 cases h:cE s.testBit 64 with
 | none =>
  obtain ⟨i,hi⟩:=Nat.exists_testBit_of_ne_zero h0
  have:=df h i (Af hs hi)
  rw [hi] at this; cases this
 | some a =>
  have e:tz s=a:=by unfold tz; rw [h]; rfl
  rw [e]
  exact gl h
theorem BM {s:Nat} (hs:s < 2 ^ 64) (h0:s ≠ 0):s=2 ^ (tz s + 1) * (s / 2 ^ (tz s + 1)) + 2 ^ tz s:=by
 obtain ⟨h1,h2,h3⟩:=kK hs h0
 have e1:s % 2 ^ (tz s + 1)=2 ^ tz s:=by
  refine Nat.eq_of_testBit_eq fun i=>?_
  rw [Nat.testBit_mod_two_pow,Nat.testBit_two_pow]
  rcases Nat.lt_trichotomy i (tz s) with h | h | h
  ·rw [h3 i h]; simp; omega
  ·subst h; rw [h2]; simp
  have a1:decide (i < tz s + 1)=false:=by simp; omega
  have a2:decide (tz s=i)=false:=by simp; omega
  rw [a1,a2]; rfl
 have:=Nat.div_add_mod s (2 ^ (tz s + 1))
 omega
theorem vw {s:Nat} (hs:s < 2 ^ 64) (h0:s ≠ 0) (i:Nat):(s - 1).testBit i=if i < tz s then true else if i=tz s then false else s.testBit i:=by
 have e:=BM hs h0
 have hp:0 < 2 ^ tz s:=Nat.two_pow_pos _
 have e1:s - 1=2 ^ (tz s + 1) * (s / 2 ^ (tz s + 1)) + (2 ^ tz s - 1):=by omega
 have hlt:2 ^ tz s < 2 ^ (tz s + 1):=Nat.pow_lt_pow_right (by omega) (by omega)
 have b1:s.testBit i=(2 ^ (tz s + 1) * (s / 2 ^ (tz s + 1)) + 2 ^ tz s).testBit i:=by rw [← e]
 rw [e1,Nat.testBit_two_pow_mul_add _ (by omega),b1,Nat.testBit_two_pow_mul_add _ hlt,Nat.testBit_two_pow_sub_one]
 rcases Nat.lt_trichotomy i (tz s) with h | h | h
 ·rw [if_pos (by omega),if_pos h]; simpa using h
 ·rw [if_pos (by omega),if_neg (by omega),if_pos h]; simp; omega
 rw [if_neg (by omega),if_neg (by omega),if_neg (by omega),if_neg (by omega)]
theorem En {s:Nat} (hs:s < 2 ^ 64) (h0:s ≠ 0):s &&& (2 ^ 64 - s)=2 ^ tz s:=by
 obtain ⟨h1,h2,h3⟩:=kK hs h0
 refine Nat.eq_of_testBit_eq fun i=>?_
 have e:2 ^ 64 - s=2 ^ 64 - ((s - 1) + 1):=by omega
 rw [Nat.testBit_and,e,Nat.testBit_two_pow_sub_succ (by omega),vw hs h0,Nat.testBit_two_pow]
 rcases Nat.lt_trichotomy i (tz s) with h | h | h
 ·rw [h3 i h]; simp; omega
 ·subst h; rw [h2]; simp; omega
 rw [if_neg (by omega),if_neg (by omega)]
 cases s.testBit i<;>simp<;>omega
def cut (s:Nat):Nat:=s &&& (s - 1)
theorem mA {s:Nat} (hs:s < 2 ^ 64) (h0:s ≠ 0) (i:Nat):(cut s).testBit i=(s.testBit i && !decide (i=tz s)):=by
 obtain ⟨h1,h2,h3⟩:=kK hs h0
 unfold cut
 rw [Nat.testBit_and,vw hs h0]
 rcases Nat.lt_trichotomy i (tz s) with h | h | h
 ·rw [h3 i h]; simp
 ·rw [if_neg (by omega),if_pos h]; simp [h]
 rw [if_neg (by omega),if_neg (by omega)]
 have:decide (i=tz s)=false:=by simp; omega
 rw [this]; simp
theorem mT {s:Nat} (h0:s ≠ 0):cut s < s:=by
 have:cut s≤s - 1:=Nat.and_le_right
 omega
def kW (n:Nat) (p:Nat→Bool):List Nat:=(List.range n).filter p
def ck (n:Nat) (p:Nat→Bool):List Int:=(kW n p).map (fun (a:Nat)=>(a:Int))
theorem fS (n:Nat) (p:Nat→Bool):(ck n p).length=(kW n p).length:=by simp [ck]
theorem rC {n:Nat} {p q:Nat→Bool} (h:∀ a,a < n→p a=q a):kW n p=kW n q:=List.filter_congr fun a ha=>h a (List.mem_range.1 ha)
theorem ng {n:Nat} {p q:Nat→Bool} (h:∀ a,a < n→p a=q a):ck n p=ck n q:=by unfold ck; rw [rC h]
theorem eN (n:Nat) (p:Nat→Bool):ck (n + 1) p=ck n p++if p n=true then [(n:Int)] else []:=by
 unfold ck kW
 rw [List.range_succ,List.filter_append,List.map_append]
 congr 1
 cases h:p n<;>simp [h]
theorem Dh {n m : Nat} {p : Nat → Bool} (h : n ≤ m) (hp : ∀ a, n ≤ a → a < m → p a = false) : ck m p = ck n p := by
  induction m with
  | zero => have : n = 0 := by omega
            subst this; rfl
  | succ m ih =>
    by_cases e : n = m + 1
    · subst e; rfl
    · rw [eN, hp m (by omega) (by omega), ih (by omega) fun a h1 h2 => hp a h1 (by omega)]; simp
theorem yc {n:Nat} {p:Nat→Bool} {a:Nat} : a∈kW n p↔a < n∧p a=true:=by simp [kW]
theorem p9 (n:Nat) (p:Nat→Bool):(ck n p).length≤n:=by
 rw [fS]
 have:=List.length_filter_le p (List.range n)
 rwa [List.length_range] at this
def qv (s:Nat):List Int:=ck 64 s.testBit
theorem zW:qv 0=[]:=by
 unfold qv ck kW
 simp
theorem zq {n k:Nat} {p:Nat→Bool} (hk:k < n) (h1:p k=true) (h2:∀ j,j < k→p j=false):kW n p=k :: kW n (fun i=>p i && !decide (i=k)):=by
 unfold kW
 have e:n=k + ((n - k - 1) + 1):=by omega
 rw [e,List.range_add,List.filter_append,List.filter_append]
 have z:∀ q:Nat→Bool,(∀ j,j < k→q j=false)→(List.range k).filter q=[]:=by
  intro q hq
  rw [List.filter_eq_nil_iff]
  intro a ha
  rw [hq a (List.mem_range.1 ha)]; simp
 rw [z p h2,z _ (fun j hj=>by rw [h2 j hj]; rfl),List.nil_append,List.nil_append,List.range_succ_eq_map,List.map_cons,List.filter_cons,List.filter_cons]
 rw [if_pos (by simpa using h1),if_neg (by simp)]
 simp only [Nat.add_zero,List.cons.injEq,true_and]
 refine List.filter_congr fun a ha=>?_
 simp only [List.map_map,List.mem_map,List.mem_range,Function.comp] at ha
 obtain ⟨j,_,rfl⟩:=ha
 have:decide (k + (j + 1)=k)=false:=by simp
 simp [this]
theorem A6 {s:Nat} (hs:s < 2 ^ 64) (h0:s ≠ 0):qv s=(tz s:Int) :: qv (cut s):=by
 obtain ⟨h1,h2,h3⟩:=kK hs h0
 unfold qv ck
 rw [zq h1 h2 h3,List.map_cons,rC fun a _=>(mA hs h0 a).symm]
theorem CE (s:Nat):(qv s).length≤64:=p9 _ _
theorem HI {s n:Nat} (hn:n≤64) (hs:s < 2 ^ n):qv s=ck n s.testBit:=by
 unfold qv
 refine Dh hn fun a h1 _=>Nat.testBit_lt_two_pow (Nat.lt_of_lt_of_le hs (Nat.pow_le_pow_right (by omega) h1))
theorem HW (s a:Nat) (hs:s < 2 ^ 64) (ha:a < 64):ct Tryd.prog 49 [.int .u64 s,.int .i64 a] (.bool (s.testBit a)):=by
 have h1:s / 2 ^ a < 2 ^ 64:=Nat.lt_of_le_of_lt (Nat.div_le_self _ _) hs
 refine aV ae Tryd.func49 rfl (by kernel_rfl) (by rw [Tryd.ntmps49]; exact Nat.le_add_left 2 _) ?_; rw [Tryd.ntmps49]
 refine qm ?_
 refine ab fun K hK=>aa ae ?_
 simp only [an,fl,gp,ak,simprocAttr]
 refine af trivial (hK _ ?_)<;>clear hK K
 refine qa (qm ?_)
 refine ab fun K hK=>aa ae ?_
 simp only [an,fl,gp,ak,simprocAttr,Il ha,DQ h1]
 refine af ?_ (hK _ ?_)<;>clear hK K
 ·first|exact trivial|omega|(simp only [ah] at *; omega)|(simp [ah] at *; omega)|simp_all
 refine qa (qk ?_)
 simp only [Tryd.results49,bT,an,fl,gp,ak,simprocAttr]
 all_goals (rw [Nat.testBit_eq_decide_div_mod_eq]; exact decide_eq_decide.2 (by omega))
theorem It:IB 0 = .p (.ptr jn):=rfl 
theorem zz:jn.length=64:=rfl 
def HV (k:Nat):Nat:=2 ^ k * 285870213051353865 % 18446744073709551616 / 2 ^ 58
theorem Gq (k:Nat):(IntKind.u64.wrap (((2 ^ k:Nat):Int) * 285870213051353865)).fdiv (2 ^ min 58 IntKind.u64.bits)=((HV k:Nat):Int):=by
 rw [pE,v8,Int.fdiv_eq_ediv_of_nonneg _ (by decide)]
 show (((2 ^ k:Nat):Int) * ((285870213051353865:Nat):Int)) % ((18446744073709551616:Nat):Int) / (((2 ^ 58:Nat)):Int)=_
 rw [← Int.natCast_mul,← Int.natCast_emod,← Int.natCast_ediv]
 rfl
def Fh (k:Nat):PV→Bool
 | .int .u8 i=>decide (i=(k:Int))
 | _=>false
theorem Cw {k:Nat} {p:PV} (h:Fh k p=true):p = .int .u8 (k:Nat):=by
 unfold Fh at h
 split at h
 ·rw [of_decide_eq_true h]
 cases h
theorem C2:((List.range 64).all fun k=>Fh k ((jn.drop (HV k * 1)).headD default))=true:=by decide +kernel 
theorem Gu {k:Nat} (hk:k < 64):(jn.drop (HV k * 1)).headD default = .int .u8 (k:Nat):=
 Cw (List.all_eq_true.1 C2 k (List.mem_range.2 hk)) 
theorem Hs (k:Nat):HV k < 64:=by unfold HV; omega
theorem C6 {k:Nat} (hk:k < 64):IntKind.i64.wrap (k:Int)=(k:Int):=by
 show (if _ then _ else _)=_
 have h1:(k:Int) % (2 ^ IntKind.i64.bits:Int)=(k:Int):=by
  show (k:Int) % 18446744073709551616=_
  omega
 rw [h1,if_neg]
 show ¬ (_ && decide ((k:Int) ≥ 9223372036854775808))=true
 simp; omega
theorem Iv (s:Nat) (hs:s < 2 ^ 64) (h0:s ≠ 0):ct Tryd.prog 48 [.int .u64 s] (.int .i64 (tz s:Nat)):=by
 obtain ⟨h1,h2,h3⟩:=kK hs h0
 have hneg:IntKind.u64.wrap (-(s:Int))=((2 ^ 64 - s:Nat):Int):=by
  rw [pE]; omega
 have hd:=Hs (tz s)
 refine aV ae Tryd.func48 rfl (by kernel_rfl) (by rw [Tryd.ntmps48]; exact Nat.le_add_left 1 _) ?_; rw [Tryd.ntmps48]
 refine qm ?_
 refine ab fun K hK=>aa ae ?_
 simp only [an,fl,gp,ak,simprocAttr]
 refine af trivial (hK _ ?_)<;>clear hK K
 refine qa (qm (qm ?_))
 refine ab fun K hK=>aa ae ?_
 simp only [an,fl,gp,ak,simprocAttr]
 refine af trivial (hK _ ?_)<;>clear hK K
 refine qa ?_
 refine aq rfl (fun hC1=>?_) (fun hC1=>?_)
 ·(try simp only [aE] at hC1)
  omega
 (try simp only [aE] at hC1)
 refine qh (qa (qm ?_))
 refine ab fun K hK=>aa ae ?_
 simp only [an,fl,gp,ak,simprocAttr,hneg,bv_and hs (show 2 ^ 64 - s < 2 ^ 64 by omega),En hs h0,It,Gq,Gu h1,C6 h1,zz,List.length_drop]
 refine af ?_ (hK _ ?_)<;>clear hK K
 ·first|exact trivial|omega|(simp only [ah] at *; omega)|(simp [ah] at *; omega)|simp_all
 refine qa (qk ?_)
 simp only [Tryd.results48,bT,an,fl,gp,ak,simprocAttr]
 all_goals (rfl)
theorem CY {P:Program} {f:FuncId} {args l:List PV} (h:wz P f args (.sl 0 0 l.length) [.own (bq l)]) (hone:l.all PV.one=true):ct P f args (.list l):=by
 refine ⟨h.1,fun okA w vals h1 h2 h3=>(h.2 okA w vals h1 h2 h3).mono fun e w' ⟨v,m',he,hbl,ho⟩=>⟨v,he,hbl,?_⟩⟩
 cases ho.val with
 | sl _ _ _ _ hk hs =>
  rcases hs with ⟨h0,ad,rfl⟩ | ⟨lc,cap,hm,rfl,hc1,hc2⟩
  ·have:l=[]:=List.eq_nil_of_length_eq_zero h0
   subst this
   exact .list0 _ _ fun _=>rfl
  rcases ho.blk 0 (bq l) rfl with ⟨hn,_⟩ | ⟨l',cur,e',hm2,hB,hh,hs1,hs3,hs2,hcells⟩
  ·have:l=[]:=List.map_eq_nil_iff.1 hn
   subst this
   exact .list0 _ _ fun h=>by cases h
  rw [hm] at hm2; cases hm2
  rw [aJ] at hs2
  refine kx rfl hone ⟨.inr hB,(Array.getElem?_eq_some_iff.1 hh).1⟩ hc1 (fun j=>cur.getD (lc.o + j) undef) (fun j hj=>?_) fun j hj=>?_
  ·have:lc.o + 0 + j=lc.o + j:=by omega
   rw [this]; exact cell_of hh (by omega)
  have:=hcells j (by rw [aJ]; exact hj)
  have e2:(bq l)[j]'(by rw [aJ]; exact hj) = .p l[j]:=by simp [bq]
  rw [e2] at this
  exact this.aN.mono fun b hb=>⟨hb.1,hb.2.1⟩
theorem AQ (s:Nat) (hs:s < 2 ^ 64):wz Tryd.prog 34 [.int .u64 s] (.sl 0 0 (qv s).length) [.own (bq (il (qv s)))]:=by
 refine nc ae Tryd.func34 rfl (by kernel_rfl) (by rw [Tryd.ntmps34]; exact Nat.le_add_left 1 _) ?_; rw [Tryd.ntmps34]
 refine qm ?_
 refine ab fun K hK=>aa ae ?_
 simp only [an,fl,gp,ak,simprocAttr]
 refine af trivial (hK _ ?_)<;>clear hK K
 refine qa (qm ?_)
 refine ab fun K hK=>aa ae ?_
 simp only [an,fl,gp,ak,simprocAttr]
 refine af trivial (hK _ ?_)<;>clear hK K
 refine qa (qm (ql ?_))
 refine ji 3 rfl ?_
 refine aD (ι:=Nat × List Int) (fun p=>⟨16,[(0,.p (.int .u64 p.1)),(3,.sl 0 0 p.2.length)],[.own (ol p.2)]⟩) (fun p=>p.1 < 2 ^ 64∧p.2++qv p.1=qv s) (fun p=>p.1) (s,[]) ⟨hs,rfl⟩ [0] (by simp only [leq,bx,an,fl,gp,ak,simprocAttr]<;>simp [Co]) fun p hp=>?_
 obtain ⟨t,out⟩:=p
 obtain ⟨ht,ho⟩:=hp
 simp only at ht ho
 refine qm (qm ?_)
 refine ab fun K hK=>aa ae ?_
 simp only [an,fl,gp,ak,simprocAttr]
 refine af trivial (hK _ ?_)<;>clear hK K
 refine qa ?_
 refine aq rfl (fun hC1=>?_) (fun hC1=>?_)
 ·(try simp only [aE] at hC1)
  have h0:t ≠ 0:=by omega
  have ht1:t - 1 < 2 ^ 64:=by omega
  have hsub:IntKind.u64.wrap ((t:Int) - 1)=((t - 1:Nat):Int):=by rw [pE]; omega
  have hcut:t &&& (t - 1)=cut t:=rfl
  have hc:=A6 ht h0
  have hlen:out.length + 1≤64:=by
   have h1:=CE s
   rw [← ho,hc] at h1
   simp at h1; omega
  refine qh (qa (qm (ql ?_)))
  refine ab fun K hK=>aa ae ?_
  simp only [an,fl,gp,ak,simprocAttr]
  refine ao trivial (au (Iv t ht h0) rfl rfl rfl (by simp only [ay,Nat.reduceLT]) (by repeat (first|exact trivial|constructor)) (aa ae ?_))
  simp only [an,fl,gp,ak,simprocAttr]
  refine af ?_ (hK _ ?_)<;>clear hK K
  ·first|exact trivial|omega|(simp only [ah] at *; omega)|(simp [ah] at *; omega)|simp_all
  refine qd (qa ?_)
  refine ab fun K hK=>aa ae ?_
  simp only [an,fl,gp,ak,simprocAttr,hsub,bv_and ht ht1,hcut]
  refine af ?_ (hK _ ?_)<;>clear hK K
  ·first|exact trivial|omega|(simp only [ah] at *; omega)|(simp [ah] at *; omega)|simp_all
  refine qa ?_
  refine ⟨(cut t,out++[(tz t:Int)]),[1],⟨?_,?_⟩,mT h0,?_⟩
  ·exact Nat.lt_trans (mT h0) ht
  ·show out++[(tz t:Int)]++qv (cut t)=qv s
   rw [← ho,hc]; simp
  simp only [leq,bx,an,fl,gp,ak,simprocAttr]<;>first|trivial|omega
 (try simp only [aE] at hC1)
 have h0:t=0:=by omega
 rw [h0,zW,List.append_nil] at ho
 refine qj (qc (qc (qf (qa (qm ?_)))))
 refine ab fun K hK=>aa ae ?_
 simp only [an,fl,gp,ak,simprocAttr]
 refine af trivial (hK _ ?_)<;>clear hK K
 refine qa (qk ?_)
 simp only [Tryd.results34,eR,gq,dk,kR,bY,an,fl,gp,ak,simprocAttr]
 all_goals (rw [← ho]; exact ⟨[0],by simp only [leq,bx,an,fl,gp,ak,simprocAttr]<;>simp [ol,bq]⟩)
theorem Gx (s:Nat) (hs:s < 2 ^ 64):ct Tryd.prog 34 [.int .u64 s] (.list (il (qv s))):=by
 have h:=AQ s hs
 rw [← aw] at h
 exact CY h (ij _)
def xQ (l:List Int):Nat:=l.foldl (fun s a=>s ||| 2 ^ a.toNat) 0
theorem Al (l:List Int) (a:Int):xQ (l++[a])=xQ l ||| 2 ^ a.toNat:=by simp [xQ,List.foldl_append]
theorem sg (l:List Int) (i:Nat):(xQ l).testBit i=decide (∃ a∈l,a.toNat=i):=by
 have key:∀ (l:List Int) (s:Nat),(l.foldl (fun s a=>s ||| 2 ^ a.toNat) s).testBit i=(s.testBit i || decide (∃ a∈l,a.toNat=i)):=by
  intro l
  induction l with
  | nil=>intro s; simp
  | cons a r ih =>
   intro s
   rw [List.foldl_cons,ih,Nat.testBit_or,Nat.testBit_two_pow]
   by_cases h:a.toNat=i
   ·simp [h]
   simp [h]
 rw [xQ,key]; simp
theorem xe {l:List Int} {n:Nat} (h:∀ a∈l,a.toNat < n):xQ l < 2 ^ n:=by
 refine Nat.lt_pow_two_of_testBit _ fun i hi=>?_
 rw [sg,decide_eq_false_iff_not]
 rintro ⟨a,ha,rfl⟩
 have:=h a ha; omega
theorem fZ {n:Nat} {p:Nat→Bool} {x:Int} : x∈ck n p↔∃ a,a < n∧p a=true∧x=(a:Int):=by
 unfold ck
 rw [List.mem_map]
 constructor
 ·rintro ⟨a,ha,rfl⟩
  obtain ⟨h1,h2⟩:=yc.1 ha
  exact ⟨a,h1,h2,rfl⟩
 rintro ⟨a,h1,h2,rfl⟩
 exact ⟨a,yc.2 ⟨h1,h2⟩,rfl⟩
theorem xY (n:Nat) (p:Nat→Bool):(ck n p).Pairwise (· < ·):=by
 unfold ck kW
 rw [List.pairwise_map]
 refine (List.Pairwise.filter p List.pairwise_lt_range).imp fun {a b} h=>by omega
def tR (l:List Int) (a:Nat):Bool:=decide ((a:Int)∈l)
def Jf (N:Int) (l:List Int) (i:Nat):Int × Int:=if ¬ IF N l i then (3,(i:Int)) else if 0 < i∧l.getD i 0≤l.getD (i - 1) 0 then (5,(i:Int)) else (0,0)
def lf (N:Int) (l:List Int):Int × Int:=
 if (l.length:Int) > N then (2,0)
 else match cE (fun i=>decide (¬ (Jf N l i).1=0)) l.length with
  | some i=>Jf N l i
  | none=>(0,0)
def sf (N:Int) (m l:List Int):Int × Int:=if ¬ (gf N m).1=0 then gf N m else lf N l
theorem DR (n:Nat) (m:List Int) (F:FuncId) (caps:List PV) (p:Nat→Bool) (hn:n≤1000000) (hF:∀ a,a < n→ct Tryd.prog F (.int .i64 a :: caps) (.bool (p a))):ct Tryd.prog 36 [gp n m,.fn F caps] (.list (il (ck n p))):=by
 refine aV ae Tryd.func36 rfl (by kernel_rfl) (by rw [Tryd.ntmps36]; exact Nat.le_add_left 2 _) ?_; rw [Tryd.ntmps36]
 refine qm ?_
 refine ab fun K hK=>aa ae ?_
 simp only [an,fl,gp,ak,simprocAttr]
 refine af ?_ (hK _ ?_)<;>clear hK K
 ·first|exact trivial|omega|(simp only [ah] at *; omega)|(simp [ah] at *; omega)|simp_all
 refine qa (qm ?_)
 refine ab fun K hK=>aa ae ?_
 simp only [an,fl,gp,ak,simprocAttr]
 refine af trivial (hK _ ?_)<;>clear hK K
 refine qa (qm (qm ?_))
 refine ab fun K hK=>aa ae ?_
 simp only [an,fl,gp,ak,simprocAttr]
 refine af trivial (hK _ ?_)<;>clear hK K
 refine qa (ql ?_)
 refine ji 5 rfl ?_
 refine aD (ι:=Nat) (fun i=>⟨21,[(1,.p (.fn F caps)),(2,.ptr 0 0),(5,.sl 1 0 (ck i p).length),(6,.p (.int .i64 i))],[.own [.p (.int .i64 n),.p (.list (il m))],.own (ol (ck i p))]⟩) (fun i=>i≤n) (fun i=>n - i) 0 (Nat.zero_le _) [0,1] (by simp only [leq,bx,an,fl,gp,ak,simprocAttr]<;>simp [ck,kW,Co]) fun i hi=>?_
 have hl:=p9 i p
 refine qm (qm ?_)
 refine ab fun K hK=>aa ae ?_
 simp only [an,fl,gp,ak,simprocAttr]
 refine af ?_ (hK _ ?_)<;>clear hK K
 ·first|exact trivial|omega|(simp only [ah] at *; omega)|(simp [ah] at *; omega)|simp_all
 refine qa ?_
 refine aq rfl (fun hC1=>?_) (fun hC1=>?_)
 ·(try simp only [aE] at hC1)
  have hlt:i < n:=by omega
  have hs:=eN i p
  refine qh (qa (qm (ql (qm ?_))))
  refine ab fun K hK=>aa ae ?_
  simp only [an,fl,gp,ak,simprocAttr]
  refine ao trivial (au (hF i hlt) rfl rfl rfl (by simp only [ay,Nat.reduceLT]) (by repeat (first|exact trivial|constructor)) (aa ae ?_))
  simp only [an,fl,gp,ak,simprocAttr]
  refine af trivial (hK _ ?_)<;>clear hK K
  refine qa ?_
  refine aq rfl (fun hC2=>?_) (fun hC2=>?_)
  ·(try simp only [aE] at hC2)
   rw [if_pos hC2] at hs
   refine ab fun K hK=>aa ae ?_
   simp only [an,fl,gp,ak,simprocAttr]
   refine af ?_ (hK _ ?_)<;>clear hK K
   ·first|exact trivial|omega|(simp only [ah] at *; omega)|(simp [ah] at *; omega)|simp_all
   refine qd (qa ?_)
   refine ab fun K hK=>aa ae ?_
   simp only [an,fl,gp,ak,simprocAttr]
   refine af ?_ (hK _ ?_)<;>clear hK K
   ·first|exact trivial|omega|(simp only [ah] at *; omega)|(simp [ah] at *; omega)|simp_all
   refine qa ?_
   refine ⟨i + 1,[0,2],by omega,by omega,?_⟩
   rw [hs]
   simp only [leq,bx,an,fl,gp,ak,simprocAttr]<;>first|trivial|omega
  (try simp only [aE] at hC2)
  rw [if_neg (by rw [hC2]; simp)] at hs
  refine qh (qd (qa ?_))
  refine ab fun K hK=>aa ae ?_
  simp only [an,fl,gp,ak,simprocAttr]
  refine af ?_ (hK _ ?_)<;>clear hK K
  ·first|exact trivial|omega|(simp only [ah] at *; omega)|(simp [ah] at *; omega)|simp_all
  refine qa ?_
  refine ⟨i + 1,[0,1],by omega,by omega,?_⟩
  rw [hs,List.append_nil]
  simp only [leq,bx,an,fl,gp,ak,simprocAttr]<;>first|trivial|omega
 (try simp only [aE] at hC1)
 have hin:i=n:=by omega
 subst hin
 refine si 5 1 rfl rfl ?_
 refine qj (qc (qc (qf (qa (qm ?_)))))
 refine ab fun K hK=>aa ae ?_
 simp only [an,fl,gp,ak,simprocAttr]
 refine af trivial (hK _ ?_)<;>clear hK K
 refine qa (qk ?_)
 simp only [Tryd.results36,bT,an,fl,gp,ak,simprocAttr]
 all_goals (rfl)
def bo (n:Nat) (p:Nat→Bool):Nat:=xQ (ck n p)
theorem iu (n:Nat) (p:Nat→Bool) (i:Nat):(bo n p).testBit i=(decide (i < n) && p i):=by
 unfold bo
 rw [sg,Bool.eq_iff_iff,decide_eq_true_eq,Bool.and_eq_true,decide_eq_true_eq]
 constructor
 ·rintro ⟨x,hx,rfl⟩
  obtain ⟨a,h1,h2,rfl⟩:=fZ.1 hx
  exact ⟨h1,h2⟩
 rintro ⟨h1,h2⟩
 exact ⟨(i:Int),fZ.2 ⟨i,h1,h2,rfl⟩,rfl⟩
theorem Ez (n:Nat) (p:Nat→Bool):bo n p < 2 ^ n:=xe fun x hx=>by
 obtain ⟨a,h1,_,rfl⟩:=fZ.1 hx
 exact h1
theorem lZ {n:Nat} (hn:n≤60) (p:Nat→Bool):bo n p < 2 ^ 64:=Nat.lt_of_lt_of_le (Ez n p) (Nat.pow_le_pow_right (by omega) (by omega))
theorem HS {n s:Nat} {p:Nat→Bool} (hs:s < 2 ^ n) (h:∀ i,i < n→s.testBit i=p i):s=bo n p:=by
 refine Nat.eq_of_testBit_eq fun i=>?_
 rw [iu]
 by_cases hi:i < n
 ·rw [h i hi]; simp [hi]
 rw [Nat.testBit_lt_two_pow (Nat.lt_of_lt_of_le hs (Nat.pow_le_pow_right (by omega) (by omega)))]; simp [hi]
theorem mR {n:Nat} {p q:Nat→Bool} (h:∀ a,a < n→p a=q a):bo n p=bo n q:=by unfold bo; rw [ng h]
theorem v7 {n:Nat} {p q:Nat→Bool} (h:bo n p=bo n q) {a:Nat} (ha:a < n):p a=q a:=by
 have h1:=iu n p a
 rw [h,iu] at h1
 simpa [ha] using h1.symm
theorem xi {n:Nat} (hn:n≤60) (p:Nat→Bool):qv (bo n p)=ck n p:=by
 rw [HI (by omega) (Ez n p)]
 exact ng fun a ha=>by rw [iu]; simp [ha]
theorem uq {b:Nat} (hb:b < 64):2 ^ b < 2 ^ 64:=Nat.pow_lt_pow_right (by omega) hb
theorem Cd {n s:Nat} (hn:n≤60) (hs:s < 2 ^ n):s < 2 ^ 64:=Nat.lt_of_lt_of_le hs (Nat.pow_le_pow_right (by omega) (by omega))
theorem sK {n s i:Nat} (hs:s < 2 ^ n) (h:s.testBit i=true):i < n:=by
 rcases Nat.lt_or_ge i n with h1 | h1
 ·exact h1
 rw [Nat.testBit_lt_two_pow (Nat.lt_of_lt_of_le hs (Nat.pow_le_pow_right (by omega) h1))] at h; cases h
theorem wT (pre w:List Int) (a:Int) (d:AV):(ol (pre++a :: w)).getD pre.length d = .p (.int .i64 a):=by
 simp [ol,il,List.getD]
structure pQ (n:Nat) (f:Nat→Nat→Nat) (e s out:Nat) (w:List Int):Prop where
 lt:out < 2 ^ n
 one:out.testBit e=true
 gen:∀ a,out.testBit a=true→dC n f e s.testBit a
 wait:∀ x∈w,∃ a,x=((a:Nat):Int)∧out.testBit a=true
 nd:w.Nodup
theorem jG (s b i:Nat):(s ||| 2 ^ b).testBit i=(s.testBit i || decide (b=i)):=by rw [Nat.testBit_or,Nat.testBit_two_pow]
theorem pQ.len {n e s out:Nat} {f:Nat→Nat→Nat} {w:List Int} (h:pQ n f e s out w):w.length≤n:=by
 have h1:=List.Nodup.length_le_of_subset h.nd (l₂:=ck n fun _=>true) fun x hx=>by
  obtain ⟨a,rfl,ha⟩:=h.wait x hx
  exact fZ.2 ⟨a,sK h.lt ha,rfl,rfl⟩
 exact Nat.le_trans h1 (p9 _ _)
theorem pQ.add {n e s out a z:Nat} {f:Nat→Nat→Nat} {w:List Int} (h:pQ n f e s out w) (ha:out.testBit a=true) (hz:s.testBit z=true) (hzn:z < n) (hn:f a z < n) (hno:out.testBit (f a z)=false) :
  pQ n f e s (out ||| 2 ^ f a z) (w++[((f a z:Nat):Int)]) where
 lt:=Nat.or_lt_two_pow h.lt (Nat.pow_lt_pow_right (by omega) hn)
 one:=by rw [jG,h.one]; rfl
 gen y hy:=by
  rw [jG,Bool.or_eq_true,decide_eq_true_eq] at hy
  rcases hy with hy | rfl
  ·exact h.gen y hy
  exact .step a z (h.gen a ha) hzn hz
 wait x hx:=by
  rcases List.mem_append.1 hx with hx | hx
  ·obtain ⟨y,e1,e2⟩:=h.wait x hx
   exact ⟨y,e1,by rw [jG,e2]; rfl⟩
  exact ⟨_,List.mem_singleton.1 hx,by rw [jG]; simp⟩
 nd:=by
  refine List.nodup_append.2 ⟨h.nd,by simp,fun x hx y hy e=>?_⟩
  rw [List.mem_singleton] at hy
  obtain ⟨y',e1,e2⟩:=h.wait x hx
  have:y' = f a z:=by omega
  rw [this,hno] at e2; cases e2
theorem Fc {n e:Nat} {m:List Int} (h:GT n m n e) (s:Nat) (hs:s < 2 ^ n) (q:Nat→Bool) (hq:∀ a,a < n→(q a=true↔dC n (op m n) e s.testBit a)):ct Tryd.prog 33 [gp n m,.int .u64 s] (.int .u64 (bo n q)):=by
 have G:=h.2.2
 have T:=h.2.1
 have hb:=T.big
 have hel:=G.el
 have hs64:=Cd hb hs
 have hone:=uq (b:=e) (by omega)
 have hbe:∀ a,(2 ^ e).testBit a=true→a=e:=fun a ha=>by rw [Nat.testBit_two_pow] at ha; simp at ha; exact ha.symm
 have hstl:∀ x∈qv (2 ^ e),x=(e:Int):=fun x hx=>by
  obtain ⟨a,_,h2,rfl⟩:=fZ.1 hx
  rw [hbe a h2]
 have hstl2:(e:Int)∈qv (2 ^ e):=fZ.2 ⟨e,by omega,by rw [Nat.testBit_two_pow]; simp,rfl⟩
 refine aV ae Tryd.func33 rfl (by kernel_rfl) (by rw [Tryd.ntmps33]; exact Nat.le_add_left 2 _) ?_; rw [Tryd.ntmps33]
 refine qm ?_
 refine ab fun K hK=>aa ae ?_
 simp only [an,fl,gp,ak,simprocAttr]
 refine af ?_ (hK _ ?_)<;>clear hK K
 ·first|exact trivial|omega|(simp only [ah] at *; omega)|(simp [ah] at *; omega)|simp_all
 refine qa (qm ?_)
 refine ab fun K hK=>aa ae ?_
 simp only [an,fl,gp,ak,simprocAttr]
 refine ao trivial (au (ff h) rfl rfl rfl (by simp only [ay,Nat.reduceLT]) (by repeat (first|exact trivial|constructor)) (aa ae ?_))
 simp only [an,fl,gp,ak,simprocAttr,ss (show e < 64 by omega)]
 refine af ?_ (hK _ ?_)<;>clear hK K
 ·first|exact trivial|omega|(simp only [ah] at *; omega)|(simp [ah] at *; omega)|simp_all
 refine qa (qm ?_)
 refine ab fun K hK=>aa ae ?_
 simp only [an,fl,gp,ak,simprocAttr]
 refine ao trivial (wk (AQ (2 ^ e) hone) rfl rfl (by first|rfl|(simp [HA,bj,bn,bq]; done)|(simp only [HA,List.all_cons,List.all_nil,fG,Bool.and_true]; rfl)) (by simp only [ay,Nat.reduceLT]) (by repeat (first|exact trivial|constructor)) (aa ae ?_))
 simp only [Go.Pv.nO,List.range',aH.aY,iW,aY,bg,an,fl,gp,ak,simprocAttr]
 refine af trivial (hK _ ?_)<;>clear hK K
 refine qa (qm (ql ?_))
 refine aD (ι:=Nat × List Int × List Int) (fun p=>⟨48,[(1,.p (.int .u64 s)),(2,.ptr 0 0),(5,.p (.int .u64 p.1)),(6,.sl 1 p.2.1.length p.2.2.length)],[.own [.p (.int .i64 n),.p (.list (il m))],.own (ol (p.2.1++p.2.2))]⟩) (fun p=>pQ n (op m n) e s p.1 p.2.2∧∀ a,p.1.testBit a=true→((a:Nat):Int) ∉ p.2.2→∀ b,s.testBit b=true→p.1.testBit (op m n a b)=true) (fun p=>2 * (2 ^ 64 - p.1) + p.2.2.length) (2 ^ e,[],qv (2 ^ e)) ⟨⟨Nat.pow_lt_pow_right (by omega) hel,by rw [Nat.testBit_two_pow]; simp,fun a ha=>by rw [hbe a ha]; exact .one,fun x hx=>⟨e,hstl x hx,by rw [Nat.testBit_two_pow]; simp⟩,(xY _ _).imp fun h=>by omega⟩,fun a ha hn=>absurd (by rw [hbe a ha]; exact hstl2) hn⟩ [0,1] (by simp only [leq,bx,an,fl,gp,ak,simprocAttr]<;>first|trivial|simp [ol,bq]) fun p hp=>?_
 obtain ⟨out,pre,w⟩:=p
 obtain ⟨⟨i1,i2,i3,i4,i6⟩,i5⟩:=hp
 simp only at i1 i2 i3 i4 i5
 refine qm (qm ?_)
 refine ab fun K hK=>aa ae ?_
 simp only [an,fl,gp,ak,simprocAttr]
 refine af trivial (hK _ ?_)<;>clear hK K
 refine qa ?_
 refine aq rfl (fun hC1=>?_) (fun hC1=>?_)
 ·(try simp only [aE] at hC1)
  obtain ⟨x,w',rfl⟩:∃ x w',w=x :: w':=by
   cases w with
   | nil=>simp at hC1
   | cons x w'=>exact ⟨x,w',rfl⟩
  obtain ⟨a,rfl,hoa⟩:=i4 x (by simp)
  have hal:=sK i1 hoa
  refine qh (qa (ql (qm ?_)))
  refine ab fun K hK=>aa ae ?_
  simp only [an,fl,gp,ak,simprocAttr,wT,Nat.add_zero]
  refine af ?_ (hK _ ?_)<;>clear hK K
  ·first|exact trivial|omega|(simp only [ah] at *; omega)|(simp [ah] at *; omega)|simp_all
  refine qa (qm ?_)
  refine ab fun K hK=>aa ae ?_
  simp only [an,fl,gp,ak,simprocAttr]
  refine af ?_ (hK _ ?_)<;>clear hK K
  ·first|exact trivial|omega|(simp only [ah] at *; omega)|(simp [ah] at *; omega)|simp_all
  refine qa (qm ?_)
  refine ab fun K hK=>aa ae ?_
  simp only [an,fl,gp,ak,simprocAttr]
  refine af trivial (hK _ ?_)<;>clear hK K
  refine qa (ql ?_)
  refine aD (ι:=Nat × Nat × List Int × List Int) (fun p=>⟨48,[(1,.p (.int .u64 s)),(2,.ptr 0 0),(5,.p (.int .u64 p.2.1)),(6,.sl 1 p.2.2.1.length p.2.2.2.length),(7,.p (.int .i64 a)),(8,.p (.int .u64 p.1))],[.own [.p (.int .i64 n),.p (.list (il m))],.own (ol (p.2.2.1++p.2.2.2))]⟩) (fun p=>pQ n (op m n) e s p.2.1 p.2.2.2∧(∀ i,p.1.testBit i=true→s.testBit i=true)∧p.1 < 2 ^ 64∧(∀ y,p.2.1.testBit y=true→((y:Nat):Int) ∉ p.2.2.2→y ≠ a→∀ b,s.testBit b=true→p.2.1.testBit (op m n y b)=true)∧(∀ b,s.testBit b=true→p.1.testBit b=false→p.2.1.testBit (op m n a b)=true)∧p.2.1.testBit a=true∧2 * (2 ^ 64 - p.2.1) + p.2.2.2.length≤2 * (2 ^ 64 - out) + w'.length) (fun p=>p.1) (s,out,pre++[(a:Int)],w') ⟨⟨i1,i2,i3,fun x hx=>i4 x (by simp [hx]),(List.nodup_cons.1 i6).2⟩,fun i hi=>hi,hs64,fun y hy hn hya b hbs=>i5 y hy (by simp only [List.mem_cons,not_or]; exact ⟨by omega,hn⟩) b hbs,fun b hb1 hb2=>absurd (hb1.symm.trans hb2) (by simp),hoa,Nat.le_refl _⟩ [0,1] (by simp only [leq,bx,an,fl,gp,ak,simprocAttr]<;>first|trivial|(simp; done)|(simp; rw [List.take_of_length_le (by simp; omega)])) fun p hp=>?_
  obtain ⟨t,out2,pre2,w2⟩:=p
  obtain ⟨jI,j5,j6,j7,j8,j9,j10⟩:=hp
  simp only at jI j5 j6 j7 j8 j9 j10
  have hw2:=jI.len
  have j1:=jI.lt
  refine qm (qm ?_)
  refine ab fun K hK=>aa ae ?_
  simp only [an,fl,gp,ak,simprocAttr]
  refine af trivial (hK _ ?_)<;>clear hK K
  refine qa ?_
  refine aq rfl (fun hC2=>?_) (fun hC2=>?_)
  ·(try simp only [aE] at hC2)
   have h0:t ≠ 0:=by omega
   obtain ⟨z1,z2,z3⟩:=kK j6 h0
   have hzs:=j5 _ z2
   have hzn:=sK hs hzs
   have hfn:=G.cl a (tz t) hal hzn
   have ht1:t - 1 < 2 ^ 64:=by omega
   have hsub:IntKind.u64.wrap ((t:Int) - 1)=((t - 1:Nat):Int):=by rw [pE]; omega
   have hcut:t &&& (t - 1)=cut t:=rfl
   have ho64:=Cd hb j1
   have hp64:=uq (b:=op m n a (tz t)) (by omega)
   refine qh (qa (qm (ql (qm ?_))))
   refine aO mixed (by kernel_rfl) fun K hK=>aa ae ?_
   simp only [an,fl,gp,ak,simprocAttr]
   refine ao trivial (au (Iv t j6 h0) rfl rfl rfl (by simp only [ay,Nat.reduceLT]) (by repeat (first|exact trivial|constructor)) (aa ae ?_))
   simp only [an,fl,gp,ak,simprocAttr]
   refine ao trivial (au (lG T hal hzn) rfl rfl rfl (by simp only [ay,Nat.reduceLT]) (by repeat (first|exact trivial|constructor)) (aa ae ?_))
   simp only [an,fl,gp,ak,simprocAttr]
   refine af ?_ (hK _ ?_)<;>clear hK K
   ·first|exact trivial|omega|(simp only [ah] at *; omega)|(simp [ah] at *; omega)|simp_all
   refine qa (qm ?_)
   refine ab fun K hK=>aa ae ?_
   simp only [an,fl,gp,ak,simprocAttr]
   refine ao trivial (au (HW out2 (op m n a (tz t)) ho64 (by omega)) rfl rfl rfl (by simp only [ay,Nat.reduceLT]) (by repeat (first|exact trivial|constructor)) (aa ae ?_))
   simp only [an,fl,gp,ak,simprocAttr]
   refine af trivial (hK _ ?_)<;>clear hK K
   refine qa ?_
   refine aq rfl (fun hC3=>?_) (fun hC3=>?_)
   ·(try simp only [aE] at hC3)
    have hno:out2.testBit (op m n a (tz t))=false:=hC3
    have hlt2:out2 < out2 ||| 2 ^ op m n a (tz t):=by
     rcases Nat.lt_or_eq_of_le (Nat.left_le_or (n:=out2) (m:=2 ^ op m n a (tz t))) with h1 | h1
     ·exact h1
     exfalso
     have h2:=jG out2 (op m n a (tz t)) (op m n a (tz t))
     rw [← h1,hno] at h2
     simp at h2
    refine qm ?_
    refine ab fun K hK=>aa ae ?_
    simp only [an,fl,gp,ak,simprocAttr,ss (show op m n a (tz t) < 64 by omega),EL ho64 hp64]
    refine af ?_ (hK _ ?_)<;>clear hK K
    ·first|exact trivial|omega|(simp only [ah] at *; omega)|(simp [ah] at *; omega)|simp_all
    refine qa ?_
    refine ab fun K hK=>aa ae ?_
    simp only [an,fl,gp,ak,simprocAttr]
    refine af ?_ (hK _ ?_)<;>clear hK K
    ·simp only [List.length_append]; omega
    refine qd (qa ?_)
    refine ab fun K hK=>aa ae ?_
    simp only [an,fl,gp,ak,simprocAttr,hsub,bv_and j6 ht1,hcut]
    refine af ?_ (hK _ ?_)<;>clear hK K
    ·first|exact trivial|omega|(simp only [ah] at *; omega)|(simp [ah] at *; omega)|simp_all
    refine qa ?_
    have hI:=jI.add j9 hzs hzn hfn hno
    have hI1:=Cd hb hI.lt
    refine ⟨(cut t,out2 ||| 2 ^ op m n a (tz t),[],w2++[((op m n a (tz t):Nat):Int)]),[0,2],⟨hI,fun i hi=>?_,?_,fun y hy hn hya b hbs=>?_,fun b hb1 hb2=>?_,?_,?_⟩,?_,?_⟩
    ·simp only [mA j6 h0,Bool.and_eq_true] at hi
     exact j5 i hi.1
    ·exact Nat.lt_trans (mT h0) j6
    ·simp only [jG,Bool.or_eq_true,decide_eq_true_eq] at hy ⊢
     simp only [List.mem_append,List.mem_singleton,not_or] at hn
     rcases hy with hy | hy
     ·exact .inl (j7 y hy hn.1 hya b hbs)
     exact absurd (by rw [hy]) hn.2
    ·simp only [mA j6 h0] at hb2
     simp only [jG,Bool.or_eq_true,decide_eq_true_eq]
     by_cases hbz:b=tz t
     ·right; rw [hbz]
     left
     refine j8 b hb1 ?_
     cases htb:t.testBit b with
     | false=>rfl
     | true=>rw [htb] at hb2; simp at hb2; exact absurd hb2 hbz
    ·simp only [jG,j9,Bool.true_or]
    ·simp only [List.length_append,List.length_cons,List.length_nil]
     omega
    ·exact mT h0
    simp only [leq,bx,an,fl,gp,ak,simprocAttr]
    rw [List.drop_left,List.take_length,List.take_of_length_le (by simp)]
   (try simp only [aE] at hC3)
   refine qh (qd (qa ?_))
   refine ab fun K hK=>aa ae ?_
   simp only [an,fl,gp,ak,simprocAttr,hsub,bv_and j6 ht1,hcut]
   refine af ?_ (hK _ ?_)<;>clear hK K
   ·first|exact trivial|omega|(simp only [ah] at *; omega)|(simp [ah] at *; omega)|simp_all
   refine qa ?_
   refine ⟨(cut t,out2,pre2,w2),[0,1],⟨jI,fun i hi=>?_,?_,j7,fun b hb1 hb2=>?_,j9,j10⟩,mT h0,?_⟩
   ·simp only [mA j6 h0,Bool.and_eq_true] at hi
    exact j5 i hi.1
   ·exact Nat.lt_trans (mT h0) j6
   ·simp only [mA j6 h0] at hb2
    by_cases hbz:b=tz t
    ·show out2.testBit (op m n a b)=true
     rw [hbz]; exact hC3
    refine j8 b hb1 ?_
    cases htb:t.testBit b with
    | false=>rfl
    | true=>rw [htb] at hb2; simp at hb2; exact absurd hb2 hbz
   simp only [leq,bx,an,fl,gp,ak,simprocAttr]<;>first|trivial|omega
  (try simp only [aE] at hC2)
  have ht0:t=0:=by omega
  subst ht0
  refine qj (qc (qc (qf (qd (qa ?_)))))
  refine ⟨(out2,pre2,w2),[0,1],⟨jI,fun y hy hn b hbs=>?_⟩,?_,?_⟩
  ·by_cases hya:y=a
   ·rw [hya]; exact j8 b hbs (by simp)
   exact j7 y hy hn hya b hbs
  ·have ho:=Cd hb j1
   have ho2:=Cd hb i1
   simp only [List.length_cons]
   omega
  simp only [leq,bx,an,fl,gp,ak,simprocAttr]<;>first|trivial|omega
 (try simp only [aE] at hC1)
 have hw0:w=[]:=by
  cases w with
  | nil=>rfl
  | cons x r=>simp at hC1
 subst hw0
 have hfin:out=bo n q:=by
  refine HS i1 fun i hi=>?_
  rw [Bool.eq_iff_iff,hq i hi]
  refine ⟨i3 i,fun hg=>?_⟩
  exact dC.least i2 (fun a b _ _ hb hH=>i5 a hH (by simp) b hb) hg
 refine qj (qc (qc (qf (qa (qm ?_)))))
 refine ab fun K hK=>aa ae ?_
 simp only [an,fl,gp,ak,simprocAttr]
 refine af trivial (hK _ ?_)<;>clear hK K
 refine qa (qk ?_)
 simp only [Tryd.results33,bT,an,fl,gp,ak,simprocAttr]
 all_goals (rw [hfin])
theorem n7 {n:Nat} {p:Nat→Bool} {i j:Nat} (hij:i < j) (hj:j < (ck n p).length):(ck n p).getD i 0 < (ck n p).getD j 0:=by
 have:=List.pairwise_iff_getElem.1 (xY n p) i j (by omega) hj hij
 simpa [List.getD,List.getElem?_eq_getElem hj,List.getElem?_eq_getElem (show i < (ck n p).length by omega)] using this
theorem Dd {n:Nat} {p:Nat→Bool} {i:Nat} (hi:i < (ck n p).length):∃ a,a < n∧p a=true∧(ck n p).getD i 0=((a:Nat):Int):=by
 have:(ck n p).getD i 0∈ck n p:=by simp [List.getD,List.getElem?_eq_getElem hi]
 exact fZ.1 this
theorem fe {n:Nat} {p:Nat→Bool} {a:Nat} (ha:a < n):((a:Nat):Int)∈ck n p↔p a=true:=by
 rw [fZ]
 constructor
 ·rintro ⟨b,_,h2,e⟩
  have:a=b:=by omega
  subst this; exact h2
 exact fun h=>⟨a,ha,h,rfl⟩
def bl (n:Nat) (r:Nat→Bool):List PV:=(List.range n).map fun a=>.bool (r a)
theorem fc (n:Nat) (r:Nat→Bool):(bl n r).length=n:=by simp [bl]
theorem Fl {n:Nat} {r:Nat→Bool} {a:Nat} (ha:a < n):(bl n r).getD a default = .bool (r a):=by
 simp [bl,List.getD,List.getElem?_map,List.getElem?_range ha]
theorem Hh (n:Nat) (r:Nat→Bool):(bl n r).all PV.one=true:=by
 simp [bl,PV.one]
theorem fV {n:Nat} {r:Nat→Bool} {a:Nat} (ha:a < n) (d:AV):(bq (bl n r)).getD a d = .p (.bool (r a)):=by
 simp [bq,bl,List.getD,List.getElem?_map,List.getElem?_range ha]
def xD (r:Nat→Bool) (a i:Nat):Bool:=r i || decide (i=a)
theorem th (n:Nat) (r:Nat→Bool) (a:Nat):(bq (bl n r)).set a (.p (.bool true))=bq (bl n (xD r a)):=by
 refine List.ext_getElem (by simp [bq,bl]) fun i h1 h2=>?_
 simp only [bq,bl,List.length_map,List.length_range,List.length_set] at h1 h2
 rw [List.getElem_set]
 by_cases e:a=i
 ·subst e; simp [bq,bl,xD]
 rw [if_neg e]
 have:decide (i=a)=false:=by simp; omega
 simp [bq,bl,xD,this]
theorem Du (n:Nat):List.replicate n (AV.p (.bool false))=bq (bl n fun _=>false):=by
 refine List.ext_getElem (by simp [bq,bl]) fun i h1 h2=>?_
 simp [bq,bl]
theorem vt {n:Nat} {r r' : Nat→Bool} (h:∀ a,a < n→r a=r' a):bl n r=bl n r':=by
 unfold bl
 refine List.map_congr_left fun a ha=>by rw [h a (List.mem_range.1 ha)]
theorem iS (n:Nat) (r:Nat→Bool):(bq (bl n r)).length=n:=by rw [aJ,fc]
theorem Bx {n:Nat} {r r' : Nat→Bool} (h:∀ a,a < n→r a=true→r' a=true) {a:Nat} (ha:a < n) (h1:r a=false) (h2:r' a=true):bo n r < bo n r':=by
 refine Nat.lt_of_le_of_ne (Nat.le_of_testBit fun i hi=>?_) fun he=>?_
 ·rw [iu,Bool.and_eq_true,decide_eq_true_eq] at hi ⊢
  exact ⟨hi.1,h i hi.1 hi.2⟩
 have:=v7 he ha
 rw [h1,h2] at this; cases this
theorem HX (a b:Bool):a=false∨(a=true∧b=false)∨(a=true∧b=true):=by cases a<;>cases b<;>simp
theorem Dx (n a:Nat) (r:Nat→Bool) (ha:a < n) (hn:n≤60):ct Tryd.prog 37 [.int .i64 a,.ptr [.list (bl n r)]] (.bool (r a)):=by
 refine aV ae Tryd.func37 rfl (by kernel_rfl) (by rw [Tryd.ntmps37]; exact Nat.le_add_left 2 _) ?_; rw [Tryd.ntmps37]
 refine qm ?_
 refine ab fun K hK=>aa ae ?_
 simp only [an,fl,gp,ak,simprocAttr]
 refine af trivial (hK _ ?_)<;>clear hK K
 refine qa (qm ?_)
 refine ab fun K hK=>aa ae ?_
 simp only [an,fl,gp,ak,simprocAttr,Fl ha,fc]
 refine af ?_ (hK _ ?_)<;>clear hK K
 ·first|exact trivial|omega|(simp only [ah] at *; omega)|(simp [ah] at *; omega)|simp_all
 refine qa (qk ?_)
 simp only [Tryd.results37,bT,an,fl,gp,ak,simprocAttr]
 all_goals (rfl)
set_option maxHeartbeats 2000000 in
theorem AR {n e:Nat} {m:List Int} (h:GT n m n e) (l:List Int) (hl:l.length≤1000000000000) (hr:∀ x∈l,∃ a,a < n∧x=((a:Nat):Int)) (q:Nat→Bool) (hq:∀ a,a < n→(q a=true↔dC n (op m n) e (tR l) a)):ct Tryd.prog 18 [gp n m,.list (il l)] (.list (il (ck n q))):=by
 have G:=h.2.2
 have T:=h.2.1
 have hb:=T.big
 have hel:=G.el
 refine aV ae Tryd.func18 rfl (by kernel_rfl) (by rw [Tryd.ntmps18]; exact Nat.le_add_left 2 _) ?_; rw [Tryd.ntmps18]
 refine qm ?_
 refine ab fun K hK=>aa ae ?_
 simp only [an,fl,gp,ak,simprocAttr]
 refine af ?_ (hK _ ?_)<;>clear hK K
 ·first|exact trivial|omega|(simp only [ah] at *; omega)|(simp [ah] at *; omega)|simp_all
 refine qa (qm ?_)
 refine ab fun K hK=>aa ae ?_
 simp only [an,fl,gp,ak,simprocAttr,cq.eq_def,Du]
 refine af ?_ (hK _ ?_)<;>clear hK K
 ·omega
 refine qa (qm ?_)
 refine aO mixed (by kernel_rfl) fun K hK=>aa ae ?_
 simp only [an,fl,gp,ak,simprocAttr]
 refine ao trivial (au (FB T) rfl rfl rfl (by simp only [ay,Nat.reduceLT]) (by repeat (first|exact trivial|constructor)) (aa ae ?_))
 simp only [an,fl,gp,ak,simprocAttr,h.eI]
 refine af ?_ (hK _ ?_)<;>clear hK K
 ·rw [fc]; omega
 refine qa (qm (qm ?_))
 rw [th,show xD (fun _=>false) e=fun a=>decide (a=e) || tR (l.take 0) a from funext fun a=>by simp [xD,tR]]
 refine ab fun K hK=>aa ae ?_
 simp only [an,fl,gp,ak,simprocAttr]
 refine af trivial (hK _ ?_)<;>clear hK K
 refine qa (ql ?_)
 refine aD (ι:=Nat) (fun i=>⟨71,[(1,.p (.list (il l))),(2,.ptr 0 0),(5,.ptr 2 0),(6,.p (.int .i64 i))],[.own [.p (.int .i64 n),.p (.list (il m))],.own (bq (bl n fun a=>decide (a=e) || tR (l.take i) a)),.own [.sl 1 0 n]]⟩) (fun i=>i≤l.length) (fun i=>l.length - i) 0 (Nat.zero_le _) [0,1,2] (by simp only [leq,bx,an,fl,gp,ak,simprocAttr]<;>first|trivial|(simp; done)) fun i hi=>?_
 refine qm (qm ?_)
 refine ab fun K hK=>aa ae ?_
 simp only [an,fl,gp,ak,simprocAttr]
 refine af trivial (hK _ ?_)<;>clear hK K
 refine qa ?_
 refine aq rfl (fun hC1=>?_) (fun hC1=>?_)
 ·(try simp only [aE] at hC1)
  have hlt:i < l.length:=by omega
  have hmem:l.getD i 0∈l:=by simp [List.getD,List.getElem?_eq_getElem hlt]
  obtain ⟨x,x1,x2⟩:=hr _ hmem
  refine qh (qa (qm (ql ?_)))
  refine aO mixed (by kernel_rfl) fun K hK=>aa ae ?_
  simp only [an,fl,gp,ak,simprocAttr,aL hlt,x2,iS]
  refine af ?_ (hK _ ?_)<;>clear hK K
  ·rw [fc]; omega
  refine qd (qa ?_)
  rw [th]
  refine ab fun K hK=>aa ae ?_
  simp only [an,fl,gp,ak,simprocAttr]
  refine af ?_ (hK _ ?_)<;>clear hK K
  ·first|exact trivial|omega|(simp only [ah] at *; omega)|(simp [ah] at *; omega)|simp_all
  refine qa ?_
  refine ⟨i + 1,[0,1,2],by omega,by omega,?_⟩
  have hc:bl n (fun a=>decide (a=e) || tR (l.take (i + 1)) a)=bl n (xD (fun a=>decide (a=e) || tR (l.take i) a) x):=vt fun a ha=>by
   rw [List.take_succ_eq_append_getElem hlt]
   have e1:l[i]=(x:Int):=by rw [← x2]; simp [List.getD,List.getElem?_eq_getElem hlt]
   rw [e1]
   unfold xD tR
   rw [Bool.or_assoc]
   congr 1
   rw [← Bool.decide_or]
   refine decide_eq_decide.2 ?_
   rw [List.mem_append,List.mem_singleton]
   constructor
   ·rintro (h | h)
    ·exact .inl h
    exact .inr (by omega)
   rintro (h | h)
   ·exact .inl h
   exact .inr (by omega)
  rw [hc]
  simp only [leq,bx,an,fl,gp,ak,simprocAttr]<;>first|trivial|omega
 (try simp only [aE] at hC1)
 have hin:i=l.length:=by omega
 subst hin
 rw [List.take_length]
 refine qj (qc (qc (qf (qa (qm (qm ?_))))))
 refine ab fun K hK=>aa ae ?_
 simp only [an,fl,gp,ak,simprocAttr]
 refine af trivial (hK _ ?_)<;>clear hK K
 refine qa (ql ?_)
 refine aD (ι:=(Nat→Bool) × Bool) (fun p=>⟨71,[(2,.ptr 0 0),(5,.ptr 2 0),(7,.p (.bool p.2))],[.own [.p (.int .i64 n),.p (.list (il m))],.own (bq (bl n p.1)),.own [.sl 1 0 n]]⟩) (fun p=>p.1 e=true∧(∀ a,a < n→tR l a=true→p.1 a=true)∧(∀ a,a < n→p.1 a=true→dC n (op m n) e (tR l) a)∧(p.2=false→∀ a,a < n→∀ b,b < n→p.1 a=true→p.1 b=true→p.1 (op m n a b)=true)) (fun p=>2 * (2 ^ 64 - bo n p.1) + (if p.2=true then 1 else 0)) (fun a=>decide (a=e) || tR l a,true) ⟨by simp,fun a _ h=>by simp [h],fun a ha h=>by
   simp only [Bool.or_eq_true,decide_eq_true_eq] at h
   rcases h with rfl | h
   ·exact .one
   exact dC.mem G ha h,fun h=>by cases h⟩ [0,1,2] (by simp only [leq,bx,an,fl,gp,ak,simprocAttr]<;>first|trivial|(simp; done)) fun p hp=>?_
 obtain ⟨r,again⟩:=p
 obtain ⟨r1,r2,r3,r4⟩:=hp
 simp only at r1 r2 r3 r4
 refine qm (qm ?_)
 refine ab fun K hK=>aa ae ?_
 simp only [an,fl,gp,ak,simprocAttr]
 refine af trivial (hK _ ?_)<;>clear hK K
 refine qa ?_
 refine aq rfl (fun hC2=>?_) (fun hC2=>?_)
 ·(try simp only [aE] at hC2)
  subst hC2
  refine qh (qa (ql (qm ?_)))
  refine ab fun K hK=>aa ae ?_
  simp only [an,fl,gp,ak,simprocAttr]
  refine af trivial (hK _ ?_)<;>clear hK K
  refine qa (qm ?_)
  refine ab fun K hK=>aa ae ?_
  simp only [an,fl,gp,ak,simprocAttr]
  refine af trivial (hK _ ?_)<;>clear hK K
  refine qa (ql ?_)
  refine aD (ι:=Nat × (Nat→Bool) × Bool) (fun p=>⟨71,[(2,.ptr 0 0),(5,.ptr 2 0),(7,.p (.bool p.2.2)),(8,.p (.int .i64 p.1))],[.own [.p (.int .i64 n),.p (.list (il m))],.own (bq (bl n p.2.1)),.own [.sl 1 0 n]]⟩) (fun p=>p.1≤n∧(∀ a,a < n→r a=true→p.2.1 a=true)∧(∀ a,a < n→p.2.1 a=true→dC n (op m n) e (tR l) a)∧(p.2.2=true→bo n r < bo n p.2.1)∧(p.2.2=false→p.2.1=r∧∀ a,a < p.1→∀ b,b < n→r a=true→r b=true→r (op m n a b)=true)) (fun p=>n - p.1) (0,r,false) ⟨Nat.zero_le _,fun a _ h=>h,r3,fun h=>by (first|cases h|simp at h),fun _=>⟨rfl,fun a ha=>by simp only at ha; omega⟩⟩ [0,1,2] (by simp only [leq,bx,an,fl,gp,ak,simprocAttr]<;>first|trivial|(simp; done)) fun p hp=>?_
  obtain ⟨i,r',ag⟩:=p
  obtain ⟨u1,u2,u3,u4,u5⟩:=hp
  simp only at u1 u2 u3 u4 u5
  refine qm (qm ?_)
  refine ab fun K hK=>aa ae ?_
  simp only [an,fl,gp,ak,simprocAttr]
  refine af ?_ (hK _ ?_)<;>clear hK K
  ·first|exact trivial|omega|(simp only [ah] at *; omega)|(simp [ah] at *; omega)|simp_all
  refine qa ?_
  refine aq rfl (fun hC3=>?_) (fun hC3=>?_)
  ·(try simp only [aE] at hC3)
   have hil:i < n:=by omega
   refine qh (qa (qm (ql (qm ?_))))
   refine ab fun K hK=>aa ae ?_
   simp only [an,fl,gp,ak,simprocAttr]
   refine af trivial (hK _ ?_)<;>clear hK K
   refine qa (ql ?_)
   refine aD (ι:=Nat × (Nat→Bool) × Bool) (fun p=>⟨71,[(2,.ptr 0 0),(5,.ptr 2 0),(7,.p (.bool p.2.2)),(8,.p (.int .i64 i)),(9,.p (.int .i64 p.1))],[.own [.p (.int .i64 n),.p (.list (il m))],.own (bq (bl n p.2.1)),.own [.sl 1 0 n]]⟩) (fun p=>p.1≤n∧(∀ a,a < n→r a=true→p.2.1 a=true)∧(∀ a,a < n→p.2.1 a=true→dC n (op m n) e (tR l) a)∧(p.2.2=true→bo n r < bo n p.2.1)∧(p.2.2=false→p.2.1=r∧(∀ a,a < i→∀ b,b < n→r a=true→r b=true→r (op m n a b)=true)∧∀ b,b < p.1→r i=true→r b=true→r (op m n i b)=true)) (fun p=>n - p.1) (0,r',ag) ⟨Nat.zero_le _,u2,u3,u4,fun h=>⟨(u5 h).1,(u5 h).2,fun b hb=>by simp only at hb; omega⟩⟩ [0,1,2] (by simp only [leq,bx,an,fl,gp,ak,simprocAttr]<;>first|trivial|(simp; done)) fun p hp=>?_
   obtain ⟨j,r'',ag'⟩:=p
   obtain ⟨v1,v2,v3,v4,v5⟩:=hp
   simp only at v1 v2 v3 v4 v5
   refine qm (qm ?_)
   refine ab fun K hK=>aa ae ?_
   simp only [an,fl,gp,ak,simprocAttr]
   refine af ?_ (hK _ ?_)<;>clear hK K
   ·first|exact trivial|omega|(simp only [ah] at *; omega)|(simp [ah] at *; omega)|simp_all
   refine qa ?_
   refine aq rfl (fun hC4=>?_) (fun hC4=>?_)
   ·(try simp only [aE] at hC4)
    have hjl:j < n:=by omega
    have hfl:=G.cl i j hil hjl
    refine qh (qa (qm (ql (qm ?_))))
    rcases HX (r'' i) (r'' j) with hri | ⟨hri,hrj⟩ | ⟨hri,hrj⟩
    ·refine aO mixed (by kernel_rfl) fun K hK=>aa ae ?_
     simp only [an,fl,gp,ak,simprocAttr,fV hil,fc,iS,hri]
     refine af ?_ (hK _ ?_)<;>clear hK K
     ·omega
     refine qa ?_
     refine aq rfl (fun hC5=>?_) (fun hC5=>?_)
     ·cases hC5
     refine qh (qd (qa ?_))
     refine ab fun K hK=>aa ae ?_
     simp only [an,fl,gp,ak,simprocAttr]
     refine af ?_ (hK _ ?_)<;>clear hK K
     ·first|exact trivial|omega|(simp only [ah] at *; omega)|(simp [ah] at *; omega)|simp_all
     refine qa ?_
     refine ⟨(j + 1,r'',ag'),[0,1,2],⟨by simp only; omega,v2,v3,v4,fun h=>?_⟩,by simp only; omega,?_⟩
     ·obtain ⟨x1,x2,x3⟩:=v5 h
      refine ⟨x1,x2,fun b hb' h1 h2=>?_⟩
      by_cases hbj:b=j
      ·rw [← x1,hri] at h1; cases h1
      exact x3 b (by simp only at hb'; omega) h1 h2
     simp only [leq,bx,an,fl,gp,ak,simprocAttr]<;>first|trivial|omega
    ·refine aO mixed (by kernel_rfl) fun K hK=>aa ae ?_
     simp only [an,fl,gp,ak,simprocAttr,fV hil,fV hjl,fc,iS,hri,hrj]
     refine af ?_ (hK _ ?_)<;>clear hK K
     ·omega
     refine qa ?_
     refine aq rfl (fun hC5=>?_) (fun hC5=>?_)
     ·cases hC5
     refine qh (qd (qa ?_))
     refine ab fun K hK=>aa ae ?_
     simp only [an,fl,gp,ak,simprocAttr]
     refine af ?_ (hK _ ?_)<;>clear hK K
     ·first|exact trivial|omega|(simp only [ah] at *; omega)|(simp [ah] at *; omega)|simp_all
     refine qa ?_
     refine ⟨(j + 1,r'',ag'),[0,1,2],⟨by simp only; omega,v2,v3,v4,fun h=>?_⟩,by simp only; omega,?_⟩
     ·obtain ⟨x1,x2,x3⟩:=v5 h
      refine ⟨x1,x2,fun b hb' h1 h2=>?_⟩
      by_cases hbj:b=j
      ·rw [hbj,← x1,hrj] at h2; cases h2
      exact x3 b (by simp only at hb'; omega) h1 h2
     simp only [leq,bx,an,fl,gp,ak,simprocAttr]<;>first|trivial|omega
    refine aO mixed (by kernel_rfl) fun K hK=>aa ae ?_
    simp only [an,fl,gp,ak,simprocAttr,fV hil,fV hjl,fV hfl,fc,iS,hri,hrj]
    refine ao ?_ (au (vV T hil hjl) rfl rfl rfl (by simp only [ay,Nat.reduceLT]) (by repeat (first|exact trivial|constructor)) (aa ae ?_))
    ·omega
    simp only [an,fl,gp,ak,simprocAttr,fV hil,fV hjl,fV hfl,fc,iS,hri,hrj]
    refine af ?_ (hK _ ?_)<;>clear hK K
    ·omega
    refine qa ?_
    refine aq rfl (fun hC5=>?_) (fun hC5=>?_)
    ·(try simp only [aE] at hC5)
     refine qm ?_
     refine aO mixed (by kernel_rfl) fun K hK=>aa ae ?_
     simp only [an,fl,gp,ak,simprocAttr,iS,fc]
     refine ao trivial (au (vV T hil hjl) rfl rfl rfl (by simp only [ay,Nat.reduceLT]) (by repeat (first|exact trivial|constructor)) (aa ae ?_))
     simp only [an,fl,gp,ak,simprocAttr,iS,fc]
     refine af ?_ (hK _ ?_)<;>clear hK K
     ·omega
     refine qa ?_
     rw [th]
     refine ab fun K hK=>aa ae ?_
     simp only [an,fl,gp,ak,simprocAttr]
     refine af trivial (hK _ ?_)<;>clear hK K
     refine qd (qa ?_)
     refine ab fun K hK=>aa ae ?_
     simp only [an,fl,gp,ak,simprocAttr]
     refine af ?_ (hK _ ?_)<;>clear hK K
     ·first|exact trivial|omega|(simp only [ah] at *; omega)|(simp [ah] at *; omega)|simp_all
     refine qa ?_
     have hnew:r'' (op m n i j)=false:=by simpa using hC5
     have hgt:bo n r < bo n (xD r'' (op m n i j)):=by
      have h1:bo n r'' < bo n (xD r'' (op m n i j)):=Bx (fun a _ h=>by simp [xD,h]) hfl hnew (by simp [xD])
      cases hag:ag' with
      | true=>have:=v4 hag; omega
      | false=>rw [(v5 hag).1] at h1; rw [(v5 hag).1]; exact h1
     refine ⟨(j + 1,xD r'' (op m n i j),true),[0,1,2],⟨by simp only; omega,fun a ha h=>?_,fun a ha h=>?_,fun _=>hgt,fun h=>by first|cases h|simp at h⟩,by simp only; omega,?_⟩
     ·simp [xD,v2 a ha h]
     ·simp only [xD,Bool.or_eq_true,decide_eq_true_eq] at h
      rcases h with h | h
      ·exact v3 a ha h
      rw [h]; exact dC.mul G (v3 i hil hri) (v3 j hjl hrj)
     simp only [leq,bx,an,fl,gp,ak,simprocAttr]<;>first|trivial|omega
    (try simp only [aE] at hC5)
    refine qh (qd (qa ?_))
    refine ab fun K hK=>aa ae ?_
    simp only [an,fl,gp,ak,simprocAttr]
    refine af ?_ (hK _ ?_)<;>clear hK K
    ·first|exact trivial|omega|(simp only [ah] at *; omega)|(simp [ah] at *; omega)|simp_all
    refine qa ?_
    have hin2:r'' (op m n i j)=true:=by simpa using hC5
    refine ⟨(j + 1,r'',ag'),[0,1,2],⟨by simp only; omega,v2,v3,v4,fun h=>?_⟩,by simp only; omega,?_⟩
    ·obtain ⟨x1,x2,x3⟩:=v5 h
     refine ⟨x1,x2,fun b hb' h1 h2=>?_⟩
     by_cases hbj:b=j
     ·rw [hbj,← x1]; exact hin2
     exact x3 b (by simp only at hb'; omega) h1 h2
    simp only [leq,bx,an,fl,gp,ak,simprocAttr]<;>first|trivial|omega
   (try simp only [aE] at hC4)
   have hjn:j=n:=by omega
   subst hjn
   refine qj (qc (qc (qf (qd (qa ?_)))))
   refine ab fun K hK=>aa ae ?_
   simp only [an,fl,gp,ak,simprocAttr]
   refine af ?_ (hK _ ?_)<;>clear hK K
   ·first|exact trivial|omega|(simp only [ah] at *; omega)|(simp [ah] at *; omega)|simp_all
   refine qa ?_
   refine ⟨(i + 1,r'',ag'),[0,1,2],⟨by simp only; omega,v2,v3,v4,fun h=>?_⟩,by simp only; omega,?_⟩
   ·obtain ⟨x1,x2,x3⟩:=v5 h
    refine ⟨x1,fun a ha b hb' h1 h2=>?_⟩
    by_cases hai:a=i
    ·rw [hai] at h1 ⊢; exact x3 b hb' h1 h2
    exact x2 a (by simp only at ha; omega) b hb' h1 h2
   simp only [leq,bx,an,fl,gp,ak,simprocAttr]<;>first|trivial|omega
  (try simp only [aE] at hC3)
  have hin:i=n:=by omega
  subst hin
  refine qj (qc (qc (qf (qd (qa ?_)))))
  refine ⟨(r',ag),[0,1,2],⟨u2 e hel r1,fun a ha h=>u2 a ha (r2 a ha h),u3,fun h a ha b hb' h1 h2=>?_⟩,?_,?_⟩
  ·obtain ⟨x1,x2⟩:=u5 h
   simp only [x1] at h1 h2 ⊢
   exact x2 a ha b hb' h1 h2
  ·have h1:=lZ hb r'
   have h2:=lZ hb r
   simp only [if_true]
   cases hag:ag with
   | true=>have:=u4 hag; simp only [if_true]; omega
   | false=>rw [(u5 hag).1]; simp
  simp only [leq,bx,an,fl,gp,ak,simprocAttr]<;>first|trivial|omega
 (try simp only [aE] at hC2)
 subst hC2
 have hfin:bl n r=bl n q:=vt fun a ha=>by
  rw [Bool.eq_iff_iff,hq a ha]
  refine ⟨r3 a ha,fun hg=>?_⟩
  exact dC.least (H:=fun x=>r x=true) r1 (fun a b ga hb' hpb hH=>r4 rfl a (ga.lt G) b hb' hH (r2 b hb' hpb)) hg
 rw [hfin]
 refine qj (qc (qc (qf (qa (qm ?_)))))
 refine er 1 rfl (qE _) ?_
 refine l7 2 0 rfl rfl rfl ⟨by rw [fc]; omega,?_⟩ ?_
 ·rw [List.drop_zero,List.take_of_length_le (by rw [fc]; omega)]; exact Hh n q
 simp only [aF,List.set,List.drop_zero]
 rw [List.take_of_length_le (by rw [fc]; omega)]
 refine er 2 rfl rfl ?_
 simp only [aF]
 refine ab fun K hK=>aa ae ?_
 simp only [an,fl,gp,ak,simprocAttr]
 refine ao trivial (au (DR n m _ _ q (by omega) (fun a ha=>Dx n a q ha hb)) rfl rfl rfl (by simp only [ay,Nat.reduceLT]) (by repeat (first|exact trivial|constructor)) (aa ae ?_))
 simp only [an,fl,gp,ak,simprocAttr]
 refine af ?_ (hK _ ?_)<;>clear hK K
 ·first|exact trivial|omega|(simp only [ah] at *; omega)|(simp [ah] at *; omega)|simp_all
 refine qa (qk ?_)
 simp only [Tryd.results18,bT,an,fl,gp,ak,simprocAttr]
 all_goals (rfl)
section
variable {n:Nat} {f:Nat→Nat→Nat} {e:Nat}
end
open Go.Pv
theorem lB {α β:Type} (R:α→β→Bool) (L1:List α):∀ L2:List β,(L1.map fun a=>(L2.filter (R a)).length).sum=(L2.map fun b=>(L1.filter fun a=>R a b).length).sum
 | []=>by induction L1 with
  | nil=>rfl
  | cons a t ih=>simpa using ih
 | b :: t=>by
  have ih:=lB R L1 t
  have:(L1.map fun a=>((b :: t).filter (R a)).length).sum=(L1.filter fun a=>R a b).length + (L1.map fun a=>(t.filter (R a)).length).sum:=by
   clear ih
   induction L1 with
   | nil=>rfl
   | cons a u ihu =>
    have h1:((b :: t).filter (R a)).length=(if R a b then 1 else 0) + (t.filter (R a)).length:=by
     rw [List.filter_cons]; cases R a b<;>simp<;>omega
    have h2:((a :: u).filter fun a=>R a b).length=(if R a b then 1 else 0) + (u.filter fun a=>R a b).length:=by
     rw [List.filter_cons]; cases R a b<;>simp<;>omega
    rw [List.map_cons,List.sum_cons,ihu,List.map_cons,List.sum_cons,h1,h2]
    omega
  rw [this,ih]; simp
theorem rk {α:Type} {g:α→Nat} {c:Nat} : ∀ {l:List α},(∀ a∈l,g a=c)→(l.map g).sum=l.length * c
 | [],_=>by simp
 | a :: t,h=>by
  rw [List.map_cons,List.sum_cons,h a (by simp),rk (fun x hx=>h x (by simp [hx])),List.length_cons,Nat.succ_mul]; omega
section
variable {n:Nat} {f:Nat→Nat→Nat} {e:Nat}
def Jy (f:Nat→Nat→Nat) (y x:Nat):Bool:=decide (f x y=f y x)
end
open Go.Pv
section
variable {n:Nat} {f:Nat→Nat→Nat} {e:Nat}
theorem Sub.and {a b:Nat→Bool} (ha:Sub n f e a) (hb:Sub n f e b):Sub n f e fun x=>a x && b x where
 one:=by simp [ha.one,hb.one]
 mul x y hx hy h1 h2:=by
  rw [Bool.and_eq_true] at *
  exact ⟨ha.mul x y hx hy h1.1 h2.1,hb.mul x y hx hy h1.2 h2.2⟩
 inv x hx h:=by
  rw [Bool.and_eq_true] at *
  exact ⟨ha.inv x hx h.1,hb.inv x hx h.2⟩
theorem Dk {p:Nat→Bool} (he:e < n) (h:∀ a,a < n→(p a=true↔a=e)):(mem n p).length=1:=by
 have:(mem n p).length=[e].length:=ml (List.nodup_range.filter _) (by simp) fun x=>by
  rw [bh,List.mem_singleton]
  constructor
  ·rintro ⟨h1,h2⟩; exact (h x h1).1 h2
  rintro rfl; exact ⟨he,(h x he).2 rfl⟩
 exact this
theorem CT {p:Nat→Bool} (he:e < n) (hp:p e=true) (h:(mem n p).length=1) {a:Nat} (ha:a < n) (hpa:p a=true):a=e:=by
 obtain ⟨x,hx⟩:=List.length_eq_one_iff.1 h
 have h1:a∈mem n p:=bh.2 ⟨ha,hpa⟩
 have h2:e∈mem n p:=bh.2 ⟨he,hp⟩
 rw [hx,List.mem_singleton] at h1 h2
 rw [h1,h2]
end
open Go.Pv
def lead (r:Nat→Nat→Bool) (a:Nat):Bool:=r a a && decide (∀ b,b < a→r a b=false)
theorem l6 {r:Nat→Nat→Bool} {a:Nat} : lead r a=true↔r a a=true∧∀ b,b < a→r a b=false:=by
 unfold lead; rw [Bool.and_eq_true,decide_eq_true_eq]
structure rZ (n:Nat) (r:Nat→Nat→Bool):Prop where
 refl:∀ a,a < n→r a a=true
 symm:∀ a b,a < n→b < n→r a b=true→r b a=true
 trans:∀ a b c,a < n→b < n→c < n→r a b=true→r b c=true→r a c=true
theorem rZ.least {n:Nat} {r:Nat→Nat→Bool} (h:rZ n r) {y:Nat} (hy:y < n):∃ x,x < n∧lead r x=true∧r x y=true:=by
 cases hf:cE (r y) n with
 | none=>have:=df hf y hy; rw [h.refl y hy] at this; cases this
 | some x =>
  obtain ⟨h1,h2,h3⟩:=gl hf
  refine ⟨x,h1,l6.2 ⟨h.refl x h1,fun b hb=>?_⟩,h.symm y x hy h1 h2⟩
  cases hb2:r x b with
  | false=>rfl
  | true=>have:=h.trans y x b hy h1 (by omega) h2 hb2; rw [h3 b hb] at this; cases this
theorem rZ.tq {n:Nat} {r:Nat→Nat→Bool} (h:rZ n r) {x y:Nat} (hx:x < n) (hy:y < n) (lx:lead r x=true) (ly:lead r y=true) (hr:r x y=true):x=y:=by
 rcases Nat.lt_trichotomy x y with h1 | h1 | h1
 ·have:=(l6.1 ly).2 x h1; rw [h.symm x y hx hy hr] at this; cases this
 ·exact h1
 have:=(l6.1 lx).2 y h1; rw [hr] at this; cases this
theorem rZ.one {n:Nat} {r:Nat→Nat→Bool} (h:rZ n r) {y:Nat} (hy:y < n):((mem n (lead r)).filter fun x=>r x y).length=1:=by
 obtain ⟨x,x1,x2,x3⟩:=h.least hy
 have:((mem n (lead r)).filter fun x=>r x y).length=[x].length:=ml ((List.nodup_range.filter _).filter _) (by simp) fun z=>by
  rw [List.mem_filter,bh,List.mem_singleton]
  constructor
  ·rintro ⟨⟨z1,z2⟩,z3⟩
   exact h.tq z1 x1 z2 x2 (h.trans z y x z1 hy x1 z3 (h.symm x y x1 hy x3))
  rintro rfl
  exact ⟨⟨x1,x2⟩,x3⟩
 exact this
theorem rZ.sum {n:Nat} {r:Nat→Nat→Bool} (h:rZ n r):((mem n (lead r)).map fun x=>(mem n (r x)).length).sum=n:=by
 have h1:=lB (fun x y=>r x y) (mem n (lead r)) (List.range n)
 have h2:((List.range n).map fun y=>((mem n (lead r)).filter fun x=>r x y).length).sum=(List.range n).length * 1:=rk fun y hy=>h.one (List.mem_range.1 hy)
 rw [List.length_range,Nat.mul_one] at h2
 exact h1.trans h2
section
variable {n:Nat} {f:Nat→Nat→Nat} {e:Nat}
def Cs (n:Nat) (f:Nat→Nat→Nat) (e x y:Nat):Bool:=decide (∃ a,a < n∧f (f (iv n f e a) x) a=y)
theorem fg {x y:Nat} : Cs n f e x y=true↔∃ a,a < n∧f (f (iv n f e a) x) a=y:=by unfold Cs; exact decide_eq_true_iff
theorem ba.r8 (G:ba n f e) {x a b:Nat} (hx:x < n) (ha:a < n) (hb:b < n):f (f (iv n f e b) (f (f (iv n f e a) x) a)) b=f (f (iv n f e (f a b)) x) (f a b):=by
 have ia:=G.aS ha
 have ib:=G.aS hb
 have h1:=G.cl _ _ ia hx
 rw [G.sG ha hb,← G.assoc _ (f (iv n f e a) x) a ib h1 ha,G.assoc (f (iv n f e b) (f (iv n f e a) x)) a b (G.cl _ _ ib h1) ha hb,← G.assoc _ _ x ib ia hx]
theorem ba.yz (G:ba n f e):rZ n (Cs n f e) where
 refl a ha:=fg.2 ⟨e,G.el,by rw [G.wx,G.one_l a ha,G.one_r a ha]⟩
 symm a b ha hb h:=by
  obtain ⟨c,hc,rfl⟩:=fg.1 h
  refine fg.2 ⟨iv n f e c,G.aS hc,?_⟩
  rw [G.r8 ha hc (G.aS hc),G.cr hc,G.wx,G.one_l a ha,G.one_r a ha]
 trans a b c ha hb hc h1 h2:=by
  obtain ⟨x,hx,rfl⟩:=fg.1 h1
  obtain ⟨y,hy,rfl⟩:=fg.1 h2
  exact fg.2 ⟨f x y,G.cl _ _ hx hy,(G.r8 ha hx hy).symm⟩
end
open Go.Pv
section
variable {n:Nat} {f:Nat→Nat→Nat} {e:Nat}
def Iz (n:Nat) (f:Nat→Nat→Nat) (x:Nat):Bool:=decide (∀ b,b < n→f x b=f b x)
theorem Cy {x:Nat} : Iz n f x=true↔∀ b,b < n→f x b=f b x:=by unfold Iz; exact decide_eq_true_iff
theorem ba.yq (G:ba n f e) {x:Nat} (hx:x < n):Iz n f x=true↔∀ y,y < n→(Cs n f e x y=true↔y=x):=by
 rw [Cy]
 constructor
 ·intro h y hy
  constructor
  ·intro hc
   obtain ⟨a,ha,rfl⟩:=fg.1 hc
   rw [G.assoc _ x a (G.aS ha) hx ha,h a ha,← G.assoc _ a x (G.aS ha) ha hx,G.eO ha,G.one_l x hx]
  rintro rfl; exact G.yz.refl y hy
 intro h b hb
 have ib:=G.aS hb
 have h1:=(h _ (G.cl _ _ (G.cl _ _ ib hx) hb)).1 (fg.2 ⟨b,hb,rfl⟩)
 have h2:f b (f (f (iv n f e b) x) b)=f b x:=by rw [h1]
 rwa [← G.assoc b _ b hb (G.cl _ _ ib hx) hb,← G.assoc b _ x hb ib hx,G.cr hb,G.one_l x hx] at h2
theorem ba.IP (G:ba n f e):((mem n (lead (Cs n f e))).filter fun x=>decide ((mem n (Cs n f e x)).length=1)).length=(mem n (Iz n f)).length:=by
 have E:=G.yz
 refine ml ((List.nodup_range.filter _).filter _) (List.nodup_range.filter _) fun x=>?_
 rw [List.mem_filter,bh,bh,decide_eq_true_eq]
 constructor
 ·rintro ⟨⟨x1,_⟩,h⟩
  refine ⟨x1,(G.yq x1).2 fun y hy=>⟨fun hc=>CT x1 (E.refl x x1) h hy hc,?_⟩⟩
  rintro rfl; exact E.refl y hy
 rintro ⟨x1,h⟩
 have h1:=(G.yq x1).1 h
 refine ⟨⟨x1,l6.2 ⟨E.refl x x1,fun b hb=>?_⟩⟩,Dk x1 h1⟩
 cases hv:Cs n f e x b with
 | false=>rfl
 | true=>have:=(h1 b (by omega)).1 hv; omega
def oc (p:Nat):Prop:=2≤p∧p≤100∧∀ d,d < p→2≤d→¬ p % d=0
instance (p:Nat):Decidable (oc p):=by unfold oc; infer_instance
theorem oc.div {p:Nat} (h:oc p) {d:Nat} (hd:d ∣ p):d=1∨d=p:=by
 obtain ⟨h1,_,h3⟩:=h
 have hp:=Nat.pos_of_dvd_of_pos hd (by omega)
 have hl:=Nat.le_of_dvd (by omega) hd
 by_cases hd1:d=1
 ·exact .inl hd1
 by_cases hd2:d=p
 ·exact .inr hd2
 exact absurd (Nat.mod_eq_zero_of_dvd hd) (h3 d (by omega) (by omega))
theorem oc.Jl {p:Nat} (h:oc p) {s:Nat} (hs:¬ p ∣ s):Nat.gcd p s=1:=by
 rcases h.div (Nat.gcd_dvd_left p s) with h1 | h1
 ·exact h1
 exact absurd (h1 ▸ Nat.gcd_dvd_right p s) hs
theorem oc.part {p:Nat} (h:oc p) {k d:Nat} (hd:d ∣ p ^ k) (h1:d ≠ 1):p ∣ d:=by
 by_cases hp:p ∣ d
 ·exact hp
 exfalso
 have hc:Nat.Coprime d (p ^ k):=Nat.Coprime.pow_right _ (Nat.Coprime.symm (h.Jl hp))
 have:d ∣ Nat.gcd d (p ^ k):=Nat.dvd_gcd (Nat.dvd_refl d) hd
 rw [hc] at this
 exact h1 (Nat.dvd_one.1 this)
end
open Go.Pv
def fR (n:Nat) (f:Nat→Nat→Nat) (e x a:Nat):Nat:=f (f (iv n f e a) x) a
def su (n:Nat) (f:Nat→Nat→Nat) (e a b:Nat):Nat:=f (f (iv n f e a) (iv n f e b)) (f a b)
def nO (n:Nat) (f:Nat→Nat→Nat) (e:Nat) (p:Nat→Bool) (a y:Nat):Bool:=decide (∃ x,x < n∧p x=true∧fR n f e x a=y)
def Iy (n:Nat) (f:Nat→Nat→Nat) (e:Nat) (p:Nat→Bool) (a:Nat):Bool:=decide (∀ y,y < n→nO n f e p a y=p y)
def ye (n:Nat) (f:Nat→Nat→Nat) (e:Nat) (p:Nat→Bool):Prop:=∀ a,a < n→∀ x,x < n→p x=true→p (fR n f e x a)=true
def HH (n:Nat) (f:Nat→Nat→Nat) (e:Nat) (p:Nat→Bool) (y:Nat):Bool:=decide (∃ x,x < n∧p x=true∧∃ a,a < n∧fR n f e x a=y)
section
variable {n:Nat} {f:Nat→Nat→Nat} {e:Nat}
theorem tu {p:Nat→Bool} {a y:Nat} : nO n f e p a y=true↔∃ x,x < n∧p x=true∧fR n f e x a=y:=by unfold nO; exact decide_eq_true_iff
theorem DZ {p:Nat→Bool} {a:Nat} : Iy n f e p a=true↔∀ y,y < n→nO n f e p a y=p y:=by unfold Iy; exact decide_eq_true_iff
theorem yE {p:Nat→Bool} {y:Nat} : HH n f e p y=true↔∃ x a,x < n∧a < n∧p x=true∧fR n f e x a=y:=by
 unfold HH; rw [decide_eq_true_iff]
 exact ⟨fun ⟨x,h1,h2,a,h3,h4⟩=>⟨x,a,h1,h3,h2,h4⟩,fun ⟨x,a,h1,h3,h2,h4⟩=>⟨x,h1,h2,a,h3,h4⟩⟩
theorem ba.gz (G:ba n f e) {x a:Nat} (hx:x < n) (ha:a < n):fR n f e x a < n:=G.cl _ _ (G.cl _ _ (G.aS ha) hx) ha
theorem ba.yw (G:ba n f e) {x a b:Nat} (hx:x < n) (ha:a < n) (hb:b < n):fR n f e (fR n f e x a) b=fR n f e x (f a b):=G.r8 hx ha hb
theorem ba.EX (G:ba n f e) {x:Nat} (hx:x < n):fR n f e x e=x:=by
 unfold fR; rw [G.wx,G.one_l x hx,G.one_r x hx]
theorem ba.BX (G:ba n f e) {x a:Nat} (hx:x < n) (ha:a < n):fR n f e (fR n f e x a) (iv n f e a)=x:=by
 rw [G.yw hx ha (G.aS ha),G.cr ha,G.EX hx]
theorem ba.Fm (G:ba n f e) {x a:Nat} (hx:x < n) (ha:a < n):fR n f e (fR n f e x (iv n f e a)) a=x:=by
 rw [G.yw hx (G.aS ha) ha,G.eO ha,G.EX hx]
theorem ba.l8 (G:ba n f e) {x y a:Nat} (hx:x < n) (hy:y < n) (ha:a < n):fR n f e (f x y) a=f (fR n f e x a) (fR n f e y a):=by
 have ia:=G.aS ha
 have h1:=G.cl _ _ ia hx
 have h2:=G.cl _ _ ia hy
 have h3:=G.cl _ _ h2 ha
 unfold fR
 rw [G.assoc (f (iv n f e a) x) a _ h1 ha h3,G.assoc (iv n f e a) y a ia hy ha,← G.assoc a (iv n f e a) (f y a) ha ia (G.cl _ _ hy ha),G.cr ha,G.one_l _ (G.cl _ _ hy ha),← G.assoc _ y a h1 hy ha,G.assoc _ x y ia hx hy]
theorem ba.xx (G:ba n f e) {a:Nat} (ha:a < n):fR n f e e a=e:=by
 unfold fR; rw [G.one_r _ (G.aS ha),G.eO ha]
theorem ba.Ae (G:ba n f e) {x a:Nat} (hx:x < n) (ha:a < n):iv n f e (fR n f e x a)=fR n f e (iv n f e x) a:=
 (G.di (G.gz hx ha) (G.gz (G.aS hx) ha) (.inl (by rw [← G.l8 hx (G.aS hx) ha,G.cr hx,G.xx ha]))).symm
theorem ba.wF (G:ba n f e) {a b:Nat} (ha:a < n) (hb:b < n):su n f e a b < n:=G.cl _ _ (G.cl _ _ (G.aS ha) (G.aS hb)) (G.cl _ _ ha hb)
theorem ba.oE (G:ba n f e) {x a:Nat} (hx:x < n) (ha:a < n):su n f e x a=f (iv n f e x) (fR n f e x a):=by
 have ia:=G.aS ha
 unfold su fR
 rw [G.assoc _ _ _ (G.aS hx) ia (G.cl _ _ hx ha),G.assoc _ x a ia hx ha]
theorem ba.CQ (G:ba n f e) {x y a:Nat} (hx:x < n) (hy:y < n) (ha:a < n):fR n f e (su n f e x y) a=su n f e (fR n f e x a) (fR n f e y a):=by
 have ix:=G.aS hx
 have iy:=G.aS hy
 unfold su
 rw [G.l8 (G.cl _ _ ix iy) (G.cl _ _ hx hy) ha,G.l8 ix iy ha,G.l8 hx hy ha,G.Ae hx ha,G.Ae hy ha]
end
open Go.Pv
def GA (n:Nat) (r:Nat→Nat→Bool) (a:Nat):List (List Int):=((List.range a).filter (lead r)).map fun x=>ck n (r x)
def nv (n:Nat) (r:Nat→Nat→Bool):List (List Int):=GA n r n
theorem my {n:Nat} {r:Nat→Nat→Bool} {i:Nat} (hi:i < (nv n r).length):∃ x,x < n∧lead r x=true∧(nv n r).getD i []=ck n (r x)∧(mem n (lead r)).getD i 0=x:=by
 unfold nv GA at hi ⊢
 rw [List.length_map] at hi
 have hm:=List.getElem_mem hi
 obtain ⟨h1,h2⟩:=List.mem_filter.1 hm
 refine ⟨_,List.mem_range.1 h1,h2,?_,?_⟩
 ·simp [List.getD,List.getElem?_eq_getElem hi]
 unfold mem
 simp [List.getD,List.getElem?_eq_getElem hi]
def sp (n:Nat) (f:Nat→Nat→Nat) (e x a y:Nat):Bool:=decide (∃ b,b < a∧fR n f e x b=y)
end Go.Proofs.YtpobnnfkeekiaaaDoor
