/-
  Texts of this proof, one behind the other: what each says stands at its head. Conditions: none.
-/
import Derived.Test.YtpobnnfkeekiaaaDoorB7
import Derived.Test.YtpobnnfkeekiaaaDoorB2
import Derived.Test.YtpobnnfkeekiaaaDoorRows
import Derived.ProofKit
import Derived.LaidMore
import Derived.OpenShut
import Derived.Stop.Joined
set_option linter.all false
namespace Go.Proofs.YtpobnnfkeekiaaaDoor
open Go.Pv
theorem qD (A:List (List Int)) (ha:A.length≤1000000000) (h:Pr.qT [A]≤4000000000000000000):ct Tryd.prog 5 [.nn [.list (ll A)]] (.int .i64 (Pr.qT [A])):=
 ct.vm (Pr.we [A] (by simp) (fun l hl=>by
  simp only [List.mem_cons,List.not_mem_nil,or_false] at hl
  rw [hl]; exact ha) h) ⟨pr.nn,trivial⟩
theorem mr (L:List (List Int)) (h:GX L):ct Tryd.prog 9 [.list (ll L)] (.list (ll L)):=Pr.wi L h.1 h.2
theorem BH:ct Tryd.prog 4 [] (.bool true):=Pr.vb
theorem o4:∀ (L:List (List Int)) (b:Nat),(∀ w∈L,w.length≤b)→Pr.kU L≤L.length * b
 | [],b,_=>by simp [Pr.kU]
 | w :: L,b,h=>by
  rw [Pr.rm,List.length_cons,Nat.add_mul]
  have:=o4 L b fun v hv=>h v (by simp [hv])
  have:=h w (by simp)
  omega
theorem Fa (n:Int) (rels:List (List Int)):Pr.fH n [rels,[]]=Pr.fH n [rels]:=by
 have h0:∀ k,Pr.vW n [[]] k=(0,0):=fun k=>by
  simp [Pr.vW,Pr.qQ,Pr.zb,Pr.gD]
 unfold Pr.fH
 split
 ·rfl
 simp only [Pr.vW,h0]
 simp [Pr.qQ,Pr.zb,Pr.gD]
theorem zN {m:Nat} {rels:List (List Int)} (h:(Pr.fH m [rels]).1=0) :
  (Pr.EF m rels = .tup [gp 0 [],.list [],fl (9,0)]) ∨
  ∃ T,Pr.oK m rels [] 60=some T∧Pr.eX m T rels []∧0 < T.length∧T.length≤60∧Pr.EF m rels = .tup [gp T.length (Pr.gK T (Pr.dj T m)),.list (il (Pr.kV T m)),fl (0,0)]:=by
 obtain ⟨hn,hlk,hok⟩:=Pr.ka h
 have hrl:=hok rels (by simp)
 rw [Int.toNat_natCast] at hrl
 unfold Pr.EF
 rw [Fa,if_neg (by simpa using h),Int.toNat_natCast]
 cases ho:Pr.oK m rels [] 60 with
 | none=>exact .inl rfl
 | some T =>
  obtain ⟨tk,t0,tl⟩:=Pr.Ch (by omega) (fun w hw=>(hrl.2.2 w hw).1) (fun w hw=>by simp at hw) ho
  exact .inr ⟨T,rfl,tk,t0,tl,rfl⟩
theorem d80:decide ((8:Int)=0)=false:=rfl
def AT (n e:Nat) (mm F:List Int) (rels:List (List Int)):Bool:=rels.all fun w=>decide (rf n (op mm n) e F w=e)
theorem Bd {n e:Nat} {mm F:List Int} {rels:List (List Int)} {i:Nat} (hi:i < rels.length):AT n e mm F (rels.take (i + 1))=(AT n e mm F (rels.take i) && decide (rf n (op mm n) e F (rels.getD i [])=e)):=by
 unfold AT
 rw [List.take_succ_eq_append_getElem hi,List.all_append]
 simp [List.getD,List.getElem?_eq_getElem hi]
theorem dI (a b:Nat):decide ((a:Int)=(b:Int))=decide (a=b):=decide_eq_decide.2 (by omega)
theorem As (p:Nat→Bool):∀ n:Nat,(∃ k,k < n∧p k=true∧∀ j,j < k→p j=false)∨∀ j,j < n→p j=false
 | 0=>.inr fun j hj=>by omega
 | n + 1=>by
  rcases As p n with ⟨k,h1,h2⟩ | h
  ·exact .inl ⟨k,by omega,h2⟩
  cases hp:p n with
  | true=>exact .inl ⟨n,by omega,hp,h⟩
  | false =>
   refine .inr fun j hj=>?_
   by_cases he:j=n
   ·rw [he]; exact hp
   exact h j (by omega)
theorem Am (N:Int) (mm F:List Int) (rels:List (List Int)) :
  (¬ (gf N mm).1=0∧xF N mm F rels=(false,gf N mm)) ∨
  ((gf N mm).1=0∧¬ (Pr.fH F.length [rels]).1=0∧xF N mm F rels=(false,Pr.fH F.length [rels])) ∨
  (∃ k,(gf N mm).1=0∧(Pr.fH F.length [rels]).1=0∧k < F.length∧Cp N F k=true∧(∀ j,j < k→Cp N F j=false)∧xF N mm F rels=(false,(8,(k:Int)))) ∨
  ∃ n e,GT N mm n e∧(Pr.fH F.length [rels]).1=0∧(∀ j,j < F.length→Cp N F j=false)∧xF N mm F rels=(AT n e mm F rels,(0,0)):=by
 by_cases h1:(gf N mm).1=0
 ·by_cases h2:(Pr.fH F.length [rels]).1=0
  ·rcases As (Cp N F) F.length with ⟨k,k1,k2,k3⟩ | hj
   ·exact .inr (.inr (.inl ⟨k,h1,h2,k1,k2,k3,GB h1 h2 k1 k2 k3⟩))
   obtain ⟨n,e,h,_⟩:=yg h1
   obtain rfl:=h.1
   exact .inr (.inr (.inr ⟨n,e,h,h2,hj,E8 h h2 hj⟩))
  exact .inr (.inl ⟨h1,h2,Ip h1 h2⟩)
 exact .inl ⟨h1,HN h1⟩
theorem I5 {m:Nat} {rels:List (List Int)} (h:(Pr.fH m [rels]).1=0) (hr:GX rels) :
  ct Tryd.prog 15 [.int .i64 m,.list (ll rels)] (.tup [gp 0 [],.list [],fl (9,0)]) ∨
  ∃ T,Pr.oK m rels [] 60=some T∧Pr.eX m T rels []∧0 < T.length∧T.length≤60∧ct Tryd.prog 15 [.int .i64 m,.list (ll rels)] (.tup [gp T.length (Pr.gK T (Pr.dj T m)),.list (il (Pr.kV T m)),fl (0,0)]):=by
 have hc:=Pr.yI m rels hr
 rcases zN h with h1 | ⟨T,a,b,c,d,h1⟩
 ·rw [h1] at hc; exact .inl hc
 rw [h1] at hc; exact .inr ⟨T,a,b,c,d,hc⟩
set_option maxHeartbeats 16000000 in
theorem pX (N:Int) (mm F:List Int) (rels:List (List Int)) (hm:mm.length≤17592186043904) (hF:F.length≤17592186043904) (hr:rels.length≤100000000000000∧∀ w∈rels,w.length≤100000000000000):ct Tryd.prog 3 [gp N mm,.list (il F),.list (ll rels)] (.bool true):=by
 refine aV ae Tryd.func3 rfl (by kernel_rfl) (by rw [Tryd.ntmps3]; exact Nat.le_add_left 3 _) ?_; rw [Tryd.ntmps3]
 refine qm ?_
 refine ab fun K hK=>aa ae ?_
 simp only [an,fl,gp,ak,simprocAttr]
 refine af ?_ (hK _ ?_)<;>clear hK K
 ·first|exact trivial|omega|(simp only [ah] at *; omega)|(simp [ah] at *; omega)|simp_all
 refine qa (qm (qm ?_))
 refine ab fun K hK=>aa ae ?_
 simp only [an,fl,gp,ak,simprocAttr]
 refine ao trivial (au (BH) rfl rfl rfl (by simp only [ay,Nat.reduceLT]) (by repeat (first|exact trivial|constructor)) (aa ae ?_))
 simp only [an,fl,gp,ak,simprocAttr]
 refine af trivial (hK _ ?_)<;>clear hK K
 refine qa ?_
 refine aq rfl (fun hC1=>?_) (fun hC1=>?_)
 ·(try simp only [aE] at hC1)
  first|exact hC1.elim|cases hC1|(simp at hC1; done)
 (try simp only [aE] at hC1)
 refine qh (qa (qm (qm ?_)))
 by_cases g3a:(rels.length:Int) > 100
 ·refine ab fun K hK=>aa ae ?_
  simp only [an,fl,gp,ak,simprocAttr,aC,aw,decide_eq_true g3a]
  refine af trivial (hK _ ?_)<;>clear hK K
  refine qa ?_
  refine aq rfl (fun hC2=>?_) (fun hC2=>?_)
  ·refine qm ?_
   refine ab fun K hK=>aa ae ?_
   simp only [an,fl,gp,ak,simprocAttr]
   refine af trivial (hK _ ?_)<;>clear hK K
   refine qa (qk (qb ?_))
   simp only [Tryd.results3,bT,an,fl,gp,ak,simprocAttr]
   all_goals ((first|exact rfl|exact ⟨rfl,rfl⟩|exact ⟨rfl,rfl,rfl⟩|exact ⟨trivial,rfl⟩|exact ⟨Nat.le_refl _,rfl⟩|trivial|(simp; done)))
  cases hC2
 have hr2:=o4 rels 100000000000000 hr.2
 have hr3:rels.length * 100000000000000≤100 * 100000000000000:=Nat.mul_le_mul_right _ (by omega)
 have hlt:Pr.qT [rels]=Pr.kU rels:=by simp [Pr.qT]
 by_cases g3b:(Pr.qT [rels]:Int) > 5000
 ·refine ab fun K hK=>aa ae ?_
  simp only [an,fl,gp,ak,simprocAttr,aC,aw,decide_eq_false g3a,decide_eq_true g3b]
  refine ao trivial (au (qD rels (by omega) (by omega)) rfl rfl rfl (by simp only [ay,Nat.reduceLT]) (by repeat (first|exact trivial|constructor)) (aa ae ?_))
  simp only [an,fl,gp,ak,simprocAttr,aC,aw,decide_eq_false g3a,decide_eq_true g3b]
  refine af ?_ (hK _ ?_)<;>clear hK K
  ·first|exact trivial|omega|(simp only [ah] at *; omega)|(simp [ah] at *; omega)|simp_all
  refine qa ?_
  refine aq rfl (fun hC2=>?_) (fun hC2=>?_)
  ·refine qm ?_
   refine ab fun K hK=>aa ae ?_
   simp only [an,fl,gp,ak,simprocAttr]
   refine af trivial (hK _ ?_)<;>clear hK K
   refine qa (qk (qb ?_))
   simp only [Tryd.results3,bT,an,fl,gp,ak,simprocAttr]
   all_goals ((first|exact rfl|exact ⟨rfl,rfl⟩|exact ⟨rfl,rfl,rfl⟩|exact ⟨trivial,rfl⟩|exact ⟨Nat.le_refl _,rfl⟩|trivial|(simp; done)))
  cases hC2
 refine ab fun K hK=>aa ae ?_
 simp only [an,fl,gp,ak,simprocAttr,aC,aw,decide_eq_false g3a,decide_eq_false g3b]
 refine ao trivial (au (qD rels (by omega) (by omega)) rfl rfl rfl (by simp only [ay,Nat.reduceLT]) (by repeat (first|exact trivial|constructor)) (aa ae ?_))
 simp only [an,fl,gp,ak,simprocAttr,aC,aw,decide_eq_false g3a,decide_eq_false g3b]
 refine af ?_ (hK _ ?_)<;>clear hK K
 ·first|exact trivial|omega|(simp only [ah] at *; omega)|(simp [ah] at *; omega)|simp_all
 refine qa ?_
 refine aq rfl (fun hC2=>?_) (fun hC2=>?_)
 ·(try simp only [aE] at hC2)
  refine qm ?_
  refine ab fun K hK=>aa ae ?_
  simp only [an,fl,gp,ak,simprocAttr]
  refine af trivial (hK _ ?_)<;>clear hK K
  refine qa (qk (qb ?_))
  simp only [Tryd.results3,bT,an,fl,gp,ak,simprocAttr]
  all_goals ((first|exact rfl|exact ⟨rfl,rfl⟩|exact ⟨rfl,rfl,rfl⟩|exact ⟨trivial,rfl⟩|exact ⟨Nat.le_refl _,rfl⟩|trivial|(simp; done)))
 (try simp only [aE] at hC2)
 have h50:Pr.qT [rels]≤5000:=by omega
 rw [hlt] at h50
 have hr4:GX rels:=⟨by omega,fun w hw=>by have:=Pr.xZ hw; omega⟩
 have hF2:F.length≤100:=by omega
 have hc:=uc N mm F rels (by omega) (by omega) hr4
 refine qh (qa (qm ?_))
 rcases Am N mm F rels with ⟨k1,hd⟩ | ⟨k1,k2,hd⟩ | ⟨k,k1,k2,k3,k4,k5,hd⟩ | ⟨n,e,h,k2,k3,hd⟩<;>rw [hd] at hc
 ·refine ab fun K hK=>aa ae ?_
  simp only [an,fl,gp,ak,simprocAttr]
  refine ao trivial (au (iN N mm hm) rfl rfl rfl (by simp only [ay,Nat.reduceLT]) (by repeat (first|exact trivial|constructor)) (aa ae ?_))
  simp only [an,fl,gp,ak,simprocAttr]
  refine ao trivial (au (qB F hF) rfl rfl rfl (by simp only [ay,Nat.reduceLT]) (by repeat (first|exact trivial|constructor)) (aa ae ?_))
  simp only [an,fl,gp,ak,simprocAttr]
  refine ao trivial (au (mr rels hr4) rfl rfl rfl (by simp only [ay,Nat.reduceLT]) (by repeat (first|exact trivial|constructor)) (aa ae ?_))
  simp only [an,fl,gp,ak,simprocAttr]
  refine ao trivial (au (hc) rfl rfl rfl (by simp only [ay,Nat.reduceLT]) (by repeat (first|exact trivial|constructor)) (aa ae ?_))
  simp only [an,fl,gp,ak,simprocAttr]
  refine af ?_ (hK _ ?_)<;>clear hK K
  ·first|exact trivial|omega|(simp only [ah] at *; omega)|(simp [ah] at *; omega)|simp_all
  refine qa (qm ?_)
  refine ab fun K hK=>aa ae ?_
  simp only [an,fl,gp,ak,simprocAttr]
  refine ao trivial (au (AW N mm (by omega)) rfl rfl rfl (by simp only [ay,Nat.reduceLT]) (by repeat (first|exact trivial|constructor)) (aa ae ?_))
  simp only [an,fl,gp,ak,simprocAttr]
  refine af ?_ (hK _ ?_)<;>clear hK K
  ·first|exact trivial|omega|(simp only [ah] at *; omega)|(simp [ah] at *; omega)|simp_all
  refine qa (qm (qm ?_))
  refine ab fun K hK=>aa ae ?_
  simp only [an,fl,gp,ak,simprocAttr]
  refine af ?_ (hK _ ?_)<;>clear hK K
  ·first|exact trivial|omega|(simp only [ah] at *; omega)|(simp [ah] at *; omega)|simp_all
  refine qa ?_
  refine aq rfl (fun hC3=>?_) (fun hC3=>?_)
  ·(try simp only [aE] at hC3)
   exact absurd hC3 k1
  (try simp only [aE] at hC3)
  refine qh (qa (qm (qm ?_)))
  refine ab fun K hK=>aa ae ?_
  simp only [an,fl,gp,ak,simprocAttr]
  refine af trivial (hK _ ?_)<;>clear hK K
  refine qa (ql ?_)
  refine aD (ι:=Unit) (fun _=>⟨197,[(1,.p (.list (il F))),(2,.p (.list (ll rels))),(3,.ptr 0 0),(7,.p (.bool false)),(8,.ptr 1 0),(9,.ptr 2 0),(10,.p (.int .i64 0))],[.own [.p (.int .i64 N),.p (.list (il mm))],.own [.p (.int .i64 (gf N mm).1),.p (.int .i64 (gf N mm).2)],.own [.p (.int .i64 (gf N mm).1),.p (.int .i64 (gf N mm).2)]]⟩) (fun _=>True) (fun _=>0) () trivial [0,1,2] (by simp only [leq,bx,an,fl,gp,ak,simprocAttr]<;>first|trivial|trace_state) fun _ _=>?_
  refine qm (qm ?_)
  rcases Nat.eq_zero_or_pos F.length with q1 | q1
  ·have hz1:decide ((0:Int) < (F.length:Int))=false:=decide_eq_false (by omega)
   have hz2:decide ((gf N mm).1=0)=false:=decide_eq_false k1
   refine ab fun K hK=>aa ae ?_
   simp only [an,fl,gp,ak,simprocAttr,aw,hz1,hz2]
   refine af trivial (hK _ ?_)<;>clear hK K
   refine qa ?_
   refine aq rfl (fun hC4=>?_) (fun hC4=>?_)
   ·cases hC4
   refine qj (qc (qc (qf (qa (qm (qm ?_))))))
   refine ab fun K hK=>aa ae ?_
   simp only [an,fl,gp,ak,simprocAttr]
   refine af ?_ (hK _ ?_)<;>clear hK K
   ·first|exact trivial|omega|(simp only [ah] at *; omega)|(simp [ah] at *; omega)|simp_all
   refine qa ?_
   refine aq rfl (fun hC6=>?_) (fun hC6=>?_)
   ·(try simp only [aE] at hC6)
    first|exact absurd rfl hC6|exact hC6.elim|cases hC6|(simp at hC6; done)
   (try simp only [aE] at hC6)
   refine qh (qa (qm (qm ?_)))
   refine ab fun K hK=>aa ae ?_
   simp only [an,fl,gp,ak,simprocAttr]
   refine af ?_ (hK _ ?_)<;>clear hK K
   ·first|exact trivial|omega|(simp only [ah] at *; omega)|(simp [ah] at *; omega)|simp_all
   refine qa ?_
   refine aq rfl (fun hC7=>?_) (fun hC7=>?_)
   ·(try simp only [aE] at hC7)
    refine qm ?_
    refine ab fun K hK=>aa ae ?_
    simp only [an,fl,gp,ak,simprocAttr]
    refine af trivial (hK _ ?_)<;>clear hK K
    refine qa (qk (qb ?_))
    simp only [Tryd.results3,bT,an,fl,gp,ak,simprocAttr]
    all_goals ((first|exact rfl|exact ⟨rfl,rfl⟩|exact ⟨rfl,rfl,rfl⟩|exact ⟨trivial,rfl⟩|exact ⟨Nat.le_refl _,rfl⟩|trivial|(simp; done)))
   (try simp only [aE] at hC7)
   exact absurd hC7 k1
  have hz1:decide ((0:Int) < (F.length:Int))=true:=decide_eq_true (by omega)
  have hz2:decide ((gf N mm).1=0)=false:=decide_eq_false k1
  refine ab fun K hK=>aa ae ?_
  simp only [an,fl,gp,ak,simprocAttr,aw,hz1,hz2]
  refine af ?_ (hK _ ?_)<;>clear hK K
  ·first|exact trivial|omega|(simp only [ah] at *; omega)|(simp [ah] at *; omega)|simp_all
  refine qa ?_
  refine aq rfl (fun hC4=>?_) (fun hC4=>?_)
  ·cases hC4
  (try simp only [aE] at hC4)
  refine qj (qc (qc (qf (qa (qm (qm ?_))))))
  refine ab fun K hK=>aa ae ?_
  simp only [an,fl,gp,ak,simprocAttr]
  refine af ?_ (hK _ ?_)<;>clear hK K
  ·first|exact trivial|omega|(simp only [ah] at *; omega)|(simp [ah] at *; omega)|simp_all
  refine qa ?_
  refine aq rfl (fun hC6=>?_) (fun hC6=>?_)
  ·(try simp only [aE] at hC6)
   first|exact absurd rfl hC6|exact hC6.elim|cases hC6|(simp at hC6; done)
  (try simp only [aE] at hC6)
  refine qh (qa (qm (qm ?_)))
  refine ab fun K hK=>aa ae ?_
  simp only [an,fl,gp,ak,simprocAttr]
  refine af ?_ (hK _ ?_)<;>clear hK K
  ·first|exact trivial|omega|(simp only [ah] at *; omega)|(simp [ah] at *; omega)|simp_all
  refine qa ?_
  refine aq rfl (fun hC7=>?_) (fun hC7=>?_)
  ·(try simp only [aE] at hC7)
   refine qm ?_
   refine ab fun K hK=>aa ae ?_
   simp only [an,fl,gp,ak,simprocAttr]
   refine af trivial (hK _ ?_)<;>clear hK K
   refine qa (qk (qb ?_))
   simp only [Tryd.results3,bT,an,fl,gp,ak,simprocAttr]
   all_goals ((first|exact rfl|exact ⟨rfl,rfl⟩|exact ⟨rfl,rfl,rfl⟩|exact ⟨trivial,rfl⟩|exact ⟨Nat.le_refl _,rfl⟩|trivial|(simp; done)))
  (try simp only [aE] at hC7)
  exact absurd hC7 k1
 ·refine ab fun K hK=>aa ae ?_
  simp only [an,fl,gp,ak,simprocAttr]
  refine ao trivial (au (iN N mm hm) rfl rfl rfl (by simp only [ay,Nat.reduceLT]) (by repeat (first|exact trivial|constructor)) (aa ae ?_))
  simp only [an,fl,gp,ak,simprocAttr]
  refine ao trivial (au (qB F hF) rfl rfl rfl (by simp only [ay,Nat.reduceLT]) (by repeat (first|exact trivial|constructor)) (aa ae ?_))
  simp only [an,fl,gp,ak,simprocAttr]
  refine ao trivial (au (mr rels hr4) rfl rfl rfl (by simp only [ay,Nat.reduceLT]) (by repeat (first|exact trivial|constructor)) (aa ae ?_))
  simp only [an,fl,gp,ak,simprocAttr]
  refine ao trivial (au (hc) rfl rfl rfl (by simp only [ay,Nat.reduceLT]) (by repeat (first|exact trivial|constructor)) (aa ae ?_))
  simp only [an,fl,gp,ak,simprocAttr]
  refine af ?_ (hK _ ?_)<;>clear hK K
  ·first|exact trivial|omega|(simp only [ah] at *; omega)|(simp [ah] at *; omega)|simp_all
  refine qa (qm ?_)
  refine ab fun K hK=>aa ae ?_
  simp only [an,fl,gp,ak,simprocAttr]
  refine ao trivial (au (AW N mm (by omega)) rfl rfl rfl (by simp only [ay,Nat.reduceLT]) (by repeat (first|exact trivial|constructor)) (aa ae ?_))
  simp only [an,fl,gp,ak,simprocAttr]
  refine af ?_ (hK _ ?_)<;>clear hK K
  ·first|exact trivial|omega|(simp only [ah] at *; omega)|(simp [ah] at *; omega)|simp_all
  refine qa (qm (qm ?_))
  refine ab fun K hK=>aa ae ?_
  simp only [an,fl,gp,ak,simprocAttr]
  refine af ?_ (hK _ ?_)<;>clear hK K
  ·first|exact trivial|omega|(simp only [ah] at *; omega)|(simp [ah] at *; omega)|simp_all
  refine qa ?_
  refine aq rfl (fun hC3=>?_) (fun hC3=>?_)
  ·(try simp only [aE] at hC3)
   refine ab fun K hK=>aa ae ?_
   simp only [an,fl,gp,ak,simprocAttr,aw]
   refine ao trivial (au (wX F.length rels hr4) rfl rfl rfl (by simp only [ay,Nat.reduceLT]) (by repeat (first|exact trivial|constructor)) (aa ae ?_))
   simp only [an,fl,gp,ak,simprocAttr,aw]
   refine af ?_ (hK _ ?_)<;>clear hK K
   ·first|exact trivial|omega|(simp only [ah] at *; omega)|(simp [ah] at *; omega)|simp_all
   refine qa (qm (qm ?_))
   refine ab fun K hK=>aa ae ?_
   simp only [an,fl,gp,ak,simprocAttr]
   refine af trivial (hK _ ?_)<;>clear hK K
   refine qa (ql ?_)
   refine aD (ι:=Unit) (fun _=>⟨197,[(1,.p (.list (il F))),(2,.p (.list (ll rels))),(3,.ptr 0 0),(7,.p (.bool false)),(8,.ptr 1 0),(9,.ptr 2 0),(10,.p (.int .i64 0))],[.own [.p (.int .i64 N),.p (.list (il mm))],.own [.p (.int .i64 (Pr.fH F.length [rels]).1),.p (.int .i64 (Pr.fH F.length [rels]).2)],.own [.p (.int .i64 (Pr.fH F.length [rels]).1),.p (.int .i64 (Pr.fH F.length [rels]).2)]]⟩) (fun _=>True) (fun _=>0) () trivial [0,1,2] (by simp only [leq,bx,an,fl,gp,ak,simprocAttr]<;>first|trivial|trace_state) fun _ _=>?_
   refine qm (qm ?_)
   rcases Nat.eq_zero_or_pos F.length with q1 | q1
   ·have hz1:decide ((0:Int) < (F.length:Int))=false:=decide_eq_false (by omega)
    have hz2:decide ((Pr.fH F.length [rels]).1=0)=false:=decide_eq_false k2
    refine ab fun K hK=>aa ae ?_
    simp only [an,fl,gp,ak,simprocAttr,aw,hz1,hz2]
    refine af trivial (hK _ ?_)<;>clear hK K
    refine qa ?_
    refine aq rfl (fun hC4=>?_) (fun hC4=>?_)
    ·cases hC4
    refine qj (qc (qc (qf (qa (qm (qm ?_))))))
    refine ab fun K hK=>aa ae ?_
    simp only [an,fl,gp,ak,simprocAttr]
    refine af ?_ (hK _ ?_)<;>clear hK K
    ·first|exact trivial|omega|(simp only [ah] at *; omega)|(simp [ah] at *; omega)|simp_all
    refine qa ?_
    refine aq rfl (fun hC6=>?_) (fun hC6=>?_)
    ·(try simp only [aE] at hC6)
     first|exact absurd rfl hC6|exact hC6.elim|cases hC6|(simp at hC6; done)
    (try simp only [aE] at hC6)
    refine qh (qa (qm (qm ?_)))
    refine ab fun K hK=>aa ae ?_
    simp only [an,fl,gp,ak,simprocAttr]
    refine af ?_ (hK _ ?_)<;>clear hK K
    ·first|exact trivial|omega|(simp only [ah] at *; omega)|(simp [ah] at *; omega)|simp_all
    refine qa ?_
    refine aq rfl (fun hC7=>?_) (fun hC7=>?_)
    ·(try simp only [aE] at hC7)
     refine qm ?_
     refine ab fun K hK=>aa ae ?_
     simp only [an,fl,gp,ak,simprocAttr]
     refine af trivial (hK _ ?_)<;>clear hK K
     refine qa (qk (qb ?_))
     simp only [Tryd.results3,bT,an,fl,gp,ak,simprocAttr]
     all_goals ((first|exact rfl|exact ⟨rfl,rfl⟩|exact ⟨rfl,rfl,rfl⟩|exact ⟨trivial,rfl⟩|exact ⟨Nat.le_refl _,rfl⟩|trivial|(simp; done)))
    (try simp only [aE] at hC7)
    exact absurd hC7 k2
   have hz1:decide ((0:Int) < (F.length:Int))=true:=decide_eq_true (by omega)
   have hz2:decide ((Pr.fH F.length [rels]).1=0)=false:=decide_eq_false k2
   refine ab fun K hK=>aa ae ?_
   simp only [an,fl,gp,ak,simprocAttr,aw,hz1,hz2]
   refine af ?_ (hK _ ?_)<;>clear hK K
   ·first|exact trivial|omega|(simp only [ah] at *; omega)|(simp [ah] at *; omega)|simp_all
   refine qa ?_
   refine aq rfl (fun hC4=>?_) (fun hC4=>?_)
   ·cases hC4
   (try simp only [aE] at hC4)
   refine qj (qc (qc (qf (qa (qm (qm ?_))))))
   refine ab fun K hK=>aa ae ?_
   simp only [an,fl,gp,ak,simprocAttr]
   refine af ?_ (hK _ ?_)<;>clear hK K
   ·first|exact trivial|omega|(simp only [ah] at *; omega)|(simp [ah] at *; omega)|simp_all
   refine qa ?_
   refine aq rfl (fun hC6=>?_) (fun hC6=>?_)
   ·(try simp only [aE] at hC6)
    first|exact absurd rfl hC6|exact hC6.elim|cases hC6|(simp at hC6; done)
   (try simp only [aE] at hC6)
   refine qh (qa (qm (qm ?_)))
   refine ab fun K hK=>aa ae ?_
   simp only [an,fl,gp,ak,simprocAttr]
   refine af ?_ (hK _ ?_)<;>clear hK K
   ·first|exact trivial|omega|(simp only [ah] at *; omega)|(simp [ah] at *; omega)|simp_all
   refine qa ?_
   refine aq rfl (fun hC7=>?_) (fun hC7=>?_)
   ·(try simp only [aE] at hC7)
    refine qm ?_
    refine ab fun K hK=>aa ae ?_
    simp only [an,fl,gp,ak,simprocAttr]
    refine af trivial (hK _ ?_)<;>clear hK K
    refine qa (qk (qb ?_))
    simp only [Tryd.results3,bT,an,fl,gp,ak,simprocAttr]
    all_goals ((first|exact rfl|exact ⟨rfl,rfl⟩|exact ⟨rfl,rfl,rfl⟩|exact ⟨trivial,rfl⟩|exact ⟨Nat.le_refl _,rfl⟩|trivial|(simp; done)))
   (try simp only [aE] at hC7)
   exact absurd hC7 k2
  (try simp only [aE] at hC3)
  exact absurd k1 hC3
 ·refine ab fun K hK=>aa ae ?_
  simp only [an,fl,gp,ak,simprocAttr]
  refine ao trivial (au (iN N mm hm) rfl rfl rfl (by simp only [ay,Nat.reduceLT]) (by repeat (first|exact trivial|constructor)) (aa ae ?_))
  simp only [an,fl,gp,ak,simprocAttr]
  refine ao trivial (au (qB F hF) rfl rfl rfl (by simp only [ay,Nat.reduceLT]) (by repeat (first|exact trivial|constructor)) (aa ae ?_))
  simp only [an,fl,gp,ak,simprocAttr]
  refine ao trivial (au (mr rels hr4) rfl rfl rfl (by simp only [ay,Nat.reduceLT]) (by repeat (first|exact trivial|constructor)) (aa ae ?_))
  simp only [an,fl,gp,ak,simprocAttr]
  refine ao trivial (au (hc) rfl rfl rfl (by simp only [ay,Nat.reduceLT]) (by repeat (first|exact trivial|constructor)) (aa ae ?_))
  simp only [an,fl,gp,ak,simprocAttr]
  refine af ?_ (hK _ ?_)<;>clear hK K
  ·first|exact trivial|omega|(simp only [ah] at *; omega)|(simp [ah] at *; omega)|simp_all
  refine qa (qm ?_)
  refine ab fun K hK=>aa ae ?_
  simp only [an,fl,gp,ak,simprocAttr]
  refine ao trivial (au (AW N mm (by omega)) rfl rfl rfl (by simp only [ay,Nat.reduceLT]) (by repeat (first|exact trivial|constructor)) (aa ae ?_))
  simp only [an,fl,gp,ak,simprocAttr]
  refine af ?_ (hK _ ?_)<;>clear hK K
  ·first|exact trivial|omega|(simp only [ah] at *; omega)|(simp [ah] at *; omega)|simp_all
  refine qa (qm (qm ?_))
  refine ab fun K hK=>aa ae ?_
  simp only [an,fl,gp,ak,simprocAttr]
  refine af ?_ (hK _ ?_)<;>clear hK K
  ·first|exact trivial|omega|(simp only [ah] at *; omega)|(simp [ah] at *; omega)|simp_all
  refine qa ?_
  refine aq rfl (fun hC3=>?_) (fun hC3=>?_)
  ·(try simp only [aE] at hC3)
   obtain ⟨hn,hlk,hok⟩:=Pr.ka k2
   refine ab fun K hK=>aa ae ?_
   simp only [an,fl,gp,ak,simprocAttr,hlk]
   refine ao trivial (au (wX F.length rels hr4) rfl rfl rfl (by simp only [ay,Nat.reduceLT]) (by repeat (first|exact trivial|constructor)) (aa ae ?_))
   simp only [an,fl,gp,ak,simprocAttr,hlk]
   refine af ?_ (hK _ ?_)<;>clear hK K
   ·first|exact trivial|omega|(simp only [ah] at *; omega)|(simp [ah] at *; omega)|simp_all
   refine qa (qm (qm ?_))
   refine ab fun K hK=>aa ae ?_
   simp only [an,fl,gp,ak,simprocAttr]
   refine af trivial (hK _ ?_)<;>clear hK K
   refine qa (ql ?_)
   refine aD (ι:=Nat) (fun p=>⟨197,[(1,.p (.list (il F))),(2,.p (.list (ll rels))),(3,.ptr 0 0),(7,.p (.bool false)),(8,.ptr 1 0),(9,.ptr 2 0),(10,.p (.int .i64 p))],[.own [.p (.int .i64 N),.p (.list (il mm))],.own [.p (.int .i64 8),.p (.int .i64 k)],.own [.p (.int .i64 (if p=k + 1 then 8 else 0)),.p (.int .i64 (if p=k + 1 then (k:Int) else 0))]]⟩) (fun p=>p≤k + 1) (fun p=>k + 1 - p) 0 (Nat.zero_le _) [0,1,2] (by simp only [leq,bx,an,fl,gp,ak,simprocAttr]<;>first|trivial|trace_state) fun p hp=>?_
   refine qm (qm ?_)
   rcases (show p≤k∨(p=k + 1∧k + 1 < F.length)∨(p=k + 1∧k + 1=F.length) by omega) with q1 | ⟨rfl,q1⟩ | ⟨rfl,q1⟩
   ·have hq2:¬ p=k + 1:=by omega
    simp only [if_neg hq2]
    have hz1:decide ((p:Int) < (F.length:Int))=true:=decide_eq_true (by omega)
    have hz2:decide ((0:Int)=0)=true:=rfl
    refine ab fun K hK=>aa ae ?_
    simp only [an,fl,gp,ak,simprocAttr,aw,hz1,hz2]
    refine af ?_ (hK _ ?_)<;>clear hK K
    ·first|exact trivial|omega|(simp only [ah] at *; omega)|(simp [ah] at *; omega)|simp_all
    refine qa ?_
    refine aq rfl (fun hC4=>?_) (fun hC4=>?_)
    ·(try simp only [aE] at hC4)
     have hpl:p < F.length:=by omega
     refine qh (qa (qm (ql (qm ?_))))
     by_cases g12a:F.getD p 0 < 0
     ·refine aO mixed (by kernel_rfl) fun K hK=>aa ae ?_
      simp only [an,fl,gp,ak,simprocAttr,aw,aL hpl,decide_eq_true g12a]
      refine af ?_ (hK _ ?_)<;>clear hK K
      ·first|exact trivial|omega|(simp only [ah] at *; omega)|(simp [ah] at *; omega)|simp_all
      refine qa ?_
      refine aq rfl (fun hC5=>?_) (fun hC5=>?_)
      ·refine ab fun K hK=>aa ae ?_
       simp only [an,fl,gp,ak,simprocAttr]
       refine ao trivial (au (pN 8 p) rfl rfl rfl (by simp only [ay,Nat.reduceLT]) (by repeat (first|exact trivial|constructor)) (aa ae ?_))
       simp only [an,fl,gp,ak,simprocAttr]
       refine af ?_ (hK _ ?_)<;>clear hK K
       ·first|exact trivial|omega|(simp only [ah] at *; omega)|(simp [ah] at *; omega)|simp_all
       refine qd (qa ?_)
       refine ab fun K hK=>aa ae ?_
       simp only [an,fl,gp,ak,simprocAttr]
       refine af ?_ (hK _ ?_)<;>clear hK K
       ·first|exact trivial|omega|(simp only [ah] at *; omega)|(simp [ah] at *; omega)|simp_all
       refine qa ?_
       obtain rfl:p=k:=Classical.byContradiction fun hne=>by have:=of_decide_eq_false (k5 p (by omega)); omega
       refine ⟨p + 1,[0,1,2],by omega,by omega,?_⟩
       simp only [if_true]
       simp only [leq,bx,an,fl,gp,ak,simprocAttr]<;>first|trivial|omega
      cases hC5
     refine aO mixed (by kernel_rfl) fun K hK=>aa ae ?_
     simp only [an,fl,gp,ak,simprocAttr,aw,aL hpl,decide_eq_false g12a]
     refine af ?_ (hK _ ?_)<;>clear hK K
     ·first|exact trivial|omega|(simp only [ah] at *; omega)|(simp [ah] at *; omega)|simp_all
     refine qa ?_
     refine aq rfl (fun hC5=>?_) (fun hC5=>?_)
     ·(try simp only [aE] at hC5)
      refine ab fun K hK=>aa ae ?_
      simp only [an,fl,gp,ak,simprocAttr]
      refine ao trivial (au (pN 8 p) rfl rfl rfl (by simp only [ay,Nat.reduceLT]) (by repeat (first|exact trivial|constructor)) (aa ae ?_))
      simp only [an,fl,gp,ak,simprocAttr]
      refine af ?_ (hK _ ?_)<;>clear hK K
      ·first|exact trivial|omega|(simp only [ah] at *; omega)|(simp [ah] at *; omega)|simp_all
      refine qd (qa ?_)
      refine ab fun K hK=>aa ae ?_
      simp only [an,fl,gp,ak,simprocAttr]
      refine af ?_ (hK _ ?_)<;>clear hK K
      ·first|exact trivial|omega|(simp only [ah] at *; omega)|(simp [ah] at *; omega)|simp_all
      refine qa ?_
      obtain rfl:p=k:=Classical.byContradiction fun hne=>by have:=of_decide_eq_false (k5 p (by omega)); omega
      refine ⟨p + 1,[0,1,2],by omega,by omega,?_⟩
      simp only [if_true]
      simp only [leq,bx,an,fl,gp,ak,simprocAttr]<;>first|trivial|omega
     (try simp only [aE] at hC5)
     refine qh (qd (qa ?_))
     refine ab fun K hK=>aa ae ?_
     simp only [an,fl,gp,ak,simprocAttr]
     refine af ?_ (hK _ ?_)<;>clear hK K
     ·first|exact trivial|omega|(simp only [ah] at *; omega)|(simp [ah] at *; omega)|simp_all
     refine qa ?_
     have hpk:p ≠ k:=fun hh=>by rw [← hh] at k4; have:=of_decide_eq_true k4; omega
     refine ⟨p + 1,[0,1,2],by omega,by omega,?_⟩
     have hq3:¬ p + 1=k + 1:=by omega
     simp only [if_neg hq3]
     simp only [leq,bx,an,fl,gp,ak,simprocAttr]<;>first|trivial|omega
    cases hC4
   ·simp only [if_true]
    have hz1:decide (((k + 1:Nat):Int) < (F.length:Int))=true:=decide_eq_true (by omega)
    have hz2:=d80
    refine ab fun K hK=>aa ae ?_
    simp only [an,fl,gp,ak,simprocAttr,aw,hz1,hz2]
    refine af ?_ (hK _ ?_)<;>clear hK K
    ·first|exact trivial|omega|(simp only [ah] at *; omega)|(simp [ah] at *; omega)|simp_all
    refine qa ?_
    refine aq rfl (fun hC4=>?_) (fun hC4=>?_)
    ·cases hC4
    (try simp only [aE] at hC4)
    refine qj (qc (qc (qf (qa (qm (qm ?_))))))
    refine ab fun K hK=>aa ae ?_
    simp only [an,fl,gp,ak,simprocAttr]
    refine af ?_ (hK _ ?_)<;>clear hK K
    ·first|exact trivial|omega|(simp only [ah] at *; omega)|(simp [ah] at *; omega)|simp_all
    refine qa ?_
    refine aq rfl (fun hC6=>?_) (fun hC6=>?_)
    ·(try simp only [aE] at hC6)
     first|exact absurd rfl hC6|exact hC6.elim|cases hC6|(simp at hC6; done)
    (try simp only [aE] at hC6)
    refine qh (qa (qm (qm ?_)))
    refine ab fun K hK=>aa ae ?_
    simp only [an,fl,gp,ak,simprocAttr]
    refine af ?_ (hK _ ?_)<;>clear hK K
    ·first|exact trivial|omega|(simp only [ah] at *; omega)|(simp [ah] at *; omega)|simp_all
    refine qa ?_
    refine aq rfl (fun hC7=>?_) (fun hC7=>?_)
    ·(try simp only [aE] at hC7)
     refine qm ?_
     refine ab fun K hK=>aa ae ?_
     simp only [an,fl,gp,ak,simprocAttr]
     refine af trivial (hK _ ?_)<;>clear hK K
     refine qa (qk (qb ?_))
     simp only [Tryd.results3,bT,an,fl,gp,ak,simprocAttr]
     all_goals ((first|exact rfl|exact ⟨rfl,rfl⟩|exact ⟨rfl,rfl,rfl⟩|exact ⟨trivial,rfl⟩|exact ⟨Nat.le_refl _,rfl⟩|trivial|(simp; done)))
    (try simp only [aE] at hC7)
    exact absurd hC7 (by decide)
   simp only [if_true]
   have hz1:decide (((k + 1:Nat):Int) < (F.length:Int))=false:=decide_eq_false (by omega)
   have hz2:=d80
   refine ab fun K hK=>aa ae ?_
   simp only [an,fl,gp,ak,simprocAttr,aw,hz1,hz2]
   refine af trivial (hK _ ?_)<;>clear hK K
   refine qa ?_
   refine aq rfl (fun hC4=>?_) (fun hC4=>?_)
   ·cases hC4
   refine qj (qc (qc (qf (qa (qm (qm ?_))))))
   refine ab fun K hK=>aa ae ?_
   simp only [an,fl,gp,ak,simprocAttr]
   refine af ?_ (hK _ ?_)<;>clear hK K
   ·first|exact trivial|omega|(simp only [ah] at *; omega)|(simp [ah] at *; omega)|simp_all
   refine qa ?_
   refine aq rfl (fun hC6=>?_) (fun hC6=>?_)
   ·(try simp only [aE] at hC6)
    first|exact absurd rfl hC6|exact hC6.elim|cases hC6|(simp at hC6; done)
   (try simp only [aE] at hC6)
   refine qh (qa (qm (qm ?_)))
   refine ab fun K hK=>aa ae ?_
   simp only [an,fl,gp,ak,simprocAttr]
   refine af ?_ (hK _ ?_)<;>clear hK K
   ·first|exact trivial|omega|(simp only [ah] at *; omega)|(simp [ah] at *; omega)|simp_all
   refine qa ?_
   refine aq rfl (fun hC7=>?_) (fun hC7=>?_)
   ·(try simp only [aE] at hC7)
    refine qm ?_
    refine ab fun K hK=>aa ae ?_
    simp only [an,fl,gp,ak,simprocAttr]
    refine af trivial (hK _ ?_)<;>clear hK K
    refine qa (qk (qb ?_))
    simp only [Tryd.results3,bT,an,fl,gp,ak,simprocAttr]
    all_goals ((first|exact rfl|exact ⟨rfl,rfl⟩|exact ⟨rfl,rfl,rfl⟩|exact ⟨trivial,rfl⟩|exact ⟨Nat.le_refl _,rfl⟩|trivial|(simp; done)))
   (try simp only [aE] at hC7)
   exact absurd hC7 (by decide)
  (try simp only [aE] at hC3)
  exact absurd k1 hC3
 refine ab fun K hK=>aa ae ?_
 simp only [an,fl,gp,ak,simprocAttr]
 refine ao trivial (au (iN N mm hm) rfl rfl rfl (by simp only [ay,Nat.reduceLT]) (by repeat (first|exact trivial|constructor)) (aa ae ?_))
 simp only [an,fl,gp,ak,simprocAttr]
 refine ao trivial (au (qB F hF) rfl rfl rfl (by simp only [ay,Nat.reduceLT]) (by repeat (first|exact trivial|constructor)) (aa ae ?_))
 simp only [an,fl,gp,ak,simprocAttr]
 refine ao trivial (au (mr rels hr4) rfl rfl rfl (by simp only [ay,Nat.reduceLT]) (by repeat (first|exact trivial|constructor)) (aa ae ?_))
 simp only [an,fl,gp,ak,simprocAttr]
 refine ao trivial (au (hc) rfl rfl rfl (by simp only [ay,Nat.reduceLT]) (by repeat (first|exact trivial|constructor)) (aa ae ?_))
 simp only [an,fl,gp,ak,simprocAttr]
 refine af ?_ (hK _ ?_)<;>clear hK K
 ·first|exact trivial|omega|(simp only [ah] at *; omega)|(simp [ah] at *; omega)|simp_all
 refine qa (qm ?_)
 have k1:(gf N mm).1=0:=by rw [uT h]
 obtain rfl:=h.1
 have hb:=h.2.1.big
 have G:=h.2.2
 have hFk:Cr F.length n F:=⟨rfl,fun j hj=>by have:=of_decide_eq_false (k3 j hj); omega⟩
 refine ab fun K hK=>aa ae ?_
 simp only [an,fl,gp,ak,simprocAttr]
 refine ao trivial (au (AW n mm (by omega)) rfl rfl rfl (by simp only [ay,Nat.reduceLT]) (by repeat (first|exact trivial|constructor)) (aa ae ?_))
 simp only [an,fl,gp,ak,simprocAttr]
 refine af ?_ (hK _ ?_)<;>clear hK K
 ·first|exact trivial|omega|(simp only [ah] at *; omega)|(simp [ah] at *; omega)|simp_all
 refine qa (qm (qm ?_))
 refine ab fun K hK=>aa ae ?_
 simp only [an,fl,gp,ak,simprocAttr]
 refine af ?_ (hK _ ?_)<;>clear hK K
 ·first|exact trivial|omega|(simp only [ah] at *; omega)|(simp [ah] at *; omega)|simp_all
 refine qa ?_
 refine aq rfl (fun hC3=>?_) (fun hC3=>?_)
 ·(try simp only [aE] at hC3)
  obtain ⟨hn,hlk,hok⟩:=Pr.ka k2
  refine ab fun K hK=>aa ae ?_
  simp only [an,fl,gp,ak,simprocAttr,hlk]
  refine ao trivial (au (wX F.length rels hr4) rfl rfl rfl (by simp only [ay,Nat.reduceLT]) (by repeat (first|exact trivial|constructor)) (aa ae ?_))
  simp only [an,fl,gp,ak,simprocAttr,hlk]
  refine af ?_ (hK _ ?_)<;>clear hK K
  ·first|exact trivial|omega|(simp only [ah] at *; omega)|(simp [ah] at *; omega)|simp_all
  refine qa (qm (qm ?_))
  refine ab fun K hK=>aa ae ?_
  simp only [an,fl,gp,ak,simprocAttr]
  refine af trivial (hK _ ?_)<;>clear hK K
  refine qa (ql ?_)
  refine aD (ι:=Nat) (fun p=>⟨197,[(1,.p (.list (il F))),(2,.p (.list (ll rels))),(3,.ptr 0 0),(7,.p (.bool (AT n e mm F rels))),(8,.ptr 1 0),(9,.ptr 2 0),(10,.p (.int .i64 p))],[.own [.p (.int .i64 n),.p (.list (il mm))],.own [.p (.int .i64 0),.p (.int .i64 0)],.own [.p (.int .i64 0),.p (.int .i64 0)]]⟩) (fun p=>p≤F.length) (fun p=>F.length - p) 0 (Nat.zero_le _) [0,1,2] (by simp only [leq,bx,an,fl,gp,ak,simprocAttr]<;>first|trivial|trace_state) fun p hp=>?_
  refine qm (qm ?_)
  rcases Nat.lt_or_ge p F.length with q1 | q1
  ·have hz1:decide ((p:Int) < (F.length:Int))=true:=decide_eq_true (by omega)
   have hz2:decide ((0:Int)=0)=true:=rfl
   refine ab fun K hK=>aa ae ?_
   simp only [an,fl,gp,ak,simprocAttr,aw,hz1,hz2]
   refine af ?_ (hK _ ?_)<;>clear hK K
   ·first|exact trivial|omega|(simp only [ah] at *; omega)|(simp [ah] at *; omega)|simp_all
   refine qa ?_
   refine aq rfl (fun hC4=>?_) (fun hC4=>?_)
   ·(try simp only [aE] at hC4)
    have hpl:p < F.length:=q1
    refine qh (qa (qm (ql (qm ?_))))
    by_cases g12a:F.getD p 0 < 0
    ·refine aO mixed (by kernel_rfl) fun K hK=>aa ae ?_
     simp only [an,fl,gp,ak,simprocAttr,aw,aL hpl,decide_eq_true g12a]
     refine af ?_ (hK _ ?_)<;>clear hK K
     ·first|exact trivial|omega|(simp only [ah] at *; omega)|(simp [ah] at *; omega)|simp_all
     refine qa ?_
     refine aq rfl (fun hC5=>?_) (fun hC5=>?_)
     ·refine ab fun K hK=>aa ae ?_
      simp only [an,fl,gp,ak,simprocAttr]
      refine ao trivial (au (pN 8 p) rfl rfl rfl (by simp only [ay,Nat.reduceLT]) (by repeat (first|exact trivial|constructor)) (aa ae ?_))
      simp only [an,fl,gp,ak,simprocAttr]
      refine af ?_ (hK _ ?_)<;>clear hK K
      ·first|exact trivial|omega|(simp only [ah] at *; omega)|(simp [ah] at *; omega)|simp_all
      refine qd (qa ?_)
      refine ab fun K hK=>aa ae ?_
      simp only [an,fl,gp,ak,simprocAttr]
      refine af ?_ (hK _ ?_)<;>clear hK K
      ·first|exact trivial|omega|(simp only [ah] at *; omega)|(simp [ah] at *; omega)|simp_all
      refine qa ?_
      exfalso
      have:=of_decide_eq_false (k3 p hpl)
      omega
     cases hC5
    refine aO mixed (by kernel_rfl) fun K hK=>aa ae ?_
    simp only [an,fl,gp,ak,simprocAttr,aw,aL hpl,decide_eq_false g12a]
    refine af ?_ (hK _ ?_)<;>clear hK K
    ·first|exact trivial|omega|(simp only [ah] at *; omega)|(simp [ah] at *; omega)|simp_all
    refine qa ?_
    refine aq rfl (fun hC5=>?_) (fun hC5=>?_)
    ·(try simp only [aE] at hC5)
     refine ab fun K hK=>aa ae ?_
     simp only [an,fl,gp,ak,simprocAttr]
     refine ao trivial (au (pN 8 p) rfl rfl rfl (by simp only [ay,Nat.reduceLT]) (by repeat (first|exact trivial|constructor)) (aa ae ?_))
     simp only [an,fl,gp,ak,simprocAttr]
     refine af ?_ (hK _ ?_)<;>clear hK K
     ·first|exact trivial|omega|(simp only [ah] at *; omega)|(simp [ah] at *; omega)|simp_all
     refine qd (qa ?_)
     refine ab fun K hK=>aa ae ?_
     simp only [an,fl,gp,ak,simprocAttr]
     refine af ?_ (hK _ ?_)<;>clear hK K
     ·first|exact trivial|omega|(simp only [ah] at *; omega)|(simp [ah] at *; omega)|simp_all
     refine qa ?_
     exfalso
     have:=of_decide_eq_false (k3 p hpl)
     omega
    (try simp only [aE] at hC5)
    refine qh (qd (qa ?_))
    refine ab fun K hK=>aa ae ?_
    simp only [an,fl,gp,ak,simprocAttr]
    refine af ?_ (hK _ ?_)<;>clear hK K
    ·first|exact trivial|omega|(simp only [ah] at *; omega)|(simp [ah] at *; omega)|simp_all
    refine qa ?_
    refine ⟨p + 1,[0,1,2],by omega,by omega,?_⟩
    simp only [leq,bx,an,fl,gp,ak,simprocAttr]<;>first|trivial|omega
   cases hC4
  have hz1:decide ((p:Int) < (F.length:Int))=false:=decide_eq_false (by omega)
  have hz2:decide ((0:Int)=0)=true:=rfl
  refine ab fun K hK=>aa ae ?_
  simp only [an,fl,gp,ak,simprocAttr,aw,hz1,hz2]
  refine af trivial (hK _ ?_)<;>clear hK K
  refine qa ?_
  refine aq rfl (fun hC4=>?_) (fun hC4=>?_)
  ·cases hC4
  refine qj (qc (qc (qf (qa (qm (qm ?_))))))
  refine ab fun K hK=>aa ae ?_
  simp only [an,fl,gp,ak,simprocAttr]
  refine af ?_ (hK _ ?_)<;>clear hK K
  ·first|exact trivial|omega|(simp only [ah] at *; omega)|(simp [ah] at *; omega)|simp_all
  refine qa ?_
  refine aq rfl (fun hC6=>?_) (fun hC6=>?_)
  ·(try simp only [aE] at hC6)
   first|exact absurd rfl hC6|exact hC6.elim|cases hC6|(simp at hC6; done)
  (try simp only [aE] at hC6)
  refine qh (qa (qm (qm ?_)))
  refine ab fun K hK=>aa ae ?_
  simp only [an,fl,gp,ak,simprocAttr]
  refine af ?_ (hK _ ?_)<;>clear hK K
  ·first|exact trivial|omega|(simp only [ah] at *; omega)|(simp [ah] at *; omega)|simp_all
  refine qa ?_
  refine aq rfl (fun hC7=>?_) (fun hC7=>?_)
  ·(try simp only [aE] at hC7)
   first|exact hC7.elim|cases hC7|exact absurd rfl hC7|(simp at hC7; done)
  (try simp only [aE] at hC7)
  refine qh (qa (qm ?_))
  refine ab fun K hK=>aa ae ?_
  simp only [an,fl,gp,ak,simprocAttr]
  refine af trivial (hK _ ?_)<;>clear hK K
  refine qa (qm (qm ?_))
  refine ab fun K hK=>aa ae ?_
  simp only [an,fl,gp,ak,simprocAttr]
  refine af trivial (hK _ ?_)<;>clear hK K
  refine qa (ql ?_)
  have hal0:AT n e mm F (rels.take 0)=true:=rfl
  refine aD (ι:=Nat) (fun i=>⟨197,[(1,.p (.list (il F))),(2,.p (.list (ll rels))),(3,.ptr 0 0),(7,.p (.bool (AT n e mm F rels))),(8,.ptr 1 0),(11,.p (.bool (AT n e mm F (rels.take i)))),(12,.p (.int .i64 i))],[.own [.p (.int .i64 n),.p (.list (il mm))],.own [.p (.int .i64 0),.p (.int .i64 0)]]⟩) (fun i=>i≤rels.length) (fun i=>rels.length - i) 0 (Nat.zero_le _) [0,1] (by rw [hal0]; simp only [leq,bx,an,fl,gp,ak,simprocAttr]<;>first|trivial|trace_state) fun i hi=>?_
  refine qm (qm ?_)
  refine ab fun K hK=>aa ae ?_
  simp only [an,fl,gp,ak,simprocAttr,aC]
  refine af trivial (hK _ ?_)<;>clear hK K
  refine qa ?_
  refine aq rfl (fun hC8=>?_) (fun hC8=>?_)
  ·(try simp only [aE] at hC8)
   have hil:i < rels.length:=by omega
   have hs:=Bd (n:=n) (e:=e) (mm:=mm) (F:=F) hil
   have hwm:rels.getD i []∈rels:=by simp [List.getD,List.getElem?_eq_getElem hil]
   generalize hww:rels.getD i []=w at hwm hs
   obtain ⟨hn,hlk,hok⟩:=Pr.ka k2
   have hrl:=hok rels (by simp)
   rw [Int.toNat_natCast] at hrl
   obtain ⟨hw,_,hwl⟩:=hrl.2.2 w hwm
   have hev:=uR h hFk hw (by omega) (by omega)
   have he:=h.eI
   have hdI:=dI (rf n (op mm n) e F w) e
   refine qh (qa (qm (ql ?_)))
   cases hb:AT n e mm F (rels.take i)<;>rw [hb] at hs
   ·refine aO mixed (by kernel_rfl) fun K hK=>aa ae ?_
    simp only [an,fl,gp,ak,simprocAttr,aC,b8 hil,hww,he,hdI]
    refine af trivial (hK _ ?_)<;>clear hK K
    refine qd (qa ?_)
    refine ab fun K hK=>aa ae ?_
    simp only [an,fl,gp,ak,simprocAttr]
    refine af ?_ (hK _ ?_)<;>clear hK K
    ·first|exact trivial|omega|(simp only [ah] at *; omega)|(simp [ah] at *; omega)|simp_all
    refine qa ?_
    refine ⟨i + 1,[0,1],by omega,by omega,?_⟩
    rw [hs]
    simp only [leq,bx,an,fl,gp,ak,simprocAttr]<;>first|trivial|trace_state
   refine aO mixed (by kernel_rfl) fun K hK=>aa ae ?_
   simp only [an,fl,gp,ak,simprocAttr,aC,b8 hil,hww,he,hdI]
   refine ao ?_ (au (hev) rfl rfl rfl (by simp only [ay,Nat.reduceLT]) (by repeat (first|exact trivial|constructor)) (aa ae ?_))
   ·first|omega|exact ⟨by omega,by omega⟩
   simp only [an,fl,gp,ak,simprocAttr,aC,b8 hil,hww,he,hdI]
   refine ao trivial (au (FB h.2.1) rfl rfl rfl (by simp only [ay,Nat.reduceLT]) (by repeat (first|exact trivial|constructor)) (aa ae ?_))
   simp only [an,fl,gp,ak,simprocAttr,aC,b8 hil,hww,he,hdI]
   refine af ?_ (hK _ ?_)<;>clear hK K
   ·first|exact trivial|omega|(simp only [ah] at *; omega)|(simp [ah] at *; omega)|simp_all
   refine qd (qa ?_)
   refine ab fun K hK=>aa ae ?_
   simp only [an,fl,gp,ak,simprocAttr]
   refine af ?_ (hK _ ?_)<;>clear hK K
   ·first|exact trivial|omega|(simp only [ah] at *; omega)|(simp [ah] at *; omega)|simp_all
   refine qa ?_
   refine ⟨i + 1,[0,1],by omega,by omega,?_⟩
   rw [hs]
   simp only [leq,bx,an,fl,gp,ak,simprocAttr]<;>first|trivial|trace_state
  (try simp only [aE] at hC8)
  have hie:i=rels.length:=by omega
  rw [hie,List.take_length]
  refine qj (qc (qc (qf (qa (qm (qm ?_))))))
  refine ab fun K hK=>aa ae ?_
  simp only [an,fl,gp,ak,simprocAttr]
  refine af trivial (hK _ ?_)<;>clear hK K
  refine qa ?_
  refine aq rfl (fun hC9=>?_) (fun hC9=>?_)
  ·(try simp only [aE] at hC9)
   first|exact absurd rfl hC9|exact hC9.elim|cases hC9|(simp at hC9; done)
  (try simp only [aE] at hC9)
  refine qh (qa (qm ?_))
  rcases I5 k2 hr4 with hgc | ⟨T,ho,tk,t0,t60,hgc⟩
  ·refine ab fun K hK=>aa ae ?_
   simp only [an,fl,gp,ak,simprocAttr,aw]
   refine ao trivial (au (hgc) rfl rfl rfl (by simp only [ay,Nat.reduceLT]) (by repeat (first|exact trivial|constructor)) (aa ae ?_))
   simp only [an,fl,gp,ak,simprocAttr,aw]
   refine af ?_ (hK _ ?_)<;>clear hK K
   ·first|exact trivial|omega|(simp only [ah] at *; omega)|(simp [ah] at *; omega)|simp_all
   refine qa (qm (qm ?_))
   refine ab fun K hK=>aa ae ?_
   simp only [an,fl,gp,ak,simprocAttr]
   refine af ?_ (hK _ ?_)<;>clear hK K
   ·first|exact trivial|omega|(simp only [ah] at *; omega)|(simp [ah] at *; omega)|simp_all
   refine qa ?_
   refine aq rfl (fun hC10=>?_) (fun hC10=>?_)
   ·refine qm ?_
    refine aO mixed (by kernel_rfl) fun K hK=>aa ae ?_
    simp only [an,fl,gp,ak,simprocAttr]
    refine ao trivial (au (pN 9 0) rfl rfl rfl (by simp only [ay,Nat.reduceLT]) (by repeat (first|exact trivial|constructor)) (aa ae ?_))
    simp only [an,fl,gp,ak,simprocAttr]
    refine af ?_ (hK _ ?_)<;>clear hK K
    ·first|exact trivial|omega|(simp only [ah] at *; omega)|(simp [ah] at *; omega)|simp_all
    refine qa (qk (qb ?_))
    simp only [Tryd.results3,bT,an,fl,gp,ak,simprocAttr]
    all_goals ((first|exact rfl|exact ⟨rfl,rfl⟩|exact ⟨rfl,rfl,rfl⟩|exact ⟨trivial,rfl⟩|exact ⟨Nat.le_refl _,rfl⟩|trivial|(simp; done)))
   cases hC10
  refine ab fun K hK=>aa ae ?_
  simp only [an,fl,gp,ak,simprocAttr,aw]
  refine ao trivial (au (hgc) rfl rfl rfl (by simp only [ay,Nat.reduceLT]) (by repeat (first|exact trivial|constructor)) (aa ae ?_))
  simp only [an,fl,gp,ak,simprocAttr,aw]
  refine af ?_ (hK _ ?_)<;>clear hK K
  ·first|exact trivial|omega|(simp only [ah] at *; omega)|(simp [ah] at *; omega)|simp_all
  refine qa (qm (qm ?_))
  cases hb:AT n e mm F rels
  ·refine ab fun K hK=>aa ae ?_
   simp only [an,fl,gp,ak,simprocAttr]
   refine af ?_ (hK _ ?_)<;>clear hK K
   ·first|exact trivial|omega|(simp only [ah] at *; omega)|(simp [ah] at *; omega)|simp_all
   refine qa ?_
   refine aq rfl (fun hC10=>?_) (fun hC10=>?_)
   ·(try simp only [aE] at hC10)
    refine qm ?_
    refine aO mixed (by kernel_rfl) fun K hK=>aa ae ?_
    simp only [an,fl,gp,ak,simprocAttr]
    refine af ?_ (hK _ ?_)<;>clear hK K
    ·first|exact trivial|omega|(simp only [ah] at *; omega)|(simp [ah] at *; omega)|simp_all
    refine qa (qk (qb ?_))
    simp only [Tryd.results3,bT,an,fl,gp,ak,simprocAttr]
    all_goals ((first|exact rfl|exact ⟨rfl,rfl⟩|exact ⟨rfl,rfl,rfl⟩|exact ⟨trivial,rfl⟩|exact ⟨Nat.le_refl _,rfl⟩|trivial|(simp; done)))
   (try simp only [aE] at hC10)
   first|exact absurd rfl hC10|exact hC10.elim|cases hC10|(simp at hC10; done)
  refine ab fun K hK=>aa ae ?_
  simp only [an,fl,gp,ak,simprocAttr]
  refine af ?_ (hK _ ?_)<;>clear hK K
  ·first|exact trivial|omega|(simp only [ah] at *; omega)|(simp [ah] at *; omega)|simp_all
  refine qa ?_
  refine aq rfl (fun hC10=>?_) (fun hC10=>?_)
  ·(try simp only [aE] at hC10)
   first|exact absurd rfl hC10|exact hC10.elim|cases hC10|(simp at hC10; done)
  (try simp only [aE] at hC10)
  refine qh (qa (qm (qm ?_)))
  have hall:∀ w∈rels,rf n (op mm n) e F w=e:=fun w hw=>by
   unfold AT at hb
   rw [List.all_eq_true] at hb
   simpa using hb w hw
  obtain ⟨hn,hlk,hok⟩:=Pr.ka k2
  have hg:=se (m:=F.length) (by omega) ho tk t0 t60
  have hgf:=uT hg
  obtain ⟨p1,⟨Xs,hX,hsp⟩,p3⟩:=pack (by omega) ho tk t0 t60 h hFk hall
  have hKl:=ew T F.length
  have hkt:=fun {i:Nat} (hi:i < F.length)=>xq tk t0 hi
  have hM:(Pr.gK T (Pr.dj T F.length)).length≤3600:=by rw [vq]; exact Nat.mul_le_mul t60 t60
  generalize Pr.kV T F.length=Kt at *
  generalize Pr.gK T (Pr.dj T F.length)=M at *
  refine ab fun K hK=>aa ae ?_
  simp only [an,fl,gp,ak,simprocAttr,hgf,aw,hKl]
  refine ao trivial (au (AW T.length M (by omega)) rfl rfl rfl (by simp only [ay,Nat.reduceLT]) (by repeat (first|exact trivial|constructor)) (aa ae ?_))
  simp only [an,fl,gp,ak,simprocAttr,hgf,aw,hKl]
  refine af ?_ (hK _ ?_)<;>clear hK K
  ·first|exact trivial|omega|(simp only [ah] at *; omega)|(simp [ah] at *; omega)|simp_all
  refine qa ?_
  refine aq rfl (fun hC11=>?_) (fun hC11=>?_)
  ·(try simp only [aE] at hC11)
   first|exact absurd rfl hC11|exact hC11.elim|cases hC11|(simp at hC11; done)
  (try simp only [aE] at hC11)
  refine qh (qa (qm (qm ?_)))
  refine ab fun K hK=>aa ae ?_
  simp only [an,fl,gp,ak,simprocAttr]
  refine af trivial (hK _ ?_)<;>clear hK K
  refine qa (ql ?_)
  refine aD (ι:=Nat) (fun i=>⟨197,[(1,.p (.list (il F))),(3,.ptr 0 0),(13,.ptr 1 0),(14,.p (.list (il Kt))),(15,.p (.int .i64 i))],[.own [.p (.int .i64 n),.p (.list (il mm))],.own [.p (.int .i64 T.length),.p (.list (il M))]]⟩) (fun i=>i≤F.length) (fun i=>F.length - i) 0 (Nat.zero_le _) [0,2] (by simp only [leq,bx,an,fl,gp,ak,simprocAttr]<;>first|trivial|trace_state) fun i hi=>?_
  refine qm (qm ?_)
  refine ab fun K hK=>aa ae ?_
  simp only [an,fl,gp,ak,simprocAttr,aw,hKl]
  refine af trivial (hK _ ?_)<;>clear hK K
  refine qa ?_
  refine aq rfl (fun hC12=>?_) (fun hC12=>?_)
  ·(try simp only [aE] at hC12)
   have hil:i < F.length:=by omega
   have hk:=hkt hil
   have hz1:decide (Kt.getD i 0 < 0)=false:=decide_eq_false (by omega)
   have hz2:decide (Kt.getD i 0 ≥ (T.length:Int))=false:=decide_eq_false (by omega)
   refine qh (qa (qm (ql (qm ?_))))
   refine aO mixed (by kernel_rfl) fun K hK=>aa ae ?_
   simp only [an,fl,gp,ak,simprocAttr,aw,hKl,aL (show i < Kt.length by omega),hz1,hz2]
   refine af ?_ (hK _ ?_)<;>clear hK K
   ·first|exact trivial|omega|(simp only [ah] at *; omega)|(simp [ah] at *; omega)|simp_all
   refine qa ?_
   refine aq rfl (fun hC13=>?_) (fun hC13=>?_)
   ·(try simp only [aE] at hC13)
    first|exact absurd rfl hC13|exact hC13.elim|cases hC13|(simp at hC13; done)
   (try simp only [aE] at hC13)
   refine qh (qd (qa ?_))
   refine ab fun K hK=>aa ae ?_
   simp only [an,fl,gp,ak,simprocAttr]
   refine af ?_ (hK _ ?_)<;>clear hK K
   ·first|exact trivial|omega|(simp only [ah] at *; omega)|(simp [ah] at *; omega)|simp_all
   refine qa ?_
   refine ⟨i + 1,[0,1],by omega,by omega,?_⟩
   simp only [leq,bx,an,fl,gp,ak,simprocAttr]<;>first|trivial|omega
  (try simp only [aE] at hC12)
  refine qj (qc (qc (qf (qa (qm (qm ?_))))))
  refine ab fun K hK=>aa ae ?_
  simp only [an,fl,gp,ak,simprocAttr,aw,hKl]
  refine af ?_ (hK _ ?_)<;>clear hK K
  ·first|exact trivial|omega|(simp only [ah] at *; omega)|(simp [ah] at *; omega)|simp_all
  refine qa ?_
  refine aq rfl (fun hC14=>?_) (fun hC14=>?_)
  ·(try simp only [aE] at hC14)
   obtain ⟨X2,hX2⟩:=p1 (by omega)
   have hex:=Bb T.length M n mm Kt F (by omega) (by omega) (by omega) (by omega)
   rw [hX2] at hex
   refine qm ?_
   refine ab fun K hK=>aa ae ?_
   simp only [an,fl,gp,ak,simprocAttr]
   refine ao trivial (au (hex) rfl rfl rfl (by simp only [ay,Nat.reduceLT]) (by repeat (first|exact trivial|constructor)) (aa ae ?_))
   simp only [an,fl,gp,ak,simprocAttr]
   refine af ?_ (hK _ ?_)<;>clear hK K
   ·first|exact trivial|omega|(simp only [ah] at *; omega)|(simp [ah] at *; omega)|simp_all
   refine qa (qm ?_)
   refine ab fun K hK=>aa ae ?_
   simp only [an,fl,gp,ak,simprocAttr]
   refine af ?_ (hK _ ?_)<;>clear hK K
   ·first|exact trivial|omega|(simp only [ah] at *; omega)|(simp [ah] at *; omega)|simp_all
   refine qa ?_
   refine aq rfl (fun hC15=>?_) (fun hC15=>?_)
   ·(try simp only [aE] at hC15)
    first|exact absurd rfl hC15|exact hC15.elim|cases hC15|(simp at hC15; done)
   (try simp only [aE] at hC15)
   refine qh (qa (qm ?_))
   obtain ⟨q,hq⟩:=qu n (op mm n) e (tR F)
   have hdv:=p3 q hq
   have hq0:0 < (ck n q).length:=Nat.pos_of_ne_zero fun hh=>by rw [hh] at hdv; have:=Nat.eq_zero_of_zero_dvd hdv; omega
   have hrF:∀ x∈F,∃ a,a < n∧x=((a:Nat):Int):=fun x hx=>by
    obtain ⟨j,hj,rfl⟩:=List.getElem_of_mem hx
    have:=hFk.2 j hj
    rw [show F.getD j 0=F[j] by simp [List.getD,List.getElem?_eq_getElem hj]] at this
    exact ⟨F[j].toNat,by omega,by omega⟩
   have hne:il Xs ≠ []:=by
    intro hh
    have h1:=congrArg List.length hh
    rw [aw,hX] at h1
    simp only [List.length_nil] at h1
    omega
   have hrm:Int.tmod (T.length:Int) ((ck n q).length:Int)=0:=by
    rw [← Int.ofNat_tmod,Nat.mod_eq_zero_of_dvd hdv]; rfl
   refine aO mixed (by kernel_rfl) fun K hK=>aa ae ?_
   simp only [an,fl,gp,ak,simprocAttr,cR.eq_def,Option.map_some,aw,hrm]
   refine ao ?_ (lL (sN hsp (by simp [il,PV.sc])) rfl (by simp only [da,aU,bH,cg,List.map_cons,List.map_nil,List.append_nil,bT,an,fl,gp,ak,simprocAttr,List.drop_zero,oO,oG,dX,jg,ij,aw]; rfl) (by simp only [ay,Nat.reduceLT]) ?_ (aa ae ?_))
   ·first|exact trivial|omega|(simp only [ah] at *; omega)|(simp [ah] at *; omega)|simp_all
   ·first|exact trivial|omega|(simp only [ah] at *; omega)|(simp [ah] at *; omega)|simp_all
   simp only [an,fl,gp,ak,simprocAttr,cR.eq_def,Option.map_some,aw,hrm]
   refine ao ?_ (au (AR h F (by omega) hrF q hq) rfl rfl rfl (by simp only [ay,Nat.reduceLT]) (by repeat (first|exact trivial|constructor)) (aa ae ?_))
   ·exact hne
   simp only [an,fl,gp,ak,simprocAttr,cR.eq_def,Option.map_some,aw,hrm]
   refine af ?_ (hK _ ?_)<;>clear hK K
   ·first|exact trivial|omega|(simp only [ah] at *; omega)|(simp [ah] at *; omega)|simp_all
   refine qa (qk ?_)
   simp only [Tryd.results3,bT,an,fl,gp,ak,simprocAttr]
   all_goals ((first|exact rfl|exact ⟨rfl,rfl⟩|exact ⟨rfl,rfl,rfl⟩|exact ⟨trivial,rfl⟩|exact ⟨Nat.le_refl _,rfl⟩|trivial|(simp; done)))
  (try simp only [aE] at hC14)
  refine qh (qa (qm ?_))
  obtain ⟨q,hq⟩:=qu n (op mm n) e (tR F)
  have hdv:=p3 q hq
  have hq0:0 < (ck n q).length:=Nat.pos_of_ne_zero fun hh=>by rw [hh] at hdv; have:=Nat.eq_zero_of_zero_dvd hdv; omega
  have hrF:∀ x∈F,∃ a,a < n∧x=((a:Nat):Int):=fun x hx=>by
   obtain ⟨j,hj,rfl⟩:=List.getElem_of_mem hx
   have:=hFk.2 j hj
   rw [show F.getD j 0=F[j] by simp [List.getD,List.getElem?_eq_getElem hj]] at this
   exact ⟨F[j].toNat,by omega,by omega⟩
  have hne:il Xs ≠ []:=by
   intro hh
   have h1:=congrArg List.length hh
   rw [aw,hX] at h1
   simp only [List.length_nil] at h1
   omega
  have hrm:Int.tmod (T.length:Int) ((ck n q).length:Int)=0:=by
   rw [← Int.ofNat_tmod,Nat.mod_eq_zero_of_dvd hdv]; rfl
  refine aO mixed (by kernel_rfl) fun K hK=>aa ae ?_
  simp only [an,fl,gp,ak,simprocAttr,cR.eq_def,Option.map_some,aw,hrm]
  refine ao ?_ (lL (sN hsp (by simp [il,PV.sc])) rfl (by simp only [da,aU,bH,cg,List.map_cons,List.map_nil,List.append_nil,bT,an,fl,gp,ak,simprocAttr,List.drop_zero,oO,oG,dX,jg,ij,aw]; rfl) (by simp only [ay,Nat.reduceLT]) ?_ (aa ae ?_))
  ·first|exact trivial|omega|(simp only [ah] at *; omega)|(simp [ah] at *; omega)|simp_all
  ·first|exact trivial|omega|(simp only [ah] at *; omega)|(simp [ah] at *; omega)|simp_all
  simp only [an,fl,gp,ak,simprocAttr,cR.eq_def,Option.map_some,aw,hrm]
  refine ao ?_ (au (AR h F (by omega) hrF q hq) rfl rfl rfl (by simp only [ay,Nat.reduceLT]) (by repeat (first|exact trivial|constructor)) (aa ae ?_))
  ·exact hne
  simp only [an,fl,gp,ak,simprocAttr,cR.eq_def,Option.map_some,aw,hrm]
  refine af ?_ (hK _ ?_)<;>clear hK K
  ·first|exact trivial|omega|(simp only [ah] at *; omega)|(simp [ah] at *; omega)|simp_all
  refine qa (qk ?_)
  simp only [Tryd.results3,bT,an,fl,gp,ak,simprocAttr]
  all_goals ((first|exact rfl|exact ⟨rfl,rfl⟩|exact ⟨rfl,rfl,rfl⟩|exact ⟨trivial,rfl⟩|exact ⟨Nat.le_refl _,rfl⟩|trivial|(simp; done)))
 (try simp only [aE] at hC3)
 exact absurd k1 hC3
end Go.Proofs.YtpobnnfkeekiaaaDoor
namespace Go.Pv
open Go.RowKit Go.ChangeShapes Go.WideShapes Go.ChangeAt
section
variable {H:Type} {enc:TypeId × Value→H} {P:Program}
theorem jT {e:TypeId} {f:Nat→Bool} : ∀ {l:List (DataW H)},(DataW.weightsAll P e l).all f=true→∀ d∈l,(d.weights P e).all f=true
 | [],_,d,hd=>by simp at hd
 | x :: r,h,d,hd=>by
  simp only [DataW.weightsAll,List.all_append,Bool.and_eq_true] at h
  rcases List.mem_cons.1 hd with rfl | hd
  ·exact h.1
  exact jT h.2 d hd
theorem wu {W:World} {base:Nat} {a:Addr} {u:Value} (h:W.cells? base a 1=some [u]):W.cell? a=some u:=by
 unfold World.cells? at h
 split at h
 ·simp only [List.range_succ,List.range_zero,List.nil_append,List.mapM_cons,List.mapM_nil,Option.bind_eq_bind,Option.pure_def,Option.bind_eq_some_iff] at h
  obtain ⟨v,hv,l,hl,e⟩:=h
  simp only [Option.some.injEq] at hl e
  subst hl
  simp only [List.cons.injEq,and_true] at e
  subst e
  have:a.add 0=a:=by cases a; simp [Addr.add]
  rwa [this] at hv
 cases h
theorem CX {t e ti:TypeId} {W:World} {base:Nat} {v:Value} {d:DataW H} {p:List MemPlace} (ht:P.underlying t=some (.slice e)) (he:P.underlying e=some (.slice ti)) (hti:P.underlying ti=some (.int .i64)) (hce:P.cellsOf e=1) (hc:P.cellsOf ti=1)
  (hbe:P.bytesOf e=24) (hby:P.bytesOf ti=8) (hval:Value.okWide P W .any base t v) (h:DataW.Trod enc P W 0 (fun _=>true) true t v d p) (hw:(d.weights P t).all (·≤reachBytes)=true) :
  ∃ ls:List (List Int),(∀ w∈ls,w.length≤17592186043904)∧ls.length≤17592186043904∧Reads (fun b=>b < W.heap.size) W (.list (ll ls)) v:=by
 obtain ⟨a0,len0,cap0,rfl⟩:=okWide_slice ht hval
 obtain ⟨fuel,hf⟩:=h
 rcases DataW.trod_slice ht hf with ⟨hcs,hx⟩ | ⟨a,len,cap,elems,rest,n,_,hcs,hx,hb,hle,hmax,hlen,hel,_,_⟩
 ·simp [Value.cells] at hcs
  obtain ⟨rfl,rfl,rfl⟩:=hcs
  exact ⟨[],fun x hx=>by simp at hx,Nat.zero_le _,.list0 none 0 fun _=>rfl⟩
 simp [Value.cells] at hcs
 obtain ⟨rfl,rfl,rfl⟩:=hcs
 simp only [Prod.mk.injEq] at hx
 obtain ⟨rfl,rfl⟩:=hx
 simp only [DataW.weights,ht,hbe,List.all_cons,List.all_append,Bool.and_eq_true,decide_eq_true_eq,List.length_map] at hw
 obtain ⟨hw1,hw2,_⟩:=hw
 unfold reachBytes at hw1
 have each:∀ i,∃ xs:List Int,∃ u:Value,i < len0→W.cell? (a.add i)=some u∧xs.length≤17592186043904∧Reads (fun b=>b < W.heap.size) W (.list (il xs)) u:=by
  intro i
  by_cases hi:i < len0
  ·have h1:=hel i hi
   rw [hce,Nat.mul_one,List.getElem?_eq_getElem (show i < elems.length by omega)] at h1
   obtain ⟨cs,hcs,htr⟩:=Option.bind_eq_some_iff.1 h1
   have hwi:=jT hw2 (elems[i]'(by omega)).1 (List.mem_map.2 ⟨_,List.getElem_mem _,rfl⟩)
   obtain ⟨xs,u,rfl,_,g2,g3⟩:=pD he hti hc hby htr hwi
   exact ⟨xs,u,fun _=>⟨wu hcs,g2,g3⟩⟩
  exact ⟨[],undef,fun h=>absurd h hi⟩
 obtain ⟨fx,hfx⟩:=Classical.skolem.1 each
 obtain ⟨fu,hfu⟩:=Classical.skolem.1 hfx
 refine ⟨(List.range len0).map fx,fun w hw=>?_,by rw [List.length_map,List.length_range]; omega,?_⟩
 ·obtain ⟨i,hi,rfl⟩:=List.mem_map.1 hw
  exact (hfu i (List.mem_range.1 hi)).2.1
 have hlen' : (ll ((List.range len0).map fx)).length=len0:=by rw [aC,List.length_map,List.length_range]
 by_cases h0:len0=0
 ·subst h0
  exact .list0 _ _ fun h=>by cases h
 obtain ⟨b,off,spot⟩:=a
 have hspot:spot=none:=by simpa [Addr.add] using World.cell?_spot (hfu 0 (by omega)).1
 subst hspot
 have hone:∀ x∈ll ((List.range len0).map fx),x.cells.length=1:=by
  intro x hx
  obtain ⟨y,_,rfl⟩:=List.mem_map.1 hx
  rfl
 have hfl:flat (ll ((List.range len0).map fx))=ll ((List.range len0).map fx):=dK (jL _)
 have hcell' : ∀ c,c < len0→W.cell? ⟨b,off + c,none⟩=some (fu c):=fun c hc=>by rw [← Go.WideShapes.add_plain]; exact (hfu c hc).1
 have:=Reads.list (ok:=fun b=>b < W.heap.size) (w:=W) (ll ((List.range len0).map fx)) b off cap0 1 fu ?_ hone (by rw [hlen']; exact hle) (fun c hcl=>?_) (fun c hcl=>?_)
 ·rwa [hlen'] at this
 ·have:=hcell' 0 (by omega)
  simp only [World.cell?] at this
  by_cases hb:b < W.heap.size
  ·exact hb
  rw [Array.getElem?_eq_none (by omega)] at this
  simp at this
 ·rw [hfl,hlen'] at hcl
  exact hcell' c hcl
 simp only [hfl]
 have hcl2:c < len0:=by rw [hfl,hlen'] at hcl; exact hcl
 have e:(ll ((List.range len0).map fx))[c]'(by rw [hlen']; exact hcl2) = .list (il (fx c)):=by
  simp [ll]
 rw [e]
 exact (hfu c hcl2).2.2
end
end Go.Pv
namespace Go.Proofs.YtpobnnfkeekiaaaDoor
open Go.Pv Go.ChangeShapes Go.WideShapes Go.ChangeAt Go.WideElems Go.RowKit
theorem own:ownKnob Tryd.prog.godebug=none:=by kernel_rfl
theorem laidOut:laidOutB Tryd.prog=true:=by kernel_rfl
theorem gG:Tryd.prog.globalNamed "math/bits.deBruijn64tab" = some 0:=by kernel_rfl
theorem tG:(Tryd.prog.globals[0]?).map (·.type)=some 78:=by kernel_rfl
theorem cG:Tryd.prog.cellsOf 5=1:=by kernel_rfl
theorem zU (os:Os) (args:Array Value):laidMetH Tryd.prog [("math/bits.deBruijn64tab",Rows.laid_math_bits_deBruijn64tab)] ((World.doorLaid Tryd.prog 4000 os).forCall (fun _ _=>0) ⟨#[],args,[]⟩).memory:=
 laidMetH_of_parts3 (fuel:=8) (laidMet_of_run' 8 (by kernel_rfl) (by kernel_rfl)) (by kernel_rfl) (by kernel_rfl)
def H4:DataW Unit→PV
 | .lit (.int k n)=>.int k n
 | _=>.nil
def datum:List (DataW Unit)→List PV:=List.map H4
theorem wN:(match (Rows.laid_math_bits_deBruijn64tab:DataW Unit) with | .agg l=>datum l | _=>[])=jn:=rfl
theorem Dp {W:World} (h:laidMetH Tryd.prog [("math/bits.deBruijn64tab",Rows.laid_math_bits_deBruijn64tab)] W):nJ (fun b=>b < W.heap.size) W:=by
 refine ⟨fun b h=>h,fun g l hg=>?_⟩
 have hg2:g=0∧l=jn:=by
  unfold gv at hg
  by_cases e:g=0
  ·subst e; exact ⟨rfl,(Option.some.inj hg).symm⟩
  have:(g == 0)=false:=by simpa using e
  rw [this] at hg; simp at hg
 obtain ⟨rfl,rfl⟩:=hg2
 rw [MakeChecks.laidMetH_plain _ _ _ (by kernel_rfl)] at h
 obtain ⟨ps,⟨g0,t0,cs0,f0,p0,q0,hg0,ht0,hv0,hd0,_,_⟩,_,_⟩:=h
 obtain rfl:=Option.some.inj (gG.symm.trans hg0)
 obtain rfl:=Option.some.inj (tG.symm.trans ht0)
 obtain ⟨xs,m1,rfl,hx1,hlen,hn3,hel⟩:=DataW.trod_array Tryd.underlying78 hd0
 have hd1:Rows.laid_math_bits_deBruijn64tab=DataW.agg (xs.map (·.1)):=congrArg Prod.fst hx1
 have hgl:jn=datum (xs.map (·.1)):=by
  rw [← wN,hd1]
 have key:∀ c (h:c < jn.length),W.cell? ⟨0,0 + c,none⟩=some ((cs0[c]?).getD undef)∧Reads (fun b=>b < W.heap.size) W jn[c] ((cs0[c]?).getD undef):=by
  intro c hc
  have hc2:c < 64:=Nat.lt_of_lt_of_le hc (by decide)
  have hcx:c < xs.length:=by omega
  have h1:=hel c hc2
  rw [List.getElem?_eq_getElem hcx] at h1
  obtain ⟨k,e1,e2,_⟩:=DataW.trod_int Tryd.underlying5 h1
  rw [cG] at e1
  have e3:cs0.toList[c]? = some (.int .u8 k):=by
   have:=congrArg (fun l=>l[0]?) e1
   simpa [List.getElem?_take,List.getElem?_drop] using this
  have e4:cs0[c]? = some (.int .u8 k):=by simpa using e3
  have e5:jn[c] = .int .u8 k:=by
   have:jn[c]? = (datum (xs.map (·.1)))[c]?:=by rw [hgl]
   rw [List.getElem?_eq_getElem hc] at this
   simp only [datum,List.getElem?_map,List.getElem?_eq_getElem hcx,Option.map_some,Option.some.injEq] at this
   exact this.trans (by rw [e2]; rfl)
  refine ⟨?_,?_⟩
  ·rw [e4,Nat.zero_add,World.var?_cell gG hv0 c,e4]; rfl
  rw [e4]
  exact e5 ▸ (Reads.int .u8 k)
 refine .ptr _ _ _ (fun c=>(cs0[c]?).getD undef) ?_ (fun c hc=>(key c hc).1) fun c hc=>(key c hc).2
 have:=(key 0 (by decide)).1
 unfold World.cell? at this
 rcases Nat.lt_or_ge 0 W.heap.size with h | h
 ·exact h
 exfalso
 rw [Array.getElem?_eq_none h] at this
 simp at this
end Go.Proofs.YtpobnnfkeekiaaaDoor
