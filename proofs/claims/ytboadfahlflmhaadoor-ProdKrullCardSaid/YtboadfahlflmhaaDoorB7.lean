/-
  Texts of this proof, one behind the other: what each says stands at its head. Conditions: none.
-/
import Derived.Test.YtboadfahlflmhaaDoorB6
import Derived.Test.YtboadfahlflmhaaDoorRows
import Derived.Test.YtboadfahlflmhaaDoorB2
import Derived.ProofKit
import Derived.LaidMore
import Derived.OpenShut
import Derived.Stop.Joined

/-
  The law ProdKrull. Conditions: none.
-/
set_option linter.all false
namespace Go.Proofs.YtboadfahlflmhaaDoor
open Go.Pv

section
variable {n e N d:Nat} {f g:Nat→Nat→Nat} {m M:List Int}
theorem canon (G:Grp n f e) {v:List Int} {p:Nat→Bool} (hv:v=thl n p) (hp:Sub n f e p):Sub n f e (tst v)∧v=thl n (tst v):=by
 have h:∀ a,a < n→p a=tst v a:=fun a ha=>by
  rw [Bool.eq_iff_iff,hv]
  unfold tst
  rw [decide_eq_true_eq,mem_thl_n ha]
 exact ⟨subc G hp h,hv.trans (thl_congr h)⟩
theorem iso_ex (h:GT n m n e) (h' : GT N M N d) (hm:m.length≤1000000000000000) (hM:M.length≤1000000000000000):∃ (r:List Int) (c:Int),FnC Tryd.prog 29 [gp n m,gp N M] (.tup [.list (il r),fl (c,0)])∧(c=0↔∃ φ,Isom n (op m n) N (op M N) φ):=by
 by_cases hex:∃ φ,Isom n (op m n) N (op M N) φ
 ·obtain ⟨φ,h1,h2⟩:=iso_yes h h' hm hM hex
  exact ⟨_,0,h2,fun _=>hex,fun _=>rfl⟩
 ·exact ⟨_,6,iso_no h h' hm hM hex,fun h=>by simp at h,fun h=>absurd h hex⟩

/-- The x's from i on have each one of their own among the y's that are not used. -/
def GInv (L:Nat) (R:Nat→Nat→Prop) (i:Nat) (U:Nat→Bool):Prop:=∃ μ:Nat→Nat,(∀ j,i≤j→j < L→μ j < L∧U (μ j)=false∧R j (μ j))∧∀ j k,i≤j→i≤k→j < L→k < L→μ j=μ k→j=k
theorem GInv.step {L i b:Nat} {R:Nat→Nat→Prop} {U:Nat→Bool} (h:GInv L R i U) (hi:i < L) (hb:b < L) (hU:U b=false) (hR:R i b) (hst:∀ j i b c,j < L→i < L→b < L→c < L→R j b→R i b→R i c→R j c):GInv L R (i + 1) fun v=>U v || v == b:=by
 obtain ⟨μ,h1,h2⟩:=h
 obtain ⟨a1,a2,a3⟩:=h1 i (Nat.le_refl _) hi
 refine ⟨fun j=>if μ j=b then μ i else μ j,fun j hj hjl=>?_,fun j k hj hk hjl hkl he=>?_⟩
 ·obtain ⟨b1,b2,b3⟩:=h1 j (by omega) hjl
  show (if μ j=b then μ i else μ j) < L∧_∧_
  by_cases hjb:μ j=b
  ·have hib:¬ μ i=b:=fun hh=>by
    have:=h2 j i (by omega) (Nat.le_refl _) hjl hi (by rw [hjb,hh])
    omega
   simp only [hjb,if_true]
   refine ⟨a1,by simp [a2,hib],hst j i b (μ i) hjl hi hb a1 (by rw [← hjb]; exact b3) hR a3⟩
  ·simp only [hjb,if_false]
   exact ⟨b1,by simp [b2,hjb],b3⟩
 ·have he' : (if μ j=b then μ i else μ j)=(if μ k=b then μ i else μ k):=he
  by_cases hjb:μ j=b
  ·by_cases hkb:μ k=b
   ·exact h2 j k (by omega) (by omega) hjl hkl (by rw [hjb,hkb])
   ·rw [if_pos hjb,if_neg hkb] at he'
    have:=h2 i k (Nat.le_refl _) (by omega) hi hkl he'
    omega
  ·by_cases hkb:μ k=b
   ·rw [if_neg hjb,if_pos hkb] at he'
    have:=h2 j i (by omega) (Nat.le_refl _) hjl hi he'
    omega
   ·rw [if_neg hjb,if_neg hkb] at he'
    exact h2 j k (by omega) (by omega) hjl hkl he'
theorem GInv.has {L i:Nat} {R:Nat→Nat→Prop} {U:Nat→Bool} (h:GInv L R i U) (hi:i < L) (hno:∀ c,c < L→¬ (U c=false∧R i c)):False:=by
 obtain ⟨μ,h1,_⟩:=h
 obtain ⟨a1,a2,a3⟩:=h1 i (Nat.le_refl _) hi
 exact hno _ a1 ⟨a2,a3⟩
end

set_option maxRecDepth 20000 in
set_option maxHeartbeats 16000000 in
theorem prodKrull_c (N:Int) (m w:List Int) (hm:m.length≤17592186043904) (hw:w.length≤17592186043904):FnC Tryd.prog 12 [gp N m,.list (il w)] (.bool true):=by
 have hG:=gf_c N m (by omega)
 obtain ⟨pf,hPF,hpf⟩:=permFault_ex (p:=w) (by omega)
 have key:¬ (gf N m).1=0∨(∃ n e:Nat,GT N m n e∧¬ w.length=n)∨(∃ n e:Nat,GT N m n e∧w.length=n∧¬ pf.1=0)∨(∃ n e:Nat,GT N m n e∧w.length=n∧pf.1=0∧¬ n≤24)∨(∃ n e:Nat,GT N m n e∧n≤24∧pf.1=0∧∃ π ψ:Nat→Nat,w=tbm n π∧(∀ x,x < n→π x < n)∧Inv2 n π ψ):=by
  by_cases h1:(gf N m).1=0
  ·obtain ⟨n,e,h,_⟩:=gf_ok h1
   by_cases h2:w.length=n
   ·by_cases h3:pf.1=0
    ·by_cases h4:n≤24
     ·obtain ⟨π,ψ,p1,p2,p3⟩:=perm_fn (hpf h3)
      rw [h2] at p1 p2 p3
      exact .inr (.inr (.inr (.inr ⟨n,e,h,h4,h3,π,ψ,p1,p2,p3⟩)))
     ·exact .inr (.inr (.inr (.inl ⟨n,e,h,h2,h3,h4⟩)))
    ·exact .inr (.inr (.inl ⟨n,e,h,h2,h3⟩))
   ·exact .inr (.inl ⟨n,e,h,h2⟩)
  ·exact .inl h1
 refine fnc_of tab_ok Tryd.func12 rfl (by kernel_rfl) (by rw [Tryd.ntmps12]; exact Nat.le_add_left 2 _) ?_; rw [Tryd.ntmps12]
 refine qm ?_
 refine hk_region fun K hK=>runs_eval tab_ok ?_
 simp only [ev0,evA,evB,evP,fl,gp,tab,simprocAttr,reduceCtorEq,reduceIte]
 refine fin_run ?_ (hK _ ?_)<;>clear hK<;>clear K
 ·(first|exact trivial|omega|(simp only [In64] at *; omega)|(simp [In64] at *; omega)|(simp_all; done)|skip)
 refine qa (qm (qm ?_))
 refine hk_region fun K hK=>runs_eval tab_ok ?_
 simp only [ev0,evA,evB,evP,fl,gp,tab,simprocAttr,reduceCtorEq,reduceIte]
 refine fin_stop trivial (runs_call (prodBegun_c) rfl rfl rfl (by simp only [dstOk,Nat.reduceLT]) (by repeat (first|exact trivial|constructor)) (runs_eval tab_ok ?_))
 simp only [ev0,evA,evB,evP,fl,gp,tab,simprocAttr,reduceCtorEq,reduceIte]
 refine fin_run trivial (hK _ ?_)<;>clear hK<;>clear K
 refine qa ?_
 refine hk_cond rfl (fun hC1=>?_) (fun hC1=>?_)
 ·cases hC1
 ·(try simp only [nhs] at hC1)
  refine qh (qa (qm (qm ?_)))
  rcases key with hf | ⟨n,e,h,h2⟩ | ⟨n,e,h,h2,h3⟩ | ⟨n,e,h,h2,h3,h4⟩ | ⟨n,e,h,h2,hp0,π,ψ,rfl,hπ,hI⟩
  ·have hz:=decide_eq_false hf
   refine hk_region fun K hK=>runs_eval tab_ok ?_
   simp only [ev0,evA,evB,evP,fl,gp,tab,simprocAttr,reduceCtorEq,reduceIte,hz]
   refine fin_stop trivial (runs_call (hG) rfl rfl rfl (by simp only [dstOk,Nat.reduceLT]) (by repeat (first|exact trivial|constructor)) (runs_eval tab_ok ?_))
   simp only [ev0,evA,evB,evP,fl,gp,tab,simprocAttr,reduceCtorEq,reduceIte,hz]
   refine fin_run ?_ (hK _ ?_)<;>clear hK<;>clear K
   ·(first|exact trivial|omega|(simp only [In64] at *; omega)|(simp [In64] at *; omega)|(simp_all; done)|skip)
   refine qa ?_
   refine hk_cond rfl (fun hC2=>?_) (fun hC2=>?_)
   ·refine qm ?_
    refine hk_region fun K hK=>runs_eval tab_ok ?_
    simp only [ev0,evA,evB,evP,fl,gp,tab,simprocAttr,reduceCtorEq,reduceIte]
    refine fin_run trivial (hK _ ?_)<;>clear hK<;>clear K
    refine qa (qk (qb ?_))
    simp only [Tryd.results12,enA,ev0,evA,evB,evP,fl,gp,tab,simprocAttr,reduceCtorEq,reduceIte]
    all_goals (rfl)
   ·cases hC2
  ·obtain rfl:=h.1
   rw [gf_of h] at hG
   have hz:decide ((0:Int)=0)=true:=rfl
   refine hk_region fun K hK=>runs_eval tab_ok ?_
   simp only [ev0,evA,evB,evP,fl,gp,tab,simprocAttr,reduceCtorEq,reduceIte,hz,il_length,decide_eq_false (show ¬ ((w.length:Nat):Int)=((n:Nat):Int) by omega)]
   refine fin_stop trivial (runs_call (hG) rfl rfl rfl (by simp only [dstOk,Nat.reduceLT]) (by repeat (first|exact trivial|constructor)) (runs_eval tab_ok ?_))
   simp only [ev0,evA,evB,evP,fl,gp,tab,simprocAttr,reduceCtorEq,reduceIte,hz,il_length,decide_eq_false (show ¬ ((w.length:Nat):Int)=((n:Nat):Int) by omega)]
   refine fin_run ?_ (hK _ ?_)<;>clear hK<;>clear K
   ·(first|exact trivial|omega|(simp only [In64] at *; omega)|(simp [In64] at *; omega)|(simp_all; done)|skip)
   refine qa ?_
   refine hk_cond rfl (fun hC2=>?_) (fun hC2=>?_)
   ·refine qm ?_
    refine hk_region fun K hK=>runs_eval tab_ok ?_
    simp only [ev0,evA,evB,evP,fl,gp,tab,simprocAttr,reduceCtorEq,reduceIte]
    refine fin_run trivial (hK _ ?_)<;>clear hK<;>clear K
    refine qa (qk (qb ?_))
    simp only [Tryd.results12,enA,ev0,evA,evB,evP,fl,gp,tab,simprocAttr,reduceCtorEq,reduceIte]
    all_goals (rfl)
   ·cases hC2
  ·obtain rfl:=h.1
   rw [gf_of h] at hG
   have hz:decide ((0:Int)=0)=true:=rfl
   refine hk_region fun K hK=>runs_eval tab_ok ?_
   simp only [ev0,evA,evB,evP,fl,gp,tab,simprocAttr,reduceCtorEq,reduceIte,hz,il_length,decide_eq_true (show ((w.length:Nat):Int)=((n:Nat):Int) by omega),decide_eq_false h3]
   refine fin_stop trivial (runs_call (hG) rfl rfl rfl (by simp only [dstOk,Nat.reduceLT]) (by repeat (first|exact trivial|constructor)) (runs_eval tab_ok ?_))
   simp only [ev0,evA,evB,evP,fl,gp,tab,simprocAttr,reduceCtorEq,reduceIte,hz,il_length,decide_eq_true (show ((w.length:Nat):Int)=((n:Nat):Int) by omega),decide_eq_false h3]
   refine fin_stop trivial (runs_call (hPF) rfl rfl rfl (by simp only [dstOk,Nat.reduceLT]) (by repeat (first|exact trivial|constructor)) (runs_eval tab_ok ?_))
   simp only [ev0,evA,evB,evP,fl,gp,tab,simprocAttr,reduceCtorEq,reduceIte,hz,il_length,decide_eq_true (show ((w.length:Nat):Int)=((n:Nat):Int) by omega),decide_eq_false h3]
   refine fin_run ?_ (hK _ ?_)<;>clear hK<;>clear K
   ·(first|exact trivial|omega|(simp only [In64] at *; omega)|(simp [In64] at *; omega)|(simp_all; done)|skip)
   refine qa ?_
   refine hk_cond rfl (fun hC2=>?_) (fun hC2=>?_)
   ·refine qm ?_
    refine hk_region fun K hK=>runs_eval tab_ok ?_
    simp only [ev0,evA,evB,evP,fl,gp,tab,simprocAttr,reduceCtorEq,reduceIte]
    refine fin_run trivial (hK _ ?_)<;>clear hK<;>clear K
    refine qa (qk (qb ?_))
    simp only [Tryd.results12,enA,ev0,evA,evB,evP,fl,gp,tab,simprocAttr,reduceCtorEq,reduceIte]
    all_goals (rfl)
   ·cases hC2
  ·obtain rfl:=h.1
   rw [gf_of h] at hG
   have hz:decide ((0:Int)=0)=true:=rfl
   refine hk_region fun K hK=>runs_eval tab_ok ?_
   simp only [ev0,evA,evB,evP,fl,gp,tab,simprocAttr,reduceCtorEq,reduceIte,hz,il_length,decide_eq_true (show ((w.length:Nat):Int)=((n:Nat):Int) by omega),decide_eq_true h3,decide_eq_true (show ((n:Nat):Int) > 24 by omega)]
   refine fin_stop trivial (runs_call (hG) rfl rfl rfl (by simp only [dstOk,Nat.reduceLT]) (by repeat (first|exact trivial|constructor)) (runs_eval tab_ok ?_))
   simp only [ev0,evA,evB,evP,fl,gp,tab,simprocAttr,reduceCtorEq,reduceIte,hz,il_length,decide_eq_true (show ((w.length:Nat):Int)=((n:Nat):Int) by omega),decide_eq_true h3,decide_eq_true (show ((n:Nat):Int) > 24 by omega)]
   refine fin_stop trivial (runs_call (hPF) rfl rfl rfl (by simp only [dstOk,Nat.reduceLT]) (by repeat (first|exact trivial|constructor)) (runs_eval tab_ok ?_))
   simp only [ev0,evA,evB,evP,fl,gp,tab,simprocAttr,reduceCtorEq,reduceIte,hz,il_length,decide_eq_true (show ((w.length:Nat):Int)=((n:Nat):Int) by omega),decide_eq_true h3,decide_eq_true (show ((n:Nat):Int) > 24 by omega)]
   refine fin_run ?_ (hK _ ?_)<;>clear hK<;>clear K
   ·(first|exact trivial|omega|(simp only [In64] at *; omega)|(simp [In64] at *; omega)|(simp_all; done)|skip)
   refine qa ?_
   refine hk_cond rfl (fun hC2=>?_) (fun hC2=>?_)
   ·(try simp only [nhs] at hC2)
    refine qm ?_
    refine hk_region fun K hK=>runs_eval tab_ok ?_
    simp only [ev0,evA,evB,evP,fl,gp,tab,simprocAttr,reduceCtorEq,reduceIte]
    refine fin_run trivial (hK _ ?_)<;>clear hK<;>clear K
    refine qa (qk (qb ?_))
    simp only [Tryd.results12,enA,ev0,evA,evB,evP,fl,gp,tab,simprocAttr,reduceCtorEq,reduceIte]
    all_goals (rfl)
   ·cases hC2
  ·obtain rfl:=h.1
   have hb:=h.2.1.big
   have G:=h.2.2
   rw [gf_of h] at hG
   have hz:decide ((0:Int)=0)=true:=rfl
   have hwl:=tbm_len n π
   have h':=rtb_GT h hπ hI
   have his:=rtb_isom h hπ hI
   have hrl:(rtb n (op m n) π ψ).length=n * n:=tbl_len _ _
   have hsq:=sq_le (show n≤60 by omega)
   obtain ⟨LX,cX,hx1,hx5,hLX,hsX,hDX,hoX⟩:=split_key h h2 (by omega)
   obtain ⟨LY,cY,hy1,hy5,hLY,hsY,hDY,hoY⟩:=split_key h' h2 (by omega)
   obtain ⟨hXY,μ,hμ1,hμ2⟩:=ks_ix h.2.2 h'.2.2 his hLX hLY hDX hDY hoX hoY
   refine hk_region fun K hK=>runs_eval tab_ok ?_
   simp only [ev0,evA,evB,evP,fl,gp,tab,simprocAttr,reduceCtorEq,reduceIte,hz,il_length,hwl,decide_eq_true (show ((n:Nat):Int)=((n:Nat):Int) by omega),decide_eq_true hp0,decide_eq_false (show ¬ ((n:Nat):Int) > 24 by omega)]
   refine fin_stop trivial (runs_call (hG) rfl rfl rfl (by simp only [dstOk,Nat.reduceLT]) (by repeat (first|exact trivial|constructor)) (runs_eval tab_ok ?_))
   simp only [ev0,evA,evB,evP,fl,gp,tab,simprocAttr,reduceCtorEq,reduceIte,hz,il_length,hwl,decide_eq_true (show ((n:Nat):Int)=((n:Nat):Int) by omega),decide_eq_true hp0,decide_eq_false (show ¬ ((n:Nat):Int) > 24 by omega)]
   refine fin_stop trivial (runs_call (hPF) rfl rfl rfl (by simp only [dstOk,Nat.reduceLT]) (by repeat (first|exact trivial|constructor)) (runs_eval tab_ok ?_))
   simp only [ev0,evA,evB,evP,fl,gp,tab,simprocAttr,reduceCtorEq,reduceIte,hz,il_length,hwl,decide_eq_true (show ((n:Nat):Int)=((n:Nat):Int) by omega),decide_eq_true hp0,decide_eq_false (show ¬ ((n:Nat):Int) > 24 by omega)]
   refine fin_run ?_ (hK _ ?_)<;>clear hK<;>clear K
   ·(first|exact trivial|omega|(simp only [In64] at *; omega)|(simp [In64] at *; omega)|(simp_all; done)|skip)
   refine qa ?_
   refine hk_cond rfl (fun hC2=>?_) (fun hC2=>?_)
   ·cases hC2
   ·(try simp only [nhs] at hC2)
    refine qh (qa (qm ?_))
    refine hk_region fun K hK=>runs_eval tab_ok ?_
    simp only [ev0,evA,evB,evP,fl,gp,tab,simprocAttr,reduceCtorEq,reduceIte]
    refine fin_stop trivial (runs_call (inverse_c (by omega) hπ hI) rfl rfl rfl (by simp only [dstOk,Nat.reduceLT]) (by repeat (first|exact trivial|constructor)) (runs_eval tab_ok ?_))
    simp only [ev0,evA,evB,evP,fl,gp,tab,simprocAttr,reduceCtorEq,reduceIte]
    refine fin_run trivial (hK _ ?_)<;>clear hK<;>clear K
    refine qa (qm ?_)
    refine hk_region fun K hK=>runs_eval tab_ok ?_
    simp only [ev0,evA,evB,evP,fl,gp,tab,simprocAttr,reduceCtorEq,reduceIte]
    refine fin_run ?_ (hK _ ?_)<;>clear hK<;>clear K
    ·(first|exact trivial|omega|(simp only [In64] at *; omega)|(simp [In64] at *; omega)|(simp_all; done)|skip)
    refine qa (qm (qm ?_))
    refine hk_own0c 1 1 rfl rfl ?_
    simp only [hset,List.cons_append,List.nil_append,List.set,List.length_cons,List.length_nil]
    refine hk_region fun K hK=>runs_eval tab_ok ?_
    simp only [ev0,evA,evB,evP,fl,gp,tab,simprocAttr,reduceCtorEq,reduceIte]
    refine fin_run trivial (hK _ ?_)<;>clear hK<;>clear K
    refine qa (ql ?_)
    refine hk_loop (ι:=Nat) (fun a=>⟨171,[(1,.p (.list (il (tbm n π)))),(2,.ptr 0 0),(5,.p (.list (il (tbm n ψ)))),(6,.ptr 1 0),(7,.p (.int .i64 a))],[.own [.p (.int .i64 n),.p (.list (il m))],.own [.p (.int .i64 n),.sl 2 0 (tbr (fun i j=>((rnu (op m n) π ψ i j:Nat):Int)) n (a * n)).length],.own (ol (tbr (fun i j=>((rnu (op m n) π ψ i j:Nat):Int)) n (a * n)))]⟩) (fun a=>a≤n) (fun a=>n - a) 0 (Nat.zero_le _) [0,1,2] (by rw [Nat.zero_mul]; simp only [leq,leA,ev0,evA,evB,evP,fl,gp,tab,simprocAttr,reduceCtorEq,reduceIte]<;>first|trivial|simp [tbr]|trace_state) fun a ha=>?_
    have hlen:=tbr_len (fun i j=>((rnu (op m n) π ψ i j:Nat):Int)) n
    refine qm (qm ?_)
    refine hk_region fun K hK=>runs_eval tab_ok ?_
    simp only [ev0,evA,evB,evP,fl,gp,tab,simprocAttr,reduceCtorEq,reduceIte]
    refine fin_run ?_ (hK _ ?_)<;>clear hK<;>clear K
    ·(first|exact trivial|omega|(simp only [In64] at *; omega)|(simp [In64] at *; omega)|(simp_all; done)|skip)
    refine qa ?_
    refine hk_cond rfl (fun hC3=>?_) (fun hC3=>?_)
    ·(try simp only [nhs] at hC3)
     have hal:a < n:=by omega
     have ka:=hI.lt a hal
     refine qh (qa (qm (ql (qm ?_))))
     refine hk_region fun K hK=>runs_eval tab_ok ?_
     simp only [ev0,evA,evB,evP,fl,gp,tab,simprocAttr,reduceCtorEq,reduceIte]
     refine fin_run trivial (hK _ ?_)<;>clear hK<;>clear K
     refine qa (ql ?_)
     refine hk_loop (ι:=Nat) (fun b=>⟨171,[(1,.p (.list (il (tbm n π)))),(2,.ptr 0 0),(5,.p (.list (il (tbm n ψ)))),(6,.ptr 1 0),(7,.p (.int .i64 a)),(8,.p (.int .i64 b))],[.own [.p (.int .i64 n),.p (.list (il m))],.own [.p (.int .i64 n),.sl 2 0 (tbr (fun i j=>((rnu (op m n) π ψ i j:Nat):Int)) n (a * n + b)).length],.own (ol (tbr (fun i j=>((rnu (op m n) π ψ i j:Nat):Int)) n (a * n + b)))]⟩) (fun b=>b≤n) (fun b=>n - b) 0 (Nat.zero_le _) [0,1,2] (by rw [Nat.add_zero]; simp only [leq,leA,ev0,evA,evB,evP,fl,gp,tab,simprocAttr,reduceCtorEq,reduceIte]<;>first|trivial|exact ⟨rfl,rfl⟩|trace_state) fun b hb'=>?_
     refine qm (qm ?_)
     refine hk_region fun K hK=>runs_eval tab_ok ?_
     simp only [ev0,evA,evB,evP,fl,gp,tab,simprocAttr,reduceCtorEq,reduceIte]
     refine fin_run ?_ (hK _ ?_)<;>clear hK<;>clear K
     ·(first|exact trivial|omega|(simp only [In64] at *; omega)|(simp [In64] at *; omega)|(simp_all; done)|skip)
     refine qa ?_
     refine hk_cond rfl (fun hC4=>?_) (fun hC4=>?_)
     ·(try simp only [nhs] at hC4)
      have hbl:b < n:=by omega
      have kb:=hI.lt b hbl
      have hat:=at_lt hal hbl
      have hl:=hlen (a * n + b)
      have ea:=tbm_get (φ:=ψ) hal
      have eb:=tbm_get (φ:=ψ) hbl
      have kc:=G.cl _ _ ka kb
      have ec:=tbm_get (φ:=π) kc
      have hpl:=tbm_len n ψ
      have hts:tbr (fun i j=>((rnu (op m n) π ψ i j:Nat):Int)) n (a * n + (b + 1))=tbr (fun i j=>((rnu (op m n) π ψ i j:Nat):Int)) n (a * n + b)++[((π (op m n (ψ a) (ψ b)):Nat):Int)]:=tbr_succ _ hbl
      refine qh (qa (qm (ql ?_)))
      refine hk_draw2 mixed fun K hK=>runs2_eval tab_ok ?_
      simp only [evD,ev0,evA,evB,evP,fl,gp,tab,simprocAttr,reduceCtorEq,reduceIte,il_length,hwl,hpl,il_get (show a < (tbm n ψ).length by omega),il_get (show b < (tbm n ψ).length by omega),ea,eb,il_get (show op m n (ψ a) (ψ b) < (tbm n π).length by omega),ec]
      refine fin2_stop ?_ (runs2_call (m_c h.2.1 ka kb) rfl rfl rfl rfl (by simp only [dstOk,Nat.reduceLT]) (by repeat (first|exact trivial|constructor)) (runs2_eval tab_ok ?_))
      ·exact ⟨⟨by omega,by omega⟩,by omega,by omega⟩
      simp only [evD,ev0,evA,evB,evP,fl,gp,tab,simprocAttr,reduceCtorEq,reduceIte,il_length,hwl,hpl,il_get (show a < (tbm n ψ).length by omega),il_get (show b < (tbm n ψ).length by omega),ea,eb,il_get (show op m n (ψ a) (ψ b) < (tbm n π).length by omega),ec]
      refine fin2_run ?_ (hK _ _ (by first|kernel_rfl|rfl) ?_)<;>clear hK<;>clear K
      ·(first|exact trivial|omega|(simp only [In64] at *; omega)|(simp [In64] at *; omega)|(simp_all; done)|skip)
      refine qd (qa ?_)
      refine hk_region fun K hK=>runs_eval tab_ok ?_
      simp only [ev0,evA,evB,evP,fl,gp,tab,simprocAttr,reduceCtorEq,reduceIte]
      refine fin_run ?_ (hK _ ?_)<;>clear hK<;>clear K
      ·(first|exact trivial|omega|(simp only [In64] at *; omega)|(simp [In64] at *; omega)|(simp_all; done)|skip)
      refine qa ?_
      refine ⟨b + 1,[0,1,3],by omega,by omega,?_⟩
      rw [hts]
      simp only [leq,leA,ev0,evA,evB,evP,fl,gp,tab,simprocAttr,reduceCtorEq,reduceIte]<;>first|trivial|omega|trace_state
     ·(try simp only [nhs] at hC4)
      have hbn:b=n:=by omega
      refine qj (qc (qc (qf (qd (qa ?_)))))
      refine hk_region fun K hK=>runs_eval tab_ok ?_
      simp only [ev0,evA,evB,evP,fl,gp,tab,simprocAttr,reduceCtorEq,reduceIte]
      refine fin_run ?_ (hK _ ?_)<;>clear hK<;>clear K
      ·(first|exact trivial|omega|(simp only [In64] at *; omega)|(simp [In64] at *; omega)|(simp_all; done)|skip)
      refine qa ?_
      refine ⟨a + 1,[0,1,2],by omega,by omega,?_⟩
      rw [hbn,show (a + 1) * n=a * n + n by rw [Nat.add_mul,Nat.one_mul]]
      simp only [leq,leA,ev0,evA,evB,evP,fl,gp,tab,simprocAttr,reduceCtorEq,reduceIte]<;>first|trivial|omega|trace_state
    ·(try simp only [nhs] at hC3)
     have han:a=n:=by omega
     subst han
     have hfin:tbr (fun i j=>((rnu (op m a) π ψ i j:Nat):Int)) a (a * a)=rtb a (op m a) π ψ:=rfl
     rw [hfin]
     refine hk_freeze 2 rfl (ol_allP _) ?_
     refine hk_purec 1 1 rfl rfl rfl ⟨by rw [il_length]; omega,by rw [List.drop_zero,List.take_of_length_le (by rw [il_length]; exact Nat.le_refl _)]; exact il_all _⟩ ?_
     simp only [hset,List.set,List.drop_zero,List.take_of_length_le (show (il (rtb a (op m a) π ψ)).length≤(rtb a (op m a) π ψ).length by rw [il_length]; exact Nat.le_refl _)]
     refine qj (qc (qc (qf (qa (qm ?_)))))
     refine hk_region fun K hK=>runs_eval tab_ok ?_
     simp only [ev0,evA,evB,evP,fl,gp,tab,simprocAttr,reduceCtorEq,reduceIte]
     refine fin_stop trivial (runs_call (cX) rfl rfl rfl (by simp only [dstOk,Nat.reduceLT]) (by repeat (first|exact trivial|constructor)) (runs_eval tab_ok ?_))
     simp only [ev0,evA,evB,evP,fl,gp,tab,simprocAttr,reduceCtorEq,reduceIte]
     refine fin_run ?_ (hK _ ?_)<;>clear hK<;>clear K
     ·(first|exact trivial|omega|(simp only [In64] at *; omega)|(simp [In64] at *; omega)|(simp_all; done)|skip)
     refine qa (qm ?_)
     refine hk_region fun K hK=>runs_eval tab_ok ?_
     simp only [ev0,evA,evB,evP,fl,gp,tab,simprocAttr,reduceCtorEq,reduceIte]
     refine fin_stop trivial (runs_call (cY) rfl rfl rfl (by simp only [dstOk,Nat.reduceLT]) (by repeat (first|exact trivial|constructor)) (runs_eval tab_ok ?_))
     simp only [ev0,evA,evB,evP,fl,gp,tab,simprocAttr,reduceCtorEq,reduceIte]
     refine fin_run ?_ (hK _ ?_)<;>clear hK<;>clear K
     ·(first|exact trivial|omega|(simp only [In64] at *; omega)|(simp [In64] at *; omega)|(simp_all; done)|skip)
     refine qa (qm (qm ?_))
     refine hk_region fun K hK=>runs_eval tab_ok ?_
     simp only [ev0,evA,evB,evP,fl,gp,tab,simprocAttr,reduceCtorEq,reduceIte,ll_length,decide_eq_true (show ((LX.length:Nat):Int)=((LY.length:Nat):Int) by omega)]
     refine fin_run ?_ (hK _ ?_)<;>clear hK<;>clear K
     ·(first|exact trivial|omega|(simp only [In64] at *; omega)|(simp [In64] at *; omega)|(simp_all; done)|skip)
     refine qa ?_
     refine hk_cond rfl (fun hC5=>?_) (fun hC5=>?_)
     ·cases hC5
     ·(try simp only [nhs] at hC5)
      refine qh (qa (qm ?_))
      refine hk_region fun K hK=>runs_eval tab_ok ?_
      simp only [ev0,evA,evB,evP,fl,gp,tab,simprocAttr,reduceCtorEq,reduceIte,ll_length,pbl_rep]
      refine fin_run ?_ (hK _ ?_)<;>clear hK<;>clear K
      ·exact ⟨by omega,by omega,by omega,by omega⟩
      refine qa (qm (qm ?_))
      refine hk_region fun K hK=>runs_eval tab_ok ?_
      simp only [ev0,evA,evB,evP,fl,gp,tab,simprocAttr,reduceCtorEq,reduceIte]
      refine fin_run trivial (hK _ ?_)<;>clear hK<;>clear K
      refine qa (ql ?_)
      have hLXg:∀ j,j < LX.length→∃ p,LX.getD j []=thl a p∧Sub a (op m a) e p:=fun j hj=>by
       obtain ⟨p,hv,hp,_⟩:=hLX (LX.getD j []) (by simp [List.getD,List.getElem?_eq_getElem hj])
       exact ⟨p,hv,hp.1⟩
      have hLYg:∀ j,j < LX.length→∃ p,LY.getD j []=thl a p∧Sub a (op (rtb a (op m a) π ψ) a) (π e) p:=fun j hj=>by
       obtain ⟨p,hv,hp,_⟩:=hLY (LY.getD j []) (by simp [List.getD,List.getElem?_eq_getElem (show j < LY.length by omega)])
       exact ⟨p,hv,hp.1⟩
      have hX:∀ j,j < LX.length→Sub a (op m a) e (tst (LX.getD j []))∧LX.getD j []=thl a (tst (LX.getD j [])):=fun j hj=>by
       obtain ⟨p,hv,hp⟩:=hLXg j hj
       exact canon h.2.2 hv hp
      have hY:∀ j,j < LX.length→Sub a (op (rtb a (op m a) π ψ) a) (π e) (tst (LY.getD j []))∧LY.getD j []=thl a (tst (LY.getD j [])):=fun j hj=>by
       obtain ⟨p,hv,hp⟩:=hLYg j hj
       exact canon h'.2.2 hv hp
      have hst:∀ j i b c,j < LX.length→i < LX.length→b < LX.length→c < LX.length→Pis a (op m a) (tst (LX.getD j [])) a (op (rtb a (op m a) π ψ) a) (tst (LY.getD b []))→Pis a (op m a) (tst (LX.getD i [])) a (op (rtb a (op m a) π ψ) a) (tst (LY.getD b []))→Pis a (op m a) (tst (LX.getD i [])) a (op (rtb a (op m a) π ψ) a) (tst (LY.getD c []))→Pis a (op m a) (tst (LX.getD j [])) a (op (rtb a (op m a) π ψ) a) (tst (LY.getD c [])):=by
       rintro j i b c hj hi hb hc ⟨φ1,k1⟩ ⟨φ2,k2⟩ ⟨φ3,k3⟩
       obtain ⟨φ4,k4⟩:=k2.symm (ptb_GT h (hX i hi).1).2.2
       exact ⟨_,(k1.comp k4).comp k3⟩
      have hG0:GInv LX.length (fun j b=>Pis a (op m a) (tst (LX.getD j [])) a (op (rtb a (op m a) π ψ) a) (tst (LY.getD b []))) 0 fun _=>false:=
       ⟨μ,fun j _ hj=>⟨(hμ1 j hj).1,rfl,(hμ1 j hj).2 _ _ (hX j hj).1 (hY _ (hμ1 j hj).1).1 (hX j hj).2 (hY _ (hμ1 j hj).1).2⟩,fun j k _ _ hj hk=>hμ2 j k hj hk⟩
      generalize hRR:(fun j b=>Pis a (op m a) (tst (LX.getD j [])) a (op (rtb a (op m a) π ψ) a) (tst (LY.getD b [])))=RR at hG0
      have hRd:∀ j b,RR j b↔Pis a (op m a) (tst (LX.getD j [])) a (op (rtb a (op m a) π ψ) a) (tst (LY.getD b [])):=fun j b=>by rw [← hRR]
      have hstR:∀ j i b c,j < LX.length→i < LX.length→b < LX.length→c < LX.length→RR j b→RR i b→RR i c→RR j c:=by
       simp only [hRd]
       exact hst
      refine hk_loop (ι:=Nat × (Nat→Bool)) (fun s=>⟨171,[(2,.ptr 0 0),(6,.ptr 1 0),(9,.p (.list (ll LX))),(11,.p (.list (ll LY))),(13,.sl 2 0 LY.length),(14,.p (.int .i64 s.1))],[.own [.p (.int .i64 a),.p (.list (il m))],.own [.p (.int .i64 a),.p (.list (il (rtb a (op m a) π ψ)))],.own (pbl s.2 LY.length)]⟩) (fun s=>s.1≤LX.length∧GInv LX.length RR s.1 s.2) (fun s=>LX.length - s.1) (0,fun _=>false) ⟨Nat.zero_le _,hG0⟩ [0,1,5] (by simp only [leq,leA,ev0,evA,evB,evP,fl,gp,tab,simprocAttr,reduceCtorEq,reduceIte,pbl_ren,pbl_sc,pbl_len,pbl_take]<;>first|trivial|exact ⟨rfl,rfl⟩|trace_state) fun s hs=>?_
      obtain ⟨i,U⟩:=s
      obtain ⟨hi,hJ⟩:=hs
      simp only at hi hJ
      refine qm (qm ?_)
      refine hk_region fun K hK=>runs_eval tab_ok ?_
      simp only [ev0,evA,evB,evP,fl,gp,tab,simprocAttr,reduceCtorEq,reduceIte,ll_length]
      refine fin_run trivial (hK _ ?_)<;>clear hK<;>clear K
      refine qa ?_
      refine hk_cond rfl (fun hC6=>?_) (fun hC6=>?_)
      ·(try simp only [nhs] at hC6)
       have hil:i < LX.length:=by omega
       have hgx:=ll_get (ls:=LX) (i:=i) hil
       obtain ⟨sP,eP⟩:=hX i hil
       have hRi:=hRd i
       generalize tst (LX.getD i [])=p at *
       rw [eP] at hgx
       have lp:=thl_le a p
       have hpos:=len_pos G sP
       have hPt:=ptb_GT h sP
       refine qh (qa (qm (ql (qm ?_))))
       refine hk_draw2 mixed fun K hK=>runs2_eval tab_ok ?_
       simp only [evD,ev0,evA,evB,evP,fl,gp,tab,simprocAttr,reduceCtorEq,reduceIte,ll_length,hgx]
       refine fin2_stop ?_ (runs2_call (part_ok h p sP) rfl rfl rfl rfl (by simp only [dstOk,Nat.reduceLT]) (by repeat (first|exact trivial|constructor)) (runs2_eval tab_ok ?_))
       ·exact ⟨by omega,by omega⟩
       simp only [evD,ev0,evA,evB,evP,fl,gp,tab,simprocAttr,reduceCtorEq,reduceIte,ll_length,hgx]
       refine fin2_run ?_ (hK _ _ (by first|kernel_rfl|rfl) ?_)<;>clear hK<;>clear K
       ·(first|exact trivial|omega|(simp only [In64] at *; omega)|(simp [In64] at *; omega)|(simp_all; done)|skip)
       refine qa (qm (qm ?_))
       refine hk_region fun K hK=>runs_eval tab_ok ?_
       simp only [ev0,evA,evB,evP,fl,gp,tab,simprocAttr,reduceCtorEq,reduceIte]
       refine fin_run ?_ (hK _ ?_)<;>clear hK<;>clear K
       ·(first|exact trivial|omega|(simp only [In64] at *; omega)|(simp [In64] at *; omega)|(simp_all; done)|skip)
       refine qa ?_
       refine hk_cond rfl (fun hC7=>?_) (fun hC7=>?_)
       ·cases hC7
       ·(try simp only [nhs] at hC7)
        refine qh (qa (qm ?_))
        refine hk_region fun K hK=>runs_eval tab_ok ?_
        simp only [ev0,evA,evB,evP,fl,gp,tab,simprocAttr,reduceCtorEq,reduceIte]
        refine fin_run trivial (hK _ ?_)<;>clear hK<;>clear K
        refine qa (qm (qm ?_))
        refine hk_region fun K hK=>runs_eval tab_ok ?_
        simp only [ev0,evA,evB,evP,fl,gp,tab,simprocAttr,reduceCtorEq,reduceIte]
        refine fin_run trivial (hK _ ?_)<;>clear hK<;>clear K
        refine qa (ql ?_)
        refine hk_loop (ι:=Nat × (Nat→Bool) × Bool) (fun s=>⟨171,[(2,.ptr 0 0),(6,.ptr 1 0),(9,.p (.list (ll LX))),(11,.p (.list (ll LY))),(13,.sl 2 0 LY.length),(14,.p (.int .i64 i)),(15,.ptr 3 0),(17,.p (.bool s.2.2)),(18,.p (.int .i64 s.1))],[.own [.p (.int .i64 a),.p (.list (il m))],.own [.p (.int .i64 a),.p (.list (il (rtb a (op m a) π ψ)))],.own (pbl s.2.1 LY.length),.own [.p (.int .i64 (thl a p).length),.p (.list (il (ptb a (op m a) p)))]]⟩) (fun s=>s.1≤LX.length∧(s.2.2=false→s.2.1=U∧∀ c,c < s.1→¬ (U c=false∧RR i c))∧(s.2.2=true→GInv LX.length RR (i + 1) s.2.1)) (fun s=>LX.length - s.1) (0,U,false) ⟨Nat.zero_le _,fun _=>⟨rfl,fun c hc=>absurd hc (Nat.not_lt_zero _)⟩,fun h=>(by cases h)⟩ [0,1,2,3] (by simp only [leq,leA,ev0,evA,evB,evP,fl,gp,tab,simprocAttr,reduceCtorEq,reduceIte,pbl_ren,pbl_sc,pbl_len,pbl_take]<;>first|trivial|exact ⟨rfl,rfl⟩|trace_state) fun s hs=>?_
        obtain ⟨b,V,ok⟩:=s
        obtain ⟨hb1,hno,hyes⟩:=hs
        simp only at hb1 hno hyes
        have hcs:(b < LX.length∧ok=false)∨(b < LX.length∧ok=true)∨(¬ b < LX.length∧ok=true):=by
         by_cases hbl:b < LX.length
         ·cases ok
          ·exact .inl ⟨hbl,rfl⟩
          ·exact .inr (.inl ⟨hbl,rfl⟩)
         ·cases ok
          ·refine absurd (hJ.has hil fun c hc=>(hno rfl).2 c (by omega)) id
          ·exact .inr (.inr ⟨hbl,rfl⟩)
        refine qm (qm ?_)
        rcases hcs with ⟨hbl,rfl⟩ | ⟨hbl,rfl⟩ | ⟨hbl,rfl⟩
        ·refine hk_region fun K hK=>runs_eval tab_ok ?_
         simp only [ev0,evA,evB,evP,fl,gp,tab,simprocAttr,reduceCtorEq,reduceIte,ll_length,decide_eq_true (show ((b:Nat):Int) < ((LY.length:Nat):Int) by omega)]
         refine fin_run trivial (hK _ ?_)<;>clear hK<;>clear K
         refine qa ?_
         refine hk_cond rfl (fun hC8=>?_) (fun hC8=>?_)
         ·(try simp only [nhs] at hC8)
          obtain ⟨rfl,hno2⟩:=hno rfl
          have hgy:=ll_get (ls:=LY) (i:=b) (by omega)
          obtain ⟨sQ,eQ⟩:=hY b hbl
          have hRb:=hRi b
          generalize tst (LY.getD b [])=q at *
          rw [eQ] at hgy
          have lq:=thl_le a q
          have hQt:=ptb_GT h' sQ
          have hpl:=tbl_len (fun i j=>((pop a (op m a) p i j:Nat):Int)) (thl a p).length
          have hql:=tbl_len (fun i j=>((pop a (op (rtb a (op m a) π ψ) a) q i j:Nat):Int)) (thl a q).length
          have hps:=sq_le (show (thl a p).length≤60 by omega)
          have hqs:=sq_le (show (thl a q).length≤60 by omega)
          obtain ⟨ri,ci,cI,hcI⟩:=iso_ex hPt hQt (by unfold ptb; omega) (by unfold ptb; omega)
          refine qh (qa (qm (ql (qm ?_))))
          refine hk_draw2 mixed fun K hK=>runs2_eval tab_ok ?_
          simp only [evD,ev0,evA,evB,evP,fl,gp,tab,simprocAttr,reduceCtorEq,reduceIte,ll_length,hgy]
          refine fin2_stop ?_ (runs2_call (part_ok h' q sQ) rfl rfl rfl rfl (by simp only [dstOk,Nat.reduceLT]) (by repeat (first|exact trivial|constructor)) (runs2_eval tab_ok ?_))
          ·exact ⟨by omega,by omega⟩
          simp only [evD,ev0,evA,evB,evP,fl,gp,tab,simprocAttr,reduceCtorEq,reduceIte,ll_length,hgy]
          refine fin2_run ?_ (hK _ _ (by first|kernel_rfl|rfl) ?_)<;>clear hK<;>clear K
          ·(first|exact trivial|omega|(simp only [In64] at *; omega)|(simp [In64] at *; omega)|(simp_all; done)|skip)
          refine qa (qm (qm ?_))
          refine hk_region fun K hK=>runs_eval tab_ok ?_
          simp only [ev0,evA,evB,evP,fl,gp,tab,simprocAttr,reduceCtorEq,reduceIte]
          refine fin_run ?_ (hK _ ?_)<;>clear hK<;>clear K
          ·(first|exact trivial|omega|(simp only [In64] at *; omega)|(simp [In64] at *; omega)|(simp_all; done)|skip)
          refine qa ?_
          refine hk_cond rfl (fun hC9=>?_) (fun hC9=>?_)
          ·cases hC9
          ·(try simp only [nhs] at hC9)
           refine qh (qa (qm ?_))
           refine hk_region fun K hK=>runs_eval tab_ok ?_
           simp only [ev0,evA,evB,evP,fl,gp,tab,simprocAttr,reduceCtorEq,reduceIte]
           refine fin_stop trivial (runs_call (cI) rfl rfl rfl (by simp only [dstOk,Nat.reduceLT]) (by repeat (first|exact trivial|constructor)) (runs_eval tab_ok ?_))
           simp only [ev0,evA,evB,evP,fl,gp,tab,simprocAttr,reduceCtorEq,reduceIte]
           refine fin_run ?_ (hK _ ?_)<;>clear hK<;>clear K
           ·(first|exact trivial|omega|(simp only [In64] at *; omega)|(simp [In64] at *; omega)|(simp_all; done)|skip)
           refine qa (qm ?_)
           cases hVb:V b
           ·refine hk_region fun K hK=>runs_eval tab_ok ?_
            simp only [ev0,evA,evB,evP,fl,gp,tab,simprocAttr,reduceCtorEq,reduceIte,pbl_len,pbl_get _ (show b < LY.length by omega),hVb,Nat.zero_add]
            refine fin_run ?_ (hK _ ?_)<;>clear hK<;>clear K
            ·(first|exact trivial|omega|(simp only [In64] at *; omega)|(simp [In64] at *; omega)|(simp_all; done)|skip)
            refine qa ?_
            refine hk_cond rfl (fun hC10=>?_) (fun hC10=>?_)
            ·(try simp only [nhs] at hC10)
             refine qm ?_
             refine hk_region fun K hK=>runs_eval tab_ok ?_
             simp only [ev0,evA,evB,evP,fl,gp,tab,simprocAttr,reduceCtorEq,reduceIte,pbl_len,pbl_set,Nat.zero_add]
             refine fin_run ?_ (hK _ ?_)<;>clear hK<;>clear K
             ·(first|exact trivial|omega|(simp only [In64] at *; omega)|(simp [In64] at *; omega)|(simp_all; done)|skip)
             refine qa ?_
             refine hk_region fun K hK=>runs_eval tab_ok ?_
             simp only [ev0,evA,evB,evP,fl,gp,tab,simprocAttr,reduceCtorEq,reduceIte]
             refine fin_run trivial (hK _ ?_)<;>clear hK<;>clear K
             refine qd (qa ?_)
             refine hk_region fun K hK=>runs_eval tab_ok ?_
             simp only [ev0,evA,evB,evP,fl,gp,tab,simprocAttr,reduceCtorEq,reduceIte]
             refine fin_run ?_ (hK _ ?_)<;>clear hK<;>clear K
             ·(first|exact trivial|omega|(simp only [In64] at *; omega)|(simp [In64] at *; omega)|(simp_all; done)|skip)
             refine qa ?_
             refine ⟨(b + 1,(fun v=>V v || v == b),true),[0,1,2,3],⟨by show b + 1≤_; omega,fun h=>(by cases h),fun _=>hJ.step hil hbl hVb (hRb.2 (hcI.1 hC10)) hstR⟩,by show LX.length - (b + 1) < LX.length - b; omega,?_⟩
             simp only [leq,leA,ev0,evA,evB,evP,fl,gp,tab,simprocAttr,reduceCtorEq,reduceIte,pbl_ren,pbl_sc,pbl_len,pbl_take]<;>first|trivial|omega|trace_state
            ·(try simp only [nhs] at hC10)
             refine qh (qd (qa ?_))
             refine hk_region fun K hK=>runs_eval tab_ok ?_
             simp only [ev0,evA,evB,evP,fl,gp,tab,simprocAttr,reduceCtorEq,reduceIte]
             refine fin_run ?_ (hK _ ?_)<;>clear hK<;>clear K
             ·(first|exact trivial|omega|(simp only [In64] at *; omega)|(simp [In64] at *; omega)|(simp_all; done)|skip)
             refine qa ?_
             refine ⟨(b + 1,V,false),[0,1,2,3],⟨by show b + 1≤_; omega,fun _=>⟨rfl,fun c hc=>?_⟩,fun h=>(by cases h)⟩,by show LX.length - (b + 1) < LX.length - b; omega,?_⟩
             ·by_cases hcb:c=b
              ·rw [hcb]
               exact fun hh=>hC10 (hcI.2 (hRb.1 hh.2))
              ·have hc' : c < b + 1:=hc
               exact hno2 c (by show c < b; omega)
             simp only [leq,leA,ev0,evA,evB,evP,fl,gp,tab,simprocAttr,reduceCtorEq,reduceIte,pbl_ren,pbl_sc,pbl_len,pbl_take]<;>first|trivial|omega|trace_state
           ·refine hk_region fun K hK=>runs_eval tab_ok ?_
            simp only [ev0,evA,evB,evP,fl,gp,tab,simprocAttr,reduceCtorEq,reduceIte,pbl_len,pbl_get _ (show b < LY.length by omega),hVb,Nat.zero_add]
            refine fin_run ?_ (hK _ ?_)<;>clear hK<;>clear K
            ·(first|exact trivial|omega|(simp only [In64] at *; omega)|(simp [In64] at *; omega)|(simp_all; done)|skip)
            refine qa ?_
            refine hk_cond rfl (fun hC10=>?_) (fun hC10=>?_)
            ·cases hC10
            ·refine qh (qd (qa ?_))
             refine hk_region fun K hK=>runs_eval tab_ok ?_
             simp only [ev0,evA,evB,evP,fl,gp,tab,simprocAttr,reduceCtorEq,reduceIte]
             refine fin_run ?_ (hK _ ?_)<;>clear hK<;>clear K
             ·(first|exact trivial|omega|(simp only [In64] at *; omega)|(simp [In64] at *; omega)|(simp_all; done)|skip)
             refine qa ?_
             refine ⟨(b + 1,V,false),[0,1,2,3],⟨by show b + 1≤_; omega,fun _=>⟨rfl,fun c hc=>?_⟩,fun h=>(by cases h)⟩,by show LX.length - (b + 1) < LX.length - b; omega,?_⟩
             ·by_cases hcb:c=b
              ·rw [hcb]
               exact fun hh=>absurd hh.1 (by rw [hVb]; simp)
              ·have hc' : c < b + 1:=hc
               exact hno2 c (by show c < b; omega)
             simp only [leq,leA,ev0,evA,evB,evP,fl,gp,tab,simprocAttr,reduceCtorEq,reduceIte,pbl_ren,pbl_sc,pbl_len,pbl_take]<;>first|trivial|omega|trace_state
         ·cases hC8
        ·refine hk_region fun K hK=>runs_eval tab_ok ?_
         simp only [ev0,evA,evB,evP,fl,gp,tab,simprocAttr,reduceCtorEq,reduceIte,ll_length,decide_eq_true (show ((b:Nat):Int) < ((LY.length:Nat):Int) by omega)]
         refine fin_run trivial (hK _ ?_)<;>clear hK<;>clear K
         refine qa ?_
         refine hk_cond rfl (fun hC8=>?_) (fun hC8=>?_)
         ·cases hC8
         ·(try simp only [nhs] at hC8)
          refine qj (qc (qc (qf (qa (qm ?_)))))
          refine hk_region fun K hK=>runs_eval tab_ok ?_
          simp only [ev0,evA,evB,evP,fl,gp,tab,simprocAttr,reduceCtorEq,reduceIte]
          refine fin_run trivial (hK _ ?_)<;>clear hK<;>clear K
          refine qa ?_
          refine hk_cond rfl (fun hC11=>?_) (fun hC11=>?_)
          ·cases hC11
          ·(try simp only [nhs] at hC11)
           refine qh (qd (qa ?_))
           refine hk_region fun K hK=>runs_eval tab_ok ?_
           simp only [ev0,evA,evB,evP,fl,gp,tab,simprocAttr,reduceCtorEq,reduceIte]
           refine fin_run ?_ (hK _ ?_)<;>clear hK<;>clear K
           ·(first|exact trivial|omega|(simp only [In64] at *; omega)|(simp [In64] at *; omega)|(simp_all; done)|skip)
           refine qa ?_
           refine ⟨(i + 1,V),[0,1,2],⟨by show i + 1≤_; omega,hyes rfl⟩,by show LX.length - (i + 1) < LX.length - i; omega,?_⟩
           simp only [leq,leA,ev0,evA,evB,evP,fl,gp,tab,simprocAttr,reduceCtorEq,reduceIte,pbl_ren,pbl_sc,pbl_len,pbl_take]<;>first|trivial|omega|trace_state
        ·refine hk_region fun K hK=>runs_eval tab_ok ?_
         simp only [ev0,evA,evB,evP,fl,gp,tab,simprocAttr,reduceCtorEq,reduceIte,ll_length,decide_eq_false (show ¬ ((b:Nat):Int) < ((LY.length:Nat):Int) by omega)]
         refine fin_run trivial (hK _ ?_)<;>clear hK<;>clear K
         refine qa ?_
         refine hk_cond rfl (fun hC8=>?_) (fun hC8=>?_)
         ·cases hC8
         ·refine qj (qc (qc (qf (qa (qm ?_)))))
          refine hk_region fun K hK=>runs_eval tab_ok ?_
          simp only [ev0,evA,evB,evP,fl,gp,tab,simprocAttr,reduceCtorEq,reduceIte]
          refine fin_run trivial (hK _ ?_)<;>clear hK<;>clear K
          refine qa ?_
          refine hk_cond rfl (fun hC11=>?_) (fun hC11=>?_)
          ·cases hC11
          ·(try simp only [nhs] at hC11)
           refine qh (qd (qa ?_))
           refine hk_region fun K hK=>runs_eval tab_ok ?_
           simp only [ev0,evA,evB,evP,fl,gp,tab,simprocAttr,reduceCtorEq,reduceIte]
           refine fin_run ?_ (hK _ ?_)<;>clear hK<;>clear K
           ·(first|exact trivial|omega|(simp only [In64] at *; omega)|(simp [In64] at *; omega)|(simp_all; done)|skip)
           refine qa ?_
           refine ⟨(i + 1,V),[0,1,2],⟨by show i + 1≤_; omega,hyes rfl⟩,by show LX.length - (i + 1) < LX.length - i; omega,?_⟩
           simp only [leq,leA,ev0,evA,evB,evP,fl,gp,tab,simprocAttr,reduceCtorEq,reduceIte,pbl_ren,pbl_sc,pbl_len,pbl_take]<;>first|trivial|omega|trace_state
      ·(try simp only [nhs] at hC6)
       skip
       refine qj (qc (qc (qf (qa (qm ?_)))))
       refine hk_region fun K hK=>runs_eval tab_ok ?_
       simp only [ev0,evA,evB,evP,fl,gp,tab,simprocAttr,reduceCtorEq,reduceIte]
       refine fin_run trivial (hK _ ?_)<;>clear hK<;>clear K
       refine qa (qk ?_)
       simp only [Tryd.results12,enA,ev0,evA,evB,evP,fl,gp,tab,simprocAttr,reduceCtorEq,reduceIte]
       all_goals (rfl)
end Go.Proofs.YtboadfahlflmhaaDoor

/-
  What the listed package-level variable gives a walk: a table of numbers. Conditions: none; written by a program of this repo.
-/
set_option linter.all false
namespace Go.Proofs.YtboadfahlflmhaaDoor
open Go.Pv Go.ChangeShapes Go.WideShapes Go.ChangeAt Go.WideElems Go.RowKit

theorem own:ownKnob Tryd.prog.godebug=none:=by kernel_rfl
theorem laidOut:laidOutB Tryd.prog=true:=by kernel_rfl
theorem gG:Tryd.prog.globalNamed "math/bits.deBruijn64tab" = some 0:=by kernel_rfl
theorem tG:(Tryd.prog.globals[0]?).map (·.type)=some 135:=by kernel_rfl
theorem cG:Tryd.prog.cellsOf 5=1:=by kernel_rfl
/-- The door's own heap meets the condition. -/
theorem door_met (os:Os) (args:Array Value):laidMetH Tryd.prog [("math/bits.deBruijn64tab",Rows.laid_math_bits_deBruijn64tab)] ((World.doorLaid Tryd.prog 4000 os).forCall (fun _ _=>0) ⟨#[],args,[]⟩).memory:=
 laidMetH_of_parts3 (fuel:=8) (laidMet_of_run' 8 (by kernel_rfl) (by kernel_rfl)) (by kernel_rfl) (by kernel_rfl)

def convD:DataW Unit→PV
 | .lit (.int k n)=>.int k n
 | _=>.nil
def datum:List (DataW Unit)→List PV:=List.map convD
theorem glob_datum:(match (Rows.laid_math_bits_deBruijn64tab:DataW Unit) with | .agg l=>datum l | _=>[])=glob0:=rfl

theorem laid_ok {W:World} (h:laidMetH Tryd.prog [("math/bits.deBruijn64tab",Rows.laid_math_bits_deBruijn64tab)] W):LaidW (fun b=>b < W.heap.size) W:=by
 refine ⟨fun b h=>h,fun g l hg=>?_⟩
 have hg2:g=0∧l=glob0:=by
  unfold gv at hg
  by_cases e:g=0
  ·subst e; exact ⟨rfl,(Option.some.inj hg).symm⟩
  ·have:(g == 0)=false:=by simpa using e
   rw [this] at hg; simp at hg
 obtain ⟨rfl,rfl⟩:=hg2
 rw [MakeChecks.laidMetH_plain _ _ _ (by kernel_rfl)] at h
 obtain ⟨ps,⟨g0,t0,cs0,f0,p0,q0,hg0,ht0,hv0,hd0,_,_⟩,_,_⟩:=h
 obtain rfl:=Option.some.inj (gG.symm.trans hg0)
 obtain rfl:=Option.some.inj (tG.symm.trans ht0)
 obtain ⟨xs,m1,rfl,hx1,hlen,hn3,hel⟩:=DataW.trod_array Tryd.underlying135 hd0
 have hd1:Rows.laid_math_bits_deBruijn64tab=DataW.agg (xs.map (·.1)):=congrArg Prod.fst hx1
 have hgl:glob0=datum (xs.map (·.1)):=by
  rw [← glob_datum,hd1]
 have key:∀ c (h:c < glob0.length),W.cell? ⟨0,0 + c,none⟩=some ((cs0[c]?).getD undef)∧Reads (fun b=>b < W.heap.size) W glob0[c] ((cs0[c]?).getD undef):=by
  intro c hc
  have hc2:c < 64:=Nat.lt_of_lt_of_le hc (by decide)
  have hcx:c < xs.length:=by omega
  have h1:=hel c hc2
  rw [List.getElem?_eq_getElem hcx] at h1
  obtain ⟨k,e1,e2,_⟩:=DataW.trod_int Tryd.underlying5 h1
  rw [cG] at e1
  have e3:cs0.toList[c]? = some (.int .u8 k):=by
   have:=congrArg (fun l=>l[0]?) e1
   simpa [List.getElem?_take,List.getElem?_drop] using this
  have e4:cs0[c]? = some (.int .u8 k):=by simpa using e3
  have e5:glob0[c] = .int .u8 k:=by
   have:glob0[c]? = (datum (xs.map (·.1)))[c]?:=by rw [hgl]
   rw [List.getElem?_eq_getElem hc] at this
   simp only [datum,List.getElem?_map,List.getElem?_eq_getElem hcx,Option.map_some,Option.some.injEq] at this
   exact this.trans (by rw [e2]; rfl)
  refine ⟨?_,?_⟩
  ·rw [e4,Nat.zero_add,World.var?_cell gG hv0 c,e4]; rfl
  ·rw [e4]
   exact e5 ▸ (Reads.int .u8 k)
 refine .ptr _ _ _ (fun c=>(cs0[c]?).getD undef) ?_ (fun c hc=>(key c hc).1) fun c hc=>(key c hc).2
 have:=(key 0 (by decide)).1
 unfold World.cell? at this
 rcases Nat.lt_or_ge 0 W.heap.size with h | h
 ·exact h
 ·exfalso
  rw [Array.getElem?_eq_none h] at this
  simp at this
end Go.Proofs.YtboadfahlflmhaaDoor
