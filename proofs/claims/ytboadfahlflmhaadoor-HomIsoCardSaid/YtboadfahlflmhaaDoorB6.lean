/-
  Texts of this proof, one behind the other: what each says stands at its head. Conditions: none.
-/
import Derived.Test.YtboadfahlflmhaaDoorB5
import Derived.Test.YtboadfahlflmhaaDoorB4
import Derived.Test.YtboadfahlflmhaaDoorB3
import Derived.Test.YtboadfahlflmhaaDoorRows
import Derived.Test.YtboadfahlflmhaaDoorB2
import Derived.ProofKit
import Derived.LaidMore
import Derived.OpenShut
import Derived.Stop.Joined

/-
  Walks: an isomorphism is found just where there is one. Conditions: none.
-/
set_option linter.all false
namespace Go.Proofs.YtboadfahlflmhaaDoor
open Go.Pv

section
variable {n e N d:Nat} {m M:List Int}
theorem iso_flt (N:Int) (m:List Int) (N' : Int) (m' : List Int) (hm:m.length≤1000000000000000) (hm' : m'.length≤1000000000000000) (h:¬ (tg N m N' m').1=0):FnC Tryd.prog 29 [gp N m,gp N' m'] (.tup [.list (il []),fl (tg N m N' m')]):=by
 refine fnc_ofR tab_ok Tryd.func29 rfl (by kernel_rfl) (by rw [Tryd.ntmps29]; exact Nat.le_add_left 2 _) ?_; rw [Tryd.ntmps29]
 refine hr_seqH ?_
 refine hk_region fun K hK=>runs_eval tab_ok ?_
 simp only [ev0,evA,evB,evP,fl,gp,tab,simprocAttr,reduceCtorEq,reduceIte]
 refine fin_run ?_ (hK _ ?_)<;>clear hK<;>clear K
 ·(first|exact trivial|omega|(simp only [In64] at *; omega)|(simp [In64] at *; omega)|(simp_all; done)|skip)
 refine qa (hr_seqH (qm ?_))
 refine hk_region fun K hK=>runs_eval tab_ok ?_
 simp only [ev0,evA,evB,evP,fl,gp,tab,simprocAttr,reduceCtorEq,reduceIte]
 refine fin_stop trivial (runs_call (homBoth_c N m N' m' hm hm') rfl rfl rfl (by simp only [dstOk,Nat.reduceLT]) (by repeat (first|exact trivial|constructor)) (runs_eval tab_ok ?_))
 simp only [ev0,evA,evB,evP,fl,gp,tab,simprocAttr,reduceCtorEq,reduceIte]
 refine fin_run ?_ (hK _ ?_)<;>clear hK<;>clear K
 ·(first|exact trivial|omega|(simp only [In64] at *; omega)|(simp [In64] at *; omega)|(simp_all; done)|skip)
 refine qa (qm ?_)
 refine hk_region fun K hK=>runs_eval tab_ok ?_
 simp only [ev0,evA,evB,evP,fl,gp,tab,simprocAttr,reduceCtorEq,reduceIte]
 refine fin_run ?_ (hK _ ?_)<;>clear hK<;>clear K
 ·(first|exact trivial|omega|(simp only [In64] at *; omega)|(simp [In64] at *; omega)|(simp_all; done)|skip)
 refine qa ?_
 refine hk_cond rfl (fun hC1=>?_) (fun hC1=>?_)
 ·(try simp only [nhs] at hC1)
  refine qm ?_
  refine hk_draw2 mixed fun K hK=>runs2_eval tab_ok ?_
  simp only [evD,ev0,evA,evB,evP,fl,gp,tab,simprocAttr,reduceCtorEq,reduceIte]
  refine fin2_run ?_ (hK _ _ (by first|kernel_rfl|rfl) ?_)<;>clear hK<;>clear K
  ·(first|exact trivial|omega|(simp only [In64] at *; omega)|(simp [In64] at *; omega)|(simp_all; done)|skip)
  refine qa (qk (qb ?_))
  simp only [Tryd.results29,enA,ev0,evA,evB,evP,fl,gp,tab,simprocAttr,reduceCtorEq,reduceIte]
  all_goals (rfl)
 ·(try simp only [nhs] at hC1)
  exact absurd hC1 h
theorem iso_len (h:GT n m n e) (h' : GT N M N d) (hm:m.length≤1000000000000000) (hM:M.length≤1000000000000000) (hne:¬ n=N):FnC Tryd.prog 29 [gp n m,gp N M] (.tup [.list (il []),fl (6,0)]):=by
 have hb:=homBoth_c n m N M hm hM
 rw [tg_ok h h'] at hb
 refine fnc_ofR tab_ok Tryd.func29 rfl (by kernel_rfl) (by rw [Tryd.ntmps29]; exact Nat.le_add_left 2 _) ?_; rw [Tryd.ntmps29]
 refine hr_seqH ?_
 refine hk_region fun K hK=>runs_eval tab_ok ?_
 simp only [ev0,evA,evB,evP,fl,gp,tab,simprocAttr,reduceCtorEq,reduceIte]
 refine fin_run ?_ (hK _ ?_)<;>clear hK<;>clear K
 ·(first|exact trivial|omega|(simp only [In64] at *; omega)|(simp [In64] at *; omega)|(simp_all; done)|skip)
 refine qa (hr_seqH (qm ?_))
 refine hk_region fun K hK=>runs_eval tab_ok ?_
 simp only [ev0,evA,evB,evP,fl,gp,tab,simprocAttr,reduceCtorEq,reduceIte]
 refine fin_stop trivial (runs_call (hb) rfl rfl rfl (by simp only [dstOk,Nat.reduceLT]) (by repeat (first|exact trivial|constructor)) (runs_eval tab_ok ?_))
 simp only [ev0,evA,evB,evP,fl,gp,tab,simprocAttr,reduceCtorEq,reduceIte]
 refine fin_run ?_ (hK _ ?_)<;>clear hK<;>clear K
 ·(first|exact trivial|omega|(simp only [In64] at *; omega)|(simp [In64] at *; omega)|(simp_all; done)|skip)
 refine qa (qm ?_)
 refine hk_region fun K hK=>runs_eval tab_ok ?_
 simp only [ev0,evA,evB,evP,fl,gp,tab,simprocAttr,reduceCtorEq,reduceIte]
 refine fin_run ?_ (hK _ ?_)<;>clear hK<;>clear K
 ·(first|exact trivial|omega|(simp only [In64] at *; omega)|(simp [In64] at *; omega)|(simp_all; done)|skip)
 refine qa ?_
 refine hk_cond rfl (fun hC1=>?_) (fun hC1=>?_)
 ·(try simp only [nhs] at hC1)
  simp at hC1
 ·(try simp only [nhs] at hC1)
  refine qh (qa (hr_seq (hr_seqH ?_)))
  refine hk_region fun K hK=>runs_eval tab_ok ?_
  simp only [ev0,evA,evB,evP,fl,gp,tab,simprocAttr,reduceCtorEq,reduceIte]
  refine fin_run ?_ (hK _ ?_)<;>clear hK<;>clear K
  ·(first|exact trivial|omega|(simp only [In64] at *; omega)|(simp [In64] at *; omega)|(simp_all; done)|skip)
  refine qa ?_
  refine hr_cond rfl (fun hC2=>?_) (fun hC2=>?_)
  ·(try simp only [nhs] at hC2)
   omega
  ·(try simp only [nhs] at hC2)
   refine hr_of_hk (qh (qa (hr_seqH ?_)))
   refine hk_region fun K hK=>runs_eval tab_ok ?_
   simp only [ev0,evA,evB,evP,fl,gp,tab,simprocAttr,reduceCtorEq,reduceIte]
   refine fin_stop trivial (runs_call (homFlt_c 6 0) rfl rfl rfl (by simp only [dstOk,Nat.reduceLT]) (by repeat (first|exact trivial|constructor)) (runs_eval tab_ok ?_))
   simp only [ev0,evA,evB,evP,fl,gp,tab,simprocAttr,reduceCtorEq,reduceIte]
   refine fin_run ?_ (hK _ ?_)<;>clear hK<;>clear K
   ·(first|exact trivial|omega|(simp only [In64] at *; omega)|(simp [In64] at *; omega)|(simp_all; done)|skip)
   refine qa (hr_of_hk (qk ?_))
   simp only [Tryd.results29,enA,ev0,evA,evB,evP,fl,gp,tab,simprocAttr,reduceCtorEq,reduceIte]
   all_goals (rfl)
theorem iso_cnt (h:GT n m n e) (h' : GT n M n d) (hm:m.length≤1000000000000000) (hM:M.length≤1000000000000000) (hne:¬ rgz (n + 1) (cnt1 n (op m n) e n)=rgz (n + 1) (cnt1 n (op M n) d n)):FnC Tryd.prog 29 [gp n m,gp n M] (.tup [.list (il []),fl (6,0)]):=by
 have hb:=homBoth_c n m n M hm hM
 rw [tg_ok h h'] at hb
 have hn:=h.2.1.big
 have hl1:=rgz_len (n + 1) (cnt1 n (op m n) e n)
 have hl2:=rgz_len (n + 1) (cnt1 n (op M n) d n)
 refine fnc_ofR tab_ok Tryd.func29 rfl (by kernel_rfl) (by rw [Tryd.ntmps29]; exact Nat.le_add_left 2 _) ?_; rw [Tryd.ntmps29]
 refine hr_seqH ?_
 refine hk_region fun K hK=>runs_eval tab_ok ?_
 simp only [ev0,evA,evB,evP,fl,gp,tab,simprocAttr,reduceCtorEq,reduceIte]
 refine fin_run ?_ (hK _ ?_)<;>clear hK<;>clear K
 ·(first|exact trivial|omega|(simp only [In64] at *; omega)|(simp [In64] at *; omega)|(simp_all; done)|skip)
 refine qa (hr_seqH (qm ?_))
 refine hk_region fun K hK=>runs_eval tab_ok ?_
 simp only [ev0,evA,evB,evP,fl,gp,tab,simprocAttr,reduceCtorEq,reduceIte]
 refine fin_stop trivial (runs_call (hb) rfl rfl rfl (by simp only [dstOk,Nat.reduceLT]) (by repeat (first|exact trivial|constructor)) (runs_eval tab_ok ?_))
 simp only [ev0,evA,evB,evP,fl,gp,tab,simprocAttr,reduceCtorEq,reduceIte]
 refine fin_run ?_ (hK _ ?_)<;>clear hK<;>clear K
 ·(first|exact trivial|omega|(simp only [In64] at *; omega)|(simp [In64] at *; omega)|(simp_all; done)|skip)
 refine qa (qm ?_)
 refine hk_region fun K hK=>runs_eval tab_ok ?_
 simp only [ev0,evA,evB,evP,fl,gp,tab,simprocAttr,reduceCtorEq,reduceIte]
 refine fin_run ?_ (hK _ ?_)<;>clear hK<;>clear K
 ·(first|exact trivial|omega|(simp only [In64] at *; omega)|(simp [In64] at *; omega)|(simp_all; done)|skip)
 refine qa ?_
 refine hk_cond rfl (fun hC1=>?_) (fun hC1=>?_)
 ·(try simp only [nhs] at hC1)
  simp at hC1
 ·(try simp only [nhs] at hC1)
  refine qh (qa (hr_seq (hr_seqH ?_)))
  refine hk_region fun K hK=>runs_eval tab_ok ?_
  simp only [ev0,evA,evB,evP,fl,gp,tab,simprocAttr,reduceCtorEq,reduceIte]
  refine fin_run ?_ (hK _ ?_)<;>clear hK<;>clear K
  ·(first|exact trivial|omega|(simp only [In64] at *; omega)|(simp [In64] at *; omega)|(simp_all; done)|skip)
  refine qa ?_
  refine hr_cond rfl (fun hC2=>?_) (fun hC2=>?_)
  ·(try simp only [nhs] at hC2)
   refine hr_seqH ?_
   refine hk_region fun K hK=>runs_eval tab_ok ?_
   simp only [ev0,evA,evB,evP,fl,gp,tab,simprocAttr,reduceCtorEq,reduceIte]
   refine fin_run trivial (hK _ ?_)<;>clear hK<;>clear K
   refine qa (hr_seqH ?_)
   refine hk_draw2 mixed fun K hK=>runs2_eval tab_ok ?_
   simp only [evD,ev0,evA,evB,evP,fl,gp,tab,simprocAttr,reduceCtorEq,reduceIte]
   refine fin2_stop trivial (runs2_call (isoc_c h) rfl rfl rfl rfl (by simp only [dstOk,Nat.reduceLT]) (by repeat (first|exact trivial|constructor)) (runs2_eval tab_ok ?_))
   simp only [evD,ev0,evA,evB,evP,fl,gp,tab,simprocAttr,reduceCtorEq,reduceIte]
   refine fin2_stop trivial (runs2_call (isoc_c h') rfl rfl rfl rfl (by simp only [dstOk,Nat.reduceLT]) (by repeat (first|exact trivial|constructor)) (runs2_eval tab_ok ?_))
   simp only [evD,ev0,evA,evB,evP,fl,gp,tab,simprocAttr,reduceCtorEq,reduceIte]
   refine fin2_stop trivial (runs2_call (equal_c (rgz (n + 1) (cnt1 n (op m n) e n)) (rgz (n + 1) (cnt1 n (op M n) d n)) (by omega) (by omega)) rfl rfl rfl rfl (by simp only [dstOk,Nat.reduceLT]) (by repeat (first|exact trivial|constructor)) (runs2_eval tab_ok ?_))
   simp only [evD,ev0,evA,evB,evP,fl,gp,tab,simprocAttr,reduceCtorEq,reduceIte]
   refine fin2_run ?_ (hK _ _ (by first|kernel_rfl|rfl) ?_)<;>clear hK<;>clear K
   ·(first|exact trivial|omega|(simp only [In64] at *; omega)|(simp [In64] at *; omega)|(simp_all; done)|skip)
   refine qa ?_
   refine hr_cond rfl (fun hC3=>?_) (fun hC3=>?_)
   ·(try simp only [nhs] at hC3)
    exact absurd (by simpa using hC3) hne
   ·(try simp only [nhs] at hC3)
    refine hr_of_hk (qh (qa (hr_seqH ?_)))
    refine hk_region fun K hK=>runs_eval tab_ok ?_
    simp only [ev0,evA,evB,evP,fl,gp,tab,simprocAttr,reduceCtorEq,reduceIte]
    refine fin_stop trivial (runs_call (homFlt_c 6 0) rfl rfl rfl (by simp only [dstOk,Nat.reduceLT]) (by repeat (first|exact trivial|constructor)) (runs_eval tab_ok ?_))
    simp only [ev0,evA,evB,evP,fl,gp,tab,simprocAttr,reduceCtorEq,reduceIte]
    refine fin_run ?_ (hK _ ?_)<;>clear hK<;>clear K
    ·(first|exact trivial|omega|(simp only [In64] at *; omega)|(simp [In64] at *; omega)|(simp_all; done)|skip)
    refine qa (hr_of_hk (qk ?_))
    simp only [Tryd.results29,enA,ev0,evA,evB,evP,fl,gp,tab,simprocAttr,reduceCtorEq,reduceIte]
    all_goals (rfl)
  ·(try simp only [nhs] at hC2)
   simp at hC2

set_option maxHeartbeats 8000000 in
set_option maxRecDepth 20000 in
theorem iso_run (h:GT n m n e) (h' : GT n M n d) (hm:m.length≤1000000000000000) (hM:M.length≤1000000000000000) (hcn:rgz (n + 1) (cnt1 n (op m n) e n)=rgz (n + 1) (cnt1 n (op M n) d n)) {j:Option (List Int)} {b:Bool}
  (hf:foldS (prI (fA n) (oA n)) none (pls (hmW n m e n M d))=(j,b)) (hj:(j=none∧b=true)∨(∃ v,j=some v∧b=false)) :
  FnC Tryd.prog 29 [gp n m,gp n M] (.tup [.list (il (j.getD [])),fl (if b then 6 else 0,0)]):=by
 have hb:=homBoth_c n m n M hm hM
 rw [tg_ok h h'] at hb
 have hn:=h.2.1.big
 have hl1:=rgz_len (n + 1) (cnt1 n (op m n) e n)
 have hl2:=rgz_len (n + 1) (cnt1 n (op M n) d n)
 refine fnc_ofR tab_ok Tryd.func29 rfl (by kernel_rfl) (by rw [Tryd.ntmps29]; exact Nat.le_add_left 2 _) ?_; rw [Tryd.ntmps29]
 refine hr_seqH ?_
 refine hk_region fun K hK=>runs_eval tab_ok ?_
 simp only [ev0,evA,evB,evP,fl,gp,tab,simprocAttr,reduceCtorEq,reduceIte]
 refine fin_run ?_ (hK _ ?_)<;>clear hK<;>clear K
 ·(first|exact trivial|omega|(simp only [In64] at *; omega)|(simp [In64] at *; omega)|(simp_all; done)|skip)
 refine qa (hr_seqH (qm ?_))
 refine hk_region fun K hK=>runs_eval tab_ok ?_
 simp only [ev0,evA,evB,evP,fl,gp,tab,simprocAttr,reduceCtorEq,reduceIte]
 refine fin_stop trivial (runs_call (hb) rfl rfl rfl (by simp only [dstOk,Nat.reduceLT]) (by repeat (first|exact trivial|constructor)) (runs_eval tab_ok ?_))
 simp only [ev0,evA,evB,evP,fl,gp,tab,simprocAttr,reduceCtorEq,reduceIte]
 refine fin_run ?_ (hK _ ?_)<;>clear hK<;>clear K
 ·(first|exact trivial|omega|(simp only [In64] at *; omega)|(simp [In64] at *; omega)|(simp_all; done)|skip)
 refine qa (qm ?_)
 refine hk_region fun K hK=>runs_eval tab_ok ?_
 simp only [ev0,evA,evB,evP,fl,gp,tab,simprocAttr,reduceCtorEq,reduceIte]
 refine fin_run ?_ (hK _ ?_)<;>clear hK<;>clear K
 ·(first|exact trivial|omega|(simp only [In64] at *; omega)|(simp [In64] at *; omega)|(simp_all; done)|skip)
 refine qa ?_
 refine hk_cond rfl (fun hC1=>?_) (fun hC1=>?_)
 ·(try simp only [nhs] at hC1)
  simp at hC1
 ·(try simp only [nhs] at hC1)
  refine qh (qa (hr_seq (hr_seqH ?_)))
  refine hk_region fun K hK=>runs_eval tab_ok ?_
  simp only [ev0,evA,evB,evP,fl,gp,tab,simprocAttr,reduceCtorEq,reduceIte]
  refine fin_run ?_ (hK _ ?_)<;>clear hK<;>clear K
  ·(first|exact trivial|omega|(simp only [In64] at *; omega)|(simp [In64] at *; omega)|(simp_all; done)|skip)
  refine qa ?_
  refine hr_cond rfl (fun hC2=>?_) (fun hC2=>?_)
  ·(try simp only [nhs] at hC2)
   refine hr_seqH ?_
   refine hk_region fun K hK=>runs_eval tab_ok ?_
   simp only [ev0,evA,evB,evP,fl,gp,tab,simprocAttr,reduceCtorEq,reduceIte]
   refine fin_run trivial (hK _ ?_)<;>clear hK<;>clear K
   refine qa (hr_seqH ?_)
   refine hk_draw2 mixed fun K hK=>runs2_eval tab_ok ?_
   simp only [evD,ev0,evA,evB,evP,fl,gp,tab,simprocAttr,reduceCtorEq,reduceIte]
   refine fin2_stop trivial (runs2_call (isoc_c h) rfl rfl rfl rfl (by simp only [dstOk,Nat.reduceLT]) (by repeat (first|exact trivial|constructor)) (runs2_eval tab_ok ?_))
   simp only [evD,ev0,evA,evB,evP,fl,gp,tab,simprocAttr,reduceCtorEq,reduceIte]
   refine fin2_stop trivial (runs2_call (isoc_c h') rfl rfl rfl rfl (by simp only [dstOk,Nat.reduceLT]) (by repeat (first|exact trivial|constructor)) (runs2_eval tab_ok ?_))
   simp only [evD,ev0,evA,evB,evP,fl,gp,tab,simprocAttr,reduceCtorEq,reduceIte]
   refine fin2_stop trivial (runs2_call (equal_c (rgz (n + 1) (cnt1 n (op m n) e n)) (rgz (n + 1) (cnt1 n (op M n) d n)) (by omega) (by omega)) rfl rfl rfl rfl (by simp only [dstOk,Nat.reduceLT]) (by repeat (first|exact trivial|constructor)) (runs2_eval tab_ok ?_))
   simp only [evD,ev0,evA,evB,evP,fl,gp,tab,simprocAttr,reduceCtorEq,reduceIte]
   refine fin2_run ?_ (hK _ _ (by first|kernel_rfl|rfl) ?_)<;>clear hK<;>clear K
   ·(first|exact trivial|omega|(simp only [In64] at *; omega)|(simp [In64] at *; omega)|(simp_all; done)|skip)
   refine qa ?_
   refine hr_cond rfl (fun hC3=>?_) (fun hC3=>?_)
   ·(try simp only [nhs] at hC3)
    refine hr_seqH ?_
    refine hk_freeze 0 rfl rfl ?_
    refine hk_freeze 1 rfl rfl ?_
    refine hk_pure 2 rfl (Nat.zero_le _) ?_
    refine hk_pure 3 rfl (Nat.zero_le _) ?_
    simp only [hset,List.drop_zero]
    refine hk_region fun K hK=>runs_eval tab_ok ?_
    simp only [ev0,evA,evB,evP,fl,gp,tab,simprocAttr,reduceCtorEq,reduceIte]
    refine fin_run ?_ (hK _ ?_)<;>clear hK<;>clear K
    ·(first|exact trivial|omega|(simp only [In64] at *; omega)|(simp [In64] at *; omega)|(simp_all; done)|skip)
    refine qa (hr_block ?_)
    refine hr_cl 31 rfl ?_
    refine hr_range (gs:=31) (pp:=32) (κ:=2) (q:=3) (n:=52) (sl:=[(2,.p (.ptr [.int .i64 n,.list (il m)])),(3,.p (.ptr [.int .i64 n,.list (il M)])),(4,.ptr 0 0),(5,.ptr 1 0)]) (Hs0:=HV (prI (fA n) (oA n)) none) (Hf:=HV (prI (fA n) (oA n)) j) (b:=b) (gf:=95) (cap:=[.p (.ptr [.int .i64 n,.list (il m)]),.p (.ptr [.int .i64 n,.list (il M)])]) (rv:=.p (.tup [])) [2,3,5] rfl rfl
     (fun r0=>by simp only [HV,prI]; simp only [leq,leA,ev0,evA,evB,evP,fl,gp,tab,simprocAttr,reduceCtorEq,reduceIte]<;>first|trivial|trace_state) rfl (by decide) ⟨fun _=>rfl,fun _ _=>rfl⟩ ⟨fun _=>rfl,fun _ _=>rfl⟩ (fun r0=>rfl) rfl rfl (fun r0 r1=>by rcases hj with ⟨rfl,rfl⟩|⟨v,rfl,rfl⟩<;>(simp only [HV,prI]; exact (by first|rfl|(simp [scQ,scA,sc1,mpKeep,notAnc,Blk.spc,opl_sc]; done))))
     (fun rec hr=>iso2_c (prI (fA n) (oA n)) h h' _ rfl (by rw [hr.params]; rfl) (fun i x hi hx=>yld_of hr (by decide) rfl (by decide) (sl1:=(8,.p x) :: [(2,.p (.ptr [.int .i64 n,.list (il m)])),(3,.p (.ptr [.int .i64 n,.list (il M)])),(4,.ptr 0 0),(5,.ptr 1 0)]) (H0:=HV (prI (fA n) (oA n)) i) (H1:=HV (prI (fA n) (oA n)) (Prot.nx (prI (fA n) (oA n)) i x)) ⟨fun _=>rfl,fun _ _=>rfl⟩ ⟨fun _=>rfl,fun _ _=>rfl⟩ (fun r0=>?_) (fun r0=>?_)) (fun φ hφ=>⟨_,rfl,tbm_len n φ,fun k hk=>⟨φ k,hφ.lt k hk,tbm_get hk⟩⟩) rfl none rfl hf) ?_ ?_
    ·simp only [HV,prI,ancs,List.cons_append,List.nil_append,Nat.reduceAdd,Nat.zero_add]
     refine hk_region fun K hK=>runs_eval tab_ok ?_
     simp only [ev0,evA,evB,evP,fl,gp,tab,simprocAttr,reduceCtorEq,reduceIte]
     refine fin_run trivial (hK _ ?_)<;>clear hK<;>clear K
     refine ⟨rfl,[0,1,2,3,4,5],?_⟩
     simp only [leq,leA,ev0,evA,evB,evP,fl,gp,tab,simprocAttr,reduceCtorEq,reduceIte]<;>first|trivial|trace_state
    ·obtain ⟨v,rfl,hvl,hvn⟩:=hx
     have hi:i=none:=hi
     subst hi
     have hfv:fA n (.list (il v))=decide (onto1 v n):=fA_il n v
     have hgo:(prI (fA n) (oA n)).go none (.list (il v)) = !decide (onto1 v n):=by show (!fA n _)=_; rw [hfv]
     rw [hgo]
     have hnx:(prI (fA n) (oA n)).nx none (.list (il v))=if onto1 v n then some v else none:=by
      by_cases ho:onto1 v n
      ·rw [if_pos ho]; exact prI_nx (by rw [hfv]; exact decide_eq_true ho) none
      ·rw [if_neg ho]; exact prI_nn (by rw [hfv]; exact decide_eq_false ho) none
     rw [hnx]
     simp only [HV,prI,ancs,List.cons_append,List.nil_append,Nat.reduceAdd,Nat.zero_add]
     refine ql (qm ?_)
     refine hk_region fun K hK=>runs_eval tab_ok ?_
     simp only [ev0,evA,evB,evP,fl,gp,tab,simprocAttr,reduceCtorEq,reduceIte,makeSliceA.eq_def,hbl_new]
     refine fin_run ?_ (hK _ ?_)<;>clear hK<;>clear K
     ·omega
     refine qa (qm (qm ?_))
     refine hk_region fun K hK=>runs_eval tab_ok ?_
     simp only [ev0,evA,evB,evP,fl,gp,tab,simprocAttr,reduceCtorEq,reduceIte,il_length,hvl]
     refine fin_run trivial (hK _ ?_)<;>clear hK<;>clear K
     refine qa (ql ?_)
     refine hk_loop (ι:=Nat) (fun k=>⟨52,[(4,.ptr 0 0),(5,.ptr 1 0),(8,.p (.list (il v))),(9,.sl 6 0 n),(36,.p (.list (il v))),(37,.p (.int .i64 n)),(38,.p (.int .i64 k))],[.own [.p .nil],.own [.p (.int .i64 0),.p (.int .i64 0)],.lp r0,.anc 0 0,.anc 1 1,.anc 2 2,.own (opl (hbl n (hits v k)))]⟩) (fun k=>k≤n) (fun k=>n - k) 0 (Nat.zero_le _) [0,1,2,3,4,5,6] (by simp only [show hits v 0=fun _=>false from funext (hits_zero _)]; simp only [leq,leA,ev0,evA,evB,evP,fl,gp,tab,simprocAttr,reduceCtorEq,reduceIte]<;>first|trivial|trace_state) fun k hk=>?_
     refine qm ?_
     refine hk_region fun K hK=>runs_eval tab_ok ?_
     simp only [ev0,evA,evB,evP,fl,gp,tab,simprocAttr,reduceCtorEq,reduceIte]
     refine fin_run trivial (hK _ ?_)<;>clear hK<;>clear K
     refine qa (qm ?_)
     refine hk_cond rfl (fun hC4=>?_) (fun hC4=>?_)
     ·(try simp only [nhs] at hC4)
      have hkl:k < n:=by omega
      obtain ⟨y,lv,ev⟩:=hvn k hkl
      refine qh (qa (qm (ql (qm ?_))))
      refine hk_region fun K hK=>runs_eval tab_ok ?_
      simp only [ev0,evA,evB,evP,fl,gp,tab,simprocAttr,reduceCtorEq,reduceIte,il_get (show k < v.length by omega),ev]
      refine fin_run ?_ (hK _ ?_)<;>clear hK<;>clear K
      ·(first|exact trivial|omega|(simp only [In64] at *; omega)|(simp [In64] at *; omega)|(simp_all; done)|skip)
      refine qa ?_
      refine hk_region fun K hK=>runs_eval tab_ok ?_
      simp only [ev0,evA,evB,evP,fl,gp,tab,simprocAttr,reduceCtorEq,reduceIte]
      refine fin_run ?_ (hK _ ?_)<;>clear hK<;>clear K
      ·rw [hbl_len]; omega
      refine qd (qa ?_)
      rw [hbl_set]
      refine hk_region fun K hK=>runs_eval tab_ok ?_
      simp only [ev0,evA,evB,evP,fl,gp,tab,simprocAttr,reduceCtorEq,reduceIte]
      refine fin_run ?_ (hK _ ?_)<;>clear hK<;>clear K
      ·(first|exact trivial|omega|(simp only [In64] at *; omega)|(simp [In64] at *; omega)|(simp_all; done)|skip)
      refine qa ?_
      refine ⟨k + 1,[0,1,2,3,4,5,6],by omega,by omega,?_⟩
      rw [hbl_congr (fun i' _=>hits_succ (l:=v) (by omega) ev i')]
      simp only [leq,leA,ev0,evA,evB,evP,fl,gp,tab,simprocAttr,reduceCtorEq,reduceIte]<;>first|trivial|omega
     ·(try simp only [nhs] at hC4)
      have hkn:k=n:=by omega
      rw [hkn]
      have hon:decide (ixb n (hits v n) ≥ 0)=decide (¬ onto1 v n):=decide_eq_decide.2 (by
       rw [ixb_iff]
       unfold hits onto1
       rw [List.take_of_length_le (by omega)]
       constructor
       ·rintro ⟨z,v1,v2⟩ ho
        exact (of_decide_eq_false v2) (ho.1 z v1)
       ·intro ho
        by_cases hh:∃ z,z < n∧¬ ((z:Nat):Int)∈v
        ·obtain ⟨z,v1,v2⟩:=hh
         exact ⟨z,v1,decide_eq_false v2⟩
        ·exact absurd ⟨fun z hz=>Classical.byContradiction fun h'=>hh ⟨z,hz,h'⟩,hvl⟩ ho)
      refine hk_sealp 9 6 (hbl_all n (hits v n)) (by show AV.sl 6 0 n=AV.sl 6 0 _; rw [hbl_len]) rfl ?_
      refine qj (qc (qc (qf (qa (qm ?_)))))
      refine hk_region fun K hK=>runs_eval tab_ok ?_
      simp only [ev0,evA,evB,evP,fl,gp,tab,simprocAttr,reduceCtorEq,reduceIte]
      refine fin_stop trivial (runs_call (containsB_c n (hits v n) (by omega)) rfl rfl rfl (by simp only [dstOk,Nat.reduceLT]) (by repeat (first|exact trivial|constructor)) (runs_eval tab_ok ?_))
      simp only [ev0,evA,evB,evP,fl,gp,tab,simprocAttr,reduceCtorEq,reduceIte,hon]
      refine fin_run trivial (hK _ ?_)<;>clear hK<;>clear K
      refine qa ?_
      refine hk_cond rfl (fun hC5=>?_) (fun hC5=>?_)
      ·(try simp only [nhs] at hC5)
       have ho:onto1 v n:=by simpa using hC5
       simp only [ho,decide_true,Bool.not_true,if_true,Bool.false_eq_true,if_false]
       refine qm ?_
       refine hk_region fun K hK=>runs_eval tab_ok ?_
       simp only [ev0,evA,evB,evP,fl,gp,tab,simprocAttr,reduceCtorEq,reduceIte]
       refine fin_run ?_ (hK _ ?_)<;>clear hK<;>clear K
       ·(first|exact trivial|omega|(simp only [In64] at *; omega)|(simp [In64] at *; omega)|(simp_all; done)|skip)
       refine qa (qk (qe ?_))
       refine ⟨rfl,[0,1,2,3,4,5],?_⟩
       simp only [leq,leA,ev0,evA,evB,evP,fl,gp,tab,simprocAttr,reduceCtorEq,reduceIte]<;>first|trivial|(simp; done)|trace_state
      ·(try simp only [nhs] at hC5)
       have ho:¬ onto1 v n:=by simpa using hC5
       simp only [ho,decide_false,Bool.not_false,if_true,Bool.false_eq_true,if_false]
       refine qh (qd ?_)
       refine ⟨rfl,[0,1,2,3,4,5],?_⟩
       simp only [leq,leA,ev0,evA,evB,evP,fl,gp,tab,simprocAttr,reduceCtorEq,reduceIte]<;>first|trivial|(simp; done)|trace_state
    ·intro hbt
     obtain ⟨rfl,_⟩:j=none∧b=true:=by
      rcases hj with h1 | ⟨v,_,h2⟩
      ·exact h1
      ·rw [h2] at hbt; cases hbt
     subst hbt
     simp only [HV,prI,ancs,List.cons_append,List.nil_append,Nat.reduceAdd,Nat.zero_add]
     refine qd (qa (hr_seqH ?_))
     refine hk_region fun K hK=>runs_eval tab_ok ?_
     simp only [ev0,evA,evB,evP,fl,gp,tab,simprocAttr,reduceCtorEq,reduceIte]
     refine fin_stop trivial (runs_call (homFlt_c 6 0) rfl rfl rfl (by simp only [dstOk,Nat.reduceLT]) (by repeat (first|exact trivial|constructor)) (runs_eval tab_ok ?_))
     simp only [ev0,evA,evB,evP,fl,gp,tab,simprocAttr,reduceCtorEq,reduceIte]
     refine fin_run ?_ (hK _ ?_)<;>clear hK<;>clear K
     ·(first|exact trivial|omega|(simp only [In64] at *; omega)|(simp [In64] at *; omega)|(simp_all; done)|skip)
     refine qa (hr_of_hk (qk ?_))
     simp only [Tryd.results29,enA,ev0,evA,evB,evP,fl,gp,tab,simprocAttr,reduceCtorEq,reduceIte]
     all_goals (rfl)
    ·intro hbf
     obtain ⟨v,rfl,_⟩:∃ v,j=some v∧b=false:=by
      rcases hj with ⟨_,h1⟩ | h2
      ·rw [h1] at hbf; cases hbf
      ·exact h2
     subst hbf
     simp only [HV,prI,ancs,List.cons_append,List.nil_append,Nat.reduceAdd,Nat.zero_add]
     refine qe (qb ?_)
     simp only [Tryd.results29,enA,ev0,evA,evB,evP,fl,gp,tab,simprocAttr,reduceCtorEq,reduceIte]
     all_goals (rfl)
   ·(try simp only [nhs] at hC3)
    exact absurd hcn (by simpa using hC3)
  ·(try simp only [nhs] at hC2)
   simp at hC2

/-- There is one just where groups are alike. -/
theorem iso_yes (h:GT n m n e) (h' : GT N M N d) (hm:m.length≤1000000000000000) (hM:M.length≤1000000000000000) (hex:∃ φ,Isom n (op m n) N (op M N) φ):∃ φ,Isom n (op m n) N (op M N) φ∧FnC Tryd.prog 29 [gp n m,gp N M] (.tup [.list (il (tbm n φ)),fl (0,0)]):=by
 obtain ⟨χ,hχ⟩:=hex
 obtain ⟨_,h2,_⟩:=isom_iff.1 hχ
 subst h2
 have hcn:rgz (n + 1) (cnt1 n (op m n) e n)=rgz (n + 1) (cnt1 n (op M n) d n):=rgz_congr fun k _=>hχ.cnt h.2.2 h'.2.2 k
 obtain ⟨w,hw,ho,hf⟩:=foldI_yes n (oA n) (hmW n m e n M d) ⟨tbm n χ,(hmW_mem h h' _).2 ⟨χ,hχ.1,rfl⟩,hχ.2⟩
 obtain ⟨φ,hφ,rfl⟩:=(hmW_mem h h' w).1 hw
 exact ⟨φ,⟨hφ,ho⟩,iso_run h h' hm hM hcn hf (.inr ⟨_,rfl,rfl⟩)⟩
theorem iso_no (h:GT n m n e) (h' : GT N M N d) (hm:m.length≤1000000000000000) (hM:M.length≤1000000000000000) (hne:¬ ∃ φ,Isom n (op m n) N (op M N) φ):FnC Tryd.prog 29 [gp n m,gp N M] (.tup [.list (il []),fl (6,0)]):=by
 by_cases hnN:n=N
 ·subst hnN
  by_cases hcn:rgz (n + 1) (cnt1 n (op m n) e n)=rgz (n + 1) (cnt1 n (op M n) d n)
  ·have hf:=foldI_no n (oA n) (hmW n m e n M d) fun w hw ho=>by
    obtain ⟨φ,hφ,rfl⟩:=(hmW_mem h h' w).1 hw
    exact hne ⟨φ,hφ,ho⟩
   exact iso_run h h' hm hM hcn hf (.inl ⟨rfl,rfl⟩)
  ·exact iso_cnt h h' hm hM hcn
 ·exact iso_len h h' hm hM hnN
end
end Go.Proofs.YtboadfahlflmhaaDoor

/-
  Walks: a map of some things, spread to all: the reference's way. Conditions: none.
-/
set_option linter.all false
namespace Go.Proofs.YtboadfahlflmhaaDoor
open Go.Pv

section
variable {n N e d:Nat} {f g:Nat→Nat→Nat} {F T:List Nat} {φ:Nat→Nat}
/-- Where the reference stands: no map says otherwise. -/
structure RSp (n:Nat) (f:Nat→Nat→Nat) (e N:Nat) (g:Nat→Nat→Nat) (d:Nat) (F T:List Nat) (S:Nat→Bool) (ψ:Nat→Nat):Prop where
 one:S e=true∧ψ e=d
 lt:∀ a,a < n→S a=true→ψ a < N
 ref:∀ φ,Ext n f N g F T φ→∀ a,a < n→S a=true→ψ a=φ a
/-- A thing's products are there, the first j of them. -/
def RCl (f g:Nat→Nat→Nat) (F T:List Nat) (S:Nat→Bool) (ψ:Nat→Nat) (a j:Nat):Prop:=S a=true→∀ i,i < j→S (f (F.getD i 0) a)=true∧ψ (f (F.getD i 0) a)=g (T.getD i 0) (ψ a)
theorem RSp.begin (G:Grp n f e) (K:Grp N g d):RSp n f e N g d F T (upd1 (fun _=>false) e) (updF (fun _=>0) e d) where
 one:=⟨by simp [upd1],updF_eq⟩
 lt a ha h:=by
  have:a=e:=by simpa [upd1] using h
  rw [this,updF_eq]; exact K.el
 ref φ hφ a ha h:=by
  have:a=e:=by simpa [upd1] using h
  rw [this,updF_eq,hφ.1.one G K]
theorem RSp.val (G:Grp n f e) (hF:∀ i,i < F.length→F.getD i 0 < n) {S:Nat→Bool} {ψ:Nat→Nat} (h:RSp n f e N g d F T S ψ) (hφ:Ext n f N g F T φ) {a i:Nat} (ha:a < n) (hS:S a=true) (hi:i < F.length):φ (f (F.getD i 0) a)=g (T.getD i 0) (ψ a):=by
 rw [hφ.1.mul _ _ (hF i hi) ha,hφ.2 i hi,h.ref φ hφ a ha hS]
theorem RSp.push (G:Grp n f e) (K:Grp N g d) (hF:∀ i,i < F.length→F.getD i 0 < n) (hT:∀ i,i < F.length→T.getD i 0 < N) {S:Nat→Bool} {ψ:Nat→Nat} (h:RSp n f e N g d F T S ψ) {a i:Nat} (ha:a < n) (hS:S a=true) (hi:i < F.length) (hb:S (f (F.getD i 0) a)=false) :
  RSp n f e N g d F T (upd1 S (f (F.getD i 0) a)) (updF ψ (f (F.getD i 0) a) (g (T.getD i 0) (ψ a))):=by
 have hne:∀ x,S x=true→x ≠ f (F.getD i 0) a:=fun x hx e=>by rw [e,hb] at hx; cases hx
 refine ⟨⟨upd1_true.2 (.inl h.one.1),by rw [updF_ne (hne _ h.one.1)]; exact h.one.2⟩,fun x hx hx2=>?_,fun φ hφ x hx hx2=>?_⟩
 ·rcases upd1_true.1 hx2 with h1 | rfl
  ·rw [updF_ne (hne _ h1)]; exact h.lt x hx h1
  ·rw [updF_eq]; exact K.cl _ _ (hT i hi) (h.lt a ha hS)
 ·rcases upd1_true.1 hx2 with h1 | rfl
  ·rw [updF_ne (hne _ h1)]; exact h.ref φ hφ x hx h1
  ·rw [updF_eq,← h.val G hF hφ ha hS hi]
/-- At the end all is there, and it is a map. -/
theorem RSp.fin (G:Grp n f e) (K:Grp N g d) (hF:∀ i,i < F.length→F.getD i 0 < n) (hT:∀ i,i < F.length→T.getD i 0 < N) (hgen:∀ a,a < n→Gen n f e (fun x=>decide (x∈F)) a) {S:Nat→Bool} {ψ:Nat→Nat} (h:RSp n f e N g d F T S ψ) (hc:∀ a,a < n→RCl f g F T S ψ a F.length) :
  (∀ a,a < n→S a=true)∧Ext n f N g F T ψ:=by
 have hFx:∀ x,x∈F→∃ i,i < F.length∧F.getD i 0=x:=fun x hx=>by
  obtain ⟨i,hi,rfl⟩:=List.getElem_of_mem hx
  exact ⟨i,hi,by simp [List.getD,List.getElem?_eq_getElem hi]⟩
 have hall:∀ a,a < n→S a=true:=fun a ha=>by
  have key:a < n∧∀ b,b < n→S b=true→S (f a b)=true:=Gen.least (H:=fun a=>a < n∧∀ b,b < n→S b=true→S (f a b)=true) ⟨G.el,fun b hb hS=>by rw [G.one_l b hb]; exact hS⟩ (fun c x _ hx hp ih=>⟨G.cl _ _ ih.1 hx,fun b hb hS=>by
   obtain ⟨i,hi,rfl⟩:=hFx x (by simpa using hp)
   rw [G.assoc _ _ _ ih.1 hx hb]
   exact ih.2 _ (G.cl _ _ hx hb) (hc b hb hS i hi).1⟩) (hgen a ha)
  have:=key.2 e G.el h.one.1
  rwa [G.one_r a ha] at this
 have hx1:∀ i,i < F.length→ψ (F.getD i 0)=T.getD i 0:=fun i hi=>by
  have:=(hc e G.el h.one.1 i hi).2
  rwa [G.one_r _ (hF i hi),h.one.2,K.one_r _ (hT i hi)] at this
 refine ⟨hall,⟨fun a ha=>h.lt a ha (hall a ha),fun a b ha hb=>?_⟩,hx1⟩
 have key:a < n∧∀ b,b < n→ψ (f a b)=g (ψ a) (ψ b):=Gen.least (H:=fun a=>a < n∧∀ b,b < n→ψ (f a b)=g (ψ a) (ψ b)) ⟨G.el,fun b hb=>by rw [G.one_l b hb,h.one.2,K.one_l _ (h.lt b hb (hall b hb))]⟩ (fun c x _ hx hp ih=>⟨G.cl _ _ ih.1 hx,fun b hb=>by
  obtain ⟨i,hi,rfl⟩:=hFx x (by simpa using hp)
  have h1:=h.lt _ ih.1 (hall _ ih.1)
  have h2:=h.lt b hb (hall b hb)
  rw [G.assoc _ _ _ ih.1 hx hb,ih.2 _ (G.cl _ _ hx hb),(hc b hb (hall b hb) i hi).2,ih.2 _ hx,hx1 i hi,K.assoc _ _ _ h1 (hT i hi) h2]⟩) (hgen a ha)
 exact key.2 b hb
theorem em3h (p q:Prop):¬ p∨(p∧q)∨(p∧¬ q):=by
 by_cases hp:p
 ·by_cases hq:q
  ·exact .inr (.inl ⟨hp,hq⟩)
  ·exact .inr (.inr ⟨hp,hq⟩)
 ·exact .inl hp
theorem outs_lt {S:Nat→Bool} {b:Nat} (hb:b < n) (hS:S b=false):outs n (upd1 S b) < outs n S:=by
 have:=outs_upd hb hS
 omega
end

section
variable {n e N d:Nat} {m M:List Int}

set_option maxHeartbeats 4000000 in
theorem rspread_yes (h:GT n m n e) (h' : GT N M N d) (F T:List Nat) (hFT:F.length=T.length) (hFl:F.length≤1000000) (hF:∀ i,i < F.length→F.getD i 0 < n) (hT:∀ i,i < F.length→T.getD i 0 < N) (hgen:∀ a,a < n→Gen n (op m n) e (fun x=>decide (x∈F)) a) {φ:Nat→Nat} (hφ:Ext n (op m n) N (op M N) F T φ):FnG Tryd.prog 91 [gp n m,gp N M,.list (il (nl F)),.list (il (nl T))] (.sl 0 0 (il (tbm n φ)).length) [.own (opl (il (tbm n φ)))]:=by
 have G:=h.2.2
 have GG:=h'.2.2
 have Tb:=h.2.1
 have Tb':=h'.2.1
 have hb:=Tb.big
 have hb':=Tb'.big
 have hlF:=nl_len F
 have hlT:=nl_len T
 have hel:=G.el
 have hde:=GG.el
 have he1:=h.eI
 have he2:=h'.eI
 have hrz:(rgz n fun a=>if a < 0 then (-1:Int) else 0)=rgz n fun _=>0:=rgz_congr fun a ha=>by simp
 refine fng_of tab_ok Tryd.func91 rfl (by kernel_rfl) (by rw [Tryd.ntmps91]; exact Nat.le_add_left 4 _) ?_; rw [Tryd.ntmps91]
 refine qm ?_
 refine hk_region fun K hK=>runs_eval tab_ok ?_
 simp only [ev0,evA,evB,evP,fl,gp,tab,simprocAttr,reduceCtorEq,reduceIte]
 refine fin_run ?_ (hK _ ?_)<;>clear hK<;>clear K
 ·(first|exact trivial|omega|(simp only [In64] at *; omega)|(simp [In64] at *; omega)|(simp_all; done)|skip)
 refine qa (qm ?_)
 refine hk_region fun K hK=>runs_eval tab_ok ?_
 simp only [ev0,evA,evB,evP,fl,gp,tab,simprocAttr,reduceCtorEq,reduceIte,makeSliceA.eq_def,rgz_new]
 refine fin_run ?_ (hK _ ?_)<;>clear hK<;>clear K
 ·omega
 refine qa (qm (qm ?_))
 refine hk_region fun K hK=>runs_eval tab_ok ?_
 simp only [ev0,evA,evB,evP,fl,gp,tab,simprocAttr,reduceCtorEq,reduceIte]
 refine fin_run trivial (hK _ ?_)<;>clear hK<;>clear K
 refine qa (ql ?_)
 refine hk_loop (ι:=Nat) (fun i=>⟨87,[(2,.p (.list (il (nl F)))),(3,.p (.list (il (nl T)))),(4,.ptr 0 0),(5,.ptr 1 0),(9,.sl 2 0 n),(10,.p (.int .i64 i))],[.own [.p (.int .i64 n),.p (.list (il m))],.own [.p (.int .i64 N),.p (.list (il M))],.own (ol (rgz n fun a=>if a < i then -1 else 0))]⟩) (fun i=>i≤n) (fun i=>n - i) 0 (Nat.zero_le _) [0,1,2] (by simp only [leq,leA,ev0,evA,evB,evP,fl,gp,tab,simprocAttr,reduceCtorEq,reduceIte]<;>first|trivial|exact ⟨rfl,rfl⟩|(rw [hrz,List.take_of_length_le (by rw [rgz_len]; exact Nat.le_refl _)]; done)|(simp [rgz_len]; done)|trace_state) fun i hi=>?_
 have hr:=rgz_len n (fun a=>if a < i then -1 else 0)
 refine qm (qm ?_)
 refine hk_region fun K hK=>runs_eval tab_ok ?_
 simp only [ev0,evA,evB,evP,fl,gp,tab,simprocAttr,reduceCtorEq,reduceIte]
 refine fin_run ?_ (hK _ ?_)<;>clear hK<;>clear K
 ·(first|exact trivial|omega|(simp only [In64] at *; omega)|(simp [In64] at *; omega)|(simp_all; done)|skip)
 refine qa ?_
 refine hk_cond rfl (fun hC1=>?_) (fun hC1=>?_)
 ·(try simp only [nhs] at hC1)
  have hlt:i < n:=by omega
  have hse:(rgz n fun a=>if a < i then -1 else 0).set i (-1)=rgz n fun a=>if a < i + 1 then -1 else 0:=by
   rw [rgz_set]
   exact rgz_congr fun a ha=>by
    by_cases e:a=i
    ·simp [e]
    ·by_cases e2:a < i
     ·simp [e,e2,show a < i + 1 by omega]
     ·simp [e,e2,show ¬ a < i + 1 by omega]
  refine qh (qa (qm (ql ?_)))
  refine hk_region fun K hK=>runs_eval tab_ok ?_
  simp only [ev0,evA,evB,evP,fl,gp,tab,simprocAttr,reduceCtorEq,reduceIte,ol_set,hse]
  refine fin_run ?_ (hK _ ?_)<;>clear hK<;>clear K
  ·(first|exact trivial|omega|(simp only [In64] at *; omega)|(simp [In64] at *; omega)|(simp_all; done)|skip)
  refine qd (qa ?_)
  refine hk_region fun K hK=>runs_eval tab_ok ?_
  simp only [ev0,evA,evB,evP,fl,gp,tab,simprocAttr,reduceCtorEq,reduceIte]
  refine fin_run ?_ (hK _ ?_)<;>clear hK<;>clear K
  ·(first|exact trivial|omega|(simp only [In64] at *; omega)|(simp [In64] at *; omega)|(simp_all; done)|skip)
  refine qa ?_
  refine ⟨i + 1,[0,1,2],by omega,by omega,?_⟩
  simp only [leq,leA,ev0,evA,evB,evP,fl,gp,tab,simprocAttr,reduceCtorEq,reduceIte]<;>first|trivial|omega|(simp [ol_length,rgz_len]; done)
 ·(try simp only [nhs] at hC1)
  obtain rfl:i=n:=by omega
  rw [rgz_neg]
  have hp0:=prow_len i (fun _=>false) (fun _=>0)
  refine qj (qc (qc (qf (qa (qm ?_)))))
  refine hk_draw2 mixed fun K hK=>runs2_eval tab_ok ?_
  simp only [evD,ev0,evA,evB,evP,fl,gp,tab,simprocAttr,reduceCtorEq,reduceIte,he1,he2,ol_set,prow_set (S:=fun _=>false) (ψ:=fun _=>0) hel rfl]
  refine fin2_stop trivial (runs2_call (e_c Tb) rfl rfl rfl rfl (by simp only [dstOk,Nat.reduceLT]) (by repeat (first|exact trivial|constructor)) (runs2_eval tab_ok ?_))
  simp only [evD,ev0,evA,evB,evP,fl,gp,tab,simprocAttr,reduceCtorEq,reduceIte,he1,he2,ol_set,prow_set (S:=fun _=>false) (ψ:=fun _=>0) hel rfl]
  refine fin2_stop trivial (runs2_call (e_c Tb') rfl rfl rfl rfl (by simp only [dstOk,Nat.reduceLT]) (by repeat (first|exact trivial|constructor)) (runs2_eval tab_ok ?_))
  simp only [evD,ev0,evA,evB,evP,fl,gp,tab,simprocAttr,reduceCtorEq,reduceIte,he1,he2,ol_set,prow_set (S:=fun _=>false) (ψ:=fun _=>0) hel rfl]
  refine fin2_run ?_ (hK _ _ (by first|kernel_rfl|rfl) ?_)<;>clear hK<;>clear K
  ·(first|exact trivial|omega|(simp only [In64] at *; omega)|(simp [In64] at *; omega)|(simp_all; done)|skip)
  refine qa (qm (qm ?_))
  refine hk_region fun K hK=>runs_eval tab_ok ?_
  simp only [ev0,evA,evB,evP,fl,gp,tab,simprocAttr,reduceCtorEq,reduceIte]
  refine fin_run trivial (hK _ ?_)<;>clear hK<;>clear K
  refine qa (ql ?_)
  refine hk_loop (ι:=(Nat→Bool) × (Nat→Nat) × Bool) (fun p=>⟨87,[(2,.p (.list (il (nl F)))),(3,.p (.list (il (nl T)))),(4,.ptr 0 0),(5,.ptr 1 0),(9,.sl 2 0 i),(11,.p (.bool p.2.2))],[.own [.p (.int .i64 i),.p (.list (il m))],.own [.p (.int .i64 N),.p (.list (il M))],.own (ol (prow i p.1 p.2.1))]⟩) (fun p=>RSp i (op m i) e N (op M N) d F T p.1 p.2.1∧(p.2.2=false→∀ a,a < i→RCl (op m i) (op M N) F T p.1 p.2.1 a F.length)) (fun p=>2 * outs i p.1 + p.2.2.toNat) (upd1 (fun _=>false) e,updF (fun _=>0) e d,true) ⟨RSp.begin G GG,fun h=>by cases h⟩ [0,1,2] (by simp only [leq,leA,ev0,evA,evB,evP,fl,gp,tab,simprocAttr,reduceCtorEq,reduceIte]<;>first|trivial|exact ⟨rfl,rfl⟩|(simp [prow_len]; done)|trace_state) fun p hp=>?_
  obtain ⟨S0,ψ0,ag⟩:=p
  obtain ⟨hp,hag⟩:=hp
  simp only at hp hag
  refine qm (qm ?_)
  refine hk_region fun K hK=>runs_eval tab_ok ?_
  simp only [ev0,evA,evB,evP,fl,gp,tab,simprocAttr,reduceCtorEq,reduceIte]
  refine fin_run trivial (hK _ ?_)<;>clear hK<;>clear K
  refine qa ?_
  refine hk_cond rfl (fun hC2=>?_) (fun hC2=>?_)
  ·(try simp only [nhs] at hC2)
   subst hC2
   refine qh (qa (ql (qm ?_)))
   refine hk_region fun K hK=>runs_eval tab_ok ?_
   simp only [ev0,evA,evB,evP,fl,gp,tab,simprocAttr,reduceCtorEq,reduceIte]
   refine fin_run trivial (hK _ ?_)<;>clear hK<;>clear K
   refine qa (qm ?_)
   refine hk_region fun K hK=>runs_eval tab_ok ?_
   simp only [ev0,evA,evB,evP,fl,gp,tab,simprocAttr,reduceCtorEq,reduceIte]
   refine fin_run trivial (hK _ ?_)<;>clear hK<;>clear K
   refine qa (ql ?_)
   refine hk_loop (ι:=Nat × (Nat→Bool) × (Nat→Nat) × Bool) (fun p=>⟨87,[(2,.p (.list (il (nl F)))),(3,.p (.list (il (nl T)))),(4,.ptr 0 0),(5,.ptr 1 0),(9,.sl 2 0 i),(11,.p (.bool p.2.2.2)),(12,.p (.int .i64 p.1))],[.own [.p (.int .i64 i),.p (.list (il m))],.own [.p (.int .i64 N),.p (.list (il M))],.own (ol (prow i p.2.1 p.2.2.1))]⟩) (fun p=>p.1≤i∧RSp i (op m i) e N (op M N) d F T p.2.1 p.2.2.1∧outs i p.2.1≤outs i S0∧(p.2.2.2=true→outs i p.2.1 < outs i S0)∧(p.2.2.2=false→∀ a,a < p.1→RCl (op m i) (op M N) F T p.2.1 p.2.2.1 a F.length)) (fun p=>i - p.1) (0,S0,ψ0,false) ⟨Nat.zero_le _,hp,Nat.le_refl _,fun h=>(by cases h),fun _ a ha=>absurd ha (Nat.not_lt_zero _)⟩ [0,1,2] (by simp only [leq,leA,ev0,evA,evB,evP,fl,gp,tab,simprocAttr,reduceCtorEq,reduceIte]<;>first|trivial|exact ⟨rfl,rfl⟩|trace_state) fun p hp3=>?_
   obtain ⟨a,S1,ψ1,ag1⟩:=p
   obtain ⟨q1,q2,q3,q4,q5⟩:=hp3
   simp only at q1 q2 q3 q4 q5
   refine qm (qm ?_)
   refine hk_region fun K hK=>runs_eval tab_ok ?_
   simp only [ev0,evA,evB,evP,fl,gp,tab,simprocAttr,reduceCtorEq,reduceIte]
   refine fin_run ?_ (hK _ ?_)<;>clear hK<;>clear K
   ·(first|exact trivial|omega|(simp only [In64] at *; omega)|(simp [In64] at *; omega)|(simp_all; done)|skip)
   refine qa ?_
   refine hk_cond rfl (fun hC3=>?_) (fun hC3=>?_)
   ·(try simp only [nhs] at hC3)
    have hal:a < i:=by omega
    refine qh (qa (qm (ql (qm ?_))))
    refine hk_region fun K hK=>runs_eval tab_ok ?_
    simp only [ev0,evA,evB,evP,fl,gp,tab,simprocAttr,reduceCtorEq,reduceIte]
    refine fin_run trivial (hK _ ?_)<;>clear hK<;>clear K
    refine qa (ql ?_)
    refine hk_loop (ι:=Nat × (Nat→Bool) × (Nat→Nat) × Bool) (fun p=>⟨87,[(2,.p (.list (il (nl F)))),(3,.p (.list (il (nl T)))),(4,.ptr 0 0),(5,.ptr 1 0),(9,.sl 2 0 i),(11,.p (.bool p.2.2.2)),(12,.p (.int .i64 a)),(13,.p (.int .i64 p.1))],[.own [.p (.int .i64 i),.p (.list (il m))],.own [.p (.int .i64 N),.p (.list (il M))],.own (ol (prow i p.2.1 p.2.2.1))]⟩) (fun p=>p.1≤F.length∧RSp i (op m i) e N (op M N) d F T p.2.1 p.2.2.1∧outs i p.2.1≤outs i S0∧(p.2.2.2=true→outs i p.2.1 < outs i S0)∧(p.2.2.2=false→(∀ b,b < a→RCl (op m i) (op M N) F T p.2.1 p.2.2.1 b F.length)∧RCl (op m i) (op M N) F T p.2.1 p.2.2.1 a p.1)) (fun p=>F.length - p.1) (0,S1,ψ1,ag1) ⟨Nat.zero_le _,q2,q3,q4,fun h=>⟨q5 h,fun _ j hj=>absurd hj (Nat.not_lt_zero _)⟩⟩ [0,1,2] (by simp only [leq,leA,ev0,evA,evB,evP,fl,gp,tab,simprocAttr,reduceCtorEq,reduceIte]<;>first|trivial|exact ⟨rfl,rfl⟩|trace_state) fun p hp4=>?_
    obtain ⟨j,S,ψ,ag2⟩:=p
    obtain ⟨r1,r2,r3,r4,r5⟩:=hp4
    simp only at r1 r2 r3 r4 r5
    have hpl:=prow_len i S ψ
    have pa:=prow_get (S:=S) (ψ:=ψ) hal
    refine qm (qm ?_)
    rcases em3h (j < F.length) (S a=true) with k1 | ⟨k1,k2⟩ | ⟨k1,k2⟩
    ·refine hk_region fun K hK=>runs_eval tab_ok ?_
     simp only [ev0,evA,evB,evP,fl,gp,tab,simprocAttr,reduceCtorEq,reduceIte,il_length,decide_eq_false (show ¬ ((j:Nat):Int) < ((nl F).length:Nat) by omega)]
     refine fin_run trivial (hK _ ?_)<;>clear hK<;>clear K
     refine qa ?_
     refine hk_cond rfl (fun hC4=>?_) (fun hC4=>?_)
     ·cases hC4
     ·refine qj (qc (qc (qf (qd (qa ?_)))))
      refine hk_region fun K hK=>runs_eval tab_ok ?_
      simp only [ev0,evA,evB,evP,fl,gp,tab,simprocAttr,reduceCtorEq,reduceIte]
      refine fin_run ?_ (hK _ ?_)<;>clear hK<;>clear K
      ·(first|exact trivial|omega|(simp only [In64] at *; omega)|(simp [In64] at *; omega)|(simp_all; done)|skip)
      refine qa ?_
      refine ⟨(a + 1,S,ψ,ag2),[0,1,2],⟨by simp only; omega,r2,r3,r4,fun h b hb2=>?_⟩,by simp only; omega,?_⟩
      ·by_cases hba:b=a
       ·rw [hba,show F.length=j by omega]; exact (r5 h).2
       ·exact (r5 h).1 b (by simp only at hb2; omega)
      ·simp only [leq,leA,ev0,evA,evB,evP,fl,gp,tab,simprocAttr,reduceCtorEq,reduceIte]<;>first|trivial|omega
    ·rw [k2,if_pos rfl] at pa
     refine hk_region fun K hK=>runs_eval tab_ok ?_
     simp only [ev0,evA,evB,evP,fl,gp,tab,simprocAttr,reduceCtorEq,reduceIte,il_length,decide_eq_true (show ((j:Nat):Int) < ((nl F).length:Nat) by omega),ol_get (show a < (prow i S ψ).length by omega),pa]
     refine fin_run ?_ (hK _ ?_)<;>clear hK<;>clear K
     ·(first|exact trivial|omega|(simp only [In64] at *; omega)|(simp [In64] at *; omega)|(simp_all; done)|skip)
     refine qa ?_
     refine hk_cond rfl (fun hC4=>?_) (fun hC4=>?_)
     ·(try simp only [nhs] at hC4)
      have hjl:=k1
      have hFj:=hF j hjl
      have hTj:=hT j hjl
      have hψa:=r2.lt a hal k2
      have hbl:=G.cl _ _ hFj hal
      have pb:=prow_get (S:=S) (ψ:=ψ) hbl
      refine qh (qa (qm (ql (qm ?_))))
      refine hk_draw mixed (by kernel_rfl) fun K hK=>runs_eval tab_ok ?_
      simp only [ev0,evA,evB,evP,fl,gp,tab,simprocAttr,reduceCtorEq,reduceIte,il_get (show j < (nl F).length by omega),nl_get hjl]
      refine fin_stop ?_ (runs_call (m_c Tb hFj hal) rfl rfl rfl (by simp only [dstOk,Nat.reduceLT]) (by repeat (first|exact trivial|constructor)) (runs_eval tab_ok ?_))
      ·exact ⟨by omega,by omega⟩
      simp only [ev0,evA,evB,evP,fl,gp,tab,simprocAttr,reduceCtorEq,reduceIte,il_get (show j < (nl F).length by omega),nl_get hjl]
      refine fin_run ?_ (hK _ ?_)<;>clear hK<;>clear K
      ·(first|exact trivial|omega|(simp only [In64] at *; omega)|(simp [In64] at *; omega)|(simp_all; done)|skip)
      refine qa (qm ?_)
      refine hk_draw mixed (by kernel_rfl) fun K hK=>runs_eval tab_ok ?_
      simp only [ev0,evA,evB,evP,fl,gp,tab,simprocAttr,reduceCtorEq,reduceIte,il_get (show j < (nl T).length by omega),nl_get (show j < T.length by omega),ol_get (show a < (prow i S ψ).length by omega),pa]
      refine fin_stop ?_ (runs_call (m_c Tb' hTj hψa) rfl rfl rfl (by simp only [dstOk,Nat.reduceLT]) (by repeat (first|exact trivial|constructor)) (runs_eval tab_ok ?_))
      ·exact ⟨⟨⟨by omega,by omega⟩,by omega,by omega⟩,by omega⟩
      simp only [ev0,evA,evB,evP,fl,gp,tab,simprocAttr,reduceCtorEq,reduceIte,il_get (show j < (nl T).length by omega),nl_get (show j < T.length by omega),ol_get (show a < (prow i S ψ).length by omega),pa]
      refine fin_run ?_ (hK _ ?_)<;>clear hK<;>clear K
      ·(first|exact trivial|omega|(simp only [In64] at *; omega)|(simp [In64] at *; omega)|(simp_all; done)|skip)
      refine qa (qm ?_)
      rcases Bool.eq_false_or_eq_true (S (op m i (F.getD j 0) a)) with hSb | hSb<;>simp only [hSb,if_true,if_false,Bool.false_eq_true] at pb
      ·refine hk_region fun K hK=>runs_eval tab_ok ?_
       simp only [ev0,evA,evB,evP,fl,gp,tab,simprocAttr,reduceCtorEq,reduceIte,ol_get (show op m i (F.getD j 0) a < (prow i S ψ).length by omega),pb]
       refine fin_run ?_ (hK _ ?_)<;>clear hK<;>clear K
       ·(first|exact trivial|omega|(simp only [In64] at *; omega)|(simp [In64] at *; omega)|(simp_all; done)|skip)
       refine qa ?_
       refine hk_cond rfl (fun hC5=>?_) (fun hC5=>?_)
       ·(try simp only [nhs] at hC5)
        simp at hC5
        omega
       ·(try simp only [nhs] at hC5)
        refine qm ?_
        refine hk_region fun K hK=>runs_eval tab_ok ?_
        simp only [ev0,evA,evB,evP,fl,gp,tab,simprocAttr,reduceCtorEq,reduceIte,ol_get (show op m i (F.getD j 0) a < (prow i S ψ).length by omega),pb]
        refine fin_run ?_ (hK _ ?_)<;>clear hK<;>clear K
        ·(first|exact trivial|omega|(simp only [In64] at *; omega)|(simp [In64] at *; omega)|(simp_all; done)|skip)
        refine qa ?_
        refine hk_cond rfl (fun hC6=>?_) (fun hC6=>?_)
        ·(try simp only [nhs] at hC6)
         have h1:=r2.val G hF hφ hal k2 hjl
         have h2:=r2.ref φ hφ _ hbl hSb
         omega
        ·(try simp only [nhs] at hC6)
         have hv:ψ (op m i (F.getD j 0) a)=op M N (T.getD j 0) (ψ a):=by omega
         refine qh (qd (qa ?_))
         refine hk_region fun K hK=>runs_eval tab_ok ?_
         simp only [ev0,evA,evB,evP,fl,gp,tab,simprocAttr,reduceCtorEq,reduceIte]
         refine fin_run ?_ (hK _ ?_)<;>clear hK<;>clear K
         ·(first|exact trivial|omega|(simp only [In64] at *; omega)|(simp [In64] at *; omega)|(simp_all; done)|skip)
         refine qa ?_
         refine ⟨(j + 1,S,ψ,ag2),[0,1,2],⟨by simp only; omega,r2,r3,r4,fun h=>⟨(r5 h).1,fun _ y hy=>?_⟩⟩,by simp only; omega,?_⟩
         ·by_cases hyj:y=j
          ·rw [hyj]; exact ⟨hSb,hv⟩
          ·exact (r5 h).2 k2 y (by omega)
         ·simp only [leq,leA,ev0,evA,evB,evP,fl,gp,tab,simprocAttr,reduceCtorEq,reduceIte]<;>first|trivial|omega
      ·refine hk_region fun K hK=>runs_eval tab_ok ?_
       simp only [ev0,evA,evB,evP,fl,gp,tab,simprocAttr,reduceCtorEq,reduceIte,ol_get (show op m i (F.getD j 0) a < (prow i S ψ).length by omega),pb]
       refine fin_run ?_ (hK _ ?_)<;>clear hK<;>clear K
       ·(first|exact trivial|omega|(simp only [In64] at *; omega)|(simp [In64] at *; omega)|(simp_all; done)|skip)
       refine qa ?_
       refine hk_cond rfl (fun hC5=>?_) (fun hC5=>?_)
       ·(try simp only [nhs] at hC5)
        refine qm ?_
        refine hk_region fun K hK=>runs_eval tab_ok ?_
        simp only [ev0,evA,evB,evP,fl,gp,tab,simprocAttr,reduceCtorEq,reduceIte,ol_set,prow_set hbl hSb]
        refine fin_run ?_ (hK _ ?_)<;>clear hK<;>clear K
        ·(first|exact trivial|omega|(simp only [In64] at *; omega)|(simp [In64] at *; omega)|(simp_all; done)|skip)
        refine qa ?_
        refine hk_region fun K hK=>runs_eval tab_ok ?_
        simp only [ev0,evA,evB,evP,fl,gp,tab,simprocAttr,reduceCtorEq,reduceIte]
        refine fin_run trivial (hK _ ?_)<;>clear hK<;>clear K
        refine qd (qa ?_)
        refine hk_region fun K hK=>runs_eval tab_ok ?_
        simp only [ev0,evA,evB,evP,fl,gp,tab,simprocAttr,reduceCtorEq,reduceIte]
        refine fin_run ?_ (hK _ ?_)<;>clear hK<;>clear K
        ·(first|exact trivial|omega|(simp only [In64] at *; omega)|(simp [In64] at *; omega)|(simp_all; done)|skip)
        refine qa ?_
        have ho:=outs_lt hbl hSb
        refine ⟨(j + 1,upd1 S (op m i (F.getD j 0) a),updF ψ (op m i (F.getD j 0) a) (op M N (T.getD j 0) (ψ a)),true),[0,1,2],⟨by simp only; omega,r2.push G GG hF hT hal k2 hjl hSb,by simp only; omega,fun _=>by simp only; omega,fun h=>by cases h⟩,by simp only; omega,?_⟩
        simp only [leq,leA,ev0,evA,evB,evP,fl,gp,tab,simprocAttr,reduceCtorEq,reduceIte]<;>first|trivial|omega|(simp [prow_len]; done)|trace_state
       ·(try simp only [nhs] at hC5)
        simp at hC5
     ·(try simp only [nhs] at hC4)
      first|omega|(simp at hC4; done)|(simp at hC4; omega)
    ·rw [if_neg k2] at pa
     refine hk_region fun K hK=>runs_eval tab_ok ?_
     simp only [ev0,evA,evB,evP,fl,gp,tab,simprocAttr,reduceCtorEq,reduceIte,il_length,decide_eq_true (show ((j:Nat):Int) < ((nl F).length:Nat) by omega),ol_get (show a < (prow i S ψ).length by omega),pa]
     refine fin_run ?_ (hK _ ?_)<;>clear hK<;>clear K
     ·(first|exact trivial|omega|(simp only [In64] at *; omega)|(simp [In64] at *; omega)|(simp_all; done)|skip)
     refine qa ?_
     refine hk_cond rfl (fun hC4=>?_) (fun hC4=>?_)
     ·(try simp only [nhs] at hC4)
      first|omega|(simp at hC4; done)|(simp at hC4; omega)
     ·(try simp only [nhs] at hC4)
      refine qj (qc (qc (qf (qd (qa ?_)))))
      refine hk_region fun K hK=>runs_eval tab_ok ?_
      simp only [ev0,evA,evB,evP,fl,gp,tab,simprocAttr,reduceCtorEq,reduceIte]
      refine fin_run ?_ (hK _ ?_)<;>clear hK<;>clear K
      ·(first|exact trivial|omega|(simp only [In64] at *; omega)|(simp [In64] at *; omega)|(simp_all; done)|skip)
      refine qa ?_
      refine ⟨(a + 1,S,ψ,ag2),[0,1,2],⟨by simp only; omega,r2,r3,r4,fun h b hb2=>?_⟩,by simp only; omega,?_⟩
      ·by_cases hba:b=a
       ·rw [hba]; exact fun hh=>absurd hh k2
       ·exact (r5 h).1 b (by simp only at hb2; omega)
      ·simp only [leq,leA,ev0,evA,evB,evP,fl,gp,tab,simprocAttr,reduceCtorEq,reduceIte]<;>first|trivial|omega
   ·(try simp only [nhs] at hC3)
    obtain rfl:a=i:=by omega
    refine qj (qc (qc (qf (qd (qa ?_)))))
    refine ⟨(S1,ψ1,ag1),[0,1,2],⟨q2,fun h=>q5 h⟩,?_,?_⟩
    ·cases ag1 with
     | false=>simp only [Bool.toNat_false,Bool.toNat_true]; omega
     | true=>have:=q4 rfl; simp only [Bool.toNat_true]; omega
    ·simp only [leq,leA,ev0,evA,evB,evP,fl,gp,tab,simprocAttr,reduceCtorEq,reduceIte]<;>first|trivial|omega
  ·(try simp only [nhs] at hC2)
   subst hC2
   obtain ⟨hall,hext⟩:=hp.fin G GG hF hT hgen (hag rfl)
   rw [prow_all fun a ha=>⟨hall a ha,hp.ref φ hφ a ha (hall a ha)⟩]
   refine qj (qc (qc (qf (qa (qm ?_)))))
   refine hk_region fun K hK=>runs_eval tab_ok ?_
   simp only [ev0,evA,evB,evP,fl,gp,tab,simprocAttr,reduceCtorEq,reduceIte]
   refine fin_run trivial (hK _ ?_)<;>clear hK<;>clear K
   refine qa (qk ?_)
   simp only [Tryd.results91,PostG,endG,rvsA,rvA,mkTup,ev0,evA,evB,evP,fl,gp,tab,simprocAttr,reduceCtorEq,reduceIte]
   have htl:=tbm_len i φ
   exact ⟨[2],by simp only [il_length,htl]; rfl,rfl,by simp only [leq,leA,ev0,evA,evB,evP,fl,gp,tab,simprocAttr,reduceCtorEq,reduceIte]<;>first|trivial|exact ⟨rfl,rfl⟩|(refine ⟨?_,opl_sc _ _⟩; rw [List.take_of_length_le (by rw [htl])]; rfl)|trace_state⟩

set_option maxHeartbeats 4000000 in
theorem rspread_no (h:GT n m n e) (h' : GT N M N d) (F T:List Nat) (hFT:F.length=T.length) (hFl:F.length≤1000000) (hF:∀ i,i < F.length→F.getD i 0 < n) (hT:∀ i,i < F.length→T.getD i 0 < N) (hgen:∀ a,a < n→Gen n (op m n) e (fun x=>decide (x∈F)) a) (hφ:∀ φ,¬ Ext n (op m n) N (op M N) F T φ):FnG Tryd.prog 91 [gp n m,gp N M,.list (il (nl F)),.list (il (nl T))] (.p .nil) []:=by
 have G:=h.2.2
 have GG:=h'.2.2
 have Tb:=h.2.1
 have Tb':=h'.2.1
 have hb:=Tb.big
 have hb':=Tb'.big
 have hlF:=nl_len F
 have hlT:=nl_len T
 have hel:=G.el
 have hde:=GG.el
 have he1:=h.eI
 have he2:=h'.eI
 have hrz:(rgz n fun a=>if a < 0 then (-1:Int) else 0)=rgz n fun _=>0:=rgz_congr fun a ha=>by simp
 refine fng_of tab_ok Tryd.func91 rfl (by kernel_rfl) (by rw [Tryd.ntmps91]; exact Nat.le_add_left 4 _) ?_; rw [Tryd.ntmps91]
 refine qm ?_
 refine hk_region fun K hK=>runs_eval tab_ok ?_
 simp only [ev0,evA,evB,evP,fl,gp,tab,simprocAttr,reduceCtorEq,reduceIte]
 refine fin_run ?_ (hK _ ?_)<;>clear hK<;>clear K
 ·(first|exact trivial|omega|(simp only [In64] at *; omega)|(simp [In64] at *; omega)|(simp_all; done)|skip)
 refine qa (qm ?_)
 refine hk_region fun K hK=>runs_eval tab_ok ?_
 simp only [ev0,evA,evB,evP,fl,gp,tab,simprocAttr,reduceCtorEq,reduceIte,makeSliceA.eq_def,rgz_new]
 refine fin_run ?_ (hK _ ?_)<;>clear hK<;>clear K
 ·omega
 refine qa (qm (qm ?_))
 refine hk_region fun K hK=>runs_eval tab_ok ?_
 simp only [ev0,evA,evB,evP,fl,gp,tab,simprocAttr,reduceCtorEq,reduceIte]
 refine fin_run trivial (hK _ ?_)<;>clear hK<;>clear K
 refine qa (ql ?_)
 refine hk_loop (ι:=Nat) (fun i=>⟨87,[(2,.p (.list (il (nl F)))),(3,.p (.list (il (nl T)))),(4,.ptr 0 0),(5,.ptr 1 0),(9,.sl 2 0 n),(10,.p (.int .i64 i))],[.own [.p (.int .i64 n),.p (.list (il m))],.own [.p (.int .i64 N),.p (.list (il M))],.own (ol (rgz n fun a=>if a < i then -1 else 0))]⟩) (fun i=>i≤n) (fun i=>n - i) 0 (Nat.zero_le _) [0,1,2] (by simp only [leq,leA,ev0,evA,evB,evP,fl,gp,tab,simprocAttr,reduceCtorEq,reduceIte]<;>first|trivial|exact ⟨rfl,rfl⟩|(rw [hrz,List.take_of_length_le (by rw [rgz_len]; exact Nat.le_refl _)]; done)|(simp [rgz_len]; done)|trace_state) fun i hi=>?_
 have hr:=rgz_len n (fun a=>if a < i then -1 else 0)
 refine qm (qm ?_)
 refine hk_region fun K hK=>runs_eval tab_ok ?_
 simp only [ev0,evA,evB,evP,fl,gp,tab,simprocAttr,reduceCtorEq,reduceIte]
 refine fin_run ?_ (hK _ ?_)<;>clear hK<;>clear K
 ·(first|exact trivial|omega|(simp only [In64] at *; omega)|(simp [In64] at *; omega)|(simp_all; done)|skip)
 refine qa ?_
 refine hk_cond rfl (fun hC1=>?_) (fun hC1=>?_)
 ·(try simp only [nhs] at hC1)
  have hlt:i < n:=by omega
  have hse:(rgz n fun a=>if a < i then -1 else 0).set i (-1)=rgz n fun a=>if a < i + 1 then -1 else 0:=by
   rw [rgz_set]
   exact rgz_congr fun a ha=>by
    by_cases e:a=i
    ·simp [e]
    ·by_cases e2:a < i
     ·simp [e,e2,show a < i + 1 by omega]
     ·simp [e,e2,show ¬ a < i + 1 by omega]
  refine qh (qa (qm (ql ?_)))
  refine hk_region fun K hK=>runs_eval tab_ok ?_
  simp only [ev0,evA,evB,evP,fl,gp,tab,simprocAttr,reduceCtorEq,reduceIte,ol_set,hse]
  refine fin_run ?_ (hK _ ?_)<;>clear hK<;>clear K
  ·(first|exact trivial|omega|(simp only [In64] at *; omega)|(simp [In64] at *; omega)|(simp_all; done)|skip)
  refine qd (qa ?_)
  refine hk_region fun K hK=>runs_eval tab_ok ?_
  simp only [ev0,evA,evB,evP,fl,gp,tab,simprocAttr,reduceCtorEq,reduceIte]
  refine fin_run ?_ (hK _ ?_)<;>clear hK<;>clear K
  ·(first|exact trivial|omega|(simp only [In64] at *; omega)|(simp [In64] at *; omega)|(simp_all; done)|skip)
  refine qa ?_
  refine ⟨i + 1,[0,1,2],by omega,by omega,?_⟩
  simp only [leq,leA,ev0,evA,evB,evP,fl,gp,tab,simprocAttr,reduceCtorEq,reduceIte]<;>first|trivial|omega|(simp [ol_length,rgz_len]; done)
 ·(try simp only [nhs] at hC1)
  obtain rfl:i=n:=by omega
  rw [rgz_neg]
  have hp0:=prow_len i (fun _=>false) (fun _=>0)
  refine qj (qc (qc (qf (qa (qm ?_)))))
  refine hk_draw2 mixed fun K hK=>runs2_eval tab_ok ?_
  simp only [evD,ev0,evA,evB,evP,fl,gp,tab,simprocAttr,reduceCtorEq,reduceIte,he1,he2,ol_set,prow_set (S:=fun _=>false) (ψ:=fun _=>0) hel rfl]
  refine fin2_stop trivial (runs2_call (e_c Tb) rfl rfl rfl rfl (by simp only [dstOk,Nat.reduceLT]) (by repeat (first|exact trivial|constructor)) (runs2_eval tab_ok ?_))
  simp only [evD,ev0,evA,evB,evP,fl,gp,tab,simprocAttr,reduceCtorEq,reduceIte,he1,he2,ol_set,prow_set (S:=fun _=>false) (ψ:=fun _=>0) hel rfl]
  refine fin2_stop trivial (runs2_call (e_c Tb') rfl rfl rfl rfl (by simp only [dstOk,Nat.reduceLT]) (by repeat (first|exact trivial|constructor)) (runs2_eval tab_ok ?_))
  simp only [evD,ev0,evA,evB,evP,fl,gp,tab,simprocAttr,reduceCtorEq,reduceIte,he1,he2,ol_set,prow_set (S:=fun _=>false) (ψ:=fun _=>0) hel rfl]
  refine fin2_run ?_ (hK _ _ (by first|kernel_rfl|rfl) ?_)<;>clear hK<;>clear K
  ·(first|exact trivial|omega|(simp only [In64] at *; omega)|(simp [In64] at *; omega)|(simp_all; done)|skip)
  refine qa (qm (qm ?_))
  refine hk_region fun K hK=>runs_eval tab_ok ?_
  simp only [ev0,evA,evB,evP,fl,gp,tab,simprocAttr,reduceCtorEq,reduceIte]
  refine fin_run trivial (hK _ ?_)<;>clear hK<;>clear K
  refine qa (ql ?_)
  refine hk_loop (ι:=(Nat→Bool) × (Nat→Nat) × Bool) (fun p=>⟨87,[(2,.p (.list (il (nl F)))),(3,.p (.list (il (nl T)))),(4,.ptr 0 0),(5,.ptr 1 0),(9,.sl 2 0 i),(11,.p (.bool p.2.2))],[.own [.p (.int .i64 i),.p (.list (il m))],.own [.p (.int .i64 N),.p (.list (il M))],.own (ol (prow i p.1 p.2.1))]⟩) (fun p=>RSp i (op m i) e N (op M N) d F T p.1 p.2.1∧(p.2.2=false→∀ a,a < i→RCl (op m i) (op M N) F T p.1 p.2.1 a F.length)) (fun p=>2 * outs i p.1 + p.2.2.toNat) (upd1 (fun _=>false) e,updF (fun _=>0) e d,true) ⟨RSp.begin G GG,fun h=>by cases h⟩ [0,1,2] (by simp only [leq,leA,ev0,evA,evB,evP,fl,gp,tab,simprocAttr,reduceCtorEq,reduceIte]<;>first|trivial|exact ⟨rfl,rfl⟩|(simp [prow_len]; done)|trace_state) fun p hp=>?_
  obtain ⟨S0,ψ0,ag⟩:=p
  obtain ⟨hp,hag⟩:=hp
  simp only at hp hag
  refine qm (qm ?_)
  refine hk_region fun K hK=>runs_eval tab_ok ?_
  simp only [ev0,evA,evB,evP,fl,gp,tab,simprocAttr,reduceCtorEq,reduceIte]
  refine fin_run trivial (hK _ ?_)<;>clear hK<;>clear K
  refine qa ?_
  refine hk_cond rfl (fun hC2=>?_) (fun hC2=>?_)
  ·(try simp only [nhs] at hC2)
   subst hC2
   refine qh (qa (ql (qm ?_)))
   refine hk_region fun K hK=>runs_eval tab_ok ?_
   simp only [ev0,evA,evB,evP,fl,gp,tab,simprocAttr,reduceCtorEq,reduceIte]
   refine fin_run trivial (hK _ ?_)<;>clear hK<;>clear K
   refine qa (qm ?_)
   refine hk_region fun K hK=>runs_eval tab_ok ?_
   simp only [ev0,evA,evB,evP,fl,gp,tab,simprocAttr,reduceCtorEq,reduceIte]
   refine fin_run trivial (hK _ ?_)<;>clear hK<;>clear K
   refine qa (ql ?_)
   refine hk_loop (ι:=Nat × (Nat→Bool) × (Nat→Nat) × Bool) (fun p=>⟨87,[(2,.p (.list (il (nl F)))),(3,.p (.list (il (nl T)))),(4,.ptr 0 0),(5,.ptr 1 0),(9,.sl 2 0 i),(11,.p (.bool p.2.2.2)),(12,.p (.int .i64 p.1))],[.own [.p (.int .i64 i),.p (.list (il m))],.own [.p (.int .i64 N),.p (.list (il M))],.own (ol (prow i p.2.1 p.2.2.1))]⟩) (fun p=>p.1≤i∧RSp i (op m i) e N (op M N) d F T p.2.1 p.2.2.1∧outs i p.2.1≤outs i S0∧(p.2.2.2=true→outs i p.2.1 < outs i S0)∧(p.2.2.2=false→∀ a,a < p.1→RCl (op m i) (op M N) F T p.2.1 p.2.2.1 a F.length)) (fun p=>i - p.1) (0,S0,ψ0,false) ⟨Nat.zero_le _,hp,Nat.le_refl _,fun h=>(by cases h),fun _ a ha=>absurd ha (Nat.not_lt_zero _)⟩ [0,1,2] (by simp only [leq,leA,ev0,evA,evB,evP,fl,gp,tab,simprocAttr,reduceCtorEq,reduceIte]<;>first|trivial|exact ⟨rfl,rfl⟩|trace_state) fun p hp3=>?_
   obtain ⟨a,S1,ψ1,ag1⟩:=p
   obtain ⟨q1,q2,q3,q4,q5⟩:=hp3
   simp only at q1 q2 q3 q4 q5
   refine qm (qm ?_)
   refine hk_region fun K hK=>runs_eval tab_ok ?_
   simp only [ev0,evA,evB,evP,fl,gp,tab,simprocAttr,reduceCtorEq,reduceIte]
   refine fin_run ?_ (hK _ ?_)<;>clear hK<;>clear K
   ·(first|exact trivial|omega|(simp only [In64] at *; omega)|(simp [In64] at *; omega)|(simp_all; done)|skip)
   refine qa ?_
   refine hk_cond rfl (fun hC3=>?_) (fun hC3=>?_)
   ·(try simp only [nhs] at hC3)
    have hal:a < i:=by omega
    refine qh (qa (qm (ql (qm ?_))))
    refine hk_region fun K hK=>runs_eval tab_ok ?_
    simp only [ev0,evA,evB,evP,fl,gp,tab,simprocAttr,reduceCtorEq,reduceIte]
    refine fin_run trivial (hK _ ?_)<;>clear hK<;>clear K
    refine qa (ql ?_)
    refine hk_loop (ι:=Nat × (Nat→Bool) × (Nat→Nat) × Bool) (fun p=>⟨87,[(2,.p (.list (il (nl F)))),(3,.p (.list (il (nl T)))),(4,.ptr 0 0),(5,.ptr 1 0),(9,.sl 2 0 i),(11,.p (.bool p.2.2.2)),(12,.p (.int .i64 a)),(13,.p (.int .i64 p.1))],[.own [.p (.int .i64 i),.p (.list (il m))],.own [.p (.int .i64 N),.p (.list (il M))],.own (ol (prow i p.2.1 p.2.2.1))]⟩) (fun p=>p.1≤F.length∧RSp i (op m i) e N (op M N) d F T p.2.1 p.2.2.1∧outs i p.2.1≤outs i S0∧(p.2.2.2=true→outs i p.2.1 < outs i S0)∧(p.2.2.2=false→(∀ b,b < a→RCl (op m i) (op M N) F T p.2.1 p.2.2.1 b F.length)∧RCl (op m i) (op M N) F T p.2.1 p.2.2.1 a p.1)) (fun p=>F.length - p.1) (0,S1,ψ1,ag1) ⟨Nat.zero_le _,q2,q3,q4,fun h=>⟨q5 h,fun _ j hj=>absurd hj (Nat.not_lt_zero _)⟩⟩ [0,1,2] (by simp only [leq,leA,ev0,evA,evB,evP,fl,gp,tab,simprocAttr,reduceCtorEq,reduceIte]<;>first|trivial|exact ⟨rfl,rfl⟩|trace_state) fun p hp4=>?_
    obtain ⟨j,S,ψ,ag2⟩:=p
    obtain ⟨r1,r2,r3,r4,r5⟩:=hp4
    simp only at r1 r2 r3 r4 r5
    have hpl:=prow_len i S ψ
    have pa:=prow_get (S:=S) (ψ:=ψ) hal
    refine qm (qm ?_)
    rcases em3h (j < F.length) (S a=true) with k1 | ⟨k1,k2⟩ | ⟨k1,k2⟩
    ·refine hk_region fun K hK=>runs_eval tab_ok ?_
     simp only [ev0,evA,evB,evP,fl,gp,tab,simprocAttr,reduceCtorEq,reduceIte,il_length,decide_eq_false (show ¬ ((j:Nat):Int) < ((nl F).length:Nat) by omega)]
     refine fin_run trivial (hK _ ?_)<;>clear hK<;>clear K
     refine qa ?_
     refine hk_cond rfl (fun hC4=>?_) (fun hC4=>?_)
     ·cases hC4
     ·refine qj (qc (qc (qf (qd (qa ?_)))))
      refine hk_region fun K hK=>runs_eval tab_ok ?_
      simp only [ev0,evA,evB,evP,fl,gp,tab,simprocAttr,reduceCtorEq,reduceIte]
      refine fin_run ?_ (hK _ ?_)<;>clear hK<;>clear K
      ·(first|exact trivial|omega|(simp only [In64] at *; omega)|(simp [In64] at *; omega)|(simp_all; done)|skip)
      refine qa ?_
      refine ⟨(a + 1,S,ψ,ag2),[0,1,2],⟨by simp only; omega,r2,r3,r4,fun h b hb2=>?_⟩,by simp only; omega,?_⟩
      ·by_cases hba:b=a
       ·rw [hba,show F.length=j by omega]; exact (r5 h).2
       ·exact (r5 h).1 b (by simp only at hb2; omega)
      ·simp only [leq,leA,ev0,evA,evB,evP,fl,gp,tab,simprocAttr,reduceCtorEq,reduceIte]<;>first|trivial|omega
    ·rw [k2,if_pos rfl] at pa
     refine hk_region fun K hK=>runs_eval tab_ok ?_
     simp only [ev0,evA,evB,evP,fl,gp,tab,simprocAttr,reduceCtorEq,reduceIte,il_length,decide_eq_true (show ((j:Nat):Int) < ((nl F).length:Nat) by omega),ol_get (show a < (prow i S ψ).length by omega),pa]
     refine fin_run ?_ (hK _ ?_)<;>clear hK<;>clear K
     ·(first|exact trivial|omega|(simp only [In64] at *; omega)|(simp [In64] at *; omega)|(simp_all; done)|skip)
     refine qa ?_
     refine hk_cond rfl (fun hC4=>?_) (fun hC4=>?_)
     ·(try simp only [nhs] at hC4)
      have hjl:=k1
      have hFj:=hF j hjl
      have hTj:=hT j hjl
      have hψa:=r2.lt a hal k2
      have hbl:=G.cl _ _ hFj hal
      have pb:=prow_get (S:=S) (ψ:=ψ) hbl
      refine qh (qa (qm (ql (qm ?_))))
      refine hk_draw mixed (by kernel_rfl) fun K hK=>runs_eval tab_ok ?_
      simp only [ev0,evA,evB,evP,fl,gp,tab,simprocAttr,reduceCtorEq,reduceIte,il_get (show j < (nl F).length by omega),nl_get hjl]
      refine fin_stop ?_ (runs_call (m_c Tb hFj hal) rfl rfl rfl (by simp only [dstOk,Nat.reduceLT]) (by repeat (first|exact trivial|constructor)) (runs_eval tab_ok ?_))
      ·exact ⟨by omega,by omega⟩
      simp only [ev0,evA,evB,evP,fl,gp,tab,simprocAttr,reduceCtorEq,reduceIte,il_get (show j < (nl F).length by omega),nl_get hjl]
      refine fin_run ?_ (hK _ ?_)<;>clear hK<;>clear K
      ·(first|exact trivial|omega|(simp only [In64] at *; omega)|(simp [In64] at *; omega)|(simp_all; done)|skip)
      refine qa (qm ?_)
      refine hk_draw mixed (by kernel_rfl) fun K hK=>runs_eval tab_ok ?_
      simp only [ev0,evA,evB,evP,fl,gp,tab,simprocAttr,reduceCtorEq,reduceIte,il_get (show j < (nl T).length by omega),nl_get (show j < T.length by omega),ol_get (show a < (prow i S ψ).length by omega),pa]
      refine fin_stop ?_ (runs_call (m_c Tb' hTj hψa) rfl rfl rfl (by simp only [dstOk,Nat.reduceLT]) (by repeat (first|exact trivial|constructor)) (runs_eval tab_ok ?_))
      ·exact ⟨⟨⟨by omega,by omega⟩,by omega,by omega⟩,by omega⟩
      simp only [ev0,evA,evB,evP,fl,gp,tab,simprocAttr,reduceCtorEq,reduceIte,il_get (show j < (nl T).length by omega),nl_get (show j < T.length by omega),ol_get (show a < (prow i S ψ).length by omega),pa]
      refine fin_run ?_ (hK _ ?_)<;>clear hK<;>clear K
      ·(first|exact trivial|omega|(simp only [In64] at *; omega)|(simp [In64] at *; omega)|(simp_all; done)|skip)
      refine qa (qm ?_)
      rcases Bool.eq_false_or_eq_true (S (op m i (F.getD j 0) a)) with hSb | hSb<;>simp only [hSb,if_true,if_false,Bool.false_eq_true] at pb
      ·refine hk_region fun K hK=>runs_eval tab_ok ?_
       simp only [ev0,evA,evB,evP,fl,gp,tab,simprocAttr,reduceCtorEq,reduceIte,ol_get (show op m i (F.getD j 0) a < (prow i S ψ).length by omega),pb]
       refine fin_run ?_ (hK _ ?_)<;>clear hK<;>clear K
       ·(first|exact trivial|omega|(simp only [In64] at *; omega)|(simp [In64] at *; omega)|(simp_all; done)|skip)
       refine qa ?_
       refine hk_cond rfl (fun hC5=>?_) (fun hC5=>?_)
       ·(try simp only [nhs] at hC5)
        simp at hC5
        omega
       ·(try simp only [nhs] at hC5)
        refine qm ?_
        refine hk_region fun K hK=>runs_eval tab_ok ?_
        simp only [ev0,evA,evB,evP,fl,gp,tab,simprocAttr,reduceCtorEq,reduceIte,ol_get (show op m i (F.getD j 0) a < (prow i S ψ).length by omega),pb]
        refine fin_run ?_ (hK _ ?_)<;>clear hK<;>clear K
        ·(first|exact trivial|omega|(simp only [In64] at *; omega)|(simp [In64] at *; omega)|(simp_all; done)|skip)
        refine qa ?_
        refine hk_cond rfl (fun hC6=>?_) (fun hC6=>?_)
        ·(try simp only [nhs] at hC6)
         have hdum:True:=trivial
         refine qm ?_
         refine hk_region fun K hK=>runs_eval tab_ok ?_
         simp only [ev0,evA,evB,evP,fl,gp,tab,simprocAttr,reduceCtorEq,reduceIte]
         refine fin_run trivial (hK _ ?_)<;>clear hK<;>clear K
         refine qa (qk (qe (qb (qb (qe (qe (qb (qb (qe (qe (qb (qe (qb ?_)))))))))))))
         simp only [Tryd.results91,PostG,endG,rvsA,rvA,mkTup,ev0,evA,evB,evP,fl,gp,tab,simprocAttr,reduceCtorEq,reduceIte]
         all_goals (exact ⟨[],rfl,rfl,by simp only [leq,leA,ev0,evA,evB,evP,fl,gp,tab,simprocAttr,reduceCtorEq,reduceIte]<;>first|trivial|omega⟩)
        ·(try simp only [nhs] at hC6)
         have hv:ψ (op m i (F.getD j 0) a)=op M N (T.getD j 0) (ψ a):=by omega
         refine qh (qd (qa ?_))
         refine hk_region fun K hK=>runs_eval tab_ok ?_
         simp only [ev0,evA,evB,evP,fl,gp,tab,simprocAttr,reduceCtorEq,reduceIte]
         refine fin_run ?_ (hK _ ?_)<;>clear hK<;>clear K
         ·(first|exact trivial|omega|(simp only [In64] at *; omega)|(simp [In64] at *; omega)|(simp_all; done)|skip)
         refine qa ?_
         refine ⟨(j + 1,S,ψ,ag2),[0,1,2],⟨by simp only; omega,r2,r3,r4,fun h=>⟨(r5 h).1,fun _ y hy=>?_⟩⟩,by simp only; omega,?_⟩
         ·by_cases hyj:y=j
          ·rw [hyj]; exact ⟨hSb,hv⟩
          ·exact (r5 h).2 k2 y (by omega)
         ·simp only [leq,leA,ev0,evA,evB,evP,fl,gp,tab,simprocAttr,reduceCtorEq,reduceIte]<;>first|trivial|omega
      ·refine hk_region fun K hK=>runs_eval tab_ok ?_
       simp only [ev0,evA,evB,evP,fl,gp,tab,simprocAttr,reduceCtorEq,reduceIte,ol_get (show op m i (F.getD j 0) a < (prow i S ψ).length by omega),pb]
       refine fin_run ?_ (hK _ ?_)<;>clear hK<;>clear K
       ·(first|exact trivial|omega|(simp only [In64] at *; omega)|(simp [In64] at *; omega)|(simp_all; done)|skip)
       refine qa ?_
       refine hk_cond rfl (fun hC5=>?_) (fun hC5=>?_)
       ·(try simp only [nhs] at hC5)
        refine qm ?_
        refine hk_region fun K hK=>runs_eval tab_ok ?_
        simp only [ev0,evA,evB,evP,fl,gp,tab,simprocAttr,reduceCtorEq,reduceIte,ol_set,prow_set hbl hSb]
        refine fin_run ?_ (hK _ ?_)<;>clear hK<;>clear K
        ·(first|exact trivial|omega|(simp only [In64] at *; omega)|(simp [In64] at *; omega)|(simp_all; done)|skip)
        refine qa ?_
        refine hk_region fun K hK=>runs_eval tab_ok ?_
        simp only [ev0,evA,evB,evP,fl,gp,tab,simprocAttr,reduceCtorEq,reduceIte]
        refine fin_run trivial (hK _ ?_)<;>clear hK<;>clear K
        refine qd (qa ?_)
        refine hk_region fun K hK=>runs_eval tab_ok ?_
        simp only [ev0,evA,evB,evP,fl,gp,tab,simprocAttr,reduceCtorEq,reduceIte]
        refine fin_run ?_ (hK _ ?_)<;>clear hK<;>clear K
        ·(first|exact trivial|omega|(simp only [In64] at *; omega)|(simp [In64] at *; omega)|(simp_all; done)|skip)
        refine qa ?_
        have ho:=outs_lt hbl hSb
        refine ⟨(j + 1,upd1 S (op m i (F.getD j 0) a),updF ψ (op m i (F.getD j 0) a) (op M N (T.getD j 0) (ψ a)),true),[0,1,2],⟨by simp only; omega,r2.push G GG hF hT hal k2 hjl hSb,by simp only; omega,fun _=>by simp only; omega,fun h=>by cases h⟩,by simp only; omega,?_⟩
        simp only [leq,leA,ev0,evA,evB,evP,fl,gp,tab,simprocAttr,reduceCtorEq,reduceIte]<;>first|trivial|omega|(simp [prow_len]; done)|trace_state
       ·(try simp only [nhs] at hC5)
        simp at hC5
     ·(try simp only [nhs] at hC4)
      first|omega|(simp at hC4; done)|(simp at hC4; omega)
    ·rw [if_neg k2] at pa
     refine hk_region fun K hK=>runs_eval tab_ok ?_
     simp only [ev0,evA,evB,evP,fl,gp,tab,simprocAttr,reduceCtorEq,reduceIte,il_length,decide_eq_true (show ((j:Nat):Int) < ((nl F).length:Nat) by omega),ol_get (show a < (prow i S ψ).length by omega),pa]
     refine fin_run ?_ (hK _ ?_)<;>clear hK<;>clear K
     ·(first|exact trivial|omega|(simp only [In64] at *; omega)|(simp [In64] at *; omega)|(simp_all; done)|skip)
     refine qa ?_
     refine hk_cond rfl (fun hC4=>?_) (fun hC4=>?_)
     ·(try simp only [nhs] at hC4)
      first|omega|(simp at hC4; done)|(simp at hC4; omega)
     ·(try simp only [nhs] at hC4)
      refine qj (qc (qc (qf (qd (qa ?_)))))
      refine hk_region fun K hK=>runs_eval tab_ok ?_
      simp only [ev0,evA,evB,evP,fl,gp,tab,simprocAttr,reduceCtorEq,reduceIte]
      refine fin_run ?_ (hK _ ?_)<;>clear hK<;>clear K
      ·(first|exact trivial|omega|(simp only [In64] at *; omega)|(simp [In64] at *; omega)|(simp_all; done)|skip)
      refine qa ?_
      refine ⟨(a + 1,S,ψ,ag2),[0,1,2],⟨by simp only; omega,r2,r3,r4,fun h b hb2=>?_⟩,by simp only; omega,?_⟩
      ·by_cases hba:b=a
       ·rw [hba]; exact fun hh=>absurd hh k2
       ·exact (r5 h).1 b (by simp only at hb2; omega)
      ·simp only [leq,leA,ev0,evA,evB,evP,fl,gp,tab,simprocAttr,reduceCtorEq,reduceIte]<;>first|trivial|omega
   ·(try simp only [nhs] at hC3)
    obtain rfl:a=i:=by omega
    refine qj (qc (qc (qf (qd (qa ?_)))))
    refine ⟨(S1,ψ1,ag1),[0,1,2],⟨q2,fun h=>q5 h⟩,?_,?_⟩
    ·cases ag1 with
     | false=>simp only [Bool.toNat_false,Bool.toNat_true]; omega
     | true=>have:=q4 rfl; simp only [Bool.toNat_true]; omega
    ·simp only [leq,leA,ev0,evA,evB,evP,fl,gp,tab,simprocAttr,reduceCtorEq,reduceIte]<;>first|trivial|omega
  ·(try simp only [nhs] at hC2)
   subst hC2
   obtain ⟨hall,hext⟩:=hp.fin G GG hF hT hgen (hag rfl)
   exact absurd hext (hφ _)
end
end Go.Proofs.YtboadfahlflmhaaDoor

/-
  Walks: hom.Extend. Conditions: none.
-/
set_option linter.all false
namespace Go.Proofs.YtboadfahlflmhaaDoor
open Go.Pv

def tn (l:List Int):List Nat:=l.map Int.toNat
theorem tn_len (l:List Int):(tn l).length=l.length:=by simp [tn]
theorem nl_tn {l:List Int} (h:∀ i,i < l.length→0≤l.getD i 0):nl (tn l)=l:=by
 refine List.ext_getElem (by rw [nl_len,tn_len]) fun i h1 h2=>?_
 have:=h i h2
 simp only [List.getD,List.getElem?_eq_getElem h2,Option.getD_some] at this
 simp [nl,tn]
 omega
section
variable {N N' : Int} {m m' F T:List Int}
end
section
variable {n e n' e' : Nat} {m m' F T:List Int}
end
theorem thl_full (n:Nat) (q:Nat→Bool):(∀ a,a < n→q a=true)↔(thl n q).length=n:=by
 constructor
 ·intro h
  rw [thl_len]
  unfold thn'
  rw [List.filter_eq_self.2 fun a ha=>h a (List.mem_range.1 ha),List.length_range]
 ·intro h a ha
  rw [thl_len] at h
  unfold thn' at h
  refine Classical.byContradiction fun hq=>?_
  have:=List.length_filter_lt_length_iff_exists.2 ⟨a,List.mem_range.2 ha,hq⟩
  rw [List.length_range] at this
  omega
end Go.Proofs.YtboadfahlflmhaaDoor

/-
  What things make, as a row that is new. Conditions: none.
-/
set_option linter.all false
namespace Go.Proofs.YtboadfahlflmhaaDoor
open Go.Pv

theorem span_g {n e:Nat} {m:List Int} (h:GT n m n e) (l:List Int) (hl:l.length≤1000000000000) (hr:∀ x∈l,∃ a,a < n∧x=((a:Nat):Int)) (q:Nat→Bool) (hq:∀ a,a < n→(q a=true↔Gen n (op m n) e (tst l) a)):FnG Tryd.prog 72 [gp n m,.list (il l)] (.sl 0 0 (il (thl n q)).length) [.own (opl (il (thl n q)))]:=by
 have G:=h.2.2
 have T:=h.2.1
 have hb:=T.big
 have hel:=G.el
 refine fng_of tab_ok Tryd.func72 rfl (by kernel_rfl) (by rw [Tryd.ntmps72]; exact Nat.le_add_left 2 _) ?_; rw [Tryd.ntmps72]
 refine qm ?_
 refine hk_region fun K hK=>runs_eval tab_ok ?_
 simp only [ev0,evA,evB,evP,fl,gp,tab,simprocAttr,reduceCtorEq,reduceIte]
 refine fin_run ?_ (hK _ ?_)<;>clear hK<;>clear K
 ·(first|exact trivial|omega|(simp only [In64] at *; omega)|(simp [In64] at *; omega)|(simp_all; done)|skip)
 refine qa (qm ?_)
 refine hk_region fun K hK=>runs_eval tab_ok ?_
 simp only [ev0,evA,evB,evP,fl,gp,tab,simprocAttr,reduceCtorEq,reduceIte,makeSliceA.eq_def,obl_new]
 refine fin_run ?_ (hK _ ?_)<;>clear hK<;>clear K
 ·omega
 refine qa (qm ?_)
 refine hk_draw mixed (by kernel_rfl) fun K hK=>runs_eval tab_ok ?_
 simp only [ev0,evA,evB,evP,fl,gp,tab,simprocAttr,reduceCtorEq,reduceIte]
 refine fin_stop trivial (runs_call (e_c T) rfl rfl rfl (by simp only [dstOk,Nat.reduceLT]) (by repeat (first|exact trivial|constructor)) (runs_eval tab_ok ?_))
 simp only [ev0,evA,evB,evP,fl,gp,tab,simprocAttr,reduceCtorEq,reduceIte,h.eI]
 refine fin_run ?_ (hK _ ?_)<;>clear hK<;>clear K
 ·rw [bl_len]; omega
 refine qa (qm (qm ?_))
 rw [obl_set,show upd (fun _=>false) e=fun a=>decide (a=e) || tst (l.take 0) a from funext fun a=>by simp [upd,tst]]
 refine hk_region fun K hK=>runs_eval tab_ok ?_
 simp only [ev0,evA,evB,evP,fl,gp,tab,simprocAttr,reduceCtorEq,reduceIte]
 refine fin_run trivial (hK _ ?_)<;>clear hK<;>clear K
 refine qa (ql ?_)
 refine hk_loop (ι:=Nat) (fun i=>⟨71,[(1,.p (.list (il l))),(2,.ptr 0 0),(5,.ptr 2 0),(6,.p (.int .i64 i))],[.own [.p (.int .i64 n),.p (.list (il m))],.own (opl (bl n fun a=>decide (a=e) || tst (l.take i) a)),.own [.sl 1 0 n]]⟩) (fun i=>i≤l.length) (fun i=>l.length - i) 0 (Nat.zero_le _) [0,1,2] (by simp only [leq,leA,ev0,evA,evB,evP,fl,gp,tab,simprocAttr,reduceCtorEq,reduceIte]<;>first|trivial|(simp; done)) fun i hi=>?_
 refine qm (qm ?_)
 refine hk_region fun K hK=>runs_eval tab_ok ?_
 simp only [ev0,evA,evB,evP,fl,gp,tab,simprocAttr,reduceCtorEq,reduceIte]
 refine fin_run trivial (hK _ ?_)<;>clear hK<;>clear K
 refine qa ?_
 refine hk_cond rfl (fun hC1=>?_) (fun hC1=>?_)
 ·(try simp only [nhs] at hC1)
  have hlt:i < l.length:=by omega
  have hmem:l.getD i 0∈l:=by simp [List.getD,List.getElem?_eq_getElem hlt]
  obtain ⟨x,x1,x2⟩:=hr _ hmem
  refine qh (qa (qm (ql ?_)))
  refine hk_draw mixed (by kernel_rfl) fun K hK=>runs_eval tab_ok ?_
  simp only [ev0,evA,evB,evP,fl,gp,tab,simprocAttr,reduceCtorEq,reduceIte,il_get hlt,x2,obl_len]
  refine fin_run ?_ (hK _ ?_)<;>clear hK<;>clear K
  ·rw [bl_len]; omega
  refine qd (qa ?_)
  rw [obl_set]
  refine hk_region fun K hK=>runs_eval tab_ok ?_
  simp only [ev0,evA,evB,evP,fl,gp,tab,simprocAttr,reduceCtorEq,reduceIte]
  refine fin_run ?_ (hK _ ?_)<;>clear hK<;>clear K
  ·(first|exact trivial|omega|(simp only [In64] at *; omega)|(simp [In64] at *; omega)|(simp_all; done)|skip)
  refine qa ?_
  refine ⟨i + 1,[0,1,2],by omega,by omega,?_⟩
  have hc:bl n (fun a=>decide (a=e) || tst (l.take (i + 1)) a)=bl n (upd (fun a=>decide (a=e) || tst (l.take i) a) x):=bl_congr fun a ha=>by
   rw [List.take_succ_eq_append_getElem hlt]
   have e1:l[i]=(x:Int):=by rw [← x2]; simp [List.getD,List.getElem?_eq_getElem hlt]
   rw [e1]
   unfold upd tst
   rw [Bool.or_assoc]
   congr 1
   rw [← Bool.decide_or]
   refine decide_eq_decide.2 ?_
   rw [List.mem_append,List.mem_singleton]
   constructor
   ·rintro (h | h)
    ·exact .inl h
    ·exact .inr (by omega)
   ·rintro (h | h)
    ·exact .inl h
    ·exact .inr (by omega)
  rw [hc]
  simp only [leq,leA,ev0,evA,evB,evP,fl,gp,tab,simprocAttr,reduceCtorEq,reduceIte]<;>first|trivial|omega
 ·(try simp only [nhs] at hC1)
  have hin:i=l.length:=by omega
  subst hin
  rw [List.take_length]
  refine qj (qc (qc (qf (qa (qm (qm ?_))))))
  refine hk_region fun K hK=>runs_eval tab_ok ?_
  simp only [ev0,evA,evB,evP,fl,gp,tab,simprocAttr,reduceCtorEq,reduceIte]
  refine fin_run trivial (hK _ ?_)<;>clear hK<;>clear K
  refine qa (ql ?_)
  refine hk_loop (ι:=(Nat→Bool) × Bool) (fun p=>⟨71,[(2,.ptr 0 0),(5,.ptr 2 0),(7,.p (.bool p.2))],[.own [.p (.int .i64 n),.p (.list (il m))],.own (opl (bl n p.1)),.own [.sl 1 0 n]]⟩) (fun p=>p.1 e=true∧(∀ a,a < n→tst l a=true→p.1 a=true)∧(∀ a,a < n→p.1 a=true→Gen n (op m n) e (tst l) a)∧(p.2=false→∀ a,a < n→∀ b,b < n→p.1 a=true→p.1 b=true→p.1 (op m n a b)=true)) (fun p=>2 * (2 ^ 64 - bo n p.1) + (if p.2=true then 1 else 0)) (fun a=>decide (a=e) || tst l a,true) ⟨by simp,fun a _ h=>by simp [h],fun a ha h=>by
    simp only [Bool.or_eq_true,decide_eq_true_eq] at h
    rcases h with rfl | h
    ·exact .one
    ·exact Gen.mem G ha h,fun h=>by cases h⟩ [0,1,2] (by simp only [leq,leA,ev0,evA,evB,evP,fl,gp,tab,simprocAttr,reduceCtorEq,reduceIte]<;>first|trivial|(simp; done)) fun p hp=>?_
  obtain ⟨r,again⟩:=p
  obtain ⟨r1,r2,r3,r4⟩:=hp
  simp only at r1 r2 r3 r4
  refine qm (qm ?_)
  refine hk_region fun K hK=>runs_eval tab_ok ?_
  simp only [ev0,evA,evB,evP,fl,gp,tab,simprocAttr,reduceCtorEq,reduceIte]
  refine fin_run trivial (hK _ ?_)<;>clear hK<;>clear K
  refine qa ?_
  refine hk_cond rfl (fun hC2=>?_) (fun hC2=>?_)
  ·(try simp only [nhs] at hC2)
   subst hC2
   refine qh (qa (ql (qm ?_)))
   refine hk_region fun K hK=>runs_eval tab_ok ?_
   simp only [ev0,evA,evB,evP,fl,gp,tab,simprocAttr,reduceCtorEq,reduceIte]
   refine fin_run trivial (hK _ ?_)<;>clear hK<;>clear K
   refine qa (qm ?_)
   refine hk_region fun K hK=>runs_eval tab_ok ?_
   simp only [ev0,evA,evB,evP,fl,gp,tab,simprocAttr,reduceCtorEq,reduceIte]
   refine fin_run trivial (hK _ ?_)<;>clear hK<;>clear K
   refine qa (ql ?_)
   refine hk_loop (ι:=Nat × (Nat→Bool) × Bool) (fun p=>⟨71,[(2,.ptr 0 0),(5,.ptr 2 0),(7,.p (.bool p.2.2)),(8,.p (.int .i64 p.1))],[.own [.p (.int .i64 n),.p (.list (il m))],.own (opl (bl n p.2.1)),.own [.sl 1 0 n]]⟩) (fun p=>p.1≤n∧(∀ a,a < n→r a=true→p.2.1 a=true)∧(∀ a,a < n→p.2.1 a=true→Gen n (op m n) e (tst l) a)∧(p.2.2=true→bo n r < bo n p.2.1)∧(p.2.2=false→p.2.1=r∧∀ a,a < p.1→∀ b,b < n→r a=true→r b=true→r (op m n a b)=true)) (fun p=>n - p.1) (0,r,false) ⟨Nat.zero_le _,fun a _ h=>h,r3,fun h=>by (first|cases h|simp at h),fun _=>⟨rfl,fun a ha=>by simp only at ha; omega⟩⟩ [0,1,2] (by simp only [leq,leA,ev0,evA,evB,evP,fl,gp,tab,simprocAttr,reduceCtorEq,reduceIte]<;>first|trivial|(simp; done)) fun p hp=>?_
   obtain ⟨i,r',ag⟩:=p
   obtain ⟨u1,u2,u3,u4,u5⟩:=hp
   simp only at u1 u2 u3 u4 u5
   refine qm (qm ?_)
   refine hk_region fun K hK=>runs_eval tab_ok ?_
   simp only [ev0,evA,evB,evP,fl,gp,tab,simprocAttr,reduceCtorEq,reduceIte]
   refine fin_run ?_ (hK _ ?_)<;>clear hK<;>clear K
   ·(first|exact trivial|omega|(simp only [In64] at *; omega)|(simp [In64] at *; omega)|(simp_all; done)|skip)
   refine qa ?_
   refine hk_cond rfl (fun hC3=>?_) (fun hC3=>?_)
   ·(try simp only [nhs] at hC3)
    have hil:i < n:=by omega
    refine qh (qa (qm (ql (qm ?_))))
    refine hk_region fun K hK=>runs_eval tab_ok ?_
    simp only [ev0,evA,evB,evP,fl,gp,tab,simprocAttr,reduceCtorEq,reduceIte]
    refine fin_run trivial (hK _ ?_)<;>clear hK<;>clear K
    refine qa (ql ?_)
    refine hk_loop (ι:=Nat × (Nat→Bool) × Bool) (fun p=>⟨71,[(2,.ptr 0 0),(5,.ptr 2 0),(7,.p (.bool p.2.2)),(8,.p (.int .i64 i)),(9,.p (.int .i64 p.1))],[.own [.p (.int .i64 n),.p (.list (il m))],.own (opl (bl n p.2.1)),.own [.sl 1 0 n]]⟩) (fun p=>p.1≤n∧(∀ a,a < n→r a=true→p.2.1 a=true)∧(∀ a,a < n→p.2.1 a=true→Gen n (op m n) e (tst l) a)∧(p.2.2=true→bo n r < bo n p.2.1)∧(p.2.2=false→p.2.1=r∧(∀ a,a < i→∀ b,b < n→r a=true→r b=true→r (op m n a b)=true)∧∀ b,b < p.1→r i=true→r b=true→r (op m n i b)=true)) (fun p=>n - p.1) (0,r',ag) ⟨Nat.zero_le _,u2,u3,u4,fun h=>⟨(u5 h).1,(u5 h).2,fun b hb=>by simp only at hb; omega⟩⟩ [0,1,2] (by simp only [leq,leA,ev0,evA,evB,evP,fl,gp,tab,simprocAttr,reduceCtorEq,reduceIte]<;>first|trivial|(simp; done)) fun p hp=>?_
    obtain ⟨j,r'',ag'⟩:=p
    obtain ⟨v1,v2,v3,v4,v5⟩:=hp
    simp only at v1 v2 v3 v4 v5
    refine qm (qm ?_)
    refine hk_region fun K hK=>runs_eval tab_ok ?_
    simp only [ev0,evA,evB,evP,fl,gp,tab,simprocAttr,reduceCtorEq,reduceIte]
    refine fin_run ?_ (hK _ ?_)<;>clear hK<;>clear K
    ·(first|exact trivial|omega|(simp only [In64] at *; omega)|(simp [In64] at *; omega)|(simp_all; done)|skip)
    refine qa ?_
    refine hk_cond rfl (fun hC4=>?_) (fun hC4=>?_)
    ·(try simp only [nhs] at hC4)
     have hjl:j < n:=by omega
     have hfl:=G.cl i j hil hjl
     refine qh (qa (qm (ql (qm ?_))))
     rcases bool3 (r'' i) (r'' j) with hri | ⟨hri,hrj⟩ | ⟨hri,hrj⟩
     ·refine hk_draw mixed (by kernel_rfl) fun K hK=>runs_eval tab_ok ?_
      simp only [ev0,evA,evB,evP,fl,gp,tab,simprocAttr,reduceCtorEq,reduceIte,obl_get hil,bl_len,obl_len,hri]
      refine fin_run ?_ (hK _ ?_)<;>clear hK<;>clear K
      ·omega
      refine qa ?_
      refine hk_cond rfl (fun hC5=>?_) (fun hC5=>?_)
      ·cases hC5
      ·refine qh (qd (qa ?_))
       refine hk_region fun K hK=>runs_eval tab_ok ?_
       simp only [ev0,evA,evB,evP,fl,gp,tab,simprocAttr,reduceCtorEq,reduceIte]
       refine fin_run ?_ (hK _ ?_)<;>clear hK<;>clear K
       ·(first|exact trivial|omega|(simp only [In64] at *; omega)|(simp [In64] at *; omega)|(simp_all; done)|skip)
       refine qa ?_
       refine ⟨(j + 1,r'',ag'),[0,1,2],⟨by simp only; omega,v2,v3,v4,fun h=>?_⟩,by simp only; omega,?_⟩
       ·obtain ⟨x1,x2,x3⟩:=v5 h
        refine ⟨x1,x2,fun b hb' h1 h2=>?_⟩
        by_cases hbj:b=j
        ·rw [← x1,hri] at h1; cases h1
        ·exact x3 b (by simp only at hb'; omega) h1 h2
       ·simp only [leq,leA,ev0,evA,evB,evP,fl,gp,tab,simprocAttr,reduceCtorEq,reduceIte]<;>first|trivial|omega
     ·refine hk_draw mixed (by kernel_rfl) fun K hK=>runs_eval tab_ok ?_
      simp only [ev0,evA,evB,evP,fl,gp,tab,simprocAttr,reduceCtorEq,reduceIte,obl_get hil,obl_get hjl,bl_len,obl_len,hri,hrj]
      refine fin_run ?_ (hK _ ?_)<;>clear hK<;>clear K
      ·omega
      refine qa ?_
      refine hk_cond rfl (fun hC5=>?_) (fun hC5=>?_)
      ·cases hC5
      ·refine qh (qd (qa ?_))
       refine hk_region fun K hK=>runs_eval tab_ok ?_
       simp only [ev0,evA,evB,evP,fl,gp,tab,simprocAttr,reduceCtorEq,reduceIte]
       refine fin_run ?_ (hK _ ?_)<;>clear hK<;>clear K
       ·(first|exact trivial|omega|(simp only [In64] at *; omega)|(simp [In64] at *; omega)|(simp_all; done)|skip)
       refine qa ?_
       refine ⟨(j + 1,r'',ag'),[0,1,2],⟨by simp only; omega,v2,v3,v4,fun h=>?_⟩,by simp only; omega,?_⟩
       ·obtain ⟨x1,x2,x3⟩:=v5 h
        refine ⟨x1,x2,fun b hb' h1 h2=>?_⟩
        by_cases hbj:b=j
        ·rw [hbj,← x1,hrj] at h2; cases h2
        ·exact x3 b (by simp only at hb'; omega) h1 h2
       ·simp only [leq,leA,ev0,evA,evB,evP,fl,gp,tab,simprocAttr,reduceCtorEq,reduceIte]<;>first|trivial|omega
     ·refine hk_draw mixed (by kernel_rfl) fun K hK=>runs_eval tab_ok ?_
      simp only [ev0,evA,evB,evP,fl,gp,tab,simprocAttr,reduceCtorEq,reduceIte,obl_get hil,obl_get hjl,obl_get hfl,bl_len,obl_len,hri,hrj]
      refine fin_stop ?_ (runs_call (m_c T hil hjl) rfl rfl rfl (by simp only [dstOk,Nat.reduceLT]) (by repeat (first|exact trivial|constructor)) (runs_eval tab_ok ?_))
      ·omega
      simp only [ev0,evA,evB,evP,fl,gp,tab,simprocAttr,reduceCtorEq,reduceIte,obl_get hil,obl_get hjl,obl_get hfl,bl_len,obl_len,hri,hrj]
      refine fin_run ?_ (hK _ ?_)<;>clear hK<;>clear K
      ·omega
      refine qa ?_
      refine hk_cond rfl (fun hC5=>?_) (fun hC5=>?_)
      ·(try simp only [nhs] at hC5)
       refine qm ?_
       refine hk_draw mixed (by kernel_rfl) fun K hK=>runs_eval tab_ok ?_
       simp only [ev0,evA,evB,evP,fl,gp,tab,simprocAttr,reduceCtorEq,reduceIte,obl_len,bl_len]
       refine fin_stop trivial (runs_call (m_c T hil hjl) rfl rfl rfl (by simp only [dstOk,Nat.reduceLT]) (by repeat (first|exact trivial|constructor)) (runs_eval tab_ok ?_))
       simp only [ev0,evA,evB,evP,fl,gp,tab,simprocAttr,reduceCtorEq,reduceIte,obl_len,bl_len]
       refine fin_run ?_ (hK _ ?_)<;>clear hK<;>clear K
       ·omega
       refine qa ?_
       rw [obl_set]
       refine hk_region fun K hK=>runs_eval tab_ok ?_
       simp only [ev0,evA,evB,evP,fl,gp,tab,simprocAttr,reduceCtorEq,reduceIte]
       refine fin_run trivial (hK _ ?_)<;>clear hK<;>clear K
       refine qd (qa ?_)
       refine hk_region fun K hK=>runs_eval tab_ok ?_
       simp only [ev0,evA,evB,evP,fl,gp,tab,simprocAttr,reduceCtorEq,reduceIte]
       refine fin_run ?_ (hK _ ?_)<;>clear hK<;>clear K
       ·(first|exact trivial|omega|(simp only [In64] at *; omega)|(simp [In64] at *; omega)|(simp_all; done)|skip)
       refine qa ?_
       have hnew:r'' (op m n i j)=false:=by simpa using hC5
       have hgt:bo n r < bo n (upd r'' (op m n i j)):=by
        have h1:bo n r'' < bo n (upd r'' (op m n i j)):=bo_lt_of (fun a _ h=>by simp [upd,h]) hfl hnew (by simp [upd])
        cases hag:ag' with
        | true=>have:=v4 hag; omega
        | false=>rw [(v5 hag).1] at h1; rw [(v5 hag).1]; exact h1
       refine ⟨(j + 1,upd r'' (op m n i j),true),[0,1,2],⟨by simp only; omega,fun a ha h=>?_,fun a ha h=>?_,fun _=>hgt,fun h=>by first|cases h|simp at h⟩,by simp only; omega,?_⟩
       ·simp [upd,v2 a ha h]
       ·simp only [upd,Bool.or_eq_true,decide_eq_true_eq] at h
        rcases h with h | h
        ·exact v3 a ha h
        ·rw [h]; exact Gen.mul G (v3 i hil hri) (v3 j hjl hrj)
       ·simp only [leq,leA,ev0,evA,evB,evP,fl,gp,tab,simprocAttr,reduceCtorEq,reduceIte]<;>first|trivial|omega
      ·(try simp only [nhs] at hC5)
       refine qh (qd (qa ?_))
       refine hk_region fun K hK=>runs_eval tab_ok ?_
       simp only [ev0,evA,evB,evP,fl,gp,tab,simprocAttr,reduceCtorEq,reduceIte]
       refine fin_run ?_ (hK _ ?_)<;>clear hK<;>clear K
       ·(first|exact trivial|omega|(simp only [In64] at *; omega)|(simp [In64] at *; omega)|(simp_all; done)|skip)
       refine qa ?_
       have hin2:r'' (op m n i j)=true:=by simpa using hC5
       refine ⟨(j + 1,r'',ag'),[0,1,2],⟨by simp only; omega,v2,v3,v4,fun h=>?_⟩,by simp only; omega,?_⟩
       ·obtain ⟨x1,x2,x3⟩:=v5 h
        refine ⟨x1,x2,fun b hb' h1 h2=>?_⟩
        by_cases hbj:b=j
        ·rw [hbj,← x1]; exact hin2
        ·exact x3 b (by simp only at hb'; omega) h1 h2
       ·simp only [leq,leA,ev0,evA,evB,evP,fl,gp,tab,simprocAttr,reduceCtorEq,reduceIte]<;>first|trivial|omega
    ·(try simp only [nhs] at hC4)
     have hjn:j=n:=by omega
     subst hjn
     refine qj (qc (qc (qf (qd (qa ?_)))))
     refine hk_region fun K hK=>runs_eval tab_ok ?_
     simp only [ev0,evA,evB,evP,fl,gp,tab,simprocAttr,reduceCtorEq,reduceIte]
     refine fin_run ?_ (hK _ ?_)<;>clear hK<;>clear K
     ·(first|exact trivial|omega|(simp only [In64] at *; omega)|(simp [In64] at *; omega)|(simp_all; done)|skip)
     refine qa ?_
     refine ⟨(i + 1,r'',ag'),[0,1,2],⟨by simp only; omega,v2,v3,v4,fun h=>?_⟩,by simp only; omega,?_⟩
     ·obtain ⟨x1,x2,x3⟩:=v5 h
      refine ⟨x1,fun a ha b hb' h1 h2=>?_⟩
      by_cases hai:a=i
      ·rw [hai] at h1 ⊢; exact x3 b hb' h1 h2
      ·exact x2 a (by simp only at ha; omega) b hb' h1 h2
     ·simp only [leq,leA,ev0,evA,evB,evP,fl,gp,tab,simprocAttr,reduceCtorEq,reduceIte]<;>first|trivial|omega
   ·(try simp only [nhs] at hC3)
    have hin:i=n:=by omega
    subst hin
    refine qj (qc (qc (qf (qd (qa ?_)))))
    refine ⟨(r',ag),[0,1,2],⟨u2 e hel r1,fun a ha h=>u2 a ha (r2 a ha h),u3,fun h a ha b hb' h1 h2=>?_⟩,?_,?_⟩
    ·obtain ⟨x1,x2⟩:=u5 h
     simp only [x1] at h1 h2 ⊢
     exact x2 a ha b hb' h1 h2
    ·have h1:=bo_lt64 hb r'
     have h2:=bo_lt64 hb r
     simp only [if_true]
     cases hag:ag with
     | true=>have:=u4 hag; simp only [if_true]; omega
     | false=>rw [(u5 hag).1]; simp
    ·simp only [leq,leA,ev0,evA,evB,evP,fl,gp,tab,simprocAttr,reduceCtorEq,reduceIte]<;>first|trivial|omega
  ·(try simp only [nhs] at hC2)
   subst hC2
   have hfin:bl n r=bl n q:=bl_congr fun a ha=>by
    rw [Bool.eq_iff_iff,hq a ha]
    refine ⟨r3 a ha,fun hg=>?_⟩
    exact Gen.least (H:=fun x=>r x=true) r1 (fun a b ga hb' hpb hH=>r4 rfl a (ga.lt G) b hb' hH (r2 b hb' hpb)) hg
   rw [hfin]
   refine qj (qc (qc (qf (qa (qm ?_)))))
   refine hk_freeze 1 rfl (opl_allP _) ?_
   refine hk_purec 2 0 rfl rfl rfl ⟨by rw [bl_len]; omega,?_⟩ ?_
   ·rw [List.drop_zero,List.take_of_length_le (by rw [bl_len]; omega)]; exact bl_one n q
   simp only [hset,List.set,List.drop_zero]
   rw [List.take_of_length_le (by rw [bl_len]; omega)]
   refine hk_freeze 2 rfl rfl ?_
   simp only [hset]
   refine hk_region fun K hK=>runs_eval tab_ok ?_
   simp only [ev0,evA,evB,evP,fl,gp,tab,simprocAttr,reduceCtorEq,reduceIte]
   refine fin_stop trivial (runs_callG (those_g n m _ _ q (by omega) (fun a ha=>span1_c n a q ha hb)) rfl rfl (by first|rfl|(simp [scG,scA,sc1,opl]; done)|(simp only [scG,List.all_cons,List.all_nil,ol_sc,Bool.and_true]; rfl)) (by simp only [dstOk,Nat.reduceLT]) (by repeat (first|exact trivial|constructor)) (runs_eval tab_ok ?_))
   simp only [Go.Pv.shf,List.range',Blk.ren,opl_ren,ren,ren1,ev0,evA,evB,evP,fl,gp,tab,simprocAttr,reduceCtorEq,reduceIte]
   refine fin_run ?_ (hK _ ?_)<;>clear hK<;>clear K
   ·(first|exact trivial|omega|(simp only [In64] at *; omega)|(simp [In64] at *; omega)|(simp_all; done)|skip)
   refine qa (qk ?_)
   simp only [Tryd.results72,PostG,endG,rvsA,rvA,mkTup,ev0,evA,evB,evP,fl,gp,tab,simprocAttr,reduceCtorEq,reduceIte]
   all_goals (exact ⟨[3],rfl,rfl,rfl,by simp,⟨⟨by rw [opl_ren,List.take_length],opl_sc _ _⟩,trivial⟩,trivial⟩)
theorem span_f {n e:Nat} {m:List Int} (h:GT n m n e) (l:List Int) (hl:l.length≤1000000000000) (hr:∀ x∈l,∃ a,a < n∧x=((a:Nat):Int)) (q:Nat→Bool) (hq:∀ a,a < n→(q a=true↔Gen n (op m n) e (tst l) a)):FnF Tryd.prog 72 [gp n m,.list (il l)] (.list (il (thl n q))):=
 FnG_fnf (span_g h l hl hr q hq) (il_scal _)
end Go.Proofs.YtboadfahlflmhaaDoor

/-
  Walks: the reference's lists in order; things that make the group. Conditions: none.
-/
set_option linter.all false
namespace Go.Proofs.YtboadfahlflmhaaDoor
open Go.Pv

/-- Less, letter by letter. -/
def lsb:List Int→List Int→Bool
 | a :: r,b :: t=>bif decide (a=b) then lsb r t else decide (a < b)
 | _,_=>false
theorem lsb_at {v w:List Int} : ∀ {i:Nat},(∀ j,j < i→v.getD j 0=w.getD j 0)→i < v.length→i < w.length→¬ v.getD i 0=w.getD i 0→lsb v w=decide (v.getD i 0 < w.getD i 0):=by
 intro i
 induction i generalizing v w with
 | zero =>
  intro _ hv hw hne
  cases v with
  | nil=>simp at hv
  | cons a r =>
   cases w with
   | nil=>simp at hw
   | cons b t =>
    have hne' : ¬ a=b:=by simpa using hne
    unfold lsb; rw [decide_eq_false hne']; simp
 | succ i ih =>
  intro hall hv hw hne
  cases v with
  | nil=>simp at hv
  | cons a r =>
   cases w with
   | nil=>simp at hw
   | cons b t =>
    have hab:a=b:=by simpa using hall 0 (by omega)
    unfold lsb; rw [decide_eq_true hab]
    have:=ih (v:=r) (w:=t) (fun j hj=>by simpa using hall (j + 1) (by omega)) (by simpa using hv) (by simpa using hw) (by simpa using hne)
    simpa using this
theorem lsb_eq {v w:List Int} (hall:∀ j,j < v.length→v.getD j 0=w.getD j 0):lsb v w=false:=by
 induction v generalizing w with
 | nil=>rfl
 | cons a r ih =>
  cases w with
  | nil=>rfl
  | cons b t =>
   have hab:a=b:=by simpa using hall 0 (by simp)
   unfold lsb; rw [decide_eq_true hab]
   exact ih fun j hj=>by simpa using hall (j + 1) (by simpa using hj)
theorem less_r (v w:List Int) (hv:v.length≤1000000) (hl:w.length=v.length):FnC Tryd.prog 27 [.list (il v),.list (il w)] (.bool (lsb v w)):=by
 refine fnc_of tab_ok Tryd.func27 rfl (by kernel_rfl) (by rw [Tryd.ntmps27]; exact Nat.le_add_left 2 _) ?_; rw [Tryd.ntmps27]
 refine qm ?_
 refine hk_region fun K hK=>runs_eval tab_ok ?_
 simp only [ev0,evA,evB,evP,fl,gp,tab,simprocAttr,reduceCtorEq,reduceIte]
 refine fin_run trivial (hK _ ?_)<;>clear hK<;>clear K
 refine qa (qm (qm ?_))
 refine hk_region fun K hK=>runs_eval tab_ok ?_
 simp only [ev0,evA,evB,evP,fl,gp,tab,simprocAttr,reduceCtorEq,reduceIte]
 refine fin_run trivial (hK _ ?_)<;>clear hK<;>clear K
 refine qa (ql ?_)
 refine hk_loop (ι:=Nat) (fun i=>⟨30,[(0,.p (.list (il v))),(1,.p (.list (il w))),(5,.p (.int .i64 i))],[]⟩) (fun i=>i≤v.length∧∀ j,j < i→v.getD j 0=w.getD j 0) (fun i=>v.length - i) 0 ⟨Nat.zero_le _,fun j hj=>by omega⟩ [] (by simp only [leq,leA,ev0,evA,evB,evP,fl,gp,tab,simprocAttr,reduceCtorEq,reduceIte]<;>trivial) fun i hi=>?_
 obtain ⟨hi1,hi2⟩:=hi
 refine qm (qm ?_)
 refine hk_region fun K hK=>runs_eval tab_ok ?_
 simp only [ev0,evA,evB,evP,fl,gp,tab,simprocAttr,reduceCtorEq,reduceIte]
 refine fin_run trivial (hK _ ?_)<;>clear hK<;>clear K
 refine qa ?_
 refine hk_cond rfl (fun hC1=>?_) (fun hC1=>?_)
 ·(try simp only [nhs] at hC1)
  have hlt:i < v.length:=by omega
  have hlw:i < w.length:=by omega
  refine qh (qa (qm (ql (qm ?_))))
  refine hk_draw mixed (by kernel_rfl) fun K hK=>runs_eval tab_ok ?_
  simp only [ev0,evA,evB,evP,fl,gp,tab,simprocAttr,reduceCtorEq,reduceIte,il_get hlt,il_get hlw]
  refine fin_run ?_ (hK _ ?_)<;>clear hK<;>clear K
  ·(first|exact trivial|omega|(simp only [In64] at *; omega)|(simp [In64] at *; omega)|(simp_all; done)|skip)
  refine qa ?_
  refine hk_cond rfl (fun hC2=>?_) (fun hC2=>?_)
  ·(try simp only [nhs] at hC2)
   refine qm ?_
   refine hk_draw mixed (by kernel_rfl) fun K hK=>runs_eval tab_ok ?_
   simp only [ev0,evA,evB,evP,fl,gp,tab,simprocAttr,reduceCtorEq,reduceIte,il_get hlt,il_get hlw]
   refine fin_run ?_ (hK _ ?_)<;>clear hK<;>clear K
   ·(first|exact trivial|omega|(simp only [In64] at *; omega)|(simp [In64] at *; omega)|(simp_all; done)|skip)
   refine qa (qk (qe (qb (qb (qe (qb ?_))))))
   simp only [Tryd.results27,enA,ev0,evA,evB,evP,fl,gp,tab,simprocAttr,reduceCtorEq,reduceIte]
   all_goals (rw [lsb_at hi2 hlt hlw hC2])
  ·(try simp only [nhs] at hC2)
   refine qh (qd (qa ?_))
   refine hk_region fun K hK=>runs_eval tab_ok ?_
   simp only [ev0,evA,evB,evP,fl,gp,tab,simprocAttr,reduceCtorEq,reduceIte]
   refine fin_run ?_ (hK _ ?_)<;>clear hK<;>clear K
   ·(first|exact trivial|omega|(simp only [In64] at *; omega)|(simp [In64] at *; omega)|(simp_all; done)|skip)
   refine qa ?_
   refine ⟨i + 1,[],⟨by omega,fun j hj=>?_⟩,by omega,?_⟩
   ·by_cases hj:j=i
    ·subst hj; exact hC2
    ·exact hi2 j (by omega)
   ·simp only [leq,leA,ev0,evA,evB,evP,fl,gp,tab,simprocAttr,reduceCtorEq,reduceIte]<;>omega
 ·(try simp only [nhs] at hC1)
  refine qj (qc (qc (qf (qa (qm ?_)))))
  refine hk_region fun K hK=>runs_eval tab_ok ?_
  simp only [ev0,evA,evB,evP,fl,gp,tab,simprocAttr,reduceCtorEq,reduceIte]
  refine fin_run trivial (hK _ ?_)<;>clear hK<;>clear K
  refine qa (qk ?_)
  simp only [Tryd.results27,enA,ev0,evA,evB,evP,fl,gp,tab,simprocAttr,reduceCtorEq,reduceIte]
  all_goals (rw [lsb_eq fun j hj=>hi2 j (by omega)])
theorem lsb_cmp {v w:List Int} (hl:v.length=w.length) (h:cmpL v w < 0):lsb v w=true:=by
 induction v generalizing w with
 | nil =>
  cases w with
  | nil=>rw [cmpL_self] at h; exact absurd h (by decide)
  | cons b t=>simp at hl
 | cons a r ih =>
  cases w with
  | nil=>simp at hl
  | cons b t =>
   unfold lsb
   rcases cmpL_cons_lt.1 h with h1 | ⟨h1,h2⟩
   ·rw [decide_eq_false (by omega),decide_eq_true h1]; rfl
   ·rw [decide_eq_true h1]; exact ih (by simpa using hl) h2

theorem cmp_lsb {v w:List Int} (hl:v.length=w.length) (h:lsb v w=true):cmpL v w < 0:=by
 induction v generalizing w with
 | nil=>unfold lsb at h; cases h
 | cons a r ih =>
  cases w with
  | nil=>simp at hl
  | cons b t =>
   unfold lsb at h
   refine cmpL_cons_lt.2 ?_
   by_cases hab:a=b
   ·rw [decide_eq_true hab,cond_true] at h
    exact .inr ⟨hab,ih (by simpa using hl) h⟩
   ·rw [decide_eq_false hab,cond_false,decide_eq_true_eq] at h
    exact .inl h
theorem pw_unique {α:Type} {R:α→α→Prop} (anti:∀ a b,R a b→R b a→a=b):∀ (xs ys:List α),xs.Perm ys→xs.Pairwise R→ys.Pairwise R→xs=ys
 | [],ys,h,_,_=>h.symm.eq_nil.symm
 | x :: r,[],h,_,_=>h.eq_nil
 | x :: r,y :: s,h,h1,h2=>by
  have hxy:x=y:=by
   have m1:x∈y :: s:=h.mem_iff.1 (by simp)
   have m2:y∈x :: r:=h.mem_iff.2 (by simp)
   rcases List.mem_cons.1 m1 with h3 | h3
   ·exact h3
   ·rcases List.mem_cons.1 m2 with h4 | h4
    ·exact h4.symm
    ·exact anti _ _ ((List.pairwise_cons.1 h1).1 y h4) ((List.pairwise_cons.1 h2).1 x h3)
  subst hxy
  rw [pw_unique anti r s (List.Perm.cons_inv h) (List.pairwise_cons.1 h1).2 (List.pairwise_cons.1 h2).2]
theorem srtL_unique {xs ys:List (List Int)} (h:xs.Perm ys) (hs:ys.Pairwise fun v w=>¬ cmpL w v < 0):ys=srtL xs:=
 pw_unique (fun a b h1 h2=>cmpL_tot _ _ h2 h1) _ _ (h.symm.trans (srtL_perm xs)) hs (srtL_sorted xs)

/-- Where the sorting stands: up to i in order, but for what stands at k. -/
structure Rsn (c:Nat) (xs:List (List Int)) (i k:Nat) (R:List (List Int)):Prop where
 perm:R.Perm xs
 ord:∀ a b,a < b→b≤i→b ≠ k→lsb (R.getD b []) (R.getD a [])=false
theorem lsb_tr {c:Nat} {u v w:List Int} (hu:u.length=c) (hv:v.length=c) (hw:w.length=c) (h1:lsb v u=false) (h2:lsb w v=false):lsb w u=false:=by
 rw [Bool.eq_false_iff]
 intro h3
 have h3:=cmp_lsb (by omega) h3
 have h1:¬ cmpL v u < 0:=fun h=>by rw [lsb_cmp (by omega) h] at h1; cases h1
 have h2:¬ cmpL w v < 0:=fun h=>by rw [lsb_cmp (by omega) h] at h2; cases h2
 exact cmpL_ntrans _ _ _ h2 h1 h3
theorem lsb_as {c:Nat} {v w:List Int} (hv:v.length=c) (hw:w.length=c) (h:lsb v w=true):lsb w v=false:=by
 rw [Bool.eq_false_iff]
 intro h3
 have h4:=cmpL_trans _ _ _ (cmp_lsb (by omega) h) (cmp_lsb (by omega) h3)
 rw [cmpL_self] at h4
 exact absurd h4 (by decide)
section
variable {c:Nat} {xs R:List (List Int)} {i k:Nat}
theorem Rsn.len (h:Rsn c xs i k R) (hc:∀ v∈xs,v.length=c) {a:Nat} (ha:a < xs.length):(R.getD a []).length=c:=by
 have hl:=h.perm.length_eq
 refine hc _ (h.perm.mem_iff.1 ?_)
 simp [List.getD,List.getElem?_eq_getElem (show a < R.length by omega)]
theorem Rsn.stop (h:Rsn c xs i k R) (hc:∀ v∈xs,v.length=c) (hi:i < xs.length) (hk:k≤i) (hs:k=0∨lsb (R.getD k []) (R.getD (k - 1) [])=false):∀ a b,a < b→b≤i→lsb (R.getD b []) (R.getD a [])=false:=fun a b hab hb=>by
 by_cases hbk:b=k
 ·subst hbk
  rcases hs with hs | hs
  ·omega
  ·by_cases hak:a=b - 1
   ·rw [hak]; exact hs
   ·exact lsb_tr (h.len hc (by omega)) (h.len hc (show b - 1 < xs.length by omega)) (h.len hc (by omega)) (h.ord a (b - 1) (by omega) (by omega) (by omega)) hs
 ·exact h.ord a b hab hb hbk
theorem Rsn.swap (h:Rsn c xs i (k + 1) R) (hc:∀ v∈xs,v.length=c) (hi:i < xs.length) (hk:k + 1≤i) (hs:lsb (R.getD (k + 1) []) (R.getD k [])=true):Rsn c xs i k ((R.set (k + 1) (R.getD k [])).set k (R.getD (k + 1) [])):=by
 have hl:=h.perm.length_eq
 have e1:R.getD k []=R[k]'(by omega):=by simp [List.getD,List.getElem?_eq_getElem (show k < R.length by omega)]
 have e2:R.getD (k + 1) []=R[k + 1]'(by omega):=by simp [List.getD,List.getElem?_eq_getElem (show k + 1 < R.length by omega)]
 have hg:∀ j,j < xs.length→((R.set (k + 1) (R.getD k [])).set k (R.getD (k + 1) [])).getD j []=if j=k then R.getD (k + 1) [] else if j=k + 1 then R.getD k [] else R.getD j []:=fun j hj=>by
  by_cases j1:j=k
  ·subst j1
   rw [if_pos rfl]
   simp [List.getD,show j < R.length by omega]
  ·rw [if_neg j1]
   by_cases j2:j=k + 1
   ·subst j2
    rw [if_pos rfl]
    simp only [List.getD,List.getElem?_set_ne (show k ≠ k + 1 by omega)]
    simp [show k + 1 < R.length by omega]
   ·rw [if_neg j2]
    simp only [List.getD,List.getElem?_set_ne (Ne.symm j1),List.getElem?_set_ne (Ne.symm j2)]
 refine ⟨?_,fun a b hab hb hbk=>?_⟩
 ·have:=List.set_set_perm (show k + 1 < R.length by omega) (show k < R.length by omega)
  rw [e1,e2]
  exact this.trans h.perm
 ·rw [hg a (by omega),hg b (by omega),if_neg hbk]
  by_cases b1:b=k + 1
  ·rw [if_pos b1]
   by_cases a1:a=k
   ·rw [if_pos a1]
    exact lsb_as (h.len hc (by omega)) (h.len hc (by omega)) hs
   ·rw [if_neg a1,if_neg (by omega)]
    exact h.ord a k (by omega) (by omega) (by omega)
  ·rw [if_neg b1]
   by_cases a1:a=k
   ·rw [if_pos a1]
    exact h.ord (k + 1) b (by omega) hb b1
   ·rw [if_neg a1]
    by_cases a2:a=k + 1
    ·rw [if_pos a2]
     exact h.ord k b (by omega) hb b1
    ·rw [if_neg a2]
     exact h.ord a b hab hb b1
end

set_option maxHeartbeats 4000000 in
theorem rising_c (c:Nat) (xs:List (List Int)) (hl:xs.length≤1000000) (hcl:c≤1000000) (hc:∀ v∈xs,v.length=c):FnM Tryd.prog 22 [.sl 0 0 xs.length] [.own (opl (ll xs))] (.sl 0 0 xs.length) [.own (opl (ll (srtL xs)))]:=by
 refine fnm_of tab_ok Tryd.func22 rfl (by kernel_rfl) (by rw [Tryd.ntmps22]; exact Nat.le_add_left 1 _) ?_; rw [Tryd.ntmps22]; simp only [ancs,entA,List.length_cons,List.length_nil,List.cons_append,List.nil_append,Nat.reduceAdd,Nat.zero_add]
 refine qm ?_
 refine hk_region fun K hK=>runs_eval tab_ok ?_
 simp only [ev0,evA,evB,evP,fl,gp,tab,simprocAttr,reduceCtorEq,reduceIte]
 refine fin_run trivial (hK _ ?_)<;>clear hK<;>clear K
 refine qa (qm (qm ?_))
 refine hk_region fun K hK=>runs_eval tab_ok ?_
 simp only [ev0,evA,evB,evP,fl,gp,tab,simprocAttr,reduceCtorEq,reduceIte]
 refine fin_run trivial (hK _ ?_)<;>clear hK<;>clear K
 refine qa (ql ?_)
 refine hk_loop (ι:=Nat × List (List Int)) (fun p=>⟨45,[(0,.sl 0 0 xs.length),(3,.p (.int .i64 ((p.1 + 1:Nat):Int)))],[.own (opl (ll p.2)),.anc 0 0]⟩) (fun p=>(p.1 + 1≤xs.length∨p.1=0)∧p.2.Perm xs∧∀ a b,a < b→b≤p.1→lsb (p.2.getD b []) (p.2.getD a [])=false) (fun p=>xs.length - p.1) (0,xs) ⟨.inr rfl,List.Perm.refl _,fun a b h1 h2=>by omega⟩ [0,1] (by simp only [leq,leA,ev0,evA,evB,evP,fl,gp,tab,simprocAttr,reduceCtorEq,reduceIte,ll_takeL]<;>first|trivial|trace_state) fun p hp=>?_
 obtain ⟨i,R⟩:=p
 obtain ⟨h1,h2,h3⟩:=hp
 simp only at h1 h2 h3
 have hRl:=h2.length_eq
 have hRtk:List.take xs.length (ll R)=ll R:=List.take_of_length_le (by rw [ll_length]; omega)
 refine qm (qm ?_)
 refine hk_region fun K hK=>runs_eval tab_ok ?_
 simp only [ev0,evA,evB,evP,fl,gp,tab,simprocAttr,reduceCtorEq,reduceIte]
 refine fin_run trivial (hK _ ?_)<;>clear hK<;>clear K
 refine qa ?_
 refine hk_cond rfl (fun hC1=>?_) (fun hC1=>?_)
 ·(try simp only [nhs] at hC1)
  have hil:i + 1 < xs.length:=by omega
  refine qh (qa (qm (ql (qm ?_))))
  refine hk_region fun K hK=>runs_eval tab_ok ?_
  simp only [ev0,evA,evB,evP,fl,gp,tab,simprocAttr,reduceCtorEq,reduceIte]
  refine fin_run trivial (hK _ ?_)<;>clear hK<;>clear K
  refine qa (ql ?_)
  refine hk_loop (ι:=Nat × List (List Int)) (fun p=>⟨45,[(0,.sl 0 0 xs.length),(3,.p (.int .i64 ((i + 1:Nat):Int))),(4,.p (.int .i64 p.1))],[.own (opl (ll p.2)),.anc 0 0]⟩) (fun p=>p.1≤i + 1∧Rsn c xs (i + 1) p.1 p.2) (fun p=>p.1) (i + 1,R) ⟨Nat.le_refl _,h2,fun a b q1 q2 q3=>h3 a b q1 (by omega)⟩ [0,1] (by simp only [leq,leA,ev0,evA,evB,evP,fl,gp,tab,simprocAttr,reduceCtorEq,reduceIte,ll_takeL]<;>first|trivial|trace_state) fun p hp=>?_
  obtain ⟨k,R2⟩:=p
  obtain ⟨r1,r2⟩:=hp
  simp only at r1 r2
  have hR2:=r2.perm.length_eq
  refine qm (qm ?_)
  rcases Nat.eq_zero_or_pos k with hk0 | hk0
  ·subst hk0
   refine hk_draw mixed (by kernel_rfl) fun K hK=>runs_eval tab_ok ?_
   simp only [ev0,evA,evB,evP,fl,gp,tab,simprocAttr,reduceCtorEq,reduceIte,decide_eq_false (show ¬ ((0:Nat):Int) > 0 by omega)]
   refine fin_run trivial (hK _ ?_)<;>clear hK<;>clear K
   refine qa ?_
   refine hk_cond rfl (fun hC2=>?_) (fun hC2=>?_)
   ·cases hC2
   ·refine qj (qc (qc (qf (qd (qa ?_)))))
    refine hk_region fun K hK=>runs_eval tab_ok ?_
    simp only [ev0,evA,evB,evP,fl,gp,tab,simprocAttr,reduceCtorEq,reduceIte]
    refine fin_run ?_ (hK _ ?_)<;>clear hK<;>clear K
    ·(first|exact trivial|omega|(simp only [In64] at *; omega)|(simp [In64] at *; omega)|(simp_all; done)|skip)
    refine qa ?_
    have htk2:List.take xs.length (ll R2)=ll R2:=List.take_of_length_le (by rw [ll_length]; omega)
    refine ⟨(i + 1,R2),[0,1],⟨.inl (by simp only; omega),r2.perm,r2.stop hc hil (by omega) (.inl rfl)⟩,by simp only; omega,?_⟩
    simp only [leq,leA,ev0,evA,evB,evP,fl,gp,tab,simprocAttr,reduceCtorEq,reduceIte,ll_takeL]<;>first|trivial|omega|trace_state
  ·obtain ⟨j,rfl⟩:∃ j,k=j + 1:=⟨k - 1,by omega⟩
   have ej:((j + 1:Nat):Int) - 1=((j:Nat):Int):=by omega
   refine hk_draw mixed (by kernel_rfl) fun K hK=>runs_eval tab_ok ?_
   simp only [ev0,evA,evB,evP,fl,gp,tab,simprocAttr,reduceCtorEq,reduceIte,decide_eq_true (show ((j + 1:Nat):Int) > 0 by omega),ej,oll_get (show j + 1 < R2.length by omega),oll_get (show j < R2.length by omega)]
   refine fin_stop ?_ (runs_call (less_r (R2.getD (j + 1) []) (R2.getD j []) (by rw [r2.len hc (by omega)]; exact hcl) (by rw [r2.len hc (by omega),r2.len hc (by omega)])) rfl rfl rfl (by simp only [dstOk,Nat.reduceLT]) (by repeat (first|exact trivial|constructor)) (runs_eval tab_ok ?_))
   ·exact ⟨⟨⟨⟨⟨by omega,by omega⟩,by omega⟩,by simp only [In64]; omega⟩,by omega,by omega⟩,by omega⟩
   simp only [ev0,evA,evB,evP,fl,gp,tab,simprocAttr,reduceCtorEq,reduceIte,decide_eq_true (show ((j + 1:Nat):Int) > 0 by omega),ej,oll_get (show j + 1 < R2.length by omega),oll_get (show j < R2.length by omega)]
   refine fin_run ?_ (hK _ ?_)<;>clear hK<;>clear K
   ·(first|exact trivial|omega|(simp only [In64] at *; omega)|(simp [In64] at *; omega)|(simp_all; done)|skip)
   refine qa ?_
   refine hk_cond rfl (fun hC2=>?_) (fun hC2=>?_)
   ·(try simp only [nhs] at hC2)
    refine qh (qa (qm (ql ?_)))
    refine hk_draw mixed (by kernel_rfl) fun K hK=>runs_eval tab_ok ?_
    simp only [ev0,evA,evB,evP,fl,gp,tab,simprocAttr,reduceCtorEq,reduceIte,ej,oll_get (show j + 1 < R2.length by omega),oll_get (show j < R2.length by omega),oll_set2]
    refine fin_run ?_ (hK _ ?_)<;>clear hK<;>clear K
    ·(first|exact trivial|omega|(simp only [In64] at *; omega)|(simp [In64] at *; omega)|(simp_all; done)|skip)
    refine qd (qa ?_)
    refine hk_region fun K hK=>runs_eval tab_ok ?_
    simp only [ev0,evA,evB,evP,fl,gp,tab,simprocAttr,reduceCtorEq,reduceIte]
    refine fin_run ?_ (hK _ ?_)<;>clear hK<;>clear K
    ·(first|exact trivial|omega|(simp only [In64] at *; omega)|(simp [In64] at *; omega)|(simp_all; done)|skip)
    refine qa ?_
    have hsw:=r2.swap hc (by omega) (by omega) (by simpa using hC2)
    have hpl:=hsw.perm.length_eq
    have htk2:List.take xs.length (ll ((R2.set (j + 1) (R2.getD j [])).set j (R2.getD (j + 1) [])))=ll ((R2.set (j + 1) (R2.getD j [])).set j (R2.getD (j + 1) [])):=List.take_of_length_le (by rw [ll_length]; omega)
    refine ⟨(j,(R2.set (j + 1) (R2.getD j [])).set j (R2.getD (j + 1) [])),[0,1],⟨by simp only; omega,hsw⟩,by simp only; omega,?_⟩
    simp only [leq,leA,ev0,evA,evB,evP,fl,gp,tab,simprocAttr,reduceCtorEq,reduceIte,ll_takeL]<;>first|trivial|omega|exact ⟨rfl,by omega⟩|trace_state
   ·(try simp only [nhs] at hC2)
    refine qj (qc (qc (qf (qd (qa ?_)))))
    refine hk_region fun K hK=>runs_eval tab_ok ?_
    simp only [ev0,evA,evB,evP,fl,gp,tab,simprocAttr,reduceCtorEq,reduceIte]
    refine fin_run ?_ (hK _ ?_)<;>clear hK<;>clear K
    ·(first|exact trivial|omega|(simp only [In64] at *; omega)|(simp [In64] at *; omega)|(simp_all; done)|skip)
    refine qa ?_
    have htk2:List.take xs.length (ll R2)=ll R2:=List.take_of_length_le (by rw [ll_length]; omega)
    refine ⟨(i + 1,R2),[0,1],⟨.inl (by simp only; omega),r2.perm,r2.stop hc hil (by omega) (.inr (by simpa using hC2))⟩,by simp only; omega,?_⟩
    simp only [leq,leA,ev0,evA,evB,evP,fl,gp,tab,simprocAttr,reduceCtorEq,reduceIte,ll_takeL]<;>first|trivial|omega|trace_state
 ·(try simp only [nhs] at hC1)
  have hR:R=srtL xs:=srtL_unique h2.symm (by
   refine List.pairwise_iff_getElem.2 fun a b ha hb hab hlt=>?_
   have h4:=h3 a b hab (by omega)
   have e1:R.getD a []=R[a]:=by simp [List.getD,List.getElem?_eq_getElem ha]
   have e2:R.getD b []=R[b]:=by simp [List.getD,List.getElem?_eq_getElem hb]
   rw [e1,e2,lsb_cmp (by rw [hc _ (h2.mem_iff.1 (List.getElem_mem ha)),hc _ (h2.mem_iff.1 (List.getElem_mem hb))]) hlt] at h4
   cases h4)
  rw [hR]
  have hsl:=(srtL_perm xs).length_eq
  have htk2:List.take (srtL xs).length (ll (srtL xs))=ll (srtL xs):=ll_takeL _
  refine qj (qc (qc (qf (qa (qm ?_)))))
  refine hk_region fun K hK=>runs_eval tab_ok ?_
  simp only [ev0,evA,evB,evP,fl,gp,tab,simprocAttr,reduceCtorEq,reduceIte]
  refine fin_run trivial (hK _ ?_)<;>clear hK<;>clear K
  refine qa (qk ?_)
  simp only [Tryd.results22,PostG,endG,rvsA,rvA,mkTup,ev0,evA,evB,evP,fl,gp,tab,simprocAttr,reduceCtorEq,reduceIte]
  all_goals (exact ⟨[0,1],rfl,rfl,by simp only [leq,leA,ev0,evA,evB,evP,fl,gp,tab,simprocAttr,reduceCtorEq,reduceIte]<;>first|trivial|(rw [htk2]; done)|trace_state⟩)

open Classical in
/-- The makers: from the last thing down, what is not made yet. -/
noncomputable def mkS (n:Nat) (m:List Int) (e:Nat):Nat→List Int
 | 0=>[]
 | i + 1=>if Gen n (op m n) e (tst (mkS n m e i)) (n - 1 - i) then mkS n m e i else mkS n m e i++[((n - 1 - i:Nat):Int)]

theorem mkS_len (n:Nat) (m:List Int) (e:Nat):∀ i,(mkS n m e i).length≤i
 | 0=>by simp [mkS]
 | i + 1=>by
  have:=mkS_len n m e i
  rw [mkS]
  split
  ·omega
  ·simp; omega
theorem mkS_mem {n:Nat} {m:List Int} {e:Nat} (hn:1≤n):∀ i,∀ x∈mkS n m e i,∃ a,a < n∧x=((a:Nat):Int)
 | 0=>by simp [mkS]
 | i + 1=>by
  have ih:=mkS_mem (m:=m) (e:=e) hn i
  rw [mkS]
  split
  ·exact ih
  ·intro x hx
   rcases List.mem_append.1 hx with hx | hx
   ·exact ih x hx
   ·rw [List.mem_singleton] at hx
    exact ⟨n - 1 - i,by omega,hx⟩
theorem mkS_mono {n:Nat} {m:List Int} {e:Nat} {i:Nat} {a:Nat} (h:tst (mkS n m e i) a=true):tst (mkS n m e (i + 1)) a=true:=by
 rw [mkS]
 split
 ·exact h
 ·unfold tst at *
  simp only [decide_eq_true_eq] at *
  exact List.mem_append_left _ h
theorem mkS_gen {n:Nat} {m:List Int} {e:Nat} (G:Grp n (op m n) e):∀ i,i≤n→∀ a,n - i≤a→a < n→Gen n (op m n) e (tst (mkS n m e i)) a
 | 0,_,a,h1,h2=>by omega
 | i + 1,hi,a,h1,h2=>by
  by_cases ha:n - i≤a
  ·exact Gen.mono (fun b _ hb=>mkS_mono hb) (mkS_gen G i (by omega) a ha h2)
  ·have hai:a=n - 1 - i:=by omega
   rw [mkS]
   split
   ·rw [hai]; assumption
   ·refine Gen.mem G h2 ?_
    unfold tst
    rw [hai]
    simp
theorem mkS_all {n:Nat} {m:List Int} {e:Nat} {i:Nat} (h:∀ a,a < n→Gen n (op m n) e (tst (mkS n m e i)) a) (hn:1≤n):∀ d,mkS n m e (i + d)=mkS n m e i
 | 0=>rfl
 | d + 1=>by
  have ih:=mkS_all h hn d
  rw [← Nat.add_assoc,mkS,ih,if_pos (h _ (by omega))]

/-- What the makers make is all. -/
theorem mk_gen {n:Nat} {m:List Int} {e:Nat} (G:Grp n (op m n) e) {a:Nat} (ha:a < n):Gen n (op m n) e (tst (mkS n m e n)) a:=mkS_gen G n (Nat.le_refl _) a (by omega) ha

theorem makers_c {n e:Nat} {m:List Int} (h:GT n m n e):FnC Tryd.prog 89 [gp n m] (.list (il (mkS n m e n))):=by
 have T:=h.2.1
 have G:=h.2.2
 have hb:=T.big
 have hpos:=T.pos
 refine fnc_of tab_ok Tryd.func89 rfl (by kernel_rfl) (by rw [Tryd.ntmps89]; exact Nat.le_add_left 1 _) ?_; rw [Tryd.ntmps89]
 refine qm ?_
 refine hk_region fun K hK=>runs_eval tab_ok ?_
 simp only [ev0,evA,evB,evP,fl,gp,tab,simprocAttr,reduceCtorEq,reduceIte]
 refine fin_run ?_ (hK _ ?_)<;>clear hK<;>clear K
 ·(first|exact trivial|omega|(simp only [In64] at *; omega)|(simp [In64] at *; omega)|(simp_all; done)|skip)
 refine qa (qm ?_)
 refine hk_region fun K hK=>runs_eval tab_ok ?_
 simp only [ev0,evA,evB,evP,fl,gp,tab,simprocAttr,reduceCtorEq,reduceIte]
 refine fin_run trivial (hK _ ?_)<;>clear hK<;>clear K
 refine qa (qm (qm ?_))
 refine hk_own0 3 rfl ?_
 refine hk_region fun K hK=>runs_eval tab_ok ?_
 simp only [ev0,evA,evB,evP,fl,gp,tab,simprocAttr,reduceCtorEq,reduceIte]
 refine fin_run ?_ (hK _ ?_)<;>clear hK<;>clear K
 ·(first|exact trivial|omega|(simp only [In64] at *; omega)|(simp [In64] at *; omega)|(simp_all; done)|skip)
 refine qa (ql ?_)
 refine hk_loop (ι:=Nat) (fun i=>⟨32,[(1,.ptr 0 0),(3,.sl 1 0 (mkS n m e i).length),(4,.p (.int .i64 ((n:Int) - 1 - i)))],[.own [.p (.int .i64 n),.p (.list (il m))],.own (ol (mkS n m e i))]⟩) (fun i=>i≤n) (fun i=>n - i) 0 (Nat.zero_le _) [0,1] (by simp only [leq,leA,ev0,evA,evB,evP,fl,gp,tab,simprocAttr,reduceCtorEq,reduceIte]<;>simp [mkS,ol_nil]) fun i hi=>?_
 have hl:=mkS_len n m e i
 have hmem:=mkS_mem (m:=m) (e:=e) hpos i
 obtain ⟨q,hq⟩:=gen_ex n (op m n) e (tst (mkS n m e i))
 have hsp:=span_f h (mkS n m e i) (by omega) hmem q hq
 have hql:=thl_le n q
 refine qm (qm ?_)
 by_cases g3a:(n:Int) - 1 - (i:Int) ≥ 0
 ·refine hk_draw mixed (by kernel_rfl) fun K hK=>runs_eval tab_ok ?_
  simp only [ev0,evA,evB,evP,fl,gp,tab,simprocAttr,reduceCtorEq,reduceIte,decide_eq_true g3a]
  refine fin_stop ?_ (runs_callF (hsp) rfl (by simp only [callA,peekList,peekG,peekS,List.map_cons,List.map_nil,List.append_nil,enA,ev0,evA,evB,evP,fl,gp,tab,simprocAttr,reduceCtorEq,reduceIte,List.drop_zero,ol_drop,ol_take,take_len,ol_allP,il_all,il_length]; rfl) (by simp only [dstOk,Nat.reduceLT]) ?_ (runs_eval tab_ok ?_))
  ·(first|exact trivial|omega|(simp only [In64] at *; omega)|(simp [In64] at *; omega)|(simp_all; done)|skip)
  ·(first|exact trivial|omega|(simp only [In64] at *; omega)|(simp [In64] at *; omega)|(simp_all; done)|skip)
  simp only [ev0,evA,evB,evP,fl,gp,tab,simprocAttr,reduceCtorEq,reduceIte,decide_eq_true g3a]
  refine fin_run ?_ (hK _ ?_)<;>clear hK<;>clear K
  ·(first|exact trivial|omega|(simp only [In64] at *; omega)|(simp [In64] at *; omega)|(simp_all; done)|skip)
  refine qa ?_
  refine hk_cond rfl (fun hC1=>?_) (fun hC1=>?_)
  ·(try simp only [nhs] at hC1)
   have hil:i < n:=by omega
   have hai:(n:Int) - 1 - (i:Int)=((n - 1 - i:Nat):Int):=by omega
   refine qh (qa (qm (ql (qm ?_))))
   refine hk_region fun K hK=>runs_eval tab_ok ?_
   simp only [ev0,evA,evB,evP,fl,gp,tab,simprocAttr,reduceCtorEq,reduceIte,hai]
   refine fin_stop ?_ (runs_callF (hsp) rfl (by simp only [callA,peekList,peekG,peekS,List.map_cons,List.map_nil,List.append_nil,enA,ev0,evA,evB,evP,fl,gp,tab,simprocAttr,reduceCtorEq,reduceIte,List.drop_zero,ol_drop,ol_take,take_len,ol_allP,il_all,il_length]; rfl) (by simp only [dstOk,Nat.reduceLT]) ?_ (runs_eval tab_ok ?_))
   ·(first|exact trivial|omega|(simp only [In64] at *; omega)|(simp [In64] at *; omega)|(simp_all; done)|skip)
   ·(first|exact trivial|omega|(simp only [In64] at *; omega)|(simp [In64] at *; omega)|(simp_all; done)|skip)
   simp only [ev0,evA,evB,evP,fl,gp,tab,simprocAttr,reduceCtorEq,reduceIte,hai]
   refine fin_stop trivial (runs_call (has_r (thl n q) (n - 1 - i:Nat) (by omega)) rfl rfl rfl (by simp only [dstOk,Nat.reduceLT]) (by repeat (first|exact trivial|constructor)) (runs_eval tab_ok ?_))
   simp only [ev0,evA,evB,evP,fl,gp,tab,simprocAttr,reduceCtorEq,reduceIte,hai]
   refine fin_run ?_ (hK _ ?_)<;>clear hK<;>clear K
   ·(first|exact trivial|omega|(simp only [In64] at *; omega)|(simp [In64] at *; omega)|(simp_all; done)|skip)
   refine qa ?_
   refine hk_cond rfl (fun hC2=>?_) (fun hC2=>?_)
   ·(try simp only [nhs] at hC2)
    have hng:¬ Gen n (op m n) e (tst (mkS n m e i)) (n - 1 - i):=fun hg=>hC2 (mem_thl.2 ⟨_,by omega,(hq _ (by omega)).2 hg,rfl⟩)
    have hmk:mkS n m e (i + 1)=mkS n m e i++[((n - 1 - i:Nat):Int)]:=by rw [mkS,if_neg hng]
    refine hk_region fun K hK=>runs_eval tab_ok ?_
    simp only [ev0,evA,evB,evP,fl,gp,tab,simprocAttr,reduceCtorEq,reduceIte,hai]
    refine fin_run ?_ (hK _ ?_)<;>clear hK<;>clear K
    ·(first|exact trivial|omega|(simp only [In64] at *; omega)|(simp [In64] at *; omega)|(simp_all; done)|skip)
    refine qd (qa ?_)
    refine hk_region fun K hK=>runs_eval tab_ok ?_
    simp only [ev0,evA,evB,evP,fl,gp,tab,simprocAttr,reduceCtorEq,reduceIte]
    refine fin_run ?_ (hK _ ?_)<;>clear hK<;>clear K
    ·(first|exact trivial|omega|(simp only [In64] at *; omega)|(simp [In64] at *; omega)|(simp_all; done)|skip)
    refine qa ?_
    refine ⟨i + 1,[0,2],by omega,by omega,?_⟩
    rw [hmk]
    simp only [leq,leA,ev0,evA,evB,evP,fl,gp,tab,simprocAttr,reduceCtorEq,reduceIte]<;>first|trivial|omega
   ·(try simp only [nhs] at hC2)
    have hg:Gen n (op m n) e (tst (mkS n m e i)) (n - 1 - i):=by
     obtain ⟨a,a1,a2,a3⟩:=mem_thl.1 hC2
     have:n - 1 - i=a:=by omega
     rw [this]; exact (hq a a1).1 a2
    have hmk:mkS n m e (i + 1)=mkS n m e i:=by rw [mkS,if_pos hg]
    refine qh (qd (qa ?_))
    refine hk_region fun K hK=>runs_eval tab_ok ?_
    simp only [ev0,evA,evB,evP,fl,gp,tab,simprocAttr,reduceCtorEq,reduceIte]
    refine fin_run ?_ (hK _ ?_)<;>clear hK<;>clear K
    ·(first|exact trivial|omega|(simp only [In64] at *; omega)|(simp [In64] at *; omega)|(simp_all; done)|skip)
    refine qa ?_
    refine ⟨i + 1,[0,1],by omega,by omega,?_⟩
    rw [hmk]
    simp only [leq,leA,ev0,evA,evB,evP,fl,gp,tab,simprocAttr,reduceCtorEq,reduceIte]<;>first|trivial|omega
  ·(try simp only [nhs] at hC1)
   refine qj (qc (qc (qf (qa (qm ?_)))))
   refine hk_region fun K hK=>runs_eval tab_ok ?_
   simp only [ev0,evA,evB,evP,fl,gp,tab,simprocAttr,reduceCtorEq,reduceIte]
   refine fin_run trivial (hK _ ?_)<;>clear hK<;>clear K
   refine qa (qk ?_)
   simp only [Tryd.results89,enA,ev0,evA,evB,evP,fl,gp,tab,simprocAttr,reduceCtorEq,reduceIte]
   have hall:∀ a,a < n→Gen n (op m n) e (tst (mkS n m e i)) a:=fun a ha=>(hq a ha).1 ((thl_full n q).2 (by omega) a ha)
   have hmk:=mkS_all hall hpos (n - i)
   rw [show i + (n - i)=n by omega] at hmk
   simp [hmk]
 ·refine hk_draw mixed (by kernel_rfl) fun K hK=>runs_eval tab_ok ?_
  simp only [ev0,evA,evB,evP,fl,gp,tab,simprocAttr,reduceCtorEq,reduceIte,decide_eq_false g3a]
  refine fin_run trivial (hK _ ?_)<;>clear hK<;>clear K
  refine qa ?_
  refine hk_cond rfl (fun hC1=>?_) (fun hC1=>?_)
  ·cases hC1
  ·refine qj (qc (qc (qf (qa (qm ?_)))))
   refine hk_region fun K hK=>runs_eval tab_ok ?_
   simp only [ev0,evA,evB,evP,fl,gp,tab,simprocAttr,reduceCtorEq,reduceIte]
   refine fin_run trivial (hK _ ?_)<;>clear hK<;>clear K
   refine qa (qk ?_)
   simp only [Tryd.results89,enA,ev0,evA,evB,evP,fl,gp,tab,simprocAttr,reduceCtorEq,reduceIte]
   have hin:i=n:=by omega
   simp [hin]

end Go.Proofs.YtboadfahlflmhaaDoor

/-
  Walks: the reference's search for all homomorphisms. Conditions: none.
-/
set_option linter.all false
namespace Go.Proofs.YtboadfahlflmhaaDoor
open Go.Pv

section
variable {n e N d:Nat} {m M:List Int}
/-- The list's protocol: all, up to a thousand. -/
def prH (mo:Nat):Prot (List PV) where
 c4 _:=.nil
 c51 _:=.int .i64 0
 c52 _:=.int .i64 0
 R l:=l
 go l x:=decide (l.length + 1≤mo)
 nx l x:=l++[x]
 ok l:=l.length≤mo∧l.all PV.one=true
 okx x:=∃ v,x = .list (il v)
 ok_nx l x h hx hg:=by
  simp only [decide_eq_true_eq] at hg
  refine ⟨by simp; omega,?_⟩
  rw [List.all_append,h.2]
  obtain ⟨v,rfl⟩:=hx
  rfl
 ones l h:=h.2
theorem foldH (mo:Nat):∀ (xs l:List PV),(l++xs).length≤mo→foldS (prH mo) l xs=(l++xs,true)
 | [],l,h=>by simp [foldS]
 | x :: xs,l,h=>by
  unfold foldS
  have h1:l.length + 1≤mo:=by simp at h; omega
  have hg:(prH mo).go l x=true:=decide_eq_true h1
  rw [hg,if_pos rfl]
  have:=foldH mo xs (l++[x]) (by simpa [List.append_assoc] using h)
  rw [List.append_assoc] at this
  exact this
theorem foldH_no (mo:Nat):∀ (xs l:List PV),l.length≤mo→¬ (l++xs).length≤mo→∃ j,foldS (prH mo) l xs=(j,false)
 | [],l,h,h'=>absurd (by simpa using h) h'
 | x :: xs,l,h,h'=>by
  unfold foldS
  by_cases h1:l.length + 1≤mo
  ·have hg:(prH mo).go l x=true:=decide_eq_true h1
   rw [hg,if_pos rfl]
   exact foldH_no mo xs (l++[x]) (by simp; omega) (by simpa [List.append_assoc] using h')
  ·have hg:(prH mo).go l x=false:=decide_eq_false h1
   rw [hg]
   exact ⟨_,rfl⟩
def odl (N:Nat) (M:List Int) (d:Nat):List Int:=tbm N fun y=>ord N (op M N) d y
def HM (mo n : Nat) (m : List Int) (N : Nat) (M : List Int) (d : Nat) (L t : List Nat) (i : List PV) : Heap :=
  [.own [.sl 3 0 L.length], .own [.sl 4 0 i.length], .own [.cl 90 [.p (.ptr [.list (il (nl L))]), .p (.ptr [.int .i64 n, .list (il m)]), .p (.ptr [.int .i64 N, .list (il M)]), .ptr 0 0, .ptr 1 0, .p (.ptr [.int .i64 (mo : Nat)]), .p (.ptr [.list (il (odl N M d))]), .ptr 2 0]],
   .own (rwd t L.length), .own (opl i)]
def RNext (mo n:Nat) (m:List Int) (e N:Nat) (M:List Int) (d:Nat) (L r t:List Nat) (i:List PV):Prop:=
 FnQ Tryd.prog 4 90 [.p (.int .i64 t.length),.p (.ptr [.list (il (nl L))]),.p (.ptr [.int .i64 n,.list (il m)]),.p (.ptr [.int .i64 N,.list (il M)]),.ptr 0 0,.ptr 1 0,.p (.ptr [.int .i64 (mo:Nat)]),.p (.ptr [.list (il (odl N M d))]),.ptr 2 0]
  (HM mo n m N M d L t i) (.p (.bool (foldS (prH mo) i (pls (hsq n (op m n) e N (op M N) d L r t))).2)) (HM mo n m N M d L t (foldS (prH mo) i (pls (hsq n (op m n) e N (op M N) d L r t))).1)

set_option maxHeartbeats 8000000 in
set_option maxRecDepth 20000 in
theorem rleaf1 {mo:Nat} (hmo:mo≤100000) (h:GT n m n e) (h' : GT N M N d) (L:List Nat) (hll:L.length≤n) (hLlt:∀ x∈L,x < n) (hLg:∀ a,a < n→Gen n (op m n) e (fun x=>decide (x∈L)) a) (t:List Nat) (i:List PV) (htl:t.length=L.length) (hty:∀ y∈t,y < N) (hi:(prH mo).ok i) (hex:∃ φ,Ext n (op m n) N (op M N) L t φ):RNext mo n m e N M d L [] t i:=by
 have hn:=h.2.1.big
 have hN:=h'.2.1.big
 have hpos:0 < n:=h.2.1.pos
 have hnt:=nl_len t
 have hnL:=nl_len L
 obtain ⟨hi1,hi2⟩:=hi
 have hio:=opl_ok hi2
 have hF:∀ i,i < L.length→L.getD i 0 < n:=fun i hi=>hLlt _ (by simp [List.getD,List.getElem?_eq_getElem hi])
 have hT:∀ i,i < L.length→t.getD i 0 < N:=fun i hi=>hty _ (by simp [List.getD,List.getElem?_eq_getElem (show i < t.length by omega)])
 have hnn:(nl L).length=(nl t).length:=by omega
 unfold RNext
 have hs:hsq n (op m n) e N (op M N) d L [] t=[tbm n (Classical.choose hex)]:=by unfold hsq hlf; rw [dif_pos hex]
 have hφ:=Classical.choose_spec hex
 generalize Classical.choose hex=φ at hs hφ
 have hsp:=rspread_yes h h' L t htl.symm (by omega) hF hT hLg hφ
 have hpl:pls (hsq n (op m n) e N (op M N) d L [] t)=[.list (il (tbm n φ))]:=by rw [hs]; rfl
 have htb:=tbm_len n φ
 have hne:il (tbm n φ) ≠ []:=by
  intro hh
  have h1:=congrArg List.length hh
  rw [il_length,htb] at h1
  simp only [List.length_nil] at h1
  omega
 rw [hpl]
 have hf1:foldS (prH mo) i [PV.list (il (tbm n φ))]=(i++[.list (il (tbm n φ))],decide (i.length + 1≤mo)):=by
  have h1:(prH mo).go i (.list (il (tbm n φ)))=decide (i.length + 1≤mo):=by simp [prH]
  have h2:(prH mo).nx i (.list (il (tbm n φ)))=i++[.list (il (tbm n φ))]:=by simp [prH]
  simp only [foldS,h1,h2]
  split<;>simp_all
 rw [hf1]
 refine fnq_of (q:=4) tab_ok Tryd.func90 rfl (by kernel_rfl) (by rw [Tryd.ntmps90]; exact Nat.le_add_left 9 _) ?_; rw [Tryd.ntmps90]; simp only [ancs,entA,List.length_cons,List.length_nil,List.cons_append,List.nil_append,Nat.reduceAdd,Nat.zero_add]
 simp only [HM,rwd_full htl,List.append_nil,List.cons_append,List.nil_append]
 rw [show L.length=(nl t).length by omega]
 refine qm ?_
 refine hk_region fun K hK=>runs_eval tab_ok ?_
 simp only [ev0,evA,evB,evP,fl,gp,tab,simprocAttr,reduceCtorEq,reduceIte]
 refine fin_run trivial (hK _ ?_)<;>clear hK<;>clear K
 refine qa (qm (qm ?_))
 refine hk_region fun K hK=>runs_eval tab_ok ?_
 simp only [ev0,evA,evB,evP,fl,gp,tab,simprocAttr,reduceCtorEq,reduceIte,il_length,hnn]
 refine fin_run ?_ (hK _ ?_)<;>clear hK<;>clear K
 ·(first|exact trivial|omega|(simp only [In64] at *; omega)|(simp [In64] at *; omega)|(simp_all; done)|skip)
 refine qa ?_
 refine hk_cond rfl (fun hC1=>?_) (fun hC1=>?_)
 ·(try simp only [nhs] at hC1)
  refine qm ?_
  refine hk_region fun K hK=>runs_eval tab_ok ?_
  simp only [ev0,evA,evB,evP,fl,gp,tab,simprocAttr,reduceCtorEq,reduceIte]
  refine fin_stop ?_ (runs_callF (FnG_fnf hsp (by simp [il,PV.sc])) rfl (by simp only [callA,peekList,peekG,peekS,List.map_cons,List.map_nil,List.append_nil,enA,ev0,evA,evB,evP,fl,gp,tab,simprocAttr,reduceCtorEq,reduceIte,List.drop_zero,ol_drop,ol_take,take_len,ol_allP,il_all,il_length]; rfl) (by simp only [dstOk,Nat.reduceLT]) ?_ (runs_eval tab_ok ?_))
  ·(first|exact trivial|omega|(simp only [In64] at *; omega)|(simp [In64] at *; omega)|(simp_all; done)|skip)
  ·(first|exact trivial|omega|(simp only [In64] at *; omega)|(simp [In64] at *; omega)|(simp_all; done)|skip)
  simp only [ev0,evA,evB,evP,fl,gp,tab,simprocAttr,reduceCtorEq,reduceIte]
  refine fin_run ?_ (hK _ ?_)<;>clear hK<;>clear K
  ·(first|exact trivial|omega|(simp only [In64] at *; omega)|(simp [In64] at *; omega)|(simp_all; done)|skip)
  refine qa (qm (qm ?_))
  refine hk_region fun K hK=>runs_eval tab_ok ?_
  simp only [ev0,evA,evB,evP,fl,gp,tab,simprocAttr,reduceCtorEq,reduceIte,binA.eq_def,Option.map_some]
  refine fin_run ?_ (hK _ ?_)<;>clear hK<;>clear K
  ·first|exact hne|trivial
  refine qa ?_
  refine hk_cond rfl (fun hC2=>?_) (fun hC2=>?_)
  ·(try simp only [nhs] at hC2)
   refine hk_region fun K hK=>runs_eval tab_ok ?_
   simp only [ev0,evA,evB,evP,fl,gp,tab,simprocAttr,reduceCtorEq,reduceIte]
   refine fin_run ?_ (hK _ ?_)<;>clear hK<;>clear K
   ·exact ⟨hio,Nat.le_refl _,by omega,by omega⟩
   refine qa (qm ?_)
   refine hk_region fun K hK=>runs_eval tab_ok ?_
   simp only [ev0,evA,evB,evP,fl,gp,tab,simprocAttr,reduceCtorEq,reduceIte]
   refine fin_run ?_ (hK _ ?_)<;>clear hK<;>clear K
   ·(first|exact trivial|omega|(simp only [In64] at *; omega)|(simp [In64] at *; omega)|(simp_all; done)|skip)
   refine qa (qk (qb ?_))
   simp only [Tryd.results90,PostG,endG,rvsA,rvA,mkTup,ev0,evA,evB,evP,fl,gp,tab,simprocAttr,reduceCtorEq,reduceIte]
   have hd:decide (((i.length + 1:Nat):Int)≤(mo:Nat))=decide (i.length + 1≤mo):=decide_eq_decide.2 (by omega)
   rw [hd]
   exact ⟨[0,1,2,3,9,5,6,7,8],rfl,rfl,by simp only [leq,leA,ev0,evA,evB,evP,fl,gp,tab,simprocAttr,reduceCtorEq,reduceIte]<;>first|trivial|(simp; done)|trace_state⟩
  ·(try simp only [nhs] at hC2)
   simp at hC2
 ·(try simp only [nhs] at hC1)
  omega

set_option maxHeartbeats 8000000 in
set_option maxRecDepth 20000 in
theorem rleaf2 {mo:Nat} (hmo:mo≤100000) (h:GT n m n e) (h' : GT N M N d) (L:List Nat) (hll:L.length≤n) (hLlt:∀ x∈L,x < n) (hLg:∀ a,a < n→Gen n (op m n) e (fun x=>decide (x∈L)) a) (t:List Nat) (i:List PV) (htl:t.length=L.length) (hty:∀ y∈t,y < N) (hi:(prH mo).ok i) (hex:¬ ∃ φ,Ext n (op m n) N (op M N) L t φ):RNext mo n m e N M d L [] t i:=by
 have hn:=h.2.1.big
 have hN:=h'.2.1.big
 have hpos:0 < n:=h.2.1.pos
 have hnt:=nl_len t
 have hnL:=nl_len L
 obtain ⟨hi1,hi2⟩:=hi
 have hio:=opl_ok hi2
 have hF:∀ i,i < L.length→L.getD i 0 < n:=fun i hi=>hLlt _ (by simp [List.getD,List.getElem?_eq_getElem hi])
 have hT:∀ i,i < L.length→t.getD i 0 < N:=fun i hi=>hty _ (by simp [List.getD,List.getElem?_eq_getElem (show i < t.length by omega)])
 have hnn:(nl L).length=(nl t).length:=by omega
 unfold RNext
 have hs:hsq n (op m n) e N (op M N) d L [] t=[]:=by unfold hsq hlf; rw [dif_neg hex]
 have hsp:=fnc_of_p (rspread_no h h' L t htl.symm (by omega) hF hT hLg fun φ hφ=>hex ⟨φ,hφ⟩) rfl
 have hpl:pls (hsq n (op m n) e N (op M N) d L [] t)=[]:=by rw [hs]; rfl
 rw [hpl]
 simp only [foldS]
 refine fnq_of (q:=4) tab_ok Tryd.func90 rfl (by kernel_rfl) (by rw [Tryd.ntmps90]; exact Nat.le_add_left 9 _) ?_; rw [Tryd.ntmps90]; simp only [ancs,entA,List.length_cons,List.length_nil,List.cons_append,List.nil_append,Nat.reduceAdd,Nat.zero_add]
 simp only [HM,rwd_full htl,List.append_nil,List.cons_append,List.nil_append]
 rw [show L.length=(nl t).length by omega]
 refine qm ?_
 refine hk_region fun K hK=>runs_eval tab_ok ?_
 simp only [ev0,evA,evB,evP,fl,gp,tab,simprocAttr,reduceCtorEq,reduceIte]
 refine fin_run trivial (hK _ ?_)<;>clear hK<;>clear K
 refine qa (qm (qm ?_))
 refine hk_region fun K hK=>runs_eval tab_ok ?_
 simp only [ev0,evA,evB,evP,fl,gp,tab,simprocAttr,reduceCtorEq,reduceIte,il_length,hnn]
 refine fin_run ?_ (hK _ ?_)<;>clear hK<;>clear K
 ·(first|exact trivial|omega|(simp only [In64] at *; omega)|(simp [In64] at *; omega)|(simp_all; done)|skip)
 refine qa ?_
 refine hk_cond rfl (fun hC1=>?_) (fun hC1=>?_)
 ·(try simp only [nhs] at hC1)
  refine qm ?_
  refine hk_region fun K hK=>runs_eval tab_ok ?_
  simp only [ev0,evA,evB,evP,fl,gp,tab,simprocAttr,reduceCtorEq,reduceIte]
  refine fin_stop ?_ (runs_call (b:=false) (hsp) rfl (by simp only [callA,peekList,peekG,peekS,List.map_cons,List.map_nil,List.append_nil,enA,ev0,evA,evB,evP,fl,gp,tab,simprocAttr,reduceCtorEq,reduceIte,List.drop_zero,ol_drop,ol_take,take_len,ol_allP,il_all,il_length,List.length_replicate,List.take_replicate,Nat.min_self]; rfl) rfl (by simp only [dstOk,Nat.reduceLT]) ?_ (runs_eval tab_ok ?_))
  ·(first|exact trivial|omega|(simp only [In64] at *; omega)|(simp [In64] at *; omega)|(simp_all; done)|skip)
  ·(first|exact trivial|omega|(simp only [In64] at *; omega)|(simp [In64] at *; omega)|(simp_all; done)|skip)
  simp only [ev0,evA,evB,evP,fl,gp,tab,simprocAttr,reduceCtorEq,reduceIte]
  refine fin_run ?_ (hK _ ?_)<;>clear hK<;>clear K
  ·(first|exact trivial|omega|(simp only [In64] at *; omega)|(simp [In64] at *; omega)|(simp_all; done)|skip)
  refine qa (qm (qm ?_))
  refine hk_region fun K hK=>runs_eval tab_ok ?_
  simp only [ev0,evA,evB,evP,fl,gp,tab,simprocAttr,reduceCtorEq,reduceIte,binA.eq_def,Option.map_some]
  refine fin_run ?_ (hK _ ?_)<;>clear hK<;>clear K
  ·first|exact hne|trivial
  refine qa ?_
  refine hk_cond rfl (fun hC2=>?_) (fun hC2=>?_)
  ·(try simp only [nhs] at hC2)
   simp at hC2
  ·(try simp only [nhs] at hC2)
   refine qh (qa (qm ?_))
   refine hk_region fun K hK=>runs_eval tab_ok ?_
   simp only [ev0,evA,evB,evP,fl,gp,tab,simprocAttr,reduceCtorEq,reduceIte]
   refine fin_run ?_ (hK _ ?_)<;>clear hK<;>clear K
   ·(first|exact trivial|omega|(simp only [In64] at *; omega)|(simp [In64] at *; omega)|(simp_all; done)|skip)
   refine qa (qk (qb ?_))
   simp only [Tryd.results90,PostG,endG,rvsA,rvA,mkTup,ev0,evA,evB,evP,fl,gp,tab,simprocAttr,reduceCtorEq,reduceIte]
   have hd:decide (((i.length:Nat):Int)≤(mo:Nat))=true:=decide_eq_true (by omega)
   rw [hd]
   exact ⟨[0,1,2,3,4,5,6,7,8],rfl,rfl,by simp only [leq,leA,ev0,evA,evB,evP,fl,gp,tab,simprocAttr,reduceCtorEq,reduceIte]<;>first|trivial|trace_state⟩
 ·(try simp only [nhs] at hC1)
  omega

set_option maxHeartbeats 8000000 in
set_option maxRecDepth 20000 in
theorem rstep {mo:Nat} (hmo:mo≤100000) (h:GT n m n e) (h' : GT N M N d) (L:List Nat) (hll:L.length≤n) (hLlt:∀ x∈L,x < n) (hLg:∀ a,a < n→Gen n (op m n) e (fun x=>decide (x∈L)) a) (x:Nat) (r t:List Nat) (i:List PV) (hx:L.getD t.length 0=x) (htl:t.length < L.length) (hi:(prH mo).ok i)
  (IH:∀ y,y < N→∀ i,(prH mo).ok i→RNext mo n m e N M d L r (t++[y]) i):RNext mo n m e N M d L (x :: r) t i:=by
 have hn:=h.2.1.big
 have hN:=h'.2.1.big
 have hpos:0 < n:=h.2.1.pos
 have hnt:=nl_len t
 have hnL:=nl_len L
 have hxn:x < n:=by rw [← hx]; exact hLlt _ (by simp [List.getD,List.getElem?_eq_getElem htl])
 have hox:∀ y,∀ v∈pls (hsu n (op m n) e N (op M N) d L r t x y),(prH mo).okx v:=fun y v hv=>by
  obtain ⟨w,_,rfl⟩:=List.mem_map.1 hv
  exact ⟨w,rfl⟩
 have hrl:=rwd_len (Nat.le_of_lt htl)
 have h00:foldS (prH mo) i (pls (hsu n (op m n) e N (op M N) d L r t x 0))=(i,true):=rfl
 have hodl:(odl N M d).length=N:=tbm_len _ _
 unfold RNext
 refine fnq_of (q:=4) tab_ok Tryd.func90 rfl (by kernel_rfl) (by rw [Tryd.ntmps90]; exact Nat.le_add_left 9 _) ?_; rw [Tryd.ntmps90]; simp only [ancs,entA,List.length_cons,List.length_nil,List.cons_append,List.nil_append,Nat.reduceAdd,Nat.zero_add]
 simp only [HM,List.append_nil,List.cons_append,List.nil_append]
 refine qm ?_
 refine hk_region fun K hK=>runs_eval tab_ok ?_
 simp only [ev0,evA,evB,evP,fl,gp,tab,simprocAttr,reduceCtorEq,reduceIte]
 refine fin_run trivial (hK _ ?_)<;>clear hK<;>clear K
 refine qa (qm (qm ?_))
 refine hk_region fun K hK=>runs_eval tab_ok ?_
 simp only [ev0,evA,evB,evP,fl,gp,tab,simprocAttr,reduceCtorEq,reduceIte,il_length,hnL]
 refine fin_run ?_ (hK _ ?_)<;>clear hK<;>clear K
 ·(first|exact trivial|omega|(simp only [In64] at *; omega)|(simp [In64] at *; omega)|(simp_all; done)|skip)
 refine qa ?_
 refine hk_cond rfl (fun hC1=>?_) (fun hC1=>?_)
 ·(try simp only [nhs] at hC1)
  omega
 ·(try simp only [nhs] at hC1)
  refine qh (qa (qm ?_))
  refine hk_draw mixed (by kernel_rfl) fun K hK=>runs_eval tab_ok ?_
  simp only [ev0,evA,evB,evP,fl,gp,tab,simprocAttr,reduceCtorEq,reduceIte,il_get (show t.length < (nl L).length by omega),nl_get htl,hx]
  refine fin_stop ?_ (runs_call (o_c h hxn) rfl rfl rfl (by simp only [dstOk,Nat.reduceLT]) (by repeat (first|exact trivial|constructor)) (runs_eval tab_ok ?_))
  ·exact ⟨by omega,by omega⟩
  simp only [ev0,evA,evB,evP,fl,gp,tab,simprocAttr,reduceCtorEq,reduceIte,il_get (show t.length < (nl L).length by omega),nl_get htl,hx]
  refine fin_run ?_ (hK _ ?_)<;>clear hK<;>clear K
  ·(first|exact trivial|omega|(simp only [In64] at *; omega)|(simp [In64] at *; omega)|(simp_all; done)|skip)
  refine qa (qm (qm ?_))
  refine hk_region fun K hK=>runs_eval tab_ok ?_
  simp only [ev0,evA,evB,evP,fl,gp,tab,simprocAttr,reduceCtorEq,reduceIte]
  refine fin_run trivial (hK _ ?_)<;>clear hK<;>clear K
  refine qa (ql ?_)
  refine hk_loop (ι:=Nat) (fun y=>⟨61,[(0,.p (.int .i64 t.length)),(3,.p (.ptr [.int .i64 N,.list (il M)])),(4,.ptr 0 0),(7,.p (.ptr [.list (il (odl N M d))])),(8,.ptr 2 0),(12,.p (.int .i64 (ord n (op m n) e x:Nat))),(13,.p (.int .i64 y))],[.own [.sl 3 0 L.length],.own [.sl 4 0 ((foldS (prH mo) i (pls (hsu n (op m n) e N (op M N) d L r t x y))).1).length],.own [.cl 90 [.p (.ptr [.list (il (nl L))]),.p (.ptr [.int .i64 n,.list (il m)]),.p (.ptr [.int .i64 N,.list (il M)]),.ptr 0 0,.ptr 1 0,.p (.ptr [.int .i64 (mo:Nat)]),.p (.ptr [.list (il (odl N M d))]),.ptr 2 0]],.own (rwd t L.length),.own (opl ((foldS (prH mo) i (pls (hsu n (op m n) e N (op M N) d L r t x y))).1)),.anc 0 0,.anc 1 1,.anc 2 2,.anc 3 3]⟩) (fun y=>y≤N∧(foldS (prH mo) i (pls (hsu n (op m n) e N (op M N) d L r t x y))).2=true) (fun y=>N - y) 0 ⟨Nat.zero_le _,rfl⟩ [0,1,2,3,4,5,6,7,8] (by simp only [leq,leA,ev0,evA,evB,evP,fl,gp,tab,simprocAttr,reduceCtorEq,reduceIte,h00,rwd_ren,rwd_sc]<;>first|trivial|trace_state) fun y hy=>?_
  obtain ⟨hy1,hy2⟩:=hy
  have hok:=foldS_ok (prH mo) i _ hi (hox y) hy2
  have hsc:=@hsu_succ n e N d (op m n) (op M N) L r t x y
  obtain ⟨j,hj⟩:∃ j,(foldS (prH mo) i (pls (hsu n (op m n) e N (op M N) d L r t x y))).1=j:=⟨_,rfl⟩
  rw [hj] at hok ⊢
  refine qm (qm ?_)
  refine hk_region fun K hK=>runs_eval tab_ok ?_
  simp only [ev0,evA,evB,evP,fl,gp,tab,simprocAttr,reduceCtorEq,reduceIte]
  refine fin_run ?_ (hK _ ?_)<;>clear hK<;>clear K
  ·(first|exact trivial|omega|(simp only [In64] at *; omega)|(simp [In64] at *; omega)|(simp_all; done)|skip)
  refine qa ?_
  refine hk_cond rfl (fun hC3=>?_) (fun hC3=>?_)
  ·(try simp only [nhs] at hC3)
   have hyN:y < N:=by omega
   have hoy:=h'.2.2.ord_pos hyN
   have hod:(odl N M d).getD y 0=((ord N (op M N) d y:Nat):Int):=tbm_get hyN
   refine qh (qa (qm (ql (qm (qm ?_)))))
   refine hk_region fun K hK=>runs_eval tab_ok ?_
   simp only [ev0,evA,evB,evP,fl,gp,tab,simprocAttr,reduceCtorEq,reduceIte,il_get (show y < (odl N M d).length by omega),hod,il_length,hodl]
   refine fin_run ?_ (hK _ ?_)<;>clear hK<;>clear K
   ·(first|exact trivial|omega|(simp only [In64] at *; omega)|(simp [In64] at *; omega)|(simp_all; done)|skip)
   refine qa ?_
   refine hk_cond rfl (fun hC4=>?_) (fun hC4=>?_)
   ·(try simp only [nhs] at hC4)
    have hm:¬ ord n (op m n) e x % ord N (op M N) d y=0:=by omega
    rw [if_neg hm] at hsc
    have e1:foldS (prH mo) i (pls (hsu n (op m n) e N (op M N) d L r t x (y + 1)))=(j,true):=by
     rw [hsc,← hj,← hy2]
    refine qj (qc (qf (qa ?_)))
    refine hk_region fun K hK=>runs_eval tab_ok ?_
    simp only [ev0,evA,evB,evP,fl,gp,tab,simprocAttr,reduceCtorEq,reduceIte]
    refine fin_run ?_ (hK _ ?_)<;>clear hK<;>clear K
    ·(first|exact trivial|omega|(simp only [In64] at *; omega)|(simp [In64] at *; omega)|(simp_all; done)|skip)
    refine qa ?_
    refine ⟨y + 1,[0,1,2,3,4,5,6,7,8],⟨by omega,by rw [e1]⟩,by omega,?_⟩
    simp only [leq,leA,ev0,evA,evB,evP,fl,gp,tab,simprocAttr,reduceCtorEq,reduceIte,e1,rwd_ren,rwd_sc]<;>first|trivial|omega|trace_state
   ·(try simp only [nhs] at hC4)
    have hm:ord n (op m n) e x % ord N (op M N) d y=0:=by omega
    rw [if_pos hm] at hsc
    have hIH:=IH y hyN j hok
    have hto:=foldS_on (prH mo) (b:=pls (hsq n (op m n) e N (op M N) d L r (t++[y]))) hy2
    rw [hj] at hto
    unfold RNext at hIH
    obtain ⟨B,hB⟩:∃ B,(foldS (prH mo) j (pls (hsq n (op m n) e N (op M N) d L r (t++[y])))).2=B:=⟨_,rfl⟩
    obtain ⟨j2,hj2⟩:∃ j2,(foldS (prH mo) j (pls (hsq n (op m n) e N (op M N) d L r (t++[y])))).1=j2:=⟨_,rfl⟩
    rw [hB,hj2] at hIH
    have hcn:((t++[y]).length:Int)=(t.length:Int) + 1:=by simp
    rw [hcn] at hIH
    simp only [HM] at hIH
    refine qh (qa (qm ?_))
    refine hk_region fun K hK=>runs_eval tab_ok ?_
    simp only [ev0,evA,evB,evP,fl,gp,tab,simprocAttr,reduceCtorEq,reduceIte,rwd_set htl,hrl]
    refine fin_run ?_ (hK _ ?_)<;>clear hK<;>clear K
    ·(first|exact trivial|omega|(simp only [In64] at *; omega)|(simp [In64] at *; omega)|(simp_all; done)|skip)
    refine qa (qm ?_)
    refine hk_region fun K hK=>runs_eval tab_ok ?_
    simp only [ev0,evA,evB,evP,fl,gp,tab,simprocAttr,reduceCtorEq,reduceIte]
    refine fin_stop ?_ (runs_callQ [0,1,2,3,4] (hIH) rfl rfl ?_ (by simp only [leA,ev0,evA,evB,evP,fl,gp,tab,simprocAttr,reduceCtorEq,reduceIte,rwd_ren,rwd_sc]; first|trivial|(simp only [ll_takeL]; first|trivial|(repeat constructor; done))|(repeat constructor)) (by decide) (by first|rfl|(simp only [List.length_cons,List.length_nil,List.length_append]; decide)) (by first|rfl|(simp [scQ,scA,sc1,mpKeep,notAnc,Blk.spc,opl_sc,rwd_ren,rwd_sc]; done)) (by simp only [dstOk,Nat.reduceLT]) (runs_eval tab_ok ?_))
    ·(first|exact trivial|omega|(simp only [In64] at *; omega)|(simp [In64] at *; omega)|(simp_all; done)|skip)
    ·(simp only [argsM,argM1,peekG,peekS,scA,sc1,ren,ren1,List.map_cons,List.map_nil,List.append_nil,List.cons_append,List.nil_append,enA,ev0,evA,evB,evP,fl,gp,tab,simprocAttr,reduceCtorEq,reduceIte]; try trivial)
    simp only [putM,kills,hset,List.take_succ_cons,List.take_zero,List.drop_succ_cons,List.drop_zero,List.range',Blk.ren,ren,ren1,List.map_cons,List.map_nil,List.cons_append,List.nil_append,List.append_nil,List.length_cons,List.length_nil,ev0,evA,evB,evP,fl,gp,tab,simprocAttr,reduceCtorEq,reduceIte,rwd_ren,rwd_sc]
    refine fin_run ?_ (hK _ ?_)<;>clear hK<;>clear K
    ·(first|exact trivial|omega|(simp only [In64] at *; omega)|(simp [In64] at *; omega)|(simp_all; done)|skip)
    refine qa ?_
    refine hk_back 3 rfl htl ?_
    refine hk_cond rfl (fun hC5=>?_) (fun hC5=>?_)
    ·(try simp only [nhs] at hC5)
     subst hC5
     obtain ⟨z,hz⟩:=@hsu_pre n e N d (op m n) (op M N) L r t x (y + 1) (by omega)
     have hfin:foldS (prH mo) i (pls (hsq n (op m n) e N (op M N) d L (x :: r) t))=(j2,false):=by
      have e1:foldS (prH mo) i (pls (hsu n (op m n) e N (op M N) d L r t x (y + 1)))=(j2,false):=by
       rw [hsc,pls_app,hto,← hj2,← hB]
      rw [hz,pls_app,foldS_pre (prH mo) (by rw [e1]),e1]
     rw [hfin]
     refine qm ?_
     refine hk_region fun K hK=>runs_eval tab_ok ?_
     simp only [ev0,evA,evB,evP,fl,gp,tab,simprocAttr,reduceCtorEq,reduceIte]
     refine fin_run trivial (hK _ ?_)<;>clear hK<;>clear K
     refine qa (qk (qe (qb (qb (qe (qb ?_))))))
     simp only [Tryd.results90,PostG,endG,rvsA,rvA,mkTup,ev0,evA,evB,evP,fl,gp,tab,simprocAttr,reduceCtorEq,reduceIte]
     all_goals (exact ⟨[0,1,2,3,9,5,6,7,8],rfl,rfl,by simp only [leq,leA,ev0,evA,evB,evP,fl,gp,tab,simprocAttr,reduceCtorEq,reduceIte,rwd_ren,rwd_sc]<;>first|trivial|trace_state⟩)
    ·(try simp only [nhs] at hC5)
     obtain rfl:B=true:=by simpa using hC5
     have e1:foldS (prH mo) i (pls (hsu n (op m n) e N (op M N) d L r t x (y + 1)))=(j2,true):=by
      rw [hsc,pls_app,hto,← hj2,← hB]
     refine qh (qd (qa ?_))
     refine hk_region fun K hK=>runs_eval tab_ok ?_
     simp only [ev0,evA,evB,evP,fl,gp,tab,simprocAttr,reduceCtorEq,reduceIte]
     refine fin_run ?_ (hK _ ?_)<;>clear hK<;>clear K
     ·(first|exact trivial|omega|(simp only [In64] at *; omega)|(simp [In64] at *; omega)|(simp_all; done)|skip)
     refine qa ?_
     refine ⟨y + 1,[0,1,2,3,9,5,6,7,8],⟨by omega,by rw [e1]⟩,by omega,?_⟩
     simp only [leq,leA,ev0,evA,evB,evP,fl,gp,tab,simprocAttr,reduceCtorEq,reduceIte,e1,rwd_ren,rwd_sc]<;>first|trivial|omega|trace_state
  ·(try simp only [nhs] at hC3)
   obtain rfl:y=N:=by omega
   have hfin:foldS (prH mo) i (pls (hsq n (op m n) e y (op M y) d L (x :: r) t))=(j,true):=by
    rw [hsu_end,← hj,← hy2]
   rw [hfin]
   refine qj (qc (qc (qf (qa (qm ?_)))))
   refine hk_region fun K hK=>runs_eval tab_ok ?_
   simp only [ev0,evA,evB,evP,fl,gp,tab,simprocAttr,reduceCtorEq,reduceIte]
   refine fin_run trivial (hK _ ?_)<;>clear hK<;>clear K
   refine qa (qk ?_)
   simp only [Tryd.results90,PostG,endG,rvsA,rvA,mkTup,ev0,evA,evB,evP,fl,gp,tab,simprocAttr,reduceCtorEq,reduceIte]
   all_goals (exact ⟨[0,1,2,3,4,5,6,7,8],rfl,rfl,by simp only [leq,leA,ev0,evA,evB,evP,fl,gp,tab,simprocAttr,reduceCtorEq,reduceIte,rwd_ren,rwd_sc]<;>first|trivial|trace_state⟩)

theorem rnext_c {mo:Nat} (hmo:mo≤100000) (h:GT n m n e) (h' : GT N M N d) (L:List Nat) (hll:L.length≤n) (hLlt:∀ x∈L,x < n) (hLg:∀ a,a < n→Gen n (op m n) e (fun x=>decide (x∈L)) a):∀ (r t:List Nat) (i:List PV),t.length≤L.length→L.drop t.length=r→(∀ y∈t,y < N)→(prH mo).ok i→RNext mo n m e N M d L r t i
 | [],t,i,h1,h2,h3,hi=>by
  have htl:t.length=L.length:=by
   have:=congrArg List.length h2
   simp at this; omega
  by_cases hex:∃ φ,Ext n (op m n) N (op M N) L t φ
  ·exact rleaf1 hmo h h' L hll hLlt hLg t i htl h3 hi hex
  ·exact rleaf2 hmo h h' L hll hLlt hLg t i htl h3 hi hex
 | x :: r,t,i,h1,h2,h3,hi=>by
  have htl:t.length < L.length:=by
   have:=congrArg List.length h2
   simp at this; omega
  have hd:L.drop t.length=L[t.length] :: L.drop (t.length + 1):=List.drop_eq_getElem_cons htl
  rw [h2] at hd
  obtain ⟨e1,e2⟩:=List.cons.inj hd
  refine rstep hmo h h' L hll hLlt hLg x r t i (by simp [List.getD,List.getElem?_eq_getElem htl,e1]) htl hi fun y hy j hj=>?_
  exact rnext_c hmo h h' L hll hLlt hLg r (t++[y]) j (by simp; omega) (by rw [List.length_append]; exact e2.symm) (fun z hz=>by
   rcases List.mem_append.1 hz with hz | hz
   ·exact h3 z hz
   ·have:z=y:=by simpa using hz
    omega) hj
end
end Go.Proofs.YtboadfahlflmhaaDoor

/-
  Walks: the reference's Homs. Conditions: none.
-/
set_option linter.all false
namespace Go.Proofs.YtboadfahlflmhaaDoor
open Go.Pv

section
variable {n e N d:Nat} {m M:List Int}
/-- What the reference hands out, in its order. -/
noncomputable def rfW (n:Nat) (m:List Int) (e N:Nat) (M:List Int) (d:Nat):List (List Int):=hsq n (op m n) e N (op M N) d (tn (mkS n m e n)) (tn (mkS n m e n)) []
theorem tst_tn {l:List Int} (h:∀ x∈l,∃ a,a < n∧x=((a:Nat):Int)):tst l=fun x=>decide (x∈tn l):=funext fun x=>by
 unfold tst
 refine decide_eq_decide.2 ⟨fun hx=>List.mem_map.2 ⟨_,hx,rfl⟩,fun hx=>?_⟩
 obtain ⟨y,hy,he⟩:=List.mem_map.1 hx
 obtain ⟨a,_,rfl⟩:=h y hy
 rw [← he]; exact hy
theorem mk_facts (h:GT n m n e):nl (tn (mkS n m e n))=mkS n m e n∧(tn (mkS n m e n)).length≤n∧(∀ x∈tn (mkS n m e n),x < n)∧∀ a,a < n→Gen n (op m n) e (fun x=>decide (x∈tn (mkS n m e n))) a:=by
 have hm:=mkS_mem (m:=m) (e:=e) h.2.1.pos n
 refine ⟨nl_tn fun i hi=>?_,by rw [tn_len]; exact mkS_len n m e n,fun x hx=>?_,fun a ha=>?_⟩
 ·obtain ⟨a,_,h1⟩:=hm _ (List.getElem_mem hi)
  simp only [List.getD,List.getElem?_eq_getElem hi,Option.getD_some]
  omega
 ·obtain ⟨y,hy,rfl⟩:=List.mem_map.1 hx
  obtain ⟨a,ha,rfl⟩:=hm y hy
  simpa using ha
 ·rw [← tst_tn hm]; exact mk_gen h.2.2 ha
theorem rfW_perm (h:GT n m n e) (h' : GT N M N d):(hmW n m e N M d).Perm (rfW n m e N M d):=by
 obtain ⟨_,h2,h3,h4⟩:=mk_facts h
 refine (List.perm_ext_iff_of_nodup (hmW_nodup h h') (hsq_nodup h.2.2 h'.2.2 h3 h4 _ [] (Nat.zero_le _) rfl)).2 fun w=>?_
 rw [hmW_mem h h']
 refine Iff.symm ((hsq_iff h.2.2 h'.2.2 h3 h4 w _ [] (Nat.zero_le _) rfl).trans ?_)
 exact ⟨fun ⟨φ,a,b,_⟩=>⟨φ,a,b⟩,fun ⟨φ,a,b⟩=>⟨φ,a,b,fun i hi=>absurd hi (Nat.not_lt_zero _)⟩⟩

set_option maxHeartbeats 8000000 in
set_option maxRecDepth 20000 in
theorem homs_c (mo:Nat) (hmo:mo≤100000) (h:GT n m n e) (h' : GT N M N d):FnC Tryd.prog 24 [gp n m,gp N M,.int .i64 (mo:Nat)] (.tup [if (hmW n m e N M d).length≤mo then .list (ll (srtL (hmW n m e N M d))) else .list [],.bool (decide ((hmW n m e N M d).length≤mo))]):=by
 obtain ⟨hmk,hLl,hLlt,hLg⟩:=mk_facts h
 have hmc:=makers_c h
 have hpe:=rfW_perm h h'
 have hple:=hpe.length_eq
 have hWm:∀ v∈rfW n m e N M d,v.length=n:=fun v hv=>by
  obtain ⟨φ,_,rfl⟩:=hsq_mem _ _ v hv
  exact tbm_len n φ
 have hNx:=rnext_c hmo h h' (tn (mkS n m e n)) hLl hLlt hLg (tn (mkS n m e n)) [] [] (Nat.zero_le _) rfl (fun y hy=>by simp at hy) ⟨by simp,rfl⟩
 unfold RNext at hNx
 have hW:hsq n (op m n) e N (op M N) d (tn (mkS n m e n)) (tn (mkS n m e n)) []=rfW n m e N M d:=rfl
 rw [hW] at hNx
 obtain ⟨j,b,hf,hj1,hj2⟩:∃ j b,foldS (prH mo) [] (pls (rfW n m e N M d))=(j,b)∧((rfW n m e N M d).length≤mo→b=true∧j=ll (rfW n m e N M d))∧(¬ (rfW n m e N M d).length≤mo→b=false):=by
  by_cases hw:(rfW n m e N M d).length≤mo
  ·have:=foldH mo (pls (rfW n m e N M d)) [] (by simpa [pls] using hw)
   exact ⟨_,_,this,fun _=>⟨rfl,rfl⟩,fun h=>absurd hw h⟩
  ·obtain ⟨j,h1⟩:=foldH_no mo (pls (rfW n m e N M d)) [] (by simp) (by simpa [pls] using hw)
   exact ⟨j,false,h1,fun h=>absurd h hw,fun _=>rfl⟩
 rw [hf] at hNx
 simp only [HM] at hNx
 have hc0:((([]:List Nat).length:Nat):Int)=0:=rfl
 rw [hc0] at hNx
 have hL:=tn_len (mkS n m e n)
 rw [hmk] at hNx
 simp only [hL,show opl []=[] from rfl,List.length_nil] at hNx
 have hn:=h.2.1.big
 have hN:=h'.2.1.big
 have hrw:List.replicate (List.replicate (mkS n m e n).length (AV.p (.int .i64 0))).length AV.dead=rwd [] (mkS n m e n).length:=by simp [rwd,nl,il,opl]
 have hrz:(rgz N fun y=>if y < 0 then ((ord N (op M N) d y:Nat):Int) else 0)=rgz N fun _=>0:=rgz_congr fun a ha=>by simp
 have rwd_tk:List.take (rwd [] (mkS n m e n).length).length (rwd [] (mkS n m e n).length)=rwd [] (mkS n m e n).length:=List.take_length
 refine fnc_of tab_ok Tryd.func24 rfl (by kernel_rfl) (by rw [Tryd.ntmps24]; exact Nat.le_add_left 3 _) ?_; rw [Tryd.ntmps24]
 refine qm ?_
 refine hk_region fun K hK=>runs_eval tab_ok ?_
 simp only [ev0,evA,evB,evP,fl,gp,tab,simprocAttr,reduceCtorEq,reduceIte]
 refine fin_run ?_ (hK _ ?_)<;>clear hK<;>clear K
 ·(first|exact trivial|omega|(simp only [In64] at *; omega)|(simp [In64] at *; omega)|(simp_all; done)|skip)
 refine qa (qm ?_)
 refine hk_region fun K hK=>runs_eval tab_ok ?_
 simp only [ev0,evA,evB,evP,fl,gp,tab,simprocAttr,reduceCtorEq,reduceIte]
 refine fin_stop trivial (runs_call (hmc) rfl rfl rfl (by simp only [dstOk,Nat.reduceLT]) (by repeat (first|exact trivial|constructor)) (runs_eval tab_ok ?_))
 simp only [ev0,evA,evB,evP,fl,gp,tab,simprocAttr,reduceCtorEq,reduceIte]
 refine fin_run ?_ (hK _ ?_)<;>clear hK<;>clear K
 ·(first|exact trivial|omega|(simp only [In64] at *; omega)|(simp [In64] at *; omega)|(simp_all; done)|skip)
 refine qa (qm ?_)
 refine hk_region fun K hK=>runs_eval tab_ok ?_
 simp only [ev0,evA,evB,evP,fl,gp,tab,simprocAttr,reduceCtorEq,reduceIte]
 refine fin_run ?_ (hK _ ?_)<;>clear hK<;>clear K
 ·have:=mkS_len n m e n
  exact ⟨by omega,by omega,by omega,by omega⟩
 refine qa (qm ?_)
 refine hk_region fun K hK=>runs_eval tab_ok ?_
 simp only [ev0,evA,evB,evP,fl,gp,tab,simprocAttr,reduceCtorEq,reduceIte]
 refine fin_run ?_ (hK _ ?_)<;>clear hK<;>clear K
 ·(first|exact trivial|omega|(simp only [In64] at *; omega)|(simp [In64] at *; omega)|(simp_all; done)|skip)
 refine qa (qm ?_)
 refine hk_forget 4 rfl ?_
 simp only [hset,hrw]
 refine hk_region fun K hK=>runs_eval tab_ok ?_
 simp only [ev0,evA,evB,evP,fl,gp,tab,simprocAttr,reduceCtorEq,reduceIte,makeSliceA.eq_def,rgz_new]
 refine fin_run ?_ (hK _ ?_)<;>clear hK<;>clear K
 ·exact ⟨by omega,by omega,by omega,by omega⟩
 refine qa (qm (qm ?_))
 refine hk_region fun K hK=>runs_eval tab_ok ?_
 simp only [ev0,evA,evB,evP,fl,gp,tab,simprocAttr,reduceCtorEq,reduceIte]
 refine fin_run trivial (hK _ ?_)<;>clear hK<;>clear K
 refine qa (ql ?_)
 refine hk_loop (ι:=Nat) (fun k=>⟨40,[(3,.ptr 0 0),(4,.ptr 1 0),(5,.ptr 2 0),(8,.ptr 3 0),(9,.ptr 5 0),(10,.ptr 6 0),(11,.ptr 8 0),(12,.p (.int .i64 k))],[.own [.p (.int .i64 n),.p (.list (il m))],.own [.p (.int .i64 N),.p (.list (il M))],.own [.p (.int .i64 (mo:Nat))],.own [.p (.list (il (mkS n m e n)))],.own (rwd [] (mkS n m e n).length),.own [.sl 4 0 (mkS n m e n).length],.own [.p .nil],.own (ol (rgz N fun y=>if y < k then ((ord N (op M N) d y:Nat):Int) else 0)),.own [.sl 7 0 N]]⟩) (fun k=>k≤N) (fun k=>N - k) 0 (Nat.zero_le _) [0,1,2,3,4,5,6,7,8] (by simp only [leq,leA,ev0,evA,evB,evP,fl,gp,tab,simprocAttr,reduceCtorEq,reduceIte,rwd_ren,rwd_sc,rwd_tk]<;>first|trivial|exact ⟨rfl,rfl⟩|(rw [hrz,List.take_of_length_le (by rw [rgz_len]; exact Nat.le_refl _)]; done)|(simp [rgz_len]; done)|trace_state) fun k hk=>?_
 have hr:=rgz_len N fun y=>if y < k then ((ord N (op M N) d y:Nat):Int) else 0
 refine qm (qm ?_)
 refine hk_region fun K hK=>runs_eval tab_ok ?_
 simp only [ev0,evA,evB,evP,fl,gp,tab,simprocAttr,reduceCtorEq,reduceIte]
 refine fin_run ?_ (hK _ ?_)<;>clear hK<;>clear K
 ·(first|exact trivial|omega|(simp only [In64] at *; omega)|(simp [In64] at *; omega)|(simp_all; done)|skip)
 refine qa ?_
 refine hk_cond rfl (fun hC1=>?_) (fun hC1=>?_)
 ·(try simp only [nhs] at hC1)
  have hkl:k < N:=by omega
  have hse:(rgz N fun y=>if y < k then ((ord N (op M N) d y:Nat):Int) else 0).set k ((ord N (op M N) d k:Nat):Int)=rgz N fun y=>if y < k + 1 then ((ord N (op M N) d y:Nat):Int) else 0:=by
   rw [rgz_set]
   exact rgz_congr fun a ha=>by
    by_cases e:a=k
    ·simp [e]
    ·by_cases e2:a < k
     ·simp [e,e2,show a < k + 1 by omega]
     ·simp [e,e2,show ¬ a < k + 1 by omega]
  refine qh (qa (qm (ql ?_)))
  refine hk_draw mixed (by kernel_rfl) fun K hK=>runs_eval tab_ok ?_
  simp only [ev0,evA,evB,evP,fl,gp,tab,simprocAttr,reduceCtorEq,reduceIte,ol_set,hse]
  refine fin_stop trivial (runs_call (o_c h' hkl) rfl rfl rfl (by simp only [dstOk,Nat.reduceLT]) (by repeat (first|exact trivial|constructor)) (runs_eval tab_ok ?_))
  simp only [ev0,evA,evB,evP,fl,gp,tab,simprocAttr,reduceCtorEq,reduceIte,ol_set,hse]
  refine fin_run ?_ (hK _ ?_)<;>clear hK<;>clear K
  ·(first|exact trivial|omega|(simp only [In64] at *; omega)|(simp [In64] at *; omega)|(simp_all; done)|skip)
  refine qd (qa ?_)
  refine hk_region fun K hK=>runs_eval tab_ok ?_
  simp only [ev0,evA,evB,evP,fl,gp,tab,simprocAttr,reduceCtorEq,reduceIte]
  refine fin_run ?_ (hK _ ?_)<;>clear hK<;>clear K
  ·(first|exact trivial|omega|(simp only [In64] at *; omega)|(simp [In64] at *; omega)|(simp_all; done)|skip)
  refine qa ?_
  refine ⟨k + 1,[0,1,2,3,4,5,6,7,8],by omega,by omega,?_⟩
  simp only [leq,leA,ev0,evA,evB,evP,fl,gp,tab,simprocAttr,reduceCtorEq,reduceIte,rwd_ren,rwd_sc,rwd_tk]<;>first|trivial|omega|(simp [ol_length,rgz_len]; done)|trace_state
 ·(try simp only [nhs] at hC1)
  obtain rfl:k=N:=by omega
  have hod:(rgz k fun y=>if y < k then ((ord k (op M k) d y:Nat):Int) else 0)=odl k M d:=by
   unfold rgz odl tbm
   exact List.map_congr_left fun a ha=>by rw [if_pos (List.mem_range.1 ha)]
  have hodl:(odl k M d).length=k:=tbm_len _ _
  rw [hod]
  refine qj (qc (qc (qf (qa (qm ?_)))))
  refine hk_region fun K hK=>runs_eval tab_ok ?_
  simp only [ev0,evA,evB,evP,fl,gp,tab,simprocAttr,reduceCtorEq,reduceIte]
  refine fin_run ?_ (hK _ ?_)<;>clear hK<;>clear K
  ·(first|exact trivial|omega|(simp only [In64] at *; omega)|(simp [In64] at *; omega)|(simp_all; done)|skip)
  refine qa (qm ?_)
  refine hk_freeze 7 rfl (opl_allP (il (odl k M d))) ?_
  refine hk_purec 8 0 rfl rfl rfl ⟨by rw [il_length]; omega,?_⟩ ?_
  ·exact (List.all_eq_true.2 fun x hx=>List.all_eq_true.1 (il_all _) x (List.mem_of_mem_drop (List.mem_of_mem_take hx)))
  refine hk_freeze 0 rfl rfl ?_
  refine hk_freeze 1 rfl rfl ?_
  refine hk_freeze 2 rfl rfl ?_
  refine hk_freeze 3 rfl rfl ?_
  refine hk_own0c 6 0 rfl rfl ?_
  simp only [hset,List.set_cons_zero,List.set,List.drop_zero,List.cons_append,List.nil_append,List.length_cons,List.length_nil,Nat.reduceAdd,Nat.zero_add]
  rw [show List.take k (il (odl k M d))=il (odl k M d) from List.take_of_length_le (by rw [il_length]; omega)]
  refine hk_freeze 8 rfl rfl ?_
  refine hk_pure 3 rfl (Nat.zero_le _) ?_
  refine hk_pure 4 rfl (Nat.zero_le _) ?_
  refine hk_pure 5 rfl (Nat.zero_le _) ?_
  refine hk_pure 8 rfl (Nat.zero_le _) ?_
  refine hk_pure 11 rfl (Nat.zero_le _) ?_
  simp only [hset,List.drop_zero]
  refine hk_region fun K hK=>runs_eval tab_ok ?_
  simp only [ev0,evA,evB,evP,fl,gp,tab,simprocAttr,reduceCtorEq,reduceIte]
  refine fin_stop ?_ (runs_op (makeCl_does rfl rfl) rfl (by simp only [dstOk,Nat.reduceLT]) (runs_eval tab_ok ?_))
  ·(first|exact trivial|omega|(simp only [In64] at *; omega)|(simp [In64] at *; omega)|(simp_all; done)|skip)
  simp only [ev0,evA,evB,evP,fl,gp,tab,simprocAttr,reduceCtorEq,reduceIte]
  refine fin_run ?_ (hK _ ?_)<;>clear hK<;>clear K
  ·(first|exact trivial|omega|(simp only [In64] at *; omega)|(simp [In64] at *; omega)|(simp_all; done)|skip)
  refine qa (qm (qm ?_))
  refine hk_region fun K hK=>runs_eval tab_ok ?_
  simp only [ev0,evA,evB,evP,fl,gp,tab,simprocAttr,reduceCtorEq,reduceIte]
  refine fin_stop ?_ (runs_callQ [5,6,9,4,10] (hNx) rfl rfl ?_ (by simp only [leA,ev0,evA,evB,evP,fl,gp,tab,simprocAttr,reduceCtorEq,reduceIte,rwd_ren,rwd_sc]; first|trivial|(simp only [ll_takeL]; first|trivial|(repeat constructor; done))|(repeat constructor)) (by decide) (by first|rfl|(simp only [List.length_cons,List.length_nil,List.length_append]; decide)) (by first|rfl|(simp [scQ,scA,sc1,mpKeep,notAnc,Blk.spc,opl_sc,rwd_ren,rwd_sc]; done)) (by simp only [dstOk,Nat.reduceLT]) (runs_eval tab_ok ?_))
  ·(first|exact trivial|omega|(simp only [In64] at *; omega)|(simp [In64] at *; omega)|(simp_all; done)|skip)
  ·(simp only [argsM,argM1,peekG,peekS,scA,sc1,ren,ren1,List.map_cons,List.map_nil,List.append_nil,List.cons_append,List.nil_append,enA,ev0,evA,evB,evP,fl,gp,tab,simprocAttr,reduceCtorEq,reduceIte]; try trivial)
  simp only [putM,kills,hset,List.take_succ_cons,List.take_zero,List.drop_succ_cons,List.drop_zero,List.range',Blk.ren,ren,ren1,List.map_cons,List.map_nil,List.cons_append,List.nil_append,List.append_nil,List.length_cons,List.length_nil,ev0,evA,evB,evP,fl,gp,tab,simprocAttr,reduceCtorEq,reduceIte,rwd_ren,rwd_sc]
  refine fin_run ?_ (hK _ ?_)<;>clear hK<;>clear K
  ·(first|exact trivial|omega|(simp only [In64] at *; omega)|(simp [In64] at *; omega)|(simp_all; done)|skip)
  refine qa ?_
  refine hk_cond rfl (fun hC2=>?_) (fun hC2=>?_)
  ·(try simp only [nhs] at hC2)
   have hw:¬ (hmW n m e k M d).length≤mo:=fun hw=>by
    rw [(hj1 (by omega)).1] at hC2; simp at hC2
   refine qm ?_
   refine hk_region fun K hK=>runs_eval tab_ok ?_
   simp only [ev0,evA,evB,evP,fl,gp,tab,simprocAttr,reduceCtorEq,reduceIte]
   refine fin_run trivial (hK _ ?_)<;>clear hK<;>clear K
   refine qa (qk (qb ?_))
   simp only [Tryd.results24,enA,ev0,evA,evB,evP,fl,gp,tab,simprocAttr,reduceCtorEq,reduceIte]
   all_goals (rw [if_neg hw,decide_eq_false hw]; exact ⟨rfl,rfl⟩)
  ·(try simp only [nhs] at hC2)
   have hw:(hmW n m e k M d).length≤mo:=Classical.byContradiction fun hw=>by
    rw [hj2 (by omega)] at hC2; simp at hC2
   obtain ⟨_,rfl⟩:=hj1 (by omega)
   have hsl:=(srtL_perm (rfW n m e k M d)).length_eq
   have hsu:srtL (rfW n m e k M d)=srtL (hmW n m e k M d):=srtL_unique (hpe.trans (srtL_perm _)) (srtL_sorted _)
   refine qh (qa (qm ?_))
   refine hk_region fun K hK=>runs_eval tab_ok ?_
   simp only [ev0,evA,evB,evP,fl,gp,tab,simprocAttr,reduceCtorEq,reduceIte]
   refine fin_stop ?_ (runs_callM [11] (rising_c n (rfW n m e k M d) (by omega) (by omega) hWm) rfl rfl ?_ (by simp only [leA,ev0,evA,evB,evP,fl,gp,tab,simprocAttr,reduceCtorEq,reduceIte]; first|trivial|(simp only [ll_takeL]; first|trivial|(repeat constructor; done))|(repeat constructor)) (by decide) (by first|rfl|(simp only [List.length_cons,List.length_nil,List.length_append]; decide)) (by first|rfl|(simp only [scM,opl_sc,List.all_cons,List.all_nil,List.length_cons,List.length_nil]; first|rfl|decide)|(simp [scM,scA,sc1,mpKeep,notAnc]; done)) (by simp only [dstOk,Nat.reduceLT]) (runs_eval tab_ok ?_))
   ·(first|exact trivial|omega|(simp only [In64] at *; omega)|(simp [In64] at *; omega)|(simp_all; done)|skip)
   ·(simp only [argsM,argM1,peekG,peekS,scA,sc1,ren,ren1,List.map_cons,List.map_nil,List.append_nil,List.cons_append,List.nil_append,enA,ev0,evA,evB,evP,fl,gp,tab,simprocAttr,reduceCtorEq,reduceIte]; try trivial)
   simp only [putM,hset,List.range',Blk.ren,ren,ren1,List.map_cons,List.map_nil,List.cons_append,List.nil_append,List.append_nil,List.length_cons,List.length_nil,ev0,evA,evB,evP,fl,gp,tab,simprocAttr,reduceCtorEq,reduceIte]
   refine fin_run ?_ (hK _ ?_)<;>clear hK<;>clear K
   ·(first|exact trivial|omega|(simp only [In64] at *; omega)|(simp [In64] at *; omega)|(simp_all; done)|skip)
   refine qa (qk ?_)
   simp only [Tryd.results24,enA,ev0,evA,evB,evP,fl,gp,tab,simprocAttr,reduceCtorEq,reduceIte]
   rw [if_pos hw,decide_eq_true hw,← hsu,List.take_of_length_le (show (ll (srtL (rfW n m e k M d))).length≤(rfW n m e k M d).length by rw [ll_length]; omega)]
   exact ⟨⟨by omega,ll_all _⟩,rfl,rfl⟩
end
end Go.Proofs.YtboadfahlflmhaaDoor

/-
  Walks: the law SubMakes. Conditions: none.
-/
set_option linter.all false
namespace Go.Proofs.YtboadfahlflmhaaDoor
open Go.Pv

end Go.Proofs.YtboadfahlflmhaaDoor

/-
  The law HomIso. Conditions: none.
-/
set_option linter.all false
namespace Go.Proofs.YtboadfahlflmhaaDoor
open Go.Pv

def cntg (idx:Nat→Nat) (j k:Nat):Int:=((mem j fun b=>decide (idx b=k)).length:Nat)
theorem cntg_succ (idx:Nat→Nat) (j k:Nat):cntg idx (j + 1) k=if k=idx j then cntg idx j (idx j) + 1 else cntg idx j k:=by
 unfold cntg mem
 rw [List.range_succ,List.filter_append]
 by_cases hk:k=idx j
 ·subst hk
  simp
 ·have:¬ idx j=k:=fun h=>hk h.symm
  simp [hk,this]
theorem cntg_le (idx:Nat→Nat) (j k:Nat):0≤cntg idx j k∧cntg idx j k≤j:=by
 unfold cntg mem
 have h1:=List.length_filter_le (fun b=>decide (idx b=k)) (List.range j)
 rw [List.length_range] at h1
 omega
/-- How many of the first things commute with one. -/
def cmn (f:Nat→Nat→Nat) (a j:Nat):Nat:=(mem j fun b=>decide (f a b=f b a)).length
theorem cmn_succ (f:Nat→Nat→Nat) (a j:Nat):cmn f a (j + 1)=cmn f a j + if f a j=f j a then 1 else 0:=by
 unfold cmn mem
 rw [List.range_succ,List.filter_append,List.length_append]
 by_cases h:f a j=f j a<;>simp [h]
theorem cmn_le (f:Nat→Nat→Nat) (a j:Nat):cmn f a j≤j:=by
 unfold cmn mem
 have h1:=List.length_filter_le (fun b=>decide (f a b=f b a)) (List.range j)
 rwa [List.length_range] at h1
def pix2 (n:Nat) (m:List Int) (e b:Nat):Nat:=ord n (op m n) e b * 62 + cmn (op m n) b n
set_option maxHeartbeats 4000000 in
theorem profile_r {n e:Nat} {m:List Int} (h:GT n m n e):FnC Tryd.prog 31 [gp n m] (.list (il (rgz 3844 (cntg (pix2 n m e) n)))):=by
 have hn:=h.2.1.big
 have h0:(rgz 3844 fun _=>(0:Int))=rgz 3844 (cntg (pix2 n m e) 0):=rfl
 refine fnc_of tab_ok Tryd.func31 rfl (by kernel_rfl) (by rw [Tryd.ntmps31]; exact Nat.le_add_left 1 _) ?_; rw [Tryd.ntmps31]
 refine qm ?_
 refine hk_region fun K hK=>runs_eval tab_ok ?_
 simp only [ev0,evA,evB,evP,fl,gp,tab,simprocAttr,reduceCtorEq,reduceIte]
 refine fin_run ?_ (hK _ ?_)<;>clear hK<;>clear K
 ·(first|exact trivial|omega|(simp only [In64] at *; omega)|(simp [In64] at *; omega)|(simp_all; done)|skip)
 refine qa (qm ?_)
 refine hk_region fun K hK=>runs_eval tab_ok ?_
 simp only [ev0,evA,evB,evP,fl,gp,tab,simprocAttr,reduceCtorEq,reduceIte,makeSliceA.eq_def,-List.reduceReplicate,rgz_new,h0]
 refine fin_run ?_ (hK _ ?_)<;>clear hK<;>clear K
 ·(first|exact trivial|omega|(simp only [In64] at *; omega)|(simp [In64] at *; omega)|(simp_all; done)|skip)
 refine qa (qm (qm ?_))
 refine hk_region fun K hK=>runs_eval tab_ok ?_
 simp only [ev0,evA,evB,evP,fl,gp,tab,simprocAttr,reduceCtorEq,reduceIte]
 refine fin_run trivial (hK _ ?_)<;>clear hK<;>clear K
 refine qa (ql ?_)
 refine hk_loop (ι:=Nat) (fun a=>⟨43,[(1,.ptr 0 0),(3,.sl 1 0 3844),(4,.p (.int .i64 a))],[.own [.p (.int .i64 n),.p (.list (il m))],.own (ol (rgz 3844 (cntg (pix2 n m e) a)))]⟩) (fun a=>a≤n) (fun a=>n - a) 0 (Nat.zero_le _) [0,1] (by simp only [leq,leA,ev0,evA,evB,evP,fl,gp,tab,simprocAttr,reduceCtorEq,reduceIte]) fun a ha=>?_
 have hrl:=rgz_len 3844 (cntg (pix2 n m e) a)
 refine qm (qm ?_)
 refine hk_region fun K hK=>runs_eval tab_ok ?_
 simp only [ev0,evA,evB,evP,fl,gp,tab,simprocAttr,reduceCtorEq,reduceIte]
 refine fin_run ?_ (hK _ ?_)<;>clear hK<;>clear K
 ·(first|exact trivial|omega|(simp only [In64] at *; omega)|(simp [In64] at *; omega)|(simp_all; done)|skip)
 refine qa ?_
 refine hk_cond rfl (fun hC1=>?_) (fun hC1=>?_)
 ·(try simp only [nhs] at hC1)
  have hal:a < n:=by omega
  refine qh (qa (qm (ql (qm ?_))))
  refine hk_region fun K hK=>runs_eval tab_ok ?_
  simp only [ev0,evA,evB,evP,fl,gp,tab,simprocAttr,reduceCtorEq,reduceIte]
  refine fin_run trivial (hK _ ?_)<;>clear hK<;>clear K
  refine qa (qm (qm ?_))
  refine hk_region fun K hK=>runs_eval tab_ok ?_
  simp only [ev0,evA,evB,evP,fl,gp,tab,simprocAttr,reduceCtorEq,reduceIte]
  refine fin_run trivial (hK _ ?_)<;>clear hK<;>clear K
  refine qa (ql ?_)
  refine hk_loop (ι:=Nat) (fun b=>⟨43,[(1,.ptr 0 0),(3,.sl 1 0 3844),(4,.p (.int .i64 a)),(5,.p (.int .i64 (cmn (op m n) a b:Nat))),(6,.p (.int .i64 b))],[.own [.p (.int .i64 n),.p (.list (il m))],.own (ol (rgz 3844 (cntg (pix2 n m e) a)))]⟩) (fun b=>b≤n) (fun b=>n - b) 0 (Nat.zero_le _) [0,1] (by simp only [leq,leA,ev0,evA,evB,evP,fl,gp,tab,simprocAttr,reduceCtorEq,reduceIte]<;>simp [cmn,mem]) fun b hb=>?_
  have hcl:=cmn_le (op m n) a b
  have hcs:=cmn_succ (op m n) a b
  refine qm (qm ?_)
  refine hk_region fun K hK=>runs_eval tab_ok ?_
  simp only [ev0,evA,evB,evP,fl,gp,tab,simprocAttr,reduceCtorEq,reduceIte]
  refine fin_run ?_ (hK _ ?_)<;>clear hK<;>clear K
  ·(first|exact trivial|omega|(simp only [In64] at *; omega)|(simp [In64] at *; omega)|(simp_all; done)|skip)
  refine qa ?_
  refine hk_cond rfl (fun hC2=>?_) (fun hC2=>?_)
  ·(try simp only [nhs] at hC2)
   have hbl:b < n:=by omega
   refine qh (qa (qm (ql (qm ?_))))
   refine hk_draw mixed (by kernel_rfl) fun K hK=>runs_eval tab_ok ?_
   simp only [ev0,evA,evB,evP,fl,gp,tab,simprocAttr,reduceCtorEq,reduceIte]
   refine fin_stop trivial (runs_call (m_c h.2.1 hal hbl) rfl rfl rfl (by simp only [dstOk,Nat.reduceLT]) (by repeat (first|exact trivial|constructor)) (runs_eval tab_ok ?_))
   simp only [ev0,evA,evB,evP,fl,gp,tab,simprocAttr,reduceCtorEq,reduceIte]
   refine fin_stop trivial (runs_call (m_c h.2.1 hbl hal) rfl rfl rfl (by simp only [dstOk,Nat.reduceLT]) (by repeat (first|exact trivial|constructor)) (runs_eval tab_ok ?_))
   simp only [ev0,evA,evB,evP,fl,gp,tab,simprocAttr,reduceCtorEq,reduceIte]
   refine fin_run ?_ (hK _ ?_)<;>clear hK<;>clear K
   ·(first|exact trivial|omega|(simp only [In64] at *; omega)|(simp [In64] at *; omega)|(simp_all; done)|skip)
   refine qa ?_
   refine hk_cond rfl (fun hC3=>?_) (fun hC3=>?_)
   ·(try simp only [nhs] at hC3)
    have hab:op m n a b=op m n b a:=by omega
    rw [if_pos hab] at hcs
    refine hk_region fun K hK=>runs_eval tab_ok ?_
    simp only [ev0,evA,evB,evP,fl,gp,tab,simprocAttr,reduceCtorEq,reduceIte]
    refine fin_run ?_ (hK _ ?_)<;>clear hK<;>clear K
    ·(first|exact trivial|omega|(simp only [In64] at *; omega)|(simp [In64] at *; omega)|(simp_all; done)|skip)
    refine qd (qa ?_)
    refine hk_region fun K hK=>runs_eval tab_ok ?_
    simp only [ev0,evA,evB,evP,fl,gp,tab,simprocAttr,reduceCtorEq,reduceIte]
    refine fin_run ?_ (hK _ ?_)<;>clear hK<;>clear K
    ·(first|exact trivial|omega|(simp only [In64] at *; omega)|(simp [In64] at *; omega)|(simp_all; done)|skip)
    refine qa ?_
    refine ⟨b + 1,[0,1],by omega,by omega,?_⟩
    rw [hcs]
    simp only [leq,leA,ev0,evA,evB,evP,fl,gp,tab,simprocAttr,reduceCtorEq,reduceIte]<;>first|trivial|omega|trace_state
   ·(try simp only [nhs] at hC3)
    have hab:¬ op m n a b=op m n b a:=by omega
    rw [if_neg hab] at hcs
    refine qh (qd (qa ?_))
    refine hk_region fun K hK=>runs_eval tab_ok ?_
    simp only [ev0,evA,evB,evP,fl,gp,tab,simprocAttr,reduceCtorEq,reduceIte]
    refine fin_run ?_ (hK _ ?_)<;>clear hK<;>clear K
    ·(first|exact trivial|omega|(simp only [In64] at *; omega)|(simp [In64] at *; omega)|(simp_all; done)|skip)
    refine qa ?_
    refine ⟨b + 1,[0,1],by omega,by omega,?_⟩
    rw [hcs]
    simp only [leq,leA,ev0,evA,evB,evP,fl,gp,tab,simprocAttr,reduceCtorEq,reduceIte]<;>first|trivial|omega|trace_state
  ·(try simp only [nhs] at hC2)
   obtain rfl:b=n:=by omega
   have hob:=(h.2.2.ord_spec hal).2.1
   have hix:pix2 b m e a < 3844:=by unfold pix2; omega
   have hie:((ord b (op m b) e a:Nat):Int) * 62 + (cmn (op m b) a b:Nat)=((pix2 b m e a:Nat):Int):=by unfold pix2; omega
   have hg:=rgz_get (g:=cntg (pix2 b m e) a) hix
   have hcb:=cntg_le (pix2 b m e) a (pix2 b m e a)
   have hse:(rgz 3844 (cntg (pix2 b m e) a)).set (pix2 b m e a) (cntg (pix2 b m e) a (pix2 b m e a) + 1)=rgz 3844 (cntg (pix2 b m e) (a + 1)):=by
    rw [rgz_set]
    exact rgz_congr fun k hk=>(cntg_succ (pix2 b m e) a k).symm
   refine qj (qc (qc (qf (qa ?_))))
   refine hk_region fun K hK=>runs_eval tab_ok ?_
   simp only [ev0,evA,evB,evP,fl,gp,tab,simprocAttr,reduceCtorEq,reduceIte,hie,ol_length,hrl,ol_get (show pix2 b m e a < (rgz 3844 (cntg (pix2 b m e) a)).length by omega),hg,ol_set,hse]
   refine fin_stop ?_ (runs_call (o_c h hal) rfl rfl rfl (by simp only [dstOk,Nat.reduceLT]) (by repeat (first|exact trivial|constructor)) (runs_eval tab_ok ?_))
   ·(first|exact trivial|omega|(simp only [In64] at *; omega)|(simp [In64] at *; omega)|(simp_all; done)|skip)
   simp only [ev0,evA,evB,evP,fl,gp,tab,simprocAttr,reduceCtorEq,reduceIte,hie,ol_length,hrl,ol_get (show pix2 b m e a < (rgz 3844 (cntg (pix2 b m e) a)).length by omega),hg,ol_set,hse]
   refine fin_run ?_ (hK _ ?_)<;>clear hK<;>clear K
   ·(first|exact trivial|omega|(simp only [In64] at *; omega)|(simp [In64] at *; omega)|(simp_all; done)|skip)
   refine qd (qa ?_)
   refine hk_region fun K hK=>runs_eval tab_ok ?_
   simp only [ev0,evA,evB,evP,fl,gp,tab,simprocAttr,reduceCtorEq,reduceIte]
   refine fin_run ?_ (hK _ ?_)<;>clear hK<;>clear K
   ·(first|exact trivial|omega|(simp only [In64] at *; omega)|(simp [In64] at *; omega)|(simp_all; done)|skip)
   refine qa ?_
   refine ⟨a + 1,[0,1],by omega,by omega,?_⟩
   simp only [leq,leA,ev0,evA,evB,evP,fl,gp,tab,simprocAttr,reduceCtorEq,reduceIte]<;>first|trivial|omega|trace_state
 ·(try simp only [nhs] at hC1)
  obtain rfl:a=n:=by omega
  refine hk_seal 3 1 (w:=rgz 3844 (cntg (pix2 a m e) a)) (by rw [hrl]; rfl) rfl ?_
  refine qj (qc (qc (qf (qa (qm ?_)))))
  refine hk_region fun K hK=>runs_eval tab_ok ?_
  simp only [ev0,evA,evB,evP,fl,gp,tab,simprocAttr,reduceCtorEq,reduceIte]
  refine fin_run trivial (hK _ ?_)<;>clear hK<;>clear K
  refine qa (qk ?_)
  simp only [Tryd.results31,enA,ev0,evA,evB,evP,fl,gp,tab,simprocAttr,reduceCtorEq,reduceIte]
  all_goals (rfl)

theorem sameGroup2_c (N:Int) (m:List Int) (N' : Int) (m' : List Int) (hm:m.length≤1000000000000000):FnC Tryd.prog 32 [gp N m,gp N' m'] (.bool (decide (N=N'∧m=m'))):=by
 refine fnc_of tab_ok Tryd.func32 rfl (by kernel_rfl) (by rw [Tryd.ntmps32]; exact Nat.le_add_left 2 _) ?_; rw [Tryd.ntmps32]
 refine qm ?_
 refine hk_region fun K hK=>runs_eval tab_ok ?_
 simp only [ev0,evA,evB,evP,fl,gp,tab,simprocAttr,reduceCtorEq,reduceIte]
 refine fin_run ?_ (hK _ ?_)<;>clear hK<;>clear K
 ·(first|exact trivial|omega|(simp only [In64] at *; omega)|(simp [In64] at *; omega)|(simp_all; done)|skip)
 refine qa (qm ?_)
 by_cases h1:N=N'
 ·refine hk_region fun K hK=>runs_eval tab_ok ?_
  simp only [ev0,evA,evB,evP,fl,gp,tab,simprocAttr,reduceCtorEq,reduceIte,decide_eq_true h1]
  refine fin_stop trivial (runs_call (ints_c m m' hm) rfl rfl rfl (by simp only [dstOk,Nat.reduceLT]) (by repeat (first|exact trivial|constructor)) (runs_eval tab_ok ?_))
  simp only [ev0,evA,evB,evP,fl,gp,tab,simprocAttr,reduceCtorEq,reduceIte,decide_eq_true h1]
  refine fin_run ?_ (hK _ ?_)<;>clear hK<;>clear K
  ·(first|exact trivial|omega|(simp only [In64] at *; omega)|(simp [In64] at *; omega)|(simp_all; done)|skip)
  refine qa (qk ?_)
  simp only [Tryd.results32,enA,ev0,evA,evB,evP,fl,gp,tab,simprocAttr,reduceCtorEq,reduceIte]
  all_goals (simp [h1])
 ·refine hk_region fun K hK=>runs_eval tab_ok ?_
  simp only [ev0,evA,evB,evP,fl,gp,tab,simprocAttr,reduceCtorEq,reduceIte,decide_eq_false h1]
  refine fin_run ?_ (hK _ ?_)<;>clear hK<;>clear K
  ·(first|exact trivial|omega|(simp only [In64] at *; omega)|(simp [In64] at *; omega)|(simp_all; done)|skip)
  refine qa (qk ?_)
  simp only [Tryd.results32,enA,ev0,evA,evB,evP,fl,gp,tab,simprocAttr,reduceCtorEq,reduceIte]
  all_goals (simp [h1])

set_option maxRecDepth 20000 in
set_option maxHeartbeats 16000000 in
theorem homIso_c (N:Int) (m:List Int) (N' : Int) (m' : List Int) (hm:m.length≤17592186043904) (hm' : m'.length≤17592186043904):FnC Tryd.prog 4 [gp N m,gp N' m'] (.bool true):=by
 have hT:=twoGroups_c N m N' m' (by omega) (by omega)
 have hSG:=sameGroup2_c N m N' m' (by omega)
 have key:¬ (tg N m N' m').1=0∨(∃ n e n' e' : Nat,GT N m n e∧GT N' m' n' e'∧∃ φ,Isom n (op m n) n' (op m' n') φ) ∨
   (∃ n e n' e' : Nat,GT N m n e∧GT N' m' n' e'∧(¬ ∃ φ,Isom n (op m n) n' (op m' n') φ)∧(¬ n=n'∨(n=n'∧¬ rgz 3844 (cntg (pix2 n m e) n)=rgz 3844 (cntg (pix2 n' m' e') n')) ∨
    (n=n'∧rgz 3844 (cntg (pix2 n m e) n)=rgz 3844 (cntg (pix2 n' m' e') n')∧¬ n≤24)∨(n=n'∧rgz 3844 (cntg (pix2 n m e) n)=rgz 3844 (cntg (pix2 n' m' e') n')∧n≤24∧(hmW n m e n' m' e').length≤3000) ∨
    (n=n'∧rgz 3844 (cntg (pix2 n m e) n)=rgz 3844 (cntg (pix2 n' m' e') n')∧n≤24∧¬ (hmW n m e n' m' e').length≤3000))):=by
  by_cases h1:(tg N m N' m').1=0
  ·right
   obtain ⟨z1,z2⟩:=tg_zero h1
   obtain ⟨n,e,h,_⟩:=gf_ok z1
   obtain ⟨n',e',h',_⟩:=gf_ok z2
   by_cases hex:∃ φ,Isom n (op m n) n' (op m' n') φ
   ·exact .inl ⟨n,e,n',e',h,h',hex⟩
   ·refine .inr ⟨n,e,n',e',h,h',hex,?_⟩
    by_cases hn:n=n'
    ·by_cases hp:rgz 3844 (cntg (pix2 n m e) n)=rgz 3844 (cntg (pix2 n' m' e') n')
     ·by_cases h24:n≤24
      ·by_cases hl:(hmW n m e n' m' e').length≤3000
       ·exact .inr (.inr (.inr (.inl ⟨hn,hp,h24,hl⟩)))
       ·exact .inr (.inr (.inr (.inr ⟨hn,hp,h24,hl⟩)))
      ·exact .inr (.inr (.inl ⟨hn,hp,h24⟩))
     ·exact .inr (.inl ⟨hn,hp⟩)
    ·exact .inl hn
  ·exact .inl h1
 refine fnc_of tab_ok Tryd.func4 rfl (by kernel_rfl) (by rw [Tryd.ntmps4]; exact Nat.le_add_left 2 _) ?_; rw [Tryd.ntmps4]
 refine qm ?_
 refine hk_region fun K hK=>runs_eval tab_ok ?_
 simp only [ev0,evA,evB,evP,fl,gp,tab,simprocAttr,reduceCtorEq,reduceIte]
 refine fin_run ?_ (hK _ ?_)<;>clear hK<;>clear K
 ·(first|exact trivial|omega|(simp only [In64] at *; omega)|(simp [In64] at *; omega)|(simp_all; done)|skip)
 refine qa (qm ?_)
 rcases key with hf | ⟨n,e,n',e',h,h',hex⟩ | ⟨n,e,n',e',h,h',hne,hn | ⟨hn,hp⟩ | ⟨hn,hp,h24⟩ | ⟨hn,hp,h24,hl⟩ | ⟨hn,hp,h24,hl⟩⟩
 ·have cI:=iso_flt N m N' m' (by omega) (by omega) hf
  have hz:=decide_eq_false hf
  refine hk_draw2 mixed fun K hK=>runs2_eval tab_ok ?_
  simp only [evD,ev0,evA,evB,evP,fl,gp,tab,simprocAttr,reduceCtorEq,reduceIte]
  refine fin2_stop trivial (runs2_call (ownGroup_c _ m hm) rfl rfl rfl rfl (by simp only [dstOk,Nat.reduceLT]) (by repeat (first|exact trivial|constructor)) (runs2_eval tab_ok ?_))
  simp only [evD,ev0,evA,evB,evP,fl,gp,tab,simprocAttr,reduceCtorEq,reduceIte]
  refine fin2_stop trivial (runs2_call (ownGroup_c _ m' hm') rfl rfl rfl rfl (by simp only [dstOk,Nat.reduceLT]) (by repeat (first|exact trivial|constructor)) (runs2_eval tab_ok ?_))
  simp only [evD,ev0,evA,evB,evP,fl,gp,tab,simprocAttr,reduceCtorEq,reduceIte]
  refine fin2_stop trivial (runs2_call (cI) rfl rfl rfl rfl (by simp only [dstOk,Nat.reduceLT]) (by repeat (first|exact trivial|constructor)) (runs2_eval tab_ok ?_))
  simp only [evD,ev0,evA,evB,evP,fl,gp,tab,simprocAttr,reduceCtorEq,reduceIte]
  refine fin2_run ?_ (hK _ _ (by first|kernel_rfl|rfl) ?_)<;>clear hK<;>clear K
  ·(first|exact trivial|omega|(simp only [In64] at *; omega)|(simp [In64] at *; omega)|(simp_all; done)|skip)
  refine qa (qm ?_)
  refine hk_region fun K hK=>runs_eval tab_ok ?_
  simp only [ev0,evA,evB,evP,fl,gp,tab,simprocAttr,reduceCtorEq,reduceIte]
  refine fin_stop trivial (runs_call (hT) rfl rfl rfl (by simp only [dstOk,Nat.reduceLT]) (by repeat (first|exact trivial|constructor)) (runs_eval tab_ok ?_))
  simp only [ev0,evA,evB,evP,fl,gp,tab,simprocAttr,reduceCtorEq,reduceIte]
  refine fin_run ?_ (hK _ ?_)<;>clear hK<;>clear K
  ·(first|exact trivial|omega|(simp only [In64] at *; omega)|(simp [In64] at *; omega)|(simp_all; done)|skip)
  refine qa (qm (qm ?_))
  refine hk_region fun K hK=>runs_eval tab_ok ?_
  simp only [ev0,evA,evB,evP,fl,gp,tab,simprocAttr,reduceCtorEq,reduceIte]
  refine fin_stop trivial (runs_call (homBegun_c) rfl rfl rfl (by simp only [dstOk,Nat.reduceLT]) (by repeat (first|exact trivial|constructor)) (runs_eval tab_ok ?_))
  simp only [ev0,evA,evB,evP,fl,gp,tab,simprocAttr,reduceCtorEq,reduceIte]
  refine fin_run trivial (hK _ ?_)<;>clear hK<;>clear K
  refine qa ?_
  refine hk_cond rfl (fun hC1=>?_) (fun hC1=>?_)
  ·cases hC1
  ·(try simp only [nhs] at hC1)
   refine qh (qa (qm (qm ?_)))
   refine hk_region fun K hK=>runs_eval tab_ok ?_
   simp only [ev0,evA,evB,evP,fl,gp,tab,simprocAttr,reduceCtorEq,reduceIte,hz]
   refine fin_run ?_ (hK _ ?_)<;>clear hK<;>clear K
   ·(first|exact trivial|omega|(simp only [In64] at *; omega)|(simp [In64] at *; omega)|(simp_all; done)|skip)
   refine qa ?_
   refine hk_cond rfl (fun hC2=>?_) (fun hC2=>?_)
   ·(try simp only [nhs] at hC2)
    refine qm ?_
    refine hk_region fun K hK=>runs_eval tab_ok ?_
    simp only [ev0,evA,evB,evP,fl,gp,tab,simprocAttr,reduceCtorEq,reduceIte,beq_self_eq_true]
    refine fin_run ?_ (hK _ ?_)<;>clear hK<;>clear K
    ·(first|exact trivial|omega|(simp only [In64] at *; omega)|(simp [In64] at *; omega)|(simp_all; done)|skip)
    refine qa (qk (qb ?_))
    simp only [Tryd.results4,enA,ev0,evA,evB,evP,fl,gp,tab,simprocAttr,reduceCtorEq,reduceIte]
    all_goals (first|rfl|trivial|trace_state)
   ·cases hC2
 ·obtain rfl:=h.1
  obtain rfl:=h'.1
  have hb:=h.2.1.big
  have hb':=h'.2.1.big
  obtain ⟨φ,hI,cI⟩:=iso_yes h h' (by omega) (by omega) hex
  have hnn:=(isom_iff.1 hI).2.1
  have hF:=homFault_c n m n' m' (tbm n φ) (by omega) (by omega)
  rw [homf_of h h' (hom_of_hmo h.2.2 hI.1)] at hF
  have htl:=tbm_len n φ
  have hO:=oneToOne_r (tbm n φ) n' (by omega) (by omega)
  rw [decide_eq_true hI.2] at hO
  rw [tg_ok h h'] at hT
  have hz:decide ((0:Int)=0)=true:=rfl
  refine hk_draw2 mixed fun K hK=>runs2_eval tab_ok ?_
  simp only [evD,ev0,evA,evB,evP,fl,gp,tab,simprocAttr,reduceCtorEq,reduceIte]
  refine fin2_stop trivial (runs2_call (ownGroup_c _ m hm) rfl rfl rfl rfl (by simp only [dstOk,Nat.reduceLT]) (by repeat (first|exact trivial|constructor)) (runs2_eval tab_ok ?_))
  simp only [evD,ev0,evA,evB,evP,fl,gp,tab,simprocAttr,reduceCtorEq,reduceIte]
  refine fin2_stop trivial (runs2_call (ownGroup_c _ m' hm') rfl rfl rfl rfl (by simp only [dstOk,Nat.reduceLT]) (by repeat (first|exact trivial|constructor)) (runs2_eval tab_ok ?_))
  simp only [evD,ev0,evA,evB,evP,fl,gp,tab,simprocAttr,reduceCtorEq,reduceIte]
  refine fin2_stop trivial (runs2_call (cI) rfl rfl rfl rfl (by simp only [dstOk,Nat.reduceLT]) (by repeat (first|exact trivial|constructor)) (runs2_eval tab_ok ?_))
  simp only [evD,ev0,evA,evB,evP,fl,gp,tab,simprocAttr,reduceCtorEq,reduceIte]
  refine fin2_run ?_ (hK _ _ (by first|kernel_rfl|rfl) ?_)<;>clear hK<;>clear K
  ·(first|exact trivial|omega|(simp only [In64] at *; omega)|(simp [In64] at *; omega)|(simp_all; done)|skip)
  refine qa (qm ?_)
  refine hk_region fun K hK=>runs_eval tab_ok ?_
  simp only [ev0,evA,evB,evP,fl,gp,tab,simprocAttr,reduceCtorEq,reduceIte]
  refine fin_stop trivial (runs_call (hT) rfl rfl rfl (by simp only [dstOk,Nat.reduceLT]) (by repeat (first|exact trivial|constructor)) (runs_eval tab_ok ?_))
  simp only [ev0,evA,evB,evP,fl,gp,tab,simprocAttr,reduceCtorEq,reduceIte]
  refine fin_run ?_ (hK _ ?_)<;>clear hK<;>clear K
  ·(first|exact trivial|omega|(simp only [In64] at *; omega)|(simp [In64] at *; omega)|(simp_all; done)|skip)
  refine qa (qm (qm ?_))
  refine hk_region fun K hK=>runs_eval tab_ok ?_
  simp only [ev0,evA,evB,evP,fl,gp,tab,simprocAttr,reduceCtorEq,reduceIte]
  refine fin_stop trivial (runs_call (homBegun_c) rfl rfl rfl (by simp only [dstOk,Nat.reduceLT]) (by repeat (first|exact trivial|constructor)) (runs_eval tab_ok ?_))
  simp only [ev0,evA,evB,evP,fl,gp,tab,simprocAttr,reduceCtorEq,reduceIte]
  refine fin_run trivial (hK _ ?_)<;>clear hK<;>clear K
  refine qa ?_
  refine hk_cond rfl (fun hC1=>?_) (fun hC1=>?_)
  ·cases hC1
  ·(try simp only [nhs] at hC1)
   refine qh (qa (qm (qm ?_)))
   refine hk_region fun K hK=>runs_eval tab_ok ?_
   simp only [ev0,evA,evB,evP,fl,gp,tab,simprocAttr,reduceCtorEq,reduceIte,hz]
   refine fin_run ?_ (hK _ ?_)<;>clear hK<;>clear K
   ·(first|exact trivial|omega|(simp only [In64] at *; omega)|(simp [In64] at *; omega)|(simp_all; done)|skip)
   refine qa ?_
   refine hk_cond rfl (fun hC2=>?_) (fun hC2=>?_)
   ·cases hC2
   ·(try simp only [nhs] at hC2)
    refine qh (qa (qm (qm ?_)))
    refine hk_region fun K hK=>runs_eval tab_ok ?_
    simp only [ev0,evA,evB,evP,fl,gp,tab,simprocAttr,reduceCtorEq,reduceIte]
    refine fin_run ?_ (hK _ ?_)<;>clear hK<;>clear K
    ·(first|exact trivial|omega|(simp only [In64] at *; omega)|(simp [In64] at *; omega)|(simp_all; done)|skip)
    refine qa ?_
    refine hk_cond rfl (fun hC3=>?_) (fun hC3=>?_)
    ·(try simp only [nhs] at hC3)
     refine qm ?_
     refine hk_region fun K hK=>runs_eval tab_ok ?_
     simp only [ev0,evA,evB,evP,fl,gp,tab,simprocAttr,reduceCtorEq,reduceIte,decide_eq_true (show ((n:Nat):Int)=n' by omega)]
     refine fin_stop trivial (runs_call (hF) rfl rfl rfl (by simp only [dstOk,Nat.reduceLT]) (by repeat (first|exact trivial|constructor)) (runs_eval tab_ok ?_))
     simp only [ev0,evA,evB,evP,fl,gp,tab,simprocAttr,reduceCtorEq,reduceIte,decide_eq_true (show ((n:Nat):Int)=n' by omega)]
     refine fin_stop trivial (runs_call (hO) rfl rfl rfl (by simp only [dstOk,Nat.reduceLT]) (by repeat (first|exact trivial|constructor)) (runs_eval tab_ok ?_))
     simp only [ev0,evA,evB,evP,fl,gp,tab,simprocAttr,reduceCtorEq,reduceIte,decide_eq_true (show ((n:Nat):Int)=n' by omega)]
     refine fin_run ?_ (hK _ ?_)<;>clear hK<;>clear K
     ·(first|exact trivial|omega|(simp only [In64] at *; omega)|(simp [In64] at *; omega)|(simp_all; done)|skip)
     refine qa (qk (qb ?_))
     simp only [Tryd.results4,enA,ev0,evA,evB,evP,fl,gp,tab,simprocAttr,reduceCtorEq,reduceIte]
     all_goals (first|rfl|trivial|trace_state)
    ·cases hC3
 ·obtain rfl:=h.1
  obtain rfl:=h'.1
  have hb:=h.2.1.big
  have hb':=h'.2.1.big
  have cI:=iso_no h h' (by omega) (by omega) hne
  rw [tg_ok h h'] at hT
  have hz:decide ((0:Int)=0)=true:=rfl
  have hP:=profile_r h
  have hP':=profile_r h'
  have hpl:=rgz_len 3844 (cntg (pix2 n m e) n)
  have hpp:=ints_c (rgz 3844 (cntg (pix2 n m e) n)) (rgz 3844 (cntg (pix2 n' m' e') n')) (by omega)
  generalize rgz 3844 (cntg (pix2 n m e) n)=P1 at *
  generalize rgz 3844 (cntg (pix2 n' m' e') n')=P2 at *
  refine hk_draw2 mixed fun K hK=>runs2_eval tab_ok ?_
  simp only [evD,ev0,evA,evB,evP,fl,gp,tab,simprocAttr,reduceCtorEq,reduceIte]
  refine fin2_stop trivial (runs2_call (ownGroup_c _ m hm) rfl rfl rfl rfl (by simp only [dstOk,Nat.reduceLT]) (by repeat (first|exact trivial|constructor)) (runs2_eval tab_ok ?_))
  simp only [evD,ev0,evA,evB,evP,fl,gp,tab,simprocAttr,reduceCtorEq,reduceIte]
  refine fin2_stop trivial (runs2_call (ownGroup_c _ m' hm') rfl rfl rfl rfl (by simp only [dstOk,Nat.reduceLT]) (by repeat (first|exact trivial|constructor)) (runs2_eval tab_ok ?_))
  simp only [evD,ev0,evA,evB,evP,fl,gp,tab,simprocAttr,reduceCtorEq,reduceIte]
  refine fin2_stop trivial (runs2_call (cI) rfl rfl rfl rfl (by simp only [dstOk,Nat.reduceLT]) (by repeat (first|exact trivial|constructor)) (runs2_eval tab_ok ?_))
  simp only [evD,ev0,evA,evB,evP,fl,gp,tab,simprocAttr,reduceCtorEq,reduceIte]
  refine fin2_run ?_ (hK _ _ (by first|kernel_rfl|rfl) ?_)<;>clear hK<;>clear K
  ·(first|exact trivial|omega|(simp only [In64] at *; omega)|(simp [In64] at *; omega)|(simp_all; done)|skip)
  refine qa (qm ?_)
  refine hk_region fun K hK=>runs_eval tab_ok ?_
  simp only [ev0,evA,evB,evP,fl,gp,tab,simprocAttr,reduceCtorEq,reduceIte]
  refine fin_stop trivial (runs_call (hT) rfl rfl rfl (by simp only [dstOk,Nat.reduceLT]) (by repeat (first|exact trivial|constructor)) (runs_eval tab_ok ?_))
  simp only [ev0,evA,evB,evP,fl,gp,tab,simprocAttr,reduceCtorEq,reduceIte]
  refine fin_run ?_ (hK _ ?_)<;>clear hK<;>clear K
  ·(first|exact trivial|omega|(simp only [In64] at *; omega)|(simp [In64] at *; omega)|(simp_all; done)|skip)
  refine qa (qm (qm ?_))
  refine hk_region fun K hK=>runs_eval tab_ok ?_
  simp only [ev0,evA,evB,evP,fl,gp,tab,simprocAttr,reduceCtorEq,reduceIte]
  refine fin_stop trivial (runs_call (homBegun_c) rfl rfl rfl (by simp only [dstOk,Nat.reduceLT]) (by repeat (first|exact trivial|constructor)) (runs_eval tab_ok ?_))
  simp only [ev0,evA,evB,evP,fl,gp,tab,simprocAttr,reduceCtorEq,reduceIte]
  refine fin_run trivial (hK _ ?_)<;>clear hK<;>clear K
  refine qa ?_
  refine hk_cond rfl (fun hC1=>?_) (fun hC1=>?_)
  ·cases hC1
  ·(try simp only [nhs] at hC1)
   refine qh (qa (qm (qm ?_)))
   refine hk_region fun K hK=>runs_eval tab_ok ?_
   simp only [ev0,evA,evB,evP,fl,gp,tab,simprocAttr,reduceCtorEq,reduceIte,hz]
   refine fin_run ?_ (hK _ ?_)<;>clear hK<;>clear K
   ·(first|exact trivial|omega|(simp only [In64] at *; omega)|(simp [In64] at *; omega)|(simp_all; done)|skip)
   refine qa ?_
   refine hk_cond rfl (fun hC2=>?_) (fun hC2=>?_)
   ·cases hC2
   ·(try simp only [nhs] at hC2)
    refine qh (qa (qm (qm ?_)))
    refine hk_region fun K hK=>runs_eval tab_ok ?_
    simp only [ev0,evA,evB,evP,fl,gp,tab,simprocAttr,reduceCtorEq,reduceIte]
    refine fin_run ?_ (hK _ ?_)<;>clear hK<;>clear K
    ·(first|exact trivial|omega|(simp only [In64] at *; omega)|(simp [In64] at *; omega)|(simp_all; done)|skip)
    refine qa ?_
    refine hk_cond rfl (fun hC3=>?_) (fun hC3=>?_)
    ·cases hC3
    ·(try simp only [nhs] at hC3)
     refine qh (qa (qm (qm ?_)))
     refine hk_draw mixed (by kernel_rfl) fun K hK=>runs_eval tab_ok ?_
     simp only [ev0,evA,evB,evP,fl,gp,tab,simprocAttr,reduceCtorEq,reduceIte,bne_self_eq_false]
     refine fin_stop trivial (runs_call (f_c 6 0) rfl rfl rfl (by simp only [dstOk,Nat.reduceLT]) (by repeat (first|exact trivial|constructor)) (runs_eval tab_ok ?_))
     simp only [ev0,evA,evB,evP,fl,gp,tab,simprocAttr,reduceCtorEq,reduceIte,bne_self_eq_false]
     refine fin_run ?_ (hK _ ?_)<;>clear hK<;>clear K
     ·(first|exact trivial|omega|(simp only [In64] at *; omega)|(simp [In64] at *; omega)|(simp_all; done)|skip)
     refine qa ?_
     refine hk_cond rfl (fun hC4=>?_) (fun hC4=>?_)
     ·cases hC4
     ·(try simp only [nhs] at hC4)
      refine qh (qa (qm (qm ?_)))
      refine hk_draw2 mixed fun K hK=>runs2_eval tab_ok ?_
      simp only [evD,ev0,evA,evB,evP,fl,gp,tab,simprocAttr,reduceCtorEq,reduceIte,decide_eq_false (show ¬ ((n:Nat):Int)=n' by omega)]
      refine fin2_run ?_ (hK _ _ (by first|kernel_rfl|rfl) ?_)<;>clear hK<;>clear K
      ·(first|exact trivial|omega|(simp only [In64] at *; omega)|(simp [In64] at *; omega)|(simp_all; done)|skip)
      refine qa ?_
      refine hk_cond rfl (fun hC5=>?_) (fun hC5=>?_)
      ·refine qm ?_
       refine hk_region fun K hK=>runs_eval tab_ok ?_
       simp only [ev0,evA,evB,evP,fl,gp,tab,simprocAttr,reduceCtorEq,reduceIte]
       refine fin_run trivial (hK _ ?_)<;>clear hK<;>clear K
       refine qa (qk (qb ?_))
       simp only [Tryd.results4,enA,ev0,evA,evB,evP,fl,gp,tab,simprocAttr,reduceCtorEq,reduceIte]
       all_goals (first|rfl|trivial|trace_state)
      ·cases hC5
 ·obtain rfl:=h.1
  obtain rfl:=h'.1
  have hb:=h.2.1.big
  have hb':=h'.2.1.big
  have cI:=iso_no h h' (by omega) (by omega) hne
  rw [tg_ok h h'] at hT
  have hz:decide ((0:Int)=0)=true:=rfl
  have hP:=profile_r h
  have hP':=profile_r h'
  have hpl:=rgz_len 3844 (cntg (pix2 n m e) n)
  have hpp:=ints_c (rgz 3844 (cntg (pix2 n m e) n)) (rgz 3844 (cntg (pix2 n' m' e') n')) (by omega)
  generalize rgz 3844 (cntg (pix2 n m e) n)=P1 at *
  generalize rgz 3844 (cntg (pix2 n' m' e') n')=P2 at *
  subst hn
  rw [decide_eq_false hp] at hpp
  refine hk_draw2 mixed fun K hK=>runs2_eval tab_ok ?_
  simp only [evD,ev0,evA,evB,evP,fl,gp,tab,simprocAttr,reduceCtorEq,reduceIte]
  refine fin2_stop trivial (runs2_call (ownGroup_c _ m hm) rfl rfl rfl rfl (by simp only [dstOk,Nat.reduceLT]) (by repeat (first|exact trivial|constructor)) (runs2_eval tab_ok ?_))
  simp only [evD,ev0,evA,evB,evP,fl,gp,tab,simprocAttr,reduceCtorEq,reduceIte]
  refine fin2_stop trivial (runs2_call (ownGroup_c _ m' hm') rfl rfl rfl rfl (by simp only [dstOk,Nat.reduceLT]) (by repeat (first|exact trivial|constructor)) (runs2_eval tab_ok ?_))
  simp only [evD,ev0,evA,evB,evP,fl,gp,tab,simprocAttr,reduceCtorEq,reduceIte]
  refine fin2_stop trivial (runs2_call (cI) rfl rfl rfl rfl (by simp only [dstOk,Nat.reduceLT]) (by repeat (first|exact trivial|constructor)) (runs2_eval tab_ok ?_))
  simp only [evD,ev0,evA,evB,evP,fl,gp,tab,simprocAttr,reduceCtorEq,reduceIte]
  refine fin2_run ?_ (hK _ _ (by first|kernel_rfl|rfl) ?_)<;>clear hK<;>clear K
  ·(first|exact trivial|omega|(simp only [In64] at *; omega)|(simp [In64] at *; omega)|(simp_all; done)|skip)
  refine qa (qm ?_)
  refine hk_region fun K hK=>runs_eval tab_ok ?_
  simp only [ev0,evA,evB,evP,fl,gp,tab,simprocAttr,reduceCtorEq,reduceIte]
  refine fin_stop trivial (runs_call (hT) rfl rfl rfl (by simp only [dstOk,Nat.reduceLT]) (by repeat (first|exact trivial|constructor)) (runs_eval tab_ok ?_))
  simp only [ev0,evA,evB,evP,fl,gp,tab,simprocAttr,reduceCtorEq,reduceIte]
  refine fin_run ?_ (hK _ ?_)<;>clear hK<;>clear K
  ·(first|exact trivial|omega|(simp only [In64] at *; omega)|(simp [In64] at *; omega)|(simp_all; done)|skip)
  refine qa (qm (qm ?_))
  refine hk_region fun K hK=>runs_eval tab_ok ?_
  simp only [ev0,evA,evB,evP,fl,gp,tab,simprocAttr,reduceCtorEq,reduceIte]
  refine fin_stop trivial (runs_call (homBegun_c) rfl rfl rfl (by simp only [dstOk,Nat.reduceLT]) (by repeat (first|exact trivial|constructor)) (runs_eval tab_ok ?_))
  simp only [ev0,evA,evB,evP,fl,gp,tab,simprocAttr,reduceCtorEq,reduceIte]
  refine fin_run trivial (hK _ ?_)<;>clear hK<;>clear K
  refine qa ?_
  refine hk_cond rfl (fun hC1=>?_) (fun hC1=>?_)
  ·cases hC1
  ·(try simp only [nhs] at hC1)
   refine qh (qa (qm (qm ?_)))
   refine hk_region fun K hK=>runs_eval tab_ok ?_
   simp only [ev0,evA,evB,evP,fl,gp,tab,simprocAttr,reduceCtorEq,reduceIte,hz]
   refine fin_run ?_ (hK _ ?_)<;>clear hK<;>clear K
   ·(first|exact trivial|omega|(simp only [In64] at *; omega)|(simp [In64] at *; omega)|(simp_all; done)|skip)
   refine qa ?_
   refine hk_cond rfl (fun hC2=>?_) (fun hC2=>?_)
   ·cases hC2
   ·(try simp only [nhs] at hC2)
    refine qh (qa (qm (qm ?_)))
    refine hk_region fun K hK=>runs_eval tab_ok ?_
    simp only [ev0,evA,evB,evP,fl,gp,tab,simprocAttr,reduceCtorEq,reduceIte]
    refine fin_run ?_ (hK _ ?_)<;>clear hK<;>clear K
    ·(first|exact trivial|omega|(simp only [In64] at *; omega)|(simp [In64] at *; omega)|(simp_all; done)|skip)
    refine qa ?_
    refine hk_cond rfl (fun hC3=>?_) (fun hC3=>?_)
    ·cases hC3
    ·(try simp only [nhs] at hC3)
     refine qh (qa (qm (qm ?_)))
     refine hk_draw mixed (by kernel_rfl) fun K hK=>runs_eval tab_ok ?_
     simp only [ev0,evA,evB,evP,fl,gp,tab,simprocAttr,reduceCtorEq,reduceIte,bne_self_eq_false]
     refine fin_stop trivial (runs_call (f_c 6 0) rfl rfl rfl (by simp only [dstOk,Nat.reduceLT]) (by repeat (first|exact trivial|constructor)) (runs_eval tab_ok ?_))
     simp only [ev0,evA,evB,evP,fl,gp,tab,simprocAttr,reduceCtorEq,reduceIte,bne_self_eq_false]
     refine fin_run ?_ (hK _ ?_)<;>clear hK<;>clear K
     ·(first|exact trivial|omega|(simp only [In64] at *; omega)|(simp [In64] at *; omega)|(simp_all; done)|skip)
     refine qa ?_
     refine hk_cond rfl (fun hC4=>?_) (fun hC4=>?_)
     ·cases hC4
     ·(try simp only [nhs] at hC4)
      refine qh (qa (qm (qm ?_)))
      refine hk_draw2 mixed fun K hK=>runs2_eval tab_ok ?_
      simp only [evD,ev0,evA,evB,evP,fl,gp,tab,simprocAttr,reduceCtorEq,reduceIte,decide_eq_true (show ((n:Nat):Int)=n from rfl)]
      refine fin2_stop trivial (runs2_call (hP) rfl rfl rfl rfl (by simp only [dstOk,Nat.reduceLT]) (by repeat (first|exact trivial|constructor)) (runs2_eval tab_ok ?_))
      simp only [evD,ev0,evA,evB,evP,fl,gp,tab,simprocAttr,reduceCtorEq,reduceIte,decide_eq_true (show ((n:Nat):Int)=n from rfl)]
      refine fin2_stop trivial (runs2_call (hP') rfl rfl rfl rfl (by simp only [dstOk,Nat.reduceLT]) (by repeat (first|exact trivial|constructor)) (runs2_eval tab_ok ?_))
      simp only [evD,ev0,evA,evB,evP,fl,gp,tab,simprocAttr,reduceCtorEq,reduceIte,decide_eq_true (show ((n:Nat):Int)=n from rfl)]
      refine fin2_stop trivial (runs2_call (hpp) rfl rfl rfl rfl (by simp only [dstOk,Nat.reduceLT]) (by repeat (first|exact trivial|constructor)) (runs2_eval tab_ok ?_))
      simp only [evD,ev0,evA,evB,evP,fl,gp,tab,simprocAttr,reduceCtorEq,reduceIte,decide_eq_true (show ((n:Nat):Int)=n from rfl)]
      refine fin2_run ?_ (hK _ _ (by first|kernel_rfl|rfl) ?_)<;>clear hK<;>clear K
      ·(first|exact trivial|omega|(simp only [In64] at *; omega)|(simp [In64] at *; omega)|(simp_all; done)|skip)
      refine qa ?_
      refine hk_cond rfl (fun hC5=>?_) (fun hC5=>?_)
      ·(try simp only [nhs] at hC5)
       refine qm ?_
       refine hk_region fun K hK=>runs_eval tab_ok ?_
       simp only [ev0,evA,evB,evP,fl,gp,tab,simprocAttr,reduceCtorEq,reduceIte]
       refine fin_run trivial (hK _ ?_)<;>clear hK<;>clear K
       refine qa (qk (qb ?_))
       simp only [Tryd.results4,enA,ev0,evA,evB,evP,fl,gp,tab,simprocAttr,reduceCtorEq,reduceIte]
       all_goals (first|rfl|trivial|trace_state)
      ·cases hC5
 ·obtain rfl:=h.1
  obtain rfl:=h'.1
  have hb:=h.2.1.big
  have hb':=h'.2.1.big
  have cI:=iso_no h h' (by omega) (by omega) hne
  rw [tg_ok h h'] at hT
  have hz:decide ((0:Int)=0)=true:=rfl
  have hP:=profile_r h
  have hP':=profile_r h'
  have hpl:=rgz_len 3844 (cntg (pix2 n m e) n)
  have hpp:=ints_c (rgz 3844 (cntg (pix2 n m e) n)) (rgz 3844 (cntg (pix2 n' m' e') n')) (by omega)
  generalize rgz 3844 (cntg (pix2 n m e) n)=P1 at *
  generalize rgz 3844 (cntg (pix2 n' m' e') n')=P2 at *
  subst hn
  rw [decide_eq_true hp] at hpp
  have hsg:¬ (((n:Nat):Int)=n∧m=m'):=fun hh=>hne ⟨fun x=>x,⟨⟨fun a ha=>ha,fun a b ha hb=>by rw [← hh.2]⟩,fun i hi=>List.mem_map.2 ⟨i,List.mem_range.2 hi,rfl⟩,tbm_len _ _⟩⟩
  rw [decide_eq_false hsg] at hSG
  refine hk_draw2 mixed fun K hK=>runs2_eval tab_ok ?_
  simp only [evD,ev0,evA,evB,evP,fl,gp,tab,simprocAttr,reduceCtorEq,reduceIte]
  refine fin2_stop trivial (runs2_call (ownGroup_c _ m hm) rfl rfl rfl rfl (by simp only [dstOk,Nat.reduceLT]) (by repeat (first|exact trivial|constructor)) (runs2_eval tab_ok ?_))
  simp only [evD,ev0,evA,evB,evP,fl,gp,tab,simprocAttr,reduceCtorEq,reduceIte]
  refine fin2_stop trivial (runs2_call (ownGroup_c _ m' hm') rfl rfl rfl rfl (by simp only [dstOk,Nat.reduceLT]) (by repeat (first|exact trivial|constructor)) (runs2_eval tab_ok ?_))
  simp only [evD,ev0,evA,evB,evP,fl,gp,tab,simprocAttr,reduceCtorEq,reduceIte]
  refine fin2_stop trivial (runs2_call (cI) rfl rfl rfl rfl (by simp only [dstOk,Nat.reduceLT]) (by repeat (first|exact trivial|constructor)) (runs2_eval tab_ok ?_))
  simp only [evD,ev0,evA,evB,evP,fl,gp,tab,simprocAttr,reduceCtorEq,reduceIte]
  refine fin2_run ?_ (hK _ _ (by first|kernel_rfl|rfl) ?_)<;>clear hK<;>clear K
  ·(first|exact trivial|omega|(simp only [In64] at *; omega)|(simp [In64] at *; omega)|(simp_all; done)|skip)
  refine qa (qm ?_)
  refine hk_region fun K hK=>runs_eval tab_ok ?_
  simp only [ev0,evA,evB,evP,fl,gp,tab,simprocAttr,reduceCtorEq,reduceIte]
  refine fin_stop trivial (runs_call (hT) rfl rfl rfl (by simp only [dstOk,Nat.reduceLT]) (by repeat (first|exact trivial|constructor)) (runs_eval tab_ok ?_))
  simp only [ev0,evA,evB,evP,fl,gp,tab,simprocAttr,reduceCtorEq,reduceIte]
  refine fin_run ?_ (hK _ ?_)<;>clear hK<;>clear K
  ·(first|exact trivial|omega|(simp only [In64] at *; omega)|(simp [In64] at *; omega)|(simp_all; done)|skip)
  refine qa (qm (qm ?_))
  refine hk_region fun K hK=>runs_eval tab_ok ?_
  simp only [ev0,evA,evB,evP,fl,gp,tab,simprocAttr,reduceCtorEq,reduceIte]
  refine fin_stop trivial (runs_call (homBegun_c) rfl rfl rfl (by simp only [dstOk,Nat.reduceLT]) (by repeat (first|exact trivial|constructor)) (runs_eval tab_ok ?_))
  simp only [ev0,evA,evB,evP,fl,gp,tab,simprocAttr,reduceCtorEq,reduceIte]
  refine fin_run trivial (hK _ ?_)<;>clear hK<;>clear K
  refine qa ?_
  refine hk_cond rfl (fun hC1=>?_) (fun hC1=>?_)
  ·cases hC1
  ·(try simp only [nhs] at hC1)
   refine qh (qa (qm (qm ?_)))
   refine hk_region fun K hK=>runs_eval tab_ok ?_
   simp only [ev0,evA,evB,evP,fl,gp,tab,simprocAttr,reduceCtorEq,reduceIte,hz]
   refine fin_run ?_ (hK _ ?_)<;>clear hK<;>clear K
   ·(first|exact trivial|omega|(simp only [In64] at *; omega)|(simp [In64] at *; omega)|(simp_all; done)|skip)
   refine qa ?_
   refine hk_cond rfl (fun hC2=>?_) (fun hC2=>?_)
   ·cases hC2
   ·(try simp only [nhs] at hC2)
    refine qh (qa (qm (qm ?_)))
    refine hk_region fun K hK=>runs_eval tab_ok ?_
    simp only [ev0,evA,evB,evP,fl,gp,tab,simprocAttr,reduceCtorEq,reduceIte]
    refine fin_run ?_ (hK _ ?_)<;>clear hK<;>clear K
    ·(first|exact trivial|omega|(simp only [In64] at *; omega)|(simp [In64] at *; omega)|(simp_all; done)|skip)
    refine qa ?_
    refine hk_cond rfl (fun hC3=>?_) (fun hC3=>?_)
    ·cases hC3
    ·(try simp only [nhs] at hC3)
     refine qh (qa (qm (qm ?_)))
     refine hk_draw mixed (by kernel_rfl) fun K hK=>runs_eval tab_ok ?_
     simp only [ev0,evA,evB,evP,fl,gp,tab,simprocAttr,reduceCtorEq,reduceIte,bne_self_eq_false]
     refine fin_stop trivial (runs_call (f_c 6 0) rfl rfl rfl (by simp only [dstOk,Nat.reduceLT]) (by repeat (first|exact trivial|constructor)) (runs_eval tab_ok ?_))
     simp only [ev0,evA,evB,evP,fl,gp,tab,simprocAttr,reduceCtorEq,reduceIte,bne_self_eq_false]
     refine fin_run ?_ (hK _ ?_)<;>clear hK<;>clear K
     ·(first|exact trivial|omega|(simp only [In64] at *; omega)|(simp [In64] at *; omega)|(simp_all; done)|skip)
     refine qa ?_
     refine hk_cond rfl (fun hC4=>?_) (fun hC4=>?_)
     ·cases hC4
     ·(try simp only [nhs] at hC4)
      refine qh (qa (qm (qm ?_)))
      refine hk_draw2 mixed fun K hK=>runs2_eval tab_ok ?_
      simp only [evD,ev0,evA,evB,evP,fl,gp,tab,simprocAttr,reduceCtorEq,reduceIte,decide_eq_true (show ((n:Nat):Int)=n from rfl)]
      refine fin2_stop trivial (runs2_call (hP) rfl rfl rfl rfl (by simp only [dstOk,Nat.reduceLT]) (by repeat (first|exact trivial|constructor)) (runs2_eval tab_ok ?_))
      simp only [evD,ev0,evA,evB,evP,fl,gp,tab,simprocAttr,reduceCtorEq,reduceIte,decide_eq_true (show ((n:Nat):Int)=n from rfl)]
      refine fin2_stop trivial (runs2_call (hP') rfl rfl rfl rfl (by simp only [dstOk,Nat.reduceLT]) (by repeat (first|exact trivial|constructor)) (runs2_eval tab_ok ?_))
      simp only [evD,ev0,evA,evB,evP,fl,gp,tab,simprocAttr,reduceCtorEq,reduceIte,decide_eq_true (show ((n:Nat):Int)=n from rfl)]
      refine fin2_stop trivial (runs2_call (hpp) rfl rfl rfl rfl (by simp only [dstOk,Nat.reduceLT]) (by repeat (first|exact trivial|constructor)) (runs2_eval tab_ok ?_))
      simp only [evD,ev0,evA,evB,evP,fl,gp,tab,simprocAttr,reduceCtorEq,reduceIte,decide_eq_true (show ((n:Nat):Int)=n from rfl)]
      refine fin2_run ?_ (hK _ _ (by first|kernel_rfl|rfl) ?_)<;>clear hK<;>clear K
      ·(first|exact trivial|omega|(simp only [In64] at *; omega)|(simp [In64] at *; omega)|(simp_all; done)|skip)
      refine qa ?_
      refine hk_cond rfl (fun hC5=>?_) (fun hC5=>?_)
      ·cases hC5
      ·(try simp only [nhs] at hC5)
       refine qh (qa (qm (qm ?_)))
       refine hk_region fun K hK=>runs_eval tab_ok ?_
       simp only [ev0,evA,evB,evP,fl,gp,tab,simprocAttr,reduceCtorEq,reduceIte]
       refine fin_run ?_ (hK _ ?_)<;>clear hK<;>clear K
       ·(first|exact trivial|omega|(simp only [In64] at *; omega)|(simp [In64] at *; omega)|(simp_all; done)|skip)
       refine qa ?_
       refine hk_cond rfl (fun hC6=>?_) (fun hC6=>?_)
       ·(try simp only [nhs] at hC6)
        refine qm ?_
        refine hk_region fun K hK=>runs_eval tab_ok ?_
        simp only [ev0,evA,evB,evP,fl,gp,tab,simprocAttr,reduceCtorEq,reduceIte,decide_eq_false (show ¬ ((n:Nat):Int)=0 by omega)]
        refine fin_stop trivial (runs_call (hSG) rfl rfl rfl (by simp only [dstOk,Nat.reduceLT]) (by repeat (first|exact trivial|constructor)) (runs_eval tab_ok ?_))
        simp only [ev0,evA,evB,evP,fl,gp,tab,simprocAttr,reduceCtorEq,reduceIte,decide_eq_false (show ¬ ((n:Nat):Int)=0 by omega)]
        refine fin_run ?_ (hK _ ?_)<;>clear hK<;>clear K
        ·(first|exact trivial|omega|(simp only [In64] at *; omega)|(simp [In64] at *; omega)|(simp_all; done)|skip)
        refine qa (qk (qb ?_))
        simp only [Tryd.results4,enA,ev0,evA,evB,evP,fl,gp,tab,simprocAttr,reduceCtorEq,reduceIte]
        all_goals (first|rfl|trivial|trace_state)
       ·(try simp only [nhs] at hC6)
        omega
 ·obtain rfl:=h.1
  obtain rfl:=h'.1
  have hb:=h.2.1.big
  have hb':=h'.2.1.big
  have cI:=iso_no h h' (by omega) (by omega) hne
  rw [tg_ok h h'] at hT
  have hz:decide ((0:Int)=0)=true:=rfl
  have hP:=profile_r h
  have hP':=profile_r h'
  have hpl:=rgz_len 3844 (cntg (pix2 n m e) n)
  have hpp:=ints_c (rgz 3844 (cntg (pix2 n m e) n)) (rgz 3844 (cntg (pix2 n' m' e') n')) (by omega)
  generalize rgz 3844 (cntg (pix2 n m e) n)=P1 at *
  generalize rgz 3844 (cntg (pix2 n' m' e') n')=P2 at *
  subst hn
  rw [decide_eq_true hp] at hpp
  have hsg:¬ (((n:Nat):Int)=n∧m=m'):=fun hh=>hne ⟨fun x=>x,⟨⟨fun a ha=>ha,fun a b ha hb=>by rw [← hh.2]⟩,fun i hi=>List.mem_map.2 ⟨i,List.mem_range.2 hi,rfl⟩,tbm_len _ _⟩⟩
  rw [decide_eq_false hsg] at hSG
  have hH:=homs_c 3000 (by decide) h h'
  rw [if_pos hl,decide_eq_true hl] at hH
  refine hk_draw2 mixed fun K hK=>runs2_eval tab_ok ?_
  simp only [evD,ev0,evA,evB,evP,fl,gp,tab,simprocAttr,reduceCtorEq,reduceIte]
  refine fin2_stop trivial (runs2_call (ownGroup_c _ m hm) rfl rfl rfl rfl (by simp only [dstOk,Nat.reduceLT]) (by repeat (first|exact trivial|constructor)) (runs2_eval tab_ok ?_))
  simp only [evD,ev0,evA,evB,evP,fl,gp,tab,simprocAttr,reduceCtorEq,reduceIte]
  refine fin2_stop trivial (runs2_call (ownGroup_c _ m' hm') rfl rfl rfl rfl (by simp only [dstOk,Nat.reduceLT]) (by repeat (first|exact trivial|constructor)) (runs2_eval tab_ok ?_))
  simp only [evD,ev0,evA,evB,evP,fl,gp,tab,simprocAttr,reduceCtorEq,reduceIte]
  refine fin2_stop trivial (runs2_call (cI) rfl rfl rfl rfl (by simp only [dstOk,Nat.reduceLT]) (by repeat (first|exact trivial|constructor)) (runs2_eval tab_ok ?_))
  simp only [evD,ev0,evA,evB,evP,fl,gp,tab,simprocAttr,reduceCtorEq,reduceIte]
  refine fin2_run ?_ (hK _ _ (by first|kernel_rfl|rfl) ?_)<;>clear hK<;>clear K
  ·(first|exact trivial|omega|(simp only [In64] at *; omega)|(simp [In64] at *; omega)|(simp_all; done)|skip)
  refine qa (qm ?_)
  refine hk_region fun K hK=>runs_eval tab_ok ?_
  simp only [ev0,evA,evB,evP,fl,gp,tab,simprocAttr,reduceCtorEq,reduceIte]
  refine fin_stop trivial (runs_call (hT) rfl rfl rfl (by simp only [dstOk,Nat.reduceLT]) (by repeat (first|exact trivial|constructor)) (runs_eval tab_ok ?_))
  simp only [ev0,evA,evB,evP,fl,gp,tab,simprocAttr,reduceCtorEq,reduceIte]
  refine fin_run ?_ (hK _ ?_)<;>clear hK<;>clear K
  ·(first|exact trivial|omega|(simp only [In64] at *; omega)|(simp [In64] at *; omega)|(simp_all; done)|skip)
  refine qa (qm (qm ?_))
  refine hk_region fun K hK=>runs_eval tab_ok ?_
  simp only [ev0,evA,evB,evP,fl,gp,tab,simprocAttr,reduceCtorEq,reduceIte]
  refine fin_stop trivial (runs_call (homBegun_c) rfl rfl rfl (by simp only [dstOk,Nat.reduceLT]) (by repeat (first|exact trivial|constructor)) (runs_eval tab_ok ?_))
  simp only [ev0,evA,evB,evP,fl,gp,tab,simprocAttr,reduceCtorEq,reduceIte]
  refine fin_run trivial (hK _ ?_)<;>clear hK<;>clear K
  refine qa ?_
  refine hk_cond rfl (fun hC1=>?_) (fun hC1=>?_)
  ·cases hC1
  ·(try simp only [nhs] at hC1)
   refine qh (qa (qm (qm ?_)))
   refine hk_region fun K hK=>runs_eval tab_ok ?_
   simp only [ev0,evA,evB,evP,fl,gp,tab,simprocAttr,reduceCtorEq,reduceIte,hz]
   refine fin_run ?_ (hK _ ?_)<;>clear hK<;>clear K
   ·(first|exact trivial|omega|(simp only [In64] at *; omega)|(simp [In64] at *; omega)|(simp_all; done)|skip)
   refine qa ?_
   refine hk_cond rfl (fun hC2=>?_) (fun hC2=>?_)
   ·cases hC2
   ·(try simp only [nhs] at hC2)
    refine qh (qa (qm (qm ?_)))
    refine hk_region fun K hK=>runs_eval tab_ok ?_
    simp only [ev0,evA,evB,evP,fl,gp,tab,simprocAttr,reduceCtorEq,reduceIte]
    refine fin_run ?_ (hK _ ?_)<;>clear hK<;>clear K
    ·(first|exact trivial|omega|(simp only [In64] at *; omega)|(simp [In64] at *; omega)|(simp_all; done)|skip)
    refine qa ?_
    refine hk_cond rfl (fun hC3=>?_) (fun hC3=>?_)
    ·cases hC3
    ·(try simp only [nhs] at hC3)
     refine qh (qa (qm (qm ?_)))
     refine hk_draw mixed (by kernel_rfl) fun K hK=>runs_eval tab_ok ?_
     simp only [ev0,evA,evB,evP,fl,gp,tab,simprocAttr,reduceCtorEq,reduceIte,bne_self_eq_false]
     refine fin_stop trivial (runs_call (f_c 6 0) rfl rfl rfl (by simp only [dstOk,Nat.reduceLT]) (by repeat (first|exact trivial|constructor)) (runs_eval tab_ok ?_))
     simp only [ev0,evA,evB,evP,fl,gp,tab,simprocAttr,reduceCtorEq,reduceIte,bne_self_eq_false]
     refine fin_run ?_ (hK _ ?_)<;>clear hK<;>clear K
     ·(first|exact trivial|omega|(simp only [In64] at *; omega)|(simp [In64] at *; omega)|(simp_all; done)|skip)
     refine qa ?_
     refine hk_cond rfl (fun hC4=>?_) (fun hC4=>?_)
     ·cases hC4
     ·(try simp only [nhs] at hC4)
      refine qh (qa (qm (qm ?_)))
      refine hk_draw2 mixed fun K hK=>runs2_eval tab_ok ?_
      simp only [evD,ev0,evA,evB,evP,fl,gp,tab,simprocAttr,reduceCtorEq,reduceIte,decide_eq_true (show ((n:Nat):Int)=n from rfl)]
      refine fin2_stop trivial (runs2_call (hP) rfl rfl rfl rfl (by simp only [dstOk,Nat.reduceLT]) (by repeat (first|exact trivial|constructor)) (runs2_eval tab_ok ?_))
      simp only [evD,ev0,evA,evB,evP,fl,gp,tab,simprocAttr,reduceCtorEq,reduceIte,decide_eq_true (show ((n:Nat):Int)=n from rfl)]
      refine fin2_stop trivial (runs2_call (hP') rfl rfl rfl rfl (by simp only [dstOk,Nat.reduceLT]) (by repeat (first|exact trivial|constructor)) (runs2_eval tab_ok ?_))
      simp only [evD,ev0,evA,evB,evP,fl,gp,tab,simprocAttr,reduceCtorEq,reduceIte,decide_eq_true (show ((n:Nat):Int)=n from rfl)]
      refine fin2_stop trivial (runs2_call (hpp) rfl rfl rfl rfl (by simp only [dstOk,Nat.reduceLT]) (by repeat (first|exact trivial|constructor)) (runs2_eval tab_ok ?_))
      simp only [evD,ev0,evA,evB,evP,fl,gp,tab,simprocAttr,reduceCtorEq,reduceIte,decide_eq_true (show ((n:Nat):Int)=n from rfl)]
      refine fin2_run ?_ (hK _ _ (by first|kernel_rfl|rfl) ?_)<;>clear hK<;>clear K
      ·(first|exact trivial|omega|(simp only [In64] at *; omega)|(simp [In64] at *; omega)|(simp_all; done)|skip)
      refine qa ?_
      refine hk_cond rfl (fun hC5=>?_) (fun hC5=>?_)
      ·cases hC5
      ·(try simp only [nhs] at hC5)
       refine qh (qa (qm (qm ?_)))
       refine hk_region fun K hK=>runs_eval tab_ok ?_
       simp only [ev0,evA,evB,evP,fl,gp,tab,simprocAttr,reduceCtorEq,reduceIte]
       refine fin_run ?_ (hK _ ?_)<;>clear hK<;>clear K
       ·(first|exact trivial|omega|(simp only [In64] at *; omega)|(simp [In64] at *; omega)|(simp_all; done)|skip)
       refine qa ?_
       refine hk_cond rfl (fun hC6=>?_) (fun hC6=>?_)
       ·(try simp only [nhs] at hC6)
        omega
       ·(try simp only [nhs] at hC6)
        refine qh (qa (qm ?_))
        refine hk_region fun K hK=>runs_eval tab_ok ?_
        simp only [ev0,evA,evB,evP,fl,gp,tab,simprocAttr,reduceCtorEq,reduceIte]
        refine fin_stop trivial (runs_call (hH) rfl rfl rfl (by simp only [dstOk,Nat.reduceLT]) (by repeat (first|exact trivial|constructor)) (runs_eval tab_ok ?_))
        simp only [ev0,evA,evB,evP,fl,gp,tab,simprocAttr,reduceCtorEq,reduceIte]
        refine fin_run ?_ (hK _ ?_)<;>clear hK<;>clear K
        ·(first|exact trivial|omega|(simp only [In64] at *; omega)|(simp [In64] at *; omega)|(simp_all; done)|skip)
        refine qa (qm (qm ?_))
        have hrow:∀ v∈srtL (hmW n m e n m' e'),v.length=n∧¬ onto1 v n:=fun v hv=>by
         obtain ⟨φ,hφ,rfl⟩:=(hmW_mem h h' v).1 ((srtL_perm _).mem_iff.2 hv)
         exact ⟨tbm_len _ _,fun ho=>hne ⟨φ,hφ,ho⟩⟩
        have hLl:=(srtL_perm (hmW n m e n m' e')).length_eq
        generalize hLL:srtL (hmW n m e n m' e')=LL at *
        refine hk_region fun K hK=>runs_eval tab_ok ?_
        simp only [ev0,evA,evB,evP,fl,gp,tab,simprocAttr,reduceCtorEq,reduceIte]
        refine fin_run trivial (hK _ ?_)<;>clear hK<;>clear K
        refine qa (ql ?_)
        refine hk_loop (ι:=Nat) (fun i=>⟨116,[(2,.ptr 0 0),(3,.ptr 1 0),(8,.p (.list (ll LL))),(9,.p (.bool true)),(10,.p (.int .i64 i))],[.own [.p (.int .i64 n),.p (.list (il m))],.own [.p (.int .i64 n),.p (.list (il m'))]]⟩) (fun i=>i≤LL.length) (fun i=>LL.length - i) 0 (Nat.zero_le _) [0,1] (by simp only [leq,leA,ev0,evA,evB,evP,fl,gp,tab,simprocAttr,reduceCtorEq,reduceIte]<;>first|trivial|trace_state) fun i hi=>?_
        refine qm (qm ?_)
        refine hk_region fun K hK=>runs_eval tab_ok ?_
        simp only [ev0,evA,evB,evP,fl,gp,tab,simprocAttr,reduceCtorEq,reduceIte,ll_length]
        refine fin_run trivial (hK _ ?_)<;>clear hK<;>clear K
        refine qa ?_
        refine hk_cond rfl (fun hC7=>?_) (fun hC7=>?_)
        ·(try simp only [nhs] at hC7)
         have hil' : i < LL.length:=by omega
         obtain ⟨hwl,hwo⟩:=hrow (LL.getD i []) (by simp [List.getD,List.getElem?_eq_getElem hil'])
         have hgi:=ll_get (ls:=LL) (i:=i) hil'
         have hO:=oneToOne_r (LL.getD i []) n (by omega) (by omega)
         rw [decide_eq_false hwo] at hO
         refine qh (qa (qm (ql (qm ?_))))
         refine hk_draw mixed (by kernel_rfl) fun K hK=>runs_eval tab_ok ?_
         simp only [ev0,evA,evB,evP,fl,gp,tab,simprocAttr,reduceCtorEq,reduceIte,ll_length,hgi]
         refine fin_stop ?_ (runs_call (hO) rfl rfl rfl (by simp only [dstOk,Nat.reduceLT]) (by repeat (first|exact trivial|constructor)) (runs_eval tab_ok ?_))
         ·exact ⟨by omega,by omega⟩
         simp only [ev0,evA,evB,evP,fl,gp,tab,simprocAttr,reduceCtorEq,reduceIte,ll_length,hgi]
         refine fin_run ?_ (hK _ ?_)<;>clear hK<;>clear K
         ·(first|exact trivial|omega|(simp only [In64] at *; omega)|(simp [In64] at *; omega)|(simp_all; done)|skip)
         refine qa ?_
         refine hk_cond rfl (fun hC8=>?_) (fun hC8=>?_)
         ·cases hC8
         ·(try simp only [nhs] at hC8)
          refine qh (qd (qa ?_))
          refine hk_region fun K hK=>runs_eval tab_ok ?_
          simp only [ev0,evA,evB,evP,fl,gp,tab,simprocAttr,reduceCtorEq,reduceIte]
          refine fin_run ?_ (hK _ ?_)<;>clear hK<;>clear K
          ·(first|exact trivial|omega|(simp only [In64] at *; omega)|(simp [In64] at *; omega)|(simp_all; done)|skip)
          refine qa ?_
          refine ⟨i + 1,[0,1],by omega,by omega,?_⟩
          simp only [leq,leA,ev0,evA,evB,evP,fl,gp,tab,simprocAttr,reduceCtorEq,reduceIte]<;>first|trivial|omega
        ·(try simp only [nhs] at hC7)
         refine qj (qc (qc (qf (qa (qm ?_)))))
         refine hk_region fun K hK=>runs_eval tab_ok ?_
         simp only [ev0,evA,evB,evP,fl,gp,tab,simprocAttr,reduceCtorEq,reduceIte]
         refine fin_run trivial (hK _ ?_)<;>clear hK<;>clear K
         refine qa (qk ?_)
         simp only [Tryd.results4,enA,ev0,evA,evB,evP,fl,gp,tab,simprocAttr,reduceCtorEq,reduceIte]
         all_goals (first|rfl|trivial|trace_state)
 ·obtain rfl:=h.1
  obtain rfl:=h'.1
  have hb:=h.2.1.big
  have hb':=h'.2.1.big
  have cI:=iso_no h h' (by omega) (by omega) hne
  rw [tg_ok h h'] at hT
  have hz:decide ((0:Int)=0)=true:=rfl
  have hP:=profile_r h
  have hP':=profile_r h'
  have hpl:=rgz_len 3844 (cntg (pix2 n m e) n)
  have hpp:=ints_c (rgz 3844 (cntg (pix2 n m e) n)) (rgz 3844 (cntg (pix2 n' m' e') n')) (by omega)
  generalize rgz 3844 (cntg (pix2 n m e) n)=P1 at *
  generalize rgz 3844 (cntg (pix2 n' m' e') n')=P2 at *
  subst hn
  rw [decide_eq_true hp] at hpp
  have hsg:¬ (((n:Nat):Int)=n∧m=m'):=fun hh=>hne ⟨fun x=>x,⟨⟨fun a ha=>ha,fun a b ha hb=>by rw [← hh.2]⟩,fun i hi=>List.mem_map.2 ⟨i,List.mem_range.2 hi,rfl⟩,tbm_len _ _⟩⟩
  rw [decide_eq_false hsg] at hSG
  have hH:=homs_c 3000 (by decide) h h'
  rw [if_neg hl,decide_eq_false hl] at hH
  refine hk_draw2 mixed fun K hK=>runs2_eval tab_ok ?_
  simp only [evD,ev0,evA,evB,evP,fl,gp,tab,simprocAttr,reduceCtorEq,reduceIte]
  refine fin2_stop trivial (runs2_call (ownGroup_c _ m hm) rfl rfl rfl rfl (by simp only [dstOk,Nat.reduceLT]) (by repeat (first|exact trivial|constructor)) (runs2_eval tab_ok ?_))
  simp only [evD,ev0,evA,evB,evP,fl,gp,tab,simprocAttr,reduceCtorEq,reduceIte]
  refine fin2_stop trivial (runs2_call (ownGroup_c _ m' hm') rfl rfl rfl rfl (by simp only [dstOk,Nat.reduceLT]) (by repeat (first|exact trivial|constructor)) (runs2_eval tab_ok ?_))
  simp only [evD,ev0,evA,evB,evP,fl,gp,tab,simprocAttr,reduceCtorEq,reduceIte]
  refine fin2_stop trivial (runs2_call (cI) rfl rfl rfl rfl (by simp only [dstOk,Nat.reduceLT]) (by repeat (first|exact trivial|constructor)) (runs2_eval tab_ok ?_))
  simp only [evD,ev0,evA,evB,evP,fl,gp,tab,simprocAttr,reduceCtorEq,reduceIte]
  refine fin2_run ?_ (hK _ _ (by first|kernel_rfl|rfl) ?_)<;>clear hK<;>clear K
  ·(first|exact trivial|omega|(simp only [In64] at *; omega)|(simp [In64] at *; omega)|(simp_all; done)|skip)
  refine qa (qm ?_)
  refine hk_region fun K hK=>runs_eval tab_ok ?_
  simp only [ev0,evA,evB,evP,fl,gp,tab,simprocAttr,reduceCtorEq,reduceIte]
  refine fin_stop trivial (runs_call (hT) rfl rfl rfl (by simp only [dstOk,Nat.reduceLT]) (by repeat (first|exact trivial|constructor)) (runs_eval tab_ok ?_))
  simp only [ev0,evA,evB,evP,fl,gp,tab,simprocAttr,reduceCtorEq,reduceIte]
  refine fin_run ?_ (hK _ ?_)<;>clear hK<;>clear K
  ·(first|exact trivial|omega|(simp only [In64] at *; omega)|(simp [In64] at *; omega)|(simp_all; done)|skip)
  refine qa (qm (qm ?_))
  refine hk_region fun K hK=>runs_eval tab_ok ?_
  simp only [ev0,evA,evB,evP,fl,gp,tab,simprocAttr,reduceCtorEq,reduceIte]
  refine fin_stop trivial (runs_call (homBegun_c) rfl rfl rfl (by simp only [dstOk,Nat.reduceLT]) (by repeat (first|exact trivial|constructor)) (runs_eval tab_ok ?_))
  simp only [ev0,evA,evB,evP,fl,gp,tab,simprocAttr,reduceCtorEq,reduceIte]
  refine fin_run trivial (hK _ ?_)<;>clear hK<;>clear K
  refine qa ?_
  refine hk_cond rfl (fun hC1=>?_) (fun hC1=>?_)
  ·cases hC1
  ·(try simp only [nhs] at hC1)
   refine qh (qa (qm (qm ?_)))
   refine hk_region fun K hK=>runs_eval tab_ok ?_
   simp only [ev0,evA,evB,evP,fl,gp,tab,simprocAttr,reduceCtorEq,reduceIte,hz]
   refine fin_run ?_ (hK _ ?_)<;>clear hK<;>clear K
   ·(first|exact trivial|omega|(simp only [In64] at *; omega)|(simp [In64] at *; omega)|(simp_all; done)|skip)
   refine qa ?_
   refine hk_cond rfl (fun hC2=>?_) (fun hC2=>?_)
   ·cases hC2
   ·(try simp only [nhs] at hC2)
    refine qh (qa (qm (qm ?_)))
    refine hk_region fun K hK=>runs_eval tab_ok ?_
    simp only [ev0,evA,evB,evP,fl,gp,tab,simprocAttr,reduceCtorEq,reduceIte]
    refine fin_run ?_ (hK _ ?_)<;>clear hK<;>clear K
    ·(first|exact trivial|omega|(simp only [In64] at *; omega)|(simp [In64] at *; omega)|(simp_all; done)|skip)
    refine qa ?_
    refine hk_cond rfl (fun hC3=>?_) (fun hC3=>?_)
    ·cases hC3
    ·(try simp only [nhs] at hC3)
     refine qh (qa (qm (qm ?_)))
     refine hk_draw mixed (by kernel_rfl) fun K hK=>runs_eval tab_ok ?_
     simp only [ev0,evA,evB,evP,fl,gp,tab,simprocAttr,reduceCtorEq,reduceIte,bne_self_eq_false]
     refine fin_stop trivial (runs_call (f_c 6 0) rfl rfl rfl (by simp only [dstOk,Nat.reduceLT]) (by repeat (first|exact trivial|constructor)) (runs_eval tab_ok ?_))
     simp only [ev0,evA,evB,evP,fl,gp,tab,simprocAttr,reduceCtorEq,reduceIte,bne_self_eq_false]
     refine fin_run ?_ (hK _ ?_)<;>clear hK<;>clear K
     ·(first|exact trivial|omega|(simp only [In64] at *; omega)|(simp [In64] at *; omega)|(simp_all; done)|skip)
     refine qa ?_
     refine hk_cond rfl (fun hC4=>?_) (fun hC4=>?_)
     ·cases hC4
     ·(try simp only [nhs] at hC4)
      refine qh (qa (qm (qm ?_)))
      refine hk_draw2 mixed fun K hK=>runs2_eval tab_ok ?_
      simp only [evD,ev0,evA,evB,evP,fl,gp,tab,simprocAttr,reduceCtorEq,reduceIte,decide_eq_true (show ((n:Nat):Int)=n from rfl)]
      refine fin2_stop trivial (runs2_call (hP) rfl rfl rfl rfl (by simp only [dstOk,Nat.reduceLT]) (by repeat (first|exact trivial|constructor)) (runs2_eval tab_ok ?_))
      simp only [evD,ev0,evA,evB,evP,fl,gp,tab,simprocAttr,reduceCtorEq,reduceIte,decide_eq_true (show ((n:Nat):Int)=n from rfl)]
      refine fin2_stop trivial (runs2_call (hP') rfl rfl rfl rfl (by simp only [dstOk,Nat.reduceLT]) (by repeat (first|exact trivial|constructor)) (runs2_eval tab_ok ?_))
      simp only [evD,ev0,evA,evB,evP,fl,gp,tab,simprocAttr,reduceCtorEq,reduceIte,decide_eq_true (show ((n:Nat):Int)=n from rfl)]
      refine fin2_stop trivial (runs2_call (hpp) rfl rfl rfl rfl (by simp only [dstOk,Nat.reduceLT]) (by repeat (first|exact trivial|constructor)) (runs2_eval tab_ok ?_))
      simp only [evD,ev0,evA,evB,evP,fl,gp,tab,simprocAttr,reduceCtorEq,reduceIte,decide_eq_true (show ((n:Nat):Int)=n from rfl)]
      refine fin2_run ?_ (hK _ _ (by first|kernel_rfl|rfl) ?_)<;>clear hK<;>clear K
      ·(first|exact trivial|omega|(simp only [In64] at *; omega)|(simp [In64] at *; omega)|(simp_all; done)|skip)
      refine qa ?_
      refine hk_cond rfl (fun hC5=>?_) (fun hC5=>?_)
      ·cases hC5
      ·(try simp only [nhs] at hC5)
       refine qh (qa (qm (qm ?_)))
       refine hk_region fun K hK=>runs_eval tab_ok ?_
       simp only [ev0,evA,evB,evP,fl,gp,tab,simprocAttr,reduceCtorEq,reduceIte]
       refine fin_run ?_ (hK _ ?_)<;>clear hK<;>clear K
       ·(first|exact trivial|omega|(simp only [In64] at *; omega)|(simp [In64] at *; omega)|(simp_all; done)|skip)
       refine qa ?_
       refine hk_cond rfl (fun hC6=>?_) (fun hC6=>?_)
       ·(try simp only [nhs] at hC6)
        omega
       ·(try simp only [nhs] at hC6)
        refine qh (qa (qm ?_))
        refine hk_region fun K hK=>runs_eval tab_ok ?_
        simp only [ev0,evA,evB,evP,fl,gp,tab,simprocAttr,reduceCtorEq,reduceIte]
        refine fin_stop trivial (runs_call (hH) rfl rfl rfl (by simp only [dstOk,Nat.reduceLT]) (by repeat (first|exact trivial|constructor)) (runs_eval tab_ok ?_))
        simp only [ev0,evA,evB,evP,fl,gp,tab,simprocAttr,reduceCtorEq,reduceIte]
        refine fin_run ?_ (hK _ ?_)<;>clear hK<;>clear K
        ·(first|exact trivial|omega|(simp only [In64] at *; omega)|(simp [In64] at *; omega)|(simp_all; done)|skip)
        refine qa (qm (qm ?_))
        refine hk_region fun K hK=>runs_eval tab_ok ?_
        simp only [ev0,evA,evB,evP,fl,gp,tab,simprocAttr,reduceCtorEq,reduceIte]
        refine fin_run trivial (hK _ ?_)<;>clear hK<;>clear K
        refine qa (ql ?_)
        refine hk_loop (ι:=Nat) (fun i=>⟨116,[(2,.ptr 0 0),(3,.ptr 1 0),(8,.p (.list (ll []))),(9,.p (.bool false)),(10,.p (.int .i64 i))],[.own [.p (.int .i64 n),.p (.list (il m))],.own [.p (.int .i64 n),.p (.list (il m'))]]⟩) (fun i=>i≤0) (fun i=>0 - i) 0 (Nat.zero_le _) [0,1] (by simp only [leq,leA,ev0,evA,evB,evP,fl,gp,tab,simprocAttr,reduceCtorEq,reduceIte]<;>first|trivial|trace_state) fun i hi=>?_
        refine qm (qm ?_)
        refine hk_region fun K hK=>runs_eval tab_ok ?_
        simp only [ev0,evA,evB,evP,fl,gp,tab,simprocAttr,reduceCtorEq,reduceIte,ll_length]
        refine fin_run trivial (hK _ ?_)<;>clear hK<;>clear K
        refine qa ?_
        refine hk_cond rfl (fun hC7=>?_) (fun hC7=>?_)
        ·(try simp only [nhs] at hC7)
         exfalso; omega
        ·(try simp only [nhs] at hC7)
         refine qj (qc (qc (qf (qa (qm ?_)))))
         refine hk_region fun K hK=>runs_eval tab_ok ?_
         simp only [ev0,evA,evB,evP,fl,gp,tab,simprocAttr,reduceCtorEq,reduceIte]
         refine fin_stop trivial (runs_call (hSG) rfl rfl rfl (by simp only [dstOk,Nat.reduceLT]) (by repeat (first|exact trivial|constructor)) (runs_eval tab_ok ?_))
         simp only [ev0,evA,evB,evP,fl,gp,tab,simprocAttr,reduceCtorEq,reduceIte]
         refine fin_run ?_ (hK _ ?_)<;>clear hK<;>clear K
         ·(first|exact trivial|omega|(simp only [In64] at *; omega)|(simp [In64] at *; omega)|(simp_all; done)|skip)
         refine qa (qk ?_)
         simp only [Tryd.results4,enA,ev0,evA,evB,evP,fl,gp,tab,simprocAttr,reduceCtorEq,reduceIte]
         all_goals (first|rfl|trivial|trace_state)
end Go.Proofs.YtboadfahlflmhaaDoor

/-
  What the listed package-level variable gives a walk: a table of numbers. Conditions: none; written by a program of this repo.
-/
set_option linter.all false
namespace Go.Proofs.YtboadfahlflmhaaDoor
open Go.Pv Go.ChangeShapes Go.WideShapes Go.ChangeAt Go.WideElems Go.RowKit

theorem own:ownKnob Tryd.prog.godebug=none:=by kernel_rfl
theorem laidOut:laidOutB Tryd.prog=true:=by kernel_rfl
theorem gG:Tryd.prog.globalNamed "math/bits.deBruijn64tab" = some 0:=by kernel_rfl
theorem tG:(Tryd.prog.globals[0]?).map (·.type)=some 135:=by kernel_rfl
theorem cG:Tryd.prog.cellsOf 5=1:=by kernel_rfl
/-- The door's own heap meets the condition. -/
theorem door_met (os:Os) (args:Array Value):laidMetH Tryd.prog [("math/bits.deBruijn64tab",Rows.laid_math_bits_deBruijn64tab)] ((World.doorLaid Tryd.prog 4000 os).forCall (fun _ _=>0) ⟨#[],args,[]⟩).memory:=
 laidMetH_of_parts3 (fuel:=8) (laidMet_of_run' 8 (by kernel_rfl) (by kernel_rfl)) (by kernel_rfl) (by kernel_rfl)

def convD:DataW Unit→PV
 | .lit (.int k n)=>.int k n
 | _=>.nil
def datum:List (DataW Unit)→List PV:=List.map convD
theorem glob_datum:(match (Rows.laid_math_bits_deBruijn64tab:DataW Unit) with | .agg l=>datum l | _=>[])=glob0:=rfl

theorem laid_ok {W:World} (h:laidMetH Tryd.prog [("math/bits.deBruijn64tab",Rows.laid_math_bits_deBruijn64tab)] W):LaidW (fun b=>b < W.heap.size) W:=by
 refine ⟨fun b h=>h,fun g l hg=>?_⟩
 have hg2:g=0∧l=glob0:=by
  unfold gv at hg
  by_cases e:g=0
  ·subst e; exact ⟨rfl,(Option.some.inj hg).symm⟩
  ·have:(g == 0)=false:=by simpa using e
   rw [this] at hg; simp at hg
 obtain ⟨rfl,rfl⟩:=hg2
 rw [MakeChecks.laidMetH_plain _ _ _ (by kernel_rfl)] at h
 obtain ⟨ps,⟨g0,t0,cs0,f0,p0,q0,hg0,ht0,hv0,hd0,_,_⟩,_,_⟩:=h
 obtain rfl:=Option.some.inj (gG.symm.trans hg0)
 obtain rfl:=Option.some.inj (tG.symm.trans ht0)
 obtain ⟨xs,m1,rfl,hx1,hlen,hn3,hel⟩:=DataW.trod_array Tryd.underlying135 hd0
 have hd1:Rows.laid_math_bits_deBruijn64tab=DataW.agg (xs.map (·.1)):=congrArg Prod.fst hx1
 have hgl:glob0=datum (xs.map (·.1)):=by
  rw [← glob_datum,hd1]
 have key:∀ c (h:c < glob0.length),W.cell? ⟨0,0 + c,none⟩=some ((cs0[c]?).getD undef)∧Reads (fun b=>b < W.heap.size) W glob0[c] ((cs0[c]?).getD undef):=by
  intro c hc
  have hc2:c < 64:=Nat.lt_of_lt_of_le hc (by decide)
  have hcx:c < xs.length:=by omega
  have h1:=hel c hc2
  rw [List.getElem?_eq_getElem hcx] at h1
  obtain ⟨k,e1,e2,_⟩:=DataW.trod_int Tryd.underlying5 h1
  rw [cG] at e1
  have e3:cs0.toList[c]? = some (.int .u8 k):=by
   have:=congrArg (fun l=>l[0]?) e1
   simpa [List.getElem?_take,List.getElem?_drop] using this
  have e4:cs0[c]? = some (.int .u8 k):=by simpa using e3
  have e5:glob0[c] = .int .u8 k:=by
   have:glob0[c]? = (datum (xs.map (·.1)))[c]?:=by rw [hgl]
   rw [List.getElem?_eq_getElem hc] at this
   simp only [datum,List.getElem?_map,List.getElem?_eq_getElem hcx,Option.map_some,Option.some.injEq] at this
   exact this.trans (by rw [e2]; rfl)
  refine ⟨?_,?_⟩
  ·rw [e4,Nat.zero_add,World.var?_cell gG hv0 c,e4]; rfl
  ·rw [e4]
   exact e5 ▸ (Reads.int .u8 k)
 refine .ptr _ _ _ (fun c=>(cs0[c]?).getD undef) ?_ (fun c hc=>(key c hc).1) fun c hc=>(key c hc).2
 have:=(key 0 (by decide)).1
 unfold World.cell? at this
 rcases Nat.lt_or_ge 0 W.heap.size with h | h
 ·exact h
 ·exfalso
  rw [Array.getElem?_eq_none h] at this
  simp at this
end Go.Proofs.YtboadfahlflmhaaDoor
