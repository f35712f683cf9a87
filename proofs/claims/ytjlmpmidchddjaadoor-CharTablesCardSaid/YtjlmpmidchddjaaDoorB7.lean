/-
  Texts of this proof, one behind the other: what each says stands at its head. Conditions: none.
-/
import Derived.Test.YtjlmpmidchddjaaDoorB6
import Derived.Test.YtjlmpmidchddjaaDoorRows
import Derived.Test.YtjlmpmidchddjaaDoorB2
import Derived.ProofKit
import Derived.LaidMore
import Derived.OpenShut
import Derived.Stop.Joined

set_option linter.all false
namespace Go.Proofs.YtjlmpmidchddjaaDoor
open Go.Pv
theorem charTables_no (N:Int) (m:List Int) (hm:m.length≤17592186043904) (hf:¬ (gf N m).1=0):FnC Tryd.prog 3 [gp N m] (.bool true):=by
 refine fnc_of tab_ok Tryd.func3 rfl (by kernel_rfl) (by rw [Tryd.ntmps3]; exact Nat.le_add_left 1 _) ?_; rw [Tryd.ntmps3]
 refine qm ?_
 refine hk_region fun K hK=>runs_eval tab_ok ?_
 simp only [evz,fl,gp,tab,simprocAttr]
 refine fin_run ?_ (hK _ ?_)<;>clear hK K
 ·(first|exact trivial|omega|(simp only [In64] at *; omega)|(simp [In64] at *; omega)|(simp_all; done)|skip)
 refine qa (qm ?_)
 refine hk_region fun K hK=>runs_eval tab_ok ?_
 simp only [evz,fl,gp,tab,simprocAttr]
 refine fin_stop trivial (runs_call (ownGroup_c N m hm) rfl rfl rfl (by simp only [dstOk,Nat.reduceLT]) (by repeat (first|exact trivial|constructor)) (runs_eval tab_ok ?_))
 simp only [evz,fl,gp,tab,simprocAttr]
 refine fin_stop trivial (runs_call (table_no N m (by omega) hf) rfl rfl rfl (by simp only [dstOk,Nat.reduceLT]) (by repeat (first|exact trivial|constructor)) (runs_eval tab_ok ?_))
 simp only [evz,fl,gp,tab,simprocAttr]
 refine fin_run ?_ (hK _ ?_)<;>clear hK K
 ·(first|exact trivial|omega|(simp only [In64] at *; omega)|(simp [In64] at *; omega)|(simp_all; done)|skip)
 refine qa (qm ?_)
 refine hk_region fun K hK=>runs_eval tab_ok ?_
 simp only [evz,fl,gp,tab,simprocAttr]
 refine fin_stop trivial (runs_call (ownGroup_c N m hm) rfl rfl rfl (by simp only [dstOk,Nat.reduceLT]) (by repeat (first|exact trivial|constructor)) (runs_eval tab_ok ?_))
 simp only [evz,fl,gp,tab,simprocAttr]
 refine fin_stop trivial (runs_call (degrees_no N m (by omega) hf) rfl rfl rfl (by simp only [dstOk,Nat.reduceLT]) (by repeat (first|exact trivial|constructor)) (runs_eval tab_ok ?_))
 simp only [evz,fl,gp,tab,simprocAttr]
 refine fin_run ?_ (hK _ ?_)<;>clear hK K
 ·(first|exact trivial|omega|(simp only [In64] at *; omega)|(simp [In64] at *; omega)|(simp_all; done)|skip)
 refine qa (qm ?_)
 refine hk_region fun K hK=>runs_eval tab_ok ?_
 simp only [evz,fl,gp,tab,simprocAttr]
 refine fin_stop trivial (runs_call (cf_no N m (by omega) hf) rfl rfl rfl (by simp only [dstOk,Nat.reduceLT]) (by repeat (first|exact trivial|constructor)) (runs_eval tab_ok ?_))
 simp only [evz,fl,gp,tab,simprocAttr]
 refine fin_run ?_ (hK _ ?_)<;>clear hK K
 ·(first|exact trivial|omega|(simp only [In64] at *; omega)|(simp [In64] at *; omega)|(simp_all; done)|skip)
 refine qa (qm (qm ?_))
 refine hk_region fun K hK=>runs_eval tab_ok ?_
 simp only [evz,fl,gp,tab,simprocAttr]
 refine fin_stop trivial (runs_call (charBegun_c) rfl rfl rfl (by simp only [dstOk,Nat.reduceLT]) (by repeat (first|exact trivial|constructor)) (runs_eval tab_ok ?_))
 simp only [evz,fl,gp,tab,simprocAttr]
 refine fin_run ?_ (hK _ ?_)<;>clear hK K
 ·(first|exact trivial|omega|(simp only [In64] at *; omega)|(simp [In64] at *; omega)|(simp_all; done)|skip)
 refine qa ?_
 refine hk_cond rfl (fun hC1=>?_) (fun hC1=>?_)
 ·(try simp only [nhs] at hC1)
  refine qm ?_
  refine hk_region fun K hK=>runs_eval tab_ok ?_
  simp only [evz,fl,gp,tab,simprocAttr]
  refine fin_run trivial (hK _ ?_)<;>clear hK K
  refine qa (qk (qb ?_))
  simp only [Tryd.results3,enA,evz,fl,gp,tab,simprocAttr]
  all_goals ((first|exact rfl|exact ⟨rfl,rfl⟩|exact ⟨rfl,rfl,rfl⟩|exact ⟨trivial,rfl⟩|exact ⟨Nat.le_refl _,rfl⟩|trivial|(simp; done)))
 (try simp only [nhs] at hC1)
 refine qh (qa (qm (qm ?_)))
 refine hk_region fun K hK=>runs_eval tab_ok ?_
 simp only [evz,fl,gp,tab,simprocAttr]
 refine fin_run ?_ (hK _ ?_)<;>clear hK K
 ·(first|exact trivial|omega|(simp only [In64] at *; omega)|(simp [In64] at *; omega)|(simp_all; done)|skip)
 refine qa ?_
 refine hk_cond rfl (fun hC2=>?_) (fun hC2=>?_)
 ·(try simp only [nhs] at hC2)
  refine qm ?_
  refine hk_region fun K hK=>runs_eval tab_ok ?_
  simp only [evz,fl,gp,tab,simprocAttr]
  refine fin_run trivial (hK _ ?_)<;>clear hK K
  refine qa (qk (qb ?_))
  simp only [Tryd.results3,enA,evz,fl,gp,tab,simprocAttr]
  all_goals ((first|exact rfl|exact ⟨rfl,rfl⟩|exact ⟨rfl,rfl,rfl⟩|exact ⟨trivial,rfl⟩|exact ⟨Nat.le_refl _,rfl⟩|trivial|(simp; done)))
 (try simp only [nhs] at hC2)
 exact absurd hC2 hf
theorem charTables_many {n e:Nat} {m:List Int} (hm:m.length≤17592186043904) (h:GT n m n e) (hc:24 < clN m n e):FnC Tryd.prog 3 [gp n m] (.bool true):=by
 refine fnc_of tab_ok Tryd.func3 rfl (by kernel_rfl) (by rw [Tryd.ntmps3]; exact Nat.le_add_left 1 _) ?_; rw [Tryd.ntmps3]
 refine qm ?_
 refine hk_region fun K hK=>runs_eval tab_ok ?_
 simp only [evz,fl,gp,tab,simprocAttr]
 refine fin_run ?_ (hK _ ?_)<;>clear hK K
 ·(first|exact trivial|omega|(simp only [In64] at *; omega)|(simp [In64] at *; omega)|(simp_all; done)|skip)
 refine qa (qm ?_)
 refine hk_region fun K hK=>runs_eval tab_ok ?_
 simp only [evz,fl,gp,tab,simprocAttr]
 refine fin_stop trivial (runs_call (ownGroup_c n m hm) rfl rfl rfl (by simp only [dstOk,Nat.reduceLT]) (by repeat (first|exact trivial|constructor)) (runs_eval tab_ok ?_))
 simp only [evz,fl,gp,tab,simprocAttr]
 refine fin_stop trivial (runs_call (table_many h hc) rfl rfl rfl (by simp only [dstOk,Nat.reduceLT]) (by repeat (first|exact trivial|constructor)) (runs_eval tab_ok ?_))
 simp only [evz,fl,gp,tab,simprocAttr]
 refine fin_run ?_ (hK _ ?_)<;>clear hK K
 ·(first|exact trivial|omega|(simp only [In64] at *; omega)|(simp [In64] at *; omega)|(simp_all; done)|skip)
 refine qa (qm ?_)
 refine hk_region fun K hK=>runs_eval tab_ok ?_
 simp only [evz,fl,gp,tab,simprocAttr]
 refine fin_stop trivial (runs_call (ownGroup_c n m hm) rfl rfl rfl (by simp only [dstOk,Nat.reduceLT]) (by repeat (first|exact trivial|constructor)) (runs_eval tab_ok ?_))
 simp only [evz,fl,gp,tab,simprocAttr]
 refine fin_stop trivial (runs_call (degrees_many h hc) rfl rfl rfl (by simp only [dstOk,Nat.reduceLT]) (by repeat (first|exact trivial|constructor)) (runs_eval tab_ok ?_))
 simp only [evz,fl,gp,tab,simprocAttr]
 refine fin_run ?_ (hK _ ?_)<;>clear hK K
 ·(first|exact trivial|omega|(simp only [In64] at *; omega)|(simp [In64] at *; omega)|(simp_all; done)|skip)
 refine qa (qm ?_)
 refine hk_region fun K hK=>runs_eval tab_ok ?_
 simp only [evz,fl,gp,tab,simprocAttr]
 refine fin_stop trivial (runs_call (cf_many h hc) rfl rfl rfl (by simp only [dstOk,Nat.reduceLT]) (by repeat (first|exact trivial|constructor)) (runs_eval tab_ok ?_))
 simp only [evz,fl,gp,tab,simprocAttr]
 refine fin_run ?_ (hK _ ?_)<;>clear hK K
 ·(first|exact trivial|omega|(simp only [In64] at *; omega)|(simp [In64] at *; omega)|(simp_all; done)|skip)
 refine qa (qm (qm ?_))
 refine hk_region fun K hK=>runs_eval tab_ok ?_
 simp only [evz,fl,gp,tab,simprocAttr]
 refine fin_stop trivial (runs_call (charBegun_c) rfl rfl rfl (by simp only [dstOk,Nat.reduceLT]) (by repeat (first|exact trivial|constructor)) (runs_eval tab_ok ?_))
 simp only [evz,fl,gp,tab,simprocAttr]
 refine fin_run ?_ (hK _ ?_)<;>clear hK K
 ·(first|exact trivial|omega|(simp only [In64] at *; omega)|(simp [In64] at *; omega)|(simp_all; done)|skip)
 refine qa ?_
 refine hk_cond rfl (fun hC1=>?_) (fun hC1=>?_)
 ·(try simp only [nhs] at hC1)
  refine qm ?_
  refine hk_region fun K hK=>runs_eval tab_ok ?_
  simp only [evz,fl,gp,tab,simprocAttr]
  refine fin_run trivial (hK _ ?_)<;>clear hK K
  refine qa (qk (qb ?_))
  simp only [Tryd.results3,enA,evz,fl,gp,tab,simprocAttr]
  all_goals ((first|exact rfl|exact ⟨rfl,rfl⟩|exact ⟨rfl,rfl,rfl⟩|exact ⟨trivial,rfl⟩|exact ⟨Nat.le_refl _,rfl⟩|trivial|(simp; done)))
 (try simp only [nhs] at hC1)
 refine qh (qa (qm (qm ?_)))
 refine hk_region fun K hK=>runs_eval tab_ok ?_
 simp only [evz,fl,gp,tab,simprocAttr]
 refine fin_run ?_ (hK _ ?_)<;>clear hK K
 ·(first|exact trivial|omega|(simp only [In64] at *; omega)|(simp [In64] at *; omega)|(simp_all; done)|skip)
 refine qa ?_
 refine hk_cond rfl (fun hC2=>?_) (fun hC2=>?_)
 ·(try simp only [nhs] at hC2)
  refine qm ?_
  refine hk_region fun K hK=>runs_eval tab_ok ?_
  simp only [evz,fl,gp,tab,simprocAttr]
  refine fin_run trivial (hK _ ?_)<;>clear hK K
  refine qa (qk (qb ?_))
  simp only [Tryd.results3,enA,evz,fl,gp,tab,simprocAttr]
  all_goals ((first|exact rfl|exact ⟨rfl,rfl⟩|exact ⟨rfl,rfl,rfl⟩|exact ⟨trivial,rfl⟩|exact ⟨Nat.le_refl _,rfl⟩|trivial|(simp; done)))
 cases hC2
set_option maxHeartbeats 4000000 in
set_option maxRecDepth 20000 in
theorem charTables_ok {n e:Nat} {m:List Int} (hm:m.length≤17592186043904) (h:GT n m n e) (hc24:clN m n e≤24):FnC Tryd.prog 3 [gp n m] (.bool true):=by
 obtain ⟨P,p1,p2⟩:=cl_P h
 have hp3:=P.three
 have hb:=h.2.1.big
 have hrow:(chT m n e).length=clN m n e∧∀ r∈chT m n e,r.length=clN m n e∧rgp (clP m n e) r:=by
  haveI:NeZero (clP m n e):=⟨by omega⟩
  exact ⟨(chT_ort h).2.2.1,(chT_ort h).2.2.2.1⟩
 have hJ:∀ i,i < clN m n e→clJ m n e i < clN m n e:=fun i hi=>(clI_lt h (h.2.2.iv_lt (clG h hi).1)).1
 have hS:∀ i,i < clN m n e→0 < clS m n e i∧clS m n e i≤n∧((clL m n e).getD i []).length=clS m n e i:=fun i hi=>⟨(clS_pos h hi).1,(clS_pos h hi).2.1,rfl⟩
 have hinv:=inverses_c h
 have hprd:=products_c h
 have hll:(clL m n e).length=clN m n e:=rfl
 have htab:=tableOf_c h hc24
 have htb:=table_c h hc24
 have hdgc:=degrees_c h hc24
 have hdl:(dgL m n e).length=clN m n e:=by unfold dgL; rw [List.length_map]; exact hrow.1
 have hdg:∀ i,i < clN m n e→(dgL m n e).getD i 0=((chT m n e).getD i []).getD (clO m n e) 0:=fun i hi=>by
  unfold dgL
  have hi2:i < (chT m n e).length:=by rw [hrow.1]; exact hi
  simp [List.getD,List.getElem?_map,List.getElem?_eq_getElem hi2]
 have hol:clO m n e < clN m n e:=(clI_lt h h.2.2.el).1
 have hwo:FnC Tryd.prog 17 [.list (ll (clL m n e)),.int .i64 (e:Nat)] (.int .i64 (clO m n e:Nat)):=by
  have h1:=whichOf_r (clL m n e) (e:Nat) (by have:=(clN_le h).2; omega) (fun w hw=>by
   obtain ⟨j,hj,rfl⟩:=List.getElem_of_mem hw
   have h2:(clL m n e)[j]=(clL m n e).getD j []:=by simp [List.getD,List.getElem?_eq_getElem hj]
   rw [h2,(hS j hj).2.2]
   have:=(hS j hj).2.1
   omega)
  rwa [(clI_lt h h.2.2.el).2] at h1
 have heg:=e_c h.2.1
 rw [h.eI] at heg
 have hrk:=fun i (hi:i < clN m n e)=>tabRow_ok h hi
 have hord:=fun i (h0:0 < i) (hi:i < clN m n e)=>chT_ord h h0 hi
 have hprb:∀ a b c,0≤prF m n e n 0 a b c∧prF m n e n 0 a b c≤3600:=fun a b c=>by
  have h1:=pou_le m n e a b c n
  have h2:n * n≤60 * 60:=Nat.mul_le_mul hb hb
  show 0≤((pou m n e a b c n:Nat):Int)∧((pou m n e a b c n:Nat):Int)≤3600
  omega
 have hU:∀ a,a < clN m n e→unR (clS m n e a:Nat) (clP m n e) < clP m n e:=fun a ha=>by
  haveI:NeZero (clP m n e):=⟨by omega⟩
  have:=hS a ha
  exact (unR_K (gt2_of h).R this.1 (by omega)).2
 obtain ⟨t3,t4⟩:=hrow
 have hcf:=cf_ok h hc24
 generalize dgL m n e=D at *
 generalize clP m n e=p at *
 generalize clO m n e=o at *
 generalize clN m n e=k at *
 generalize chT m n e=R at *
 generalize clL m n e=L at *
 generalize clS m n e=S at *
 generalize clJ m n e=J at *
 generalize prF m n e n 0=F at *
 have hIl:((List.range k).map fun i=>(J i:Int)).length=k:=by simp
 have hIg:∀ i,i < k→((List.range k).map fun i=>(J i:Int)).getD i 0=(J i:Int):=fun i hi=>by simp [List.getD,List.getElem?_map,List.getElem?_range hi]
 generalize (List.range k).map (fun i=>(J i:Int))=I at *
 have hCl:=cubL_len k F
 have hCg:∀ a,a < k→(cubL k F).getD a []=mat k (F a):=fun a ha=>cubL_get F ha
 generalize cubL k F=C at *
 refine fnc_of tab_ok Tryd.func3 rfl (by kernel_rfl) (by rw [Tryd.ntmps3]; exact Nat.le_add_left 1 _) ?_; rw [Tryd.ntmps3]
 refine qm ?_
 refine hk_region fun K hK=>runs_eval tab_ok ?_
 simp only [evz,fl,gp,tab,simprocAttr]
 refine fin_run ?_ (hK _ ?_)<;>clear hK K
 ·(first|exact trivial|omega|(simp only [In64] at *; omega)|(simp [In64] at *; omega)|(simp_all; done)|skip)
 refine qa (qm ?_)
 refine hk_region fun K hK=>runs_eval tab_ok ?_
 simp only [evz,fl,gp,tab,simprocAttr]
 refine fin_stop trivial (runs_call (ownGroup_c n m hm) rfl rfl rfl (by simp only [dstOk,Nat.reduceLT]) (by repeat (first|exact trivial|constructor)) (runs_eval tab_ok ?_))
 simp only [evz,fl,gp,tab,simprocAttr]
 refine fin_stop trivial (runs_call (htb) rfl rfl rfl (by simp only [dstOk,Nat.reduceLT]) (by repeat (first|exact trivial|constructor)) (runs_eval tab_ok ?_))
 simp only [evz,fl,gp,tab,simprocAttr]
 refine fin_run ?_ (hK _ ?_)<;>clear hK K
 ·(first|exact trivial|omega|(simp only [In64] at *; omega)|(simp [In64] at *; omega)|(simp_all; done)|skip)
 refine qa (qm ?_)
 refine hk_region fun K hK=>runs_eval tab_ok ?_
 simp only [evz,fl,gp,tab,simprocAttr]
 refine fin_stop trivial (runs_call (ownGroup_c n m hm) rfl rfl rfl (by simp only [dstOk,Nat.reduceLT]) (by repeat (first|exact trivial|constructor)) (runs_eval tab_ok ?_))
 simp only [evz,fl,gp,tab,simprocAttr]
 refine fin_stop trivial (runs_call (hdgc) rfl rfl rfl (by simp only [dstOk,Nat.reduceLT]) (by repeat (first|exact trivial|constructor)) (runs_eval tab_ok ?_))
 simp only [evz,fl,gp,tab,simprocAttr]
 refine fin_run ?_ (hK _ ?_)<;>clear hK K
 ·(first|exact trivial|omega|(simp only [In64] at *; omega)|(simp [In64] at *; omega)|(simp_all; done)|skip)
 refine qa (qm ?_)
 refine hk_region fun K hK=>runs_eval tab_ok ?_
 simp only [evz,fl,gp,tab,simprocAttr]
 refine fin_stop trivial (runs_call (hcf) rfl rfl rfl (by simp only [dstOk,Nat.reduceLT]) (by repeat (first|exact trivial|constructor)) (runs_eval tab_ok ?_))
 simp only [evz,fl,gp,tab,simprocAttr]
 refine fin_run ?_ (hK _ ?_)<;>clear hK K
 ·(first|exact trivial|omega|(simp only [In64] at *; omega)|(simp [In64] at *; omega)|(simp_all; done)|skip)
 refine qa (qm (qm ?_))
 refine hk_region fun K hK=>runs_eval tab_ok ?_
 simp only [evz,fl,gp,tab,simprocAttr]
 refine fin_stop trivial (runs_call (charBegun_c) rfl rfl rfl (by simp only [dstOk,Nat.reduceLT]) (by repeat (first|exact trivial|constructor)) (runs_eval tab_ok ?_))
 simp only [evz,fl,gp,tab,simprocAttr]
 refine fin_run ?_ (hK _ ?_)<;>clear hK K
 ·(first|exact trivial|omega|(simp only [In64] at *; omega)|(simp [In64] at *; omega)|(simp_all; done)|skip)
 refine qa ?_
 refine hk_cond rfl (fun hC1=>?_) (fun hC1=>?_)
 ·(try simp only [nhs] at hC1)
  refine qm ?_
  refine hk_region fun K hK=>runs_eval tab_ok ?_
  simp only [evz,fl,gp,tab,simprocAttr]
  refine fin_run trivial (hK _ ?_)<;>clear hK K
  refine qa (qk (qb ?_))
  simp only [Tryd.results3,enA,evz,fl,gp,tab,simprocAttr]
  all_goals ((first|exact rfl|exact ⟨rfl,rfl⟩|exact ⟨rfl,rfl,rfl⟩|exact ⟨trivial,rfl⟩|exact ⟨Nat.le_refl _,rfl⟩|trivial|(simp; done)))
 (try simp only [nhs] at hC1)
 refine qh (qa (qm (qm ?_)))
 refine hk_region fun K hK=>runs_eval tab_ok ?_
 simp only [evz,fl,gp,tab,simprocAttr]
 refine fin_run ?_ (hK _ ?_)<;>clear hK K
 ·(first|exact trivial|omega|(simp only [In64] at *; omega)|(simp [In64] at *; omega)|(simp_all; done)|skip)
 refine qa ?_
 refine hk_cond rfl (fun hC2=>?_) (fun hC2=>?_)
 ·cases hC2
 (try simp only [nhs] at hC2)
 refine qh (qa (qm ?_))
 refine hk_region fun K hK=>runs_eval tab_ok ?_
 simp only [evz,fl,gp,tab,simprocAttr]
 refine fin_stop trivial (runs_call (htab) rfl rfl rfl (by simp only [dstOk,Nat.reduceLT]) (by repeat (first|exact trivial|constructor)) (runs_eval tab_ok ?_))
 simp only [evz,fl,gp,tab,simprocAttr]
 refine fin_run ?_ (hK _ ?_)<;>clear hK K
 ·(first|exact trivial|omega|(simp only [In64] at *; omega)|(simp [In64] at *; omega)|(simp_all; done)|skip)
 refine qa (qm (qm ?_))
 refine hk_region fun K hK=>runs_eval tab_ok ?_
 simp only [evz,fl,gp,tab,simprocAttr,il_length,ll_length,hdl,t3]
 refine fin_run trivial (hK _ ?_)<;>clear hK K
 refine qa ?_
 refine hk_cond rfl (fun hC3=>?_) (fun hC3=>?_)
 ·(try simp only [nhs] at hC3)
  first|exact absurd rfl hC3|exact hC3.elim|cases hC3|(simp at hC3; done)
 (try simp only [nhs] at hC3)
 refine qh (qa (qm ?_))
 refine hk_region fun K hK=>runs_eval tab_ok ?_
 simp only [evz,fl,gp,tab,simprocAttr]
 refine fin_stop trivial (runs_call (heg) rfl rfl rfl (by simp only [dstOk,Nat.reduceLT]) (by repeat (first|exact trivial|constructor)) (runs_eval tab_ok ?_))
 simp only [evz,fl,gp,tab,simprocAttr]
 refine fin_stop trivial (runs_call (hwo) rfl rfl rfl (by simp only [dstOk,Nat.reduceLT]) (by repeat (first|exact trivial|constructor)) (runs_eval tab_ok ?_))
 simp only [evz,fl,gp,tab,simprocAttr]
 refine fin_run ?_ (hK _ ?_)<;>clear hK K
 ·(first|exact trivial|omega|(simp only [In64] at *; omega)|(simp [In64] at *; omega)|(simp_all; done)|skip)
 refine qa (qm ?_)
 refine hk_region fun K hK=>runs_eval tab_ok ?_
 simp only [evz,fl,gp,tab,simprocAttr]
 refine fin_stop trivial (runs_call (hinv) rfl rfl rfl (by simp only [dstOk,Nat.reduceLT]) (by repeat (first|exact trivial|constructor)) (runs_eval tab_ok ?_))
 simp only [evz,fl,gp,tab,simprocAttr]
 refine fin_run ?_ (hK _ ?_)<;>clear hK K
 ·(first|exact trivial|omega|(simp only [In64] at *; omega)|(simp [In64] at *; omega)|(simp_all; done)|skip)
 refine qa (qm ?_)
 refine hk_region fun K hK=>runs_eval tab_ok ?_
 simp only [evz,fl,gp,tab,simprocAttr]
 refine fin_stop trivial (runs_call (hprd) rfl rfl rfl (by simp only [dstOk,Nat.reduceLT]) (by repeat (first|exact trivial|constructor)) (runs_eval tab_ok ?_))
 simp only [evz,fl,gp,tab,simprocAttr]
 refine fin_run ?_ (hK _ ?_)<;>clear hK K
 ·(first|exact trivial|omega|(simp only [In64] at *; omega)|(simp [In64] at *; omega)|(simp_all; done)|skip)
 refine qa (qm (qm ?_))
 refine hk_region fun K hK=>runs_eval tab_ok ?_
 simp only [evz,fl,gp,tab,simprocAttr]
 refine fin_run trivial (hK _ ?_)<;>clear hK K
 refine qa (ql ?_)
 refine hk_loop (ι:=Nat) (fun i=>⟨276,[(1,.ptr 0 0),(3,.p (.int .i64 p)),(4,.p (.list (ll R))),(6,.p (.list (il D))),(11,.p (.list (ll L))),(13,.p (.int .i64 (o:Nat))),(14,.p (.list (il I))),(15,.p (.list (lll C))),(16,.p (.int .i64 i))],[.own [.p (.int .i64 n),.p (.list (il m))]]⟩) (fun i=>i≤k) (fun i=>k - i) 0 (Nat.zero_le _) [0] (by simp only [leq,leA,evz,fl,gp,tab,simprocAttr]<;>first|trivial|rfl|skip) fun i hi=>?_
 refine qm (qm ?_)
 refine hk_region fun K hK=>runs_eval tab_ok ?_
 simp only [evz,fl,gp,tab,simprocAttr,ll_length,t3]
 refine fin_run trivial (hK _ ?_)<;>clear hK K
 refine qa ?_
 refine hk_cond rfl (fun hC4=>?_) (fun hC4=>?_)
 ·(try simp only [nhs] at hC4)
  have hik:i < k:=by omega
  obtain ⟨d,d1,d2,d3,d4,hW⟩:=hrk i hik
  obtain ⟨r,hr⟩:∃ r,R.getD i []=r:=⟨_,rfl⟩
  have hrl:r.length=k:=by rw [← hr]; exact (t4 _ (mem_getD (by omega))).1
  have hrg:rgp p r:=by rw [← hr]; exact (t4 _ (mem_getD (by omega))).2
  have hdi:=hdg i hik
  rw [hr] at d3 hdi hW
  rw [d3] at hdi
  obtain ⟨u,hu⟩:∃ u,unR (d:Nat) p=u:=⟨_,rfl⟩
  rw [hu] at d4 hW
  have hund:=under_c (p:=p) (a:=(d:Nat)) (by omega) (by omega) (by omega) (by omega)
  rw [hu] at hund
  refine qh (qa (qm (ql (qm ?_))))
  refine hk_region fun K hK=>runs_eval tab_ok ?_
  simp only [evz,fl,gp,tab,simprocAttr,ll_length,ll_get (show i < R.length by omega),hr]
  refine fin_run ?_ (hK _ ?_)<;>clear hK K
  ·omega
  refine qa (qm ?_)
  refine hk_region fun K hK=>runs_eval tab_ok ?_
  simp only [evz,fl,gp,tab,simprocAttr,il_length,il_get (show o < r.length by omega),d3]
  refine fin_run ?_ (hK _ ?_)<;>clear hK K
  ·omega
  refine qa (qm (qm ?_))
  refine hk_region fun K hK=>runs_eval tab_ok ?_
  simp only [evz,fl,gp,tab,simprocAttr,decide_eq_false (show ¬ (d:Int) < 1 by omega),decide_eq_false (show ¬ (n:Int) < d by omega),il_length,il_get (show i < D.length by omega),hdi,deq_self,bnot_t]
  refine fin_run ?_ (hK _ ?_)<;>clear hK K
  ·omega
  refine qa ?_
  refine hk_cond rfl (fun hC5=>?_) (fun hC5=>?_)
  ·(try simp only [nhs] at hC5)
   first|exact absurd rfl hC5|exact hC5.elim|cases hC5|(simp at hC5; done)
  (try simp only [nhs] at hC5)
  refine qh (qa (qm (qm ?_)))
  refine hk_joinC ⟨276,[(1,.ptr 0 0),(3,.p (.int .i64 p)),(4,.p (.list (ll R))),(6,.p (.list (il D))),(11,.p (.list (ll L))),(13,.p (.int .i64 (o:Nat))),(14,.p (.list (il I))),(15,.p (.list (lll C))),(16,.p (.int .i64 i)),(17,.p (.list (il r))),(18,.p (.int .i64 (d:Nat))),(154,.p (.bool false))],[.own [.p (.int .i64 n),.p (.list (il m))]]⟩ ?_ ?_
  ·by_cases hi0:0 < i
   ·have ei:(i:Int) - 1=((i - 1:Nat):Int):=by omega
    have g21a:(0:Int) < (i:Int):=by omega
    have ho:=hord i hi0 hik
    have hdj:=hdg (i - 1) (by omega)
    rw [hr,d3,← hdj] at ho
    obtain ⟨r',hr'⟩:∃ r',R.getD (i - 1) []=r':=⟨_,rfl⟩
    have hrl' : r'.length=k:=by rw [← hr']; exact (t4 _ (mem_getD (by omega))).1
    rw [hr'] at ho
    have hnd:¬ (d:Int) < D.getD (i - 1) 0:=by omega
    have hil1:i - 1 < D.length:=by omega
    have hil2:i - 1 < R.length:=by omega
    by_cases g21c:D.getD (i - 1) 0=(d:Int)
    ·have hles:lesI r' r=true:=by
      rcases ho with ho | ho
      ·omega
      exact ho.2
     refine hk_region fun K hK=>runs_eval tab_ok ?_
     simp only [evz,fl,gp,tab,simprocAttr,il_length,ll_length,ei,il_get hil1,ll_get hil2,hr',decide_eq_false hnd,decide_eq_true g21a,decide_eq_true g21c]
     refine fin_stop (by simp only [In64]; omega) (runs_call (less_c r' r (by omega) (by omega)) rfl rfl rfl (by simp only [dstOk,Nat.reduceLT]) (by repeat (first|exact trivial|constructor)) (runs_eval tab_ok ?_))
     simp only [evz,fl,gp,tab,simprocAttr,il_length,ll_length,ei,il_get hil1,ll_get hil2,hr',decide_eq_false hnd,hles,bnot_t,decide_eq_true g21a,decide_eq_true g21c]
     refine fin_run trivial (hK _ ?_)<;>clear hK K
     exact ⟨rfl,[0],by simp only [leq,leA,evz,fl,gp,tab,simprocAttr]<;>first|trivial|rfl|skip⟩
    refine hk_region fun K hK=>runs_eval tab_ok ?_
    simp only [evz,fl,gp,tab,simprocAttr,il_length,ll_length,ei,il_get hil1,decide_eq_false hnd,decide_eq_true g21a,decide_eq_false g21c]
    refine fin_run (by simp only [In64]; omega) (hK _ ?_)<;>clear hK K
    exact ⟨rfl,[0],by simp only [leq,leA,evz,fl,gp,tab,simprocAttr]<;>first|trivial|rfl|skip⟩
   refine hk_region fun K hK=>runs_eval tab_ok ?_
   simp only [evz,fl,gp,tab,simprocAttr,il_length,ll_length,decide_eq_false (show ¬ (0:Int) < (i:Int) by omega)]
   refine fin_run trivial (hK _ ?_)<;>clear hK K
   exact ⟨rfl,[0],by simp only [leq,leA,evz,fl,gp,tab,simprocAttr]<;>first|trivial|rfl|skip⟩
  refine qa ?_
  refine hk_cond rfl (fun hC6=>?_) (fun hC6=>?_)
  ·(try simp only [nhs] at hC6)
   first|exact absurd rfl hC6|exact hC6.elim|cases hC6|(simp at hC6; done)
  (try simp only [nhs] at hC6)
  refine qh (qa (qm ?_))
  refine hk_region fun K hK=>runs_eval tab_ok ?_
  simp only [evz,fl,gp,tab,simprocAttr]
  refine fin_stop trivial (runs_call (hund) rfl rfl rfl (by simp only [dstOk,Nat.reduceLT]) (by repeat (first|exact trivial|constructor)) (runs_eval tab_ok ?_))
  simp only [evz,fl,gp,tab,simprocAttr]
  refine fin_run trivial (hK _ ?_)<;>clear hK K
  refine qa (qm ?_)
  have hrep:List.replicate k (AV.p (PV.int IntKind.i64 0))=ol (omR p r S u k 0):=by
   rw [omR,updR_start]; simp [ol,opl,il]
  have homl:∀ c,(omR p r S u k c).length=k:=fun c=>by rw [omR,updR_len,List.length_replicate]
  refine hk_region fun K hK=>runs_eval tab_ok ?_
  simp only [evz,fl,gp,tab,simprocAttr,ll_length,hll,makeSliceA.eq_def,-List.reduceReplicate,Int.toNat_natCast,hrep]
  refine fin_run ?_ (hK _ ?_)<;>clear hK K
  ·(first|exact trivial|omega|(simp only [In64] at *; omega)|(simp [In64] at *; omega)|(simp_all; done)|skip)
  refine qa (qm (qm ?_))
  refine hk_region fun K hK=>runs_eval tab_ok ?_
  simp only [evz,fl,gp,tab,simprocAttr]
  refine fin_run trivial (hK _ ?_)<;>clear hK K
  refine qa (ql ?_)
  refine hk_loop (ι:=Nat) (fun c=>⟨276,[(1,.ptr 0 0),(3,.p (.int .i64 p)),(4,.p (.list (ll R))),(6,.p (.list (il D))),(11,.p (.list (ll L))),(13,.p (.int .i64 (o:Nat))),(14,.p (.list (il I))),(15,.p (.list (lll C))),(16,.p (.int .i64 i)),(17,.p (.list (il r))),(18,.p (.int .i64 (d:Nat))),(19,.p (.int .i64 (u:Nat))),(20,.sl 1 0 k),(21,.p (.int .i64 c))],[.own [.p (.int .i64 n),.p (.list (il m))],.own (ol (omR p r S u k c))]⟩) (fun c=>c≤k) (fun c=>k - c) 0 (Nat.zero_le _) [0,1] (by simp only [leq,leA,evz,fl,gp,tab,simprocAttr]<;>first|trivial|rfl|skip) fun c hck=>?_
  refine qm (qm ?_)
  refine hk_region fun K hK=>runs_eval tab_ok ?_
  simp only [evz,fl,gp,tab,simprocAttr,ll_length,hll]
  refine fin_run trivial (hK _ ?_)<;>clear hK K
  refine qa ?_
  refine hk_cond rfl (fun hC7=>?_) (fun hC7=>?_)
  ·(try simp only [nhs] at hC7)
   have hckl:c < k:=by omega
   obtain ⟨w1,w2,w3⟩:=hS c hckl
   have m1:=mulLt (p:=p) (by omega) (a:=r.getD c 0) (b:=(S c:Nat)) (hrg c).1 (hrg c).2 (by omega) (by omega)
   have g1:=emod_rng (p:=p) (by omega) (r.getD c 0 * (S c:Nat))
   have m2:=mulLt (p:=p) (by omega) g1.1 g1.2 (b:=(u:Nat)) (by omega) (by omega)
   have e1:Int.tmod (r.getD c 0 * (S c:Nat)) p=r.getD c 0 * (S c:Nat) % p:=Int.tmod_eq_emod_of_nonneg m1.1
   have e2:Int.tmod (r.getD c 0 * (S c:Nat) % p * (u:Nat)) p=omF p r S u c:=by
    rw [omF]; exact Int.tmod_eq_emod_of_nonneg m2.1
   have hst:(omR p r S u k c).set c (omF p r S u c)=omR p r S u k (c + 1):=updR_set (f:=omF p r S u) (u:=List.replicate k 0) (Nat.zero_le c) (by rw [List.length_replicate]; exact hckl)
   refine qh (qa (qm (ql ?_)))
   refine hk_draw mixed (by kernel_rfl) fun K hK=>runs_eval tab_ok ?_
   simp only [evz,fl,gp,tab,simprocAttr,ll_length,hll,il_length,il_get (show c < r.length by omega),ll_get (show c < L.length by omega),w3,e1,e2,ol_set,hst]
   refine fin_run ?_ (hK _ ?_)<;>clear hK K
   ·rw [homl]; simp only [In64]; omega
   refine qd (qa ?_)
   refine hk_region fun K hK=>runs_eval tab_ok ?_
   simp only [evz,fl,gp,tab,simprocAttr]
   refine fin_run ?_ (hK _ ?_)<;>clear hK K
   ·(first|exact trivial|omega|(simp only [In64] at *; omega)|(simp [In64] at *; omega)|(simp_all; done)|skip)
   refine qa ?_
   refine ⟨c + 1,[0,1],by omega,by omega,by simp only [leq,leA,evz,fl,gp,tab,simprocAttr]<;>first|trivial|omega|(simp [ol_length,homl]; done)|skip⟩
  (try simp only [nhs] at hC7)
  have hckl:c=k:=by omega
  rw [hckl]
  obtain ⟨W,hWd⟩:∃ W,omR p r S u k k=W:=⟨_,rfl⟩
  have hWl:W.length=k:=by rw [← hWd]; exact homl k
  have hWg:∀ c,c < k→W.getD c 0=omF p r S u c:=fun c hc=>by
   rw [← hWd,omR,updR_get (by rw [List.length_replicate]; exact hc),if_pos ⟨Nat.zero_le _,hc⟩]
  have hWr:∀ c,c < k→0≤W.getD c 0∧W.getD c 0 < p:=fun c hc=>by rw [hWg c hc]; exact emod_rng (by omega) _
  obtain ⟨hT,hs⟩:=hW W hWg
  rw [hWd]
  refine hk_freeze 1 rfl (opl_allP (il W)) ?_
  refine hk_pure 20 rfl ⟨by rw [il_length]; omega,by rw [List.drop_zero,List.take_of_length_le (by rw [il_length]; omega)]; exact il_all _⟩ ?_
  simp only [hset,List.set,List.drop_zero]
  rw [List.take_of_length_le (by rw [il_length]; omega)]
  refine qj (qc (qc (qf (qa (qm ?_)))))
  refine hk_region fun K hK=>runs_eval tab_ok ?_
  simp only [evz,fl,gp,tab,simprocAttr]
  refine fin_run trivial (hK _ ?_)<;>clear hK K
  refine qa (qm (qm ?_))
  refine hk_region fun K hK=>runs_eval tab_ok ?_
  simp only [evz,fl,gp,tab,simprocAttr]
  refine fin_run trivial (hK _ ?_)<;>clear hK K
  refine qa (ql ?_)
  refine hk_loop (ι:=Nat) (fun a=>⟨276,[(1,.ptr 0 0),(3,.p (.int .i64 p)),(4,.p (.list (ll R))),(6,.p (.list (il D))),(11,.p (.list (ll L))),(13,.p (.int .i64 (o:Nat))),(14,.p (.list (il I))),(15,.p (.list (lll C))),(16,.p (.int .i64 i)),(18,.p (.int .i64 (d:Nat))),(20,.p (.list (il W))),(22,.p (.int .i64 (smW p W J (fun a=>unR (S a:Nat) p) a))),(23,.p (.int .i64 a))],[.own [.p (.int .i64 n),.p (.list (il m))]]⟩) (fun a=>a≤k) (fun a=>k - a) 0 (Nat.zero_le _) [0] (by simp only [leq,leA,evz,fl,gp,tab,simprocAttr]<;>first|trivial|rfl|skip) fun a ha=>?_
  refine qm (qm ?_)
  refine hk_region fun K hK=>runs_eval tab_ok ?_
  simp only [evz,fl,gp,tab,simprocAttr,ll_length,hll]
  refine fin_run trivial (hK _ ?_)<;>clear hK K
  refine qa ?_
  refine hk_cond rfl (fun hC8=>?_) (fun hC8=>?_)
  ·(try simp only [nhs] at hC8)
   have hak:a < k:=by omega
   obtain ⟨w1,w2,w3⟩:=hS a hak
   have hJa:=hJ a hak
   have hua:=hU a hak
   have huc:=under_c (p:=p) (a:=(S a:Nat)) (by omega) (by omega) (by omega) (by omega)
   have s0:=smW_rg (p:=p) (by omega) W J (fun a=>unR (S a:Nat) p) a
   have m1:=mulLt (p:=p) (by omega) (hWr a hak).1 (hWr a hak).2 (hWr (J a) hJa).1 (hWr (J a) hJa).2
   have g1:=emod_rng (p:=p) (by omega) (W.getD a 0 * W.getD (J a) 0)
   have m2:=mulLt (p:=p) (by omega) g1.1 g1.2 (b:=(unR (S a:Nat) p:Nat)) (by omega) (by omega)
   have e1:Int.tmod (W.getD a 0 * W.getD (J a) 0) p=W.getD a 0 * W.getD (J a) 0 % p:=Int.tmod_eq_emod_of_nonneg m1.1
   have e2:Int.tmod (smW p W J (fun a=>unR (S a:Nat) p) a + W.getD a 0 * W.getD (J a) 0 % p * (unR (S a:Nat) p:Nat)) p=smW p W J (fun a=>unR (S a:Nat) p) (a + 1):=by
    rw [smW]; exact Int.tmod_eq_emod_of_nonneg (by omega)
   refine qh (qa (qm (ql (qm ?_))))
   refine hk_draw mixed (by kernel_rfl) fun K hK=>runs_eval tab_ok ?_
   simp only [evz,fl,gp,tab,simprocAttr,ll_length,hll,il_length,il_get (show a < W.length by omega),il_get (show a < I.length by omega),hIg a hak,il_get (show J a < W.length by omega),ll_get (show a < L.length by omega),w3,e1,e2]
   refine fin_stop ?_ (runs_call (huc) rfl rfl rfl (by simp only [dstOk,Nat.reduceLT]) (by repeat (first|exact trivial|constructor)) (runs_eval tab_ok ?_))
   ·simp only [In64]; omega
   simp only [evz,fl,gp,tab,simprocAttr,ll_length,hll,il_length,il_get (show a < W.length by omega),il_get (show a < I.length by omega),hIg a hak,il_get (show J a < W.length by omega),ll_get (show a < L.length by omega),w3,e1,e2]
   refine fin_run ?_ (hK _ ?_)<;>clear hK K
   ·simp only [In64]; omega
   refine qa (qm ?_)
   refine hk_region fun K hK=>runs_eval tab_ok ?_
   simp only [evz,fl,gp,tab,simprocAttr]
   refine fin_run trivial (hK _ ?_)<;>clear hK K
   refine qa (ql ?_)
   refine hk_loop (ι:=Nat) (fun b=>⟨276,[(1,.ptr 0 0),(3,.p (.int .i64 p)),(4,.p (.list (ll R))),(6,.p (.list (il D))),(11,.p (.list (ll L))),(13,.p (.int .i64 (o:Nat))),(14,.p (.list (il I))),(15,.p (.list (lll C))),(16,.p (.int .i64 i)),(18,.p (.int .i64 (d:Nat))),(20,.p (.list (il W))),(22,.p (.int .i64 (smW p W J (fun a=>unR (S a:Nat) p) (a + 1)))),(23,.p (.int .i64 a)),(24,.p (.int .i64 b))],[.own [.p (.int .i64 n),.p (.list (il m))]]⟩) (fun b=>b≤k) (fun b=>k - b) 0 (Nat.zero_le _) [0] (by simp only [leq,leA,evz,fl,gp,tab,simprocAttr]<;>first|trivial|rfl|skip) fun b hb4=>?_
   refine qm (qm ?_)
   refine hk_region fun K hK=>runs_eval tab_ok ?_
   simp only [evz,fl,gp,tab,simprocAttr,ll_length,hll]
   refine fin_run trivial (hK _ ?_)<;>clear hK K
   refine qa ?_
   refine hk_cond rfl (fun hC9=>?_) (fun hC9=>?_)
   ·(try simp only [nhs] at hC9)
    have hbk:b < k:=by omega
    refine qh (qa (qm (ql (qm ?_))))
    refine hk_region fun K hK=>runs_eval tab_ok ?_
    simp only [evz,fl,gp,tab,simprocAttr]
    refine fin_run trivial (hK _ ?_)<;>clear hK K
    refine qa (qm (qm ?_))
    refine hk_region fun K hK=>runs_eval tab_ok ?_
    simp only [evz,fl,gp,tab,simprocAttr]
    refine fin_run trivial (hK _ ?_)<;>clear hK K
    refine qa (ql ?_)
    refine hk_loop (ι:=Nat) (fun c=>⟨276,[(1,.ptr 0 0),(3,.p (.int .i64 p)),(4,.p (.list (ll R))),(6,.p (.list (il D))),(11,.p (.list (ll L))),(13,.p (.int .i64 (o:Nat))),(14,.p (.list (il I))),(15,.p (.list (lll C))),(16,.p (.int .i64 i)),(18,.p (.int .i64 (d:Nat))),(20,.p (.list (il W))),(22,.p (.int .i64 (smW p W J (fun a=>unR (S a:Nat) p) (a + 1)))),(23,.p (.int .i64 a)),(24,.p (.int .i64 b)),(25,.p (.int .i64 (trW p (fun c=>F a b c) W c))),(26,.p (.int .i64 c))],[.own [.p (.int .i64 n),.p (.list (il m))]]⟩) (fun c=>c≤k) (fun c=>k - c) 0 (Nat.zero_le _) [0] (by simp only [leq,leA,evz,fl,gp,tab,simprocAttr]<;>first|trivial|rfl|skip) fun c hc5=>?_
    refine qm (qm ?_)
    refine hk_region fun K hK=>runs_eval tab_ok ?_
    simp only [evz,fl,gp,tab,simprocAttr,ll_length,hll]
    refine fin_run trivial (hK _ ?_)<;>clear hK K
    refine qa ?_
    refine hk_cond rfl (fun hC10=>?_) (fun hC10=>?_)
    ·(try simp only [nhs] at hC10)
     have hck5:c < k:=by omega
     have x0:=trW_rg (p:=p) (by omega) (fun c=>F a b c) W c
     have f0:=hprb a b c
     have n1:0≤F a b c * W.getD c 0∧F a b c * W.getD c 0≤3600 * 20000:=⟨Int.mul_nonneg f0.1 (hWr c hck5).1,Int.mul_le_mul f0.2 (by have:=(hWr c hck5).2; omega) (hWr c hck5).1 (by omega)⟩
     have e3:Int.tmod (trW p (fun c=>F a b c) W c + F a b c * W.getD c 0) p=trW p (fun c=>F a b c) W (c + 1):=by
      rw [trW]; exact Int.tmod_eq_emod_of_nonneg (by omega)
     have hCa:=hCg a hak
     have hml:=mat_len k (F a)
     have hmg:=mat_get (c:=k) (f:=F a) hbk
     have hrzl:=rgz_len k (F a b)
     have hrzg:=rgz_get (g:=F a b) hck5
     refine qh (qa (qm (ql ?_)))
     refine hk_draw mixed (by kernel_rfl) fun K hK=>runs_eval tab_ok ?_
     simp only [evz,fl,gp,tab,simprocAttr,lll_len,hCl,lll_get (show a < C.length by omega),hCa,ll_length,hml,ll_get (show b < (mat k (F a)).length by omega),hmg,il_length,hrzl,il_get (show c < (rgz k (F a b)).length by omega),hrzg,il_get (show c < W.length by omega),e3]
     refine fin_run ?_ (hK _ ?_)<;>clear hK K
     ·simp only [In64]; omega
     refine qd (qa ?_)
     refine hk_region fun K hK=>runs_eval tab_ok ?_
     simp only [evz,fl,gp,tab,simprocAttr]
     refine fin_run ?_ (hK _ ?_)<;>clear hK K
     ·(first|exact trivial|omega|(simp only [In64] at *; omega)|(simp [In64] at *; omega)|(simp_all; done)|skip)
     refine qa ?_
     refine ⟨c + 1,[0],by omega,by omega,by simp only [leq,leA,evz,fl,gp,tab,simprocAttr]<;>first|trivial|omega|skip⟩
    (try simp only [nhs] at hC10)
    have hck5:c=k:=by omega
    have m3:=mulLt (p:=p) (by omega) (hWr a hak).1 (hWr a hak).2 (hWr b hbk).1 (hWr b hbk).2
    have e4:Int.tmod (W.getD a 0 * W.getD b 0) p=W.getD a 0 * W.getD b 0 % p:=Int.tmod_eq_emod_of_nonneg m3.1
    have hTa:=hT a b hak hbk
    rw [hck5,hTa]
    refine qj (qc (qc (qf (qa (qm ?_)))))
    refine hk_draw mixed (by kernel_rfl) fun K hK=>runs_eval tab_ok ?_
    simp only [evz,fl,gp,tab,simprocAttr,il_length,il_get (show a < W.length by omega),il_get (show b < W.length by omega),e4,deq_self,bnot_t]
    refine fin_run ?_ (hK _ ?_)<;>clear hK K
    ·simp only [In64]; omega
    refine qa ?_
    refine hk_cond rfl (fun hC11=>?_) (fun hC11=>?_)
    ·(try simp only [nhs] at hC11)
     first|exact absurd rfl hC11|exact hC11.elim|cases hC11|(simp at hC11; done)
    (try simp only [nhs] at hC11)
    refine qh (qd (qa ?_))
    refine hk_region fun K hK=>runs_eval tab_ok ?_
    simp only [evz,fl,gp,tab,simprocAttr]
    refine fin_run ?_ (hK _ ?_)<;>clear hK K
    ·(first|exact trivial|omega|(simp only [In64] at *; omega)|(simp [In64] at *; omega)|(simp_all; done)|skip)
    refine qa ?_
    refine ⟨b + 1,[0],by omega,by omega,by simp only [leq,leA,evz,fl,gp,tab,simprocAttr]<;>first|trivial|omega|skip⟩
   (try simp only [nhs] at hC9)
   refine qj (qc (qc (qf (qd (qa ?_)))))
   refine hk_region fun K hK=>runs_eval tab_ok ?_
   simp only [evz,fl,gp,tab,simprocAttr]
   refine fin_run ?_ (hK _ ?_)<;>clear hK K
   ·(first|exact trivial|omega|(simp only [In64] at *; omega)|(simp [In64] at *; omega)|(simp_all; done)|skip)
   refine qa ?_
   refine ⟨a + 1,[0],by omega,by omega,by simp only [leq,leA,evz,fl,gp,tab,simprocAttr]<;>first|trivial|omega|skip⟩
  (try simp only [nhs] at hC8)
  have hak:a=k:=by omega
  rw [hak]
  have s0:=smW_rg (p:=p) (by omega) W J (fun a=>unR (S a:Nat) p) k
  obtain ⟨sm0,hsm0⟩:∃ x,smW p W J (fun a=>unR (S a:Nat) p) k=x:=⟨_,rfl⟩
  rw [hsm0] at s0 hs ⊢
  have m1:=mulLt (p:=p) (by omega) (a:=(d:Int)) (b:=(d:Int)) (by omega) (by omega) (by omega) (by omega)
  have g1:=emod_rng (p:=p) (by omega) ((d:Int) * d)
  have m2:=mulLt (p:=p) (by omega) g1.1 g1.2 s0.1 s0.2
  have e1:Int.tmod ((d:Int) * d) p=(d:Int) * d % p:=Int.tmod_eq_emod_of_nonneg m1.1
  have e2:Int.tmod ((d:Int) * d % p * sm0) p=(n:Int) % p:=by
   rw [← hs]; exact Int.tmod_eq_emod_of_nonneg m2.1
  have e3:Int.tmod (n:Int) p=(n:Int) % p:=Int.tmod_eq_emod_of_nonneg (by omega)
  refine qj (qc (qc (qf (qa (qm ?_)))))
  refine hk_draw mixed (by kernel_rfl) fun K hK=>runs_eval tab_ok ?_
  simp only [evz,fl,gp,tab,simprocAttr,e1,e2,e3,deq_self,bnot_t]
  refine fin_run ?_ (hK _ ?_)<;>clear hK K
  ·simp only [In64]; omega
  refine qa ?_
  refine hk_cond rfl (fun hC12=>?_) (fun hC12=>?_)
  ·(try simp only [nhs] at hC12)
   first|exact absurd rfl hC12|exact hC12.elim|cases hC12|(simp at hC12; done)
  (try simp only [nhs] at hC12)
  refine qh (qd (qa ?_))
  refine hk_region fun K hK=>runs_eval tab_ok ?_
  simp only [evz,fl,gp,tab,simprocAttr]
  refine fin_run ?_ (hK _ ?_)<;>clear hK K
  ·(first|exact trivial|omega|(simp only [In64] at *; omega)|(simp [In64] at *; omega)|(simp_all; done)|skip)
  refine qa ?_
  refine ⟨i + 1,[0],by omega,by omega,by simp only [leq,leA,evz,fl,gp,tab,simprocAttr]<;>first|trivial|omega|skip⟩
 (try simp only [nhs] at hC4)
 refine qj (qc (qc (qf (qa (qm ?_)))))
 refine hk_region fun K hK=>runs_eval tab_ok ?_
 simp only [evz,fl,gp,tab,simprocAttr]
 refine fin_run trivial (hK _ ?_)<;>clear hK K
 refine qa (qk ?_)
 simp only [Tryd.results3,enA,evz,fl,gp,tab,simprocAttr]
 all_goals ((first|exact rfl|exact ⟨rfl,rfl⟩|exact ⟨rfl,rfl,rfl⟩|exact ⟨trivial,rfl⟩|exact ⟨Nat.le_refl _,rfl⟩|trivial|(simp; done)))
theorem charTables_c (N:Int) (m:List Int) (hm:m.length≤17592186043904):FnC Tryd.prog 3 [gp N m] (.bool true):=by
 by_cases hf:(gf N m).1=0
 ·obtain ⟨n,e,h,_⟩:=gf_ok hf
  obtain rfl:N=(n:Int):=h.1
  by_cases hc:clN m n e≤24
  ·exact charTables_ok hm h hc
  exact charTables_many hm h (by omega)
 exact charTables_no N m hm hf
end Go.Proofs.YtjlmpmidchddjaaDoor

namespace Go.Proofs.YtjlmpmidchddjaaDoor
open Go.Pv Go.ChangeShapes Go.WideShapes Go.ChangeAt Go.WideElems Go.RowKit
theorem own:ownKnob Tryd.prog.godebug=none:=by kernel_rfl
theorem laidOut:laidOutB Tryd.prog=true:=by kernel_rfl
theorem gG:Tryd.prog.globalNamed "math/bits.deBruijn64tab" = some 0:=by kernel_rfl
theorem tG:(Tryd.prog.globals[0]?).map (·.type)=some 113:=by kernel_rfl
theorem cG:Tryd.prog.cellsOf 5=1:=by kernel_rfl
theorem door_met (os:Os) (args:Array Value):laidMetH Tryd.prog [("math/bits.deBruijn64tab",Rows.laid_math_bits_deBruijn64tab)] ((World.doorLaid Tryd.prog 4000 os).forCall (fun _ _=>0) ⟨#[],args,[]⟩).memory:=
 laidMetH_of_parts3 (fuel:=8) (laidMet_of_run' 8 (by kernel_rfl) (by kernel_rfl)) (by kernel_rfl) (by kernel_rfl)
def convD:DataW Unit→PV
 | .lit (.int k n)=>.int k n
 | _=>.nil
def datum:List (DataW Unit)→List PV:=List.map convD
theorem glob_datum:(match (Rows.laid_math_bits_deBruijn64tab:DataW Unit) with | .agg l=>datum l | _=>[])=glob0:=rfl
theorem laid_ok {W:World} (h:laidMetH Tryd.prog [("math/bits.deBruijn64tab",Rows.laid_math_bits_deBruijn64tab)] W):LaidW (fun b=>b < W.heap.size) W:=by
 refine ⟨fun b h=>h,fun g l hg=>?_⟩
 have hg2:g=0∧l=glob0:=by
  unfold gv at hg
  by_cases e:g=0
  ·subst e; exact ⟨rfl,(Option.some.inj hg).symm⟩
  have:(g == 0)=false:=by simpa using e
  rw [this] at hg; simp at hg
 obtain ⟨rfl,rfl⟩:=hg2
 rw [MakeChecks.laidMetH_plain _ _ _ (by kernel_rfl)] at h
 obtain ⟨ps,⟨g0,t0,cs0,f0,p0,q0,hg0,ht0,hv0,hd0,_,_⟩,_,_⟩:=h
 obtain rfl:=Option.some.inj (gG.symm.trans hg0)
 obtain rfl:=Option.some.inj (tG.symm.trans ht0)
 obtain ⟨xs,m1,rfl,hx1,hlen,hn3,hel⟩:=DataW.trod_array Tryd.underlying113 hd0
 have hd1:Rows.laid_math_bits_deBruijn64tab=DataW.agg (xs.map (·.1)):=congrArg Prod.fst hx1
 have hgl:glob0=datum (xs.map (·.1)):=by
  rw [← glob_datum,hd1]
 have key:∀ c (h:c < glob0.length),W.cell? ⟨0,0 + c,none⟩=some ((cs0[c]?).getD undef)∧Reads (fun b=>b < W.heap.size) W glob0[c] ((cs0[c]?).getD undef):=by
  intro c hc
  have hc2:c < 64:=Nat.lt_of_lt_of_le hc (by decide)
  have hcx:c < xs.length:=by omega
  have h1:=hel c hc2
  rw [List.getElem?_eq_getElem hcx] at h1
  obtain ⟨k,e1,e2,_⟩:=DataW.trod_int Tryd.underlying5 h1
  rw [cG] at e1
  have e3:cs0.toList[c]? = some (.int .u8 k):=by
   have:=congrArg (fun l=>l[0]?) e1
   simpa [List.getElem?_take,List.getElem?_drop] using this
  have e4:cs0[c]? = some (.int .u8 k):=by simpa using e3
  have e5:glob0[c] = .int .u8 k:=by
   have:glob0[c]? = (datum (xs.map (·.1)))[c]?:=by rw [hgl]
   rw [List.getElem?_eq_getElem hc] at this
   simp only [datum,List.getElem?_map,List.getElem?_eq_getElem hcx,Option.map_some,Option.some.injEq] at this
   exact this.trans (by rw [e2]; rfl)
  refine ⟨?_,?_⟩
  ·rw [e4,Nat.zero_add,World.var?_cell gG hv0 c,e4]; rfl
  rw [e4]
  exact e5 ▸ (Reads.int .u8 k)
 refine .ptr _ _ _ (fun c=>(cs0[c]?).getD undef) ?_ (fun c hc=>(key c hc).1) fun c hc=>(key c hc).2
 have:=(key 0 (by decide)).1
 unfold World.cell? at this
 rcases Nat.lt_or_ge 0 W.heap.size with h | h
 ·exact h
 exfalso
 rw [Array.getElem?_eq_none h] at this
 simp at this
end Go.Proofs.YtjlmpmidchddjaaDoor
