/-
  Texts of this proof, one behind the other: what each says stands at its head. Conditions: none.
-/
import Derived.Test.YtjlmpmidchddjaaDoorB5
import Derived.Test.YtjlmpmidchddjaaDoorB3
import Derived.Test.YtjlmpmidchddjaaDoorB4
import Derived.Test.YtjlmpmidchddjaaDoorRows
import Derived.Test.YtjlmpmidchddjaaDoorB2
import Derived.ProofKit
import Derived.LaidMore
import Derived.OpenShut
import Derived.Stop.Joined

set_option linter.all false
namespace Go.Proofs.YtjlmpmidchddjaaDoor
open Go.Pv
def dgL (m:List Int) (n e:Nat):List Int:=(chT m n e).map fun r=>r.getD (clO m n e) 0
theorem degrees_c {n e:Nat} {m:List Int} (h:GT n m n e) (hc24:clN m n e≤24):FnC Tryd.prog 13 [gp n m] (.tup [.list (il (dgL m n e)),fl (0,0)]):=by
 have E:=h.2.2.cjb_eqv
 have hb:=h.2.1.big
 obtain ⟨P,p1,p2⟩:=cl_P h
 haveI:NeZero (clP m n e):=⟨by have:=P.three; omega⟩
 obtain ⟨_,_,t3,t4,_⟩:=chT_ort h
 have hwl:(whl n (cjb n (op m n) e)).getD e 0=(clO m n e:Int):=by rw [whl,rgz_get h.2.2.el]; exact (clI_lt h h.2.2.el).2
 have hol:=(clI_lt h h.2.2.el).1
 have hwll:(whl n (cjb n (op m n) e)).length=n:=rgz_len _ _
 refine fnc_of tab_ok Tryd.func13 rfl (by kernel_rfl) (by rw [Tryd.ntmps13]; exact Nat.le_add_left 1 _) ?_; rw [Tryd.ntmps13]
 refine qm ?_
 refine hk_region fun K hK=>runs_eval tab_ok ?_
 simp only [evz,fl,gp,tab,simprocAttr]
 refine fin_run ?_ (hK _ ?_)<;>clear hK K
 ·(first|exact trivial|omega|(simp only [In64] at *; omega)|(simp [In64] at *; omega)|(simp_all; done)|skip)
 refine qa (qm ?_)
 refine hk_region fun K hK=>runs_eval tab_ok ?_
 simp only [evz,fl,gp,tab,simprocAttr]
 refine fin_stop trivial (runs_call (table_c h hc24) rfl rfl rfl (by simp only [dstOk,Nat.reduceLT]) (by repeat (first|exact trivial|constructor)) (runs_eval tab_ok ?_))
 simp only [evz,fl,gp,tab,simprocAttr]
 refine fin_run ?_ (hK _ ?_)<;>clear hK K
 ·(first|exact trivial|omega|(simp only [In64] at *; omega)|(simp [In64] at *; omega)|(simp_all; done)|skip)
 refine qa (qm (qm ?_))
 refine hk_region fun K hK=>runs_eval tab_ok ?_
 simp only [evz,fl,gp,tab,simprocAttr]
 refine fin_run ?_ (hK _ ?_)<;>clear hK K
 ·(first|exact trivial|omega|(simp only [In64] at *; omega)|(simp [In64] at *; omega)|(simp_all; done)|skip)
 refine qa ?_
 refine hk_cond rfl (fun hC1=>?_) (fun hC1=>?_)
 ·cases hC1
 (try simp only [nhs] at hC1)
 refine qh (qa (qm ?_))
 refine hk_draw mixed (by kernel_rfl) fun K hK=>runs_eval tab_ok ?_
 simp only [evz,fl,gp,tab,simprocAttr]
 refine fin_stop trivial (runs_call (classOf_s h) rfl rfl rfl (by simp only [dstOk,Nat.reduceLT]) (by repeat (first|exact trivial|constructor)) (runs_eval tab_ok ?_))
 simp only [evz,fl,gp,tab,simprocAttr]
 refine fin_stop trivial (runs_call (where_s m hb E) rfl rfl rfl (by simp only [dstOk,Nat.reduceLT]) (by repeat (first|exact trivial|constructor)) (runs_eval tab_ok ?_))
 simp only [evz,fl,gp,tab,simprocAttr]
 refine fin_run ?_ (hK _ ?_)<;>clear hK K
 ·(first|exact trivial|omega|(simp only [In64] at *; omega)|(simp [In64] at *; omega)|(simp_all; done)|skip)
 refine qa (qm ?_)
 refine hk_region fun K hK=>runs_eval tab_ok ?_
 simp only [evz,fl,gp,tab,simprocAttr]
 refine fin_run trivial (hK _ ?_)<;>clear hK K
 refine qa (qm (qm ?_))
 refine hk_own0 8 rfl ?_
 refine hk_region fun K hK=>runs_eval tab_ok ?_
 simp only [evz,fl,gp,tab,simprocAttr,ll_length,t3]
 refine fin_run trivial (hK _ ?_)<;>clear hK K
 refine qa (ql ?_)
 refine hk_loop (ι:=Nat) (fun i=>⟨45,[(1,.ptr 0 0),(3,.ptr 1 0),(6,.ptr 2 0),(7,.p (.list (il (whl n (cjb n (op m n) e))))),(8,.sl 3 0 i),(25,.p (.list (ll (chT m n e)))),(26,.p (.int .i64 (clN m n e))),(27,.p (.int .i64 i))],[.own [.p (.int .i64 n),.p (.list (il m))],.own [.p (.int .i64 0),.p (.int .i64 0)],.own [.p (.int .i64 0),.p (.int .i64 0)],.own (ol ((dgL m n e).take i))]⟩) (fun i=>i≤clN m n e) (fun i=>clN m n e - i) 0 (Nat.zero_le _) [0,1,2,3] (by simp only [leq,leA,evz,fl,gp,tab,simprocAttr]<;>first|trivial|(simp [LeH,ol_nil]; done)|skip) fun i hi=>?_
 refine qm ?_
 refine hk_region fun K hK=>runs_eval tab_ok ?_
 simp only [evz,fl,gp,tab,simprocAttr]
 refine fin_run trivial (hK _ ?_)<;>clear hK K
 refine qa (qm ?_)
 refine hk_cond rfl (fun hC2=>?_) (fun hC2=>?_)
 ·(try simp only [nhs] at hC2)
  have hil:i < (chT m n e).length:=by omega
  obtain ⟨r,hr⟩:∃ r,(chT m n e).getD i []=r:=⟨_,rfl⟩
  have hrl:r.length=clN m n e:=by rw [← hr]; exact (t4 _ (mem_getD hil)).1
  have hdk:(dgL m n e).take (i + 1)=(dgL m n e).take i++[r.getD (clO m n e) 0]:=by
   rw [List.take_succ_eq_append_getElem (by simp [dgL]; omega)]
   congr 2
   simp only [dgL,List.getElem_map]
   rw [← hr]; simp [List.getD,List.getElem?_eq_getElem hil]
  have hdl:((dgL m n e).take i).length=i:=by rw [List.length_take]; simp [dgL]; omega
  have hdt:List.take i ((dgL m n e).take i)=(dgL m n e).take i:=List.take_of_length_le (by omega)
  refine qh (qa (qm (ql (qm ?_))))
  refine hk_region fun K hK=>runs_eval tab_ok ?_
  simp only [evz,fl,gp,tab,simprocAttr,ll_length,ll_get hil,hr]
  refine fin_run ?_ (hK _ ?_)<;>clear hK K
  ·omega
  refine qa ?_
  refine hk_region fun K hK=>runs_eval tab_ok ?_
  simp only [evz,fl,gp,tab,simprocAttr,hdt,hdl,il_get (show e < (whl n (cjb n (op m n) e)).length by rw [hwll]; exact h.2.2.el),hwl,il_get (show clO m n e < r.length by rw [hrl]; exact hol)]
  refine fin_stop ?_ (runs_call (oneOf_c h) rfl rfl rfl (by simp only [dstOk,Nat.reduceLT]) (by repeat (first|exact trivial|constructor)) (runs_eval tab_ok ?_))
  ·(first|exact trivial|omega|(simp only [In64] at *; omega)|(simp [In64] at *; omega)|(simp_all; done)|skip)
  simp only [evz,fl,gp,tab,simprocAttr,hdt,hdl,il_get (show e < (whl n (cjb n (op m n) e)).length by rw [hwll]; exact h.2.2.el),hwl,il_get (show clO m n e < r.length by rw [hrl]; exact hol)]
  refine fin_run ?_ (hK _ ?_)<;>clear hK K
  ·have:=h.2.2.el
   have hol2:clO m n e < clN m n e:=hol
   omega
  refine qd (qa ?_)
  refine hk_region fun K hK=>runs_eval tab_ok ?_
  simp only [evz,fl,gp,tab,simprocAttr]
  refine fin_run ?_ (hK _ ?_)<;>clear hK K
  ·(first|exact trivial|omega|(simp only [In64] at *; omega)|(simp [In64] at *; omega)|(simp_all; done)|skip)
  refine qa ?_
  refine ⟨i + 1,[0,1,2,4],by omega,by omega,?_⟩
  rw [hdk]
  simp only [leq,leA,evz,fl,gp,tab,simprocAttr]<;>first|trivial|omega|(rw [List.take_of_length_le (by rw [List.length_append]; exact Nat.le_refl _)]; done)|(rw [hdl,List.take_of_length_le (by rw [List.length_append,hdl]; exact Nat.le_refl _)]; done)|skip
 (try simp only [nhs] at hC2)
 have hil:i=clN m n e:=by omega
 have hdl:(dgL m n e).length=clN m n e:=by simp [dgL,t3]
 have hdt:(dgL m n e).take i=dgL m n e:=List.take_of_length_le (by omega)
 refine qj (qc (qc (qf (qa (qm ?_)))))
 refine hk_draw mixed (by kernel_rfl) fun K hK=>runs_eval tab_ok ?_
 simp only [evz,fl,gp,tab,simprocAttr]
 refine fin_run ?_ (hK _ ?_)<;>clear hK K
 ·(first|exact trivial|omega|(simp only [In64] at *; omega)|(simp [In64] at *; omega)|(simp_all; done)|skip)
 refine qa (qk ?_)
 simp only [Tryd.results13,enA,evz,fl,gp,tab,simprocAttr]
 rw [hdt,List.take_of_length_le (show (dgL m n e).length≤i by omega)]
 exact ⟨by omega,rfl⟩
theorem cf_no (N:Int) (m:List Int) (hm:m.length≤1000000000000000) (hf:¬ (gf N m).1=0):FnC Tryd.prog 14 [gp N m] (fl (gf N m)):=by
 refine fnc_of tab_ok Tryd.func14 rfl (by kernel_rfl) (by rw [Tryd.ntmps14]; exact Nat.le_add_left 1 _) ?_; rw [Tryd.ntmps14]
 refine qm ?_
 refine hk_region fun K hK=>runs_eval tab_ok ?_
 simp only [evz,fl,gp,tab,simprocAttr]
 refine fin_run ?_ (hK _ ?_)<;>clear hK K
 ·(first|exact trivial|omega|(simp only [In64] at *; omega)|(simp [In64] at *; omega)|(simp_all; done)|skip)
 refine qa (qm ?_)
 refine hk_region fun K hK=>runs_eval tab_ok ?_
 simp only [evz,fl,gp,tab,simprocAttr]
 refine fin_stop trivial (runs_call (gf_c N m hm) rfl rfl rfl (by simp only [dstOk,Nat.reduceLT]) (by repeat (first|exact trivial|constructor)) (runs_eval tab_ok ?_))
 simp only [evz,fl,gp,tab,simprocAttr]
 refine fin_run ?_ (hK _ ?_)<;>clear hK K
 ·(first|exact trivial|omega|(simp only [In64] at *; omega)|(simp [In64] at *; omega)|(simp_all; done)|skip)
 refine qa (qm (qm ?_))
 refine hk_region fun K hK=>runs_eval tab_ok ?_
 simp only [evz,fl,gp,tab,simprocAttr,decide_eq_false hf]
 refine fin_run ?_ (hK _ ?_)<;>clear hK K
 ·(first|exact trivial|omega|(simp only [In64] at *; omega)|(simp [In64] at *; omega)|(simp_all; done)|skip)
 refine qa ?_
 refine hk_cond rfl (fun hC1=>?_) (fun hC1=>?_)
 ·cases hC1
 refine qh (qa (qm ?_))
 refine hk_region fun K hK=>runs_eval tab_ok ?_
 simp only [evz,fl,gp,tab,simprocAttr]
 refine fin_run ?_ (hK _ ?_)<;>clear hK K
 ·(first|exact trivial|omega|(simp only [In64] at *; omega)|(simp [In64] at *; omega)|(simp_all; done)|skip)
 refine qa (qk ?_)
 simp only [Tryd.results14,enA,evz,fl,gp,tab,simprocAttr]
 all_goals ((first|exact rfl|exact ⟨rfl,rfl⟩|exact ⟨rfl,rfl,rfl⟩|exact ⟨trivial,rfl⟩|exact ⟨Nat.le_refl _,rfl⟩|trivial|(simp; done)))
theorem gf_c0 {n e:Nat} {m:List Int} (h:GT n m n e):FnC Tryd.prog 52 [gp n m] (fl (0,0)):=by
 have hb:=h.2.1.big
 have:=gf_c n m (by rw [h.2.1.len]; have:=Nat.mul_le_mul hb hb; omega)
 rwa [gf_of h] at this
theorem cf_many {n e:Nat} {m:List Int} (h:GT n m n e) (hc:24 < clN m n e):FnC Tryd.prog 14 [gp n m] (fl (2,0)):=by
 have hcl:(cst n (cjb n (op m n) e)).length=clN m n e:=rfl
 refine fnc_of tab_ok Tryd.func14 rfl (by kernel_rfl) (by rw [Tryd.ntmps14]; exact Nat.le_add_left 1 _) ?_; rw [Tryd.ntmps14]
 refine qm ?_
 refine hk_region fun K hK=>runs_eval tab_ok ?_
 simp only [evz,fl,gp,tab,simprocAttr]
 refine fin_run ?_ (hK _ ?_)<;>clear hK K
 ·(first|exact trivial|omega|(simp only [In64] at *; omega)|(simp [In64] at *; omega)|(simp_all; done)|skip)
 refine qa (qm ?_)
 refine hk_region fun K hK=>runs_eval tab_ok ?_
 simp only [evz,fl,gp,tab,simprocAttr]
 refine fin_stop trivial (runs_call (gf_c0 h) rfl rfl rfl (by simp only [dstOk,Nat.reduceLT]) (by repeat (first|exact trivial|constructor)) (runs_eval tab_ok ?_))
 simp only [evz,fl,gp,tab,simprocAttr]
 refine fin_run ?_ (hK _ ?_)<;>clear hK K
 ·(first|exact trivial|omega|(simp only [In64] at *; omega)|(simp [In64] at *; omega)|(simp_all; done)|skip)
 refine qa (qm (qm ?_))
 refine hk_region fun K hK=>runs_eval tab_ok ?_
 simp only [evz,fl,gp,tab,simprocAttr,ll_length,hcl]
 refine fin_stop trivial (runs_call (classesOf_c h) rfl rfl rfl (by simp only [dstOk,Nat.reduceLT]) (by repeat (first|exact trivial|constructor)) (runs_eval tab_ok ?_))
 simp only [evz,fl,gp,tab,simprocAttr,ll_length,hcl]
 refine fin_run ?_ (hK _ ?_)<;>clear hK K
 ·(first|exact trivial|omega|(simp only [In64] at *; omega)|(simp [In64] at *; omega)|(simp_all; done)|skip)
 refine qa ?_
 refine hk_cond rfl (fun hC1=>?_) (fun hC1=>?_)
 ·(try simp only [nhs] at hC1)
  refine hk_region fun K hK=>runs_eval tab_ok ?_
  simp only [evz,fl,gp,tab,simprocAttr]
  refine fin_stop trivial (runs_call (f_c 2 0) rfl rfl rfl (by simp only [dstOk,Nat.reduceLT]) (by repeat (first|exact trivial|constructor)) (runs_eval tab_ok ?_))
  simp only [evz,fl,gp,tab,simprocAttr]
  refine fin_run ?_ (hK _ ?_)<;>clear hK K
  ·(first|exact trivial|omega|(simp only [In64] at *; omega)|(simp [In64] at *; omega)|(simp_all; done)|skip)
  refine qa (qm ?_)
  refine hk_region fun K hK=>runs_eval tab_ok ?_
  simp only [evz,fl,gp,tab,simprocAttr]
  refine fin_run ?_ (hK _ ?_)<;>clear hK K
  ·(first|exact trivial|omega|(simp only [In64] at *; omega)|(simp [In64] at *; omega)|(simp_all; done)|skip)
  refine qa (qk ?_)
  simp only [Tryd.results14,enA,evz,fl,gp,tab,simprocAttr]
  all_goals ((first|exact rfl|exact ⟨rfl,rfl⟩|exact ⟨rfl,rfl,rfl⟩|exact ⟨trivial,rfl⟩|exact ⟨Nat.le_refl _,rfl⟩|trivial|(simp; done)))
 (try simp only [nhs] at hC1)
 omega
theorem cf_ok {n e:Nat} {m:List Int} (h:GT n m n e) (hc:clN m n e≤24):FnC Tryd.prog 14 [gp n m] (fl (0,0)):=by
 have hcl:(cst n (cjb n (op m n) e)).length=clN m n e:=rfl
 refine fnc_of tab_ok Tryd.func14 rfl (by kernel_rfl) (by rw [Tryd.ntmps14]; exact Nat.le_add_left 1 _) ?_; rw [Tryd.ntmps14]
 refine qm ?_
 refine hk_region fun K hK=>runs_eval tab_ok ?_
 simp only [evz,fl,gp,tab,simprocAttr]
 refine fin_run ?_ (hK _ ?_)<;>clear hK K
 ·(first|exact trivial|omega|(simp only [In64] at *; omega)|(simp [In64] at *; omega)|(simp_all; done)|skip)
 refine qa (qm ?_)
 refine hk_region fun K hK=>runs_eval tab_ok ?_
 simp only [evz,fl,gp,tab,simprocAttr]
 refine fin_stop trivial (runs_call (gf_c0 h) rfl rfl rfl (by simp only [dstOk,Nat.reduceLT]) (by repeat (first|exact trivial|constructor)) (runs_eval tab_ok ?_))
 simp only [evz,fl,gp,tab,simprocAttr]
 refine fin_run ?_ (hK _ ?_)<;>clear hK K
 ·(first|exact trivial|omega|(simp only [In64] at *; omega)|(simp [In64] at *; omega)|(simp_all; done)|skip)
 refine qa (qm (qm ?_))
 refine hk_region fun K hK=>runs_eval tab_ok ?_
 simp only [evz,fl,gp,tab,simprocAttr,ll_length,hcl]
 refine fin_stop trivial (runs_call (classesOf_c h) rfl rfl rfl (by simp only [dstOk,Nat.reduceLT]) (by repeat (first|exact trivial|constructor)) (runs_eval tab_ok ?_))
 simp only [evz,fl,gp,tab,simprocAttr,ll_length,hcl]
 refine fin_run ?_ (hK _ ?_)<;>clear hK K
 ·(first|exact trivial|omega|(simp only [In64] at *; omega)|(simp [In64] at *; omega)|(simp_all; done)|skip)
 refine qa ?_
 refine hk_cond rfl (fun hC1=>?_) (fun hC1=>?_)
 ·(try simp only [nhs] at hC1)
  omega
 (try simp only [nhs] at hC1)
 refine qh (qa (qm ?_))
 refine hk_region fun K hK=>runs_eval tab_ok ?_
 simp only [evz,fl,gp,tab,simprocAttr]
 refine fin_run ?_ (hK _ ?_)<;>clear hK K
 ·(first|exact trivial|omega|(simp only [In64] at *; omega)|(simp [In64] at *; omega)|(simp_all; done)|skip)
 refine qa (qk ?_)
 simp only [Tryd.results14,enA,evz,fl,gp,tab,simprocAttr]
 all_goals ((first|exact rfl|exact ⟨rfl,rfl⟩|exact ⟨rfl,rfl,rfl⟩|exact ⟨trivial,rfl⟩|exact ⟨Nat.le_refl _,rfl⟩|trivial|(simp; done)))
theorem prmB_iff {p:Nat} : prmB p=true↔1 < p∧∀ d,d < p→2≤d→¬ p % d=0:=by
 unfold prmB
 rw [Bool.and_eq_true,decide_eq_true_iff,List.all_eq_true]
 refine ⟨fun ⟨a,b⟩=>⟨a,fun d hd h2=>?_⟩,fun ⟨a,b⟩=>⟨a,fun d hd=>?_⟩⟩
 ·have:=b d (List.mem_range.2 hd)
  simp only [Bool.or_eq_true,decide_eq_true_eq] at this
  rcases this with h | h
  ·omega
  exact h
 simp only [Bool.or_eq_true,decide_eq_true_eq]
 by_cases h2:d < 2
 ·exact .inl h2
 exact .inr (b d (List.mem_range.1 hd) (by omega))
theorem md_good {n e:Nat} {m:List Int} (h:GT n m n e) {q:Nat} (hq:2 * n + 1≤q) (h1:q % expo m n e n=1 % expo m n e n) (h2:prmB q=true):clP m n e≤q:=by
 have hd:=expo_dvd h n (Nat.le_refl _)
 have hp:=h.2.1.pos
 obtain ⟨k1,k2,k3⟩:=mdK_spec hp h.2.1.big hd
 unfold clP mdR
 have hE0:0 < expo m n e n:=(expo_pos h (Nat.le_refl n)).1
 have hE:=Nat.le_of_dvd (by omega) hd
 generalize expo m n e n=E at *
 have h3:(q - 1) % E=0:=Nat.sub_mod_eq_zero_of_mod_eq h1
 obtain ⟨k,hk⟩:=Nat.dvd_of_mod_eq_zero h3
 have hk0:0 < k:=by
  refine Nat.pos_of_ne_zero fun h0=>?_
  rw [h0,Nat.mul_zero] at hk; omega
 obtain ⟨j,rfl⟩:∃ j,k=j + 1:=⟨k - 1,by omega⟩
 have hqj:q=E * (j + 1) + 1:=by omega
 have hc:mdC E n j=true:=by unfold mdC; rw [← hqj,h2,decide_eq_true (by omega)]; rfl
 have hjk:mdK E n≤j:=Nat.le_of_not_lt fun hl=>by rw [k3 j hl] at hc; cases hc
 have:=Nat.mul_le_mul_left E (show mdK E n + 1≤j + 1 by omega)
 omega
theorem refMod_c {n e:Nat} {m:List Int} (h:GT n m n e):FnC Tryd.prog 56 [gp n m] (.int .i64 (clP m n e:Nat)):=by
 have hb:=h.2.1.big
 obtain ⟨P,p1,p2⟩:=cl_P h
 have hd:=expo_dvd h n (Nat.le_refl _)
 have hp:=h.2.1.pos
 have hgood:=fun q=>md_good h (q:=q)
 have hPm:clP m n e % expo m n e n=1 % expo m n e n:=by
  unfold clP mdR
  rw [Nat.mul_add_mod]
 have hPp:prmB (clP m n e)=true:=(mdR_le hp hb hd).2.2
 have hE0:=(expo_pos h (Nat.le_refl n))
 refine fnc_of tab_ok Tryd.func56 rfl (by kernel_rfl) (by rw [Tryd.ntmps56]; exact Nat.le_add_left 1 _) ?_; rw [Tryd.ntmps56]
 refine qm ?_
 refine hk_region fun K hK=>runs_eval tab_ok ?_
 simp only [evz,fl,gp,tab,simprocAttr]
 refine fin_run ?_ (hK _ ?_)<;>clear hK K
 ·(first|exact trivial|omega|(simp only [In64] at *; omega)|(simp [In64] at *; omega)|(simp_all; done)|skip)
 refine qa (qm ?_)
 refine hk_region fun K hK=>runs_eval tab_ok ?_
 simp only [evz,fl,gp,tab,simprocAttr]
 refine fin_run trivial (hK _ ?_)<;>clear hK K
 refine qa (qm (qm ?_))
 refine hk_region fun K hK=>runs_eval tab_ok ?_
 simp only [evz,fl,gp,tab,simprocAttr]
 refine fin_run trivial (hK _ ?_)<;>clear hK K
 refine qa (ql ?_)
 refine hk_loop (ι:=Nat) (fun i=>⟨51,[(1,.ptr 0 0),(3,.p (.int .i64 (expo m n e i:Nat))),(4,.p (.int .i64 i))],[.own [.p (.int .i64 n),.p (.list (il m))]]⟩) (fun i=>i≤n) (fun i=>n - i) 0 (Nat.zero_le _) [0] (by simp only [leq,leA,evz,fl,gp,tab,simprocAttr]<;>first|rfl|trivial|skip) fun i hi=>?_
 refine qm (qm ?_)
 refine hk_region fun K hK=>runs_eval tab_ok ?_
 simp only [evz,fl,gp,tab,simprocAttr]
 refine fin_run ?_ (hK _ ?_)<;>clear hK K
 ·(first|exact trivial|omega|(simp only [In64] at *; omega)|(simp [In64] at *; omega)|(simp_all; done)|skip)
 refine qa ?_
 refine hk_cond rfl (fun hC1=>?_) (fun hC1=>?_)
 ·(try simp only [nhs] at hC1)
  have hil:i < n:=by omega
  have e1:=expo_pos h hi
  have e2:=expo_pos h (show i + 1≤n from hil)
  have o1:=Nat.le_of_dvd (by omega) (h.2.2.ord_dvd hil)
  have o2:=h.2.2.ord_pos hil
  have hL:expo m n e (i + 1)=expo m n e i / Nat.gcd (expo m n e i) (ord n (op m n) e i) * ord n (op m n) e i:=(lcm_alt _ _).symm
  have hgp:0 < Nat.gcd (expo m n e i) (ord n (op m n) e i):=Nat.gcd_pos_of_pos_left _ (by omega)
  have tdd:Int.tdiv ((expo m n e i:Nat):Int) ((Nat.gcd (expo m n e i) (ord n (op m n) e i):Nat):Int)=((expo m n e i / Nat.gcd (expo m n e i) (ord n (op m n) e i):Nat):Int):=rfl
  have hmul:((expo m n e i / Nat.gcd (expo m n e i) (ord n (op m n) e i):Nat):Int) * ((ord n (op m n) e i:Nat):Int)=((expo m n e (i + 1):Nat):Int):=by rw [hL,Int.natCast_mul]
  refine qh (qa (qm (ql ?_)))
  refine hk_draw2 mixed fun K hK=>runs2_eval tab_ok ?_
  simp only [evD,evz,fl,gp,tab,simprocAttr,tdd,hmul]
  refine fin2_stop ?_ (runs2_call (o_c h hil) rfl rfl rfl rfl (by simp only [dstOk,Nat.reduceLT]) (by repeat (first|exact trivial|constructor)) (runs2_eval tab_ok ?_))
  ·(first|exact trivial|omega|(simp only [In64] at *; omega)|(simp [In64] at *; omega)|(simp_all; done)|skip)
  simp only [evD,evz,fl,gp,tab,simprocAttr,tdd,hmul]
  refine fin2_stop ?_ (runs2_call (gcd_c (expo m n e i) (ord n (op m n) e i)) rfl rfl rfl rfl (by simp only [dstOk,Nat.reduceLT]) (by repeat (first|exact trivial|constructor)) (runs2_eval tab_ok ?_))
  ·(first|exact trivial|omega|(simp only [In64] at *; omega)|(simp [In64] at *; omega)|(simp_all; done)|skip)
  simp only [evD,evz,fl,gp,tab,simprocAttr,tdd,hmul]
  refine fin2_stop ?_ (runs2_call (o_c h hil) rfl rfl rfl rfl (by simp only [dstOk,Nat.reduceLT]) (by repeat (first|exact trivial|constructor)) (runs2_eval tab_ok ?_))
  ·have:=Nat.div_le_self (expo m n e i) (Nat.gcd (expo m n e i) (ord n (op m n) e i))
   obtain ⟨z,hz⟩:∃ z,expo m n e i / Nat.gcd (expo m n e i) (ord n (op m n) e i)=z:=⟨_,rfl⟩
   rw [hz] at this ⊢
   exact ⟨by omega,by simp only [In64]; omega⟩
  simp only [evD,evz,fl,gp,tab,simprocAttr,tdd,hmul]
  refine fin2_run ?_ (hK _ _ (by first|kernel_rfl|rfl) ?_)<;>clear hK K
  ·simp only [In64]; omega
  refine qd (qa ?_)
  refine hk_region fun K hK=>runs_eval tab_ok ?_
  simp only [evz,fl,gp,tab,simprocAttr]
  refine fin_run ?_ (hK _ ?_)<;>clear hK K
  ·(first|exact trivial|omega|(simp only [In64] at *; omega)|(simp [In64] at *; omega)|(simp_all; done)|skip)
  refine qa ?_
  refine ⟨i + 1,[0],by omega,by omega,?_⟩
  simp only [leq,leA,evz,fl,gp,tab,simprocAttr]<;>first|trivial|omega|skip
 (try simp only [nhs] at hC1)
 have hil:i=n:=by omega
 rw [hil]
 obtain ⟨E,hE⟩:∃ E,expo m n e n=E:=⟨_,rfl⟩
 rw [hE] at hPm hE0 hgood ⊢
 obtain ⟨p,hpp⟩:∃ p,clP m n e=p:=⟨_,rfl⟩
 rw [hpp] at hPm hPp hgood p1 p2 ⊢
 refine qj (qc (qc (qf (qa (qm ?_)))))
 refine hk_region fun K hK=>runs_eval tab_ok ?_
 simp only [evz,fl,gp,tab,simprocAttr]
 refine fin_run ?_ (hK _ ?_)<;>clear hK K
 ·simp only [In64]; omega
 refine qa (ql ?_)
 refine hk_loop (ι:=Nat) (fun q=>⟨51,[(3,.p (.int .i64 E)),(5,.p (.int .i64 q))],[]⟩) (fun q=>2 * n + 1≤q∧q≤p) (fun q=>p - q) (2 * n + 1) ⟨Nat.le_refl _,by omega⟩ [] (by simp only [leq,leA,evz,fl,gp,tab,simprocAttr]<;>omega) fun q hq=>?_
 obtain ⟨q1,q2⟩:=hq
 have t1:Int.tmod (q:Int) (E:Int)=((q % E:Nat):Int):=rfl
 have t2:Int.tmod 1 (E:Int)=((1 % E:Nat):Int):=rfl
 refine qm (ql (qm ?_))
 refine hk_draw mixed (by kernel_rfl) fun K hK=>runs_eval tab_ok ?_
 simp only [evz,fl,gp,tab,simprocAttr,t1,t2]
 refine fin_run ?_ (hK _ ?_)<;>clear hK K
 ·omega
 refine qa (qm (qm ?_))
 refine hk_region fun K hK=>runs_eval tab_ok ?_
 simp only [evz,fl,gp,tab,simprocAttr]
 refine fin_run trivial (hK _ ?_)<;>clear hK K
 refine qa (ql ?_)
 refine hk_loop (ι:=Nat × Bool) (fun x=>⟨51,[(3,.p (.int .i64 E)),(5,.p (.int .i64 q)),(6,.p (.bool x.2)),(7,.p (.int .i64 x.1))],[]⟩) (fun x=>2≤x.1∧x.1≤q + 2∧(x.2=true→q % E=1 % E∧∀ t,t < x.1→2≤t→¬ q % t=0)∧(x.2=false→¬ (q % E=1 % E∧prmB q=true))) (fun x=>q + 2 - x.1) (2,decide (q % E=1 % E)) ⟨Nat.le_refl _,by simp only; omega,fun hh=>⟨by simpa using hh,fun t h1 h2=>by simp only at h1; omega⟩,fun hh hh2=>by
   rw [decide_eq_true hh2.1] at hh; cases hh⟩ [] (by simp only [leq,leA,evz,fl,gp,tab,simprocAttr]<;>first|trivial|exact decide_eq_decide.2 (by omega)|skip) fun x hx=>?_
 obtain ⟨d,is⟩:=x
 obtain ⟨d1,d2,d3,d4⟩:=hx
 simp only at d1 d2 d3 d4
 have t3:Int.tmod (q:Int) (d:Int)=((q % d:Nat):Int):=rfl
 refine qm (qm ?_)
 rcases Nat.lt_or_ge d q with hdq | hdq
 ·refine hk_region fun K hK=>runs_eval tab_ok ?_
  simp only [evz,fl,gp,tab,simprocAttr,decide_eq_true (show (d:Int) < (q:Int) by omega)]
  refine fin_run trivial (hK _ ?_)<;>clear hK K
  refine qa ?_
  refine hk_cond rfl (fun hC2=>?_) (fun hC2=>?_)
  ·(try simp only [nhs] at hC2)
   have his:is=true:=by simpa using hC2
   obtain ⟨a1,a2⟩:=d3 his
   refine qh (qa (qm (ql ?_)))
   refine hk_region fun K hK=>runs_eval tab_ok ?_
   simp only [evz,fl,gp,tab,simprocAttr,t3]
   refine fin_run ?_ (hK _ ?_)<;>clear hK K
   ·omega
   refine qd (qa ?_)
   refine hk_region fun K hK=>runs_eval tab_ok ?_
   simp only [evz,fl,gp,tab,simprocAttr]
   refine fin_run ?_ (hK _ ?_)<;>clear hK K
   ·(first|exact trivial|omega|(simp only [In64] at *; omega)|(simp [In64] at *; omega)|(simp_all; done)|skip)
   refine qa ?_
   refine ⟨(d + 1,decide (¬ q % d=0)),[],⟨by simp only; omega,by simp only; omega,fun hh=>⟨a1,fun t h1 h2=>?_⟩,fun hh hh2=>?_⟩,by simp only; omega,?_⟩
   ·by_cases e1:t=d
    ·rw [e1]; simpa using hh
    exact a2 t (by simp only at h1; omega) h2
   ·have hz:q % d=0:=by simpa using hh
    exact (prmB_iff.1 hh2.2).2 d hdq d1 hz
   simp only [leq,leA,evz,fl,gp,tab,simprocAttr]<;>first|trivial|omega|(rw [← decide_not]; exact decide_eq_decide.2 (by omega))|skip
  (try simp only [nhs] at hC2)
  have his:is=false:=by simpa using hC2
  have hno:=d4 his
  refine qj (qc (qc (qf (qa (qm ?_)))))
  refine hk_region fun K hK=>runs_eval tab_ok ?_
  simp only [evz,fl,gp,tab,simprocAttr]
  refine fin_run trivial (hK _ ?_)<;>clear hK K
  refine qa ?_
  refine hk_cond rfl (fun hC3=>?_) (fun hC3=>?_)
  ·(try simp only [nhs] at hC3)
   rw [his] at hC3; cases hC3
  (try simp only [nhs] at hC3)
  refine qh (qd (qa ?_))
  refine hk_region fun K hK=>runs_eval tab_ok ?_
  simp only [evz,fl,gp,tab,simprocAttr]
  refine fin_run ?_ (hK _ ?_)<;>clear hK K
  ·(first|exact trivial|omega|(simp only [In64] at *; omega)|(simp [In64] at *; omega)|(simp_all; done)|skip)
  refine qa ?_
  have hqp:q ≠ p:=fun hh=>hno (by rw [hh]; exact ⟨hPm,hPp⟩)
  refine ⟨q + 1,[],⟨by omega,by omega⟩,by omega,by simp only [leq,leA,evz,fl,gp,tab,simprocAttr]<;>omega⟩
 refine hk_region fun K hK=>runs_eval tab_ok ?_
 simp only [evz,fl,gp,tab,simprocAttr,decide_eq_false (show ¬ (d:Int) < (q:Int) by omega)]
 refine fin_run trivial (hK _ ?_)<;>clear hK K
 refine qa ?_
 refine hk_cond rfl (fun hC2=>?_) (fun hC2=>?_)
 ·cases hC2
 refine qj (qc (qc (qf (qa (qm ?_)))))
 refine hk_region fun K hK=>runs_eval tab_ok ?_
 simp only [evz,fl,gp,tab,simprocAttr]
 refine fin_run trivial (hK _ ?_)<;>clear hK K
 refine qa ?_
 refine hk_cond rfl (fun hC3=>?_) (fun hC3=>?_)
 ·(try simp only [nhs] at hC3)
  have his:is=true:=by simpa using hC3
  obtain ⟨a1,a2⟩:=d3 his
  have hpr:prmB q=true:=prmB_iff.2 ⟨by omega,fun t h1 h2=>a2 t (by omega) h2⟩
  have:=hgood q q1 a1 hpr
  have hqp:q=p:=by omega
  refine qm ?_
  refine hk_region fun K hK=>runs_eval tab_ok ?_
  simp only [evz,fl,gp,tab,simprocAttr]
  refine fin_run trivial (hK _ ?_)<;>clear hK K
  refine qa (qk (qe (qb (qb (qe ?_)))))
  simp only [Tryd.results56,enA,evz,fl,gp,tab,simprocAttr]
  all_goals (rw [hqp])
 (try simp only [nhs] at hC3)
 have his:is=false:=by simpa using hC3
 have hno:=d4 his
 refine qh (qd (qa ?_))
 refine hk_region fun K hK=>runs_eval tab_ok ?_
 simp only [evz,fl,gp,tab,simprocAttr]
 refine fin_run ?_ (hK _ ?_)<;>clear hK K
 ·(first|exact trivial|omega|(simp only [In64] at *; omega)|(simp [In64] at *; omega)|(simp_all; done)|skip)
 refine qa ?_
 have hqp:q ≠ p:=fun hh=>hno (by rw [hh]; exact ⟨hPm,hPp⟩)
 refine ⟨q + 1,[],⟨by omega,by omega⟩,by omega,by simp only [leq,leA,evz,fl,gp,tab,simprocAttr]<;>omega⟩
end Go.Proofs.YtjlmpmidchddjaaDoor

namespace Go.Proofs.YtjlmpmidchddjaaDoor
open Go.Pv
theorem pw_uniq {α:Type} {R:α→α→Prop} (anti:∀ a b,R a b→R b a→a=b):∀ (xs ys:List α),xs.Perm ys→xs.Pairwise R→ys.Pairwise R→xs=ys
 | [],ys,h,_,_=>h.symm.eq_nil.symm
 | x :: r,[],h,_,_=>h.eq_nil
 | x :: r,y :: s,h,h1,h2=>by
  have hxy:x=y:=by
   have m1:x∈y :: s:=h.mem_iff.1 (by simp)
   have m2:y∈x :: r:=h.mem_iff.2 (by simp)
   rcases List.mem_cons.1 m1 with h3 | h3
   ·exact h3
   rcases List.mem_cons.1 m2 with h4 | h4
   ·exact h4.symm
   exact anti _ _ ((List.pairwise_cons.1 h1).1 y h4) ((List.pairwise_cons.1 h2).1 x h3)
  subst hxy
  rw [pw_uniq anti r s (List.Perm.cons_inv h) (List.pairwise_cons.1 h1).2 (List.pairwise_cons.1 h2).2]
theorem srtL_uniq {xs ys:List (List Int)} (h:xs.Perm ys) (hs:ys.Pairwise fun v w=>¬ cmpL w v < 0):ys=srtL xs:=
 pw_uniq (fun a b h1 h2=>cmpL_tot _ _ h2 h1) _ _ (h.symm.trans (srtL_perm xs)) hs (srtL_sorted xs)
theorem sq8_one:∀ e,e < 8→op sq8 8 e 0=0→e=0:=by decide +kernel
theorem sq8_rows:(clSp sq8 8 0).map (rowT (clP sq8 8 0) 8 (clO sq8 8 0) (clN sq8 8 0) (clJ sq8 8 0) (clS sq8 8 0))=[[2,2,0,15,0,0],[1,1,1,1,1,1],[1,1,1,1,16,16],[1,1,16,1,1,16],[1,1,16,1,16,1]]:=by decide +kernel
theorem sq8_N:clN sq8 8 0=5:=by decide +kernel
theorem sq8_O:clO sq8 8 0=0:=by decide +kernel
theorem sq8_dg:dgL sq8 8 0=[1,1,1,1,2]:=by
 have h:=srtL_uniq (xs:=[[2,2,0,15,0,0],[1,1,1,1,1,1],[1,1,1,1,16,16],[1,1,16,1,1,16],[1,1,16,1,16,1]]) (ys:=[[1,1,1,1,1,1],[1,1,1,1,16,16],[1,1,16,1,1,16],[1,1,16,1,16,1],[2,2,0,15,0,0]]) (by decide +kernel) (by decide +kernel)
 unfold dgL chT tabR
 rw [sq8_rows,← h,sq8_O]
 rfl
theorem charBegun_c:FnC Tryd.prog 15 [] (.bool true):=by
 obtain ⟨e,h⟩:=sq8_gt
 have he:e=0:=sq8_one e h.2.2.el (h.2.2.one_l 0 (by omega))
 subst he
 have hd:=degrees_c h (by rw [sq8_N]; omega)
 rw [sq8_dg] at hd
 refine fnc_of tab_ok Tryd.func15 rfl (by kernel_rfl) (by rw [Tryd.ntmps15]; exact Nat.le_add_left 0 _) ?_; rw [Tryd.ntmps15]
 refine qm ?_
 refine hk_region fun K hK=>runs_eval tab_ok ?_
 simp only [evz,fl,gp,tab,simprocAttr]
 refine fin_run trivial (hK _ ?_)<;>clear hK K
 refine qa (qm ?_)
 refine hk_region fun K hK=>runs_eval tab_ok ?_
 simp only [evz,fl,gp,tab,simprocAttr]
 refine fin_stop trivial (runs_call (square_c) rfl rfl rfl (by simp only [dstOk,Nat.reduceLT]) (by repeat (first|exact trivial|constructor)) (runs_eval tab_ok ?_))
 simp only [evz,fl,gp,tab,simprocAttr]
 refine fin_stop trivial (runs_call (hd) rfl rfl rfl (by simp only [dstOk,Nat.reduceLT]) (by repeat (first|exact trivial|constructor)) (runs_eval tab_ok ?_))
 simp only [evz,fl,gp,tab,simprocAttr]
 refine fin_run ?_ (hK _ ?_)<;>clear hK K
 ·(first|exact trivial|omega|(simp only [In64] at *; omega)|(simp [In64] at *; omega)|(simp_all; done)|skip)
 refine qa (qm ?_)
 refine hk_region fun K hK=>runs_eval tab_ok ?_
 simp only [evz,fl,gp,tab,simprocAttr]
 refine fin_stop trivial (runs_call (FnC.sub (args':=[.list (il [1,1,1,1,2]),.nn (il [1,1,1,1,2])]) (ints_c [1,1,1,1,2] [1,1,1,1,2] (by decide)) (And.intro (.same _) (And.intro (.nn _) trivial))) rfl rfl rfl (by simp only [dstOk,Nat.reduceLT]) (by repeat (first|exact trivial|constructor)) (runs_eval tab_ok ?_))
 simp only [evz,fl,gp,tab,simprocAttr]
 refine fin_run ?_ (hK _ ?_)<;>clear hK K
 ·(first|exact trivial|omega|(simp only [In64] at *; omega)|(simp [In64] at *; omega)|(simp_all; done)|skip)
 refine qa (qk ?_)
 simp only [Tryd.results15,enA,evz,fl,gp,tab,simprocAttr]
 all_goals ((first|exact rfl|exact ⟨rfl,rfl⟩|exact ⟨rfl,rfl,rfl⟩|exact ⟨trivial,rfl⟩|exact ⟨Nat.le_refl _,rfl⟩|trivial|(simp; done)))
theorem inverses_c {n e:Nat} {m:List Int} (h:GT n m n e):FnC Tryd.prog 19 [gp n m,.list (ll (clL m n e))] (.list (il ((List.range (clN m n e)).map fun i=>(clJ m n e i:Int)))):=by
 have hb:=h.2.1.big
 have hll:(clL m n e).length=clN m n e:=rfl
 have hcn:=clN_le h
 have hlw:∀ w∈clL m n e,w.length≤1000000:=fun w hw=>by
  obtain ⟨i,hi,e1⟩:=List.getElem_of_mem hw
  have h2:=(clS_pos h hi).2.1
  unfold clS at h2
  have e2:(clL m n e).getD i []=w:=by rw [← e1]; simp [List.getD,List.getElem?_eq_getElem hi]
  rw [e2] at h2; omega
 refine fnc_of tab_ok Tryd.func19 rfl (by kernel_rfl) (by rw [Tryd.ntmps19]; exact Nat.le_add_left 2 _) ?_; rw [Tryd.ntmps19]
 refine qm ?_
 refine hk_region fun K hK=>runs_eval tab_ok ?_
 simp only [evz,fl,gp,tab,simprocAttr]
 refine fin_run ?_ (hK _ ?_)<;>clear hK K
 ·(first|exact trivial|omega|(simp only [In64] at *; omega)|(simp [In64] at *; omega)|(simp_all; done)|skip)
 refine qa (qm ?_)
 refine hk_region fun K hK=>runs_eval tab_ok ?_
 simp only [evz,fl,gp,tab,simprocAttr]
 refine fin_run trivial (hK _ ?_)<;>clear hK K
 refine qa (qm (qm ?_))
 refine hk_own0 5 rfl ?_
 refine hk_region fun K hK=>runs_eval tab_ok ?_
 simp only [evz,fl,gp,tab,simprocAttr]
 refine fin_run trivial (hK _ ?_)<;>clear hK K
 refine qa (ql ?_)
 refine hk_loop (ι:=Nat) (fun i=>⟨27,[(1,.p (.list (ll (clL m n e)))),(2,.ptr 0 0),(5,.sl 1 0 i),(6,.p (.int .i64 i))],[.own [.p (.int .i64 n),.p (.list (il m))],.own (ol ((List.range i).map fun i=>(clJ m n e i:Int)))]⟩) (fun i=>i≤clN m n e) (fun i=>clN m n e - i) 0 (Nat.zero_le _) [0,1] (by simp only [leq,leA,evz,fl,gp,tab,simprocAttr]<;>first|trivial|(simp [LeH,ol_nil]; done)|skip) fun i hi=>?_
 refine qm (qm ?_)
 refine hk_region fun K hK=>runs_eval tab_ok ?_
 simp only [evz,fl,gp,tab,simprocAttr,ll_length,hll]
 refine fin_run trivial (hK _ ?_)<;>clear hK K
 refine qa ?_
 refine hk_cond rfl (fun hC1=>?_) (fun hC1=>?_)
 ·(try simp only [nhs] at hC1)
  have hil:i < clN m n e:=by omega
  obtain ⟨s1,s2,s3⟩:=clS_pos h hil
  have hx:=(clG h hil).1
  obtain ⟨Ci,hCi⟩:∃ Ci,(clL m n e).getD i []=Ci:=⟨_,rfl⟩
  have hCl:0 < Ci.length:=by rw [← hCi]; exact s1
  rw [hCi] at s3
  have hi1:=i_c h.2.1 hx
  have hii:iI m n (clX m n e i)=((iv n (op m n) e (clX m n e i):Nat):Int):=h.iI hx
  have hwc:=whichOf_r (clL m n e) ((iv n (op m n) e (clX m n e i):Nat):Int) (by omega) hlw
  rw [(clI_lt h (h.2.2.iv_lt hx)).2] at hwc
  have hsn:(List.range i).map (fun i=>(clJ m n e i:Int))++[(clI m n e (iv n (op m n) e (clX m n e i)):Int)]=(List.range (i + 1)).map fun i=>(clJ m n e i:Int):=by rw [List.range_succ,List.map_append]; rfl
  have hml:((List.range i).map fun i=>(clJ m n e i:Int)).length=i:=by simp
  have hdt:List.take i ((List.range i).map fun i=>(clJ m n e i:Int))=(List.range i).map fun i=>(clJ m n e i:Int):=List.take_of_length_le (by omega)
  refine qh (qa (qm (ql ?_)))
  refine hk_draw2 mixed fun K hK=>runs2_eval tab_ok ?_
  simp only [evD,evz,fl,gp,tab,simprocAttr,hml,hdt,hsn,ll_length,hll,ll_get (show i < (clL m n e).length from hil),hCi,il_get hCl,s3]
  refine fin2_stop ?_ (runs2_call (hi1) rfl rfl rfl rfl (by simp only [dstOk,Nat.reduceLT]) (by repeat (first|exact trivial|constructor)) (runs2_eval tab_ok ?_))
  ·(first|exact trivial|omega|(simp only [In64] at *; omega)|(simp [In64] at *; omega)|(simp_all; done)|skip)
  simp only [evD,evz,fl,gp,tab,simprocAttr,hii,hml,hdt,hsn,ll_length,hll,ll_get (show i < (clL m n e).length from hil),hCi,il_get hCl,s3]
  refine fin2_stop ?_ (runs2_call (hwc) rfl rfl rfl rfl (by simp only [dstOk,Nat.reduceLT]) (by repeat (first|exact trivial|constructor)) (runs2_eval tab_ok ?_))
  ·(first|exact trivial|omega|(simp only [In64] at *; omega)|(simp [In64] at *; omega)|(simp_all; done)|skip)
  simp only [evD,evz,fl,gp,tab,simprocAttr,hml,hdt,hsn,ll_length,hll,ll_get (show i < (clL m n e).length from hil),hCi,il_get hCl,s3]
  refine fin2_run ?_ (hK _ _ (by first|kernel_rfl|rfl) ?_)<;>clear hK K
  ·omega
  refine qd (qa ?_)
  refine hk_region fun K hK=>runs_eval tab_ok ?_
  simp only [evz,fl,gp,tab,simprocAttr]
  refine fin_run ?_ (hK _ ?_)<;>clear hK K
  ·(first|exact trivial|omega|(simp only [In64] at *; omega)|(simp [In64] at *; omega)|(simp_all; done)|skip)
  refine qa ?_
  refine ⟨i + 1,[0,2],by omega,by omega,?_⟩
  have hml2:((List.range (i + 1)).map fun i=>(clJ m n e i:Int)).length=i + 1:=by simp
  simp only [leq,leA,evz,fl,gp,tab,simprocAttr]<;>first|trivial|omega|(rw [List.take_of_length_le (by omega)]; done)|skip
 (try simp only [nhs] at hC1)
 have hil:i=clN m n e:=by omega
 have hml:((List.range i).map fun i=>(clJ m n e i:Int)).length=i:=by simp
 refine qj (qc (qc (qf (qa (qm ?_)))))
 refine hk_region fun K hK=>runs_eval tab_ok ?_
 simp only [evz,fl,gp,tab,simprocAttr]
 refine fin_run trivial (hK _ ?_)<;>clear hK K
 refine qa (qk ?_)
 simp only [Tryd.results19,enA,evz,fl,gp,tab,simprocAttr]
 rw [List.take_of_length_le (by omega)]
 exact ⟨by omega,by rw [hil]⟩
theorem tableOf_no (N:Int) (m:List Int) (f:PV) (c a:Int) (hc:¬ c=0) (hf:FnC Tryd.prog 14 [gp N m] (fl (c,a))):FnC Tryd.prog 16 [gp N m] (.tup [.int .i64 0,.list [],.list [],.bool false]):=by
 refine fnc_of tab_ok Tryd.func16 rfl (by kernel_rfl) (by rw [Tryd.ntmps16]; exact Nat.le_add_left 1 _) ?_; rw [Tryd.ntmps16]
 refine qm ?_
 refine hk_region fun K hK=>runs_eval tab_ok ?_
 simp only [evz,fl,gp,tab,simprocAttr]
 refine fin_run ?_ (hK _ ?_)<;>clear hK K
 ·(first|exact trivial|omega|(simp only [In64] at *; omega)|(simp [In64] at *; omega)|(simp_all; done)|skip)
 refine qa (qm (qm ?_))
 refine hk_region fun K hK=>runs_eval tab_ok ?_
 simp only [evz,fl,gp,tab,simprocAttr]
 refine fin_stop trivial (runs_call (hf) rfl rfl rfl (by simp only [dstOk,Nat.reduceLT]) (by repeat (first|exact trivial|constructor)) (runs_eval tab_ok ?_))
 simp only [evz,fl,gp,tab,simprocAttr]
 refine fin_run ?_ (hK _ ?_)<;>clear hK K
 ·(first|exact trivial|omega|(simp only [In64] at *; omega)|(simp [In64] at *; omega)|(simp_all; done)|skip)
 refine qa ?_
 refine hk_cond rfl (fun hC1=>?_) (fun hC1=>?_)
 ·(try simp only [nhs] at hC1)
  refine qm ?_
  refine hk_region fun K hK=>runs_eval tab_ok ?_
  simp only [evz,fl,gp,tab,simprocAttr]
  refine fin_run trivial (hK _ ?_)<;>clear hK K
  refine qa (qk (qb ?_))
  simp only [Tryd.results16,enA,evz,fl,gp,tab,simprocAttr]
  all_goals ((first|exact rfl|exact ⟨rfl,rfl⟩|exact ⟨rfl,rfl,rfl⟩|exact ⟨trivial,rfl⟩|exact ⟨Nat.le_refl _,rfl⟩|trivial|(simp; done)))
 (try simp only [nhs] at hC1)
 exact absurd hC1 hc
theorem tableOf_c {n e:Nat} {m:List Int} (h:GT n m n e) (hc24:clN m n e≤24):FnC Tryd.prog 16 [gp n m] (.tup [.int .i64 (clP m n e:Nat),.list (ll (chT m n e)),.list (ll (clL m n e)),.bool true]):=by
 obtain ⟨P,p1,p2⟩:=cl_P h
 haveI:NeZero (clP m n e):=⟨by have:=P.three; omega⟩
 obtain ⟨_,_,t3,t4,_⟩:=chT_ort h
 have hll:(clL m n e).length=clN m n e:=rfl
 refine fnc_of tab_ok Tryd.func16 rfl (by kernel_rfl) (by rw [Tryd.ntmps16]; exact Nat.le_add_left 1 _) ?_; rw [Tryd.ntmps16]
 refine qm ?_
 refine hk_region fun K hK=>runs_eval tab_ok ?_
 simp only [evz,fl,gp,tab,simprocAttr]
 refine fin_run ?_ (hK _ ?_)<;>clear hK K
 ·(first|exact trivial|omega|(simp only [In64] at *; omega)|(simp [In64] at *; omega)|(simp_all; done)|skip)
 refine qa (qm (qm ?_))
 refine hk_region fun K hK=>runs_eval tab_ok ?_
 simp only [evz,fl,gp,tab,simprocAttr]
 refine fin_stop trivial (runs_call (cf_ok h hc24) rfl rfl rfl (by simp only [dstOk,Nat.reduceLT]) (by repeat (first|exact trivial|constructor)) (runs_eval tab_ok ?_))
 simp only [evz,fl,gp,tab,simprocAttr]
 refine fin_run ?_ (hK _ ?_)<;>clear hK K
 ·(first|exact trivial|omega|(simp only [In64] at *; omega)|(simp [In64] at *; omega)|(simp_all; done)|skip)
 refine qa ?_
 refine hk_cond rfl (fun hC1=>?_) (fun hC1=>?_)
 ·(try simp only [nhs] at hC1)
  first|exact absurd rfl hC1|exact hC1.elim|cases hC1|(simp at hC1; done)
 (try simp only [nhs] at hC1)
 refine qh (qa (qm ?_))
 refine hk_region fun K hK=>runs_eval tab_ok ?_
 simp only [evz,fl,gp,tab,simprocAttr]
 refine fin_stop trivial (runs_call (table_c h hc24) rfl rfl rfl (by simp only [dstOk,Nat.reduceLT]) (by repeat (first|exact trivial|constructor)) (runs_eval tab_ok ?_))
 simp only [evz,fl,gp,tab,simprocAttr]
 refine fin_run ?_ (hK _ ?_)<;>clear hK K
 ·(first|exact trivial|omega|(simp only [In64] at *; omega)|(simp [In64] at *; omega)|(simp_all; done)|skip)
 refine qa (qm ?_)
 refine hk_region fun K hK=>runs_eval tab_ok ?_
 simp only [evz,fl,gp,tab,simprocAttr]
 refine fin_stop trivial (runs_call (classesOf_c h) rfl rfl rfl (by simp only [dstOk,Nat.reduceLT]) (by repeat (first|exact trivial|constructor)) (runs_eval tab_ok ?_))
 simp only [evz,fl,gp,tab,simprocAttr]
 refine fin_run ?_ (hK _ ?_)<;>clear hK K
 ·(first|exact trivial|omega|(simp only [In64] at *; omega)|(simp [In64] at *; omega)|(simp_all; done)|skip)
 refine qa (qm (qm ?_))
 refine hk_region fun K hK=>runs_eval tab_ok ?_
 simp only [evz,fl,gp,tab,simprocAttr,ll_length,hll,t3]
 refine fin_stop trivial (runs_call (refMod_c h) rfl rfl rfl (by simp only [dstOk,Nat.reduceLT]) (by repeat (first|exact trivial|constructor)) (runs_eval tab_ok ?_))
 simp only [evz,fl,gp,tab,simprocAttr,ll_length,hll,t3]
 refine fin_run ?_ (hK _ ?_)<;>clear hK K
 ·(first|exact trivial|omega|(simp only [In64] at *; omega)|(simp [In64] at *; omega)|(simp_all; done)|skip)
 refine qa ?_
 refine hk_cond rfl (fun hC2=>?_) (fun hC2=>?_)
 ·(try simp only [nhs] at hC2)
  first|exact absurd rfl hC2|omega|cases hC2
 (try simp only [nhs] at hC2)
 refine qh (qa (qm (qm ?_)))
 refine hk_region fun K hK=>runs_eval tab_ok ?_
 simp only [evz,fl,gp,tab,simprocAttr]
 refine fin_run trivial (hK _ ?_)<;>clear hK K
 refine qa (ql ?_)
 refine hk_loop (ι:=Nat) (fun i=>⟨82,[(6,.p (.int .i64 (clP m n e:Nat))),(7,.p (.list (ll (chT m n e)))),(9,.p (.list (ll (clL m n e)))),(10,.p (.int .i64 i))],[]⟩) (fun i=>i≤clN m n e) (fun i=>clN m n e - i) 0 (Nat.zero_le _) [] (by simp only [leq,leA,evz,fl,gp,tab,simprocAttr]<;>first|trivial|skip) fun i hi=>?_
 refine qm (qm ?_)
 refine hk_region fun K hK=>runs_eval tab_ok ?_
 simp only [evz,fl,gp,tab,simprocAttr,ll_length,t3]
 refine fin_run trivial (hK _ ?_)<;>clear hK K
 refine qa ?_
 refine hk_cond rfl (fun hC3=>?_) (fun hC3=>?_)
 ·(try simp only [nhs] at hC3)
  have hil:i < (chT m n e).length:=by omega
  obtain ⟨r,hr⟩:∃ r,(chT m n e).getD i []=r:=⟨_,rfl⟩
  have hrl:r.length=clN m n e:=by rw [← hr]; exact (t4 _ (mem_getD hil)).1
  have hrg:rgp (clP m n e) r:=by rw [← hr]; exact (t4 _ (mem_getD hil)).2
  refine qh (qa (qm (ql (qm (qm ?_)))))
  refine hk_region fun K hK=>runs_eval tab_ok ?_
  simp only [evz,fl,gp,tab,simprocAttr,ll_length,ll_get hil,hr,il_length,hrl,hll]
  refine fin_run ?_ (hK _ ?_)<;>clear hK K
  ·(first|exact trivial|omega|(simp only [In64] at *; omega)|(simp [In64] at *; omega)|(simp_all; done)|skip)
  refine qa ?_
  refine hk_cond rfl (fun hC4=>?_) (fun hC4=>?_)
  ·(try simp only [nhs] at hC4)
   cases hC4
  (try simp only [nhs] at hC4)
  refine qh (qa (qm ?_))
  refine hk_region fun K hK=>runs_eval tab_ok ?_
  simp only [evz,fl,gp,tab,simprocAttr]
  refine fin_run trivial (hK _ ?_)<;>clear hK K
  refine qa (ql ?_)
  refine hk_loop (ι:=Nat) (fun k=>⟨82,[(6,.p (.int .i64 (clP m n e:Nat))),(7,.p (.list (ll (chT m n e)))),(9,.p (.list (ll (clL m n e)))),(10,.p (.int .i64 i)),(11,.p (.int .i64 k))],[]⟩) (fun k=>k≤clN m n e) (fun k=>clN m n e - k) 0 (Nat.zero_le _) [] (by simp only [leq,leA,evz,fl,gp,tab,simprocAttr]<;>first|trivial|skip) fun k hk=>?_
  refine qm (qm ?_)
  refine hk_region fun K hK=>runs_eval tab_ok ?_
  simp only [evz,fl,gp,tab,simprocAttr,ll_length,hll]
  refine fin_run trivial (hK _ ?_)<;>clear hK K
  refine qa ?_
  refine hk_cond rfl (fun hC5=>?_) (fun hC5=>?_)
  ·(try simp only [nhs] at hC5)
   have hkl:k < r.length:=by omega
   have hrk:=hrg k
   refine qh (qa (qm (ql (qm ?_))))
   refine hk_region fun K hK=>runs_eval tab_ok ?_
   simp only [evz,fl,gp,tab,simprocAttr,ll_length,ll_get hil,hr,il_get hkl,decide_eq_false (show ¬ r.getD k 0 < 0 by omega)]
   refine fin_run ?_ (hK _ ?_)<;>clear hK K
   ·omega
   refine qa ?_
   refine hk_cond rfl (fun hC6=>?_) (fun hC6=>?_)
   ·(try simp only [nhs] at hC6)
    omega
   (try simp only [nhs] at hC6)
   refine qh (qd (qa ?_))
   refine hk_region fun K hK=>runs_eval tab_ok ?_
   simp only [evz,fl,gp,tab,simprocAttr]
   refine fin_run ?_ (hK _ ?_)<;>clear hK K
   ·(first|exact trivial|omega|(simp only [In64] at *; omega)|(simp [In64] at *; omega)|(simp_all; done)|skip)
   refine qa ?_
   refine ⟨k + 1,[],by omega,by omega,by simp only [leq,leA,evz,fl,gp,tab,simprocAttr]<;>first|trivial|omega|skip⟩
  (try simp only [nhs] at hC5)
  refine qj (qc (qc (qf (qd (qa ?_)))))
  refine hk_region fun K hK=>runs_eval tab_ok ?_
  simp only [evz,fl,gp,tab,simprocAttr]
  refine fin_run ?_ (hK _ ?_)<;>clear hK K
  ·(first|exact trivial|omega|(simp only [In64] at *; omega)|(simp [In64] at *; omega)|(simp_all; done)|skip)
  refine qa ?_
  refine ⟨i + 1,[],by omega,by omega,by simp only [leq,leA,evz,fl,gp,tab,simprocAttr]<;>first|trivial|omega|skip⟩
 (try simp only [nhs] at hC3)
 refine qj (qc (qc (qf (qa (qm ?_)))))
 refine hk_region fun K hK=>runs_eval tab_ok ?_
 simp only [evz,fl,gp,tab,simprocAttr]
 refine fin_run trivial (hK _ ?_)<;>clear hK K
 refine qa (qk ?_)
 simp only [Tryd.results16,enA,evz,fl,gp,tab,simprocAttr]
 all_goals ((first|exact rfl|exact ⟨rfl,rfl⟩|exact ⟨rfl,rfl,rfl⟩|exact ⟨trivial,rfl⟩|exact ⟨Nat.le_refl _,rfl⟩|trivial|(simp; done)))
end Go.Proofs.YtjlmpmidchddjaaDoor

namespace Go.Proofs.YtjlmpmidchddjaaDoor
open Go.Pv
open Lean.Grind
attribute [local instance] Lean.Grind.Semiring.natCast Lean.Grind.Ring.intCast
section
variable {K:Type} [CommRing K] {p:Nat}
end
end Go.Proofs.YtjlmpmidchddjaaDoor

namespace Go.Proofs.YtjlmpmidchddjaaDoor
open Lean.Grind
attribute [local instance] Lean.Grind.Semiring.natCast Lean.Grind.Ring.intCast
section
variable {n e c:Nat} {f:Nat→Nat→Nat} {cI xx:Nat→Nat} {K:Type} [CommRing K]
theorem GC.bar (h:GC n f e c cI xx) {t:Nat→K} (ht:Chr n f e cI t):Chr n f e cI (fun a=>t (iv n f e a)):=by
 have G:=h.G
 refine ⟨fun a b ha hb hab=>ht.cl _ _ (G.iv_lt ha) (G.iv_lt hb) ((h.ivc ha hb).1 hab),by show t (iv n f e e)=1; rw [G.iv_one]; exact ht.one,fun a b ha hb=>?_⟩
 rw [← ht.mul _ _ (G.iv_lt ha) (G.iv_lt hb)]
 refine sm_congr fun y hy=>?_
 have hj:=G.iv_lt hy
 have e1:iv n f e (f (cjg n f e y a) b)=f (iv n f e b) (cjg n f e y (iv n f e a)):=by
  rw [G.iv_prod (h.cjl hy ha) hb]
  congr 1
  unfold cjg
  rw [G.iv_prod (G.cl _ _ hj ha) hy,G.iv_prod hj ha,G.iv_iv hy,G.assoc _ _ _ hj (G.iv_lt ha) hy]
 show t (iv n f e (f (cjg n f e y a) b))=t (f (cjg n f e y (iv n f e a)) (iv n f e b))
 rw [e1,h.cjT ht.cl (G.iv_lt hb) (h.cjl hy (G.iv_lt ha))]
theorem GC.real (h:GC n f e c cI xx) (F:Fld K) (hn:(n:K) ≠ 0) {t:Nat→K} (ht:Chr n f e cI t):(∀ a,a < n→t a=t (iv n f e a))∨prT n f e t (fun a=>t (iv n f e a)) e=0:=by
 by_cases hr:∀ a,a < n→t a=t (iv n f e a)
 ·exact .inl hr
 refine .inr ?_
 have:∃ a,a < n∧t a ≠ t (iv n f e a):=Classical.byContradiction fun hc=>hr fun a ha=>Classical.byContradiction fun hc2=>hc ⟨a,ha,hc2⟩
 obtain ⟨a,ha,hne⟩:=this
 exact h.orth F hn ht (h.bar ht) ha hne h.G.el
end
section
variable {n e:Nat} {m:List Int}
theorem clJJ (h:GT n m n e) {i:Nat} (hi:i < clN m n e):clJ m n e (clJ m n e i)=i:=by
 have C:=gc_of h
 have G:=h.2.2
 have hx:=(clG h hi).1
 have hjl:=(clI_lt h (G.iv_lt hx)).1
 have hxj:=(clG h hjl).1
 have h1:clI m n e (clX m n e (clJ m n e i))=clI m n e (iv n (op m n) e (clX m n e i)):=C.cx _ hjl
 have h2:=(C.ivc hxj (G.iv_lt hx)).1 h1
 rw [G.iv_iv hx] at h2
 exact h2.trans (C.cx i hi)
variable [NeZero (clP m n e)]
theorem chT_real (h:GT n m n e):∀ r∈chT m n e,((∀ k,k < clN m n e→r.getD k 0=r.getD (clJ m n e k) 0)∨((∃ k,k < clN m n e∧¬ r.getD k 0=r.getD (clJ m n e k) 0)∧sm (fun k=>((clS m n e k:Nat):Fin (clP m n e)) * vc r k * vc r k) (clN m n e)=0)):=by
 obtain ⟨lam,Fm⟩:=(gt2_of h).fam
 have H:=gt2_of h
 have C:=H.C
 have G:=h.2.2
 have hSl:(clSp m n e).length=clN m n e:=Fm.len
 obtain ⟨_,_,_,t4,_⟩:=chT_ort h
 have hJl:∀ i,i < clN m n e→clJ m n e i < clN m n e:=fun i hi=>(clI_lt h (h.2.2.iv_lt (clG h hi).1)).1
 intro r hr
 have hrg:=(t4 r hr).2
 obtain ⟨s,hs,hrs⟩:=List.mem_map.1 ((chT_perm m n e).mem_iff.1 hr)
 obtain ⟨q,hq,e1⟩:=List.getElem_of_mem hs
 have hqc:q < clN m n e:=by omega
 have hrow:=row_of h Fm hqc
 have e2:(spsR (clP m n e) (clTT m n e) [startR (clN m n e) (clN m n e)] (clN m n e)).getD q []=s:=by
  show (clSp m n e).getD q []=s
  rw [← e1]; simp [List.getD,List.getElem?_eq_getElem hq]
 rw [e2] at hrow
 obtain ⟨d,hdd⟩:∃ d:Fin (clP m n e),d=((chD (clP m n e) n (clO m n e) (clN m n e) (clJ m n e) (clS m n e) s:Nat):Fin (clP m n e)):=⟨_,rfl⟩
 have hd2:=hrow.dd
 have hd0:d ≠ 0:=fun h0=>H.nz (by
  rw [← hd2]
  show ((chD (clP m n e) n (clO m n e) (clN m n e) (clJ m n e) (clS m n e) s:Nat):Fin (clP m n e)) * ((chD (clP m n e) n (clO m n e) (clN m n e) (clJ m n e) (clS m n e) s:Nat):Fin (clP m n e)) * _=0
  rw [← hdd,h0]; grind)
 have hv:∀ i,i < clN m n e→(vc r i:Fin (clP m n e))=d * clT (clI m n e) (fun i=>((ivR (clP m n e) (clS m n e i:Nat):Int):Fin (clP m n e))) (lam q) (clX m n e i):=fun i hi=>by
  rw [← hrs]
  unfold clRw
  rw [rwI_K H.R hi,clT_x H (lam q) hi]
  have hw:(vc (chW (clP m n e) (clO m n e) s):Nat→Fin (clP m n e))=lam q:=hrow.w
  rw [hw,← hdd]; grind
 have hvJ:∀ i,i < clN m n e→(vc r (clJ m n e i):Fin (clP m n e))=d * clT (clI m n e) (fun i=>((ivR (clP m n e) (clS m n e i:Nat):Int):Fin (clP m n e))) (lam q) (iv n (op m n) e (clX m n e i)):=fun i hi=>by
  rw [hv _ (hJl i hi)]
  congr 1
  exact H.clc (lam q) _ _ (clG h (hJl i hi)).1 (G.iv_lt (clG h hi).1) (C.cx _ (hJl i hi))
 have hchr:=Fm.chr q hqc
 rcases C.real H.R.fld H.nz hchr with hreal | hz
 ·left
  intro k hk
  have h1:=hv k hk
  have h2:=hvJ k hk
  rw [← hreal _ (clG h hk).1,← h1] at h2
  have h3:=f_ne (p:=clP m n e) (x:=(r.getD k 0).toNat) (y:=(r.getD (clJ m n e k) 0).toNat) (by
   have a1:=hrg k
   have a2:=hrg (clJ m n e k)
   have b1:((((r.getD k 0).toNat:Nat):Int):Fin (clP m n e))=(((r.getD k 0).toNat:Nat):Fin (clP m n e)):=H.R.cst _
   have b2:((((r.getD (clJ m n e k) 0).toNat:Nat):Int):Fin (clP m n e))=(((r.getD (clJ m n e k) 0).toNat:Nat):Fin (clP m n e)):=H.R.cst _
   rw [Int.toNat_of_nonneg a1.1] at b1
   rw [Int.toNat_of_nonneg a2.1] at b2
   rw [← b1,← b2]
   exact h2.symm)
  have a1:=hrg k
  have a2:=hrg (clJ m n e k)
  rw [Nat.mod_eq_of_lt (by omega),Nat.mod_eq_of_lt (by omega)] at h3
  omega
 right
 have hpair:sm (fun k=>((clS m n e k:Nat):Fin (clP m n e)) * vc r k * vc r k) (clN m n e)=d * d * prT n (op m n) e (clT (clI m n e) (fun i=>((ivR (clP m n e) (clS m n e i:Nat):Int):Fin (clP m n e))) (lam q)) (fun a=>clT (clI m n e) (fun i=>((ivR (clP m n e) (clS m n e i:Nat):Int):Fin (clP m n e))) (lam q) (iv n (op m n) e a)) e:=by
  rw [H.pairC (H.clc _) (C.bar hchr).cl,← sm_mul]
  refine sm_congr fun k hk=>?_
  rw [hv k hk,cl_kap h hk,G.iv_iv (clG h hk).1]; grind
 refine ⟨Classical.byContradiction fun hno=>?_,by rw [hpair,hz]; grind⟩
 have hsame:∀ k,k < clN m n e→r.getD k 0=r.getD (clJ m n e k) 0:=fun k hk=>Classical.byContradiction fun hc=>hno ⟨k,hk,hc⟩
 have hz2:prT n (op m n) e (clT (clI m n e) (fun i=>((ivR (clP m n e) (clS m n e i:Nat):Int):Fin (clP m n e))) (lam q)) (fun a=>clT (clI m n e) (fun i=>((ivR (clP m n e) (clS m n e i:Nat):Int):Fin (clP m n e))) (lam q) (iv n (op m n) e a)) e=prT n (op m n) e (clT (clI m n e) (fun i=>((ivR (clP m n e) (clS m n e i:Nat):Int):Fin (clP m n e))) (lam q)) (clT (clI m n e) (fun i=>((ivR (clP m n e) (clS m n e i:Nat):Int):Fin (clP m n e))) (lam q)) e:=by
  rw [H.pairC (H.clc _) (C.bar hchr).cl,H.pairC (H.clc _) (H.clc _)]
  refine sm_congr fun k hk=>?_
  have h1:=hv k hk
  have h2:=hvJ k hk
  have h3:(vc r k:Fin (clP m n e))=vc r (clJ m n e k):=by unfold vc; rw [hsame k hk]
  rw [h1,h2] at h3
  rw [G.iv_iv (clG h hk).1]
  have h4:d * (clT (clI m n e) (fun i=>((ivR (clP m n e) (clS m n e i:Nat):Int):Fin (clP m n e))) (lam q) (clX m n e k) - clT (clI m n e) (fun i=>((ivR (clP m n e) (clS m n e i:Nat):Int):Fin (clP m n e))) (lam q) (iv n (op m n) e (clX m n e k)))=0:=by grind
  rcases H.R.fld.mul h4 with h5 | h5
  ·exact absurd h5 hd0
  have h6:clT (clI m n e) (fun i=>((ivR (clP m n e) (clS m n e i:Nat):Int):Fin (clP m n e))) (lam q) (clX m n e k)=clT (clI m n e) (fun i=>((ivR (clP m n e) (clS m n e i:Nat):Int):Fin (clP m n e))) (lam q) (iv n (op m n) e (clX m n e k)):=by grind
  rw [← h6]
 rw [hz] at hz2
 exact Fm.nz q hqc hz2.symm
end
end Go.Proofs.YtjlmpmidchddjaaDoor

namespace Go.Proofs.YtjlmpmidchddjaaDoor
open Go.Pv
def brA (J:Nat→Nat):Nat→Nat
 | 0=>0
 | i + 1=>brA J i + if J i=i then 1 else 0
def brS (r:List Int) (J:Nat→Nat):Nat→Bool
 | 0=>true
 | c + 1=>brS r J c && decide (r.getD c 0=r.getD (J c) 0)
def brB (R:List (List Int)) (J:Nat→Nat) (k:Nat):Nat→Nat
 | 0=>0
 | i + 1=>brB R J k i + if brS (R.getD i []) J k=true then 1 else 0
theorem brA_le (J:Nat→Nat):∀ i,brA J i≤i
 | 0=>Nat.le_refl _
 | i + 1=>by have:=brA_le J i; rw [brA]; split<;>omega
theorem brB_le (R:List (List Int)) (J:Nat→Nat) (k:Nat):∀ i,brB R J k i≤i
 | 0=>Nat.le_refl _
 | i + 1=>by have:=brB_le R J k i; rw [brB]; split<;>omega
theorem brS_iff (r:List Int) (J:Nat→Nat):∀ k,brS r J k=true↔∀ c,c < k→r.getD c 0=r.getD (J c) 0
 | 0=>⟨fun _ c hc=>absurd hc (Nat.not_lt_zero _),fun _=>rfl⟩
 | k + 1=>by
  rw [brS,Bool.and_eq_true,brS_iff r J k,decide_eq_true_iff]
  refine ⟨fun ⟨a,b⟩ c hc=>?_,fun h=>⟨fun c hc=>h c (by omega),h k (by omega)⟩⟩
  by_cases e:c=k
  ·rw [e]; exact b
  exact a c (by omega)
open Lean.Grind
attribute [local instance] Lean.Grind.Semiring.natCast Lean.Grind.Ring.intCast
section
variable {K:Type} [CommRing K]
theorem brA_K (J:Nat→Nat):∀ i,((brA J i:Nat):K)=sm (fun t=>if J t=t then (1:K) else 0) i
 | 0=>Semiring.natCast_zero
 | i + 1=>by
  rw [brA,sm,← brA_K J i,Semiring.natCast_add]
  split
  ·rw [Semiring.natCast_one]
  rw [Semiring.natCast_zero]
theorem brB_K (R:List (List Int)) (J:Nat→Nat) (k:Nat):∀ i,((brB R J k i:Nat):K)=sm (fun t=>if brS (R.getD t []) J k=true then (1:K) else 0) i
 | 0=>Semiring.natCast_zero
 | i + 1=>by
  rw [brB,sm,← brB_K R J k i,Semiring.natCast_add]
  split
  ·rw [Semiring.natCast_one]
  rw [Semiring.natCast_zero]
end
theorem brauer {n e:Nat} {m:List Int} (h:GT n m n e) (hc24:clN m n e≤24):brA (clJ m n e) (clN m n e)=brB (chT m n e) (clJ m n e) (clN m n e) (clN m n e):=by
 obtain ⟨P,p1,p2⟩:=cl_P h
 have hp3:=P.three
 haveI:NeZero (clP m n e):=⟨by omega⟩
 have H:=gt2_of h
 have R:=H.R
 obtain ⟨t1,t2,t3,t4,t5⟩:=chT_ort h
 have hreal:=chT_real h
 have hJl:∀ i,i < clN m n e→clJ m n e i < clN m n e:=fun i hi=>(clI_lt h (h.2.2.iv_lt (clG h hi).1)).1
 have e1:∀ i,i < clN m n e→sm (fun k=>((clS m n e k:Nat):Fin (clP m n e)) * vc ((chT m n e).getD i []) k * vc ((chT m n e).getD i []) k) (clN m n e)=(n:Nat) * (if brS ((chT m n e).getD i []) (clJ m n e) (clN m n e)=true then (1:Fin (clP m n e)) else 0):=fun i hi=>by
  have hm:(chT m n e).getD i []∈chT m n e:=mem_getD (by omega)
  rcases hreal _ hm with hr | ⟨⟨k,hk,hne⟩,hz⟩
  ·rw [if_pos ((brS_iff _ _ _).2 hr)]
   have h1:=t1 _ hm
   unfold prR at h1
   have h2:sm (fun k=>((clS m n e k:Nat):Fin (clP m n e)) * vc ((chT m n e).getD i []) k * vc ((chT m n e).getD i []) k) (clN m n e)=sm (fun k=>((clS m n e k:Nat):Fin (clP m n e)) * vc ((chT m n e).getD i []) k * vc ((chT m n e).getD i []) (clJ m n e k)) (clN m n e):=sm_congr fun k hk=>by
    have:(vc ((chT m n e).getD i []) k:Fin (clP m n e))=vc ((chT m n e).getD i []) (clJ m n e k):=by unfold vc; rw [hr k hk]
    rw [← this]
   rw [h2,h1]; grind
  rw [if_neg (fun hh=>hne ((brS_iff _ _ _).1 hh k hk)),hz]; grind
 have e2:sm (fun i=>sm (fun k=>((clS m n e k:Nat):Fin (clP m n e)) * vc ((chT m n e).getD i []) k * vc ((chT m n e).getD i []) k) (clN m n e)) (clN m n e)=(n:Nat) * ((brB (chT m n e) (clJ m n e) (clN m n e) (clN m n e):Nat):Fin (clP m n e)):=by
  rw [sm_congr e1,sm_mul,brB_K]
 rw [sm_comm] at e2
 have e3:∀ k,k < clN m n e→sm (fun i=>((clS m n e k:Nat):Fin (clP m n e)) * vc ((chT m n e).getD i []) k * vc ((chT m n e).getD i []) k) (clN m n e)=(n:Nat) * (if clJ m n e k=k then (1:Fin (clP m n e)) else 0):=fun k hk=>by
  have h5:=t5 (clJ m n e k) k (hJl k hk) hk
  rw [sumL_sm,t3,clJJ h hk] at h5
  have h6:sm (fun i=>((clS m n e k:Nat):Fin (clP m n e)) * vc ((chT m n e).getD i []) k * vc ((chT m n e).getD i []) k) (clN m n e)=sm (fun i=>(vc ((chT m n e).getD i []) k:Fin (clP m n e)) * vc ((chT m n e).getD i []) k) (clN m n e) * ((clS m n e k:Nat):Fin (clP m n e)):=by
   rw [← sm_mulr]; exact sm_congr fun i _=>by grind
  rw [h6,h5]
  split<;>grind
 rw [sm_congr e3,sm_mul,← brA_K] at e2
 have hn:=H.nz
 have e4:((n:Nat):Fin (clP m n e)) * (((brA (clJ m n e) (clN m n e):Nat):Fin (clP m n e)) - ((brB (chT m n e) (clJ m n e) (clN m n e) (clN m n e):Nat):Fin (clP m n e)))=0:=by grind
 rcases R.fld.mul e4 with h7 | h7
 ·exact absurd h7 hn
 have h8:((brA (clJ m n e) (clN m n e):Nat):Fin (clP m n e))=((brB (chT m n e) (clJ m n e) (clN m n e) (clN m n e):Nat):Fin (clP m n e)):=by grind
 have h9:=f_ne h8
 have b1:=brA_le (clJ m n e) (clN m n e)
 have b2:=brB_le (chT m n e) (clJ m n e) (clN m n e) (clN m n e)
 have b3:=(clN_le h).2
 rwa [Nat.mod_eq_of_lt (by omega),Nat.mod_eq_of_lt (by omega)] at h9
theorem charBrauer_f (N:Int) (m:List Int) (c a:Int) (hc:¬ c=0) (hf:FnC Tryd.prog 14 [gp N m] (fl (c,a))):FnC Tryd.prog 5 [gp N m] (.bool true):=by
 refine fnc_of tab_ok Tryd.func5 rfl (by kernel_rfl) (by rw [Tryd.ntmps5]; exact Nat.le_add_left 1 _) ?_; rw [Tryd.ntmps5]
 refine qm ?_
 refine hk_region fun K hK=>runs_eval tab_ok ?_
 simp only [evz,fl,gp,tab,simprocAttr]
 refine fin_run ?_ (hK _ ?_)<;>clear hK K
 ·(first|exact trivial|omega|(simp only [In64] at *; omega)|(simp [In64] at *; omega)|(simp_all; done)|skip)
 refine qa (qm (qm ?_))
 refine hk_region fun K hK=>runs_eval tab_ok ?_
 simp only [evz,fl,gp,tab,simprocAttr]
 refine fin_stop trivial (runs_call (charBegun_c) rfl rfl rfl (by simp only [dstOk,Nat.reduceLT]) (by repeat (first|exact trivial|constructor)) (runs_eval tab_ok ?_))
 simp only [evz,fl,gp,tab,simprocAttr]
 refine fin_run trivial (hK _ ?_)<;>clear hK K
 refine qa ?_
 refine hk_cond rfl (fun hC1=>?_) (fun hC1=>?_)
 ·(try simp only [nhs] at hC1)
  first|exact absurd rfl hC1|exact hC1.elim|cases hC1|(simp at hC1; done)
 (try simp only [nhs] at hC1)
 refine qh (qa (qm ?_))
 refine hk_region fun K hK=>runs_eval tab_ok ?_
 simp only [evz,fl,gp,tab,simprocAttr]
 refine fin_stop trivial (runs_call (tableOf_no N m .nil c a hc hf) rfl rfl rfl (by simp only [dstOk,Nat.reduceLT]) (by repeat (first|exact trivial|constructor)) (runs_eval tab_ok ?_))
 simp only [evz,fl,gp,tab,simprocAttr]
 refine fin_run ?_ (hK _ ?_)<;>clear hK K
 ·(first|exact trivial|omega|(simp only [In64] at *; omega)|(simp [In64] at *; omega)|(simp_all; done)|skip)
 refine qa (qm (qm ?_))
 refine hk_region fun K hK=>runs_eval tab_ok ?_
 simp only [evz,fl,gp,tab,simprocAttr]
 refine fin_run trivial (hK _ ?_)<;>clear hK K
 refine qa ?_
 refine hk_cond rfl (fun hC2=>?_) (fun hC2=>?_)
 ·(try simp only [nhs] at hC2)
  refine qm ?_
  refine hk_region fun K hK=>runs_eval tab_ok ?_
  simp only [evz,fl,gp,tab,simprocAttr]
  refine fin_stop trivial (runs_call (hf) rfl rfl rfl (by simp only [dstOk,Nat.reduceLT]) (by repeat (first|exact trivial|constructor)) (runs_eval tab_ok ?_))
  simp only [evz,fl,gp,tab,simprocAttr]
  refine fin_run ?_ (hK _ ?_)<;>clear hK K
  ·(first|exact trivial|omega|(simp only [In64] at *; omega)|(simp [In64] at *; omega)|(simp_all; done)|skip)
  refine qa (qk (qb ?_))
  simp only [Tryd.results5,enA,evz,fl,gp,tab,simprocAttr]
  all_goals (simp [hc])
 (try simp only [nhs] at hC2)
 first|exact absurd rfl hC2|exact hC2.elim|cases hC2|(simp at hC2; done)
set_option maxHeartbeats 4000000 in
set_option maxRecDepth 20000 in
theorem charBrauer_ok {n e:Nat} {m:List Int} (h:GT n m n e) (hc24:clN m n e≤24):FnC Tryd.prog 5 [gp n m] (.bool true):=by
 obtain ⟨P,p1,p2⟩:=cl_P h
 have hp3:=P.three
 have hb:=h.2.1.big
 have hbr:=brauer h hc24
 have hrow:(chT m n e).length=clN m n e∧∀ r∈chT m n e,r.length=clN m n e:=by
  haveI:NeZero (clP m n e):=⟨by omega⟩
  exact ⟨(chT_ort h).2.2.1,fun r hr=>((chT_ort h).2.2.2.1 r hr).1⟩
 have hJ:∀ i,i < clN m n e→clJ m n e i < clN m n e:=fun i hi=>(clI_lt h (h.2.2.iv_lt (clG h hi).1)).1
 have hinv:=inverses_c h
 have hll:(clL m n e).length=clN m n e:=rfl
 have htab:=tableOf_c h hc24
 obtain ⟨t3,t4⟩:=hrow
 generalize clP m n e=p at *
 generalize clN m n e=k at *
 generalize chT m n e=R at *
 generalize clL m n e=L at *
 generalize clJ m n e=J at *
 have hIl:((List.range k).map fun i=>(J i:Int)).length=k:=by simp
 have hIg:∀ i,i < k→((List.range k).map fun i=>(J i:Int)).getD i 0=(J i:Int):=fun i hi=>by simp [List.getD,List.getElem?_map,List.getElem?_range hi]
 generalize (List.range k).map (fun i=>(J i:Int))=I at *
 refine fnc_of tab_ok Tryd.func5 rfl (by kernel_rfl) (by rw [Tryd.ntmps5]; exact Nat.le_add_left 1 _) ?_; rw [Tryd.ntmps5]
 refine qm ?_
 refine hk_region fun K hK=>runs_eval tab_ok ?_
 simp only [evz,fl,gp,tab,simprocAttr]
 refine fin_run ?_ (hK _ ?_)<;>clear hK K
 ·(first|exact trivial|omega|(simp only [In64] at *; omega)|(simp [In64] at *; omega)|(simp_all; done)|skip)
 refine qa (qm (qm ?_))
 refine hk_region fun K hK=>runs_eval tab_ok ?_
 simp only [evz,fl,gp,tab,simprocAttr]
 refine fin_stop trivial (runs_call (charBegun_c) rfl rfl rfl (by simp only [dstOk,Nat.reduceLT]) (by repeat (first|exact trivial|constructor)) (runs_eval tab_ok ?_))
 simp only [evz,fl,gp,tab,simprocAttr]
 refine fin_run trivial (hK _ ?_)<;>clear hK K
 refine qa ?_
 refine hk_cond rfl (fun hC1=>?_) (fun hC1=>?_)
 ·(try simp only [nhs] at hC1)
  first|exact absurd rfl hC1|exact hC1.elim|cases hC1|(simp at hC1; done)
 (try simp only [nhs] at hC1)
 refine qh (qa (qm ?_))
 refine hk_region fun K hK=>runs_eval tab_ok ?_
 simp only [evz,fl,gp,tab,simprocAttr]
 refine fin_stop trivial (runs_call (htab) rfl rfl rfl (by simp only [dstOk,Nat.reduceLT]) (by repeat (first|exact trivial|constructor)) (runs_eval tab_ok ?_))
 simp only [evz,fl,gp,tab,simprocAttr]
 refine fin_run ?_ (hK _ ?_)<;>clear hK K
 ·(first|exact trivial|omega|(simp only [In64] at *; omega)|(simp [In64] at *; omega)|(simp_all; done)|skip)
 refine qa (qm (qm ?_))
 refine hk_region fun K hK=>runs_eval tab_ok ?_
 simp only [evz,fl,gp,tab,simprocAttr]
 refine fin_run trivial (hK _ ?_)<;>clear hK K
 refine qa ?_
 refine hk_cond rfl (fun hC2=>?_) (fun hC2=>?_)
 ·(try simp only [nhs] at hC2)
  first|exact absurd rfl hC2|exact hC2.elim|cases hC2|(simp at hC2; done)
 (try simp only [nhs] at hC2)
 refine qh (qa (qm ?_))
 refine hk_region fun K hK=>runs_eval tab_ok ?_
 simp only [evz,fl,gp,tab,simprocAttr]
 refine fin_stop trivial (runs_call (hinv) rfl rfl rfl (by simp only [dstOk,Nat.reduceLT]) (by repeat (first|exact trivial|constructor)) (runs_eval tab_ok ?_))
 simp only [evz,fl,gp,tab,simprocAttr]
 refine fin_run ?_ (hK _ ?_)<;>clear hK K
 ·(first|exact trivial|omega|(simp only [In64] at *; omega)|(simp [In64] at *; omega)|(simp_all; done)|skip)
 refine qa (qm ?_)
 refine hk_region fun K hK=>runs_eval tab_ok ?_
 simp only [evz,fl,gp,tab,simprocAttr]
 refine fin_run trivial (hK _ ?_)<;>clear hK K
 refine qa (qm (qm ?_))
 refine hk_region fun K hK=>runs_eval tab_ok ?_
 simp only [evz,fl,gp,tab,simprocAttr]
 refine fin_run trivial (hK _ ?_)<;>clear hK K
 refine qa (ql ?_)
 refine hk_loop (ι:=Nat) (fun i=>⟨78,[(4,.p (.list (ll R))),(5,.p (.list (ll L))),(7,.p (.list (il I))),(8,.p (.int .i64 (brA J i:Nat))),(9,.p (.int .i64 (brB R J k i:Nat))),(10,.p (.int .i64 i))],[]⟩) (fun i=>i≤k) (fun i=>k - i) 0 (Nat.zero_le _) [] (by simp only [leq,leA,evz,fl,gp,tab,simprocAttr]<;>first|trivial|rfl|skip) fun i hi=>?_
 have a1:=brA_le J i
 have a2:=brB_le R J k i
 refine qm (qm ?_)
 refine hk_region fun K hK=>runs_eval tab_ok ?_
 simp only [evz,fl,gp,tab,simprocAttr,ll_length,hll]
 refine fin_run trivial (hK _ ?_)<;>clear hK K
 refine qa ?_
 refine hk_cond rfl (fun hC3=>?_) (fun hC3=>?_)
 ·(try simp only [nhs] at hC3)
  have hik:i < k:=by omega
  obtain ⟨r,hr⟩:∃ r,R.getD i []=r:=⟨_,rfl⟩
  have hrl:r.length=k:=by rw [← hr]; exact t4 _ (mem_getD (by omega))
  have hA1:brA J (i + 1)=brA J i + if J i=i then 1 else 0:=rfl
  have hB1:brB R J k (i + 1)=brB R J k i + if brS r J k=true then 1 else 0:=by rw [brB,hr]
  refine qh (qa (qm (ql (qm (qm ?_)))))
  refine hk_region fun K hK=>runs_eval tab_ok ?_
  simp only [evz,fl,gp,tab,simprocAttr,il_get (show i < I.length by omega),hIg i hik]
  refine fin_run ?_ (hK _ ?_)<;>clear hK K
  ·omega
  refine qa ?_
  refine hk_cond rfl (fun hC4=>?_) (fun hC4=>?_)
  ·(try simp only [nhs] at hC4)
   have hJi:J i=i:=by omega
   rw [if_pos hJi] at hA1
   refine hk_region fun K hK=>runs_eval tab_ok ?_
   simp only [evz,fl,gp,tab,simprocAttr]
   refine fin_run ?_ (hK _ ?_)<;>clear hK K
   ·(first|exact trivial|omega|(simp only [In64] at *; omega)|(simp [In64] at *; omega)|(simp_all; done)|skip)
   refine qa (qm ?_)
   refine hk_region fun K hK=>runs_eval tab_ok ?_
   simp only [evz,fl,gp,tab,simprocAttr]
   refine fin_run trivial (hK _ ?_)<;>clear hK K
   refine qa (qm (qm ?_))
   refine hk_region fun K hK=>runs_eval tab_ok ?_
   simp only [evz,fl,gp,tab,simprocAttr]
   refine fin_run trivial (hK _ ?_)<;>clear hK K
   refine qa (ql ?_)
   refine hk_loop (ι:=Nat) (fun c=>⟨78,[(4,.p (.list (ll R))),(5,.p (.list (ll L))),(7,.p (.list (il I))),(8,.p (.int .i64 (brA J (i + 1):Nat))),(9,.p (.int .i64 (brB R J k i:Nat))),(10,.p (.int .i64 i)),(11,.p (.bool (brS r J c))),(12,.p (.int .i64 c))],[]⟩) (fun c=>c≤k) (fun c=>k - c) 0 (Nat.zero_le _) [] (by simp only [leq,leA,evz,fl,gp,tab,simprocAttr]<;>first|trivial|rfl|exact ⟨by omega,rfl⟩|omega|skip) fun c hck=>?_
   refine qm (qm ?_)
   refine hk_region fun K hK=>runs_eval tab_ok ?_
   simp only [evz,fl,gp,tab,simprocAttr,ll_length,hll]
   refine fin_run trivial (hK _ ?_)<;>clear hK K
   refine qa ?_
   refine hk_cond rfl (fun hC5=>?_) (fun hC5=>?_)
   ·(try simp only [nhs] at hC5)
    have hckl:c < k:=by omega
    have hJc:=hJ c hckl
    have hS1:brS r J (c + 1)=(brS r J c && decide (r.getD c 0=r.getD (J c) 0)):=rfl
    refine qh (qa (qm (ql ?_)))
    cases hsame:brS r J c
    ·refine hk_draw mixed (by kernel_rfl) fun K hK=>runs_eval tab_ok ?_
     simp only [evz,fl,gp,tab,simprocAttr,hsame,ll_length,ll_get (show i < R.length by omega),hr,il_get (show c < r.length by omega),il_get (show c < I.length by omega),hIg c hckl,il_get (show J c < r.length by omega)]
     refine fin_run ?_ (hK _ ?_)<;>clear hK K
     ·first|trivial|omega
     refine qd (qa ?_)
     refine hk_region fun K hK=>runs_eval tab_ok ?_
     simp only [evz,fl,gp,tab,simprocAttr]
     refine fin_run ?_ (hK _ ?_)<;>clear hK K
     ·(first|exact trivial|omega|(simp only [In64] at *; omega)|(simp [In64] at *; omega)|(simp_all; done)|skip)
     refine qa ?_
     rw [hsame,Bool.false_and] at hS1
     refine ⟨c + 1,[],by omega,by omega,?_⟩
     rw [hS1]
     simp only [leq,leA,evz,fl,gp,tab,simprocAttr]<;>first|trivial|rfl|omega|skip
    refine hk_draw mixed (by kernel_rfl) fun K hK=>runs_eval tab_ok ?_
    simp only [evz,fl,gp,tab,simprocAttr,hsame,ll_length,ll_get (show i < R.length by omega),hr,il_get (show c < r.length by omega),il_get (show c < I.length by omega),hIg c hckl,il_get (show J c < r.length by omega)]
    refine fin_run ?_ (hK _ ?_)<;>clear hK K
    ·first|trivial|omega
    refine qd (qa ?_)
    refine hk_region fun K hK=>runs_eval tab_ok ?_
    simp only [evz,fl,gp,tab,simprocAttr]
    refine fin_run ?_ (hK _ ?_)<;>clear hK K
    ·(first|exact trivial|omega|(simp only [In64] at *; omega)|(simp [In64] at *; omega)|(simp_all; done)|skip)
    refine qa ?_
    rw [hsame,Bool.true_and] at hS1
    refine ⟨c + 1,[],by omega,by omega,?_⟩
    rw [hS1]
    simp only [leq,leA,evz,fl,gp,tab,simprocAttr]<;>first|trivial|rfl|omega|skip
   (try simp only [nhs] at hC5)
   have hckl:c=k:=by omega
   rw [hckl]
   refine qj (qc (qc (qf (qa (qm ?_)))))
   refine hk_region fun K hK=>runs_eval tab_ok ?_
   simp only [evz,fl,gp,tab,simprocAttr]
   refine fin_run trivial (hK _ ?_)<;>clear hK K
   refine qa ?_
   refine hk_cond rfl (fun hC6=>?_) (fun hC6=>?_)
   ·(try simp only [nhs] at hC6)
    have hsm:brS r J k=true:=by simpa using hC6
    rw [if_pos hsm] at hB1
    refine hk_region fun K hK=>runs_eval tab_ok ?_
    simp only [evz,fl,gp,tab,simprocAttr]
    refine fin_run ?_ (hK _ ?_)<;>clear hK K
    ·(first|exact trivial|omega|(simp only [In64] at *; omega)|(simp [In64] at *; omega)|(simp_all; done)|skip)
    refine qd (qa ?_)
    refine hk_region fun K hK=>runs_eval tab_ok ?_
    simp only [evz,fl,gp,tab,simprocAttr]
    refine fin_run ?_ (hK _ ?_)<;>clear hK K
    ·(first|exact trivial|omega|(simp only [In64] at *; omega)|(simp [In64] at *; omega)|(simp_all; done)|skip)
    refine qa ?_
    refine ⟨i + 1,[],by omega,by omega,?_⟩
    simp only [leq,leA,evz,fl,gp,tab,simprocAttr]<;>first|trivial|rfl|omega|exact ⟨by omega,by omega⟩|skip
   (try simp only [nhs] at hC6)
   have hsm:¬ brS r J k=true:=by simpa using hC6
   rw [if_neg hsm] at hB1
   refine qh (qd (qa ?_))
   refine hk_region fun K hK=>runs_eval tab_ok ?_
   simp only [evz,fl,gp,tab,simprocAttr]
   refine fin_run ?_ (hK _ ?_)<;>clear hK K
   ·(first|exact trivial|omega|(simp only [In64] at *; omega)|(simp [In64] at *; omega)|(simp_all; done)|skip)
   refine qa ?_
   refine ⟨i + 1,[],by omega,by omega,?_⟩
   simp only [leq,leA,evz,fl,gp,tab,simprocAttr]<;>first|trivial|rfl|omega|exact ⟨by omega,by omega⟩|skip
  (try simp only [nhs] at hC4)
  have hJi:¬ J i=i:=by omega
  rw [if_neg hJi] at hA1
  refine qh (qa (qm ?_))
  refine hk_region fun K hK=>runs_eval tab_ok ?_
  simp only [evz,fl,gp,tab,simprocAttr]
  refine fin_run trivial (hK _ ?_)<;>clear hK K
  refine qa (qm (qm ?_))
  refine hk_region fun K hK=>runs_eval tab_ok ?_
  simp only [evz,fl,gp,tab,simprocAttr]
  refine fin_run trivial (hK _ ?_)<;>clear hK K
  refine qa (ql ?_)
  refine hk_loop (ι:=Nat) (fun c=>⟨78,[(4,.p (.list (ll R))),(5,.p (.list (ll L))),(7,.p (.list (il I))),(8,.p (.int .i64 (brA J (i + 1):Nat))),(9,.p (.int .i64 (brB R J k i:Nat))),(10,.p (.int .i64 i)),(11,.p (.bool (brS r J c))),(12,.p (.int .i64 c))],[]⟩) (fun c=>c≤k) (fun c=>k - c) 0 (Nat.zero_le _) [] (by simp only [leq,leA,evz,fl,gp,tab,simprocAttr]<;>first|trivial|rfl|exact ⟨by omega,rfl⟩|omega|skip) fun c hck=>?_
  refine qm (qm ?_)
  refine hk_region fun K hK=>runs_eval tab_ok ?_
  simp only [evz,fl,gp,tab,simprocAttr,ll_length,hll]
  refine fin_run trivial (hK _ ?_)<;>clear hK K
  refine qa ?_
  refine hk_cond rfl (fun hC5=>?_) (fun hC5=>?_)
  ·(try simp only [nhs] at hC5)
   have hckl:c < k:=by omega
   have hJc:=hJ c hckl
   have hS1:brS r J (c + 1)=(brS r J c && decide (r.getD c 0=r.getD (J c) 0)):=rfl
   refine qh (qa (qm (ql ?_)))
   cases hsame:brS r J c
   ·refine hk_draw mixed (by kernel_rfl) fun K hK=>runs_eval tab_ok ?_
    simp only [evz,fl,gp,tab,simprocAttr,hsame,ll_length,ll_get (show i < R.length by omega),hr,il_get (show c < r.length by omega),il_get (show c < I.length by omega),hIg c hckl,il_get (show J c < r.length by omega)]
    refine fin_run ?_ (hK _ ?_)<;>clear hK K
    ·first|trivial|omega
    refine qd (qa ?_)
    refine hk_region fun K hK=>runs_eval tab_ok ?_
    simp only [evz,fl,gp,tab,simprocAttr]
    refine fin_run ?_ (hK _ ?_)<;>clear hK K
    ·(first|exact trivial|omega|(simp only [In64] at *; omega)|(simp [In64] at *; omega)|(simp_all; done)|skip)
    refine qa ?_
    rw [hsame,Bool.false_and] at hS1
    refine ⟨c + 1,[],by omega,by omega,?_⟩
    rw [hS1]
    simp only [leq,leA,evz,fl,gp,tab,simprocAttr]<;>first|trivial|rfl|omega|skip
   refine hk_draw mixed (by kernel_rfl) fun K hK=>runs_eval tab_ok ?_
   simp only [evz,fl,gp,tab,simprocAttr,hsame,ll_length,ll_get (show i < R.length by omega),hr,il_get (show c < r.length by omega),il_get (show c < I.length by omega),hIg c hckl,il_get (show J c < r.length by omega)]
   refine fin_run ?_ (hK _ ?_)<;>clear hK K
   ·first|trivial|omega
   refine qd (qa ?_)
   refine hk_region fun K hK=>runs_eval tab_ok ?_
   simp only [evz,fl,gp,tab,simprocAttr]
   refine fin_run ?_ (hK _ ?_)<;>clear hK K
   ·(first|exact trivial|omega|(simp only [In64] at *; omega)|(simp [In64] at *; omega)|(simp_all; done)|skip)
   refine qa ?_
   rw [hsame,Bool.true_and] at hS1
   refine ⟨c + 1,[],by omega,by omega,?_⟩
   rw [hS1]
   simp only [leq,leA,evz,fl,gp,tab,simprocAttr]<;>first|trivial|rfl|omega|skip
  (try simp only [nhs] at hC5)
  have hckl:c=k:=by omega
  rw [hckl]
  refine qj (qc (qc (qf (qa (qm ?_)))))
  refine hk_region fun K hK=>runs_eval tab_ok ?_
  simp only [evz,fl,gp,tab,simprocAttr]
  refine fin_run trivial (hK _ ?_)<;>clear hK K
  refine qa ?_
  refine hk_cond rfl (fun hC6=>?_) (fun hC6=>?_)
  ·(try simp only [nhs] at hC6)
   have hsm:brS r J k=true:=by simpa using hC6
   rw [if_pos hsm] at hB1
   refine hk_region fun K hK=>runs_eval tab_ok ?_
   simp only [evz,fl,gp,tab,simprocAttr]
   refine fin_run ?_ (hK _ ?_)<;>clear hK K
   ·(first|exact trivial|omega|(simp only [In64] at *; omega)|(simp [In64] at *; omega)|(simp_all; done)|skip)
   refine qd (qa ?_)
   refine hk_region fun K hK=>runs_eval tab_ok ?_
   simp only [evz,fl,gp,tab,simprocAttr]
   refine fin_run ?_ (hK _ ?_)<;>clear hK K
   ·(first|exact trivial|omega|(simp only [In64] at *; omega)|(simp [In64] at *; omega)|(simp_all; done)|skip)
   refine qa ?_
   refine ⟨i + 1,[],by omega,by omega,?_⟩
   simp only [leq,leA,evz,fl,gp,tab,simprocAttr]<;>first|trivial|rfl|omega|exact ⟨by omega,by omega⟩|skip
  (try simp only [nhs] at hC6)
  have hsm:¬ brS r J k=true:=by simpa using hC6
  rw [if_neg hsm] at hB1
  refine qh (qd (qa ?_))
  refine hk_region fun K hK=>runs_eval tab_ok ?_
  simp only [evz,fl,gp,tab,simprocAttr]
  refine fin_run ?_ (hK _ ?_)<;>clear hK K
  ·(first|exact trivial|omega|(simp only [In64] at *; omega)|(simp [In64] at *; omega)|(simp_all; done)|skip)
  refine qa ?_
  refine ⟨i + 1,[],by omega,by omega,?_⟩
  simp only [leq,leA,evz,fl,gp,tab,simprocAttr]<;>first|trivial|rfl|omega|exact ⟨by omega,by omega⟩|skip
 (try simp only [nhs] at hC3)
 have hik:i=k:=by omega
 rw [hik,hbr]
 refine qj (qc (qc (qf (qa (qm ?_)))))
 refine hk_region fun K hK=>runs_eval tab_ok ?_
 simp only [evz,fl,gp,tab,simprocAttr]
 refine fin_run trivial (hK _ ?_)<;>clear hK K
 refine qa (qk ?_)
 simp only [Tryd.results5,enA,evz,fl,gp,tab,simprocAttr]
 all_goals (simp)
theorem charBrauer_c (N:Int) (m:List Int) (hm:m.length≤1000000000000000):FnC Tryd.prog 5 [gp N m] (.bool true):=by
 by_cases hf:(gf N m).1=0
 ·obtain ⟨n,e,h,_⟩:=gf_ok hf
  obtain rfl:N=(n:Int):=h.1
  by_cases hc:clN m n e≤24
  ·exact charBrauer_ok h hc
  exact charBrauer_f _ m 2 0 (by decide) (cf_many h (by omega))
 exact charBrauer_f N m (gf N m).1 (gf N m).2 hf (cf_no N m hm hf)
end Go.Proofs.YtjlmpmidchddjaaDoor

namespace Go.Proofs.YtjlmpmidchddjaaDoor
open Go.Pv Go.ChangeShapes Go.WideShapes Go.ChangeAt Go.WideElems Go.RowKit
theorem own:ownKnob Tryd.prog.godebug=none:=by kernel_rfl
theorem laidOut:laidOutB Tryd.prog=true:=by kernel_rfl
theorem gG:Tryd.prog.globalNamed "math/bits.deBruijn64tab" = some 0:=by kernel_rfl
theorem tG:(Tryd.prog.globals[0]?).map (·.type)=some 113:=by kernel_rfl
theorem cG:Tryd.prog.cellsOf 5=1:=by kernel_rfl
theorem door_met (os:Os) (args:Array Value):laidMetH Tryd.prog [("math/bits.deBruijn64tab",Rows.laid_math_bits_deBruijn64tab)] ((World.doorLaid Tryd.prog 4000 os).forCall (fun _ _=>0) ⟨#[],args,[]⟩).memory:=
 laidMetH_of_parts3 (fuel:=8) (laidMet_of_run' 8 (by kernel_rfl) (by kernel_rfl)) (by kernel_rfl) (by kernel_rfl)
def convD:DataW Unit→PV
 | .lit (.int k n)=>.int k n
 | _=>.nil
def datum:List (DataW Unit)→List PV:=List.map convD
theorem glob_datum:(match (Rows.laid_math_bits_deBruijn64tab:DataW Unit) with | .agg l=>datum l | _=>[])=glob0:=rfl
theorem laid_ok {W:World} (h:laidMetH Tryd.prog [("math/bits.deBruijn64tab",Rows.laid_math_bits_deBruijn64tab)] W):LaidW (fun b=>b < W.heap.size) W:=by
 refine ⟨fun b h=>h,fun g l hg=>?_⟩
 have hg2:g=0∧l=glob0:=by
  unfold gv at hg
  by_cases e:g=0
  ·subst e; exact ⟨rfl,(Option.some.inj hg).symm⟩
  have:(g == 0)=false:=by simpa using e
  rw [this] at hg; simp at hg
 obtain ⟨rfl,rfl⟩:=hg2
 rw [MakeChecks.laidMetH_plain _ _ _ (by kernel_rfl)] at h
 obtain ⟨ps,⟨g0,t0,cs0,f0,p0,q0,hg0,ht0,hv0,hd0,_,_⟩,_,_⟩:=h
 obtain rfl:=Option.some.inj (gG.symm.trans hg0)
 obtain rfl:=Option.some.inj (tG.symm.trans ht0)
 obtain ⟨xs,m1,rfl,hx1,hlen,hn3,hel⟩:=DataW.trod_array Tryd.underlying113 hd0
 have hd1:Rows.laid_math_bits_deBruijn64tab=DataW.agg (xs.map (·.1)):=congrArg Prod.fst hx1
 have hgl:glob0=datum (xs.map (·.1)):=by
  rw [← glob_datum,hd1]
 have key:∀ c (h:c < glob0.length),W.cell? ⟨0,0 + c,none⟩=some ((cs0[c]?).getD undef)∧Reads (fun b=>b < W.heap.size) W glob0[c] ((cs0[c]?).getD undef):=by
  intro c hc
  have hc2:c < 64:=Nat.lt_of_lt_of_le hc (by decide)
  have hcx:c < xs.length:=by omega
  have h1:=hel c hc2
  rw [List.getElem?_eq_getElem hcx] at h1
  obtain ⟨k,e1,e2,_⟩:=DataW.trod_int Tryd.underlying5 h1
  rw [cG] at e1
  have e3:cs0.toList[c]? = some (.int .u8 k):=by
   have:=congrArg (fun l=>l[0]?) e1
   simpa [List.getElem?_take,List.getElem?_drop] using this
  have e4:cs0[c]? = some (.int .u8 k):=by simpa using e3
  have e5:glob0[c] = .int .u8 k:=by
   have:glob0[c]? = (datum (xs.map (·.1)))[c]?:=by rw [hgl]
   rw [List.getElem?_eq_getElem hc] at this
   simp only [datum,List.getElem?_map,List.getElem?_eq_getElem hcx,Option.map_some,Option.some.injEq] at this
   exact this.trans (by rw [e2]; rfl)
  refine ⟨?_,?_⟩
  ·rw [e4,Nat.zero_add,World.var?_cell gG hv0 c,e4]; rfl
  rw [e4]
  exact e5 ▸ (Reads.int .u8 k)
 refine .ptr _ _ _ (fun c=>(cs0[c]?).getD undef) ?_ (fun c hc=>(key c hc).1) fun c hc=>(key c hc).2
 have:=(key 0 (by decide)).1
 unfold World.cell? at this
 rcases Nat.lt_or_ge 0 W.heap.size with h | h
 ·exact h
 exfalso
 rw [Array.getElem?_eq_none h] at this
 simp at this
end Go.Proofs.YtjlmpmidchddjaaDoor
