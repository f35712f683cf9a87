/-
  Texts of this proof, one behind the other: what each says stands at its head. Conditions: none.
-/
import Derived.Test.YtjlmpmidchddjaaDoorB5
import Derived.Test.YtjlmpmidchddjaaDoorB3
import Derived.Test.YtjlmpmidchddjaaDoorB4
import Derived.Test.YtjlmpmidchddjaaDoorRows
import Derived.Test.YtjlmpmidchddjaaDoorB2
import Derived.ProofKit
import Derived.LaidMore
import Derived.OpenShut
import Derived.Stop.Joined

set_option linter.all false
namespace Go.Proofs.YtjlmpmidchddjaaDoor
open Go.Pv
def dgL (m:List Int) (n e:Nat):List Int:=(chT m n e).map fun r=>r.getD (clO m n e) 0
theorem degrees_c {n e:Nat} {m:List Int} (h:GT n m n e) (hc24:clN m n e≤24):FnC Tryd.prog 13 [gp n m] (.tup [.list (il (dgL m n e)),fl (0,0)]):=by
 have E:=h.2.2.cjb_eqv
 have hb:=h.2.1.big
 obtain ⟨P,p1,p2⟩:=cl_P h
 haveI:NeZero (clP m n e):=⟨by have:=P.three; omega⟩
 obtain ⟨_,_,t3,t4,_⟩:=chT_ort h
 have hwl:(whl n (cjb n (op m n) e)).getD e 0=(clO m n e:Int):=by rw [whl,rgz_get h.2.2.el]; exact (clI_lt h h.2.2.el).2
 have hol:=(clI_lt h h.2.2.el).1
 have hwll:(whl n (cjb n (op m n) e)).length=n:=rgz_len _ _
 refine fnc_of tab_ok Tryd.func13 rfl (by kernel_rfl) (by rw [Tryd.ntmps13]; exact Nat.le_add_left 1 _) ?_; rw [Tryd.ntmps13]
 refine qm ?_
 refine hk_region fun K hK=>runs_eval tab_ok ?_
 simp only [evz,fl,gp,tab,simprocAttr]
 refine fin_run ?_ (hK _ ?_)<;>clear hK K
 ·(first|exact trivial|omega|(simp only [In64] at *; omega)|(simp [In64] at *; omega)|(simp_all; done)|skip)
 refine qa (qm ?_)
 refine hk_region fun K hK=>runs_eval tab_ok ?_
 simp only [evz,fl,gp,tab,simprocAttr]
 refine fin_stop trivial (runs_call (table_c h hc24) rfl rfl rfl (by simp only [dstOk,Nat.reduceLT]) (by repeat (first|exact trivial|constructor)) (runs_eval tab_ok ?_))
 simp only [evz,fl,gp,tab,simprocAttr]
 refine fin_run ?_ (hK _ ?_)<;>clear hK K
 ·(first|exact trivial|omega|(simp only [In64] at *; omega)|(simp [In64] at *; omega)|(simp_all; done)|skip)
 refine qa (qm (qm ?_))
 refine hk_region fun K hK=>runs_eval tab_ok ?_
 simp only [evz,fl,gp,tab,simprocAttr]
 refine fin_run ?_ (hK _ ?_)<;>clear hK K
 ·(first|exact trivial|omega|(simp only [In64] at *; omega)|(simp [In64] at *; omega)|(simp_all; done)|skip)
 refine qa ?_
 refine hk_cond rfl (fun hC1=>?_) (fun hC1=>?_)
 ·cases hC1
 (try simp only [nhs] at hC1)
 refine qh (qa (qm ?_))
 refine hk_draw mixed (by kernel_rfl) fun K hK=>runs_eval tab_ok ?_
 simp only [evz,fl,gp,tab,simprocAttr]
 refine fin_stop trivial (runs_call (classOf_s h) rfl rfl rfl (by simp only [dstOk,Nat.reduceLT]) (by repeat (first|exact trivial|constructor)) (runs_eval tab_ok ?_))
 simp only [evz,fl,gp,tab,simprocAttr]
 refine fin_stop trivial (runs_call (where_s m hb E) rfl rfl rfl (by simp only [dstOk,Nat.reduceLT]) (by repeat (first|exact trivial|constructor)) (runs_eval tab_ok ?_))
 simp only [evz,fl,gp,tab,simprocAttr]
 refine fin_run ?_ (hK _ ?_)<;>clear hK K
 ·(first|exact trivial|omega|(simp only [In64] at *; omega)|(simp [In64] at *; omega)|(simp_all; done)|skip)
 refine qa (qm ?_)
 refine hk_region fun K hK=>runs_eval tab_ok ?_
 simp only [evz,fl,gp,tab,simprocAttr]
 refine fin_run trivial (hK _ ?_)<;>clear hK K
 refine qa (qm (qm ?_))
 refine hk_own0 8 rfl ?_
 refine hk_region fun K hK=>runs_eval tab_ok ?_
 simp only [evz,fl,gp,tab,simprocAttr,ll_length,t3]
 refine fin_run trivial (hK _ ?_)<;>clear hK K
 refine qa (ql ?_)
 refine hk_loop (ι:=Nat) (fun i=>⟨45,[(1,.ptr 0 0),(3,.ptr 1 0),(6,.ptr 2 0),(7,.p (.list (il (whl n (cjb n (op m n) e))))),(8,.sl 3 0 i),(25,.p (.list (ll (chT m n e)))),(26,.p (.int .i64 (clN m n e))),(27,.p (.int .i64 i))],[.own [.p (.int .i64 n),.p (.list (il m))],.own [.p (.int .i64 0),.p (.int .i64 0)],.own [.p (.int .i64 0),.p (.int .i64 0)],.own (ol ((dgL m n e).take i))]⟩) (fun i=>i≤clN m n e) (fun i=>clN m n e - i) 0 (Nat.zero_le _) [0,1,2,3] (by simp only [leq,leA,evz,fl,gp,tab,simprocAttr]<;>first|trivial|(simp [LeH,ol_nil]; done)|skip) fun i hi=>?_
 refine qm ?_
 refine hk_region fun K hK=>runs_eval tab_ok ?_
 simp only [evz,fl,gp,tab,simprocAttr]
 refine fin_run trivial (hK _ ?_)<;>clear hK K
 refine qa (qm ?_)
 refine hk_cond rfl (fun hC2=>?_) (fun hC2=>?_)
 ·(try simp only [nhs] at hC2)
  have hil:i < (chT m n e).length:=by omega
  obtain ⟨r,hr⟩:∃ r,(chT m n e).getD i []=r:=⟨_,rfl⟩
  have hrl:r.length=clN m n e:=by rw [← hr]; exact (t4 _ (mem_getD hil)).1
  have hdk:(dgL m n e).take (i + 1)=(dgL m n e).take i++[r.getD (clO m n e) 0]:=by
   rw [List.take_succ_eq_append_getElem (by simp [dgL]; omega)]
   congr 2
   simp only [dgL,List.getElem_map]
   rw [← hr]; simp [List.getD,List.getElem?_eq_getElem hil]
  have hdl:((dgL m n e).take i).length=i:=by rw [List.length_take]; simp [dgL]; omega
  have hdt:List.take i ((dgL m n e).take i)=(dgL m n e).take i:=List.take_of_length_le (by omega)
  refine qh (qa (qm (ql (qm ?_))))
  refine hk_region fun K hK=>runs_eval tab_ok ?_
  simp only [evz,fl,gp,tab,simprocAttr,ll_length,ll_get hil,hr]
  refine fin_run ?_ (hK _ ?_)<;>clear hK K
  ·omega
  refine qa ?_
  refine hk_region fun K hK=>runs_eval tab_ok ?_
  simp only [evz,fl,gp,tab,simprocAttr,hdt,hdl,il_get (show e < (whl n (cjb n (op m n) e)).length by rw [hwll]; exact h.2.2.el),hwl,il_get (show clO m n e < r.length by rw [hrl]; exact hol)]
  refine fin_stop ?_ (runs_call (oneOf_c h) rfl rfl rfl (by simp only [dstOk,Nat.reduceLT]) (by repeat (first|exact trivial|constructor)) (runs_eval tab_ok ?_))
  ·(first|exact trivial|omega|(simp only [In64] at *; omega)|(simp [In64] at *; omega)|(simp_all; done)|skip)
  simp only [evz,fl,gp,tab,simprocAttr,hdt,hdl,il_get (show e < (whl n (cjb n (op m n) e)).length by rw [hwll]; exact h.2.2.el),hwl,il_get (show clO m n e < r.length by rw [hrl]; exact hol)]
  refine fin_run ?_ (hK _ ?_)<;>clear hK K
  ·have:=h.2.2.el
   have hol2:clO m n e < clN m n e:=hol
   omega
  refine qd (qa ?_)
  refine hk_region fun K hK=>runs_eval tab_ok ?_
  simp only [evz,fl,gp,tab,simprocAttr]
  refine fin_run ?_ (hK _ ?_)<;>clear hK K
  ·(first|exact trivial|omega|(simp only [In64] at *; omega)|(simp [In64] at *; omega)|(simp_all; done)|skip)
  refine qa ?_
  refine ⟨i + 1,[0,1,2,4],by omega,by omega,?_⟩
  rw [hdk]
  simp only [leq,leA,evz,fl,gp,tab,simprocAttr]<;>first|trivial|omega|(rw [List.take_of_length_le (by rw [List.length_append]; exact Nat.le_refl _)]; done)|(rw [hdl,List.take_of_length_le (by rw [List.length_append,hdl]; exact Nat.le_refl _)]; done)|skip
 (try simp only [nhs] at hC2)
 have hil:i=clN m n e:=by omega
 have hdl:(dgL m n e).length=clN m n e:=by simp [dgL,t3]
 have hdt:(dgL m n e).take i=dgL m n e:=List.take_of_length_le (by omega)
 refine qj (qc (qc (qf (qa (qm ?_)))))
 refine hk_draw mixed (by kernel_rfl) fun K hK=>runs_eval tab_ok ?_
 simp only [evz,fl,gp,tab,simprocAttr]
 refine fin_run ?_ (hK _ ?_)<;>clear hK K
 ·(first|exact trivial|omega|(simp only [In64] at *; omega)|(simp [In64] at *; omega)|(simp_all; done)|skip)
 refine qa (qk ?_)
 simp only [Tryd.results13,enA,evz,fl,gp,tab,simprocAttr]
 rw [hdt,List.take_of_length_le (show (dgL m n e).length≤i by omega)]
 exact ⟨by omega,rfl⟩
theorem cf_no (N:Int) (m:List Int) (hm:m.length≤1000000000000000) (hf:¬ (gf N m).1=0):FnC Tryd.prog 14 [gp N m] (fl (gf N m)):=by
 refine fnc_of tab_ok Tryd.func14 rfl (by kernel_rfl) (by rw [Tryd.ntmps14]; exact Nat.le_add_left 1 _) ?_; rw [Tryd.ntmps14]
 refine qm ?_
 refine hk_region fun K hK=>runs_eval tab_ok ?_
 simp only [evz,fl,gp,tab,simprocAttr]
 refine fin_run ?_ (hK _ ?_)<;>clear hK K
 ·(first|exact trivial|omega|(simp only [In64] at *; omega)|(simp [In64] at *; omega)|(simp_all; done)|skip)
 refine qa (qm ?_)
 refine hk_region fun K hK=>runs_eval tab_ok ?_
 simp only [evz,fl,gp,tab,simprocAttr]
 refine fin_stop trivial (runs_call (gf_c N m hm) rfl rfl rfl (by simp only [dstOk,Nat.reduceLT]) (by repeat (first|exact trivial|constructor)) (runs_eval tab_ok ?_))
 simp only [evz,fl,gp,tab,simprocAttr]
 refine fin_run ?_ (hK _ ?_)<;>clear hK K
 ·(first|exact trivial|omega|(simp only [In64] at *; omega)|(simp [In64] at *; omega)|(simp_all; done)|skip)
 refine qa (qm (qm ?_))
 refine hk_region fun K hK=>runs_eval tab_ok ?_
 simp only [evz,fl,gp,tab,simprocAttr,decide_eq_false hf]
 refine fin_run ?_ (hK _ ?_)<;>clear hK K
 ·(first|exact trivial|omega|(simp only [In64] at *; omega)|(simp [In64] at *; omega)|(simp_all; done)|skip)
 refine qa ?_
 refine hk_cond rfl (fun hC1=>?_) (fun hC1=>?_)
 ·cases hC1
 refine qh (qa (qm ?_))
 refine hk_region fun K hK=>runs_eval tab_ok ?_
 simp only [evz,fl,gp,tab,simprocAttr]
 refine fin_run ?_ (hK _ ?_)<;>clear hK K
 ·(first|exact trivial|omega|(simp only [In64] at *; omega)|(simp [In64] at *; omega)|(simp_all; done)|skip)
 refine qa (qk ?_)
 simp only [Tryd.results14,enA,evz,fl,gp,tab,simprocAttr]
 all_goals ((first|exact rfl|exact ⟨rfl,rfl⟩|exact ⟨rfl,rfl,rfl⟩|exact ⟨trivial,rfl⟩|exact ⟨Nat.le_refl _,rfl⟩|trivial|(simp; done)))
theorem gf_c0 {n e:Nat} {m:List Int} (h:GT n m n e):FnC Tryd.prog 52 [gp n m] (fl (0,0)):=by
 have hb:=h.2.1.big
 have:=gf_c n m (by rw [h.2.1.len]; have:=Nat.mul_le_mul hb hb; omega)
 rwa [gf_of h] at this
theorem cf_many {n e:Nat} {m:List Int} (h:GT n m n e) (hc:24 < clN m n e):FnC Tryd.prog 14 [gp n m] (fl (2,0)):=by
 have hcl:(cst n (cjb n (op m n) e)).length=clN m n e:=rfl
 refine fnc_of tab_ok Tryd.func14 rfl (by kernel_rfl) (by rw [Tryd.ntmps14]; exact Nat.le_add_left 1 _) ?_; rw [Tryd.ntmps14]
 refine qm ?_
 refine hk_region fun K hK=>runs_eval tab_ok ?_
 simp only [evz,fl,gp,tab,simprocAttr]
 refine fin_run ?_ (hK _ ?_)<;>clear hK K
 ·(first|exact trivial|omega|(simp only [In64] at *; omega)|(simp [In64] at *; omega)|(simp_all; done)|skip)
 refine qa (qm ?_)
 refine hk_region fun K hK=>runs_eval tab_ok ?_
 simp only [evz,fl,gp,tab,simprocAttr]
 refine fin_stop trivial (runs_call (gf_c0 h) rfl rfl rfl (by simp only [dstOk,Nat.reduceLT]) (by repeat (first|exact trivial|constructor)) (runs_eval tab_ok ?_))
 simp only [evz,fl,gp,tab,simprocAttr]
 refine fin_run ?_ (hK _ ?_)<;>clear hK K
 ·(first|exact trivial|omega|(simp only [In64] at *; omega)|(simp [In64] at *; omega)|(simp_all; done)|skip)
 refine qa (qm (qm ?_))
 refine hk_region fun K hK=>runs_eval tab_ok ?_
 simp only [evz,fl,gp,tab,simprocAttr,ll_length,hcl]
 refine fin_stop trivial (runs_call (classesOf_c h) rfl rfl rfl (by simp only [dstOk,Nat.reduceLT]) (by repeat (first|exact trivial|constructor)) (runs_eval tab_ok ?_))
 simp only [evz,fl,gp,tab,simprocAttr,ll_length,hcl]
 refine fin_run ?_ (hK _ ?_)<;>clear hK K
 ·(first|exact trivial|omega|(simp only [In64] at *; omega)|(simp [In64] at *; omega)|(simp_all; done)|skip)
 refine qa ?_
 refine hk_cond rfl (fun hC1=>?_) (fun hC1=>?_)
 ·(try simp only [nhs] at hC1)
  refine hk_region fun K hK=>runs_eval tab_ok ?_
  simp only [evz,fl,gp,tab,simprocAttr]
  refine fin_stop trivial (runs_call (f_c 2 0) rfl rfl rfl (by simp only [dstOk,Nat.reduceLT]) (by repeat (first|exact trivial|constructor)) (runs_eval tab_ok ?_))
  simp only [evz,fl,gp,tab,simprocAttr]
  refine fin_run ?_ (hK _ ?_)<;>clear hK K
  ·(first|exact trivial|omega|(simp only [In64] at *; omega)|(simp [In64] at *; omega)|(simp_all; done)|skip)
  refine qa (qm ?_)
  refine hk_region fun K hK=>runs_eval tab_ok ?_
  simp only [evz,fl,gp,tab,simprocAttr]
  refine fin_run ?_ (hK _ ?_)<;>clear hK K
  ·(first|exact trivial|omega|(simp only [In64] at *; omega)|(simp [In64] at *; omega)|(simp_all; done)|skip)
  refine qa (qk ?_)
  simp only [Tryd.results14,enA,evz,fl,gp,tab,simprocAttr]
  all_goals ((first|exact rfl|exact ⟨rfl,rfl⟩|exact ⟨rfl,rfl,rfl⟩|exact ⟨trivial,rfl⟩|exact ⟨Nat.le_refl _,rfl⟩|trivial|(simp; done)))
 (try simp only [nhs] at hC1)
 omega
theorem cf_ok {n e:Nat} {m:List Int} (h:GT n m n e) (hc:clN m n e≤24):FnC Tryd.prog 14 [gp n m] (fl (0,0)):=by
 have hcl:(cst n (cjb n (op m n) e)).length=clN m n e:=rfl
 refine fnc_of tab_ok Tryd.func14 rfl (by kernel_rfl) (by rw [Tryd.ntmps14]; exact Nat.le_add_left 1 _) ?_; rw [Tryd.ntmps14]
 refine qm ?_
 refine hk_region fun K hK=>runs_eval tab_ok ?_
 simp only [evz,fl,gp,tab,simprocAttr]
 refine fin_run ?_ (hK _ ?_)<;>clear hK K
 ·(first|exact trivial|omega|(simp only [In64] at *; omega)|(simp [In64] at *; omega)|(simp_all; done)|skip)
 refine qa (qm ?_)
 refine hk_region fun K hK=>runs_eval tab_ok ?_
 simp only [evz,fl,gp,tab,simprocAttr]
 refine fin_stop trivial (runs_call (gf_c0 h) rfl rfl rfl (by simp only [dstOk,Nat.reduceLT]) (by repeat (first|exact trivial|constructor)) (runs_eval tab_ok ?_))
 simp only [evz,fl,gp,tab,simprocAttr]
 refine fin_run ?_ (hK _ ?_)<;>clear hK K
 ·(first|exact trivial|omega|(simp only [In64] at *; omega)|(simp [In64] at *; omega)|(simp_all; done)|skip)
 refine qa (qm (qm ?_))
 refine hk_region fun K hK=>runs_eval tab_ok ?_
 simp only [evz,fl,gp,tab,simprocAttr,ll_length,hcl]
 refine fin_stop trivial (runs_call (classesOf_c h) rfl rfl rfl (by simp only [dstOk,Nat.reduceLT]) (by repeat (first|exact trivial|constructor)) (runs_eval tab_ok ?_))
 simp only [evz,fl,gp,tab,simprocAttr,ll_length,hcl]
 refine fin_run ?_ (hK _ ?_)<;>clear hK K
 ·(first|exact trivial|omega|(simp only [In64] at *; omega)|(simp [In64] at *; omega)|(simp_all; done)|skip)
 refine qa ?_
 refine hk_cond rfl (fun hC1=>?_) (fun hC1=>?_)
 ·(try simp only [nhs] at hC1)
  omega
 (try simp only [nhs] at hC1)
 refine qh (qa (qm ?_))
 refine hk_region fun K hK=>runs_eval tab_ok ?_
 simp only [evz,fl,gp,tab,simprocAttr]
 refine fin_run ?_ (hK _ ?_)<;>clear hK K
 ·(first|exact trivial|omega|(simp only [In64] at *; omega)|(simp [In64] at *; omega)|(simp_all; done)|skip)
 refine qa (qk ?_)
 simp only [Tryd.results14,enA,evz,fl,gp,tab,simprocAttr]
 all_goals ((first|exact rfl|exact ⟨rfl,rfl⟩|exact ⟨rfl,rfl,rfl⟩|exact ⟨trivial,rfl⟩|exact ⟨Nat.le_refl _,rfl⟩|trivial|(simp; done)))
theorem prmB_iff {p:Nat} : prmB p=true↔1 < p∧∀ d,d < p→2≤d→¬ p % d=0:=by
 unfold prmB
 rw [Bool.and_eq_true,decide_eq_true_iff,List.all_eq_true]
 refine ⟨fun ⟨a,b⟩=>⟨a,fun d hd h2=>?_⟩,fun ⟨a,b⟩=>⟨a,fun d hd=>?_⟩⟩
 ·have:=b d (List.mem_range.2 hd)
  simp only [Bool.or_eq_true,decide_eq_true_eq] at this
  rcases this with h | h
  ·omega
  exact h
 simp only [Bool.or_eq_true,decide_eq_true_eq]
 by_cases h2:d < 2
 ·exact .inl h2
 exact .inr (b d (List.mem_range.1 hd) (by omega))
theorem md_good {n e:Nat} {m:List Int} (h:GT n m n e) {q:Nat} (hq:2 * n + 1≤q) (h1:q % expo m n e n=1 % expo m n e n) (h2:prmB q=true):clP m n e≤q:=by
 have hd:=expo_dvd h n (Nat.le_refl _)
 have hp:=h.2.1.pos
 obtain ⟨k1,k2,k3⟩:=mdK_spec hp h.2.1.big hd
 unfold clP mdR
 have hE0:0 < expo m n e n:=(expo_pos h (Nat.le_refl n)).1
 have hE:=Nat.le_of_dvd (by omega) hd
 generalize expo m n e n=E at *
 have h3:(q - 1) % E=0:=Nat.sub_mod_eq_zero_of_mod_eq h1
 obtain ⟨k,hk⟩:=Nat.dvd_of_mod_eq_zero h3
 have hk0:0 < k:=by
  refine Nat.pos_of_ne_zero fun h0=>?_
  rw [h0,Nat.mul_zero] at hk; omega
 obtain ⟨j,rfl⟩:∃ j,k=j + 1:=⟨k - 1,by omega⟩
 have hqj:q=E * (j + 1) + 1:=by omega
 have hc:mdC E n j=true:=by unfold mdC; rw [← hqj,h2,decide_eq_true (by omega)]; rfl
 have hjk:mdK E n≤j:=Nat.le_of_not_lt fun hl=>by rw [k3 j hl] at hc; cases hc
 have:=Nat.mul_le_mul_left E (show mdK E n + 1≤j + 1 by omega)
 omega
theorem refMod_c {n e:Nat} {m:List Int} (h:GT n m n e):FnC Tryd.prog 56 [gp n m] (.int .i64 (clP m n e:Nat)):=by
 have hb:=h.2.1.big
 obtain ⟨P,p1,p2⟩:=cl_P h
 have hd:=expo_dvd h n (Nat.le_refl _)
 have hp:=h.2.1.pos
 have hgood:=fun q=>md_good h (q:=q)
 have hPm:clP m n e % expo m n e n=1 % expo m n e n:=by
  unfold clP mdR
  rw [Nat.mul_add_mod]
 have hPp:prmB (clP m n e)=true:=(mdR_le hp hb hd).2.2
 have hE0:=(expo_pos h (Nat.le_refl n))
 refine fnc_of tab_ok Tryd.func56 rfl (by kernel_rfl) (by rw [Tryd.ntmps56]; exact Nat.le_add_left 1 _) ?_; rw [Tryd.ntmps56]
 refine qm ?_
 refine hk_region fun K hK=>runs_eval tab_ok ?_
 simp only [evz,fl,gp,tab,simprocAttr]
 refine fin_run ?_ (hK _ ?_)<;>clear hK K
 ·(first|exact trivial|omega|(simp only [In64] at *; omega)|(simp [In64] at *; omega)|(simp_all; done)|skip)
 refine qa (qm ?_)
 refine hk_region fun K hK=>runs_eval tab_ok ?_
 simp only [evz,fl,gp,tab,simprocAttr]
 refine fin_run trivial (hK _ ?_)<;>clear hK K
 refine qa (qm (qm ?_))
 refine hk_region fun K hK=>runs_eval tab_ok ?_
 simp only [evz,fl,gp,tab,simprocAttr]
 refine fin_run trivial (hK _ ?_)<;>clear hK K
 refine qa (ql ?_)
 refine hk_loop (ι:=Nat) (fun i=>⟨51,[(1,.ptr 0 0),(3,.p (.int .i64 (expo m n e i:Nat))),(4,.p (.int .i64 i))],[.own [.p (.int .i64 n),.p (.list (il m))]]⟩) (fun i=>i≤n) (fun i=>n - i) 0 (Nat.zero_le _) [0] (by simp only [leq,leA,evz,fl,gp,tab,simprocAttr]<;>first|rfl|trivial|skip) fun i hi=>?_
 refine qm (qm ?_)
 refine hk_region fun K hK=>runs_eval tab_ok ?_
 simp only [evz,fl,gp,tab,simprocAttr]
 refine fin_run ?_ (hK _ ?_)<;>clear hK K
 ·(first|exact trivial|omega|(simp only [In64] at *; omega)|(simp [In64] at *; omega)|(simp_all; done)|skip)
 refine qa ?_
 refine hk_cond rfl (fun hC1=>?_) (fun hC1=>?_)
 ·(try simp only [nhs] at hC1)
  have hil:i < n:=by omega
  have e1:=expo_pos h hi
  have e2:=expo_pos h (show i + 1≤n from hil)
  have o1:=Nat.le_of_dvd (by omega) (h.2.2.ord_dvd hil)
  have o2:=h.2.2.ord_pos hil
  have hL:expo m n e (i + 1)=expo m n e i / Nat.gcd (expo m n e i) (ord n (op m n) e i) * ord n (op m n) e i:=(lcm_alt _ _).symm
  have hgp:0 < Nat.gcd (expo m n e i) (ord n (op m n) e i):=Nat.gcd_pos_of_pos_left _ (by omega)
  have tdd:Int.tdiv ((expo m n e i:Nat):Int) ((Nat.gcd (expo m n e i) (ord n (op m n) e i):Nat):Int)=((expo m n e i / Nat.gcd (expo m n e i) (ord n (op m n) e i):Nat):Int):=rfl
  have hmul:((expo m n e i / Nat.gcd (expo m n e i) (ord n (op m n) e i):Nat):Int) * ((ord n (op m n) e i:Nat):Int)=((expo m n e (i + 1):Nat):Int):=by rw [hL,Int.natCast_mul]
  refine qh (qa (qm (ql ?_)))
  refine hk_draw2 mixed fun K hK=>runs2_eval tab_ok ?_
  simp only [evD,evz,fl,gp,tab,simprocAttr,tdd,hmul]
  refine fin2_stop ?_ (runs2_call (o_c h hil) rfl rfl rfl rfl (by simp only [dstOk,Nat.reduceLT]) (by repeat (first|exact trivial|constructor)) (runs2_eval tab_ok ?_))
  ·(first|exact trivial|omega|(simp only [In64] at *; omega)|(simp [In64] at *; omega)|(simp_all; done)|skip)
  simp only [evD,evz,fl,gp,tab,simprocAttr,tdd,hmul]
  refine fin2_stop ?_ (runs2_call (gcd_c (expo m n e i) (ord n (op m n) e i)) rfl rfl rfl rfl (by simp only [dstOk,Nat.reduceLT]) (by repeat (first|exact trivial|constructor)) (runs2_eval tab_ok ?_))
  ·(first|exact trivial|omega|(simp only [In64] at *; omega)|(simp [In64] at *; omega)|(simp_all; done)|skip)
  simp only [evD,evz,fl,gp,tab,simprocAttr,tdd,hmul]
  refine fin2_stop ?_ (runs2_call (o_c h hil) rfl rfl rfl rfl (by simp only [dstOk,Nat.reduceLT]) (by repeat (first|exact trivial|constructor)) (runs2_eval tab_ok ?_))
  ·have:=Nat.div_le_self (expo m n e i) (Nat.gcd (expo m n e i) (ord n (op m n) e i))
   obtain ⟨z,hz⟩:∃ z,expo m n e i / Nat.gcd (expo m n e i) (ord n (op m n) e i)=z:=⟨_,rfl⟩
   rw [hz] at this ⊢
   exact ⟨by omega,by simp only [In64]; omega⟩
  simp only [evD,evz,fl,gp,tab,simprocAttr,tdd,hmul]
  refine fin2_run ?_ (hK _ _ (by first|kernel_rfl|rfl) ?_)<;>clear hK K
  ·simp only [In64]; omega
  refine qd (qa ?_)
  refine hk_region fun K hK=>runs_eval tab_ok ?_
  simp only [evz,fl,gp,tab,simprocAttr]
  refine fin_run ?_ (hK _ ?_)<;>clear hK K
  ·(first|exact trivial|omega|(simp only [In64] at *; omega)|(simp [In64] at *; omega)|(simp_all; done)|skip)
  refine qa ?_
  refine ⟨i + 1,[0],by omega,by omega,?_⟩
  simp only [leq,leA,evz,fl,gp,tab,simprocAttr]<;>first|trivial|omega|skip
 (try simp only [nhs] at hC1)
 have hil:i=n:=by omega
 rw [hil]
 obtain ⟨E,hE⟩:∃ E,expo m n e n=E:=⟨_,rfl⟩
 rw [hE] at hPm hE0 hgood ⊢
 obtain ⟨p,hpp⟩:∃ p,clP m n e=p:=⟨_,rfl⟩
 rw [hpp] at hPm hPp hgood p1 p2 ⊢
 refine qj (qc (qc (qf (qa (qm ?_)))))
 refine hk_region fun K hK=>runs_eval tab_ok ?_
 simp only [evz,fl,gp,tab,simprocAttr]
 refine fin_run ?_ (hK _ ?_)<;>clear hK K
 ·simp only [In64]; omega
 refine qa (ql ?_)
 refine hk_loop (ι:=Nat) (fun q=>⟨51,[(3,.p (.int .i64 E)),(5,.p (.int .i64 q))],[]⟩) (fun q=>2 * n + 1≤q∧q≤p) (fun q=>p - q) (2 * n + 1) ⟨Nat.le_refl _,by omega⟩ [] (by simp only [leq,leA,evz,fl,gp,tab,simprocAttr]<;>omega) fun q hq=>?_
 obtain ⟨q1,q2⟩:=hq
 have t1:Int.tmod (q:Int) (E:Int)=((q % E:Nat):Int):=rfl
 have t2:Int.tmod 1 (E:Int)=((1 % E:Nat):Int):=rfl
 refine qm (ql (qm ?_))
 refine hk_draw mixed (by kernel_rfl) fun K hK=>runs_eval tab_ok ?_
 simp only [evz,fl,gp,tab,simprocAttr,t1,t2]
 refine fin_run ?_ (hK _ ?_)<;>clear hK K
 ·omega
 refine qa (qm (qm ?_))
 refine hk_region fun K hK=>runs_eval tab_ok ?_
 simp only [evz,fl,gp,tab,simprocAttr]
 refine fin_run trivial (hK _ ?_)<;>clear hK K
 refine qa (ql ?_)
 refine hk_loop (ι:=Nat × Bool) (fun x=>⟨51,[(3,.p (.int .i64 E)),(5,.p (.int .i64 q)),(6,.p (.bool x.2)),(7,.p (.int .i64 x.1))],[]⟩) (fun x=>2≤x.1∧x.1≤q + 2∧(x.2=true→q % E=1 % E∧∀ t,t < x.1→2≤t→¬ q % t=0)∧(x.2=false→¬ (q % E=1 % E∧prmB q=true))) (fun x=>q + 2 - x.1) (2,decide (q % E=1 % E)) ⟨Nat.le_refl _,by simp only; omega,fun hh=>⟨by simpa using hh,fun t h1 h2=>by simp only at h1; omega⟩,fun hh hh2=>by
   rw [decide_eq_true hh2.1] at hh; cases hh⟩ [] (by simp only [leq,leA,evz,fl,gp,tab,simprocAttr]<;>first|trivial|exact decide_eq_decide.2 (by omega)|skip) fun x hx=>?_
 obtain ⟨d,is⟩:=x
 obtain ⟨d1,d2,d3,d4⟩:=hx
 simp only at d1 d2 d3 d4
 have t3:Int.tmod (q:Int) (d:Int)=((q % d:Nat):Int):=rfl
 refine qm (qm ?_)
 rcases Nat.lt_or_ge d q with hdq | hdq
 ·refine hk_region fun K hK=>runs_eval tab_ok ?_
  simp only [evz,fl,gp,tab,simprocAttr,decide_eq_true (show (d:Int) < (q:Int) by omega)]
  refine fin_run trivial (hK _ ?_)<;>clear hK K
  refine qa ?_
  refine hk_cond rfl (fun hC2=>?_) (fun hC2=>?_)
  ·(try simp only [nhs] at hC2)
   have his:is=true:=by simpa using hC2
   obtain ⟨a1,a2⟩:=d3 his
   refine qh (qa (qm (ql ?_)))
   refine hk_region fun K hK=>runs_eval tab_ok ?_
   simp only [evz,fl,gp,tab,simprocAttr,t3]
   refine fin_run ?_ (hK _ ?_)<;>clear hK K
   ·omega
   refine qd (qa ?_)
   refine hk_region fun K hK=>runs_eval tab_ok ?_
   simp only [evz,fl,gp,tab,simprocAttr]
   refine fin_run ?_ (hK _ ?_)<;>clear hK K
   ·(first|exact trivial|omega|(simp only [In64] at *; omega)|(simp [In64] at *; omega)|(simp_all; done)|skip)
   refine qa ?_
   refine ⟨(d + 1,decide (¬ q % d=0)),[],⟨by simp only; omega,by simp only; omega,fun hh=>⟨a1,fun t h1 h2=>?_⟩,fun hh hh2=>?_⟩,by simp only; omega,?_⟩
   ·by_cases e1:t=d
    ·rw [e1]; simpa using hh
    exact a2 t (by simp only at h1; omega) h2
   ·have hz:q % d=0:=by simpa using hh
    exact (prmB_iff.1 hh2.2).2 d hdq d1 hz
   simp only [leq,leA,evz,fl,gp,tab,simprocAttr]<;>first|trivial|omega|(rw [← decide_not]; exact decide_eq_decide.2 (by omega))|skip
  (try simp only [nhs] at hC2)
  have his:is=false:=by simpa using hC2
  have hno:=d4 his
  refine qj (qc (qc (qf (qa (qm ?_)))))
  refine hk_region fun K hK=>runs_eval tab_ok ?_
  simp only [evz,fl,gp,tab,simprocAttr]
  refine fin_run trivial (hK _ ?_)<;>clear hK K
  refine qa ?_
  refine hk_cond rfl (fun hC3=>?_) (fun hC3=>?_)
  ·(try simp only [nhs] at hC3)
   rw [his] at hC3; cases hC3
  (try simp only [nhs] at hC3)
  refine qh (qd (qa ?_))
  refine hk_region fun K hK=>runs_eval tab_ok ?_
  simp only [evz,fl,gp,tab,simprocAttr]
  refine fin_run ?_ (hK _ ?_)<;>clear hK K
  ·(first|exact trivial|omega|(simp only [In64] at *; omega)|(simp [In64] at *; omega)|(simp_all; done)|skip)
  refine qa ?_
  have hqp:q ≠ p:=fun hh=>hno (by rw [hh]; exact ⟨hPm,hPp⟩)
  refine ⟨q + 1,[],⟨by omega,by omega⟩,by omega,by simp only [leq,leA,evz,fl,gp,tab,simprocAttr]<;>omega⟩
 refine hk_region fun K hK=>runs_eval tab_ok ?_
 simp only [evz,fl,gp,tab,simprocAttr,decide_eq_false (show ¬ (d:Int) < (q:Int) by omega)]
 refine fin_run trivial (hK _ ?_)<;>clear hK K
 refine qa ?_
 refine hk_cond rfl (fun hC2=>?_) (fun hC2=>?_)
 ·cases hC2
 refine qj (qc (qc (qf (qa (qm ?_)))))
 refine hk_region fun K hK=>runs_eval tab_ok ?_
 simp only [evz,fl,gp,tab,simprocAttr]
 refine fin_run trivial (hK _ ?_)<;>clear hK K
 refine qa ?_
 refine hk_cond rfl (fun hC3=>?_) (fun hC3=>?_)
 ·(try simp only [nhs] at hC3)
  have his:is=true:=by simpa using hC3
  obtain ⟨a1,a2⟩:=d3 his
  have hpr:prmB q=true:=prmB_iff.2 ⟨by omega,fun t h1 h2=>a2 t (by omega) h2⟩
  have:=hgood q q1 a1 hpr
  have hqp:q=p:=by omega
  refine qm ?_
  refine hk_region fun K hK=>runs_eval tab_ok ?_
  simp only [evz,fl,gp,tab,simprocAttr]
  refine fin_run trivial (hK _ ?_)<;>clear hK K
  refine qa (qk (qe (qb (qb (qe ?_)))))
  simp only [Tryd.results56,enA,evz,fl,gp,tab,simprocAttr]
  all_goals (rw [hqp])
 (try simp only [nhs] at hC3)
 have his:is=false:=by simpa using hC3
 have hno:=d4 his
 refine qh (qd (qa ?_))
 refine hk_region fun K hK=>runs_eval tab_ok ?_
 simp only [evz,fl,gp,tab,simprocAttr]
 refine fin_run ?_ (hK _ ?_)<;>clear hK K
 ·(first|exact trivial|omega|(simp only [In64] at *; omega)|(simp [In64] at *; omega)|(simp_all; done)|skip)
 refine qa ?_
 have hqp:q ≠ p:=fun hh=>hno (by rw [hh]; exact ⟨hPm,hPp⟩)
 refine ⟨q + 1,[],⟨by omega,by omega⟩,by omega,by simp only [leq,leA,evz,fl,gp,tab,simprocAttr]<;>omega⟩
end Go.Proofs.YtjlmpmidchddjaaDoor

namespace Go.Proofs.YtjlmpmidchddjaaDoor
open Go.Pv
theorem pw_uniq {α:Type} {R:α→α→Prop} (anti:∀ a b,R a b→R b a→a=b):∀ (xs ys:List α),xs.Perm ys→xs.Pairwise R→ys.Pairwise R→xs=ys
 | [],ys,h,_,_=>h.symm.eq_nil.symm
 | x :: r,[],h,_,_=>h.eq_nil
 | x :: r,y :: s,h,h1,h2=>by
  have hxy:x=y:=by
   have m1:x∈y :: s:=h.mem_iff.1 (by simp)
   have m2:y∈x :: r:=h.mem_iff.2 (by simp)
   rcases List.mem_cons.1 m1 with h3 | h3
   ·exact h3
   rcases List.mem_cons.1 m2 with h4 | h4
   ·exact h4.symm
   exact anti _ _ ((List.pairwise_cons.1 h1).1 y h4) ((List.pairwise_cons.1 h2).1 x h3)
  subst hxy
  rw [pw_uniq anti r s (List.Perm.cons_inv h) (List.pairwise_cons.1 h1).2 (List.pairwise_cons.1 h2).2]
theorem srtL_uniq {xs ys:List (List Int)} (h:xs.Perm ys) (hs:ys.Pairwise fun v w=>¬ cmpL w v < 0):ys=srtL xs:=
 pw_uniq (fun a b h1 h2=>cmpL_tot _ _ h2 h1) _ _ (h.symm.trans (srtL_perm xs)) hs (srtL_sorted xs)
theorem sq8_one:∀ e,e < 8→op sq8 8 e 0=0→e=0:=by decide +kernel
theorem sq8_rows:(clSp sq8 8 0).map (rowT (clP sq8 8 0) 8 (clO sq8 8 0) (clN sq8 8 0) (clJ sq8 8 0) (clS sq8 8 0))=[[2,2,0,15,0,0],[1,1,1,1,1,1],[1,1,1,1,16,16],[1,1,16,1,1,16],[1,1,16,1,16,1]]:=by decide +kernel
theorem sq8_N:clN sq8 8 0=5:=by decide +kernel
theorem sq8_O:clO sq8 8 0=0:=by decide +kernel
theorem sq8_dg:dgL sq8 8 0=[1,1,1,1,2]:=by
 have h:=srtL_uniq (xs:=[[2,2,0,15,0,0],[1,1,1,1,1,1],[1,1,1,1,16,16],[1,1,16,1,1,16],[1,1,16,1,16,1]]) (ys:=[[1,1,1,1,1,1],[1,1,1,1,16,16],[1,1,16,1,1,16],[1,1,16,1,16,1],[2,2,0,15,0,0]]) (by decide +kernel) (by decide +kernel)
 unfold dgL chT tabR
 rw [sq8_rows,← h,sq8_O]
 rfl
theorem charBegun_c:FnC Tryd.prog 15 [] (.bool true):=by
 obtain ⟨e,h⟩:=sq8_gt
 have he:e=0:=sq8_one e h.2.2.el (h.2.2.one_l 0 (by omega))
 subst he
 have hd:=degrees_c h (by rw [sq8_N]; omega)
 rw [sq8_dg] at hd
 refine fnc_of tab_ok Tryd.func15 rfl (by kernel_rfl) (by rw [Tryd.ntmps15]; exact Nat.le_add_left 0 _) ?_; rw [Tryd.ntmps15]
 refine qm ?_
 refine hk_region fun K hK=>runs_eval tab_ok ?_
 simp only [evz,fl,gp,tab,simprocAttr]
 refine fin_run trivial (hK _ ?_)<;>clear hK K
 refine qa (qm ?_)
 refine hk_region fun K hK=>runs_eval tab_ok ?_
 simp only [evz,fl,gp,tab,simprocAttr]
 refine fin_stop trivial (runs_call (square_c) rfl rfl rfl (by simp only [dstOk,Nat.reduceLT]) (by repeat (first|exact trivial|constructor)) (runs_eval tab_ok ?_))
 simp only [evz,fl,gp,tab,simprocAttr]
 refine fin_stop trivial (runs_call (hd) rfl rfl rfl (by simp only [dstOk,Nat.reduceLT]) (by repeat (first|exact trivial|constructor)) (runs_eval tab_ok ?_))
 simp only [evz,fl,gp,tab,simprocAttr]
 refine fin_run ?_ (hK _ ?_)<;>clear hK K
 ·(first|exact trivial|omega|(simp only [In64] at *; omega)|(simp [In64] at *; omega)|(simp_all; done)|skip)
 refine qa (qm ?_)
 refine hk_region fun K hK=>runs_eval tab_ok ?_
 simp only [evz,fl,gp,tab,simprocAttr]
 refine fin_stop trivial (runs_call (FnC.sub (args':=[.list (il [1,1,1,1,2]),.nn (il [1,1,1,1,2])]) (ints_c [1,1,1,1,2] [1,1,1,1,2] (by decide)) (And.intro (.same _) (And.intro (.nn _) trivial))) rfl rfl rfl (by simp only [dstOk,Nat.reduceLT]) (by repeat (first|exact trivial|constructor)) (runs_eval tab_ok ?_))
 simp only [evz,fl,gp,tab,simprocAttr]
 refine fin_run ?_ (hK _ ?_)<;>clear hK K
 ·(first|exact trivial|omega|(simp only [In64] at *; omega)|(simp [In64] at *; omega)|(simp_all; done)|skip)
 refine qa (qk ?_)
 simp only [Tryd.results15,enA,evz,fl,gp,tab,simprocAttr]
 all_goals ((first|exact rfl|exact ⟨rfl,rfl⟩|exact ⟨rfl,rfl,rfl⟩|exact ⟨trivial,rfl⟩|exact ⟨Nat.le_refl _,rfl⟩|trivial|(simp; done)))
theorem inverses_c {n e:Nat} {m:List Int} (h:GT n m n e):FnC Tryd.prog 19 [gp n m,.list (ll (clL m n e))] (.list (il ((List.range (clN m n e)).map fun i=>(clJ m n e i:Int)))):=by
 have hb:=h.2.1.big
 have hll:(clL m n e).length=clN m n e:=rfl
 have hcn:=clN_le h
 have hlw:∀ w∈clL m n e,w.length≤1000000:=fun w hw=>by
  obtain ⟨i,hi,e1⟩:=List.getElem_of_mem hw
  have h2:=(clS_pos h hi).2.1
  unfold clS at h2
  have e2:(clL m n e).getD i []=w:=by rw [← e1]; simp [List.getD,List.getElem?_eq_getElem hi]
  rw [e2] at h2; omega
 refine fnc_of tab_ok Tryd.func19 rfl (by kernel_rfl) (by rw [Tryd.ntmps19]; exact Nat.le_add_left 2 _) ?_; rw [Tryd.ntmps19]
 refine qm ?_
 refine hk_region fun K hK=>runs_eval tab_ok ?_
 simp only [evz,fl,gp,tab,simprocAttr]
 refine fin_run ?_ (hK _ ?_)<;>clear hK K
 ·(first|exact trivial|omega|(simp only [In64] at *; omega)|(simp [In64] at *; omega)|(simp_all; done)|skip)
 refine qa (qm ?_)
 refine hk_region fun K hK=>runs_eval tab_ok ?_
 simp only [evz,fl,gp,tab,simprocAttr]
 refine fin_run trivial (hK _ ?_)<;>clear hK K
 refine qa (qm (qm ?_))
 refine hk_own0 5 rfl ?_
 refine hk_region fun K hK=>runs_eval tab_ok ?_
 simp only [evz,fl,gp,tab,simprocAttr]
 refine fin_run trivial (hK _ ?_)<;>clear hK K
 refine qa (ql ?_)
 refine hk_loop (ι:=Nat) (fun i=>⟨27,[(1,.p (.list (ll (clL m n e)))),(2,.ptr 0 0),(5,.sl 1 0 i),(6,.p (.int .i64 i))],[.own [.p (.int .i64 n),.p (.list (il m))],.own (ol ((List.range i).map fun i=>(clJ m n e i:Int)))]⟩) (fun i=>i≤clN m n e) (fun i=>clN m n e - i) 0 (Nat.zero_le _) [0,1] (by simp only [leq,leA,evz,fl,gp,tab,simprocAttr]<;>first|trivial|(simp [LeH,ol_nil]; done)|skip) fun i hi=>?_
 refine qm (qm ?_)
 refine hk_region fun K hK=>runs_eval tab_ok ?_
 simp only [evz,fl,gp,tab,simprocAttr,ll_length,hll]
 refine fin_run trivial (hK _ ?_)<;>clear hK K
 refine qa ?_
 refine hk_cond rfl (fun hC1=>?_) (fun hC1=>?_)
 ·(try simp only [nhs] at hC1)
  have hil:i < clN m n e:=by omega
  obtain ⟨s1,s2,s3⟩:=clS_pos h hil
  have hx:=(clG h hil).1
  obtain ⟨Ci,hCi⟩:∃ Ci,(clL m n e).getD i []=Ci:=⟨_,rfl⟩
  have hCl:0 < Ci.length:=by rw [← hCi]; exact s1
  rw [hCi] at s3
  have hi1:=i_c h.2.1 hx
  have hii:iI m n (clX m n e i)=((iv n (op m n) e (clX m n e i):Nat):Int):=h.iI hx
  have hwc:=whichOf_r (clL m n e) ((iv n (op m n) e (clX m n e i):Nat):Int) (by omega) hlw
  rw [(clI_lt h (h.2.2.iv_lt hx)).2] at hwc
  have hsn:(List.range i).map (fun i=>(clJ m n e i:Int))++[(clI m n e (iv n (op m n) e (clX m n e i)):Int)]=(List.range (i + 1)).map fun i=>(clJ m n e i:Int):=by rw [List.range_succ,List.map_append]; rfl
  have hml:((List.range i).map fun i=>(clJ m n e i:Int)).length=i:=by simp
  have hdt:List.take i ((List.range i).map fun i=>(clJ m n e i:Int))=(List.range i).map fun i=>(clJ m n e i:Int):=List.take_of_length_le (by omega)
  refine qh (qa (qm (ql ?_)))
  refine hk_draw2 mixed fun K hK=>runs2_eval tab_ok ?_
  simp only [evD,evz,fl,gp,tab,simprocAttr,hml,hdt,hsn,ll_length,hll,ll_get (show i < (clL m n e).length from hil),hCi,il_get hCl,s3]
  refine fin2_stop ?_ (runs2_call (hi1) rfl rfl rfl rfl (by simp only [dstOk,Nat.reduceLT]) (by repeat (first|exact trivial|constructor)) (runs2_eval tab_ok ?_))
  ·(first|exact trivial|omega|(simp only [In64] at *; omega)|(simp [In64] at *; omega)|(simp_all; done)|skip)
  simp only [evD,evz,fl,gp,tab,simprocAttr,hii,hml,hdt,hsn,ll_length,hll,ll_get (show i < (clL m n e).length from hil),hCi,il_get hCl,s3]
  refine fin2_stop ?_ (runs2_call (hwc) rfl rfl rfl rfl (by simp only [dstOk,Nat.reduceLT]) (by repeat (first|exact trivial|constructor)) (runs2_eval tab_ok ?_))
  ·(first|exact trivial|omega|(simp only [In64] at *; omega)|(simp [In64] at *; omega)|(simp_all; done)|skip)
  simp only [evD,evz,fl,gp,tab,simprocAttr,hml,hdt,hsn,ll_length,hll,ll_get (show i < (clL m n e).length from hil),hCi,il_get hCl,s3]
  refine fin2_run ?_ (hK _ _ (by first|kernel_rfl|rfl) ?_)<;>clear hK K
  ·omega
  refine qd (qa ?_)
  refine hk_region fun K hK=>runs_eval tab_ok ?_
  simp only [evz,fl,gp,tab,simprocAttr]
  refine fin_run ?_ (hK _ ?_)<;>clear hK K
  ·(first|exact trivial|omega|(simp only [In64] at *; omega)|(simp [In64] at *; omega)|(simp_all; done)|skip)
  refine qa ?_
  refine ⟨i + 1,[0,2],by omega,by omega,?_⟩
  have hml2:((List.range (i + 1)).map fun i=>(clJ m n e i:Int)).length=i + 1:=by simp
  simp only [leq,leA,evz,fl,gp,tab,simprocAttr]<;>first|trivial|omega|(rw [List.take_of_length_le (by omega)]; done)|skip
 (try simp only [nhs] at hC1)
 have hil:i=clN m n e:=by omega
 have hml:((List.range i).map fun i=>(clJ m n e i:Int)).length=i:=by simp
 refine qj (qc (qc (qf (qa (qm ?_)))))
 refine hk_region fun K hK=>runs_eval tab_ok ?_
 simp only [evz,fl,gp,tab,simprocAttr]
 refine fin_run trivial (hK _ ?_)<;>clear hK K
 refine qa (qk ?_)
 simp only [Tryd.results19,enA,evz,fl,gp,tab,simprocAttr]
 rw [List.take_of_length_le (by omega)]
 exact ⟨by omega,by rw [hil]⟩
theorem tableOf_no (N:Int) (m:List Int) (f:PV) (c a:Int) (hc:¬ c=0) (hf:FnC Tryd.prog 14 [gp N m] (fl (c,a))):FnC Tryd.prog 16 [gp N m] (.tup [.int .i64 0,.list [],.list [],.bool false]):=by
 refine fnc_of tab_ok Tryd.func16 rfl (by kernel_rfl) (by rw [Tryd.ntmps16]; exact Nat.le_add_left 1 _) ?_; rw [Tryd.ntmps16]
 refine qm ?_
 refine hk_region fun K hK=>runs_eval tab_ok ?_
 simp only [evz,fl,gp,tab,simprocAttr]
 refine fin_run ?_ (hK _ ?_)<;>clear hK K
 ·(first|exact trivial|omega|(simp only [In64] at *; omega)|(simp [In64] at *; omega)|(simp_all; done)|skip)
 refine qa (qm (qm ?_))
 refine hk_region fun K hK=>runs_eval tab_ok ?_
 simp only [evz,fl,gp,tab,simprocAttr]
 refine fin_stop trivial (runs_call (hf) rfl rfl rfl (by simp only [dstOk,Nat.reduceLT]) (by repeat (first|exact trivial|constructor)) (runs_eval tab_ok ?_))
 simp only [evz,fl,gp,tab,simprocAttr]
 refine fin_run ?_ (hK _ ?_)<;>clear hK K
 ·(first|exact trivial|omega|(simp only [In64] at *; omega)|(simp [In64] at *; omega)|(simp_all; done)|skip)
 refine qa ?_
 refine hk_cond rfl (fun hC1=>?_) (fun hC1=>?_)
 ·(try simp only [nhs] at hC1)
  refine qm ?_
  refine hk_region fun K hK=>runs_eval tab_ok ?_
  simp only [evz,fl,gp,tab,simprocAttr]
  refine fin_run trivial (hK _ ?_)<;>clear hK K
  refine qa (qk (qb ?_))
  simp only [Tryd.results16,enA,evz,fl,gp,tab,simprocAttr]
  all_goals ((first|exact rfl|exact ⟨rfl,rfl⟩|exact ⟨rfl,rfl,rfl⟩|exact ⟨trivial,rfl⟩|exact ⟨Nat.le_refl _,rfl⟩|trivial|(simp; done)))
 (try simp only [nhs] at hC1)
 exact absurd hC1 hc
theorem tableOf_c {n e:Nat} {m:List Int} (h:GT n m n e) (hc24:clN m n e≤24):FnC Tryd.prog 16 [gp n m] (.tup [.int .i64 (clP m n e:Nat),.list (ll (chT m n e)),.list (ll (clL m n e)),.bool true]):=by
 obtain ⟨P,p1,p2⟩:=cl_P h
 haveI:NeZero (clP m n e):=⟨by have:=P.three; omega⟩
 obtain ⟨_,_,t3,t4,_⟩:=chT_ort h
 have hll:(clL m n e).length=clN m n e:=rfl
 refine fnc_of tab_ok Tryd.func16 rfl (by kernel_rfl) (by rw [Tryd.ntmps16]; exact Nat.le_add_left 1 _) ?_; rw [Tryd.ntmps16]
 refine qm ?_
 refine hk_region fun K hK=>runs_eval tab_ok ?_
 simp only [evz,fl,gp,tab,simprocAttr]
 refine fin_run ?_ (hK _ ?_)<;>clear hK K
 ·(first|exact trivial|omega|(simp only [In64] at *; omega)|(simp [In64] at *; omega)|(simp_all; done)|skip)
 refine qa (qm (qm ?_))
 refine hk_region fun K hK=>runs_eval tab_ok ?_
 simp only [evz,fl,gp,tab,simprocAttr]
 refine fin_stop trivial (runs_call (cf_ok h hc24) rfl rfl rfl (by simp only [dstOk,Nat.reduceLT]) (by repeat (first|exact trivial|constructor)) (runs_eval tab_ok ?_))
 simp only [evz,fl,gp,tab,simprocAttr]
 refine fin_run ?_ (hK _ ?_)<;>clear hK K
 ·(first|exact trivial|omega|(simp only [In64] at *; omega)|(simp [In64] at *; omega)|(simp_all; done)|skip)
 refine qa ?_
 refine hk_cond rfl (fun hC1=>?_) (fun hC1=>?_)
 ·(try simp only [nhs] at hC1)
  first|exact absurd rfl hC1|exact hC1.elim|cases hC1|(simp at hC1; done)
 (try simp only [nhs] at hC1)
 refine qh (qa (qm ?_))
 refine hk_region fun K hK=>runs_eval tab_ok ?_
 simp only [evz,fl,gp,tab,simprocAttr]
 refine fin_stop trivial (runs_call (table_c h hc24) rfl rfl rfl (by simp only [dstOk,Nat.reduceLT]) (by repeat (first|exact trivial|constructor)) (runs_eval tab_ok ?_))
 simp only [evz,fl,gp,tab,simprocAttr]
 refine fin_run ?_ (hK _ ?_)<;>clear hK K
 ·(first|exact trivial|omega|(simp only [In64] at *; omega)|(simp [In64] at *; omega)|(simp_all; done)|skip)
 refine qa (qm ?_)
 refine hk_region fun K hK=>runs_eval tab_ok ?_
 simp only [evz,fl,gp,tab,simprocAttr]
 refine fin_stop trivial (runs_call (classesOf_c h) rfl rfl rfl (by simp only [dstOk,Nat.reduceLT]) (by repeat (first|exact trivial|constructor)) (runs_eval tab_ok ?_))
 simp only [evz,fl,gp,tab,simprocAttr]
 refine fin_run ?_ (hK _ ?_)<;>clear hK K
 ·(first|exact trivial|omega|(simp only [In64] at *; omega)|(simp [In64] at *; omega)|(simp_all; done)|skip)
 refine qa (qm (qm ?_))
 refine hk_region fun K hK=>runs_eval tab_ok ?_
 simp only [evz,fl,gp,tab,simprocAttr,ll_length,hll,t3]
 refine fin_stop trivial (runs_call (refMod_c h) rfl rfl rfl (by simp only [dstOk,Nat.reduceLT]) (by repeat (first|exact trivial|constructor)) (runs_eval tab_ok ?_))
 simp only [evz,fl,gp,tab,simprocAttr,ll_length,hll,t3]
 refine fin_run ?_ (hK _ ?_)<;>clear hK K
 ·(first|exact trivial|omega|(simp only [In64] at *; omega)|(simp [In64] at *; omega)|(simp_all; done)|skip)
 refine qa ?_
 refine hk_cond rfl (fun hC2=>?_) (fun hC2=>?_)
 ·(try simp only [nhs] at hC2)
  first|exact absurd rfl hC2|omega|cases hC2
 (try simp only [nhs] at hC2)
 refine qh (qa (qm (qm ?_)))
 refine hk_region fun K hK=>runs_eval tab_ok ?_
 simp only [evz,fl,gp,tab,simprocAttr]
 refine fin_run trivial (hK _ ?_)<;>clear hK K
 refine qa (ql ?_)
 refine hk_loop (ι:=Nat) (fun i=>⟨82,[(6,.p (.int .i64 (clP m n e:Nat))),(7,.p (.list (ll (chT m n e)))),(9,.p (.list (ll (clL m n e)))),(10,.p (.int .i64 i))],[]⟩) (fun i=>i≤clN m n e) (fun i=>clN m n e - i) 0 (Nat.zero_le _) [] (by simp only [leq,leA,evz,fl,gp,tab,simprocAttr]<;>first|trivial|skip) fun i hi=>?_
 refine qm (qm ?_)
 refine hk_region fun K hK=>runs_eval tab_ok ?_
 simp only [evz,fl,gp,tab,simprocAttr,ll_length,t3]
 refine fin_run trivial (hK _ ?_)<;>clear hK K
 refine qa ?_
 refine hk_cond rfl (fun hC3=>?_) (fun hC3=>?_)
 ·(try simp only [nhs] at hC3)
  have hil:i < (chT m n e).length:=by omega
  obtain ⟨r,hr⟩:∃ r,(chT m n e).getD i []=r:=⟨_,rfl⟩
  have hrl:r.length=clN m n e:=by rw [← hr]; exact (t4 _ (mem_getD hil)).1
  have hrg:rgp (clP m n e) r:=by rw [← hr]; exact (t4 _ (mem_getD hil)).2
  refine qh (qa (qm (ql (qm (qm ?_)))))
  refine hk_region fun K hK=>runs_eval tab_ok ?_
  simp only [evz,fl,gp,tab,simprocAttr,ll_length,ll_get hil,hr,il_length,hrl,hll]
  refine fin_run ?_ (hK _ ?_)<;>clear hK K
  ·(first|exact trivial|omega|(simp only [In64] at *; omega)|(simp [In64] at *; omega)|(simp_all; done)|skip)
  refine qa ?_
  refine hk_cond rfl (fun hC4=>?_) (fun hC4=>?_)
  ·(try simp only [nhs] at hC4)
   cases hC4
  (try simp only [nhs] at hC4)
  refine qh (qa (qm ?_))
  refine hk_region fun K hK=>runs_eval tab_ok ?_
  simp only [evz,fl,gp,tab,simprocAttr]
  refine fin_run trivial (hK _ ?_)<;>clear hK K
  refine qa (ql ?_)
  refine hk_loop (ι:=Nat) (fun k=>⟨82,[(6,.p (.int .i64 (clP m n e:Nat))),(7,.p (.list (ll (chT m n e)))),(9,.p (.list (ll (clL m n e)))),(10,.p (.int .i64 i)),(11,.p (.int .i64 k))],[]⟩) (fun k=>k≤clN m n e) (fun k=>clN m n e - k) 0 (Nat.zero_le _) [] (by simp only [leq,leA,evz,fl,gp,tab,simprocAttr]<;>first|trivial|skip) fun k hk=>?_
  refine qm (qm ?_)
  refine hk_region fun K hK=>runs_eval tab_ok ?_
  simp only [evz,fl,gp,tab,simprocAttr,ll_length,hll]
  refine fin_run trivial (hK _ ?_)<;>clear hK K
  refine qa ?_
  refine hk_cond rfl (fun hC5=>?_) (fun hC5=>?_)
  ·(try simp only [nhs] at hC5)
   have hkl:k < r.length:=by omega
   have hrk:=hrg k
   refine qh (qa (qm (ql (qm ?_))))
   refine hk_region fun K hK=>runs_eval tab_ok ?_
   simp only [evz,fl,gp,tab,simprocAttr,ll_length,ll_get hil,hr,il_get hkl,decide_eq_false (show ¬ r.getD k 0 < 0 by omega)]
   refine fin_run ?_ (hK _ ?_)<;>clear hK K
   ·omega
   refine qa ?_
   refine hk_cond rfl (fun hC6=>?_) (fun hC6=>?_)
   ·(try simp only [nhs] at hC6)
    omega
   (try simp only [nhs] at hC6)
   refine qh (qd (qa ?_))
   refine hk_region fun K hK=>runs_eval tab_ok ?_
   simp only [evz,fl,gp,tab,simprocAttr]
   refine fin_run ?_ (hK _ ?_)<;>clear hK K
   ·(first|exact trivial|omega|(simp only [In64] at *; omega)|(simp [In64] at *; omega)|(simp_all; done)|skip)
   refine qa ?_
   refine ⟨k + 1,[],by omega,by omega,by simp only [leq,leA,evz,fl,gp,tab,simprocAttr]<;>first|trivial|omega|skip⟩
  (try simp only [nhs] at hC5)
  refine qj (qc (qc (qf (qd (qa ?_)))))
  refine hk_region fun K hK=>runs_eval tab_ok ?_
  simp only [evz,fl,gp,tab,simprocAttr]
  refine fin_run ?_ (hK _ ?_)<;>clear hK K
  ·(first|exact trivial|omega|(simp only [In64] at *; omega)|(simp [In64] at *; omega)|(simp_all; done)|skip)
  refine qa ?_
  refine ⟨i + 1,[],by omega,by omega,by simp only [leq,leA,evz,fl,gp,tab,simprocAttr]<;>first|trivial|omega|skip⟩
 (try simp only [nhs] at hC3)
 refine qj (qc (qc (qf (qa (qm ?_)))))
 refine hk_region fun K hK=>runs_eval tab_ok ?_
 simp only [evz,fl,gp,tab,simprocAttr]
 refine fin_run trivial (hK _ ?_)<;>clear hK K
 refine qa (qk ?_)
 simp only [Tryd.results16,enA,evz,fl,gp,tab,simprocAttr]
 all_goals ((first|exact rfl|exact ⟨rfl,rfl⟩|exact ⟨rfl,rfl,rfl⟩|exact ⟨trivial,rfl⟩|exact ⟨Nat.le_refl _,rfl⟩|trivial|(simp; done)))
end Go.Proofs.YtjlmpmidchddjaaDoor

namespace Go.Proofs.YtjlmpmidchddjaaDoor
open Go.Pv
def oaI (p:Nat) (S J:Nat→Nat) (r r' : List Int):Nat→Int
 | 0=>0
 | k + 1=>(oaI p S J r r' k + (S k:Nat) * r.getD k 0 % (p:Int) * r'.getD (J k) 0) % (p:Int)
def obI (p:Nat) (R:List (List Int)) (i j:Nat):Nat→Int
 | 0=>0
 | k + 1=>(obI p R i j k + (R.getD k []).getD i 0 * (R.getD k []).getD j 0) % (p:Int)
theorem oaI_rg {p:Nat} (hp:0 < p) (S J:Nat→Nat) (r r' : List Int):∀ k,0≤oaI p S J r r' k∧oaI p S J r r' k < p
 | 0=>by simp only [oaI]; omega
 | k + 1=>emod_rng hp _
theorem obI_rg {p:Nat} (hp:0 < p) (R:List (List Int)) (i j:Nat):∀ k,0≤obI p R i j k∧obI p R i j k < p
 | 0=>by simp only [obI]; omega
 | k + 1=>emod_rng hp _
open Lean.Grind
attribute [local instance] Lean.Grind.Semiring.natCast Lean.Grind.Ring.intCast
section
variable {K:Type} [CommRing K] {p:Nat}
theorem oaI_K (R:Rp K p) (S J:Nat→Nat) (r r' : List Int):∀ k,((oaI p S J r r' k:Int):K)=sm (fun t=>((S t:Nat):K) * vc r t * vc r' (J t)) k
 | 0=>Ring.intCast_zero
 | k + 1=>by
  rw [oaI,R.toRd.mod,Ring.intCast_add,Ring.intCast_mul,R.toRd.mod,Ring.intCast_mul,R.cst,oaI_K R S J r r' k]; rfl
theorem obI_K (R:Rp K p) (L:List (List Int)) (i j:Nat):∀ k,((obI p L i j k:Int):K)=sm (fun t=>vc (L.getD t []) i * vc (L.getD t []) j) k
 | 0=>Ring.intCast_zero
 | k + 1=>by
  rw [obI,R.toRd.mod,Ring.intCast_add,Ring.intCast_mul,obI_K R L i j k]; rfl
theorem eqK (R:Rp K p) {x y:Int} (hx:0≤x∧x < p) (hy:0≤y∧y < p) (h:(x:K)=(y:K)):x=y:=by
 have h1:(((x - y):Int):K)=0:=by rw [Ring.intCast_sub,h]; grind
 rw [R.ker] at h1
 obtain ⟨k,hk⟩:=Int.dvd_of_emod_eq_zero h1
 have:k=0:=by
  refine Int.le_antisymm (Int.le_of_not_gt fun h=>?_) (Int.le_of_not_gt fun h=>?_)
  ·have:(p:Int) * 1≤(p:Int) * k:=Int.mul_le_mul_of_nonneg_left (by omega) (by omega)
   omega
  have:(p:Int) * k≤(p:Int) * (-1):=Int.mul_le_mul_of_nonneg_left (by omega) (by omega)
  omega
 subst this
 omega
end
theorem ort_ab {n e:Nat} {m:List Int} (h:GT n m n e) {i j:Nat} (hi:i < clN m n e) (hj:j < clN m n e) :
  oaI (clP m n e) (clS m n e) (clJ m n e) ((chT m n e).getD i []) ((chT m n e).getD j []) (clN m n e)=(if i=j then (n:Int) % (clP m n e:Nat) else 0) ∧
  obI (clP m n e) (chT m n e) i (clJ m n e j) (clN m n e)=(if i=j then ((n / clS m n e i:Nat):Int) % (clP m n e:Nat) else 0):=by
 obtain ⟨P,p1,p2⟩:=cl_P h
 have hp3:=P.three
 haveI:NeZero (clP m n e):=⟨by omega⟩
 have H:=gt2_of h
 have R:=H.R
 obtain ⟨t1,t2,t3,t4,t5⟩:=chT_ort h
 obtain ⟨s1,s2,_⟩:=clS_pos h hi
 constructor
 ·refine eqK R (oaI_rg (by omega) _ _ _ _ _) (by split; exact emod_rng (by omega) _; omega) ?_
  rw [oaI_K R]
  have hp:=List.pairwise_iff_getElem.1 t2
  have e1:∀ q (hq:q < (chT m n e).length),(chT m n e)[q]=(chT m n e).getD q []:=fun q hq=>by simp [List.getD,List.getElem?_eq_getElem hq]
  by_cases hij:i=j
  ·rw [if_pos hij,R.toRd.mod,R.cst,← hij]
   exact t1 _ (mem_getD (by omega))
  rw [if_neg hij]
  have h0:prR m n e ((chT m n e).getD i []) ((chT m n e).getD j [])=0:=by
   rcases Nat.lt_or_gt_of_ne hij with hl | hl
   ·have:=(hp i j (by omega) (by omega) hl).1
    rwa [e1,e1] at this
   have:=(hp j i (by omega) (by omega) hl).2
   rwa [e1,e1] at this
  exact h0.trans Ring.intCast_zero.symm
 refine eqK R (obI_rg (by omega) _ _ _ _) (by split; exact emod_rng (by omega) _; omega) ?_
 rw [obI_K R]
 have h5:=t5 j i hj hi
 rw [sumL_sm,t3] at h5
 have hsz:((clS m n e i:Nat):Fin (clP m n e)) ≠ 0:=f_cz _ s1 (by omega)
 obtain ⟨b,hb⟩:=R.fld.1 _ hsz
 by_cases hij:i=j
 ·rw [if_pos hij.symm] at h5
  rw [if_pos hij,R.toRd.mod,R.cst]
  have hdv:clS m n e i * (n / clS m n e i)=n:=by
   refine Nat.mul_div_cancel' ?_
   obtain ⟨x1,x2,_⟩:=clG h hi
   have hc:=h.2.2.cls_count x1
   have hl:clS m n e i=(mem n (cjb n (op m n) e (clX m n e i))).length:=by
    unfold clS
    rw [x2]
    unfold thl thn' mem
    rw [List.length_map]
   rw [hl]
   exact ⟨_,by rw [Nat.mul_comm]; exact hc.symm⟩
  have h6:((clS m n e i:Nat):Fin (clP m n e)) * ((n / clS m n e i:Nat):Fin (clP m n e))=(n:Nat):=by rw [← Semiring.natCast_mul,hdv]
  grind
 rw [if_neg (fun hh=>hij hh.symm)] at h5
 rw [if_neg hij]
 have e0:(((0:Int)):Fin (clP m n e))=0:=Ring.intCast_zero
 rw [e0]; grind
theorem charOrthogonal_f (N:Int) (m:List Int) (c a:Int) (hc:¬ c=0) (hf:FnC Tryd.prog 14 [gp N m] (fl (c,a))):FnC Tryd.prog 4 [gp N m] (.bool true):=by
 refine fnc_of tab_ok Tryd.func4 rfl (by kernel_rfl) (by rw [Tryd.ntmps4]; exact Nat.le_add_left 1 _) ?_; rw [Tryd.ntmps4]
 refine qm ?_
 refine hk_region fun K hK=>runs_eval tab_ok ?_
 simp only [evz,fl,gp,tab,simprocAttr]
 refine fin_run ?_ (hK _ ?_)<;>clear hK K
 ·(first|exact trivial|omega|(simp only [In64] at *; omega)|(simp [In64] at *; omega)|(simp_all; done)|skip)
 refine qa (qm (qm ?_))
 refine hk_region fun K hK=>runs_eval tab_ok ?_
 simp only [evz,fl,gp,tab,simprocAttr]
 refine fin_stop trivial (runs_call (charBegun_c) rfl rfl rfl (by simp only [dstOk,Nat.reduceLT]) (by repeat (first|exact trivial|constructor)) (runs_eval tab_ok ?_))
 simp only [evz,fl,gp,tab,simprocAttr]
 refine fin_run trivial (hK _ ?_)<;>clear hK K
 refine qa ?_
 refine hk_cond rfl (fun hC1=>?_) (fun hC1=>?_)
 ·(try simp only [nhs] at hC1)
  first|exact absurd rfl hC1|exact hC1.elim|cases hC1|(simp at hC1; done)
 (try simp only [nhs] at hC1)
 refine qh (qa (qm ?_))
 refine hk_region fun K hK=>runs_eval tab_ok ?_
 simp only [evz,fl,gp,tab,simprocAttr]
 refine fin_stop trivial (runs_call (tableOf_no N m .nil c a hc hf) rfl rfl rfl (by simp only [dstOk,Nat.reduceLT]) (by repeat (first|exact trivial|constructor)) (runs_eval tab_ok ?_))
 simp only [evz,fl,gp,tab,simprocAttr]
 refine fin_run ?_ (hK _ ?_)<;>clear hK K
 ·(first|exact trivial|omega|(simp only [In64] at *; omega)|(simp [In64] at *; omega)|(simp_all; done)|skip)
 refine qa (qm (qm ?_))
 skip
 refine hk_region fun K hK=>runs_eval tab_ok ?_
 simp only [evz,fl,gp,tab,simprocAttr]
 refine fin_run trivial (hK _ ?_)<;>clear hK K
 refine qa ?_
 refine hk_cond rfl (fun hC2=>?_) (fun hC2=>?_)
 ·(try simp only [nhs] at hC2)
  refine qm ?_
  refine hk_region fun K hK=>runs_eval tab_ok ?_
  simp only [evz,fl,gp,tab,simprocAttr]
  refine fin_stop trivial (runs_call (hf) rfl rfl rfl (by simp only [dstOk,Nat.reduceLT]) (by repeat (first|exact trivial|constructor)) (runs_eval tab_ok ?_))
  simp only [evz,fl,gp,tab,simprocAttr]
  refine fin_run ?_ (hK _ ?_)<;>clear hK K
  ·(first|exact trivial|omega|(simp only [In64] at *; omega)|(simp [In64] at *; omega)|(simp_all; done)|skip)
  refine qa (qk (qb ?_))
  simp only [Tryd.results4,enA,evz,fl,gp,tab,simprocAttr]
  all_goals (simp [hc])
 (try simp only [nhs] at hC2)
 first|exact absurd rfl hC2|exact hC2.elim|cases hC2|(simp at hC2; done)
set_option maxHeartbeats 4000000 in
set_option maxRecDepth 20000 in
theorem charOrthogonal_ok {n e:Nat} {m:List Int} (h:GT n m n e) (hc24:clN m n e≤24):FnC Tryd.prog 4 [gp n m] (.bool true):=by
 obtain ⟨P,p1,p2⟩:=cl_P h
 have hp3:=P.three
 have hb:=h.2.1.big
 have hab:=fun i j hi hj=>ort_ab h (i:=i) (j:=j) hi hj
 have hrow:(chT m n e).length=clN m n e∧∀ r∈chT m n e,r.length=clN m n e∧rgp (clP m n e) r:=by
  haveI:NeZero (clP m n e):=⟨by omega⟩
  exact ⟨(chT_ort h).2.2.1,(chT_ort h).2.2.2.1⟩
 have hJ:∀ i,i < clN m n e→clJ m n e i < clN m n e:=fun i hi=>(clI_lt h (h.2.2.iv_lt (clG h hi).1)).1
 have hS:∀ i,i < clN m n e→0 < clS m n e i∧clS m n e i≤n∧((clL m n e).getD i []).length=clS m n e i:=fun i hi=>⟨(clS_pos h hi).1,(clS_pos h hi).2.1,rfl⟩
 have hinv:=inverses_c h
 have hll:(clL m n e).length=clN m n e:=rfl
 have htab:=tableOf_c h hc24
 obtain ⟨t3,t4⟩:=hrow
 generalize clP m n e=p at *
 generalize clN m n e=k at *
 generalize chT m n e=R at *
 generalize clL m n e=L at *
 generalize clS m n e=S at *
 generalize clJ m n e=J at *
 have hIl:((List.range k).map fun i=>(J i:Int)).length=k:=by simp
 have hIg:∀ i,i < k→((List.range k).map fun i=>(J i:Int)).getD i 0=(J i:Int):=fun i hi=>by simp [List.getD,List.getElem?_map,List.getElem?_range hi]
 generalize (List.range k).map (fun i=>(J i:Int))=I at *
 refine fnc_of tab_ok Tryd.func4 rfl (by kernel_rfl) (by rw [Tryd.ntmps4]; exact Nat.le_add_left 1 _) ?_; rw [Tryd.ntmps4]
 refine qm ?_
 refine hk_region fun K hK=>runs_eval tab_ok ?_
 simp only [evz,fl,gp,tab,simprocAttr]
 refine fin_run ?_ (hK _ ?_)<;>clear hK K
 ·(first|exact trivial|omega|(simp only [In64] at *; omega)|(simp [In64] at *; omega)|(simp_all; done)|skip)
 refine qa (qm (qm ?_))
 refine hk_region fun K hK=>runs_eval tab_ok ?_
 simp only [evz,fl,gp,tab,simprocAttr]
 refine fin_stop trivial (runs_call (charBegun_c) rfl rfl rfl (by simp only [dstOk,Nat.reduceLT]) (by repeat (first|exact trivial|constructor)) (runs_eval tab_ok ?_))
 simp only [evz,fl,gp,tab,simprocAttr]
 refine fin_run trivial (hK _ ?_)<;>clear hK K
 refine qa ?_
 refine hk_cond rfl (fun hC1=>?_) (fun hC1=>?_)
 ·(try simp only [nhs] at hC1)
  first|exact absurd rfl hC1|exact hC1.elim|cases hC1|(simp at hC1; done)
 (try simp only [nhs] at hC1)
 refine qh (qa (qm ?_))
 refine hk_region fun K hK=>runs_eval tab_ok ?_
 simp only [evz,fl,gp,tab,simprocAttr]
 refine fin_stop trivial (runs_call (htab) rfl rfl rfl (by simp only [dstOk,Nat.reduceLT]) (by repeat (first|exact trivial|constructor)) (runs_eval tab_ok ?_))
 simp only [evz,fl,gp,tab,simprocAttr]
 refine fin_run ?_ (hK _ ?_)<;>clear hK K
 ·(first|exact trivial|omega|(simp only [In64] at *; omega)|(simp [In64] at *; omega)|(simp_all; done)|skip)
 refine qa (qm (qm ?_))
 refine hk_region fun K hK=>runs_eval tab_ok ?_
 simp only [evz,fl,gp,tab,simprocAttr]
 refine fin_run trivial (hK _ ?_)<;>clear hK K
 refine qa ?_
 refine hk_cond rfl (fun hC2=>?_) (fun hC2=>?_)
 ·(try simp only [nhs] at hC2)
  first|exact absurd rfl hC2|exact hC2.elim|cases hC2|(simp at hC2; done)
 (try simp only [nhs] at hC2)
 refine qh (qa (qm ?_))
 refine hk_region fun K hK=>runs_eval tab_ok ?_
 simp only [evz,fl,gp,tab,simprocAttr]
 refine fin_stop trivial (runs_call (hinv) rfl rfl rfl (by simp only [dstOk,Nat.reduceLT]) (by repeat (first|exact trivial|constructor)) (runs_eval tab_ok ?_))
 simp only [evz,fl,gp,tab,simprocAttr]
 refine fin_run ?_ (hK _ ?_)<;>clear hK K
 ·(first|exact trivial|omega|(simp only [In64] at *; omega)|(simp [In64] at *; omega)|(simp_all; done)|skip)
 refine qa (qm ?_)
 refine hk_region fun K hK=>runs_eval tab_ok ?_
 simp only [evz,fl,gp,tab,simprocAttr,ll_length,hll]
 refine fin_run trivial (hK _ ?_)<;>clear hK K
 refine qa (qm (qm ?_))
 refine hk_region fun K hK=>runs_eval tab_ok ?_
 simp only [evz,fl,gp,tab,simprocAttr]
 refine fin_run trivial (hK _ ?_)<;>clear hK K
 refine qa (ql ?_)
 refine hk_loop (ι:=Nat) (fun i=>⟨128,[(1,.ptr 0 0),(3,.p (.int .i64 p)),(4,.p (.list (ll R))),(5,.p (.list (ll L))),(7,.p (.list (il I))),(8,.p (.int .i64 k)),(9,.p (.int .i64 i))],[.own [.p (.int .i64 n),.p (.list (il m))]]⟩) (fun i=>i≤k) (fun i=>k - i) 0 (Nat.zero_le _) [0] (by simp only [leq,leA,evz,fl,gp,tab,simprocAttr]<;>first|trivial|skip) fun i hi=>?_
 refine qm (qm ?_)
 refine hk_region fun K hK=>runs_eval tab_ok ?_
 simp only [evz,fl,gp,tab,simprocAttr]
 refine fin_run trivial (hK _ ?_)<;>clear hK K
 refine qa ?_
 refine hk_cond rfl (fun hC3=>?_) (fun hC3=>?_)
 ·(try simp only [nhs] at hC3)
  have hik:i < k:=by omega
  obtain ⟨r,hr⟩:∃ r,R.getD i []=r:=⟨_,rfl⟩
  have hrl:r.length=k:=by rw [← hr]; exact (t4 _ (mem_getD (by omega))).1
  have hrg:rgp p r:=by rw [← hr]; exact (t4 _ (mem_getD (by omega))).2
  obtain ⟨u1,u2,u3⟩:=hS i hik
  refine qh (qa (qm (ql (qm ?_))))
  refine hk_region fun K hK=>runs_eval tab_ok ?_
  simp only [evz,fl,gp,tab,simprocAttr]
  refine fin_run trivial (hK _ ?_)<;>clear hK K
  refine qa (ql ?_)
  refine hk_loop (ι:=Nat) (fun j=>⟨128,[(1,.ptr 0 0),(3,.p (.int .i64 p)),(4,.p (.list (ll R))),(5,.p (.list (ll L))),(7,.p (.list (il I))),(8,.p (.int .i64 k)),(9,.p (.int .i64 i)),(10,.p (.int .i64 j))],[.own [.p (.int .i64 n),.p (.list (il m))]]⟩) (fun j=>j≤k) (fun j=>k - j) 0 (Nat.zero_le _) [0] (by simp only [leq,leA,evz,fl,gp,tab,simprocAttr]<;>first|trivial|skip) fun j hj=>?_
  refine qm (qm ?_)
  refine hk_region fun K hK=>runs_eval tab_ok ?_
  simp only [evz,fl,gp,tab,simprocAttr]
  refine fin_run trivial (hK _ ?_)<;>clear hK K
  refine qa ?_
  refine hk_cond rfl (fun hC4=>?_) (fun hC4=>?_)
  ·(try simp only [nhs] at hC4)
   have hjk:j < k:=by omega
   obtain ⟨r',hr'⟩:∃ r',R.getD j []=r':=⟨_,rfl⟩
   have hrl' : r'.length=k:=by rw [← hr']; exact (t4 _ (mem_getD (by omega))).1
   have hrg' : rgp p r':=by rw [← hr']; exact (t4 _ (mem_getD (by omega))).2
   have hJj:=hJ j hjk
   obtain ⟨va,vb⟩:=hab i j hik hjk
   rw [hr,hr'] at va
   refine qh (qa (qm (ql (qm ?_))))
   refine hk_region fun K hK=>runs_eval tab_ok ?_
   simp only [evz,fl,gp,tab,simprocAttr]
   refine fin_run trivial (hK _ ?_)<;>clear hK K
   refine qa (qm (qm ?_))
   refine hk_region fun K hK=>runs_eval tab_ok ?_
   simp only [evz,fl,gp,tab,simprocAttr]
   refine fin_run trivial (hK _ ?_)<;>clear hK K
   refine qa (ql ?_)
   refine hk_loop (ι:=Nat) (fun c=>⟨128,[(1,.ptr 0 0),(3,.p (.int .i64 p)),(4,.p (.list (ll R))),(5,.p (.list (ll L))),(7,.p (.list (il I))),(8,.p (.int .i64 k)),(9,.p (.int .i64 i)),(10,.p (.int .i64 j)),(11,.p (.int .i64 (oaI p S J r r' c))),(12,.p (.int .i64 (obI p R i (J j) c))),(13,.p (.int .i64 c))],[.own [.p (.int .i64 n),.p (.list (il m))]]⟩) (fun c=>c≤k) (fun c=>k - c) 0 (Nat.zero_le _) [0] (by simp only [leq,leA,evz,fl,gp,tab,simprocAttr]<;>first|trivial|rfl|skip) fun c hck=>?_
   refine qm (qm ?_)
   refine hk_region fun K hK=>runs_eval tab_ok ?_
   simp only [evz,fl,gp,tab,simprocAttr]
   refine fin_run trivial (hK _ ?_)<;>clear hK K
   refine qa ?_
   refine hk_cond rfl (fun hC5=>?_) (fun hC5=>?_)
   ·(try simp only [nhs] at hC5)
    have hckl:c < k:=by omega
    obtain ⟨w1,w2,w3⟩:=hS c hckl
    have hJc:=hJ c hckl
    obtain ⟨q,hq⟩:∃ q,R.getD c []=q:=⟨_,rfl⟩
    have hql:q.length=k:=by rw [← hq]; exact (t4 _ (mem_getD (by omega))).1
    have hqg:rgp p q:=by rw [← hq]; exact (t4 _ (mem_getD (by omega))).2
    have a0:=oaI_rg (p:=p) (by omega) S J r r' c
    have b0:=obI_rg (p:=p) (by omega) R i (J j) c
    have m1:=mulLt (p:=p) (by omega) (a:=(S c:Nat)) (b:=r.getD c 0) (by omega) (by omega) (hrg c).1 (hrg c).2
    have g1:=emod_rng (p:=p) (by omega) ((S c:Nat) * r.getD c 0)
    have m2:=mulLt (p:=p) (by omega) g1.1 g1.2 (hrg' (J c)).1 (hrg' (J c)).2
    have m3:=mulLt (p:=p) (by omega) (hqg i).1 (hqg i).2 (hqg (J j)).1 (hqg (J j)).2
    have e1:Int.tmod ((S c:Nat) * r.getD c 0) p=(S c:Nat) * r.getD c 0 % p:=Int.tmod_eq_emod_of_nonneg m1.1
    have e2:Int.tmod (oaI p S J r r' c + (S c:Nat) * r.getD c 0 % p * r'.getD (J c) 0) p=oaI p S J r r' (c + 1):=by
     rw [oaI]; exact Int.tmod_eq_emod_of_nonneg (by omega)
    have e3:Int.tmod (obI p R i (J j) c + q.getD i 0 * q.getD (J j) 0) p=obI p R i (J j) (c + 1):=by
     rw [obI,hq]; exact Int.tmod_eq_emod_of_nonneg (by omega)
    refine qh (qa (qm (ql (qm ?_))))
    refine hk_draw mixed (by kernel_rfl) fun K hK=>runs_eval tab_ok ?_
    simp only [evz,fl,gp,tab,simprocAttr,ll_length,ll_get (show c < L.length by omega),il_length,w3,ll_get (show i < R.length by omega),hr,il_get (show c < r.length by omega),ll_get (show j < R.length by omega),hr',il_get (show c < I.length by omega),hIg c hckl,il_get (show J c < r'.length by omega),e1,e2]
    refine fin_run ?_ (hK _ ?_)<;>clear hK K
    ·simp only [In64]; omega
    refine qa ?_
    refine hk_draw mixed (by kernel_rfl) fun K hK=>runs_eval tab_ok ?_
    simp only [evz,fl,gp,tab,simprocAttr,ll_length,ll_get (show c < R.length by omega),hq,il_get (show i < q.length by omega),il_get (show j < I.length by omega),hIg j hjk,il_get (show J j < q.length by omega),e3]
    refine fin_run ?_ (hK _ ?_)<;>clear hK K
    ·simp only [In64]; omega
    refine qd (qa ?_)
    refine hk_region fun K hK=>runs_eval tab_ok ?_
    simp only [evz,fl,gp,tab,simprocAttr]
    refine fin_run ?_ (hK _ ?_)<;>clear hK K
    ·(first|exact trivial|omega|(simp only [In64] at *; omega)|(simp [In64] at *; omega)|(simp_all; done)|skip)
    refine qa ?_
    refine ⟨c + 1,[0],by omega,by omega,by simp only [leq,leA,evz,fl,gp,tab,simprocAttr]<;>first|trivial|omega|skip⟩
   (try simp only [nhs] at hC5)
   have hckl:c=k:=by omega
   rw [hckl,va,vb]
   refine qj (qc (qc (qf (qa (qm ?_)))))
   refine hk_region fun K hK=>runs_eval tab_ok ?_
   simp only [evz,fl,gp,tab,simprocAttr]
   refine fin_run trivial (hK _ ?_)<;>clear hK K
   refine qa (qm (qm ?_))
   refine hk_region fun K hK=>runs_eval tab_ok ?_
   simp only [evz,fl,gp,tab,simprocAttr]
   refine fin_run trivial (hK _ ?_)<;>clear hK K
   refine qa ?_
   refine hk_cond rfl (fun hC6=>?_) (fun hC6=>?_)
   ·(try simp only [nhs] at hC6)
    have hij:i=j:=by omega
    rw [if_pos hij,if_pos hij]
    have f1:Int.tmod (n:Int) p=(n:Int) % p:=Int.tmod_eq_emod_of_nonneg (by omega)
    have f2:Int.tdiv (n:Int) (S i:Nat)=((n / S i:Nat):Int):=rfl
    have f3:Int.tmod ((n / S i:Nat):Int) p=((n / S i:Nat):Int) % p:=Int.tmod_eq_emod_of_nonneg (Int.natCast_nonneg _)
    refine qm ?_
    refine hk_region fun K hK=>runs_eval tab_ok ?_
    simp only [evz,fl,gp,tab,simprocAttr,f1]
    refine fin_run ?_ (hK _ ?_)<;>clear hK K
    ·omega
    refine qa ?_
    refine hk_draw mixed (by kernel_rfl) fun K hK=>runs_eval tab_ok ?_
    simp only [evz,fl,gp,tab,simprocAttr,ll_length,ll_get (show i < L.length by omega),il_length,u3,f2,f3]
    refine fin_run ?_ (hK _ ?_)<;>clear hK K
    ·have:=Nat.div_le_self n (S i)
     obtain ⟨z,hz⟩:∃ z,n / S i=z:=⟨_,rfl⟩
     rw [hz] at this ⊢
     simp only [In64]; omega
    refine qa (qm ?_)
    refine hk_region fun K hK=>runs_eval tab_ok ?_
    simp only [evz,fl,gp,tab,simprocAttr,deq_self,bnot_t]
    refine fin_run trivial (hK _ ?_)<;>clear hK K
    refine qa ?_
    refine hk_cond rfl (fun hC7=>?_) (fun hC7=>?_)
    ·(try simp only [nhs] at hC7)
     first|exact absurd rfl hC7|exact hC7.elim|cases hC7|(simp at hC7; done)
    (try simp only [nhs] at hC7)
    refine qh (qd (qa ?_))
    refine hk_region fun K hK=>runs_eval tab_ok ?_
    simp only [evz,fl,gp,tab,simprocAttr]
    refine fin_run ?_ (hK _ ?_)<;>clear hK K
    ·(first|exact trivial|omega|(simp only [In64] at *; omega)|(simp [In64] at *; omega)|(simp_all; done)|skip)
    refine qa ?_
    refine ⟨j + 1,[0],by omega,by omega,by simp only [leq,leA,evz,fl,gp,tab,simprocAttr]<;>first|trivial|omega|skip⟩
   (try simp only [nhs] at hC6)
   have hij:¬ i=j:=by omega
   rw [if_neg hij,if_neg hij]
   refine qh (qa (qm ?_))
   refine hk_region fun K hK=>runs_eval tab_ok ?_
   simp only [evz,fl,gp,tab,simprocAttr,deq_self,bnot_t]
   refine fin_run trivial (hK _ ?_)<;>clear hK K
   refine qa ?_
   refine hk_cond rfl (fun hC7=>?_) (fun hC7=>?_)
   ·(try simp only [nhs] at hC7)
    first|exact absurd rfl hC7|exact hC7.elim|cases hC7|(simp at hC7; done)
   (try simp only [nhs] at hC7)
   refine qh (qd (qa ?_))
   refine hk_region fun K hK=>runs_eval tab_ok ?_
   simp only [evz,fl,gp,tab,simprocAttr]
   refine fin_run ?_ (hK _ ?_)<;>clear hK K
   ·(first|exact trivial|omega|(simp only [In64] at *; omega)|(simp [In64] at *; omega)|(simp_all; done)|skip)
   refine qa ?_
   refine ⟨j + 1,[0],by omega,by omega,by simp only [leq,leA,evz,fl,gp,tab,simprocAttr]<;>first|trivial|omega|skip⟩
  (try simp only [nhs] at hC4)
  refine qj (qc (qc (qf (qd (qa ?_)))))
  refine hk_region fun K hK=>runs_eval tab_ok ?_
  simp only [evz,fl,gp,tab,simprocAttr]
  refine fin_run ?_ (hK _ ?_)<;>clear hK K
  ·(first|exact trivial|omega|(simp only [In64] at *; omega)|(simp [In64] at *; omega)|(simp_all; done)|skip)
  refine qa ?_
  refine ⟨i + 1,[0],by omega,by omega,by simp only [leq,leA,evz,fl,gp,tab,simprocAttr]<;>first|trivial|omega|skip⟩
 (try simp only [nhs] at hC3)
 refine qj (qc (qc (qf (qa (qm ?_)))))
 refine hk_region fun K hK=>runs_eval tab_ok ?_
 simp only [evz,fl,gp,tab,simprocAttr]
 refine fin_run trivial (hK _ ?_)<;>clear hK K
 refine qa (qk ?_)
 simp only [Tryd.results4,enA,evz,fl,gp,tab,simprocAttr]
 all_goals ((first|exact rfl|exact ⟨rfl,rfl⟩|exact ⟨rfl,rfl,rfl⟩|exact ⟨trivial,rfl⟩|exact ⟨Nat.le_refl _,rfl⟩|trivial|(simp; done)))
theorem charOrthogonal_c (N:Int) (m:List Int) (hm:m.length≤1000000000000000):FnC Tryd.prog 4 [gp N m] (.bool true):=by
 by_cases hf:(gf N m).1=0
 ·obtain ⟨n,e,h,_⟩:=gf_ok hf
  obtain rfl:N=(n:Int):=h.1
  by_cases hc:clN m n e≤24
  ·exact charOrthogonal_ok h hc
  exact charOrthogonal_f _ m 2 0 (by decide) (cf_many h (by omega))
 exact charOrthogonal_f N m (gf N m).1 (gf N m).2 hf (cf_no N m hm hf)
end Go.Proofs.YtjlmpmidchddjaaDoor

namespace Go.Proofs.YtjlmpmidchddjaaDoor
open Go.Pv Go.ChangeShapes Go.WideShapes Go.ChangeAt Go.WideElems Go.RowKit
theorem own:ownKnob Tryd.prog.godebug=none:=by kernel_rfl
theorem laidOut:laidOutB Tryd.prog=true:=by kernel_rfl
theorem gG:Tryd.prog.globalNamed "math/bits.deBruijn64tab" = some 0:=by kernel_rfl
theorem tG:(Tryd.prog.globals[0]?).map (·.type)=some 113:=by kernel_rfl
theorem cG:Tryd.prog.cellsOf 5=1:=by kernel_rfl
theorem door_met (os:Os) (args:Array Value):laidMetH Tryd.prog [("math/bits.deBruijn64tab",Rows.laid_math_bits_deBruijn64tab)] ((World.doorLaid Tryd.prog 4000 os).forCall (fun _ _=>0) ⟨#[],args,[]⟩).memory:=
 laidMetH_of_parts3 (fuel:=8) (laidMet_of_run' 8 (by kernel_rfl) (by kernel_rfl)) (by kernel_rfl) (by kernel_rfl)
def convD:DataW Unit→PV
 | .lit (.int k n)=>.int k n
 | _=>.nil
def datum:List (DataW Unit)→List PV:=List.map convD
theorem glob_datum:(match (Rows.laid_math_bits_deBruijn64tab:DataW Unit) with | .agg l=>datum l | _=>[])=glob0:=rfl
theorem laid_ok {W:World} (h:laidMetH Tryd.prog [("math/bits.deBruijn64tab",Rows.laid_math_bits_deBruijn64tab)] W):LaidW (fun b=>b < W.heap.size) W:=by
 refine ⟨fun b h=>h,fun g l hg=>?_⟩
 have hg2:g=0∧l=glob0:=by
  unfold gv at hg
  by_cases e:g=0
  ·subst e; exact ⟨rfl,(Option.some.inj hg).symm⟩
  have:(g == 0)=false:=by simpa using e
  rw [this] at hg; simp at hg
 obtain ⟨rfl,rfl⟩:=hg2
 rw [MakeChecks.laidMetH_plain _ _ _ (by kernel_rfl)] at h
 obtain ⟨ps,⟨g0,t0,cs0,f0,p0,q0,hg0,ht0,hv0,hd0,_,_⟩,_,_⟩:=h
 obtain rfl:=Option.some.inj (gG.symm.trans hg0)
 obtain rfl:=Option.some.inj (tG.symm.trans ht0)
 obtain ⟨xs,m1,rfl,hx1,hlen,hn3,hel⟩:=DataW.trod_array Tryd.underlying113 hd0
 have hd1:Rows.laid_math_bits_deBruijn64tab=DataW.agg (xs.map (·.1)):=congrArg Prod.fst hx1
 have hgl:glob0=datum (xs.map (·.1)):=by
  rw [← glob_datum,hd1]
 have key:∀ c (h:c < glob0.length),W.cell? ⟨0,0 + c,none⟩=some ((cs0[c]?).getD undef)∧Reads (fun b=>b < W.heap.size) W glob0[c] ((cs0[c]?).getD undef):=by
  intro c hc
  have hc2:c < 64:=Nat.lt_of_lt_of_le hc (by decide)
  have hcx:c < xs.length:=by omega
  have h1:=hel c hc2
  rw [List.getElem?_eq_getElem hcx] at h1
  obtain ⟨k,e1,e2,_⟩:=DataW.trod_int Tryd.underlying5 h1
  rw [cG] at e1
  have e3:cs0.toList[c]? = some (.int .u8 k):=by
   have:=congrArg (fun l=>l[0]?) e1
   simpa [List.getElem?_take,List.getElem?_drop] using this
  have e4:cs0[c]? = some (.int .u8 k):=by simpa using e3
  have e5:glob0[c] = .int .u8 k:=by
   have:glob0[c]? = (datum (xs.map (·.1)))[c]?:=by rw [hgl]
   rw [List.getElem?_eq_getElem hc] at this
   simp only [datum,List.getElem?_map,List.getElem?_eq_getElem hcx,Option.map_some,Option.some.injEq] at this
   exact this.trans (by rw [e2]; rfl)
  refine ⟨?_,?_⟩
  ·rw [e4,Nat.zero_add,World.var?_cell gG hv0 c,e4]; rfl
  rw [e4]
  exact e5 ▸ (Reads.int .u8 k)
 refine .ptr _ _ _ (fun c=>(cs0[c]?).getD undef) ?_ (fun c hc=>(key c hc).1) fun c hc=>(key c hc).2
 have:=(key 0 (by decide)).1
 unfold World.cell? at this
 rcases Nat.lt_or_ge 0 W.heap.size with h | h
 ·exact h
 exfalso
 rw [Array.getElem?_eq_none h] at this
 simp at this
end Go.Proofs.YtjlmpmidchddjaaDoor
