/-
  Texts of this proof, one behind the other: what each says stands at its head. Conditions: none.
-/
import Derived.Test.YtneglephfhiamaaB6
import Derived.Test.YtneglephfhiamaaB5

set_option linter.all false
namespace Go.Proofs.Ytneglephfhiamaa
open Go.Pv
def MeetO (L M : List (List Int)) (r : AV) : Prop :=
  ((ckL L).1 ≠ 0 ∧ r = .p (.tup [.nil, fl (ckL L)])) ∨ ((ckL L).1 = 0 ∧ (ckL M).1 ≠ 0 ∧ r = .p (.tup [.nil, fl (ckL M)])) ∨
  ((ckL L).1 = 0 ∧ (ckL M).1 = 0 ∧ ∃ A lA B lB q lst f, IsC (L.map short) A lA ∧ IsC (M.map short) B lB ∧ PG A B q ∧ GT (stQ A B q) lst f ∧
    (((20 < (basS (stQ A B q) lst f).length ∨ 2000 < tot (basS (stQ A B q) lst f)) ∧ r = .p (.tup [.nil, fl (9, 0)])) ∨
     (¬ (20 < (basS (stQ A B q) lst f).length ∨ 2000 < tot (basS (stQ A B q) lst f)) ∧ r = .p (.tup [.list (ll (basS (stQ A B q) lst f)), fl (0, 0)]))))
theorem hget_P {A B:List Mp} {Ua Ub:List Int} {T:Heap} {j:Nat} (h:A.length + B.length + 7≤j):hget (P3 A Ua B Ub++T) j=hget T (j - (A.length + B.length + 7)):=by
 rw [hget_app2 (by rw [P3_len]; exact h),P3_len]
theorem hset_P {A B:List Mp} {Ua Ub:List Int} {T:Heap} {b c:Blk} : hset (P3 A Ua B Ub++(b :: T)) (A.length + B.length + 7) c=P3 A Ua B Ub++(c :: T):=by
 rw [hset_eq,List.set_append_right _ _ (by rw [P3_len]; exact Nat.le_refl _),P3_len,Nat.sub_self]; rfl
theorem tot_leK {k:Nat} : ∀ {l:List (List Int)},(∀ w∈l,w.length≤k)→tot l≤l.length * k
 | [],_=>by simp [tot]
 | w :: l,h=>by
  have h1:=tot_leK (l:=l) fun v hv=>h v (by simp [hv])
  have h2:=h w (by simp)
  unfold tot at h1 ⊢
  rw [List.flatten_cons,List.length_append,List.length_cons,Nat.add_mul]
  omega
theorem bas_big {st:Nat→Int→Option Nat} {lst:List Nat} {f:Wy} (g:GT st lst f) {N:Nat} (hN:lst.length≤N):tot (basS st lst f)≤N * 53 * (2 * N + 1)∧(basS st lst f).length≤N * 53:=by
 have wl:∀ u∈lst,(wy f u).length≤N:=fun u hu=>by
  obtain ⟨i,hi,rfl⟩:=ix_of hu
  have:=g.wy_len i i (Nat.le_refl _) hi
  omega
 have hw:∀ w∈basS st lst f,w.length≤2 * N + 1:=fun w hw=>by
  obtain ⟨e,he,rfl,_⟩:=basS_mem.1 hw
  have h1:=bw_cst (step:=st) (f:=f) e
  unfold cst at h1
  have h2:=PE_st g he
  have h3:=wl _ h2.1
  have h4:=wl _ h2.2.2.2
  omega
 have h1:=tot_leK hw
 have h2:(basS st lst f).length≤N * 53:=by
  have e1:(basS st lst f).length≤(PE st lst).length:=by
   unfold basS
   refine Nat.le_trans (List.length_filter_le _ _) ?_
   rw [List.length_map]
   exact Nat.le_refl _
  have e2:(PE st lst).length≤lst.length * 53:=by
   unfold PE
   rw [flat_len]
   refine sum_le1 _ 53 lst fun u _=>?_
   rw [List.length_map]
   refine Nat.le_trans (List.length_filter_le _ _) ?_
   unfold ltS
   refine Nat.le_trans (List.length_filter_le _ _) ?_
   simp
  have e3:lst.length * 53≤N * 53:=Nat.mul_le_mul_right _ hN
  omega
 exact ⟨Nat.le_trans h1 (Nat.mul_le_mul_right _ h2),h2⟩
structure MS where
 i:Nat
 Ua:List Int
 Ub:List Int
 f:Mp
 q:List (Nat × Nat)
 G:List Mp
 U:List Int
structure MIv (Ga Gb:List Mp) (Ua Ub:List Int) (z:MS) (dn:Nat→Int→Prop):Prop where
 wa:WG Ga z.Ua
 ra:∀ u,u < Ga.length→rV z.Ua u=rV Ua u
 wb:WG Gb z.Ub
 rb:∀ u,u < Gb.length→rV z.Ub u=rV Ub u
 mx:MX (stR Ga Ua) (stR Gb Ub) z.q z.f z.G z.U dn
set_option maxHeartbeats 16000000 in
set_option maxRecDepth 20000 in
theorem meet_e (L M:List (List Int)) (hl:L.length≤1000000000) (hw:∀ w∈L,w.length≤1000000000) (hl2:M.length≤1000000000) (hw2:∀ w∈M,w.length≤1000000000) (hgL:(ckL L).1=0→Good L) (hgM:(ckL M).1=0→Good M) (hv:(ckL L).1=0→(ckL M).1=0→vS (L.map short) * vS (M.map short)≤10000000) :
  FnE Try.prog 31 [.p (.list (ll L)),.p (.list (ll M))] [] (fun r H'=>MeetO L M r∧H' = []):=by
 obtain ⟨Post,hP⟩:∃ Post:AV→Heap→Prop,Post=(fun r H'=>MeetO L M r∧H' = []):=⟨_,rfl⟩
 rw [← hP]
 refine fne_of tab_ok Try.func31 rfl (by kernel_rfl) (by rw [Try.ntmps31]; exact Nat.le_add_left 2 _) ?_; rw [Try.ntmps31]; simp only [ancs,entA,List.length_cons,List.length_nil,List.cons_append,List.nil_append,Nat.reduceAdd,Nat.zero_add]
 refine qm ?_
 refine hk_region fun K hK=>runs_eval tab_ok ?_
 simp only [evz,fl,gp,tab,simprocAttr]
 refine fin_run ?_ (hK _ ?_)<;>clear hK K
 ·(first|exact trivial|omega|(simp only [In64] at *; omega)|(simp [In64] at *; omega)|(simp_all; done)|skip)
 refine qa (qm (qm ?_))
 refine hk_region fun K hK=>runs_eval tab_ok ?_
 simp only [evz,fl,gp,tab,simprocAttr]
 refine fin_run ?_ (hK _ ?_)<;>clear hK K
 ·(first|exact trivial|omega|(simp only [In64] at *; omega)|(simp [In64] at *; omega)|(simp_all; done)|skip)
 refine qa (ql ?_)
 refine hk_loop (ι:=Nat) (fun i=>⟨164,[(0,.p (.list (ll L))),(1,.p (.list (ll M))),(5,.ptr 0 0),(30,.p (.nn [.list (ll L),.list (ll M)])),(31,.p (.int .i64 2)),(32,.p (.int .i64 (i:Nat)))],[.own [.p (.int .i64 0),.p (.int .i64 0)]]⟩) (fun i=>i≤2∧(1≤i→(ckL L).1=0)∧(2≤i→(ckL M).1=0)) (fun i=>2 - i) 0 ⟨by omega,fun h=>by omega,fun h=>by omega⟩ [0] (by simp only [leq,leA,evz,fl,gp,tab,simprocAttr]<;>trivial) fun i hi=>?_
 obtain ⟨q1,q2,q3⟩:=hi
 refine qm ?_
 refine hk_region fun K hK=>runs_eval tab_ok ?_
 simp only [evz,fl,gp,tab,simprocAttr]
 refine fin_run trivial (hK _ ?_)<;>clear hK K
 refine qa (qm ?_)
 refine hk_cond rfl (fun hC1=>?_) (fun hC1=>?_)
 ·(try simp only [nhs] at hC1)
  have hi:i < 2:=by omega
  obtain ⟨A,hA⟩:∃ A,(if i=0 then L else M)=A:=⟨_,rfl⟩
  have hx:([PV.list (ll L),PV.list (ll M)]:List PV).getD i default = .list (ll A):=by
   rw [← hA]
   match i,hi with
   | 0,_=>rfl
   | 1,_=>rfl
  have hAl:A.length≤1000000000:=by rw [← hA]; split<;>assumption
  have hAw:∀ w∈A,w.length≤1000000000:=by rw [← hA]; split<;>assumption
  refine qh (qa (qm (ql (qm ?_))))
  refine hk_region fun K hK=>runs_eval tab_ok ?_
  simp only [evz,fl,gp,tab,simprocAttr,hx]
  refine fin_run ?_ (hK _ ?_)<;>clear hK K
  ·exact ⟨by omega,by omega⟩
  refine qa (qm ?_)
  refine hk_region fun K hK=>runs_eval tab_ok ?_
  simp only [evz,fl,gp,tab,simprocAttr]
  refine fin_stop trivial (runs_call (checkL_c A hAl hAw) rfl rfl rfl (by simp only [dstOk,Nat.reduceLT]) (by repeat (first|exact trivial|constructor)) (runs_eval tab_ok ?_))
  simp only [evz,fl,gp,tab,simprocAttr]
  refine fin_run ?_ (hK _ ?_)<;>clear hK K
  ·(first|exact trivial|omega|(simp only [In64] at *; omega)|(simp [In64] at *; omega)|(simp_all; done)|skip)
  refine qa (qm ?_)
  refine hk_region fun K hK=>runs_eval tab_ok ?_
  simp only [evz,fl,gp,tab,simprocAttr]
  refine fin_run ?_ (hK _ ?_)<;>clear hK K
  ·(first|exact trivial|omega|(simp only [In64] at *; omega)|(simp [In64] at *; omega)|(simp_all; done)|skip)
  refine qa ?_
  refine hk_cond rfl (fun hC2=>?_) (fun hC2=>?_)
  ·(try simp only [nhs] at hC2)
   have h1:(ckL A).1 ≠ 0:=hC2
   refine qm ?_
   refine hk_draw mixed (by kernel_rfl) fun K hK=>runs_eval tab_ok ?_
   simp only [evz,fl,gp,tab,simprocAttr]
   refine fin_run ?_ (hK _ ?_)<;>clear hK K
   ·(first|exact trivial|omega|(simp only [In64] at *; omega)|(simp [In64] at *; omega)|(simp_all; done)|skip)
   refine qa (qk (qe (qb (qb (qe (qb ?_))))))
   simp only [Try.results31,PostG,endG,rvsA,rvA,mkTup,evz,fl,gp,tab,simprocAttr]
   refine ⟨.p (.tup [.nil,fl (ckL A)]),[],?_,[],rfl,rfl,⟨rfl,List.nodup_nil,trivial,trivial⟩⟩
   rw [hP]
   refine ⟨?_,rfl⟩
   by_cases h:i=0
   ·rw [if_pos h] at hA
    rw [← hA] at h1 ⊢
    exact .inl ⟨h1,rfl⟩
   rw [if_neg h] at hA
   rw [← hA] at h1 ⊢
   exact .inr (.inl ⟨q2 (by omega),h1,rfl⟩)
  (try simp only [nhs] at hC2)
  have h1:(ckL A).1=0:=by simpa using hC2
  refine qh (qd (qa ?_))
  refine hk_region fun K hK=>runs_eval tab_ok ?_
  simp only [evz,fl,gp,tab,simprocAttr]
  refine fin_run ?_ (hK _ ?_)<;>clear hK K
  ·(first|exact trivial|omega|(simp only [In64] at *; omega)|(simp [In64] at *; omega)|(simp_all; done)|skip)
  refine qa ?_
  refine ⟨i + 1,[0],⟨by omega,fun _=>?_,fun h=>?_⟩,by omega,by simp only [leq,leA,evz,fl,gp,tab,simprocAttr]<;>first|trivial|trace_state⟩
  ·by_cases h:i=0
   ·rw [if_pos h] at hA; rw [hA]; exact h1
   exact q2 (by omega)
  rw [if_neg (by omega)] at hA; rw [hA]; exact h1
 (try simp only [nhs] at hC1)
 have hi2:i=2:=by omega
 have hc1:=q2 (by omega)
 have hc2:=q3 (by omega)
 have hgl:=hgL hc1
 have hgm:=hgM hc2
 refine qj (qc (qc (qf (qa (qm ?_)))))
 refine hk_regEn 2 ⟨1,runs_cut fun K hK=>?_⟩
 simp only [List.take_succ_cons,List.take_zero]
 refine runs_eval tab_ok ?_
 simp only [evz,fl,gp,tab,simprocAttr]
 refine fin_run trivial (hK _ ?_)<;>clear hK K
 refine ⟨_,_,rfl,rfl,by simp only [dstOk,Nat.reduceLT],fold_E rfl rfl L hgl.1 hgl.2.1 hgl.2.2 rfl,fun av H' hO=>?_⟩
 obtain ⟨Ga,Ua,rfl,rfl,hGa,fa⟩:=hO
 refine ⟨1,runs_cut fun K hK=>?_⟩
 simp only [List.drop_succ_cons,List.drop_zero,List.take_succ_cons,List.take_zero]
 refine runs_eval tab_ok ?_
 simp only [evz,fl,gp,tab,simprocAttr]
 refine fin_run trivial (hK _ ?_)<;>clear hK K
 refine ⟨_,_,rfl,rfl,by simp only [dstOk,Nat.reduceLT],fold_E rfl rfl M hgm.1 hgm.2.1 hgm.2.2 rfl,fun av H' hO=>?_⟩
 obtain ⟨Gb,Ub,rfl,rfl,hGb,fb⟩:=hO
 have hkb:([rb0]++(GB Ga Ua).map (Blk.ren (List.range' 1 (GB Ga Ua).length))).length=Ga.length + 4:=by rw [List.length_append,List.length_map,GB_len]; simp; omega
 refine runs_cut fun K hK=>?_
 simp only [List.drop_succ_cons,List.drop_zero]
 refine runs_eval tab_ok ?_
 simp only [evz,fl,gp,tab,simprocAttr]
 refine fin_run trivial (hK _ ?_)<;>clear hK K
 refine qa (qm ?_)
 have hz1:(List.map (Blk.ren (List.range' 1 (GB Ga Ua).length)) (GB Ga Ua)).length + 1=Ga.length + 4:=by rw [List.length_map,GB_len]
 refine hk_le (s1:=⟨164,[(5,.ptr 0 0),(9,.ptr 1 0),(10,.ptr (Ga.length + 4) 0)],P3 Ga Ua Gb Ub⟩) (List.range (P3 Ga Ua Gb Ub).length) (le_front (Y:=P3 Ga Ua Gb Ub) (Z:=[]) rfl rfl ?_ (P3_hsc (by rw [P3_len]; exact Nat.le_refl _)) ?_) ?_
 ·show _ :: (_++_)=_
  rw [hz1,List.append_nil]; rfl
 ·rw [P3_len]
  simp only [List.forall_mem_cons,St.get,lk,scA,sc1,hz1]
  simp [scA,sc1,hz1]
  omega
 refine hk_region fun K hK=>runs_eval tab_ok ?_
 simp only [evz,fl,gp,tab,simprocAttr]
 refine fin_run ?_ (hK _ ?_)<;>clear hK K
 ·(first|exact trivial|omega|(simp only [In64] at *; omega)|(simp [In64] at *; omega)|(simp_all; done)|skip)
 refine qa (qm ?_)
 refine hk_region fun K hK=>runs_eval tab_ok ?_
 simp only [evz,fl,gp,tab,simprocAttr]
 refine fin_run ?_ (hK _ ?_)<;>clear hK K
 ·(first|exact trivial|omega|(simp only [In64] at *; omega)|(simp [In64] at *; omega)|(simp_all; done)|skip)
 refine qa (qm ?_)
 have hP3:=P3_len (A:=Ga) (Ua:=Ua) (B:=Gb) (Ub:=Ub)
 simp only [hP3,List.length_append,List.length_cons,List.length_nil,List.append_assoc,List.cons_append,List.nil_append]
 refine hk_own0c (Ga.length + Gb.length + 7) 0 (b:=[.p .nil,.p .nil]) (by rw [hget_P (Nat.le_refl _),Nat.sub_self]; rfl) rfl ?_
 refine hk_own0c (Ga.length + Gb.length + 7) 1 (b:=[.sl (Ga.length + Gb.length + 9) 0 0,.p .nil]) (by
  simp only [List.append_assoc,List.cons_append,List.nil_append,hset_P,List.length_append,List.length_cons,List.length_nil,hP3,List.set_cons_zero]
  rw [hget_P (Nat.le_refl _),Nat.sub_self]; rfl) rfl ?_
 simp only [List.append_assoc,List.cons_append,List.nil_append,hset_P,List.length_append,List.length_cons,List.length_nil,hP3,List.set_cons_zero,List.set_cons_succ]
 refine hk_le (s1:=⟨164,[(5,.ptr 0 0),(9,.ptr 1 0),(10,.ptr (Ga.length + 4) 0),(11,.ptr (Ga.length + Gb.length + 8) 0),(12,.mptr (Ga.length + Gb.length + 7))],P3 Ga Ua Gb Ub++([mpC nul]++GM (Ga.length + Gb.length + 8) [] [])⟩) _ (le_end (Q:=P3 Ga Ua Gb Ub) (X:=[.own [.sl 2 0 0,.sl 3 0 0],mpC nul,.own [],.own []]) (Y:=[mpC nul,.own [.sl 2 0 0,.sl 3 0 0],.own [],.own []]) (π:=[1,0,2,3]) rfl ?_ ?_ (P3_hsc (by rw [P3_len]; exact Nat.le_refl _)) P3_na (by decide) (by decide) (by simp [LeH,LeB,hget,mpC,Go.Pv.ren,ren1,scA,sc1]) rfl (by simp [hsc,mpC,scA,sc1]) ?_) ?_
 ·rw [P3_len]; rfl
 ·rw [P3_len,GM_eq]; rfl
 ·rw [P3_len]
  have e1:=end_pi1 (a:=Ga.length + Gb.length + 7) (i:=0) (ρ:=[1,0,2,3]) (by omega)
  have e2:=end_pi1 (a:=Ga.length + Gb.length + 7) (i:=1) (ρ:=[1,0,2,3]) (by omega)
  have e3:=end_pi1 (a:=Ga.length + Gb.length + 7) (i:=Ga.length + 4) (ρ:=[1,0,2,3]) (by omega)
  have e4:=end_pi2 (a:=Ga.length + Gb.length + 7) (i:=0) (ρ:=[1,0,2,3]) (by decide)
  have e5:=end_pi2 (a:=Ga.length + Gb.length + 7) (i:=1) (ρ:=[1,0,2,3]) (by decide)
  have hl:(List.range (Ga.length + Gb.length + 7)++List.map (fun x=>Ga.length + Gb.length + 7 + x) [1,0,2,3]).length=Ga.length + Gb.length + 11:=by simp
  simp only [Nat.add_zero] at e4
  rw [show Ga.length + Gb.length + 7 + 1=Ga.length + Gb.length + 8 by omega] at e5
  generalize List.range (Ga.length + Gb.length + 7)++List.map (fun x=>Ga.length + Gb.length + 7 + x) [1,0,2,3]=π at e1 e2 e3 e4 e5 hl ⊢
  simp only [LeS,Go.Pv.ren,ren1,e1,e2,e3,e4,e5,scA,sc1,hl]
  simp [St.get,lk]
  omega
 have za:rV Ua 0=0:=rV_zero fa.wg.fo (by rw [fa.wg.len]; exact fa.pos)
 have zb:rV Ub 0=0:=rV_zero fb.wg.fo (by rw [fb.wg.len]; exact fb.pos)
 refine hk_region fun K hK=>runs_eval tab_ok ?_
 simp only [evz,fl,gp,tab,simprocAttr]
 refine fin_stop ?_ (runs_midM (Q:=[rb0]) (k:=1) (R:=GM (Ga.length + 4) Gb Ub++([mpC nul]++GM (Ga.length + Gb.length + 8) [] [])) (avs:=[.int .i64 ((0:Nat):Int)]) (of_w (v:=0) fa.wg (by omega) fa.pos) rfl rfl rfl p3_A rfl (by simp only [dstOk,Nat.reduceLT]) (runs_eval tab_ok ?_))
 ·exact trivial
 simp only [← p3_A]
 simp only [evz,fl,gp,tab,simprocAttr]
 refine fin_stop ?_ (runs_midM (Q:=rb0 :: GM 1 Ga (ofU Ua 0)) (k:=Ga.length + 4) (R:=([mpC nul]++GM (Ga.length + Gb.length + 8) [] [])) (avs:=[.int .i64 ((0:Nat):Int)]) (of_w (v:=0) fb.wg (by omega) fb.pos) rfl rfl mh_Bl p3_B rfl (by simp only [dstOk,Nat.reduceLT]) (runs_eval tab_ok ?_))
 ·exact trivial
 simp only [← p3_B]
 simp only [evz,fl,gp,tab,simprocAttr,hget_endM,hset_endM,za,zb]
 refine fin_run ?_ (hK _ ?_)<;>clear hK K
 ·first|trivial|trace_state
 refine qa (qm ?_)
 refine hk_freeze _ (hget_endM _ _) rfl ?_
 simp only [hset_endM]
 refine hk_pure 13 (p:=0≤2) (pv:=.ptr [.int .i64 ((0:Nat):Int),.int .i64 ((0:Nat):Int)]) (by
  show peekG _ (.ptr _ 0)=_
  simp only [peekG,peekS,hget_endM]
  rfl) (by decide) ?_
 obtain ⟨Ua1,hUa1⟩:∃ Ua1,ofU Ua 0=Ua1:=⟨_,rfl⟩
 obtain ⟨Ub1,hUb1⟩:∃ Ub1,ofU Ub 0=Ub1:=⟨_,rfl⟩
 have wa1:WG Ga Ua1:=hUa1 ▸ fa.wg.of fa.pos
 have wb1:WG Gb Ub1:=hUb1 ▸ fb.wg.of fb.pos
 have ra1:∀ u,u < Ga.length→rV Ua1 u=rV Ua u:=fun u hu=>hUa1 ▸ fa.wg.ofr fa.pos u hu
 have rb1:∀ u,u < Gb.length→rV Ub1 u=rV Ub u:=fun u hu=>hUb1 ▸ fb.wg.ofr fb.pos u hu
 rw [hUa1,hUb1]
 refine hk_le (s1:=⟨164,[(5,.ptr 0 0),(9,.ptr 1 0),(10,.ptr (Ga.length + 4) 0),(11,.ptr (Ga.length + Gb.length + 8) 0),(12,.mptr (Ga.length + Gb.length + 7)),(13,.p (.ptr [.int .i64 ((0:Nat):Int),.int .i64 ((0:Nat):Int)]))],P3 Ga Ua1 Gb Ub1++([mpC nul]++GM (Ga.length + Gb.length + 8) [] [])⟩) _ (le_front (Y:=P3 Ga Ua1 Gb Ub1++([mpC nul]++GM (Ga.length + Gb.length + 8) [] [])) rfl rfl (Z:=[.fro [.int .i64 0,.int .i64 0]]) (by
  simp only [List.append_assoc,List.cons_append,List.nil_append]) ?_ ?_) ?_
 ·intro b hb
  have hlen:(P3 Ga Ua1 Gb Ub1++([mpC nul]++GM (Ga.length + Gb.length + 8) [] [])).length=Ga.length + Gb.length + 11:=by rw [List.length_append,P3_len,List.length_append,GM_len]; simp<;>omega
  rw [hlen]
  rcases List.mem_append.1 hb with hb | hb
  ·exact P3_hsc (by omega) b hb
  rcases List.mem_append.1 hb with hb | hb
  ·rw [List.mem_singleton.1 hb]; rfl
  exact GM_hsc (by simp<;>omega) b hb
 ·have hlen:(P3 Ga Ua1 Gb Ub1++([mpC nul]++GM (Ga.length + Gb.length + 8) [] [])).length=Ga.length + Gb.length + 11:=by rw [List.length_append,P3_len,List.length_append,GM_len]; simp<;>omega
  rw [hlen]
  simp [St.get,lk,scA,sc1]<;>omega
 have hP3:=P3_len (A:=Ga) (Ua:=Ua1) (B:=Gb) (Ub:=Ub1)
 refine Fw.hk_drawF (F:=fwP [13]) mixed (by kernel_rfl) fun K hK=>?_
 refine Fw.runsF_op tab_ok (by simp only [evz,fl,gp,tab,simprocAttr]; rfl) (by trivial) rfl (by show _ < _; exact of_decide_eq_true rfl) rfl rfl ?_
 simp only [evz,fl,gp,tab,simprocAttr]
 refine Fw.runsF_free tab_ok rfl (by simp only [evz,fl,gp,tab,simprocAttr]; rfl) (by first|trivial|omega) rfl (by show _ < _; exact of_decide_eq_true rfl) ?_
 simp only [evz,fl,gp,tab,simprocAttr]
 refine Fw.runsF_op tab_ok (by simp only [evz,fl,gp,tab,simprocAttr]; rfl) (by trivial) rfl (by show _ < _; exact of_decide_eq_true rfl) rfl rfl ?_
 simp only [evz,fl,gp,tab,simprocAttr]
 refine runsF_placeG (G:=[]) (U:=[]) (k:=Ga.length + Gb.length + 8) (Q:=P3 Ga Ua1 Gb Ub1++[mpC nul]) rfl (by decide) rfl rfl (by rw [List.length_append,hP3]; rfl) (by simp only [List.append_assoc,List.cons_append,List.nil_append]) rfl (by show _ < _; exact of_decide_eq_true rfl) rfl ?_
 simp only [evz,fl,gp,tab,simprocAttr]
 have hm:∀ Z:Heap,hget ((P3 Ga Ua1 Gb Ub1++[mpC nul])++Z) (Ga.length + Gb.length + 7) = .mp .i8 (fun z=>(nul z).isSome) (fun z=>.int .i64 ((nul z).getD 0)):=fun Z=>by
  rw [List.append_assoc,hget_P (Nat.le_refl _),Nat.sub_self]; rfl
 have hms:∀ (Z:Heap) (b:Blk),hset ((P3 Ga Ua1 Gb Ub1++[mpC nul])++Z) (Ga.length + Gb.length + 7) b=(P3 Ga Ua1 Gb Ub1++[b])++Z:=fun Z b=>by
  rw [List.append_assoc,List.cons_append,hset_P,List.append_assoc]; rfl
 refine Fw.runsF_op tab_ok (by simp only [evz,fl,gp,tab,simprocAttr,hm,hms]; rfl) (by show True; trivial) rfl (by trivial) rfl rfl ?_
 simp only [evz,fl,gp,tab,simprocAttr]
 refine Fw.runsF_nil (hK _ ?_)<;>clear hK K
 refine qa (qm ?_)
 refine hk_region fun K hK=>runs_at 1 (runs_eval tab_ok ?_)
 simp only [List.take_succ_cons,List.take_zero]
 simp only [evz,fl,gp,tab,simprocAttr]
 refine fin_run trivial ?_
 refine runs_op (buildS_does (n:=1) (sz:=2) tab_ok rfl rfl rfl rfl rfl rfl rfl (by repeat (first|exact trivial|constructor)) rfl (by decide)) rfl (by simp only [dstOk,Nat.reduceLT]) (runs_eval tab_ok ?_)
 simp only [evz,fl,gp,tab,simprocAttr]
 refine fin_run trivial (hK _ ?_)<;>clear hK K
 refine qa (qm (qm ?_))
 refine hk_region fun K hK=>runs_eval tab_ok ?_
 simp only [evz,fl,gp,tab,simprocAttr]
 refine fin_run trivial (hK _ ?_)<;>clear hK K
 refine qa (ql ?_)
 have hCa:=(fi_isC fa)
 have hCb:=(fi_isC fb)
 have hlab:(rts Ga Ua).length * (rts Gb Ub).length≤10000000:=by rw [hCa.cnt.1,hCb.cnt.1]; exact hv hc1 hc2
 obtain ⟨f0,hf0⟩:∃ f0:Mp,f0=updM (fun _=>none) (kyP (0,0)) 0:=⟨_,rfl⟩
 have hmE:Blk.mp .i8 (fun u=>decide (u=0) || (nul u).isSome) (fun u=>bif decide (u=0) then PV.int .i64 0 else PV.int .i64 ((nul u).getD 0))=mpC f0:=by
  rw [hf0]
  exact mpC_upd (fun _=>none) 0 0
 have hlen1:List.length (P3 Ga Ua1 Gb Ub1++[mpC f0]++List.map (Blk.ren (List.range' (Ga.length + Gb.length + 8) (List.length (PB [] [])))) (PB [] []))=Ga.length + Gb.length + 14:=by
  rw [List.length_append,List.length_append,P3_len,List.length_map]; rfl
 rw [hmE,hlen1]
 have mx0:MX (stR Ga Ua) (stR Gb Ub) [(0,0)] f0 [nul] [0] (fun j _=>j < 0):=hf0 ▸ MX.zero.ext (fun _ _ h=>h.elim) fun j hj x h=>absurd h (Nat.not_lt_zero _)
 refine hk_loop (ι:=MS) (fun z=>⟨164,[(5,.ptr 0 0),(9,.ptr 1 0),(10,.ptr (Ga.length + 4) 0),(11,.ptr (Ga.length + Gb.length + 9) 0),(12,.mptr (Ga.length + Gb.length + 7)),(14,.sls (Ga.length + Gb.length + 8) 0 z.q.length 2),(15,.p (.int .i64 (z.i:Nat)))],MH Ga z.Ua Gb z.Ub z.f z.q z.G z.U⟩) (fun z=>z.i≤z.q.length∧MIv Ga Gb Ua Ub z (fun j _=>j < z.i)) (fun z=>10000001 - z.i) ⟨0,Ua1,Ub1,f0,[(0,0)],[nul],[0]⟩ ⟨Nat.zero_le _,⟨wa1,ra1,wb1,rb1,mx0⟩⟩ _ (le_first (x:=pf [(0,0)]) rfl rfl rfl ?_ ?_) fun z hz=>?_
 ·simp only [List.append_assoc]
  rfl
 ·have e1:=end_pi1 (a:=Ga.length + Gb.length + 8) (i:=0) (ρ:=[6,0,4,5,3]) (by omega)
  have e2:=end_pi1 (a:=Ga.length + Gb.length + 8) (i:=1) (ρ:=[6,0,4,5,3]) (by omega)
  have e3:=end_pi1 (a:=Ga.length + Gb.length + 8) (i:=Ga.length + 4) (ρ:=[6,0,4,5,3]) (by omega)
  have e6:=end_pi1 (a:=Ga.length + Gb.length + 8) (i:=Ga.length + Gb.length + 7) (ρ:=[6,0,4,5,3]) (by omega)
  have e4:=end_pi2 (a:=Ga.length + Gb.length + 8) (i:=0) (ρ:=[6,0,4,5,3]) (by decide)
  have e5:=end_pi2 (a:=Ga.length + Gb.length + 8) (i:=1) (ρ:=[6,0,4,5,3]) (by decide)
  have hl:(List.range (Ga.length + Gb.length + 8)++List.map (fun x=>Ga.length + Gb.length + 8 + x) [6,0,4,5,3]).length=Ga.length + Gb.length + 13:=by simp
  simp only [Nat.add_zero] at e4
  rw [show Ga.length + Gb.length + 8 + 1=Ga.length + Gb.length + 9 by omega] at e5
  generalize List.range (Ga.length + Gb.length + 8)++List.map (fun x=>Ga.length + Gb.length + 8 + x) [6,0,4,5,3]=π at e1 e2 e3 e4 e5 e6 hl ⊢
  simp only [LeS,Go.Pv.ren,ren1,e1,e2,e3,e4,e5,e6,scA,sc1,hl]
  simp [St.get,lk]<;>omega
 obtain ⟨i,Ua2,Ub2,f,q,G,U⟩:=z
 obtain ⟨z1,z2⟩:=hz
 simp only at z1 z2 ⊢
 have hql:=(z2.mx.qlen hCa.cg hCb.cg)
 obtain ⟨hql,hqs⟩:=hql
 have hqb:q.length≤10000000:=Nat.le_trans hql hlab
 have hgl2:G.length=q.length:=z2.mx.gl
 obtain ⟨H,hH⟩:∃ H,MH Ga Ua2 Gb Ub2 f q G U=H:=⟨_,rfl⟩
 have F:MF H (Ga.length + 4) (Ga.length + Gb.length + 7) (Ga.length + Gb.length + 8) (Ga.length + Gb.length + 9) Ga Ua2 Gb Ub2 f q G U:=hH ▸ MF.of
 have hHl:H.length=Ga.length + Gb.length + 12 + G.length:=by rw [← hH,MH_len]
 rw [hH]
 refine qm (qm ?_)
 refine hk_region fun K hK=>runs_eval tab_ok ?_
 simp only [evz,fl,gp,tab,simprocAttr]
 refine fin_stop ?_ (runs_op (lenS_does tab_ok rfl rfl rfl rfl) rfl (by simp only [dstOk,Nat.reduceLT]) (runs_eval tab_ok ?_))
 ·(first|exact trivial|omega|(simp only [In64] at *; omega)|(simp [In64] at *; omega)|(simp_all; done)|skip)
 simp only [evz,fl,gp,tab,simprocAttr]
 refine fin_run trivial (hK _ ?_)<;>clear hK K
 refine qa ?_
 refine hk_cond rfl (fun hC3=>?_) (fun hC3=>?_)
 ·(try simp only [nhs] at hC3)
  have hi:i < q.length:=by omega
  have hat:=pf_at hi
  obtain ⟨p,hp⟩:∃ p,q.getD i (0,0)=p:=⟨_,rfl⟩
  rw [hp] at hat
  have hpm:p∈q:=by rw [← hp]; exact q_mem hi
  obtain ⟨pa,pb⟩:=p
  obtain ⟨hpa,hpb⟩:=hqs _ hpm
  obtain ⟨pa1,pa2⟩:=mem_rts.1 hpa
  obtain ⟨pb1,pb2⟩:=mem_rts.1 hpb
  refine qh (qa (qm (ql (qm ?_))))
  refine hk_region fun K hK=>runs_eval tab_ok ?_
  simp only [evz,fl,gp,tab,simprocAttr,Int.toNat_natCast,Nat.zero_add,F.w,hat,hget_endM,hset_endM]
  refine fin_stop ?_ (runs_op (idxS_does tab_ok rfl rfl rfl rfl rfl rfl rfl (by omega) (by omega)) rfl (by simp only [dstOk,Nat.reduceLT]) (runs_eval tab_ok ?_))
  ·first|trivial|(rw [pf_len]; omega)|trace_state
  simp only [evz,fl,gp,tab,simprocAttr,Int.toNat_natCast,Nat.zero_add,F.w,hat,hget_endM,hset_endM]
  refine fin_run ?_ (hK _ ?_)<;>clear hK K
  ·first|trivial|(rw [pf_len]; omega)|trace_state
  refine qa (qm ?_)
  refine hk_freeze _ (hget_endM _ _) rfl ?_
  simp only [hset_endM]
  refine hk_pure 16 (p:=0≤2) (pv:=.ptr [.int .i64 (pa:Nat),.int .i64 (pb:Nat)]) (by
   show peekG _ (.ptr _ 0)=_
   simp only [peekG,peekS,hget_endM]
   rfl) (by decide) ?_
  refine hk_le (s1:=(fun z:MS=>⟨164,[(5,.ptr 0 0),(9,.ptr 1 0),(10,.ptr (Ga.length + 4) 0),(11,.ptr (Ga.length + Gb.length + 9) 0),(12,.mptr (Ga.length + Gb.length + 7)),(14,.sls (Ga.length + Gb.length + 8) 0 z.q.length 2),(15,.p (.int .i64 (z.i:Nat))),(16,.p (.ptr [.int .i64 (pa:Nat),.int .i64 (pb:Nat)]))],MH Ga z.Ua Gb z.Ub z.f z.q z.G z.U⟩) ⟨i,Ua2,Ub2,f,q,G,U⟩) _ (le_front (Y:=MH Ga Ua2 Gb Ub2 f q G U) rfl rfl (Z:=[.fro [.int .i64 pa,.int .i64 pb]]) (by rw [hH]) (MH_hsc (by rw [MH_len]; exact Nat.le_refl _)) (by
   rw [MH_len]
   simp [St.get,lk,scA,sc1]<;>omega)) ?_
  refine hk_region fun K hK=>runs_eval tab_ok ?_
  simp only [evz,fl,gp,tab,simprocAttr]
  refine fin_stop ?_ (runs_midM (Q:=[rb0]) (k:=1) (avs:=[.int .i64 (pa:Int)]) (letters_c z2.wa (by omega) pa1) rfl rfl rfl mh_A rfl (by simp only [dstOk,Nat.reduceLT]) (runs_eval tab_ok ?_))
  ·first|trivial|trace_state
  simp only [← mh_A]
  simp only [evz,fl,gp,tab,simprocAttr,il_length]
  refine fin_run ?_ (hK _ ?_)<;>clear hK K
  ·first|trivial|trace_state
  refine qa (ql ?_)
  obtain ⟨Ls,hLs⟩:∃ Ls,lts (gm Ga pa)=Ls:=⟨_,rfl⟩
  have hLl:Ls.length≤53:=by
   rw [← hLs]
   unfold lts
   refine Nat.le_trans (List.length_filter_le _ _) ?_
   simp
  rw [hLs]
  refine hk_loop (ι:=MS) (fun z=>⟨164,[(5,.ptr 0 0),(9,.ptr 1 0),(10,.ptr (Ga.length + 4) 0),(11,.ptr (Ga.length + Gb.length + 9) 0),(12,.mptr (Ga.length + Gb.length + 7)),(14,.sls (Ga.length + Gb.length + 8) 0 z.q.length 2),(15,.p (.int .i64 (i:Nat))),(16,.p (.ptr [.int .i64 (pa:Nat),.int .i64 (pb:Nat)])),(74,.p (.list (il Ls))),(75,.p (.int .i64 (Ls.length:Nat))),(76,.p (.int .i64 (z.i:Nat)))],MH Ga z.Ua Gb z.Ub z.f z.q z.G z.U⟩) (fun z=>z.i≤Ls.length∧MIv Ga Gb Ua Ub z (fun k x=>k < i∨(k=i∧x∈Ls.take z.i))∧∃ r,z.q=q++r) (fun z=>Ls.length - z.i) ⟨0,Ua2,Ub2,f,q,G,U⟩ ⟨Nat.zero_le _,⟨z2.wa,z2.ra,z2.wb,z2.rb,z2.mx.ext (fun _ _ h=>.inl h) fun k _ x h=>.inl (h.resolve_right fun h=>by cases h.2)⟩,[],(List.append_nil _).symm⟩ _ (le_front (Y:=MH Ga Ua2 Gb Ub2 f q G U) rfl rfl (Z:=[]) (by rw [List.append_nil]) (MH_hsc (by rw [MH_len]; exact Nat.le_refl _)) (by
   rw [MH_len]
   simp [St.get,lk,scA,sc1]<;>omega)) fun z hz=>?_
  obtain ⟨j,Ua3,Ub3,f3,q3,G3,U3⟩:=z
  obtain ⟨y1,y2,q3r,hq3⟩:=hz
  simp only at y1 y2 hq3 ⊢
  have hi3:i < q3.length:=by rw [hq3,List.length_append]; omega
  have hp3:q3.getD i (0,0)=(pa,pb):=by rw [hq3,getD_q hi,hp]
  obtain ⟨hql3,hqs3⟩:=y2.mx.qlen hCa.cg hCb.cg
  have hq3b:q3.length≤10000000:=Nat.le_trans hql3 hlab
  have hgl3:G3.length=q3.length:=y2.mx.gl
  obtain ⟨H3,hH3⟩:∃ H,MH Ga Ua3 Gb Ub3 f3 q3 G3 U3=H:=⟨_,rfl⟩
  have F3:MF H3 (Ga.length + 4) (Ga.length + Gb.length + 7) (Ga.length + Gb.length + 8) (Ga.length + Gb.length + 9) Ga Ua3 Gb Ub3 f3 q3 G3 U3:=hH3 ▸ MF.of
  have hHl3:H3.length=Ga.length + Gb.length + 12 + G3.length:=by rw [← hH3,MH_len]
  rw [hH3]
  refine qm ?_
  refine hk_region fun K hK=>runs_eval tab_ok ?_
  simp only [evz,fl,gp,tab,simprocAttr]
  refine fin_run trivial (hK _ ?_)<;>clear hK K
  refine qa (qm ?_)
  refine hk_cond rfl (fun hC4=>?_) (fun hC4=>?_)
  ·(try simp only [nhs] at hC4)
   have hj:j < Ls.length:=by omega
   obtain ⟨x,hx⟩:∃ x,Ls.getD j 0=x:=⟨_,rfl⟩
   have htk:Ls.take (j + 1)=Ls.take j++[x]:=by rw [take_snoc (d:=0) hj,hx]
   have hxm:x∈Ls:=by rw [← hx,List.getD_eq_getElem?_getD,List.getElem?_eq_getElem hj]; exact List.getElem_mem hj
   rw [← hLs,mem_lts] at hxm
   obtain ⟨hxb,hxs⟩:=hxm
   obtain ⟨da,hda⟩:=Option.isSome_iff_exists.1 hxs
   obtain ⟨da0,da1,dax⟩:=z2.wa.ent pa x da pa1 hda
   have hb3:hget H3 (Ga.length + 4 + 3 + pb) = .mp .i64 (fun z=>(gm Gb pb z).isSome) (fun z=>.int .i64 ((gm Gb pb z).getD 0)):=F3.b3 pb pb1
   have ha3:hget H3 (4 + pa) = .mp .i64 (fun z=>(gm Ga pa z).isSome) (fun z=>.int .i64 ((gm Ga pa z).getD 0)):=F3.a3 pa pa1
   refine qh (qa (qm (ql (qm ?_))))
   refine hk_region fun K hK=>runs_eval tab_ok ?_
   simp only [evz,fl,gp,tab,simprocAttr,il_length,il_get hj,hx]
   refine fin_run ?_ (hK _ ?_)<;>clear hK K
   ·omega
   refine qa (qm ?_)
   rcases hgb:gm Gb pb x with _ | db
   ·refine hk_draw mixed (by kernel_rfl) fun K hK=>runs_eval tab_ok ?_
    simp only [evz,fl,gp,tab,simprocAttr,F3.b0,F3.b1,mpK_get pb1,mpK_len,hb3,hgb,Option.isSome_none,Option.isSome_some,Option.getD_none,Option.getD_some]
    refine fin_run ?_ (hK _ ?_)<;>clear hK K
    ·first|trivial|omega|trace_state
    refine qa (qm (qm ?_))
    refine hk_region fun K hK=>runs_eval tab_ok ?_
    simp only [evz,fl,gp,tab,simprocAttr]
    refine fin_run trivial (hK _ ?_)<;>clear hK K
    refine qa ?_
    refine hk_cond rfl (fun hC5=>?_) (fun hC5=>?_)
    ·(try simp only [nhs] at hC5)
     refine qj (qc (qf (qa ?_)))
     refine hk_region fun K hK=>runs_eval tab_ok ?_
     simp only [evz,fl,gp,tab,simprocAttr]
     refine fin_run ?_ (hK _ ?_)<;>clear hK K
     ·(first|exact trivial|omega|(simp only [In64] at *; omega)|(simp [In64] at *; omega)|(simp_all; done)|skip)
     refine qa ?_
     have hno:sP (stR Ga Ua) (stR Gb Ub) (pa,pb) x=none:=by
      unfold sP
      simp only
      rw [stR_of ⟨pb1,pb2⟩]
      unfold stp
      rw [hgb]
      cases stR Ga Ua pa x<;>rfl
     refine ⟨⟨j + 1,Ua3,Ub3,f3,q3,G3,U3⟩,_,⟨by simp only; omega,⟨y2.wa,y2.ra,y2.wb,y2.rb,y2.mx.ext (fun k y h=>?_) fun k hk y h=>?_⟩,q3r,hq3⟩,by simp only; omega,le_front (Y:=MH Ga Ua3 Gb Ub3 f3 q3 G3 U3) rfl rfl (Z:=[]) (by rw [List.append_nil,hH3]) (MH_hsc (by rw [MH_len]; exact Nat.le_refl _)) (by
      rw [MH_len]
      simp [St.get,lk,scA,sc1]<;>omega)⟩
     ·simp only
      rw [htk]
      exact h.imp id fun h=>⟨h.1,List.mem_append.2 (.inl h.2)⟩
     simp only at h
     rw [htk] at h
     rcases h with h | ⟨rfl,h⟩
     ·exact .inl (.inl h)
     rcases List.mem_append.1 h with h | h
     ·exact .inl (.inr ⟨rfl,h⟩)
     rw [List.mem_singleton.1 h,hp3]
     exact .inr hno
    (try simp only [nhs] at hC5)
    simp at hC5
   refine hk_draw mixed (by kernel_rfl) fun K hK=>runs_eval tab_ok ?_
   simp only [evz,fl,gp,tab,simprocAttr,F3.b0,F3.b1,mpK_get pb1,mpK_len,hb3,hgb,Option.isSome_none,Option.isSome_some,Option.getD_none,Option.getD_some]
   refine fin_run ?_ (hK _ ?_)<;>clear hK K
   ·first|trivial|omega|trace_state
   refine qa (qm (qm ?_))
   refine hk_region fun K hK=>runs_eval tab_ok ?_
   simp only [evz,fl,gp,tab,simprocAttr]
   refine fin_run trivial (hK _ ?_)<;>clear hK K
   refine qa ?_
   refine hk_cond rfl (fun hC5=>?_) (fun hC5=>?_)
   ·(try simp only [nhs] at hC5)
    simp at hC5
   (try simp only [nhs] at hC5)
   refine qh (qa (qm ?_))
   obtain ⟨db0,db1,_⟩:=z2.wb.ent pb x db pb1 hgb
   obtain ⟨ra,hra⟩:∃ r,rV Ua da.toNat=r:=⟨_,rfl⟩
   obtain ⟨rb,hrb⟩:∃ r,rV Ub db.toNat=r:=⟨_,rfl⟩
   have hra3:rV Ua3 da.toNat=ra:=by rw [y2.ra _ da1,hra]
   have hrb3:rV Ub3 db.toNat=rb:=by rw [y2.rb _ db1,hrb]
   refine hk_draw2 mixed fun K hK=>runs2_eval tab_ok ?_
   simp only [evD,evz,fl,gp,tab,simprocAttr,F3.a0,F3.a1,mpK_get pa1,mpK_len,ha3,hda,Option.isSome_some,Option.getD_some]
   refine fin2_stop ?_ (runs2_ofG (Q:=[rb0]) (k:=1) (v:=da.toNat) (z:=da) y2.wa (by omega) da1 (by omega) rfl rfl rfl (hH3.symm.trans mh_A) rfl (by simp only [dstOk,Nat.reduceLT]) (runs2_eval tab_ok ?_))
   ·first|trivial|omega|trace_state
   simp only [← mh_A]
   simp only [evD,evz,fl,gp,tab,simprocAttr,hra3]
   refine fin2_stop ?_ (runs2_ofG (Q:=rb0 :: GM 1 Ga (ofU Ua3 da.toNat)) (k:=Ga.length + 4) (v:=db.toNat) (z:=db) y2.wb (by omega) db1 (by omega) rfl rfl mh_Bl mh_B rfl (by simp only [dstOk,Nat.reduceLT]) (runs2_eval tab_ok ?_))
   ·first|trivial|omega|trace_state
   simp only [← mh_B]
   simp only [evD,evz,fl,gp,tab,simprocAttr,hrb3,hget_endM,hset_endM]
   obtain ⟨κ,hκ⟩:∃ κ,List.length (MH Ga (ofU Ua3 da.toNat) Gb (ofU Ub3 db.toNat) f3 q3 G3 U3)=κ:=⟨_,rfl⟩
   have hκ2:κ=Ga.length + Gb.length + 12 + G3.length:=by rw [← hκ,MH_len]
   refine fin2_run ?_ (hK _ _ (draw2_cd (fun i j=>j == 16 && (i == 4 || i == 8 || i == 10 || i == 11 || i == 14)) (fun j i=>j == 16 && Nat.ble i 15) ?_ ?_ (by kernel_rfl)) ?_)<;>clear hK K
   ·first|trivial|trace_state
   ·intro i j h
    simp only [Bool.and_eq_true,Bool.or_eq_true,beq_iff_eq] at h
    obtain ⟨rfl,h⟩:=h
    rcases h with (((rfl | rfl) | rfl) | rfl) | rfl
    ·exact ld_nw (by rw [MH_len]; omega)
    ·exact ld_nw (by rw [MH_len]; omega)
    ·exact ld_nw (by rw [MH_len]; omega)
    ·exact ms_nw (zip_fst (by rw [MH_len]; omega))
    exact ms_nw (zip_fst (by rw [MH_len]; omega))
   ·intro j i κ2 h hm
    simp only [Bool.and_eq_true,beq_iff_eq] at h
    obtain ⟨rfl,h⟩:=h
    have h:=Nat.le_of_ble_eq_true h
    have hκ3:κ2=κ:=by
     have hm2:some (List.length (MH Ga (ofU Ua3 da.toNat) Gb (ofU Ub3 db.toNat) f3 q3 G3 U3))=some κ2:=hm
     rw [hκ] at hm2
     exact (Option.some.inj hm2).symm
    subst hκ3
    clear hm
    match i,h with
    | 0,_ | 1,_ | 2,_ | 3,_ | 4,_ | 5,_ | 6,_ | 7,_ | 8,_ | 9,_ | 10,_ | 12,_ | 13,_ | 15,_=>exact ⟨by simp [nrA,nr1]<;>omega,.inr (by simp [I2.blks,blkNr,nrA,nr1]<;>omega)⟩
    | 11,_=>exact ⟨rfl,.inr (zip_nr (GM_nr (by omega)))⟩
    | 14,_=>exact ⟨rfl,.inr (zip_nr (GM_nr (by omega)))⟩
   refine qa (qm (qm ?_))
   refine hk_freeze _ (hget_endM _ _) rfl ?_
   simp only [hset_endM]
   refine hk_pure 21 (p:=0≤2) (pv:=.ptr [.int .i64 (ra:Nat),.int .i64 (rb:Nat)]) (by
    show peekG _ (.ptr _ 0)=_
    simp only [peekG,peekS,hget_endM]
    rfl) (by decide) ?_
   obtain ⟨Ua4,hUa4⟩:∃ U,ofU Ua3 da.toNat=U:=⟨_,rfl⟩
   obtain ⟨Ub4,hUb4⟩:∃ U,ofU Ub3 db.toNat=U:=⟨_,rfl⟩
   have wa4:WG Ga Ua4:=hUa4 ▸ y2.wa.of da1
   have wb4:WG Gb Ub4:=hUb4 ▸ y2.wb.of db1
   have ra4:∀ u,u < Ga.length→rV Ua4 u=rV Ua u:=fun u hu=>by rw [← hUa4,y2.wa.ofr da1 u hu,y2.ra u hu]
   have rb4:∀ u,u < Gb.length→rV Ub4 u=rV Ub u:=fun u hu=>by rw [← hUb4,y2.wb.ofr db1 u hu,y2.rb u hu]
   rw [hUa4,hUb4]
   refine hk_le (s1:=(fun z:MS=>⟨164,[(5,.ptr 0 0),(9,.ptr 1 0),(10,.ptr (Ga.length + 4) 0),(11,.ptr (Ga.length + Gb.length + 9) 0),(12,.mptr (Ga.length + Gb.length + 7)),(14,.sls (Ga.length + Gb.length + 8) 0 z.q.length 2),(15,.p (.int .i64 (i:Nat))),(16,.p (.ptr [.int .i64 (pa:Nat),.int .i64 (pb:Nat)])),(18,.p (.int .i64 x)),(21,.p (.ptr [.int .i64 (ra:Nat),.int .i64 (rb:Nat)])),(74,.p (.list (il Ls))),(75,.p (.int .i64 (Ls.length:Nat))),(76,.p (.int .i64 (j:Nat)))],MH Ga z.Ua Gb z.Ub z.f z.q z.G z.U⟩) ⟨j,Ua4,Ub4,f3,q3,G3,U3⟩) _ (le_front (Y:=MH Ga Ua4 Gb Ub4 f3 q3 G3 U3) rfl rfl (Z:=[.fro [.int .i64 ra,.int .i64 rb]]) rfl (MH_hsc (by rw [MH_len]; exact Nat.le_refl _)) (by
    rw [MH_len]
    simp [St.get,lk,scA,sc1]<;>omega)) ?_
   have hA1:stR Ga Ua pa x=some ra:=by
    rw [stR_of ⟨pa1,pa2⟩]
    unfold stp
    rw [hda,← hra]; rfl
   have hB1:stR Gb Ub pb x=some rb:=by
    rw [stR_of ⟨pb1,pb2⟩]
    unfold stp
    rw [hgb,← hrb]; rfl
   have hS1:sP (stR Ga Ua) (stR Gb Ub) (pa,pb) x=some (ra,rb):=sP_iff.2 ⟨hA1,hB1⟩
   have hrb2:rb < Gb.length:=by rw [← hrb]; exact fb.wg.rlt db1
   have hwr:∃ w,runW (sP (stR Ga Ua) (stR Gb Ub)) (0,0) w=some (ra,rb):=by
    obtain ⟨w,hw⟩:=z2.mx.con _ hpm
    exact ⟨w++[x],by rw [runW_app,hw]; simp only [Option.bind_some,runW,hS1]⟩
   have hfk:f3 ((ra:Int) * 1099511627776 + (rb:Int))=if (ra,rb)∈q3 then some ((q3.idxOf (ra,rb):Nat):Int) else none:=y2.mx.pm (ra,rb) (by simp only; omega)
   obtain ⟨H4,hH4⟩:∃ H,MH Ga Ua4 Gb Ub4 f3 q3 G3 U3=H:=⟨_,rfl⟩
   have F4:MF H4 (Ga.length + 4) (Ga.length + Gb.length + 7) (Ga.length + Gb.length + 8) (Ga.length + Gb.length + 9) Ga Ua4 Gb Ub4 f3 q3 G3 U3:=hH4 ▸ MF.of
   have hm4:hget H4 (Ga.length + Gb.length + 7) = .mp .i8 (fun z=>(f3 z).isSome) (fun z=>.int .i64 ((f3 z).getD 0)):=F4.m
   have hpab:f3 ((pa:Int) * 1099511627776 + (pb:Int))=some (i:Int):=by
    have h1:=y2.mx.pm (pa,pb) (by simp only; omega)
    have h2:(pa,pb)∈q3:=by rw [← hp3]; exact q_mem hi3
    have h3:q3.idxOf (pa,pb)=i:=by rw [← hp3]; exact qix y2.mx.nd hi3
    rw [if_pos h2,h3] at h1
    exact h1
   have hfk2:((ra,rb)∈q3∧f3 ((ra:Int) * 1099511627776 + (rb:Int))=some ((q3.idxOf (ra,rb):Nat):Int))∨((ra,rb) ∉ q3∧f3 ((ra:Int) * 1099511627776 + (rb:Int))=none):=by
    by_cases hm:(ra,rb)∈q3
    ·rw [if_pos hm] at hfk; exact .inl ⟨hm,hfk⟩
    rw [if_neg hm] at hfk; exact .inr ⟨hm,hfk⟩
   clear hfk
   simp only
   rw [hH4]
   rcases hfk2 with ⟨hm,hfk⟩ | ⟨hm,hfk⟩
   ·refine hk_region fun K hK=>runs_eval tab_ok ?_
    simp only [evz,fl,gp,tab,simprocAttr,hm4,hfk,Option.isSome_none,Option.isSome_some,Option.getD_none,Option.getD_some]
    refine fin_run ?_ (hK _ ?_)<;>clear hK K
    ·constructor<;>omega
    refine qa (qm ?_)
    refine hk_region fun K hK=>runs_eval tab_ok ?_
    simp only [evz,fl,gp,tab,simprocAttr]
    refine fin_run trivial (hK _ ?_)<;>clear hK K
    refine qa ?_
    refine hk_cond rfl (fun hC6=>?_) (fun hC6=>?_)
    ·(try simp only [nhs] at hC6)
     simp at hC6
    (try simp only [nhs] at hC6)
    refine qh (qa ?_)
    rw [← hH4]
    have hi4:i < q3.length:=by first|exact hi3|(rw [List.length_append]; omega)
    have hp4:q3.getD i (0,0)=(pa,pb):=by first|exact hp3|(rw [getD_q hi3]; exact hp3)
    have m4:MX (stR Ga Ua) (stR Gb Ub) q3 f3 G3 U3 (fun k y=>k < i∨(k=i∧y∈Ls.take j)):=y2.mx
    have hr4:(ra,rb)∈q3:=hm
    have hq4:∃ r',q3=q++r':=⟨q3r,hq3⟩
    obtain ⟨q4,hq4e⟩:∃ q4,q3=q4:=⟨_,rfl⟩
    obtain ⟨f4,hf4e⟩:∃ f4,f3=f4:=⟨_,rfl⟩
    obtain ⟨G4,hG4e⟩:∃ G4,G3=G4:=⟨_,rfl⟩
    obtain ⟨U4,hU4e⟩:∃ U4,U3=U4:=⟨_,rfl⟩
    rw [hq4e] at hi4 hp4 hr4 hq4
    rw [hq4e,hf4e,hG4e,hU4e] at m4
    obtain ⟨q4r,hq4⟩:=hq4
    have hgl4:G4.length=q4.length:=m4.gl
    obtain ⟨H5,hH5⟩:∃ H,MH Ga Ua4 Gb Ub4 f4 q4 G4 U4=H:=⟨_,rfl⟩
    have F5:MF H5 (Ga.length + 4) (Ga.length + Gb.length + 7) (Ga.length + Gb.length + 8) (Ga.length + Gb.length + 9) Ga Ua4 Gb Ub4 f4 q4 G4 U4:=hH5 ▸ MF.of
    have hm5:hget H5 (Ga.length + Gb.length + 7) = .mp .i8 (fun z=>(f4 z).isSome) (fun z=>.int .i64 ((f4 z).getD 0)):=F5.m
    have hk1:f4 ((pa:Int) * 1099511627776 + (pb:Int))=some (i:Int):=by
     have h1:=m4.pm (pa,pb) (by simp only; omega)
     have h2:(pa,pb)∈q4:=by rw [← hp4]; exact q_mem hi4
     have h3:q4.idxOf (pa,pb)=i:=by rw [← hp4]; exact qix m4.nd hi4
     rw [if_pos h2,h3] at h1
     exact h1
    have hk2:f4 ((ra:Int) * 1099511627776 + (rb:Int))=some ((q4.idxOf (ra,rb):Nat):Int):=by
     have h1:=m4.pm (ra,rb) (by simp only; omega)
     rw [if_pos hr4] at h1
     exact h1
    have hx5:hget H5 (Ga.length + Gb.length + 9 + 3 + i) = .mp .i64 (fun z=>(gm G4 i z).isSome) (fun z=>.int .i64 ((gm G4 i z).getD 0)):=F5.x3 i (by omega)
    have hig:i < G4.length:=by omega
    simp only [hq4e,hf4e,hG4e,hU4e]
    rw [hH5]
    refine hk_drawL 13 mixed (by kernel_rfl) fun K hK=>runs_eval tab_ok ?_
    simp only [List.take_succ_cons,List.take_zero,List.drop_succ_cons,List.drop_zero]
    simp only [evz,fl,gp,tab,simprocAttr,F5.x0,F5.x1,mpK_len,mpK_get hig,hm5,hk1,hk2,Option.isSome_some,Option.getD_some]
    refine fin_run ?_ (runs_eval tab_ok ?_)
    ·exact ⟨⟨⟨⟨by omega,by omega⟩,by omega,by omega⟩,by omega⟩,by omega,by omega⟩
    simp only [evz,fl,gp,tab,simprocAttr,hx5]
    refine fin_run ?_ (hK _ ?_)<;>clear hK K
    ·first|trivial|trace_state
    refine qd (qa ?_)
    refine hk_region fun K hK=>runs_eval tab_ok ?_
    simp only [evz,fl,gp,tab,simprocAttr]
    refine fin_run ?_ (hK _ ?_)<;>clear hK K
    ·(first|exact trivial|omega|(simp only [In64] at *; omega)|(simp [In64] at *; omega)|(simp_all; done)|skip)
    refine qa ?_
    skip
    have hS4:sP (stR Ga Ua) (stR Gb Ub) (q4.getD i (0,0)) x=some (ra,rb):=by rw [hp4]; exact hS1
    have hbE:Blk.mp .i64 (fun u=>decide (u=x) || (gm G4 i u).isSome) (fun u=>bif decide (u=x) then PV.int .i64 ((q4.idxOf (ra,rb):Nat):Int) else PV.int .i64 ((gm G4 i u).getD 0))=mpB (updM (gm G4 i) x (q4.idxOf (ra,rb):Nat)):=mpB_upd _ _ _
    refine ⟨⟨j + 1,Ua4,Ub4,f4,q4,G4.set i (updM (gm G4 i) x (q4.idxOf (ra,rb):Nat)),U4⟩,_,⟨by simp only; omega,⟨wa4,ra4,wb4,rb4,(m4.put hi4 hr4 hS4).ext (fun k y h=>?_) fun k hk y h=>?_⟩,q4r,hq4⟩,by simp only; omega,le_front (Y:=MH Ga Ua4 Gb Ub4 f4 q4 (G4.set i (updM (gm G4 i) x (q4.idxOf (ra,rb):Nat))) U4) rfl rfl (Z:=[]) (by rw [List.append_nil,hbE,← hH5]; exact mh_set hig _) (MH_hsc (by rw [MH_len]; exact Nat.le_refl _)) (by
     rw [MH_len,List.length_set]
     simp [St.get,lk,scA,sc1]<;>omega)⟩
    ·simp only
     rw [htk]
     rcases h with (h | h) | h
     ·exact .inl h
     ·exact .inr ⟨h.1,List.mem_append.2 (.inl h.2)⟩
     exact .inr ⟨h.1,List.mem_append.2 (.inr (by rw [h.2]; simp))⟩
    simp only at h
    rw [htk] at h
    rcases h with h | ⟨rfl,h⟩
    ·exact .inl (.inl (.inl h))
    rcases List.mem_append.1 h with h | h
    ·exact .inl (.inl (.inr ⟨rfl,h⟩))
    exact .inl (.inr ⟨rfl,List.mem_singleton.1 h⟩)
   refine hk_region fun K hK=>runs_eval tab_ok ?_
   simp only [evz,fl,gp,tab,simprocAttr,hm4,hfk,Option.isSome_none,Option.isSome_some,Option.getD_none,Option.getD_some]
   refine fin_run ?_ (hK _ ?_)<;>clear hK K
   ·constructor<;>omega
   refine qa (qm ?_)
   refine hk_region fun K hK=>runs_eval tab_ok ?_
   simp only [evz,fl,gp,tab,simprocAttr]
   refine fin_run trivial (hK _ ?_)<;>clear hK K
   refine qa ?_
   refine hk_cond rfl (fun hC6=>?_) (fun hC6=>?_)
   ·(try simp only [nhs] at hC6)
    refine qm ?_
    rw [← hH4]
    have hul3:U3.length=q3.length:=y2.mx.ulen
    refine Fw.hk_drawF (F:=fwP [21]) mixed (by kernel_rfl) fun K hK=>?_
    refine Fw.runsF_op tab_ok (by simp only [evz,fl,gp,tab,simprocAttr]; rfl) (by trivial) rfl (by show _ < _; exact of_decide_eq_true rfl) rfl rfl ?_
    simp only [evz,fl,gp,tab,simprocAttr]
    refine Fw.runsF_free tab_ok rfl (by simp only [evz,fl,gp,tab,simprocAttr]; rfl) (by first|trivial|omega) rfl (by show _ < _; exact of_decide_eq_true rfl) ?_
    simp only [evz,fl,gp,tab,simprocAttr]
    refine Fw.runsF_op tab_ok (by simp only [evz,fl,gp,tab,simprocAttr]; rfl) (by trivial) rfl (by show _ < _; exact of_decide_eq_true rfl) rfl rfl ?_
    simp only [evz,fl,gp,tab,simprocAttr]
    refine runsF_placeG (G:=G3) (U:=U3) (k:=Ga.length + Gb.length + 9) (Q:=P5 Ga Ua4 Gb Ub4 f3 q3) (by omega) (by omega) rfl rfl P5_len rfl rfl (by show _ < _; exact of_decide_eq_true rfl) rfl ?_
    simp only [evz,fl,gp,tab,simprocAttr]
    refine Fw.runsF_op tab_ok (by simp only [evz,fl,gp,tab,simprocAttr,hget_P5]; rfl) (by simp only [and_true,true_and]; constructor<;>omega) rfl (by trivial) rfl rfl ?_
    simp only [evz,fl,gp,tab,simprocAttr]
    refine Fw.runsF_nil (hK _ ?_)<;>clear hK K
    refine qa ?_
    have hcE:Blk.mp .i8 (fun u=>decide (u=(ra:Int) * 1099511627776 + (rb:Int)) || (f3 u).isSome) (fun u=>bif decide (u=(ra:Int) * 1099511627776 + (rb:Int)) then PV.int .i64 (U3.length:Nat) else PV.int .i64 ((f3 u).getD 0))=mpC (updM f3 (kyP (ra,rb)) (q3.length:Nat)):=by
     rw [hul3]
     exact mpC_upd _ _ _
    rw [hcE,hset_P5]
    refine hk_le (s1:=(fun z:MS=>⟨164,[(5,.ptr 0 0),(9,.ptr 1 0),(10,.ptr (Ga.length + 4) 0),(11,.ptr (Ga.length + Gb.length + 9) 0),(12,.mptr (Ga.length + Gb.length + 7)),(14,.sls (Ga.length + Gb.length + 8) 0 z.q.length 2),(15,.p (.int .i64 (i:Nat))),(16,.p (.ptr [.int .i64 (pa:Nat),.int .i64 (pb:Nat)])),(18,.p (.int .i64 x)),(21,.p (.ptr [.int .i64 (ra:Nat),.int .i64 (rb:Nat)])),(74,.p (.list (il Ls))),(75,.p (.int .i64 (Ls.length:Nat))),(76,.p (.int .i64 (j:Nat)))],MH Ga z.Ua Gb z.Ub z.f z.q z.G z.U⟩) ⟨j,Ua4,Ub4,updM f3 (kyP (ra,rb)) (q3.length:Nat),q3,G3++[nul],U3++[(U3.length:Int)]⟩) _ (le_new (G:=G3) (U:=U3) (by omega) rfl rfl rfl ?_) ?_
    ·obtain ⟨ρ,hρ⟩:∃ ρ,0 :: (G3.length + 4) :: (G3.length + 5) :: List.range' 3 (G3.length + 1)=ρ:=⟨_,rfl⟩
     have hρ0:ρ.getD 0 0=0:=by rw [← hρ]; rfl
     have hρl:0 < ρ.length:=by rw [← hρ]; simp
     rw [hρ]
     have e1:=end_pi1 (a:=Ga.length + Gb.length + 9) (i:=0) (ρ:=ρ) (by omega)
     have e2:=end_pi1 (a:=Ga.length + Gb.length + 9) (i:=1) (ρ:=ρ) (by omega)
     have e3:=end_pi1 (a:=Ga.length + Gb.length + 9) (i:=Ga.length + 4) (ρ:=ρ) (by omega)
     have e6:=end_pi1 (a:=Ga.length + Gb.length + 9) (i:=Ga.length + Gb.length + 7) (ρ:=ρ) (by omega)
     have e5:=end_pi1 (a:=Ga.length + Gb.length + 9) (i:=Ga.length + Gb.length + 8) (ρ:=ρ) (by omega)
     have e4:=end_pi2 (a:=Ga.length + Gb.length + 9) (i:=0) (ρ:=ρ) hρl
     have hl:Ga.length + Gb.length + 10≤(List.range (Ga.length + Gb.length + 9)++List.map (fun x=>Ga.length + Gb.length + 9 + x) ρ).length:=by rw [List.length_append,List.length_range,List.length_map]; omega
     rw [hρ0] at e4
     simp only [Nat.add_zero] at e4
     generalize List.range (Ga.length + Gb.length + 9)++List.map (fun x=>Ga.length + Gb.length + 9 + x) ρ=π at e1 e2 e3 e4 e5 e6 hl ⊢
     simp only [LeS,Go.Pv.ren,ren1,e1,e2,e3,e4,e5,e6,scA,sc1]
     simp [St.get,lk]<;>omega
    have hpE:(pf q3).take (q3.length * 2)++opl (flat [PV.agg [.int .i64 (ra:Nat),.int .i64 (rb:Nat)]])=pf (q3++[(ra,rb)]):=by
     rw [List.take_of_length_le (by rw [pf_len]; exact Nat.le_refl _),pf_app,pf_one]; rfl
    have hpK:(((pf q3).drop 0).take (q3.length * 2)).all cellOk=true:=by
     rw [List.drop_zero,List.take_of_length_le (by rw [pf_len]; exact Nat.le_refl _)]; exact pf_ok _
    refine hk_region fun K hK=>runs_eval tab_ok ?_
    simp only [evz,fl,gp,tab,simprocAttr]
    refine fin_stop ?_ (runs_op (appS_does (sz:=2) (k:=Ga.length + Gb.length + 8) (lo:=0) (len:=q3.length) (c:=pf q3) (l:=[PV.agg [.int .i64 (ra:Nat),.int .i64 (rb:Nat)]]) tab_ok rfl rfl rfl rfl rfl rfl (by decide) (by decide) rfl (MF.of).w rfl (by intro x hx; simp at hx; subst hx; rfl) (by intro x hx; simp at hx; subst hx; rfl) (show 0 < 1 by decide) (by rw [pf_len]; omega) hpK (by show (q3.length + 1) * 16≤_; omega) (by show (q3.length + 1) * 2≤_; omega) (by show q3.length + 1≤_; omega)) rfl (by simp only [dstOk,Nat.reduceLT]) (runs_eval tab_ok ?_))
    ·(first|exact trivial|omega|(simp only [In64] at *; omega)|(simp [In64] at *; omega)|(simp_all; done)|skip)
    simp only [evz,fl,gp,tab,simprocAttr]
    refine fin_run ?_ (hK _ ?_)<;>clear hK K
    ·(first|exact trivial|omega|(simp only [In64] at *; omega)|(simp [In64] at *; omega)|(simp_all; done)|skip)
    refine qa ?_
    refine hk_le (s1:=(fun z:MS=>⟨164,[(5,.ptr 0 0),(9,.ptr 1 0),(10,.ptr (Ga.length + 4) 0),(11,.ptr (Ga.length + Gb.length + 9) 0),(12,.mptr (Ga.length + Gb.length + 7)),(14,.sls (Ga.length + Gb.length + 8) 0 z.q.length 2),(15,.p (.int .i64 (i:Nat))),(16,.p (.ptr [.int .i64 (pa:Nat),.int .i64 (pb:Nat)])),(18,.p (.int .i64 x)),(21,.p (.ptr [.int .i64 (ra:Nat),.int .i64 (rb:Nat)])),(74,.p (.list (il Ls))),(75,.p (.int .i64 (Ls.length:Nat))),(76,.p (.int .i64 (j:Nat)))],MH Ga z.Ua Gb z.Ub z.f z.q z.G z.U⟩) ⟨j,Ua4,Ub4,updM f3 (kyP (ra,rb)) (q3.length:Nat),q3++[(ra,rb)],G3++[nul],U3++[(U3.length:Int)]⟩) _ (le_row (A:=Ga) (B:=Gb) (Ua:=Ua4) (Ub:=Ub4) (G:=G3++[nul]) (U:=U3++[(U3.length:Int)]) (f:=updM f3 (kyP (ra,rb)) (q3.length:Nat)) (b0:=.dead) rfl hpE rfl (by show hset _ _ _++_=_; rw [mh_dead]) ?_) ?_
    ·intro p hp
     simp only [List.mem_cons,List.not_mem_nil,or_false] at hp
     rcases hp with rfl | rfl | rfl | rfl | rfl | rfl | rfl | rfl | rfl | rfl | rfl | rfl | rfl
     ·exact .inr ⟨rfl,.inl ⟨_,_,rfl,by omega,by omega⟩⟩
     ·exact .inr ⟨rfl,.inl ⟨_,_,rfl,by omega,by omega⟩⟩
     ·exact .inr ⟨rfl,.inl ⟨_,_,rfl,by omega,by omega⟩⟩
     ·exact .inr ⟨rfl,.inl ⟨_,_,rfl,by omega,by rw [List.length_append]; simp<;>omega⟩⟩
     ·exact .inr ⟨rfl,.inr (.inl ⟨_,rfl,by omega,by omega⟩)⟩
     ·refine .inl ⟨(q3++[(ra,rb)]).length,rfl,?_⟩
      show AV.sls (List.length (MH Ga Ua4 Gb Ub4 (updM f3 (kyP (ra,rb)) (q3.length:Nat)) q3 (G3++[nul]) (U3++[(U3.length:Int)]))) 0 (q3.length + 1) 2=AV.sls (Ga.length + Gb.length + 12 + (G3++[nul]).length) 0 (q3++[(ra,rb)]).length 2
      have hle:(q3++[(ra,rb)]).length=q3.length + 1:=by simp
      rw [MH_len,hle]
     all_goals exact .inr ⟨rfl,.inr (.inr ⟨_,rfl⟩)⟩
    simp only
    have hi4:i < (q3++[(ra,rb)]).length:=by first|exact hi3|(rw [List.length_append]; omega)
    have hp4:(q3++[(ra,rb)]).getD i (0,0)=(pa,pb):=by first|exact hp3|(rw [getD_q hi3]; exact hp3)
    have m4:MX (stR Ga Ua) (stR Gb Ub) (q3++[(ra,rb)]) (updM f3 (kyP (ra,rb)) (q3.length:Nat)) (G3++[nul]) (U3++[(U3.length:Int)]) (fun k y=>k < i∨(k=i∧y∈Ls.take j)):=y2.mx.add hm (by simp only; omega) hwr (fun y h=>by
     have h2:q3.length < i∨(q3.length=i∧y∈Ls.take j):=h
     rcases h2 with h2 | ⟨h2,_⟩<;>omega)
    have hr4:(ra,rb)∈(q3++[(ra,rb)]):=by simp
    have hq4:∃ r',(q3++[(ra,rb)])=q++r':=⟨q3r++[(ra,rb)],by rw [hq3,List.append_assoc]⟩
    obtain ⟨q4,hq4e⟩:∃ q4,(q3++[(ra,rb)])=q4:=⟨_,rfl⟩
    obtain ⟨f4,hf4e⟩:∃ f4,(updM f3 (kyP (ra,rb)) (q3.length:Nat))=f4:=⟨_,rfl⟩
    obtain ⟨G4,hG4e⟩:∃ G4,(G3++[nul])=G4:=⟨_,rfl⟩
    obtain ⟨U4,hU4e⟩:∃ U4,(U3++[(U3.length:Int)])=U4:=⟨_,rfl⟩
    rw [hq4e] at hi4 hp4 hr4 hq4
    rw [hq4e,hf4e,hG4e,hU4e] at m4
    obtain ⟨q4r,hq4⟩:=hq4
    have hgl4:G4.length=q4.length:=m4.gl
    obtain ⟨H5,hH5⟩:∃ H,MH Ga Ua4 Gb Ub4 f4 q4 G4 U4=H:=⟨_,rfl⟩
    have F5:MF H5 (Ga.length + 4) (Ga.length + Gb.length + 7) (Ga.length + Gb.length + 8) (Ga.length + Gb.length + 9) Ga Ua4 Gb Ub4 f4 q4 G4 U4:=hH5 ▸ MF.of
    have hm5:hget H5 (Ga.length + Gb.length + 7) = .mp .i8 (fun z=>(f4 z).isSome) (fun z=>.int .i64 ((f4 z).getD 0)):=F5.m
    have hk1:f4 ((pa:Int) * 1099511627776 + (pb:Int))=some (i:Int):=by
     have h1:=m4.pm (pa,pb) (by simp only; omega)
     have h2:(pa,pb)∈q4:=by rw [← hp4]; exact q_mem hi4
     have h3:q4.idxOf (pa,pb)=i:=by rw [← hp4]; exact qix m4.nd hi4
     rw [if_pos h2,h3] at h1
     exact h1
    have hk2:f4 ((ra:Int) * 1099511627776 + (rb:Int))=some ((q4.idxOf (ra,rb):Nat):Int):=by
     have h1:=m4.pm (ra,rb) (by simp only; omega)
     rw [if_pos hr4] at h1
     exact h1
    have hx5:hget H5 (Ga.length + Gb.length + 9 + 3 + i) = .mp .i64 (fun z=>(gm G4 i z).isSome) (fun z=>.int .i64 ((gm G4 i z).getD 0)):=F5.x3 i (by omega)
    have hig:i < G4.length:=by omega
    simp only [hq4e,hf4e,hG4e,hU4e]
    rw [hH5]
    refine hk_drawL 13 mixed (by kernel_rfl) fun K hK=>runs_eval tab_ok ?_
    simp only [List.take_succ_cons,List.take_zero,List.drop_succ_cons,List.drop_zero]
    simp only [evz,fl,gp,tab,simprocAttr,F5.x0,F5.x1,mpK_len,mpK_get hig,hm5,hk1,hk2,Option.isSome_some,Option.getD_some]
    refine fin_run ?_ (runs_eval tab_ok ?_)
    ·exact ⟨⟨⟨⟨by omega,by omega⟩,by omega,by omega⟩,by omega⟩,by omega,by omega⟩
    simp only [evz,fl,gp,tab,simprocAttr,hx5]
    refine fin_run ?_ (hK _ ?_)<;>clear hK K
    ·first|trivial|trace_state
    refine qd (qa ?_)
    refine hk_region fun K hK=>runs_eval tab_ok ?_
    simp only [evz,fl,gp,tab,simprocAttr]
    refine fin_run ?_ (hK _ ?_)<;>clear hK K
    ·(first|exact trivial|omega|(simp only [In64] at *; omega)|(simp [In64] at *; omega)|(simp_all; done)|skip)
    refine qa ?_
    skip
    have hS4:sP (stR Ga Ua) (stR Gb Ub) (q4.getD i (0,0)) x=some (ra,rb):=by rw [hp4]; exact hS1
    have hbE:Blk.mp .i64 (fun u=>decide (u=x) || (gm G4 i u).isSome) (fun u=>bif decide (u=x) then PV.int .i64 ((q4.idxOf (ra,rb):Nat):Int) else PV.int .i64 ((gm G4 i u).getD 0))=mpB (updM (gm G4 i) x (q4.idxOf (ra,rb):Nat)):=mpB_upd _ _ _
    refine ⟨⟨j + 1,Ua4,Ub4,f4,q4,G4.set i (updM (gm G4 i) x (q4.idxOf (ra,rb):Nat)),U4⟩,_,⟨by simp only; omega,⟨wa4,ra4,wb4,rb4,(m4.put hi4 hr4 hS4).ext (fun k y h=>?_) fun k hk y h=>?_⟩,q4r,hq4⟩,by simp only; omega,le_front (Y:=MH Ga Ua4 Gb Ub4 f4 q4 (G4.set i (updM (gm G4 i) x (q4.idxOf (ra,rb):Nat))) U4) rfl rfl (Z:=[]) (by rw [List.append_nil,hbE,← hH5]; exact mh_set hig _) (MH_hsc (by rw [MH_len]; exact Nat.le_refl _)) (by
     rw [MH_len,List.length_set]
     simp [St.get,lk,scA,sc1]<;>omega)⟩
    ·simp only
     rw [htk]
     rcases h with (h | h) | h
     ·exact .inl h
     ·exact .inr ⟨h.1,List.mem_append.2 (.inl h.2)⟩
     exact .inr ⟨h.1,List.mem_append.2 (.inr (by rw [h.2]; simp))⟩
    simp only at h
    rw [htk] at h
    rcases h with h | ⟨rfl,h⟩
    ·exact .inl (.inl (.inl h))
    rcases List.mem_append.1 h with h | h
    ·exact .inl (.inl (.inr ⟨rfl,h⟩))
    exact .inl (.inr ⟨rfl,List.mem_singleton.1 h⟩)
   (try simp only [nhs] at hC6)
   simp at hC6
  (try simp only [nhs] at hC4)
  refine qj (qc (qc (qf (qd (qa ?_)))))
  refine hk_region fun K hK=>runs_eval tab_ok ?_
  simp only [evz,fl,gp,tab,simprocAttr]
  refine fin_run ?_ (hK _ ?_)<;>clear hK K
  ·(first|exact trivial|omega|(simp only [In64] at *; omega)|(simp [In64] at *; omega)|(simp_all; done)|skip)
  refine qa ?_
  have hj:j=Ls.length:=by omega
  refine ⟨⟨i + 1,Ua3,Ub3,f3,q3,G3,U3⟩,_,⟨by simp only; omega,⟨y2.wa,y2.ra,y2.wb,y2.rb,y2.mx.ext (fun k y h=>?_) fun k hk y h=>?_⟩⟩,by simp only; omega,le_front (Y:=MH Ga Ua3 Gb Ub3 f3 q3 G3 U3) rfl rfl (Z:=[]) (by rw [List.append_nil,hH3]) (MH_hsc (by rw [MH_len]; exact Nat.le_refl _)) (by
   rw [MH_len]
   simp [St.get,lk,scA,sc1]<;>omega)⟩
  ·simp only
   omega
  simp only at h
  by_cases hk2:k < i
  ·exact .inl (.inl hk2)
  obtain rfl:k=i:=by omega
  by_cases hy:y∈Ls
  ·exact .inl (.inr ⟨rfl,by rw [hj,List.take_length]; exact hy⟩)
  right
  rw [hp3]
  unfold sP
  simp only
  rw [stR_of ⟨pa1,pa2⟩]
  unfold stp
  cases hd:gm Ga pa y with
  | none=>rfl
  | some d =>
   exfalso
   have he:=z2.wa.ent pa y d pa1 hd
   refine hy ?_
   rw [← hLs,mem_lts,hd]
   exact ⟨he.2.2.2,rfl⟩
 (try simp only [nhs] at hC3)
 have hi:i=q.length:=by omega
 have mx:=z2.mx
 rw [hi] at mx
 have hltA:∀ p∈q,∀ x v,stR Ga Ua p.1 x=some v→x ≠ 0∧-26≤x∧x≤26:=fun p hp x v h=>hCa.cg.lt p.1 (hqs p hp).1 x v h
 have wg:=mx.wg hltA
 have sy:=mx.sym hCa.cg.inv hCb.cg.inv hltA
 have hgp:0 < G.length:=by
  have h2:0 < q.length:=mx.pg.pos.1
  omega
 refine qj (qc (qc (qf (qa (qm ?_)))))
 rw [← hH]
 refine hk_regE 1 (runs_cut fun K hK=>?_)
 simp only [List.take_succ_cons,List.take_zero]
 refine runs_eval tab_ok ?_
 simp only [evz,fl,gp,tab,simprocAttr]
 refine fin_run trivial (hK _ ?_)<;>clear hK K
 refine ⟨_,_,rfl,rfl,by simp only [dstOk,Nat.reduceLT],basis_E (G:=G) (U:=U) (Q:=P5 Ga Ua2 Gb Ub2 f q) rfl rfl wg hgp sy (by omega) (by rw [P5_len]; rfl) (by rw [P5_len]; rfl),fun av H' hO=>?_⟩
 obtain ⟨lst,fw,R,rfl,rfl,gt,hrt,hf⟩:=hO
 refine runs_cut fun K hK=>?_
 simp only [List.drop_succ_cons,List.drop_zero]
 refine runs_eval tab_ok ?_
 simp only [evz,fl,gp,tab,simprocAttr]
 refine fin_run trivial (hK _ ?_)<;>clear hK K
 refine qa (qm ?_)
 have hll:lst.length≤10000000:=Nat.le_trans (nodup_len _ _ gt.nd fun x hx=>(hrt x hx).1) (by omega)
 obtain ⟨hbt,hbw⟩:=bas_big gt hll
 rw [mx.st] at gt hbt hbw ⊢
 obtain ⟨bs,hbs⟩:∃ bs,basS (stQ (stR Ga Ua) (stR Gb Ub) q) lst fw=bs:=⟨_,rfl⟩
 rw [hbs] at hbt hbw ⊢
 refine hk_le (s1:=⟨164,[(5,.ptr 0 0),(24,.p (.list (ll bs)))],[rb0]⟩) _ (le_front (Y:=[rb0]) rfl rfl rfl (by simp [hsc,rb0,scA,sc1]) (by simp [St.get,lk,scA,sc1])) ?_
 refine hk_region fun K hK=>runs_eval tab_ok ?_
 simp only [evz,fl,gp,tab,simprocAttr]
 refine fin_run trivial (hK _ ?_)<;>clear hK K
 refine qa (qm (qm ?_))
 refine hk_region fun K hK=>runs_eval tab_ok ?_
 simp only [evz,fl,gp,tab,simprocAttr,ll_length]
 refine fin_run trivial (hK _ ?_)<;>clear hK K
 refine qa (ql ?_)
 refine hk_loop (ι:=Nat) (fun k=>⟨164,[(5,.ptr 0 0),(24,.p (.list (ll bs))),(25,.p (.int .i64 ((tot (bs.take k):Nat):Int))),(143,.p (.list (ll bs))),(144,.p (.int .i64 (bs.length:Nat))),(145,.p (.int .i64 (k:Nat)))],[rb0]⟩) (fun k=>k≤bs.length) (fun k=>bs.length - k) 0 (Nat.zero_le _) [0] (by simp only [leq,leA,evz,fl,gp,tab,simprocAttr,rb0]<;>first|trivial|exact ⟨rfl,trivial⟩|trace_state) fun k hk=>?_
 refine qm ?_
 refine hk_region fun K hK=>runs_eval tab_ok ?_
 simp only [evz,fl,gp,tab,simprocAttr]
 refine fin_run trivial (hK _ ?_)<;>clear hK K
 refine qa (qm ?_)
 refine hk_cond rfl (fun hC7=>?_) (fun hC7=>?_)
 ·(try simp only [nhs] at hC7)
  have hk:k < bs.length:=by omega
  have htb:=tot_tk bs (k + 1)
  have hte:tot (bs.take (k + 1))=tot (bs.take k) + (bs.getD k []).length:=by rw [take_snoc (d:=[]) hk,tot_sn]
  refine qh (qa (qm (ql (qm ?_))))
  refine hk_region fun K hK=>runs_eval tab_ok ?_
  simp only [evz,fl,gp,tab,simprocAttr,ll_length,ll_get hk]
  refine fin_run ?_ (hK _ ?_)<;>clear hK K
  ·omega
  refine qa ?_
  refine hk_region fun K hK=>runs_eval tab_ok ?_
  simp only [evz,fl,gp,tab,simprocAttr,il_length]
  refine fin_run ?_ (hK _ ?_)<;>clear hK K
  ·(first|exact trivial|omega|(simp only [In64] at *; omega)|(simp [In64] at *; omega)|(simp_all; done)|skip)
  refine qd (qa ?_)
  refine hk_region fun K hK=>runs_eval tab_ok ?_
  simp only [evz,fl,gp,tab,simprocAttr]
  refine fin_run ?_ (hK _ ?_)<;>clear hK K
  ·(first|exact trivial|omega|(simp only [In64] at *; omega)|(simp [In64] at *; omega)|(simp_all; done)|skip)
  refine qa ?_
  have e:((tot (bs.take k):Nat):Int) + ((bs.getD k []).length:Nat)=((tot (bs.take (k + 1)):Nat):Int):=by omega
  rw [e]
  refine ⟨k + 1,[0],by omega,by omega,by simp only [leq,leA,evz,fl,gp,tab,simprocAttr,rb0]<;>first|trivial|exact ⟨rfl,trivial⟩|trace_state⟩
 (try simp only [nhs] at hC7)
 have hk:k=bs.length:=by omega
 rw [hk,List.take_length]
 refine qj (qc (qc (qf (qa (qm (qm ?_))))))
 by_cases g37a:20 < (bs.length:Int)
 ·refine hk_region fun K hK=>runs_eval tab_ok ?_
  simp only [evz,fl,gp,tab,simprocAttr,ll_length,decide_eq_true g37a]
  refine fin_run trivial (hK _ ?_)<;>clear hK K
  refine qa ?_
  refine hk_cond rfl (fun hC8=>?_) (fun hC8=>?_)
  ·refine qm ?_
   refine hk_region fun K hK=>runs_eval tab_ok ?_
   simp only [evz,fl,gp,tab,simprocAttr]
   refine fin_stop trivial (runs_call (ffault_c 9 0) rfl rfl rfl (by simp only [dstOk,Nat.reduceLT]) (by repeat (first|exact trivial|constructor)) (runs_eval tab_ok ?_))
   simp only [evz,fl,gp,tab,simprocAttr]
   refine fin_run ?_ (hK _ ?_)<;>clear hK K
   ·(first|exact trivial|omega|(simp only [In64] at *; omega)|(simp [In64] at *; omega)|(simp_all; done)|skip)
   refine qa (qk (qb ?_))
   simp only [Try.results31,PostG,endG,rvsA,rvA,mkTup,evz,fl,gp,tab,simprocAttr]
   refine ⟨.p (.tup [.nil,fl (9,0)]),[],?_,[],rfl,rfl,⟨rfl,List.nodup_nil,trivial,trivial⟩⟩
   rw [hP]
   refine ⟨.inr (.inr ⟨hc1,hc2,_,_,_,_,q,lst,fw,hCa,hCb,mx.pg,gt,?_⟩),rfl⟩
   rw [hbs]
   exact .inl ⟨.inl (by omega),rfl⟩
  cases hC8
 refine hk_region fun K hK=>runs_eval tab_ok ?_
 simp only [evz,fl,gp,tab,simprocAttr,ll_length,decide_eq_false g37a]
 refine fin_run trivial (hK _ ?_)<;>clear hK K
 refine qa ?_
 refine hk_cond rfl (fun hC8=>?_) (fun hC8=>?_)
 ·(try simp only [nhs] at hC8)
  refine qm ?_
  refine hk_region fun K hK=>runs_eval tab_ok ?_
  simp only [evz,fl,gp,tab,simprocAttr]
  refine fin_stop trivial (runs_call (ffault_c 9 0) rfl rfl rfl (by simp only [dstOk,Nat.reduceLT]) (by repeat (first|exact trivial|constructor)) (runs_eval tab_ok ?_))
  simp only [evz,fl,gp,tab,simprocAttr]
  refine fin_run ?_ (hK _ ?_)<;>clear hK K
  ·(first|exact trivial|omega|(simp only [In64] at *; omega)|(simp [In64] at *; omega)|(simp_all; done)|skip)
  refine qa (qk (qb ?_))
  simp only [Try.results31,PostG,endG,rvsA,rvA,mkTup,evz,fl,gp,tab,simprocAttr]
  have h8:(2000:Int) < (tot bs:Nat):=by first|exact hC8|simpa using hC8
  refine ⟨.p (.tup [.nil,fl (9,0)]),[],?_,[],rfl,rfl,⟨rfl,List.nodup_nil,trivial,trivial⟩⟩
  rw [hP]
  refine ⟨.inr (.inr ⟨hc1,hc2,_,_,_,_,q,lst,fw,hCa,hCb,mx.pg,gt,?_⟩),rfl⟩
  rw [hbs]
  exact .inl ⟨.inr (by omega),rfl⟩
 (try simp only [nhs] at hC8)
 refine qh (qa (qm ?_))
 refine hk_region fun K hK=>runs_eval tab_ok ?_
 simp only [evz,fl,gp,tab,simprocAttr]
 refine fin_run ?_ (hK _ ?_)<;>clear hK K
 ·(first|exact trivial|omega|(simp only [In64] at *; omega)|(simp [In64] at *; omega)|(simp_all; done)|skip)
 refine qa (qk ?_)
 simp only [Try.results31,PostG,endG,rvsA,rvA,mkTup,evz,fl,gp,tab,simprocAttr]
 have h8:¬ (2000:Int) < (tot bs:Nat):=by first|exact hC8|simpa using hC8
 refine ⟨.p (.tup [.list (ll bs),fl (0,0)]),[],?_,[],rfl,rfl,⟨rfl,List.nodup_nil,trivial,trivial⟩⟩
 rw [hP]
 refine ⟨.inr (.inr ⟨hc1,hc2,_,_,_,_,q,lst,fw,hCa,hCb,mx.pg,gt,?_⟩),rfl⟩
 rw [hbs]
 exact .inr ⟨by omega,rfl⟩
end Go.Proofs.Ytneglephfhiamaa

namespace Go.Proofs.Ytneglephfhiamaa
open Go.Pv
open Classical in
theorem pg_exists {A B:Nat→Int→Option Nat} {lA lB:List Nat} (cA:CG A lA) (cB:CG B lB):∃ q,PG A B q:=by
 obtain ⟨L,hL⟩:∃ L,(lA.flatMap fun u=>lB.map fun v=>(u,v))=L:=⟨_,rfl⟩
 have hm:∀ p,p∈L↔p.1∈lA∧p.2∈lB:=fun p=>by
  rw [← hL,List.mem_flatMap]
  constructor
  ·rintro ⟨u,hu,h⟩
   obtain ⟨v,hv,rfl⟩:=List.mem_map.1 h
   exact ⟨hu,hv⟩
  rintro ⟨h1,h2⟩
  exact ⟨p.1,h1,List.mem_map.2 ⟨p.2,h2,rfl⟩⟩
 have hnd:L.Nodup:=by
  rw [← hL]
  refine nodup_flat cA.nd (fun u _=>nodup_mapF cB.nd fun a _ b _ e=>by injection e) fun u _ v _ z h1 h2=>?_
  obtain ⟨a,_,rfl⟩:=List.mem_map.1 h1
  obtain ⟨b,_,e⟩:=List.mem_map.1 h2
  injection e with e _
  exact e.symm
 refine ⟨(0,0) :: L.filter fun p=>decide (p ≠ (0,0)∧∃ w,runW (sP A B) (0,0) w=some p),?_,rfl,fun p hp x r h=>?_,fun p hp=>?_⟩
 ·rw [List.nodup_cons]
  refine ⟨fun h=>?_,List.Nodup.sublist List.filter_sublist hnd⟩
  have:=(List.mem_filter.1 h).2
  simp at this
 ·have hpw:∃ w,runW (sP A B) (0,0) w=some p:=by
   rcases List.mem_cons.1 hp with rfl | hp
   ·exact ⟨[],rfl⟩
   have:=(List.mem_filter.1 hp).2
   simp only [decide_eq_true_eq] at this
   exact this.2
  obtain ⟨w,hw⟩:=hpw
  have hr:runW (sP A B) (0,0) (w++[x])=some r:=by rw [runW_app,hw]; simp only [Option.bind_some,runW,h]
  by_cases e:r=(0,0)
  ·rw [e]; simp
  refine List.mem_cons.2 (.inr (List.mem_filter.2 ⟨(hm r).2 ?_,by simp only [decide_eq_true_eq]; exact ⟨e,_,hr⟩⟩))
  have:=run_sP.1 hr
  exact ⟨(cg_nz cA cA.m0 this.1).2,(cg_nz cB cB.m0 this.2).2⟩
 rcases List.mem_cons.1 hp with rfl | hp
 ·exact ⟨[],rfl⟩
 have:=(List.mem_filter.1 hp).2
 simp only [decide_eq_true_eq] at this
 exact this.2
structure MeetF (l m b:List (List Int)):Prop where
 len:b.length≤20
 ok:∀ w∈b,Ok w∧Red w
 tot:tot b≤2000
 rank:(eP (stE (folded l)) (stE (folded m)):Int) - vP (stE (folded l)) (stE (folded m)) + 1=b.length
 inn:∀ w∈b,memB l w=true∧memB m w=true
 fold:(eS (b.map short):Int) - vS (b.map short) + 1=b.length
 mem:∀ w,memB b w=(memB l w && memB m w)
section
variable {l m:List (List Int)} {A B:Nat→Int→Option Nat} {lA lB lst:List Nat} {q:List (Nat × Nat)} {f:Wy}
theorem IsC.lang {S:List (List Int)} {st:Nat→Int→Option Nat} {ls:List Nat} (h:IsC S st ls):Lang st S:=lang_of h.cg h.uni h.cl
theorem fold_isC (h1:(ckL l).1=0):IsC (l.map short) (stE (folded l)) (plS (folded l)):=by
 obtain ⟨s1,s2,s3⟩:=folded_spec fun w hw=>((ckL_fold h1).1 w hw).1
 obtain ⟨c1,c2,c3,_⟩:=fc_cg s1 s2 s3
 exact ⟨c1,c2,c3⟩
theorem meetF (h1:(ckL l).1=0) (h2:(ckL m).1=0) (iA:IsC (l.map short) A lA) (iB:IsC (m.map short) B lB) (g:PG A B q) (gt:GT (stQ A B q) lst f)
  (hn:¬ (20 < (basS (stQ A B q) lst f).length∨2000 < tot (basS (stQ A B q) lst f))):MeetF l m (basS (stQ A B q) lst f):=by
 have hltA:∀ p∈q,∀ x v,A p.1 x=some v→x ≠ 0∧-26≤x∧x≤26:=fun p hp x v h=>iA.cg.lt p.1 (g.sub iA.cg iB.cg hp).1 x v h
 have hck:ckL (basS (stQ A B q) lst f)=(0,0):=ckL_mk (by omega) (fun w hw=>gt.bas_ok hw) (by omega)
 refine ⟨by omega,fun w hw=>⟨gt.bas_ok hw,GT.bas_red hw⟩,by omega,?_,fun w hw=>meet_in g gt iA.lang iB.lang hw,bas_fold gt (by rw [hck]),fun w=>meet_within g gt iA.lang iB.lang w⟩
 have jA:=fold_isC h1
 have jB:=fold_isC h2
 obtain ⟨q',g'⟩:=pg_exists jA.cg jB.cg
 have hltA' : ∀ q'',PG (stE (folded l)) (stE (folded m)) q''→∀ p∈q'',∀ x v,stE (folded l) p.1 x=some v→x ≠ 0∧-26≤x∧x≤26:=fun q'' g'' p hp x v h=>jA.cg.lt p.1 (g''.sub jA.cg jB.cg hp).1 x v h
 obtain ⟨v1,v2⟩:=pg_vP jA.cg.inv jB.cg.inv g' hltA'
 obtain ⟨c1,c2⟩:=pg_cnt g g' iA.cg.inv iB.cg.inv jA.cg.inv jB.cg.inv hltA (hltA' _ g') iA.lang iB.lang jA.lang jB.lang
 have hb:=basS_len gt
 obtain ⟨d1,d2⟩:=cg_lang gt.cg (g.cg iA.cg.inv iB.cg.inv hltA) fun w=>Iff.rfl
 rw [List.length_range] at d1
 rw [v1,v2]
 omega
theorem eS_tot (h1:(ckL l).1=0):eS (l.map short)≤tot l:=by
 obtain ⟨v1,v2,_,_⟩:=ckL_cnt h1
 have:=folded_len l fun w hw=>((ckL_fold h1).1 w hw).1
 have:=tot_short l
 omega
theorem meet_far (h1:(ckL l).1=0) (h2:(ckL m).1=0) (iA:IsC (l.map short) A lA) (iB:IsC (m.map short) B lB) (g:PG A B q) (gt:GT (stQ A B q) lst f)
  (hn:20 < (basS (stQ A B q) lst f).length∨2000 < tot (basS (stQ A B q) lst f)):12 < tot l + tot m:=by
 apply Classical.byContradiction
 intro hc
 have e1:=eS_tot h1
 have e2:=eS_tot h2
 have:=meet_small g iA.cg iB.cg gt (by rw [iA.cnt.2,iB.cnt.2]; omega)
 omega
theorem vS_le (h1:(ckL l).1=0):vS (l.map short)≤2 * tot l + 1:=by
 obtain ⟨v1,v2,_,_⟩:=ckL_cnt h1
 have hp:=plS_len (folded l)
 have:=eS_tot h1
 omega
end
theorem meet_hv {l m:List (List Int)} (h1:lwS l=false) (h2:lwS m=false):(ckL l).1=0→(ckL m).1=0→vS (l.map short) * vS (m.map short)≤10000000:=fun c1 c2=>by
 have a1:=vS_le c1
 have a2:=vS_le c2
 obtain ⟨_,_,t1⟩:=lw_no h1
 obtain ⟨_,_,t2⟩:=lw_no h2
 have b1:tot l≤120:=Nat.le_of_not_lt fun h=>t1 h c1
 have b2:tot m≤120:=Nat.le_of_not_lt fun h=>t2 h c2
 have:=Nat.mul_le_mul (show vS (l.map short)≤241 by omega) (show vS (m.map short)≤241 by omega)
 omega
theorem MeetO.pure {l m:List (List Int)} {r:AV} (h:MeetO l m r):∃ v,r = .p v:=by
 rcases h with ⟨_,rfl⟩ | ⟨_,_,rfl⟩ | ⟨_,_,A,lA,B,lB,q,lst,f,_,_,_,_,⟨_,rfl⟩ | ⟨_,rfl⟩⟩<;>exact ⟨_,rfl⟩
theorem Meet_E {s:St} {o:Oper} {fo:Operand} {args:Array Operand} {ts:Array TypeId} (ho:o.op = .call { callee:=.value fo,args:=args,argTypes:=ts }) (hfo:s.ev fo = .p (.fn 31 []))
  (L M:List (List Int)) (hl:L.length≤1000000000) (hw:∀ w∈L,w.length≤1000000000) (hl2:M.length≤1000000000) (hw2:∀ w∈M,w.length≤1000000000) (hgL:(ckL L).1=0→Good L) (hgM:(ckL M).1=0→Good M) (hv:(ckL L).1=0→(ckL M).1=0→vS (L.map short) * vS (M.map short)≤10000000)
  (hargs:args.toList.map s.ev++([]:List PV).map .p=[.p (.list (ll L)),.p (.list (ll M))]) :
  DoesE Try.prog o s (fun av H'=>MeetO L M av∧H' = s.H):=by
 have:=call_doesE (ks:=[]) ho hfo (meet_e L M hl hw hl2 hw2 hgL hgM hv) (by rw [hargs]; exact ⟨⟨trivial,rfl⟩,⟨trivial,rfl⟩,trivial⟩) trivial List.nodup_nil (fun k hk=>by cases hk) rfl (by
  rintro r H1 ⟨hb,rfl⟩
  obtain ⟨v,rfl⟩:=hb.pure
  rfl)
 intro C m a w K Q R hK
 refine this C m a w K Q R fun v m' w' av H' ⟨r,H1,⟨e0,e1⟩,e4,e5⟩ R2 hv=>hK v m' w' av H' ⟨?_,?_⟩ R2 hv
 ·obtain ⟨x,rfl⟩:=e0.pure
  rw [e4]; exact e0
 rw [e5,e1]
 simp only [List.map_nil,putM,List.append_nil]
end Go.Proofs.Ytneglephfhiamaa

namespace Go.Proofs.Ytneglephfhiamaa
open Go.Pv
theorem MeetO.sum {l m:List (List Int)} {r:AV} (h:MeetO l m r):∃ (bv:PV) (c:Int × Int),r = .p (.tup [bv,fl c]) ∧
  (((ckL l).1 ≠ 0∧bv = .nil∧c=ckL l)∨((ckL l).1=0∧(ckL m).1 ≠ 0∧bv = .nil∧c=ckL m)∨((ckL l).1=0∧(ckL m).1=0∧((bv = .nil∧c=(9,0)∧12 < tot l + tot m)∨∃ b,MeetF l m b∧bv = .list (ll b)∧c=(0,0)))):=by
 rcases h with ⟨h1,rfl⟩ | ⟨h1,h2,rfl⟩ | ⟨h1,h2,A,lA,B,lB,q,lst,f,iA,iB,g,gt,⟨hn,rfl⟩ | ⟨hn,rfl⟩⟩
 ·exact ⟨_,_,rfl,.inl ⟨h1,rfl,rfl⟩⟩
 ·exact ⟨_,_,rfl,.inr (.inl ⟨h1,h2,rfl,rfl⟩)⟩
 ·exact ⟨_,_,rfl,.inr (.inr ⟨h1,h2,.inl ⟨rfl,rfl,meet_far h1 h2 iA iB g gt hn⟩⟩)⟩
 exact ⟨_,_,rfl,.inr (.inr ⟨h1,h2,.inr ⟨_,meetF h1 h2 iA iB g gt hn,rfl,rfl⟩⟩)⟩
set_option maxHeartbeats 8000000 in
set_option maxRecDepth 20000 in
theorem foldMeets_c (l m:List (List Int)) (w:List Int) (hl:l.length≤100000000000000) (hlw:∀ w∈l,w.length≤100000000000000) (hm:m.length≤100000000000000) (hmw:∀ w∈m,w.length≤100000000000000) (hw:w.length≤100000000000000) :
  FnC Try.prog 7 [.list (ll l),.list (ll m),.list (il w)] (.bool true):=by
 refine fnc_of tab_ok Try.func7 rfl (by kernel_rfl) (by rw [Try.ntmps7]; exact Nat.le_add_left 3 _) ?_; rw [Try.ntmps7]
 refine qm ?_
 refine hk_region fun K hK=>runs_eval tab_ok ?_
 simp only [evz,fl,gp,tab,simprocAttr]
 refine fin_run trivial (hK _ ?_)<;>clear hK K
 refine qa (qm (qm ?_))
 refine hk_region fun K hK=>runs_eval tab_ok ?_
 simp only [evz,fl,gp,tab,simprocAttr]
 refine fin_stop trivial (runs_call (foldBegun_c) rfl rfl rfl (by simp only [dstOk,Nat.reduceLT]) (by repeat (first|exact trivial|constructor)) (runs_eval tab_ok ?_))
 simp only [evz,fl,gp,tab,simprocAttr]
 refine fin_run trivial (hK _ ?_)<;>clear hK K
 refine qa ?_
 refine hk_cond rfl (fun hC1=>?_) (fun hC1=>?_)
 ·(try simp only [nhs] at hC1)
  cases hC1
 (try simp only [nhs] at hC1)
 refine qh (qa (qm (qm ?_)))
 rcases (show lwS l=true∨(lwS l=false∧lwS m=true)∨(lwS l=false∧lwS m=false) by cases lwS l<;>cases lwS m<;>simp) with h1 | ⟨h1,h2⟩ | ⟨h1,h2⟩
 ·refine hk_region fun K hK=>runs_eval tab_ok ?_
  simp only [evz,fl,gp,tab,simprocAttr,il_length]
  refine fin_stop trivial (runs_call ((h1 ▸ longWords_c l hl hlw)) rfl rfl rfl (by simp only [dstOk,Nat.reduceLT]) (by repeat (first|exact trivial|constructor)) (runs_eval tab_ok ?_))
  simp only [evz,fl,gp,tab,simprocAttr,il_length]
  refine fin_run trivial (hK _ ?_)<;>clear hK K
  refine qa ?_
  refine hk_cond rfl (fun hC2=>?_) (fun hC2=>?_)
  ·refine qm ?_
   refine hk_region fun K hK=>runs_eval tab_ok ?_
   simp only [evz,fl,gp,tab,simprocAttr]
   refine fin_run trivial (hK _ ?_)<;>clear hK K
   refine qa (qk (qb ?_))
   simp only [Try.results7,enA,evz,fl,gp,tab,simprocAttr]
   all_goals (first|rfl|(simp; done)|(simp; omega)|trace_state)
  cases hC2
 ·refine hk_region fun K hK=>runs_eval tab_ok ?_
  simp only [evz,fl,gp,tab,simprocAttr,il_length]
  refine fin_stop trivial (runs_call ((h1 ▸ longWords_c l hl hlw)) rfl rfl rfl (by simp only [dstOk,Nat.reduceLT]) (by repeat (first|exact trivial|constructor)) (runs_eval tab_ok ?_))
  simp only [evz,fl,gp,tab,simprocAttr,il_length]
  refine fin_stop trivial (runs_call ((h2 ▸ longWords_c m hm hmw)) rfl rfl rfl (by simp only [dstOk,Nat.reduceLT]) (by repeat (first|exact trivial|constructor)) (runs_eval tab_ok ?_))
  simp only [evz,fl,gp,tab,simprocAttr,il_length]
  refine fin_run trivial (hK _ ?_)<;>clear hK K
  refine qa ?_
  refine hk_cond rfl (fun hC2=>?_) (fun hC2=>?_)
  ·refine qm ?_
   refine hk_region fun K hK=>runs_eval tab_ok ?_
   simp only [evz,fl,gp,tab,simprocAttr]
   refine fin_run trivial (hK _ ?_)<;>clear hK K
   refine qa (qk (qb ?_))
   simp only [Try.results7,enA,evz,fl,gp,tab,simprocAttr]
   all_goals (first|rfl|(simp; done)|(simp; omega)|trace_state)
  cases hC2
 refine hk_region fun K hK=>runs_eval tab_ok ?_
 simp only [evz,fl,gp,tab,simprocAttr,il_length]
 refine fin_stop trivial (runs_call ((h1 ▸ longWords_c l hl hlw)) rfl rfl rfl (by simp only [dstOk,Nat.reduceLT]) (by repeat (first|exact trivial|constructor)) (runs_eval tab_ok ?_))
 simp only [evz,fl,gp,tab,simprocAttr,il_length]
 refine fin_stop trivial (runs_call ((h2 ▸ longWords_c m hm hmw)) rfl rfl rfl (by simp only [dstOk,Nat.reduceLT]) (by repeat (first|exact trivial|constructor)) (runs_eval tab_ok ?_))
 simp only [evz,fl,gp,tab,simprocAttr,il_length]
 refine fin_run trivial (hK _ ?_)<;>clear hK K
 refine qa ?_
 refine hk_cond rfl (fun hC2=>?_) (fun hC2=>?_)
 ·(try simp only [nhs] at hC2)
  refine qm ?_
  refine hk_region fun K hK=>runs_eval tab_ok ?_
  simp only [evz,fl,gp,tab,simprocAttr]
  refine fin_run trivial (hK _ ?_)<;>clear hK K
  refine qa (qk (qb ?_))
  simp only [Try.results7,enA,evz,fl,gp,tab,simprocAttr]
  all_goals (first|rfl|(simp; done)|(simp; omega)|trace_state)
 (try simp only [nhs] at hC2)
 have hwl:w.length≤5000:=by
  have:¬ (w.length:Int) > 5000:=by simpa using hC2
  omega
 obtain ⟨l1,l2⟩:=lw_len h1
 obtain ⟨m1,m2⟩:=lw_len h2
 have gl:=fun h=>ckL_good (L:=l) h
 have gm:=fun h=>ckL_good (L:=m) h
 have hvv:=meet_hv h1 h2
 refine qh (qa (qm ?_))
 refine hk_regE 4 (runs_cut fun K hK=>?_)
 simp only [List.take_succ_cons,List.take_zero]
 refine runs_eval tab_ok ?_
 simp only [evz,fl,gp,tab,simprocAttr]
 refine fin_stop trivial (runs_call (ownLists_c l l1 l2) rfl rfl rfl (by simp only [dstOk,Nat.reduceLT]) (by repeat (first|exact trivial|constructor)) (runs_eval tab_ok ?_))
 simp only [evz,fl,gp,tab,simprocAttr]
 refine fin_stop trivial (runs_call (ownLists_c m m1 m2) rfl rfl rfl (by simp only [dstOk,Nat.reduceLT]) (by repeat (first|exact trivial|constructor)) (runs_eval tab_ok ?_))
 simp only [evz,fl,gp,tab,simprocAttr]
 refine fin_run trivial (hK _ ?_)<;>clear hK K
 refine ⟨_,_,rfl,rfl,by simp only [dstOk,Nat.reduceLT],Meet_E rfl rfl l m l1 l2 m1 m2 gl gm hvv rfl,fun av H' hO=>?_⟩
 obtain ⟨hO,rfl⟩:=hO
 obtain ⟨bv,c,rfl,hcase⟩:=hO.sum
 refine runs_cut fun K hK=>?_
 simp only [List.drop_succ_cons,List.drop_zero]
 refine runs_eval tab_ok ?_
 simp only [evz,fl,gp,tab,simprocAttr]
 refine fin_run trivial (hK _ ?_)<;>clear hK K
 refine qa (qm ?_)
 refine hk_region fun K hK=>runs_eval tab_ok ?_
 simp only [evz,fl,gp,tab,simprocAttr]
 refine fin_stop trivial (runs_call (someWords_c l l1 l2) rfl rfl rfl (by simp only [dstOk,Nat.reduceLT]) (by repeat (first|exact trivial|constructor)) (runs_eval tab_ok ?_))
 simp only [evz,fl,gp,tab,simprocAttr]
 refine fin_run ?_ (hK _ ?_)<;>clear hK K
 ·(first|exact trivial|omega|(simp only [In64] at *; omega)|(simp [In64] at *; omega)|(simp_all; done)|skip)
 refine qa (qm (qm ?_))
 rcases hcase with ⟨c1,rfl,rfl⟩ | ⟨c1,c2,rfl,rfl⟩ | ⟨c1,c2,hcase⟩
 ·refine hk_region fun K hK=>runs_eval tab_ok ?_
  simp only [evz,fl,gp,tab,simprocAttr]
  refine fin_run ?_ (hK _ ?_)<;>clear hK K
  ·(first|exact trivial|omega|(simp only [In64] at *; omega)|(simp [In64] at *; omega)|(simp_all; done)|skip)
  refine qa ?_
  refine hk_cond rfl (fun hC3=>?_) (fun hC3=>?_)
  ·(try simp only [nhs] at hC3)
   exact absurd (by simpa using hC3) c1
  (try simp only [nhs] at hC3)
  refine qh (qa (qm (qm ?_)))
  refine hk_region fun K hK=>runs_eval tab_ok ?_
  simp only [evz,fl,gp,tab,simprocAttr]
  refine fin_run ?_ (hK _ ?_)<;>clear hK K
  ·(first|exact trivial|omega|(simp only [In64] at *; omega)|(simp [In64] at *; omega)|(simp_all; done)|skip)
  refine qa ?_
  refine hk_cond rfl (fun hC4=>?_) (fun hC4=>?_)
  ·(try simp only [nhs] at hC4)
   refine qm ?_
   refine hk_region fun K hK=>runs_eval tab_ok ?_
   simp only [evz,fl,gp,tab,simprocAttr]
   refine fin_run ?_ (hK _ ?_)<;>clear hK K
   ·(first|exact trivial|omega|(simp only [In64] at *; omega)|(simp [In64] at *; omega)|(simp_all; done)|skip)
   refine qa (qk (qb ?_))
   simp only [Try.results7,enA,evz,fl,gp,tab,simprocAttr]
   all_goals (first|rfl|(simp; done)|(simp; omega)|trace_state)
  (try simp only [nhs] at hC4)
  exact absurd (by simpa using hC4) c1
 ·refine hk_region fun K hK=>runs_eval tab_ok ?_
  simp only [evz,fl,gp,tab,simprocAttr]
  refine fin_run ?_ (hK _ ?_)<;>clear hK K
  ·(first|exact trivial|omega|(simp only [In64] at *; omega)|(simp [In64] at *; omega)|(simp_all; done)|skip)
  refine qa ?_
  refine hk_cond rfl (fun hC3=>?_) (fun hC3=>?_)
  ·(try simp only [nhs] at hC3)
   refine hk_region fun K hK=>runs_eval tab_ok ?_
   simp only [evz,fl,gp,tab,simprocAttr]
   refine fin_stop trivial (runs_call (someWords_c m m1 m2) rfl rfl rfl (by simp only [dstOk,Nat.reduceLT]) (by repeat (first|exact trivial|constructor)) (runs_eval tab_ok ?_))
   simp only [evz,fl,gp,tab,simprocAttr]
   refine fin_run ?_ (hK _ ?_)<;>clear hK K
   ·(first|exact trivial|omega|(simp only [In64] at *; omega)|(simp [In64] at *; omega)|(simp_all; done)|skip)
   refine qa (qm (qm ?_))
   refine hk_region fun K hK=>runs_eval tab_ok ?_
   simp only [evz,fl,gp,tab,simprocAttr]
   refine fin_run ?_ (hK _ ?_)<;>clear hK K
   ·(first|exact trivial|omega|(simp only [In64] at *; omega)|(simp [In64] at *; omega)|(simp_all; done)|skip)
   refine qa ?_
   refine hk_cond rfl (fun hC4=>?_) (fun hC4=>?_)
   ·(try simp only [nhs] at hC4)
    refine qm ?_
    refine hk_region fun K hK=>runs_eval tab_ok ?_
    simp only [evz,fl,gp,tab,simprocAttr]
    refine fin_run ?_ (hK _ ?_)<;>clear hK K
    ·(first|exact trivial|omega|(simp only [In64] at *; omega)|(simp [In64] at *; omega)|(simp_all; done)|skip)
    refine qa (qk (qb ?_))
    simp only [Try.results7,enA,evz,fl,gp,tab,simprocAttr]
    all_goals (first|rfl|(simp; done)|(simp; omega)|trace_state)
   (try simp only [nhs] at hC4)
   exact absurd (by simpa using hC4) c2
  (try simp only [nhs] at hC3)
  exact absurd c1 (by simpa using hC3)
 refine hk_region fun K hK=>runs_eval tab_ok ?_
 simp only [evz,fl,gp,tab,simprocAttr]
 refine fin_run ?_ (hK _ ?_)<;>clear hK K
 ·(first|exact trivial|omega|(simp only [In64] at *; omega)|(simp [In64] at *; omega)|(simp_all; done)|skip)
 refine qa ?_
 refine hk_cond rfl (fun hC3=>?_) (fun hC3=>?_)
 ·(try simp only [nhs] at hC3)
  refine hk_region fun K hK=>runs_eval tab_ok ?_
  simp only [evz,fl,gp,tab,simprocAttr]
  refine fin_stop trivial (runs_call (someWords_c m m1 m2) rfl rfl rfl (by simp only [dstOk,Nat.reduceLT]) (by repeat (first|exact trivial|constructor)) (runs_eval tab_ok ?_))
  simp only [evz,fl,gp,tab,simprocAttr]
  refine fin_run ?_ (hK _ ?_)<;>clear hK K
  ·(first|exact trivial|omega|(simp only [In64] at *; omega)|(simp [In64] at *; omega)|(simp_all; done)|skip)
  refine qa (qm (qm ?_))
  refine hk_region fun K hK=>runs_eval tab_ok ?_
  simp only [evz,fl,gp,tab,simprocAttr]
  refine fin_run ?_ (hK _ ?_)<;>clear hK K
  ·(first|exact trivial|omega|(simp only [In64] at *; omega)|(simp [In64] at *; omega)|(simp_all; done)|skip)
  refine qa ?_
  refine hk_cond rfl (fun hC4=>?_) (fun hC4=>?_)
  ·(try simp only [nhs] at hC4)
   exact absurd c2 (by simpa using hC4)
  (try simp only [nhs] at hC4)
  obtain ⟨t1,t2,t3⟩:=lw_no h1
  obtain ⟨t4,t5,t6⟩:=lw_no h2
  refine qh (qa (qm ?_))
  refine hk_region fun K hK=>runs_eval tab_ok ?_
  simp only [evz,fl,gp,tab,simprocAttr]
  refine fin_run trivial (hK _ ?_)<;>clear hK K
  refine qa (qm (qm ?_))
  refine hk_region fun K hK=>runs_eval tab_ok ?_
  simp only [evz,fl,gp,tab,simprocAttr]
  refine fin_run trivial (hK _ ?_)<;>clear hK K
  refine qa (ql ?_)
  refine hk_loop (ι:=Nat) (fun k=>⟨188,[(0,.p (.list (ll l))),(1,.p (.list (ll m))),(2,.p (.list (il w))),(7,.p bv),(8,.ptr 0 0),(10,.p (.int .i64 ((tot (l.take k):Nat):Int))),(11,.p (.int .i64 (k:Nat)))],[.own [.p (.int .i64 c.1),.p (.int .i64 c.2)]]⟩) (fun k=>k≤l.length) (fun k=>l.length - k) 0 (Nat.zero_le _) [0] (by simp only [leq,leA,evz,fl,gp,tab,simprocAttr]<;>first|trivial|exact ⟨rfl,trivial⟩|trace_state) fun k hk=>?_
  refine qm (qm ?_)
  refine hk_region fun K hK=>runs_eval tab_ok ?_
  simp only [evz,fl,gp,tab,simprocAttr,ll_length]
  refine fin_run trivial (hK _ ?_)<;>clear hK K
  refine qa ?_
  refine hk_cond rfl (fun hC5=>?_) (fun hC5=>?_)
  ·(try simp only [nhs] at hC5)
   have hk:k < l.length:=by omega
   have htb:=tot_tk l (k + 1)
   have hte:tot (l.take (k + 1))=tot (l.take k) + (l.getD k []).length:=by rw [take_snoc (d:=[]) hk,tot_sn]
   refine qh (qa (qm (ql ?_)))
   refine hk_region fun K hK=>runs_eval tab_ok ?_
   simp only [evz,fl,gp,tab,simprocAttr,ll_length,ll_get hk,il_length]
   refine fin_run ?_ (hK _ ?_)<;>clear hK K
   ·exact ⟨by omega,by simp only [In64]; omega⟩
   refine qd (qa ?_)
   refine hk_region fun K hK=>runs_eval tab_ok ?_
   simp only [evz,fl,gp,tab,simprocAttr]
   refine fin_run ?_ (hK _ ?_)<;>clear hK K
   ·(first|exact trivial|omega|(simp only [In64] at *; omega)|(simp [In64] at *; omega)|(simp_all; done)|skip)
   refine qa ?_
   have e:((tot (l.take k):Nat):Int) + ((l.getD k []).length:Nat)=((tot (l.take (k + 1)):Nat):Int):=by omega
   rw [e]
   refine ⟨k + 1,[0],by omega,by omega,by simp only [leq,leA,evz,fl,gp,tab,simprocAttr]<;>first|trivial|exact ⟨rfl,trivial⟩|trace_state⟩
  (try simp only [nhs] at hC5)
  have hk:k=l.length:=by omega
  rw [hk,List.take_length]
  refine qj (qc (qc (qf (qa (qm (qm ?_))))))
  refine hk_region fun K hK=>runs_eval tab_ok ?_
  simp only [evz,fl,gp,tab,simprocAttr]
  refine fin_run trivial (hK _ ?_)<;>clear hK K
  refine qa (ql ?_)
  refine hk_loop (ι:=Nat) (fun k=>⟨188,[(0,.p (.list (ll l))),(1,.p (.list (ll m))),(2,.p (.list (il w))),(7,.p bv),(8,.ptr 0 0),(10,.p (.int .i64 ((tot l + tot (m.take k):Nat):Int))),(12,.p (.int .i64 (k:Nat)))],[.own [.p (.int .i64 c.1),.p (.int .i64 c.2)]]⟩) (fun k=>k≤m.length) (fun k=>m.length - k) 0 (Nat.zero_le _) [0] (by simp only [leq,leA,evz,fl,gp,tab,simprocAttr]<;>first|trivial|exact ⟨rfl,trivial⟩|trace_state) fun k hk=>?_
  refine qm (qm ?_)
  refine hk_region fun K hK=>runs_eval tab_ok ?_
  simp only [evz,fl,gp,tab,simprocAttr,ll_length]
  refine fin_run trivial (hK _ ?_)<;>clear hK K
  refine qa ?_
  refine hk_cond rfl (fun hC6=>?_) (fun hC6=>?_)
  ·(try simp only [nhs] at hC6)
   have hk:k < m.length:=by omega
   have htb:=tot_tk m (k + 1)
   have hte:tot (m.take (k + 1))=tot (m.take k) + (m.getD k []).length:=by rw [take_snoc (d:=[]) hk,tot_sn]
   refine qh (qa (qm (ql ?_)))
   refine hk_region fun K hK=>runs_eval tab_ok ?_
   simp only [evz,fl,gp,tab,simprocAttr,ll_length,ll_get hk,il_length]
   refine fin_run ?_ (hK _ ?_)<;>clear hK K
   ·exact ⟨by omega,by simp only [In64]; omega⟩
   refine qd (qa ?_)
   refine hk_region fun K hK=>runs_eval tab_ok ?_
   simp only [evz,fl,gp,tab,simprocAttr]
   refine fin_run ?_ (hK _ ?_)<;>clear hK K
   ·(first|exact trivial|omega|(simp only [In64] at *; omega)|(simp [In64] at *; omega)|(simp_all; done)|skip)
   refine qa ?_
   have e:((tot l + tot (m.take k):Nat):Int) + ((m.getD k []).length:Nat)=((tot l + tot (m.take (k + 1)):Nat):Int):=by omega
   rw [e]
   refine ⟨k + 1,[0],by omega,by omega,by simp only [leq,leA,evz,fl,gp,tab,simprocAttr]<;>first|trivial|exact ⟨rfl,trivial⟩|trace_state⟩
  (try simp only [nhs] at hC6)
  have hk:k=m.length:=by omega
  rw [hk,List.take_length]
  refine qj (qc (qc (qf (qa (qm (qm ?_))))))
  rcases hcase with ⟨rfl,rfl,hfar⟩ | ⟨b,hb,rfl,rfl⟩
  ·refine hk_region fun K hK=>runs_eval tab_ok ?_
   simp only [evz,fl,gp,tab,simprocAttr]
   refine fin_run ?_ (hK _ ?_)<;>clear hK K
   ·(first|exact trivial|omega|(simp only [In64] at *; omega)|(simp [In64] at *; omega)|(simp_all; done)|skip)
   refine qa ?_
   refine hk_cond rfl (fun hC7=>?_) (fun hC7=>?_)
   ·(try simp only [nhs] at hC7)
    refine qm ?_
    refine hk_draw mixed (by kernel_rfl) fun K hK=>runs_eval tab_ok ?_
    simp only [evz,fl,gp,tab,simprocAttr]
    refine fin_stop trivial (runs_call (f_c 9 0) rfl rfl rfl (by simp only [dstOk,Nat.reduceLT]) (by repeat (first|exact trivial|constructor)) (runs_eval tab_ok ?_))
    simp only [evz,fl,gp,tab,simprocAttr]
    refine fin_run ?_ (hK _ ?_)<;>clear hK K
    ·(first|exact trivial|omega|(simp only [In64] at *; omega)|(simp [In64] at *; omega)|(simp_all; done)|skip)
    refine qa (qk (qb ?_))
    simp only [Try.results7,enA,evz,fl,gp,tab,simprocAttr]
    all_goals (first|rfl|(simp; done)|(simp; omega)|trace_state)
   (try simp only [nhs] at hC7)
   simp at hC7
  refine hk_region fun K hK=>runs_eval tab_ok ?_
  simp only [evz,fl,gp,tab,simprocAttr]
  refine fin_run ?_ (hK _ ?_)<;>clear hK K
  ·(first|exact trivial|omega|(simp only [In64] at *; omega)|(simp [In64] at *; omega)|(simp_all; done)|skip)
  refine qa ?_
  refine hk_cond rfl (fun hC7=>?_) (fun hC7=>?_)
  ·(try simp only [nhs] at hC7)
   simp at hC7
  (try simp only [nhs] at hC7)
  refine qh (qa (qm ?_))
  obtain ⟨f1,f2,f3⟩:=ckL_fold c1
  obtain ⟨e1,e2,e3⟩:=ckL_fold c2
  obtain ⟨s1,s2,s3⟩:=folded_spec fun v hv=>(f1 v hv).1
  obtain ⟨s4,s5,s6⟩:=folded_spec fun v hv=>(e1 v hv).1
  refine hk_region fun K hK=>runs_eval tab_ok ?_
  simp only [evz,fl,gp,tab,simprocAttr]
  refine fin_stop trivial (runs_call (folded_c l f1 f2 f3) rfl rfl rfl (by simp only [dstOk,Nat.reduceLT]) (by repeat (first|exact trivial|constructor)) (runs_eval tab_ok ?_))
  simp only [evz,fl,gp,tab,simprocAttr]
  refine fin_stop trivial (runs_call (folded_c m e1 e2 e3) rfl rfl rfl (by simp only [dstOk,Nat.reduceLT]) (by repeat (first|exact trivial|constructor)) (runs_eval tab_ok ?_))
  simp only [evz,fl,gp,tab,simprocAttr]
  refine fin_run trivial (hK _ ?_)<;>clear hK K
  refine qa (qm (qm ?_))
  have hbk:ckL b=(0,0):=ckL_mk hb.len (fun w hw=>(hb.ok w hw).1) hb.tot
  have hbl:=hb.len
  have hbt:=hb.tot
  have hsw:FnC Try.prog 18 [.list (ll b)] (fl (0,0)):=by
   have:=someWords_c b (by omega) (fun w hw=>by have:=tot_mem hw; omega)
   rwa [hbk] at this
  have hfl:∀ k:List (List Int),(ckL k).1=0→lwS k=false→(folded k).length≤400:=fun k c h=>by
   have a1:=folded_len k fun w hw=>((ckL_fold c).1 w hw).1
   have a2:=tot_short k
   obtain ⟨_,_,t⟩:=lw_no h
   have:tot k≤120:=Nat.le_of_not_lt fun h=>t h c
   omega
  have hmr:=meetRank_c (folded l) (folded m) (hfl l c1 h1) (hfl m c2 h2) s2 s5 s3 s6 s1.fe.pos s4.fe.pos s1.let26
  rw [hb.rank] at hmr
  refine hk_region fun K hK=>runs_eval tab_ok ?_
  simp only [evz,fl,gp,tab,simprocAttr,ll_length,bne_self_eq_false]
  refine fin_stop trivial (runs_call (hsw) rfl rfl rfl (by simp only [dstOk,Nat.reduceLT]) (by repeat (first|exact trivial|constructor)) (runs_eval tab_ok ?_))
  simp only [evz,fl,gp,tab,simprocAttr,ll_length,bne_self_eq_false]
  refine fin_stop trivial (runs_call (hmr) rfl rfl rfl (by simp only [dstOk,Nat.reduceLT]) (by repeat (first|exact trivial|constructor)) (runs_eval tab_ok ?_))
  simp only [evz,fl,gp,tab,simprocAttr,ll_length,bne_self_eq_false]
  refine fin_run trivial (hK _ ?_)<;>clear hK K
  refine qa ?_
  refine hk_cond rfl (fun hC8=>?_) (fun hC8=>?_)
  ·(try simp only [nhs] at hC8)
   simp at hC8
  (try simp only [nhs] at hC8)
  refine qh (qa (qm ?_))
  refine hk_region fun K hK=>runs_eval tab_ok ?_
  simp only [evz,fl,gp,tab,simprocAttr]
  refine fin_run trivial (hK _ ?_)<;>clear hK K
  refine qa (qm (qm ?_))
  refine hk_region fun K hK=>runs_eval tab_ok ?_
  simp only [evz,fl,gp,tab,simprocAttr]
  refine fin_run trivial (hK _ ?_)<;>clear hK K
  refine qa (ql ?_)
  refine hk_loop (ι:=Nat) (fun k=>⟨188,[(2,.p (.list (il w))),(7,.p (.list (ll b))),(13,.p (.list (wl (folded l)))),(14,.p (.list (wl (folded m)))),(15,.p (.int .i64 ((tot (b.take k):Nat):Int))),(16,.p (.int .i64 (k:Nat)))],[]⟩) (fun k=>k≤b.length) (fun k=>b.length - k) 0 (Nat.zero_le _) [] (by simp only [leq,leA,evz,fl,gp,tab,simprocAttr]<;>first|trivial|exact ⟨rfl,trivial⟩|trace_state) fun k hk=>?_
  refine qm (qm ?_)
  refine hk_region fun K hK=>runs_eval tab_ok ?_
  simp only [evz,fl,gp,tab,simprocAttr,ll_length]
  refine fin_run trivial (hK _ ?_)<;>clear hK K
  refine qa ?_
  refine hk_cond rfl (fun hC9=>?_) (fun hC9=>?_)
  ·(try simp only [nhs] at hC9)
   have hi:k < b.length:=by omega
   have htb:=tot_tk b (k + 1)
   have hte:tot (b.take (k + 1))=tot (b.take k) + (b.getD k []).length:=by rw [take_snoc (d:=[]) hi,tot_sn]
   obtain ⟨v,hv⟩:∃ v,b.getD k []=v:=⟨_,rfl⟩
   have hvm:v∈b:=by rw [← hv,List.getD_eq_getElem?_getD,List.getElem?_eq_getElem hi]; exact List.getElem_mem hi
   obtain ⟨o1,o2⟩:=hb.ok v hvm
   obtain ⟨o3,o4⟩:=hb.inn v hvm
   have hvl:v.length≤2000:=by have:=tot_mem hvm; omega
   have hin:=ints_c v v (by omega)
   rw [decide_eq_true rfl] at hin
   have hrd:=reduced_c v (by omega) o1.sm
   rw [short_red o2] at hrd
   have hw1:=within_c (folded l) v (ckL_flen c1) (by omega) o1.sm
   rw [within_mem s1 s2,o3] at hw1
   have hw2:=within_c (folded m) v (ckL_flen c2) (by omega) o1.sm
   rw [within_mem s4 s5,o4] at hw2
   refine qh (qa (qm (ql (qm (qm ?_)))))
   refine hk_draw mixed (by kernel_rfl) fun K hK=>runs_eval tab_ok ?_
   simp only [evz,fl,gp,tab,simprocAttr,ll_length,ll_get hi,hv]
   refine fin_stop ?_ (runs_call (hrd) rfl rfl rfl (by simp only [dstOk,Nat.reduceLT]) (by repeat (first|exact trivial|constructor)) (runs_eval tab_ok ?_))
   ·omega
   simp only [evz,fl,gp,tab,simprocAttr,ll_length,ll_get hi,hv]
   refine fin_stop ?_ (runs_call (hin) rfl rfl rfl (by simp only [dstOk,Nat.reduceLT]) (by repeat (first|exact trivial|constructor)) (runs_eval tab_ok ?_))
   ·omega
   simp only [evz,fl,gp,tab,simprocAttr,ll_length,ll_get hi,hv]
   refine fin_stop ?_ (runs_call (hw1) rfl rfl rfl (by simp only [dstOk,Nat.reduceLT]) (by repeat (first|exact trivial|constructor)) (runs_eval tab_ok ?_))
   ·omega
   simp only [evz,fl,gp,tab,simprocAttr,ll_length,ll_get hi,hv]
   refine fin_stop ?_ (runs_call (hw2) rfl rfl rfl (by simp only [dstOk,Nat.reduceLT]) (by repeat (first|exact trivial|constructor)) (runs_eval tab_ok ?_))
   ·omega
   simp only [evz,fl,gp,tab,simprocAttr,ll_length,ll_get hi,hv]
   refine fin_run ?_ (hK _ ?_)<;>clear hK K
   ·first|trivial|omega
   refine qa ?_
   refine hk_cond rfl (fun hC10=>?_) (fun hC10=>?_)
   ·(try simp only [nhs] at hC10)
    cases hC10
   (try simp only [nhs] at hC10)
   refine qh (qa ?_)
   refine hk_region fun K hK=>runs_eval tab_ok ?_
   simp only [evz,fl,gp,tab,simprocAttr,ll_length,ll_get hi,hv,il_length]
   refine fin_run ?_ (hK _ ?_)<;>clear hK K
   ·first|(exact ⟨by omega,by rw [hv] at hte; simp only [In64]; omega⟩)|trace_state
   refine qd (qa ?_)
   refine hk_region fun K hK=>runs_eval tab_ok ?_
   simp only [evz,fl,gp,tab,simprocAttr]
   refine fin_run ?_ (hK _ ?_)<;>clear hK K
   ·(first|exact trivial|omega|(simp only [In64] at *; omega)|(simp [In64] at *; omega)|(simp_all; done)|skip)
   refine qa ?_
   rw [hv] at hte
   have e:((tot (b.take k):Nat):Int) + (v.length:Nat)=((tot (b.take (k + 1)):Nat):Int):=by omega
   rw [e]
   refine ⟨k + 1,[],by omega,by omega,by simp only [leq,leA,evz,fl,gp,tab,simprocAttr]<;>first|trivial|exact ⟨rfl,trivial⟩|trace_state⟩
  (try simp only [nhs] at hC9)
  have hk:k=b.length:=by omega
  rw [hk,List.take_length]
  refine qj (qc (qc (qf (qa (qm (qm ?_))))))
  by_cases g32a:(tot b:Int) > 300
  ·refine hk_region fun K hK=>runs_eval tab_ok ?_
   simp only [evz,fl,gp,tab,simprocAttr,decide_eq_true g32a]
   refine fin_run trivial (hK _ ?_)<;>clear hK K
   refine qa ?_
   refine hk_cond rfl (fun hC11=>?_) (fun hC11=>?_)
   ·refine qm ?_
    refine hk_region fun K hK=>runs_eval tab_ok ?_
    simp only [evz,fl,gp,tab,simprocAttr]
    refine fin_run trivial (hK _ ?_)<;>clear hK K
    refine qa (qk (qb ?_))
    simp only [Try.results7,enA,evz,fl,gp,tab,simprocAttr]
    all_goals (first|rfl|(simp; done)|(simp; omega)|trace_state)
   cases hC11
  refine hk_region fun K hK=>runs_eval tab_ok ?_
  simp only [evz,fl,gp,tab,simprocAttr,decide_eq_false g32a]
  refine fin_stop trivial (runs_call (wordFault_c w) rfl rfl rfl (by simp only [dstOk,Nat.reduceLT]) (by repeat (first|exact trivial|constructor)) (runs_eval tab_ok ?_))
  simp only [evz,fl,gp,tab,simprocAttr,decide_eq_false g32a]
  refine fin_run trivial (hK _ ?_)<;>clear hK K
  refine qa ?_
  refine hk_cond rfl (fun hC11=>?_) (fun hC11=>?_)
  ·(try simp only [nhs] at hC11)
   refine qm ?_
   refine hk_region fun K hK=>runs_eval tab_ok ?_
   simp only [evz,fl,gp,tab,simprocAttr]
   refine fin_run trivial (hK _ ?_)<;>clear hK K
   refine qa (qk (qb ?_))
   simp only [Try.results7,enA,evz,fl,gp,tab,simprocAttr]
   all_goals (first|rfl|(simp; done)|(simp; omega)|trace_state)
  (try simp only [nhs] at hC11)
  have hwc:(check w).1=0:=by simpa using hC11
  obtain ⟨b1,b2,b3⟩:=ckL_fold (L:=b) (by rw [hbk])
  obtain ⟨s7,s8,s9⟩:=folded_spec fun v hv=>(b1 v hv).1
  obtain ⟨v1,v2,v3,v4⟩:=ckL_cnt (L:=b) (by rw [hbk])
  have hpl:((plS (folded b)).map Int.ofNat).length=vS (b.map short):=by rw [List.length_map,v1]
  have hE:(eS (b.map short):Int) - (vS (b.map short):Int) + 1=(b.length:Int):=hb.fold
  have hwm:=(check_ok hwc).1.sm
  have hw1:=within_c (folded l) w (ckL_flen c1) (by omega) hwm
  rw [within_mem s1 s2] at hw1
  have hw2:=within_c (folded m) w (ckL_flen c2) (by omega) hwm
  rw [within_mem s4 s5] at hw2
  have hw3:=within_c (folded b) w (ckL_flen (by rw [hbk])) (by omega) hwm
  rw [within_mem s7 s8,hb.mem] at hw3
  refine qh (qa (qm ?_))
  refine hk_region fun K hK=>runs_eval tab_ok ?_
  simp only [evz,fl,gp,tab,simprocAttr]
  refine fin_stop trivial (runs_call (folded_c b b1 b2 b3) rfl rfl rfl (by simp only [dstOk,Nat.reduceLT]) (by repeat (first|exact trivial|constructor)) (runs_eval tab_ok ?_))
  simp only [evz,fl,gp,tab,simprocAttr]
  refine fin_run trivial (hK _ ?_)<;>clear hK K
  refine qa (qm (qm ?_))
  refine hk_region fun K hK=>runs_eval tab_ok ?_
  simp only [evz,fl,gp,tab,simprocAttr,wl_len,il_length,hpl,v2,hE,ll_length,bne_self_eq_false]
  refine fin_stop trivial (runs_call (places_c (folded b) (ckL_flen (by rw [hbk]))) rfl rfl rfl (by simp only [dstOk,Nat.reduceLT]) (by repeat (first|exact trivial|constructor)) (runs_eval tab_ok ?_))
  simp only [evz,fl,gp,tab,simprocAttr,wl_len,il_length,hpl,v2,hE,ll_length,bne_self_eq_false]
  refine fin_run ?_ (hK _ ?_)<;>clear hK K
  ·first|trivial|(refine ⟨?_,?_⟩<;>(simp only [In64]; omega))|trace_state
  refine qa ?_
  refine hk_cond rfl (fun hC12=>?_) (fun hC12=>?_)
  ·(try simp only [nhs] at hC12)
   cases hC12
  (try simp only [nhs] at hC12)
  refine qh (qa (qm ?_))
  cases hmb:memB l w
  ·refine hk_region fun K hK=>runs_eval tab_ok ?_
   simp only [evz,fl,gp,tab,simprocAttr,hmb,Bool.true_and,Bool.false_and]
   refine fin_stop trivial (runs_call (hw3) rfl rfl rfl (by simp only [dstOk,Nat.reduceLT]) (by repeat (first|exact trivial|constructor)) (runs_eval tab_ok ?_))
   simp only [evz,fl,gp,tab,simprocAttr,hmb,Bool.true_and,Bool.false_and]
   refine fin_stop trivial (runs_call ((hmb ▸ hw1)) rfl rfl rfl (by simp only [dstOk,Nat.reduceLT]) (by repeat (first|exact trivial|constructor)) (runs_eval tab_ok ?_))
   simp only [evz,fl,gp,tab,simprocAttr,hmb,Bool.true_and,Bool.false_and]
   refine fin_run trivial (hK _ ?_)<;>clear hK K
   refine qa (qk ?_)
   simp only [Try.results7,enA,evz,fl,gp,tab,simprocAttr]
   all_goals (first|rfl|(simp; done)|(simp; omega)|trace_state)
  refine hk_region fun K hK=>runs_eval tab_ok ?_
  simp only [evz,fl,gp,tab,simprocAttr,hmb,Bool.true_and,Bool.false_and]
  refine fin_stop trivial (runs_call (hw3) rfl rfl rfl (by simp only [dstOk,Nat.reduceLT]) (by repeat (first|exact trivial|constructor)) (runs_eval tab_ok ?_))
  simp only [evz,fl,gp,tab,simprocAttr,hmb,Bool.true_and,Bool.false_and]
  refine fin_stop trivial (runs_call ((hmb ▸ hw1)) rfl rfl rfl (by simp only [dstOk,Nat.reduceLT]) (by repeat (first|exact trivial|constructor)) (runs_eval tab_ok ?_))
  simp only [evz,fl,gp,tab,simprocAttr,hmb,Bool.true_and,Bool.false_and]
  refine fin_stop trivial (runs_call (hw2) rfl rfl rfl (by simp only [dstOk,Nat.reduceLT]) (by repeat (first|exact trivial|constructor)) (runs_eval tab_ok ?_))
  simp only [evz,fl,gp,tab,simprocAttr,hmb,Bool.true_and,Bool.false_and]
  refine fin_run trivial (hK _ ?_)<;>clear hK K
  refine qa (qk ?_)
  simp only [Try.results7,enA,evz,fl,gp,tab,simprocAttr]
  all_goals (first|rfl|(simp; done)|(simp; omega)|trace_state)
 (try simp only [nhs] at hC3)
 exact absurd c1 (by simpa using hC3)
end Go.Proofs.Ytneglephfhiamaa
