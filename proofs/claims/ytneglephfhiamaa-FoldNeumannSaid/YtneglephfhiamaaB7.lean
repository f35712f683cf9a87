/-
  Texts of this proof, one behind the other: what each says stands at its head. Conditions: none.
-/
import Derived.Test.YtneglephfhiamaaB6
import Derived.Test.YtneglephfhiamaaB5

set_option linter.all false
namespace Go.Proofs.Ytneglephfhiamaa
open Go.Pv
def MeetO (L M : List (List Int)) (r : AV) : Prop :=
  ((ckL L).1 ≠ 0 ∧ r = .p (.tup [.nil, fl (ckL L)])) ∨ ((ckL L).1 = 0 ∧ (ckL M).1 ≠ 0 ∧ r = .p (.tup [.nil, fl (ckL M)])) ∨
  ((ckL L).1 = 0 ∧ (ckL M).1 = 0 ∧ ∃ A lA B lB q lst f, IsC (L.map short) A lA ∧ IsC (M.map short) B lB ∧ PG A B q ∧ GT (stQ A B q) lst f ∧
    (((20 < (basS (stQ A B q) lst f).length ∨ 2000 < tot (basS (stQ A B q) lst f)) ∧ r = .p (.tup [.nil, fl (9, 0)])) ∨
     (¬ (20 < (basS (stQ A B q) lst f).length ∨ 2000 < tot (basS (stQ A B q) lst f)) ∧ r = .p (.tup [.list (ll (basS (stQ A B q) lst f)), fl (0, 0)]))))
theorem hget_P {A B:List Mp} {Ua Ub:List Int} {T:Heap} {j:Nat} (h:A.length + B.length + 7≤j):hget (P3 A Ua B Ub++T) j=hget T (j - (A.length + B.length + 7)):=by
 rw [hget_app2 (by rw [P3_len]; exact h),P3_len]
theorem hset_P {A B:List Mp} {Ua Ub:List Int} {T:Heap} {b c:Blk} : hset (P3 A Ua B Ub++(b :: T)) (A.length + B.length + 7) c=P3 A Ua B Ub++(c :: T):=by
 rw [hset_eq,List.set_append_right _ _ (by rw [P3_len]; exact Nat.le_refl _),P3_len,Nat.sub_self]; rfl
theorem tot_leK {k:Nat} : ∀ {l:List (List Int)},(∀ w∈l,w.length≤k)→tot l≤l.length * k
 | [],_=>by simp [tot]
 | w :: l,h=>by
  have h1:=tot_leK (l:=l) fun v hv=>h v (by simp [hv])
  have h2:=h w (by simp)
  unfold tot at h1 ⊢
  rw [List.flatten_cons,List.length_append,List.length_cons,Nat.add_mul]
  omega
theorem bas_big {st:Nat→Int→Option Nat} {lst:List Nat} {f:Wy} (g:GT st lst f) {N:Nat} (hN:lst.length≤N):tot (basS st lst f)≤N * 53 * (2 * N + 1)∧(basS st lst f).length≤N * 53:=by
 have wl:∀ u∈lst,(wy f u).length≤N:=fun u hu=>by
  obtain ⟨i,hi,rfl⟩:=ix_of hu
  have:=g.wy_len i i (Nat.le_refl _) hi
  omega
 have hw:∀ w∈basS st lst f,w.length≤2 * N + 1:=fun w hw=>by
  obtain ⟨e,he,rfl,_⟩:=basS_mem.1 hw
  have h1:=bw_cst (step:=st) (f:=f) e
  unfold cst at h1
  have h2:=PE_st g he
  have h3:=wl _ h2.1
  have h4:=wl _ h2.2.2.2
  omega
 have h1:=tot_leK hw
 have h2:(basS st lst f).length≤N * 53:=by
  have e1:(basS st lst f).length≤(PE st lst).length:=by
   unfold basS
   refine Nat.le_trans (List.length_filter_le _ _) ?_
   rw [List.length_map]
   exact Nat.le_refl _
  have e2:(PE st lst).length≤lst.length * 53:=by
   unfold PE
   rw [flat_len]
   refine sum_le1 _ 53 lst fun u _=>?_
   rw [List.length_map]
   refine Nat.le_trans (List.length_filter_le _ _) ?_
   unfold ltS
   refine Nat.le_trans (List.length_filter_le _ _) ?_
   simp
  have e3:lst.length * 53≤N * 53:=Nat.mul_le_mul_right _ hN
  omega
 exact ⟨Nat.le_trans h1 (Nat.mul_le_mul_right _ h2),h2⟩
structure MS where
 i:Nat
 Ua:List Int
 Ub:List Int
 f:Mp
 q:List (Nat × Nat)
 G:List Mp
 U:List Int
structure MIv (Ga Gb:List Mp) (Ua Ub:List Int) (z:MS) (dn:Nat→Int→Prop):Prop where
 wa:WG Ga z.Ua
 ra:∀ u,u < Ga.length→rV z.Ua u=rV Ua u
 wb:WG Gb z.Ub
 rb:∀ u,u < Gb.length→rV z.Ub u=rV Ub u
 mx:MX (stR Ga Ua) (stR Gb Ub) z.q z.f z.G z.U dn
set_option maxHeartbeats 16000000 in
set_option maxRecDepth 20000 in
theorem meet_e (L M:List (List Int)) (hl:L.length≤1000000000) (hw:∀ w∈L,w.length≤1000000000) (hl2:M.length≤1000000000) (hw2:∀ w∈M,w.length≤1000000000) (hgL:(ckL L).1=0→Good L) (hgM:(ckL M).1=0→Good M) (hv:(ckL L).1=0→(ckL M).1=0→vS (L.map short) * vS (M.map short)≤10000000) :
  FnE Try.prog 31 [.p (.list (ll L)),.p (.list (ll M))] [] (fun r H'=>MeetO L M r∧H' = []):=by
 obtain ⟨Post,hP⟩:∃ Post:AV→Heap→Prop,Post=(fun r H'=>MeetO L M r∧H' = []):=⟨_,rfl⟩
 rw [← hP]
 refine fne_of tab_ok Try.func31 rfl (by kernel_rfl) (by rw [Try.ntmps31]; exact Nat.le_add_left 2 _) ?_; rw [Try.ntmps31]; simp only [ancs,entA,List.length_cons,List.length_nil,List.cons_append,List.nil_append,Nat.reduceAdd,Nat.zero_add]
 refine qm ?_
 refine hk_region fun K hK=>runs_eval tab_ok ?_
 simp only [ev0,evA,evB,evP,fl,gp,tab,simprocAttr]
 refine fin_run ?_ (hK _ ?_)<;>clear hK<;>clear K
 ·(first|exact trivial|omega|(simp only [In64] at *; omega)|(simp [In64] at *; omega)|(simp_all; done)|skip)
 refine qa (qm (qm ?_))
 refine hk_region fun K hK=>runs_eval tab_ok ?_
 simp only [ev0,evA,evB,evP,fl,gp,tab,simprocAttr]
 refine fin_run ?_ (hK _ ?_)<;>clear hK<;>clear K
 ·(first|exact trivial|omega|(simp only [In64] at *; omega)|(simp [In64] at *; omega)|(simp_all; done)|skip)
 refine qa (ql ?_)
 refine hk_loop (ι:=Nat) (fun i=>⟨164,[(0,.p (.list (ll L))),(1,.p (.list (ll M))),(5,.ptr 0 0),(30,.p (.nn [.list (ll L),.list (ll M)])),(31,.p (.int .i64 2)),(32,.p (.int .i64 (i:Nat)))],[.own [.p (.int .i64 0),.p (.int .i64 0)]]⟩) (fun i=>i≤2∧(1≤i→(ckL L).1=0)∧(2≤i→(ckL M).1=0)) (fun i=>2 - i) 0 ⟨by omega,fun h=>by omega,fun h=>by omega⟩ [0] (by simp only [leq,leA,ev0,evA,evB,evP,fl,gp,tab,simprocAttr]<;>trivial) fun i hi=>?_
 obtain ⟨q1,q2,q3⟩:=hi
 refine qm ?_
 refine hk_region fun K hK=>runs_eval tab_ok ?_
 simp only [ev0,evA,evB,evP,fl,gp,tab,simprocAttr]
 refine fin_run trivial (hK _ ?_)<;>clear hK<;>clear K
 refine qa (qm ?_)
 refine hk_cond rfl (fun hC1=>?_) (fun hC1=>?_)
 ·(try simp only [nhs] at hC1)
  have hi:i < 2:=by omega
  obtain ⟨A,hA⟩:∃ A,(if i=0 then L else M)=A:=⟨_,rfl⟩
  have hx:([PV.list (ll L),PV.list (ll M)]:List PV).getD i default = .list (ll A):=by
   rw [← hA]
   match i,hi with
   | 0,_=>rfl
   | 1,_=>rfl
  have hAl:A.length≤1000000000:=by rw [← hA]; split<;>assumption
  have hAw:∀ w∈A,w.length≤1000000000:=by rw [← hA]; split<;>assumption
  refine qh (qa (qm (ql (qm ?_))))
  refine hk_region fun K hK=>runs_eval tab_ok ?_
  simp only [ev0,evA,evB,evP,fl,gp,tab,simprocAttr,hx]
  refine fin_run ?_ (hK _ ?_)<;>clear hK<;>clear K
  ·exact ⟨by omega,by omega⟩
  refine qa (qm ?_)
  refine hk_region fun K hK=>runs_eval tab_ok ?_
  simp only [ev0,evA,evB,evP,fl,gp,tab,simprocAttr]
  refine fin_stop trivial (runs_call (checkL_c A hAl hAw) rfl rfl rfl (by simp only [dstOk,Nat.reduceLT]) (by repeat (first|exact trivial|constructor)) (runs_eval tab_ok ?_))
  simp only [ev0,evA,evB,evP,fl,gp,tab,simprocAttr]
  refine fin_run ?_ (hK _ ?_)<;>clear hK<;>clear K
  ·(first|exact trivial|omega|(simp only [In64] at *; omega)|(simp [In64] at *; omega)|(simp_all; done)|skip)
  refine qa (qm ?_)
  refine hk_region fun K hK=>runs_eval tab_ok ?_
  simp only [ev0,evA,evB,evP,fl,gp,tab,simprocAttr]
  refine fin_run ?_ (hK _ ?_)<;>clear hK<;>clear K
  ·(first|exact trivial|omega|(simp only [In64] at *; omega)|(simp [In64] at *; omega)|(simp_all; done)|skip)
  refine qa ?_
  refine hk_cond rfl (fun hC2=>?_) (fun hC2=>?_)
  ·(try simp only [nhs] at hC2)
   have h1:(ckL A).1 ≠ 0:=hC2
   refine qm ?_
   refine hk_draw mixed (by kernel_rfl) fun K hK=>runs_eval tab_ok ?_
   simp only [ev0,evA,evB,evP,fl,gp,tab,simprocAttr]
   refine fin_run ?_ (hK _ ?_)<;>clear hK<;>clear K
   ·(first|exact trivial|omega|(simp only [In64] at *; omega)|(simp [In64] at *; omega)|(simp_all; done)|skip)
   refine qa (qk (qe (qb (qb (qe (qb ?_))))))
   simp only [Try.results31,PostG,endG,rvsA,rvA,mkTup,ev0,evA,evB,evP,fl,gp,tab,simprocAttr]
   refine ⟨.p (.tup [.nil,fl (ckL A)]),[],?_,[],rfl,rfl,⟨rfl,List.nodup_nil,trivial,trivial⟩⟩
   rw [hP]
   refine ⟨?_,rfl⟩
   by_cases h:i=0
   ·rw [if_pos h] at hA
    rw [← hA] at h1 ⊢
    exact .inl ⟨h1,rfl⟩
   ·rw [if_neg h] at hA
    rw [← hA] at h1 ⊢
    exact .inr (.inl ⟨q2 (by omega),h1,rfl⟩)
  ·(try simp only [nhs] at hC2)
   have h1:(ckL A).1=0:=by simpa using hC2
   refine qh (qd (qa ?_))
   refine hk_region fun K hK=>runs_eval tab_ok ?_
   simp only [ev0,evA,evB,evP,fl,gp,tab,simprocAttr]
   refine fin_run ?_ (hK _ ?_)<;>clear hK<;>clear K
   ·(first|exact trivial|omega|(simp only [In64] at *; omega)|(simp [In64] at *; omega)|(simp_all; done)|skip)
   refine qa ?_
   refine ⟨i + 1,[0],⟨by omega,fun _=>?_,fun h=>?_⟩,by omega,by simp only [leq,leA,ev0,evA,evB,evP,fl,gp,tab,simprocAttr]<;>first|trivial|trace_state⟩
   ·by_cases h:i=0
    ·rw [if_pos h] at hA; rw [hA]; exact h1
    ·exact q2 (by omega)
   ·rw [if_neg (by omega)] at hA; rw [hA]; exact h1
 ·(try simp only [nhs] at hC1)
  have hi2:i=2:=by omega
  have hc1:=q2 (by omega)
  have hc2:=q3 (by omega)
  have hgl:=hgL hc1
  have hgm:=hgM hc2
  refine qj (qc (qc (qf (qa (qm ?_)))))
  refine hk_regEn 2 ⟨1,runs_cut fun K hK=>?_⟩
  simp only [List.take_succ_cons,List.take_zero]
  refine runs_eval tab_ok ?_
  simp only [ev0,evA,evB,evP,fl,gp,tab,simprocAttr]
  refine fin_run trivial (hK _ ?_)<;>clear hK<;>clear K
  refine ⟨_,_,rfl,rfl,by simp only [dstOk,Nat.reduceLT],fold_E rfl rfl L hgl.1 hgl.2.1 hgl.2.2 rfl,fun av H' hO=>?_⟩
  obtain ⟨Ga,Ua,rfl,rfl,hGa,fa⟩:=hO
  refine ⟨1,runs_cut fun K hK=>?_⟩
  simp only [List.drop_succ_cons,List.drop_zero,List.take_succ_cons,List.take_zero]
  refine runs_eval tab_ok ?_
  simp only [ev0,evA,evB,evP,fl,gp,tab,simprocAttr]
  refine fin_run trivial (hK _ ?_)<;>clear hK<;>clear K
  refine ⟨_,_,rfl,rfl,by simp only [dstOk,Nat.reduceLT],fold_E rfl rfl M hgm.1 hgm.2.1 hgm.2.2 rfl,fun av H' hO=>?_⟩
  obtain ⟨Gb,Ub,rfl,rfl,hGb,fb⟩:=hO
  have hkb:([rb0]++(GB Ga Ua).map (Blk.ren (List.range' 1 (GB Ga Ua).length))).length=Ga.length + 4:=by rw [List.length_append,List.length_map,GB_len]; simp; omega
  refine runs_cut fun K hK=>?_
  simp only [List.drop_succ_cons,List.drop_zero]
  refine runs_eval tab_ok ?_
  simp only [ev0,evA,evB,evP,fl,gp,tab,simprocAttr]
  refine fin_run trivial (hK _ ?_)<;>clear hK<;>clear K
  refine qa (qm ?_)
  have hz1:(List.map (Blk.ren (List.range' 1 (GB Ga Ua).length)) (GB Ga Ua)).length + 1=Ga.length + 4:=by rw [List.length_map,GB_len]
  refine hk_le (s1:=⟨164,[(5,.ptr 0 0),(9,.ptr 1 0),(10,.ptr (Ga.length + 4) 0)],P3 Ga Ua Gb Ub⟩) (List.range (P3 Ga Ua Gb Ub).length) (le_front (Y:=P3 Ga Ua Gb Ub) (Z:=[]) rfl rfl ?_ (P3_hsc (by rw [P3_len]; exact Nat.le_refl _)) ?_) ?_
  ·show _ :: (_++_)=_
   rw [hz1,List.append_nil]; rfl
  ·rw [P3_len]
   simp only [List.forall_mem_cons,St.get,lk,scA,sc1,hz1]
   simp [scA,sc1,hz1]
   omega
  refine hk_region fun K hK=>runs_eval tab_ok ?_
  simp only [ev0,evA,evB,evP,fl,gp,tab,simprocAttr]
  refine fin_run ?_ (hK _ ?_)<;>clear hK<;>clear K
  ·(first|exact trivial|omega|(simp only [In64] at *; omega)|(simp [In64] at *; omega)|(simp_all; done)|skip)
  refine qa (qm ?_)
  refine hk_region fun K hK=>runs_eval tab_ok ?_
  simp only [ev0,evA,evB,evP,fl,gp,tab,simprocAttr]
  refine fin_run ?_ (hK _ ?_)<;>clear hK<;>clear K
  ·(first|exact trivial|omega|(simp only [In64] at *; omega)|(simp [In64] at *; omega)|(simp_all; done)|skip)
  refine qa (qm ?_)
  have hP3:=P3_len (A:=Ga) (Ua:=Ua) (B:=Gb) (Ub:=Ub)
  simp only [hP3,List.length_append,List.length_cons,List.length_nil,List.append_assoc,List.cons_append,List.nil_append]
  refine hk_own0c (Ga.length + Gb.length + 7) 0 (b:=[.p .nil,.p .nil]) (by rw [hget_P (Nat.le_refl _),Nat.sub_self]; rfl) rfl ?_
  refine hk_own0c (Ga.length + Gb.length + 7) 1 (b:=[.sl (Ga.length + Gb.length + 9) 0 0,.p .nil]) (by
   simp only [List.append_assoc,List.cons_append,List.nil_append,hset_P,List.length_append,List.length_cons,List.length_nil,hP3,List.set_cons_zero]
   rw [hget_P (Nat.le_refl _),Nat.sub_self]; rfl) rfl ?_
  simp only [List.append_assoc,List.cons_append,List.nil_append,hset_P,List.length_append,List.length_cons,List.length_nil,hP3,List.set_cons_zero,List.set_cons_succ]
  refine hk_le (s1:=⟨164,[(5,.ptr 0 0),(9,.ptr 1 0),(10,.ptr (Ga.length + 4) 0),(11,.ptr (Ga.length + Gb.length + 8) 0),(12,.mptr (Ga.length + Gb.length + 7))],P3 Ga Ua Gb Ub++([mpC nul]++GM (Ga.length + Gb.length + 8) [] [])⟩) _ (le_end (Q:=P3 Ga Ua Gb Ub) (X:=[.own [.sl 2 0 0,.sl 3 0 0],mpC nul,.own [],.own []]) (Y:=[mpC nul,.own [.sl 2 0 0,.sl 3 0 0],.own [],.own []]) (π:=[1,0,2,3]) rfl ?_ ?_ (P3_hsc (by rw [P3_len]; exact Nat.le_refl _)) P3_na (by decide) (by decide) (by simp [LeH,LeB,hget,mpC,Go.Pv.ren,ren1,scA,sc1]) rfl (by simp [hsc,mpC,scA,sc1]) ?_) ?_
  ·rw [P3_len]; rfl
  ·rw [P3_len,GM_eq]; rfl
  ·rw [P3_len]
   have e1:=end_pi1 (a:=Ga.length + Gb.length + 7) (i:=0) (ρ:=[1,0,2,3]) (by omega)
   have e2:=end_pi1 (a:=Ga.length + Gb.length + 7) (i:=1) (ρ:=[1,0,2,3]) (by omega)
   have e3:=end_pi1 (a:=Ga.length + Gb.length + 7) (i:=Ga.length + 4) (ρ:=[1,0,2,3]) (by omega)
   have e4:=end_pi2 (a:=Ga.length + Gb.length + 7) (i:=0) (ρ:=[1,0,2,3]) (by decide)
   have e5:=end_pi2 (a:=Ga.length + Gb.length + 7) (i:=1) (ρ:=[1,0,2,3]) (by decide)
   have hl:(List.range (Ga.length + Gb.length + 7)++List.map (fun x=>Ga.length + Gb.length + 7 + x) [1,0,2,3]).length=Ga.length + Gb.length + 11:=by simp
   simp only [Nat.add_zero] at e4
   rw [show Ga.length + Gb.length + 7 + 1=Ga.length + Gb.length + 8 by omega] at e5
   generalize List.range (Ga.length + Gb.length + 7)++List.map (fun x=>Ga.length + Gb.length + 7 + x) [1,0,2,3]=π at e1 e2 e3 e4 e5 hl ⊢
   simp only [LeS,Go.Pv.ren,ren1,e1,e2,e3,e4,e5,scA,sc1,hl]
   simp [St.get,lk]
   omega
  have za:rV Ua 0=0:=rV_zero fa.wg.fo (by rw [fa.wg.len]; exact fa.pos)
  have zb:rV Ub 0=0:=rV_zero fb.wg.fo (by rw [fb.wg.len]; exact fb.pos)
  refine hk_region fun K hK=>runs_eval tab_ok ?_
  simp only [ev0,evA,evB,evP,fl,gp,tab,simprocAttr]
  refine fin_stop ?_ (runs_midM (Q:=[rb0]) (k:=1) (R:=GM (Ga.length + 4) Gb Ub++([mpC nul]++GM (Ga.length + Gb.length + 8) [] [])) (avs:=[.int .i64 ((0:Nat):Int)]) (of_w (v:=0) fa.wg (by omega) fa.pos) rfl rfl rfl p3_A rfl (by simp only [dstOk,Nat.reduceLT]) (runs_eval tab_ok ?_))
  ·exact trivial
  simp only [← p3_A]
  simp only [ev0,evA,evB,evP,fl,gp,tab,simprocAttr]
  refine fin_stop ?_ (runs_midM (Q:=rb0 :: GM 1 Ga (ofU Ua 0)) (k:=Ga.length + 4) (R:=([mpC nul]++GM (Ga.length + Gb.length + 8) [] [])) (avs:=[.int .i64 ((0:Nat):Int)]) (of_w (v:=0) fb.wg (by omega) fb.pos) rfl rfl mh_Bl p3_B rfl (by simp only [dstOk,Nat.reduceLT]) (runs_eval tab_ok ?_))
  ·exact trivial
  simp only [← p3_B]
  simp only [ev0,evA,evB,evP,fl,gp,tab,simprocAttr,hget_endM,hset_endM,za,zb]
  refine fin_run ?_ (hK _ ?_)<;>clear hK<;>clear K
  ·first|trivial|trace_state
  refine qa (qm ?_)
  refine hk_freeze _ (hget_endM _ _) rfl ?_
  simp only [hset_endM]
  refine hk_pure 13 (p:=0≤2) (pv:=.ptr [.int .i64 ((0:Nat):Int),.int .i64 ((0:Nat):Int)]) (by
   show peekG _ (.ptr _ 0)=_
   simp only [peekG,peekS,hget_endM]
   rfl) (by decide) ?_
  obtain ⟨Ua1,hUa1⟩:∃ Ua1,ofU Ua 0=Ua1:=⟨_,rfl⟩
  obtain ⟨Ub1,hUb1⟩:∃ Ub1,ofU Ub 0=Ub1:=⟨_,rfl⟩
  have wa1:WG Ga Ua1:=hUa1 ▸ fa.wg.of fa.pos
  have wb1:WG Gb Ub1:=hUb1 ▸ fb.wg.of fb.pos
  have ra1:∀ u,u < Ga.length→rV Ua1 u=rV Ua u:=fun u hu=>hUa1 ▸ fa.wg.ofr fa.pos u hu
  have rb1:∀ u,u < Gb.length→rV Ub1 u=rV Ub u:=fun u hu=>hUb1 ▸ fb.wg.ofr fb.pos u hu
  rw [hUa1,hUb1]
  refine hk_le (s1:=⟨164,[(5,.ptr 0 0),(9,.ptr 1 0),(10,.ptr (Ga.length + 4) 0),(11,.ptr (Ga.length + Gb.length + 8) 0),(12,.mptr (Ga.length + Gb.length + 7)),(13,.p (.ptr [.int .i64 ((0:Nat):Int),.int .i64 ((0:Nat):Int)]))],P3 Ga Ua1 Gb Ub1++([mpC nul]++GM (Ga.length + Gb.length + 8) [] [])⟩) _ (le_front (Y:=P3 Ga Ua1 Gb Ub1++([mpC nul]++GM (Ga.length + Gb.length + 8) [] [])) rfl rfl (Z:=[.fro [.int .i64 0,.int .i64 0]]) (by
   simp only [List.append_assoc,List.cons_append,List.nil_append]) ?_ ?_) ?_
  ·intro b hb
   have hlen:(P3 Ga Ua1 Gb Ub1++([mpC nul]++GM (Ga.length + Gb.length + 8) [] [])).length=Ga.length + Gb.length + 11:=by rw [List.length_append,P3_len,List.length_append,GM_len]; simp<;>omega
   rw [hlen]
   rcases List.mem_append.1 hb with hb | hb
   ·exact P3_hsc (by omega) b hb
   rcases List.mem_append.1 hb with hb | hb
   ·rw [List.mem_singleton.1 hb]; rfl
   ·exact GM_hsc (by simp<;>omega) b hb
  ·have hlen:(P3 Ga Ua1 Gb Ub1++([mpC nul]++GM (Ga.length + Gb.length + 8) [] [])).length=Ga.length + Gb.length + 11:=by rw [List.length_append,P3_len,List.length_append,GM_len]; simp<;>omega
   rw [hlen]
   simp [St.get,lk,scA,sc1]<;>omega
  have hP3:=P3_len (A:=Ga) (Ua:=Ua1) (B:=Gb) (Ub:=Ub1)
  refine Fw.hk_drawF (F:=fwP [13]) mixed (by kernel_rfl) fun K hK=>?_
  refine Fw.runsF_op tab_ok (by simp only [ev0,evA,evB,evP,fl,gp,tab,simprocAttr]; rfl) (by trivial) rfl (by show _ < _; exact of_decide_eq_true rfl) rfl rfl ?_
  simp only [ev0,evA,evB,evP,fl,gp,tab,simprocAttr]
  refine Fw.runsF_free tab_ok rfl (by simp only [ev0,evA,evB,evP,fl,gp,tab,simprocAttr]; rfl) (by first|trivial|omega) rfl (by show _ < _; exact of_decide_eq_true rfl) ?_
  simp only [ev0,evA,evB,evP,fl,gp,tab,simprocAttr]
  refine Fw.runsF_op tab_ok (by simp only [ev0,evA,evB,evP,fl,gp,tab,simprocAttr]; rfl) (by trivial) rfl (by show _ < _; exact of_decide_eq_true rfl) rfl rfl ?_
  simp only [ev0,evA,evB,evP,fl,gp,tab,simprocAttr]
  refine runsF_placeG (G:=[]) (U:=[]) (k:=Ga.length + Gb.length + 8) (Q:=P3 Ga Ua1 Gb Ub1++[mpC nul]) rfl (by decide) rfl rfl (by rw [List.length_append,hP3]; rfl) (by simp only [List.append_assoc,List.cons_append,List.nil_append]) rfl (by show _ < _; exact of_decide_eq_true rfl) rfl ?_
  simp only [ev0,evA,evB,evP,fl,gp,tab,simprocAttr]
  have hm:∀ Z:Heap,hget ((P3 Ga Ua1 Gb Ub1++[mpC nul])++Z) (Ga.length + Gb.length + 7) = .mp .i8 (fun z=>(nul z).isSome) (fun z=>.int .i64 ((nul z).getD 0)):=fun Z=>by
   rw [List.append_assoc,hget_P (Nat.le_refl _),Nat.sub_self]; rfl
  have hms:∀ (Z:Heap) (b:Blk),hset ((P3 Ga Ua1 Gb Ub1++[mpC nul])++Z) (Ga.length + Gb.length + 7) b=(P3 Ga Ua1 Gb Ub1++[b])++Z:=fun Z b=>by
   rw [List.append_assoc,List.cons_append,hset_P,List.append_assoc]; rfl
  refine Fw.runsF_op tab_ok (by simp only [ev0,evA,evB,evP,fl,gp,tab,simprocAttr,hm,hms]; rfl) (by show True; trivial) rfl (by trivial) rfl rfl ?_
  simp only [ev0,evA,evB,evP,fl,gp,tab,simprocAttr]
  refine Fw.runsF_nil (hK _ ?_)<;>clear hK<;>clear K
  refine qa (qm ?_)
  refine hk_region fun K hK=>runs_at 1 (runs_eval tab_ok ?_)
  simp only [List.take_succ_cons,List.take_zero]
  simp only [ev0,evA,evB,evP,fl,gp,tab,simprocAttr]
  refine fin_run trivial ?_
  refine runs_op (buildS_does (n:=1) (sz:=2) tab_ok rfl rfl rfl rfl rfl rfl rfl (by repeat (first|exact trivial|constructor)) rfl (by decide)) rfl (by simp only [dstOk,Nat.reduceLT]) (runs_eval tab_ok ?_)
  simp only [ev0,evA,evB,evP,fl,gp,tab,simprocAttr]
  refine fin_run trivial (hK _ ?_)<;>clear hK<;>clear K
  refine qa (qm (qm ?_))
  refine hk_region fun K hK=>runs_eval tab_ok ?_
  simp only [ev0,evA,evB,evP,fl,gp,tab,simprocAttr]
  refine fin_run trivial (hK _ ?_)<;>clear hK<;>clear K
  refine qa (ql ?_)
  have hCa:=(fi_isC fa)
  have hCb:=(fi_isC fb)
  have hlab:(rts Ga Ua).length * (rts Gb Ub).length≤10000000:=by rw [hCa.cnt.1,hCb.cnt.1]; exact hv hc1 hc2
  obtain ⟨f0,hf0⟩:∃ f0:Mp,f0=updM (fun _=>none) (kyP (0,0)) 0:=⟨_,rfl⟩
  have hmE:Blk.mp .i8 (fun u=>decide (u=0) || (nul u).isSome) (fun u=>bif decide (u=0) then PV.int .i64 0 else PV.int .i64 ((nul u).getD 0))=mpC f0:=by
   rw [hf0]
   exact mpC_upd (fun _=>none) 0 0
  have hlen1:List.length (P3 Ga Ua1 Gb Ub1++[mpC f0]++List.map (Blk.ren (List.range' (Ga.length + Gb.length + 8) (List.length (PB [] [])))) (PB [] []))=Ga.length + Gb.length + 14:=by
   rw [List.length_append,List.length_append,P3_len,List.length_map]; rfl
  rw [hmE,hlen1]
  have mx0:MX (stR Ga Ua) (stR Gb Ub) [(0,0)] f0 [nul] [0] (fun j _=>j < 0):=hf0 ▸ MX.zero.ext (fun _ _ h=>h.elim) fun j hj x h=>absurd h (Nat.not_lt_zero _)
  refine hk_loop (ι:=MS) (fun z=>⟨164,[(5,.ptr 0 0),(9,.ptr 1 0),(10,.ptr (Ga.length + 4) 0),(11,.ptr (Ga.length + Gb.length + 9) 0),(12,.mptr (Ga.length + Gb.length + 7)),(14,.sls (Ga.length + Gb.length + 8) 0 z.q.length 2),(15,.p (.int .i64 (z.i:Nat)))],MH Ga z.Ua Gb z.Ub z.f z.q z.G z.U⟩) (fun z=>z.i≤z.q.length∧MIv Ga Gb Ua Ub z (fun j _=>j < z.i)) (fun z=>10000001 - z.i) ⟨0,Ua1,Ub1,f0,[(0,0)],[nul],[0]⟩ ⟨Nat.zero_le _,⟨wa1,ra1,wb1,rb1,mx0⟩⟩ _ (le_first (x:=pf [(0,0)]) rfl rfl rfl ?_ ?_) fun z hz=>?_
  ·simp only [List.append_assoc]
   rfl
  ·have e1:=end_pi1 (a:=Ga.length + Gb.length + 8) (i:=0) (ρ:=[6,0,4,5,3]) (by omega)
   have e2:=end_pi1 (a:=Ga.length + Gb.length + 8) (i:=1) (ρ:=[6,0,4,5,3]) (by omega)
   have e3:=end_pi1 (a:=Ga.length + Gb.length + 8) (i:=Ga.length + 4) (ρ:=[6,0,4,5,3]) (by omega)
   have e6:=end_pi1 (a:=Ga.length + Gb.length + 8) (i:=Ga.length + Gb.length + 7) (ρ:=[6,0,4,5,3]) (by omega)
   have e4:=end_pi2 (a:=Ga.length + Gb.length + 8) (i:=0) (ρ:=[6,0,4,5,3]) (by decide)
   have e5:=end_pi2 (a:=Ga.length + Gb.length + 8) (i:=1) (ρ:=[6,0,4,5,3]) (by decide)
   have hl:(List.range (Ga.length + Gb.length + 8)++List.map (fun x=>Ga.length + Gb.length + 8 + x) [6,0,4,5,3]).length=Ga.length + Gb.length + 13:=by simp
   simp only [Nat.add_zero] at e4
   rw [show Ga.length + Gb.length + 8 + 1=Ga.length + Gb.length + 9 by omega] at e5
   generalize List.range (Ga.length + Gb.length + 8)++List.map (fun x=>Ga.length + Gb.length + 8 + x) [6,0,4,5,3]=π at e1 e2 e3 e4 e5 e6 hl ⊢
   simp only [LeS,Go.Pv.ren,ren1,e1,e2,e3,e4,e5,e6,scA,sc1,hl]
   simp [St.get,lk]<;>omega
  obtain ⟨i,Ua2,Ub2,f,q,G,U⟩:=z
  obtain ⟨z1,z2⟩:=hz
  simp only at z1 z2 ⊢
  have hql:=(z2.mx.qlen hCa.cg hCb.cg)
  obtain ⟨hql,hqs⟩:=hql
  have hqb:q.length≤10000000:=Nat.le_trans hql hlab
  have hgl2:G.length=q.length:=z2.mx.gl
  obtain ⟨H,hH⟩:∃ H,MH Ga Ua2 Gb Ub2 f q G U=H:=⟨_,rfl⟩
  have F:MF H (Ga.length + 4) (Ga.length + Gb.length + 7) (Ga.length + Gb.length + 8) (Ga.length + Gb.length + 9) Ga Ua2 Gb Ub2 f q G U:=hH ▸ MF.of
  have hHl:H.length=Ga.length + Gb.length + 12 + G.length:=by rw [← hH,MH_len]
  rw [hH]
  refine qm (qm ?_)
  refine hk_region fun K hK=>runs_eval tab_ok ?_
  simp only [ev0,evA,evB,evP,fl,gp,tab,simprocAttr]
  refine fin_stop ?_ (runs_op (lenS_does tab_ok rfl rfl rfl rfl) rfl (by simp only [dstOk,Nat.reduceLT]) (runs_eval tab_ok ?_))
  ·(first|exact trivial|omega|(simp only [In64] at *; omega)|(simp [In64] at *; omega)|(simp_all; done)|skip)
  simp only [ev0,evA,evB,evP,fl,gp,tab,simprocAttr]
  refine fin_run trivial (hK _ ?_)<;>clear hK<;>clear K
  refine qa ?_
  refine hk_cond rfl (fun hC3=>?_) (fun hC3=>?_)
  ·(try simp only [nhs] at hC3)
   have hi:i < q.length:=by omega
   have hat:=pf_at hi
   obtain ⟨p,hp⟩:∃ p,q.getD i (0,0)=p:=⟨_,rfl⟩
   rw [hp] at hat
   have hpm:p∈q:=by rw [← hp]; exact q_mem hi
   obtain ⟨pa,pb⟩:=p
   obtain ⟨hpa,hpb⟩:=hqs _ hpm
   obtain ⟨pa1,pa2⟩:=mem_rts.1 hpa
   obtain ⟨pb1,pb2⟩:=mem_rts.1 hpb
   refine qh (qa (qm (ql (qm ?_))))
   refine hk_region fun K hK=>runs_eval tab_ok ?_
   simp only [ev0,evA,evB,evP,fl,gp,tab,simprocAttr,Int.toNat_natCast,Nat.zero_add,F.w,hat,hget_endM,hset_endM]
   refine fin_stop ?_ (runs_op (idxS_does tab_ok rfl rfl rfl rfl rfl rfl rfl (by omega) (by omega)) rfl (by simp only [dstOk,Nat.reduceLT]) (runs_eval tab_ok ?_))
   ·first|trivial|(rw [pf_len]; omega)|trace_state
   simp only [ev0,evA,evB,evP,fl,gp,tab,simprocAttr,Int.toNat_natCast,Nat.zero_add,F.w,hat,hget_endM,hset_endM]
   refine fin_run ?_ (hK _ ?_)<;>clear hK<;>clear K
   ·first|trivial|(rw [pf_len]; omega)|trace_state
   refine qa (qm ?_)
   refine hk_freeze _ (hget_endM _ _) rfl ?_
   simp only [hset_endM]
   refine hk_pure 16 (p:=0≤2) (pv:=.ptr [.int .i64 (pa:Nat),.int .i64 (pb:Nat)]) (by
    show peekG _ (.ptr _ 0)=_
    simp only [peekG,peekS,hget_endM]
    rfl) (by decide) ?_
   refine hk_le (s1:=(fun z:MS=>⟨164,[(5,.ptr 0 0),(9,.ptr 1 0),(10,.ptr (Ga.length + 4) 0),(11,.ptr (Ga.length + Gb.length + 9) 0),(12,.mptr (Ga.length + Gb.length + 7)),(14,.sls (Ga.length + Gb.length + 8) 0 z.q.length 2),(15,.p (.int .i64 (z.i:Nat))),(16,.p (.ptr [.int .i64 (pa:Nat),.int .i64 (pb:Nat)]))],MH Ga z.Ua Gb z.Ub z.f z.q z.G z.U⟩) ⟨i,Ua2,Ub2,f,q,G,U⟩) _ (le_front (Y:=MH Ga Ua2 Gb Ub2 f q G U) rfl rfl (Z:=[.fro [.int .i64 pa,.int .i64 pb]]) (by rw [hH]) (MH_hsc (by rw [MH_len]; exact Nat.le_refl _)) (by
    rw [MH_len]
    simp [St.get,lk,scA,sc1]<;>omega)) ?_
   refine hk_region fun K hK=>runs_eval tab_ok ?_
   simp only [ev0,evA,evB,evP,fl,gp,tab,simprocAttr]
   refine fin_stop ?_ (runs_midM (Q:=[rb0]) (k:=1) (avs:=[.int .i64 (pa:Int)]) (letters_c z2.wa (by omega) pa1) rfl rfl rfl mh_A rfl (by simp only [dstOk,Nat.reduceLT]) (runs_eval tab_ok ?_))
   ·first|trivial|trace_state
   simp only [← mh_A]
   simp only [ev0,evA,evB,evP,fl,gp,tab,simprocAttr,il_length]
   refine fin_run ?_ (hK _ ?_)<;>clear hK<;>clear K
   ·first|trivial|trace_state
   refine qa (ql ?_)
   obtain ⟨Ls,hLs⟩:∃ Ls,lts (gm Ga pa)=Ls:=⟨_,rfl⟩
   have hLl:Ls.length≤53:=by
    rw [← hLs]
    unfold lts
    refine Nat.le_trans (List.length_filter_le _ _) ?_
    simp
   rw [hLs]
   refine hk_loop (ι:=MS) (fun z=>⟨164,[(5,.ptr 0 0),(9,.ptr 1 0),(10,.ptr (Ga.length + 4) 0),(11,.ptr (Ga.length + Gb.length + 9) 0),(12,.mptr (Ga.length + Gb.length + 7)),(14,.sls (Ga.length + Gb.length + 8) 0 z.q.length 2),(15,.p (.int .i64 (i:Nat))),(16,.p (.ptr [.int .i64 (pa:Nat),.int .i64 (pb:Nat)])),(74,.p (.list (il Ls))),(75,.p (.int .i64 (Ls.length:Nat))),(76,.p (.int .i64 (z.i:Nat)))],MH Ga z.Ua Gb z.Ub z.f z.q z.G z.U⟩) (fun z=>z.i≤Ls.length∧MIv Ga Gb Ua Ub z (fun k x=>k < i∨(k=i∧x∈Ls.take z.i))∧∃ r,z.q=q++r) (fun z=>Ls.length - z.i) ⟨0,Ua2,Ub2,f,q,G,U⟩ ⟨Nat.zero_le _,⟨z2.wa,z2.ra,z2.wb,z2.rb,z2.mx.ext (fun _ _ h=>.inl h) fun k _ x h=>.inl (h.resolve_right fun h=>by cases h.2)⟩,[],(List.append_nil _).symm⟩ _ (le_front (Y:=MH Ga Ua2 Gb Ub2 f q G U) rfl rfl (Z:=[]) (by rw [List.append_nil]) (MH_hsc (by rw [MH_len]; exact Nat.le_refl _)) (by
    rw [MH_len]
    simp [St.get,lk,scA,sc1]<;>omega)) fun z hz=>?_
   obtain ⟨j,Ua3,Ub3,f3,q3,G3,U3⟩:=z
   obtain ⟨y1,y2,q3r,hq3⟩:=hz
   simp only at y1 y2 hq3 ⊢
   have hi3:i < q3.length:=by rw [hq3,List.length_append]; omega
   have hp3:q3.getD i (0,0)=(pa,pb):=by rw [hq3,getD_q hi,hp]
   obtain ⟨hql3,hqs3⟩:=y2.mx.qlen hCa.cg hCb.cg
   have hq3b:q3.length≤10000000:=Nat.le_trans hql3 hlab
   have hgl3:G3.length=q3.length:=y2.mx.gl
   obtain ⟨H3,hH3⟩:∃ H,MH Ga Ua3 Gb Ub3 f3 q3 G3 U3=H:=⟨_,rfl⟩
   have F3:MF H3 (Ga.length + 4) (Ga.length + Gb.length + 7) (Ga.length + Gb.length + 8) (Ga.length + Gb.length + 9) Ga Ua3 Gb Ub3 f3 q3 G3 U3:=hH3 ▸ MF.of
   have hHl3:H3.length=Ga.length + Gb.length + 12 + G3.length:=by rw [← hH3,MH_len]
   rw [hH3]
   refine qm ?_
   refine hk_region fun K hK=>runs_eval tab_ok ?_
   simp only [ev0,evA,evB,evP,fl,gp,tab,simprocAttr]
   refine fin_run trivial (hK _ ?_)<;>clear hK<;>clear K
   refine qa (qm ?_)
   refine hk_cond rfl (fun hC4=>?_) (fun hC4=>?_)
   ·(try simp only [nhs] at hC4)
    have hj:j < Ls.length:=by omega
    obtain ⟨x,hx⟩:∃ x,Ls.getD j 0=x:=⟨_,rfl⟩
    have htk:Ls.take (j + 1)=Ls.take j++[x]:=by rw [take_snoc (d:=0) hj,hx]
    have hxm:x∈Ls:=by rw [← hx,List.getD_eq_getElem?_getD,List.getElem?_eq_getElem hj]; exact List.getElem_mem hj
    rw [← hLs,mem_lts] at hxm
    obtain ⟨hxb,hxs⟩:=hxm
    obtain ⟨da,hda⟩:=Option.isSome_iff_exists.1 hxs
    obtain ⟨da0,da1,dax⟩:=z2.wa.ent pa x da pa1 hda
    have hb3:hget H3 (Ga.length + 4 + 3 + pb) = .mp .i64 (fun z=>(gm Gb pb z).isSome) (fun z=>.int .i64 ((gm Gb pb z).getD 0)):=F3.b3 pb pb1
    have ha3:hget H3 (4 + pa) = .mp .i64 (fun z=>(gm Ga pa z).isSome) (fun z=>.int .i64 ((gm Ga pa z).getD 0)):=F3.a3 pa pa1
    refine qh (qa (qm (ql (qm ?_))))
    refine hk_region fun K hK=>runs_eval tab_ok ?_
    simp only [ev0,evA,evB,evP,fl,gp,tab,simprocAttr,il_length,il_get hj,hx]
    refine fin_run ?_ (hK _ ?_)<;>clear hK<;>clear K
    ·omega
    refine qa (qm ?_)
    rcases hgb:gm Gb pb x with _ | db
    ·refine hk_draw mixed (by kernel_rfl) fun K hK=>runs_eval tab_ok ?_
     simp only [ev0,evA,evB,evP,fl,gp,tab,simprocAttr,F3.b0,F3.b1,mpK_get pb1,mpK_len,hb3,hgb,Option.isSome_none,Option.isSome_some,Option.getD_none,Option.getD_some]
     refine fin_run ?_ (hK _ ?_)<;>clear hK<;>clear K
     ·first|trivial|omega|trace_state
     refine qa (qm (qm ?_))
     refine hk_region fun K hK=>runs_eval tab_ok ?_
     simp only [ev0,evA,evB,evP,fl,gp,tab,simprocAttr]
     refine fin_run trivial (hK _ ?_)<;>clear hK<;>clear K
     refine qa ?_
     refine hk_cond rfl (fun hC5=>?_) (fun hC5=>?_)
     ·(try simp only [nhs] at hC5)
      refine qj (qc (qf (qa ?_)))
      refine hk_region fun K hK=>runs_eval tab_ok ?_
      simp only [ev0,evA,evB,evP,fl,gp,tab,simprocAttr]
      refine fin_run ?_ (hK _ ?_)<;>clear hK<;>clear K
      ·(first|exact trivial|omega|(simp only [In64] at *; omega)|(simp [In64] at *; omega)|(simp_all; done)|skip)
      refine qa ?_
      have hno:sP (stR Ga Ua) (stR Gb Ub) (pa,pb) x=none:=by
       unfold sP
       simp only
       rw [stR_of ⟨pb1,pb2⟩]
       unfold stp
       rw [hgb]
       cases stR Ga Ua pa x<;>rfl
      refine ⟨⟨j + 1,Ua3,Ub3,f3,q3,G3,U3⟩,_,⟨by simp only; omega,⟨y2.wa,y2.ra,y2.wb,y2.rb,y2.mx.ext (fun k y h=>?_) fun k hk y h=>?_⟩,q3r,hq3⟩,by simp only; omega,le_front (Y:=MH Ga Ua3 Gb Ub3 f3 q3 G3 U3) rfl rfl (Z:=[]) (by rw [List.append_nil,hH3]) (MH_hsc (by rw [MH_len]; exact Nat.le_refl _)) (by
       rw [MH_len]
       simp [St.get,lk,scA,sc1]<;>omega)⟩
      ·simp only
       rw [htk]
       exact h.imp id fun h=>⟨h.1,List.mem_append.2 (.inl h.2)⟩
      ·simp only at h
       rw [htk] at h
       rcases h with h | ⟨rfl,h⟩
       ·exact .inl (.inl h)
       ·rcases List.mem_append.1 h with h | h
        ·exact .inl (.inr ⟨rfl,h⟩)
        ·rw [List.mem_singleton.1 h,hp3]
         exact .inr hno
     ·(try simp only [nhs] at hC5)
      simp at hC5
    ·refine hk_draw mixed (by kernel_rfl) fun K hK=>runs_eval tab_ok ?_
     simp only [ev0,evA,evB,evP,fl,gp,tab,simprocAttr,F3.b0,F3.b1,mpK_get pb1,mpK_len,hb3,hgb,Option.isSome_none,Option.isSome_some,Option.getD_none,Option.getD_some]
     refine fin_run ?_ (hK _ ?_)<;>clear hK<;>clear K
     ·first|trivial|omega|trace_state
     refine qa (qm (qm ?_))
     refine hk_region fun K hK=>runs_eval tab_ok ?_
     simp only [ev0,evA,evB,evP,fl,gp,tab,simprocAttr]
     refine fin_run trivial (hK _ ?_)<;>clear hK<;>clear K
     refine qa ?_
     refine hk_cond rfl (fun hC5=>?_) (fun hC5=>?_)
     ·(try simp only [nhs] at hC5)
      simp at hC5
     ·(try simp only [nhs] at hC5)
      refine qh (qa (qm ?_))
      obtain ⟨db0,db1,_⟩:=z2.wb.ent pb x db pb1 hgb
      obtain ⟨ra,hra⟩:∃ r,rV Ua da.toNat=r:=⟨_,rfl⟩
      obtain ⟨rb,hrb⟩:∃ r,rV Ub db.toNat=r:=⟨_,rfl⟩
      have hra3:rV Ua3 da.toNat=ra:=by rw [y2.ra _ da1,hra]
      have hrb3:rV Ub3 db.toNat=rb:=by rw [y2.rb _ db1,hrb]
      refine hk_draw2 mixed fun K hK=>runs2_eval tab_ok ?_
      simp only [evD,ev0,evA,evB,evP,fl,gp,tab,simprocAttr,F3.a0,F3.a1,mpK_get pa1,mpK_len,ha3,hda,Option.isSome_some,Option.getD_some]
      refine fin2_stop ?_ (runs2_ofG (Q:=[rb0]) (k:=1) (v:=da.toNat) (z:=da) y2.wa (by omega) da1 (by omega) rfl rfl rfl (hH3.symm.trans mh_A) rfl (by simp only [dstOk,Nat.reduceLT]) (runs2_eval tab_ok ?_))
      ·first|trivial|omega|trace_state
      simp only [← mh_A]
      simp only [evD,ev0,evA,evB,evP,fl,gp,tab,simprocAttr,hra3]
      refine fin2_stop ?_ (runs2_ofG (Q:=rb0 :: GM 1 Ga (ofU Ua3 da.toNat)) (k:=Ga.length + 4) (v:=db.toNat) (z:=db) y2.wb (by omega) db1 (by omega) rfl rfl mh_Bl mh_B rfl (by simp only [dstOk,Nat.reduceLT]) (runs2_eval tab_ok ?_))
      ·first|trivial|omega|trace_state
      simp only [← mh_B]
      simp only [evD,ev0,evA,evB,evP,fl,gp,tab,simprocAttr,hrb3,hget_endM,hset_endM]
      obtain ⟨κ,hκ⟩:∃ κ,List.length (MH Ga (ofU Ua3 da.toNat) Gb (ofU Ub3 db.toNat) f3 q3 G3 U3)=κ:=⟨_,rfl⟩
      have hκ2:κ=Ga.length + Gb.length + 12 + G3.length:=by rw [← hκ,MH_len]
      refine fin2_run ?_ (hK _ _ (draw2_cd (fun i j=>j == 16 && (i == 4 || i == 8 || i == 10 || i == 11 || i == 14)) (fun j i=>j == 16 && Nat.ble i 15) ?_ ?_ (by kernel_rfl)) ?_)<;>clear hK<;>clear K
      ·first|trivial|trace_state
      ·intro i j h
       simp only [Bool.and_eq_true,Bool.or_eq_true,beq_iff_eq] at h
       obtain ⟨rfl,h⟩:=h
       rcases h with (((rfl | rfl) | rfl) | rfl) | rfl
       ·exact ld_nw (by rw [MH_len]; omega)
       ·exact ld_nw (by rw [MH_len]; omega)
       ·exact ld_nw (by rw [MH_len]; omega)
       ·exact ms_nw (zip_fst (by rw [MH_len]; omega))
       ·exact ms_nw (zip_fst (by rw [MH_len]; omega))
      ·intro j i κ2 h hm
       simp only [Bool.and_eq_true,beq_iff_eq] at h
       obtain ⟨rfl,h⟩:=h
       have h:=Nat.le_of_ble_eq_true h
       have hκ3:κ2=κ:=by
        have hm2:some (List.length (MH Ga (ofU Ua3 da.toNat) Gb (ofU Ub3 db.toNat) f3 q3 G3 U3))=some κ2:=hm
        rw [hκ] at hm2
        exact (Option.some.inj hm2).symm
       subst hκ3
       clear hm
       match i,h with
       | 0,_ | 1,_ | 2,_ | 3,_ | 4,_ | 5,_ | 6,_ | 7,_ | 8,_ | 9,_ | 10,_ | 12,_ | 13,_ | 15,_=>exact ⟨by simp [nrA,nr1]<;>omega,.inr (by simp [I2.blks,blkNr,nrA,nr1]<;>omega)⟩
       | 11,_=>exact ⟨rfl,.inr (zip_nr (GM_nr (by omega)))⟩
       | 14,_=>exact ⟨rfl,.inr (zip_nr (GM_nr (by omega)))⟩
      refine qa (qm (qm ?_))
      refine hk_freeze _ (hget_endM _ _) rfl ?_
      simp only [hset_endM]
      refine hk_pure 21 (p:=0≤2) (pv:=.ptr [.int .i64 (ra:Nat),.int .i64 (rb:Nat)]) (by
       show peekG _ (.ptr _ 0)=_
       simp only [peekG,peekS,hget_endM]
       rfl) (by decide) ?_
      obtain ⟨Ua4,hUa4⟩:∃ U,ofU Ua3 da.toNat=U:=⟨_,rfl⟩
      obtain ⟨Ub4,hUb4⟩:∃ U,ofU Ub3 db.toNat=U:=⟨_,rfl⟩
      have wa4:WG Ga Ua4:=hUa4 ▸ y2.wa.of da1
      have wb4:WG Gb Ub4:=hUb4 ▸ y2.wb.of db1
      have ra4:∀ u,u < Ga.length→rV Ua4 u=rV Ua u:=fun u hu=>by rw [← hUa4,y2.wa.ofr da1 u hu,y2.ra u hu]
      have rb4:∀ u,u < Gb.length→rV Ub4 u=rV Ub u:=fun u hu=>by rw [← hUb4,y2.wb.ofr db1 u hu,y2.rb u hu]
      rw [hUa4,hUb4]
      refine hk_le (s1:=(fun z:MS=>⟨164,[(5,.ptr 0 0),(9,.ptr 1 0),(10,.ptr (Ga.length + 4) 0),(11,.ptr (Ga.length + Gb.length + 9) 0),(12,.mptr (Ga.length + Gb.length + 7)),(14,.sls (Ga.length + Gb.length + 8) 0 z.q.length 2),(15,.p (.int .i64 (i:Nat))),(16,.p (.ptr [.int .i64 (pa:Nat),.int .i64 (pb:Nat)])),(18,.p (.int .i64 x)),(21,.p (.ptr [.int .i64 (ra:Nat),.int .i64 (rb:Nat)])),(74,.p (.list (il Ls))),(75,.p (.int .i64 (Ls.length:Nat))),(76,.p (.int .i64 (j:Nat)))],MH Ga z.Ua Gb z.Ub z.f z.q z.G z.U⟩) ⟨j,Ua4,Ub4,f3,q3,G3,U3⟩) _ (le_front (Y:=MH Ga Ua4 Gb Ub4 f3 q3 G3 U3) rfl rfl (Z:=[.fro [.int .i64 ra,.int .i64 rb]]) rfl (MH_hsc (by rw [MH_len]; exact Nat.le_refl _)) (by
       rw [MH_len]
       simp [St.get,lk,scA,sc1]<;>omega)) ?_
      have hA1:stR Ga Ua pa x=some ra:=by
       rw [stR_of ⟨pa1,pa2⟩]
       unfold stp
       rw [hda,← hra]; rfl
      have hB1:stR Gb Ub pb x=some rb:=by
       rw [stR_of ⟨pb1,pb2⟩]
       unfold stp
       rw [hgb,← hrb]; rfl
      have hS1:sP (stR Ga Ua) (stR Gb Ub) (pa,pb) x=some (ra,rb):=sP_iff.2 ⟨hA1,hB1⟩
      have hrb2:rb < Gb.length:=by rw [← hrb]; exact fb.wg.rlt db1
      have hwr:∃ w,runW (sP (stR Ga Ua) (stR Gb Ub)) (0,0) w=some (ra,rb):=by
       obtain ⟨w,hw⟩:=z2.mx.con _ hpm
       exact ⟨w++[x],by rw [runW_app,hw]; simp only [Option.bind_some,runW,hS1]⟩
      have hfk:f3 ((ra:Int) * 1099511627776 + (rb:Int))=if (ra,rb)∈q3 then some ((q3.idxOf (ra,rb):Nat):Int) else none:=y2.mx.pm (ra,rb) (by simp only; omega)
      obtain ⟨H4,hH4⟩:∃ H,MH Ga Ua4 Gb Ub4 f3 q3 G3 U3=H:=⟨_,rfl⟩
      have F4:MF H4 (Ga.length + 4) (Ga.length + Gb.length + 7) (Ga.length + Gb.length + 8) (Ga.length + Gb.length + 9) Ga Ua4 Gb Ub4 f3 q3 G3 U3:=hH4 ▸ MF.of
      have hm4:hget H4 (Ga.length + Gb.length + 7) = .mp .i8 (fun z=>(f3 z).isSome) (fun z=>.int .i64 ((f3 z).getD 0)):=F4.m
      have hpab:f3 ((pa:Int) * 1099511627776 + (pb:Int))=some (i:Int):=by
       have h1:=y2.mx.pm (pa,pb) (by simp only; omega)
       have h2:(pa,pb)∈q3:=by rw [← hp3]; exact q_mem hi3
       have h3:q3.idxOf (pa,pb)=i:=by rw [← hp3]; exact qix y2.mx.nd hi3
       rw [if_pos h2,h3] at h1
       exact h1
      have hfk2:((ra,rb)∈q3∧f3 ((ra:Int) * 1099511627776 + (rb:Int))=some ((q3.idxOf (ra,rb):Nat):Int))∨((ra,rb) ∉ q3∧f3 ((ra:Int) * 1099511627776 + (rb:Int))=none):=by
       by_cases hm:(ra,rb)∈q3
       ·rw [if_pos hm] at hfk; exact .inl ⟨hm,hfk⟩
       ·rw [if_neg hm] at hfk; exact .inr ⟨hm,hfk⟩
      clear hfk
      simp only
      rw [hH4]
      rcases hfk2 with ⟨hm,hfk⟩ | ⟨hm,hfk⟩
      ·refine hk_region fun K hK=>runs_eval tab_ok ?_
       simp only [ev0,evA,evB,evP,fl,gp,tab,simprocAttr,hm4,hfk,Option.isSome_none,Option.isSome_some,Option.getD_none,Option.getD_some]
       refine fin_run ?_ (hK _ ?_)<;>clear hK<;>clear K
       ·constructor<;>omega
       refine qa (qm ?_)
       refine hk_region fun K hK=>runs_eval tab_ok ?_
       simp only [ev0,evA,evB,evP,fl,gp,tab,simprocAttr]
       refine fin_run trivial (hK _ ?_)<;>clear hK<;>clear K
       refine qa ?_
       refine hk_cond rfl (fun hC6=>?_) (fun hC6=>?_)
       ·(try simp only [nhs] at hC6)
        simp at hC6
       ·(try simp only [nhs] at hC6)
        refine qh (qa ?_)
        rw [← hH4]
        have hi4:i < q3.length:=by first|exact hi3|(rw [List.length_append]; omega)
        have hp4:q3.getD i (0,0)=(pa,pb):=by first|exact hp3|(rw [getD_q hi3]; exact hp3)
        have m4:MX (stR Ga Ua) (stR Gb Ub) q3 f3 G3 U3 (fun k y=>k < i∨(k=i∧y∈Ls.take j)):=y2.mx
        have hr4:(ra,rb)∈q3:=hm
        have hq4:∃ r',q3=q++r':=⟨q3r,hq3⟩
        obtain ⟨q4,hq4e⟩:∃ q4,q3=q4:=⟨_,rfl⟩
        obtain ⟨f4,hf4e⟩:∃ f4,f3=f4:=⟨_,rfl⟩
        obtain ⟨G4,hG4e⟩:∃ G4,G3=G4:=⟨_,rfl⟩
        obtain ⟨U4,hU4e⟩:∃ U4,U3=U4:=⟨_,rfl⟩
        rw [hq4e] at hi4 hp4 hr4 hq4
        rw [hq4e,hf4e,hG4e,hU4e] at m4
        obtain ⟨q4r,hq4⟩:=hq4
        have hgl4:G4.length=q4.length:=m4.gl
        obtain ⟨H5,hH5⟩:∃ H,MH Ga Ua4 Gb Ub4 f4 q4 G4 U4=H:=⟨_,rfl⟩
        have F5:MF H5 (Ga.length + 4) (Ga.length + Gb.length + 7) (Ga.length + Gb.length + 8) (Ga.length + Gb.length + 9) Ga Ua4 Gb Ub4 f4 q4 G4 U4:=hH5 ▸ MF.of
        have hm5:hget H5 (Ga.length + Gb.length + 7) = .mp .i8 (fun z=>(f4 z).isSome) (fun z=>.int .i64 ((f4 z).getD 0)):=F5.m
        have hk1:f4 ((pa:Int) * 1099511627776 + (pb:Int))=some (i:Int):=by
         have h1:=m4.pm (pa,pb) (by simp only; omega)
         have h2:(pa,pb)∈q4:=by rw [← hp4]; exact q_mem hi4
         have h3:q4.idxOf (pa,pb)=i:=by rw [← hp4]; exact qix m4.nd hi4
         rw [if_pos h2,h3] at h1
         exact h1
        have hk2:f4 ((ra:Int) * 1099511627776 + (rb:Int))=some ((q4.idxOf (ra,rb):Nat):Int):=by
         have h1:=m4.pm (ra,rb) (by simp only; omega)
         rw [if_pos hr4] at h1
         exact h1
        have hx5:hget H5 (Ga.length + Gb.length + 9 + 3 + i) = .mp .i64 (fun z=>(gm G4 i z).isSome) (fun z=>.int .i64 ((gm G4 i z).getD 0)):=F5.x3 i (by omega)
        have hig:i < G4.length:=by omega
        simp only [hq4e,hf4e,hG4e,hU4e]
        rw [hH5]
        refine hk_drawL 13 mixed (by kernel_rfl) fun K hK=>runs_eval tab_ok ?_
        simp only [List.take_succ_cons,List.take_zero,List.drop_succ_cons,List.drop_zero]
        simp only [ev0,evA,evB,evP,fl,gp,tab,simprocAttr,F5.x0,F5.x1,mpK_len,mpK_get hig,hm5,hk1,hk2,Option.isSome_some,Option.getD_some]
        refine fin_run ?_ (runs_eval tab_ok ?_)
        ·exact ⟨⟨⟨⟨by omega,by omega⟩,by omega,by omega⟩,by omega⟩,by omega,by omega⟩
        simp only [ev0,evA,evB,evP,fl,gp,tab,simprocAttr,hx5]
        refine fin_run ?_ (hK _ ?_)<;>clear hK<;>clear K
        ·first|trivial|trace_state
        refine qd (qa ?_)
        refine hk_region fun K hK=>runs_eval tab_ok ?_
        simp only [ev0,evA,evB,evP,fl,gp,tab,simprocAttr]
        refine fin_run ?_ (hK _ ?_)<;>clear hK<;>clear K
        ·(first|exact trivial|omega|(simp only [In64] at *; omega)|(simp [In64] at *; omega)|(simp_all; done)|skip)
        refine qa ?_
        skip
        have hS4:sP (stR Ga Ua) (stR Gb Ub) (q4.getD i (0,0)) x=some (ra,rb):=by rw [hp4]; exact hS1
        have hbE:Blk.mp .i64 (fun u=>decide (u=x) || (gm G4 i u).isSome) (fun u=>bif decide (u=x) then PV.int .i64 ((q4.idxOf (ra,rb):Nat):Int) else PV.int .i64 ((gm G4 i u).getD 0))=mpB (updM (gm G4 i) x (q4.idxOf (ra,rb):Nat)):=mpB_upd _ _ _
        refine ⟨⟨j + 1,Ua4,Ub4,f4,q4,G4.set i (updM (gm G4 i) x (q4.idxOf (ra,rb):Nat)),U4⟩,_,⟨by simp only; omega,⟨wa4,ra4,wb4,rb4,(m4.put hi4 hr4 hS4).ext (fun k y h=>?_) fun k hk y h=>?_⟩,q4r,hq4⟩,by simp only; omega,le_front (Y:=MH Ga Ua4 Gb Ub4 f4 q4 (G4.set i (updM (gm G4 i) x (q4.idxOf (ra,rb):Nat))) U4) rfl rfl (Z:=[]) (by rw [List.append_nil,hbE,← hH5]; exact mh_set hig _) (MH_hsc (by rw [MH_len]; exact Nat.le_refl _)) (by
         rw [MH_len,List.length_set]
         simp [St.get,lk,scA,sc1]<;>omega)⟩
        ·simp only
         rw [htk]
         rcases h with (h | h) | h
         ·exact .inl h
         ·exact .inr ⟨h.1,List.mem_append.2 (.inl h.2)⟩
         ·exact .inr ⟨h.1,List.mem_append.2 (.inr (by rw [h.2]; simp))⟩
        ·simp only at h
         rw [htk] at h
         rcases h with h | ⟨rfl,h⟩
         ·exact .inl (.inl (.inl h))
         ·rcases List.mem_append.1 h with h | h
          ·exact .inl (.inl (.inr ⟨rfl,h⟩))
          ·exact .inl (.inr ⟨rfl,List.mem_singleton.1 h⟩)
      ·refine hk_region fun K hK=>runs_eval tab_ok ?_
       simp only [ev0,evA,evB,evP,fl,gp,tab,simprocAttr,hm4,hfk,Option.isSome_none,Option.isSome_some,Option.getD_none,Option.getD_some]
       refine fin_run ?_ (hK _ ?_)<;>clear hK<;>clear K
       ·constructor<;>omega
       refine qa (qm ?_)
       refine hk_region fun K hK=>runs_eval tab_ok ?_
       simp only [ev0,evA,evB,evP,fl,gp,tab,simprocAttr]
       refine fin_run trivial (hK _ ?_)<;>clear hK<;>clear K
       refine qa ?_
       refine hk_cond rfl (fun hC6=>?_) (fun hC6=>?_)
       ·(try simp only [nhs] at hC6)
        refine qm ?_
        rw [← hH4]
        have hul3:U3.length=q3.length:=y2.mx.ulen
        refine Fw.hk_drawF (F:=fwP [21]) mixed (by kernel_rfl) fun K hK=>?_
        refine Fw.runsF_op tab_ok (by simp only [ev0,evA,evB,evP,fl,gp,tab,simprocAttr]; rfl) (by trivial) rfl (by show _ < _; exact of_decide_eq_true rfl) rfl rfl ?_
        simp only [ev0,evA,evB,evP,fl,gp,tab,simprocAttr]
        refine Fw.runsF_free tab_ok rfl (by simp only [ev0,evA,evB,evP,fl,gp,tab,simprocAttr]; rfl) (by first|trivial|omega) rfl (by show _ < _; exact of_decide_eq_true rfl) ?_
        simp only [ev0,evA,evB,evP,fl,gp,tab,simprocAttr]
        refine Fw.runsF_op tab_ok (by simp only [ev0,evA,evB,evP,fl,gp,tab,simprocAttr]; rfl) (by trivial) rfl (by show _ < _; exact of_decide_eq_true rfl) rfl rfl ?_
        simp only [ev0,evA,evB,evP,fl,gp,tab,simprocAttr]
        refine runsF_placeG (G:=G3) (U:=U3) (k:=Ga.length + Gb.length + 9) (Q:=P5 Ga Ua4 Gb Ub4 f3 q3) (by omega) (by omega) rfl rfl P5_len rfl rfl (by show _ < _; exact of_decide_eq_true rfl) rfl ?_
        simp only [ev0,evA,evB,evP,fl,gp,tab,simprocAttr]
        refine Fw.runsF_op tab_ok (by simp only [ev0,evA,evB,evP,fl,gp,tab,simprocAttr,hget_P5]; rfl) (by simp only [and_true,true_and]; constructor<;>omega) rfl (by trivial) rfl rfl ?_
        simp only [ev0,evA,evB,evP,fl,gp,tab,simprocAttr]
        refine Fw.runsF_nil (hK _ ?_)<;>clear hK<;>clear K
        refine qa ?_
        have hcE:Blk.mp .i8 (fun u=>decide (u=(ra:Int) * 1099511627776 + (rb:Int)) || (f3 u).isSome) (fun u=>bif decide (u=(ra:Int) * 1099511627776 + (rb:Int)) then PV.int .i64 (U3.length:Nat) else PV.int .i64 ((f3 u).getD 0))=mpC (updM f3 (kyP (ra,rb)) (q3.length:Nat)):=by
         rw [hul3]
         exact mpC_upd _ _ _
        rw [hcE,hset_P5]
        refine hk_le (s1:=(fun z:MS=>⟨164,[(5,.ptr 0 0),(9,.ptr 1 0),(10,.ptr (Ga.length + 4) 0),(11,.ptr (Ga.length + Gb.length + 9) 0),(12,.mptr (Ga.length + Gb.length + 7)),(14,.sls (Ga.length + Gb.length + 8) 0 z.q.length 2),(15,.p (.int .i64 (i:Nat))),(16,.p (.ptr [.int .i64 (pa:Nat),.int .i64 (pb:Nat)])),(18,.p (.int .i64 x)),(21,.p (.ptr [.int .i64 (ra:Nat),.int .i64 (rb:Nat)])),(74,.p (.list (il Ls))),(75,.p (.int .i64 (Ls.length:Nat))),(76,.p (.int .i64 (j:Nat)))],MH Ga z.Ua Gb z.Ub z.f z.q z.G z.U⟩) ⟨j,Ua4,Ub4,updM f3 (kyP (ra,rb)) (q3.length:Nat),q3,G3++[nul],U3++[(U3.length:Int)]⟩) _ (le_new (G:=G3) (U:=U3) (by omega) rfl rfl rfl ?_) ?_
        ·obtain ⟨ρ,hρ⟩:∃ ρ,0 :: (G3.length + 4) :: (G3.length + 5) :: List.range' 3 (G3.length + 1)=ρ:=⟨_,rfl⟩
         have hρ0:ρ.getD 0 0=0:=by rw [← hρ]; rfl
         have hρl:0 < ρ.length:=by rw [← hρ]; simp
         rw [hρ]
         have e1:=end_pi1 (a:=Ga.length + Gb.length + 9) (i:=0) (ρ:=ρ) (by omega)
         have e2:=end_pi1 (a:=Ga.length + Gb.length + 9) (i:=1) (ρ:=ρ) (by omega)
         have e3:=end_pi1 (a:=Ga.length + Gb.length + 9) (i:=Ga.length + 4) (ρ:=ρ) (by omega)
         have e6:=end_pi1 (a:=Ga.length + Gb.length + 9) (i:=Ga.length + Gb.length + 7) (ρ:=ρ) (by omega)
         have e5:=end_pi1 (a:=Ga.length + Gb.length + 9) (i:=Ga.length + Gb.length + 8) (ρ:=ρ) (by omega)
         have e4:=end_pi2 (a:=Ga.length + Gb.length + 9) (i:=0) (ρ:=ρ) hρl
         have hl:Ga.length + Gb.length + 10≤(List.range (Ga.length + Gb.length + 9)++List.map (fun x=>Ga.length + Gb.length + 9 + x) ρ).length:=by rw [List.length_append,List.length_range,List.length_map]; omega
         rw [hρ0] at e4
         simp only [Nat.add_zero] at e4
         generalize List.range (Ga.length + Gb.length + 9)++List.map (fun x=>Ga.length + Gb.length + 9 + x) ρ=π at e1 e2 e3 e4 e5 e6 hl ⊢
         simp only [LeS,Go.Pv.ren,ren1,e1,e2,e3,e4,e5,e6,scA,sc1]
         simp [St.get,lk]<;>omega
        have hpE:(pf q3).take (q3.length * 2)++opl (flat [PV.agg [.int .i64 (ra:Nat),.int .i64 (rb:Nat)]])=pf (q3++[(ra,rb)]):=by
         rw [List.take_of_length_le (by rw [pf_len]; exact Nat.le_refl _),pf_app,pf_one]; rfl
        have hpK:(((pf q3).drop 0).take (q3.length * 2)).all cellOk=true:=by
         rw [List.drop_zero,List.take_of_length_le (by rw [pf_len]; exact Nat.le_refl _)]; exact pf_ok _
        refine hk_region fun K hK=>runs_eval tab_ok ?_
        simp only [ev0,evA,evB,evP,fl,gp,tab,simprocAttr]
        refine fin_stop ?_ (runs_op (appS_does (sz:=2) (k:=Ga.length + Gb.length + 8) (lo:=0) (len:=q3.length) (c:=pf q3) (l:=[PV.agg [.int .i64 (ra:Nat),.int .i64 (rb:Nat)]]) tab_ok rfl rfl rfl rfl rfl rfl (by decide) (by decide) rfl (MF.of).w rfl (by intro x hx; simp at hx; subst hx; rfl) (by intro x hx; simp at hx; subst hx; rfl) (show 0 < 1 by decide) (by rw [pf_len]; omega) hpK (by show (q3.length + 1) * 16≤_; omega) (by show (q3.length + 1) * 2≤_; omega) (by show q3.length + 1≤_; omega)) rfl (by simp only [dstOk,Nat.reduceLT]) (runs_eval tab_ok ?_))
        ·(first|exact trivial|omega|(simp only [In64] at *; omega)|(simp [In64] at *; omega)|(simp_all; done)|skip)
        simp only [ev0,evA,evB,evP,fl,gp,tab,simprocAttr]
        refine fin_run ?_ (hK _ ?_)<;>clear hK<;>clear K
        ·(first|exact trivial|omega|(simp only [In64] at *; omega)|(simp [In64] at *; omega)|(simp_all; done)|skip)
        refine qa ?_
        refine hk_le (s1:=(fun z:MS=>⟨164,[(5,.ptr 0 0),(9,.ptr 1 0),(10,.ptr (Ga.length + 4) 0),(11,.ptr (Ga.length + Gb.length + 9) 0),(12,.mptr (Ga.length + Gb.length + 7)),(14,.sls (Ga.length + Gb.length + 8) 0 z.q.length 2),(15,.p (.int .i64 (i:Nat))),(16,.p (.ptr [.int .i64 (pa:Nat),.int .i64 (pb:Nat)])),(18,.p (.int .i64 x)),(21,.p (.ptr [.int .i64 (ra:Nat),.int .i64 (rb:Nat)])),(74,.p (.list (il Ls))),(75,.p (.int .i64 (Ls.length:Nat))),(76,.p (.int .i64 (j:Nat)))],MH Ga z.Ua Gb z.Ub z.f z.q z.G z.U⟩) ⟨j,Ua4,Ub4,updM f3 (kyP (ra,rb)) (q3.length:Nat),q3++[(ra,rb)],G3++[nul],U3++[(U3.length:Int)]⟩) _ (le_row (A:=Ga) (B:=Gb) (Ua:=Ua4) (Ub:=Ub4) (G:=G3++[nul]) (U:=U3++[(U3.length:Int)]) (f:=updM f3 (kyP (ra,rb)) (q3.length:Nat)) (b0:=.dead) rfl hpE rfl (by show hset _ _ _++_=_; rw [mh_dead]) ?_) ?_
        ·intro p hp
         simp only [List.mem_cons,List.not_mem_nil,or_false] at hp
         rcases hp with rfl | rfl | rfl | rfl | rfl | rfl | rfl | rfl | rfl | rfl | rfl | rfl | rfl
         ·exact .inr ⟨rfl,.inl ⟨_,_,rfl,by omega,by omega⟩⟩
         ·exact .inr ⟨rfl,.inl ⟨_,_,rfl,by omega,by omega⟩⟩
         ·exact .inr ⟨rfl,.inl ⟨_,_,rfl,by omega,by omega⟩⟩
         ·exact .inr ⟨rfl,.inl ⟨_,_,rfl,by omega,by rw [List.length_append]; simp<;>omega⟩⟩
         ·exact .inr ⟨rfl,.inr (.inl ⟨_,rfl,by omega,by omega⟩)⟩
         ·refine .inl ⟨(q3++[(ra,rb)]).length,rfl,?_⟩
          show AV.sls (List.length (MH Ga Ua4 Gb Ub4 (updM f3 (kyP (ra,rb)) (q3.length:Nat)) q3 (G3++[nul]) (U3++[(U3.length:Int)]))) 0 (q3.length + 1) 2=AV.sls (Ga.length + Gb.length + 12 + (G3++[nul]).length) 0 (q3++[(ra,rb)]).length 2
          have hle:(q3++[(ra,rb)]).length=q3.length + 1:=by simp
          rw [MH_len,hle]
         all_goals exact .inr ⟨rfl,.inr (.inr ⟨_,rfl⟩)⟩
        simp only
        have hi4:i < (q3++[(ra,rb)]).length:=by first|exact hi3|(rw [List.length_append]; omega)
        have hp4:(q3++[(ra,rb)]).getD i (0,0)=(pa,pb):=by first|exact hp3|(rw [getD_q hi3]; exact hp3)
        have m4:MX (stR Ga Ua) (stR Gb Ub) (q3++[(ra,rb)]) (updM f3 (kyP (ra,rb)) (q3.length:Nat)) (G3++[nul]) (U3++[(U3.length:Int)]) (fun k y=>k < i∨(k=i∧y∈Ls.take j)):=y2.mx.add hm (by simp only; omega) hwr (fun y h=>by
         have h2:q3.length < i∨(q3.length=i∧y∈Ls.take j):=h
         rcases h2 with h2 | ⟨h2,_⟩<;>omega)
        have hr4:(ra,rb)∈(q3++[(ra,rb)]):=by simp
        have hq4:∃ r',(q3++[(ra,rb)])=q++r':=⟨q3r++[(ra,rb)],by rw [hq3,List.append_assoc]⟩
        obtain ⟨q4,hq4e⟩:∃ q4,(q3++[(ra,rb)])=q4:=⟨_,rfl⟩
        obtain ⟨f4,hf4e⟩:∃ f4,(updM f3 (kyP (ra,rb)) (q3.length:Nat))=f4:=⟨_,rfl⟩
        obtain ⟨G4,hG4e⟩:∃ G4,(G3++[nul])=G4:=⟨_,rfl⟩
        obtain ⟨U4,hU4e⟩:∃ U4,(U3++[(U3.length:Int)])=U4:=⟨_,rfl⟩
        rw [hq4e] at hi4 hp4 hr4 hq4
        rw [hq4e,hf4e,hG4e,hU4e] at m4
        obtain ⟨q4r,hq4⟩:=hq4
        have hgl4:G4.length=q4.length:=m4.gl
        obtain ⟨H5,hH5⟩:∃ H,MH Ga Ua4 Gb Ub4 f4 q4 G4 U4=H:=⟨_,rfl⟩
        have F5:MF H5 (Ga.length + 4) (Ga.length + Gb.length + 7) (Ga.length + Gb.length + 8) (Ga.length + Gb.length + 9) Ga Ua4 Gb Ub4 f4 q4 G4 U4:=hH5 ▸ MF.of
        have hm5:hget H5 (Ga.length + Gb.length + 7) = .mp .i8 (fun z=>(f4 z).isSome) (fun z=>.int .i64 ((f4 z).getD 0)):=F5.m
        have hk1:f4 ((pa:Int) * 1099511627776 + (pb:Int))=some (i:Int):=by
         have h1:=m4.pm (pa,pb) (by simp only; omega)
         have h2:(pa,pb)∈q4:=by rw [← hp4]; exact q_mem hi4
         have h3:q4.idxOf (pa,pb)=i:=by rw [← hp4]; exact qix m4.nd hi4
         rw [if_pos h2,h3] at h1
         exact h1
        have hk2:f4 ((ra:Int) * 1099511627776 + (rb:Int))=some ((q4.idxOf (ra,rb):Nat):Int):=by
         have h1:=m4.pm (ra,rb) (by simp only; omega)
         rw [if_pos hr4] at h1
         exact h1
        have hx5:hget H5 (Ga.length + Gb.length + 9 + 3 + i) = .mp .i64 (fun z=>(gm G4 i z).isSome) (fun z=>.int .i64 ((gm G4 i z).getD 0)):=F5.x3 i (by omega)
        have hig:i < G4.length:=by omega
        simp only [hq4e,hf4e,hG4e,hU4e]
        rw [hH5]
        refine hk_drawL 13 mixed (by kernel_rfl) fun K hK=>runs_eval tab_ok ?_
        simp only [List.take_succ_cons,List.take_zero,List.drop_succ_cons,List.drop_zero]
        simp only [ev0,evA,evB,evP,fl,gp,tab,simprocAttr,F5.x0,F5.x1,mpK_len,mpK_get hig,hm5,hk1,hk2,Option.isSome_some,Option.getD_some]
        refine fin_run ?_ (runs_eval tab_ok ?_)
        ·exact ⟨⟨⟨⟨by omega,by omega⟩,by omega,by omega⟩,by omega⟩,by omega,by omega⟩
        simp only [ev0,evA,evB,evP,fl,gp,tab,simprocAttr,hx5]
        refine fin_run ?_ (hK _ ?_)<;>clear hK<;>clear K
        ·first|trivial|trace_state
        refine qd (qa ?_)
        refine hk_region fun K hK=>runs_eval tab_ok ?_
        simp only [ev0,evA,evB,evP,fl,gp,tab,simprocAttr]
        refine fin_run ?_ (hK _ ?_)<;>clear hK<;>clear K
        ·(first|exact trivial|omega|(simp only [In64] at *; omega)|(simp [In64] at *; omega)|(simp_all; done)|skip)
        refine qa ?_
        skip
        have hS4:sP (stR Ga Ua) (stR Gb Ub) (q4.getD i (0,0)) x=some (ra,rb):=by rw [hp4]; exact hS1
        have hbE:Blk.mp .i64 (fun u=>decide (u=x) || (gm G4 i u).isSome) (fun u=>bif decide (u=x) then PV.int .i64 ((q4.idxOf (ra,rb):Nat):Int) else PV.int .i64 ((gm G4 i u).getD 0))=mpB (updM (gm G4 i) x (q4.idxOf (ra,rb):Nat)):=mpB_upd _ _ _
        refine ⟨⟨j + 1,Ua4,Ub4,f4,q4,G4.set i (updM (gm G4 i) x (q4.idxOf (ra,rb):Nat)),U4⟩,_,⟨by simp only; omega,⟨wa4,ra4,wb4,rb4,(m4.put hi4 hr4 hS4).ext (fun k y h=>?_) fun k hk y h=>?_⟩,q4r,hq4⟩,by simp only; omega,le_front (Y:=MH Ga Ua4 Gb Ub4 f4 q4 (G4.set i (updM (gm G4 i) x (q4.idxOf (ra,rb):Nat))) U4) rfl rfl (Z:=[]) (by rw [List.append_nil,hbE,← hH5]; exact mh_set hig _) (MH_hsc (by rw [MH_len]; exact Nat.le_refl _)) (by
         rw [MH_len,List.length_set]
         simp [St.get,lk,scA,sc1]<;>omega)⟩
        ·simp only
         rw [htk]
         rcases h with (h | h) | h
         ·exact .inl h
         ·exact .inr ⟨h.1,List.mem_append.2 (.inl h.2)⟩
         ·exact .inr ⟨h.1,List.mem_append.2 (.inr (by rw [h.2]; simp))⟩
        ·simp only at h
         rw [htk] at h
         rcases h with h | ⟨rfl,h⟩
         ·exact .inl (.inl (.inl h))
         ·rcases List.mem_append.1 h with h | h
          ·exact .inl (.inl (.inr ⟨rfl,h⟩))
          ·exact .inl (.inr ⟨rfl,List.mem_singleton.1 h⟩)
       ·(try simp only [nhs] at hC6)
        simp at hC6
   ·(try simp only [nhs] at hC4)
    refine qj (qc (qc (qf (qd (qa ?_)))))
    refine hk_region fun K hK=>runs_eval tab_ok ?_
    simp only [ev0,evA,evB,evP,fl,gp,tab,simprocAttr]
    refine fin_run ?_ (hK _ ?_)<;>clear hK<;>clear K
    ·(first|exact trivial|omega|(simp only [In64] at *; omega)|(simp [In64] at *; omega)|(simp_all; done)|skip)
    refine qa ?_
    have hj:j=Ls.length:=by omega
    refine ⟨⟨i + 1,Ua3,Ub3,f3,q3,G3,U3⟩,_,⟨by simp only; omega,⟨y2.wa,y2.ra,y2.wb,y2.rb,y2.mx.ext (fun k y h=>?_) fun k hk y h=>?_⟩⟩,by simp only; omega,le_front (Y:=MH Ga Ua3 Gb Ub3 f3 q3 G3 U3) rfl rfl (Z:=[]) (by rw [List.append_nil,hH3]) (MH_hsc (by rw [MH_len]; exact Nat.le_refl _)) (by
     rw [MH_len]
     simp [St.get,lk,scA,sc1]<;>omega)⟩
    ·simp only
     omega
    ·simp only at h
     by_cases hk2:k < i
     ·exact .inl (.inl hk2)
     ·obtain rfl:k=i:=by omega
      by_cases hy:y∈Ls
      ·exact .inl (.inr ⟨rfl,by rw [hj,List.take_length]; exact hy⟩)
      ·right
       rw [hp3]
       unfold sP
       simp only
       rw [stR_of ⟨pa1,pa2⟩]
       unfold stp
       cases hd:gm Ga pa y with
       | none=>rfl
       | some d =>
        exfalso
        have he:=z2.wa.ent pa y d pa1 hd
        refine hy ?_
        rw [← hLs,mem_lts,hd]
        exact ⟨he.2.2.2,rfl⟩
  ·(try simp only [nhs] at hC3)
   have hi:i=q.length:=by omega
   have mx:=z2.mx
   rw [hi] at mx
   have hltA:∀ p∈q,∀ x v,stR Ga Ua p.1 x=some v→x ≠ 0∧-26≤x∧x≤26:=fun p hp x v h=>hCa.cg.lt p.1 (hqs p hp).1 x v h
   have wg:=mx.wg hltA
   have sy:=mx.sym hCa.cg.inv hCb.cg.inv hltA
   have hgp:0 < G.length:=by
    have h2:0 < q.length:=mx.pg.pos.1
    omega
   refine qj (qc (qc (qf (qa (qm ?_)))))
   rw [← hH]
   refine hk_regE 1 (runs_cut fun K hK=>?_)
   simp only [List.take_succ_cons,List.take_zero]
   refine runs_eval tab_ok ?_
   simp only [ev0,evA,evB,evP,fl,gp,tab,simprocAttr]
   refine fin_run trivial (hK _ ?_)<;>clear hK<;>clear K
   refine ⟨_,_,rfl,rfl,by simp only [dstOk,Nat.reduceLT],basis_E (G:=G) (U:=U) (Q:=P5 Ga Ua2 Gb Ub2 f q) rfl rfl wg hgp sy (by omega) (by rw [P5_len]; rfl) (by rw [P5_len]; rfl),fun av H' hO=>?_⟩
   obtain ⟨lst,fw,R,rfl,rfl,gt,hrt,hf⟩:=hO
   refine runs_cut fun K hK=>?_
   simp only [List.drop_succ_cons,List.drop_zero]
   refine runs_eval tab_ok ?_
   simp only [ev0,evA,evB,evP,fl,gp,tab,simprocAttr]
   refine fin_run trivial (hK _ ?_)<;>clear hK<;>clear K
   refine qa (qm ?_)
   have hll:lst.length≤10000000:=Nat.le_trans (nodup_len _ _ gt.nd fun x hx=>(hrt x hx).1) (by omega)
   obtain ⟨hbt,hbw⟩:=bas_big gt hll
   rw [mx.st] at gt hbt hbw ⊢
   obtain ⟨bs,hbs⟩:∃ bs,basS (stQ (stR Ga Ua) (stR Gb Ub) q) lst fw=bs:=⟨_,rfl⟩
   rw [hbs] at hbt hbw ⊢
   refine hk_le (s1:=⟨164,[(5,.ptr 0 0),(24,.p (.list (ll bs)))],[rb0]⟩) _ (le_front (Y:=[rb0]) rfl rfl rfl (by simp [hsc,rb0,scA,sc1]) (by simp [St.get,lk,scA,sc1])) ?_
   refine hk_region fun K hK=>runs_eval tab_ok ?_
   simp only [ev0,evA,evB,evP,fl,gp,tab,simprocAttr]
   refine fin_run trivial (hK _ ?_)<;>clear hK<;>clear K
   refine qa (qm (qm ?_))
   refine hk_region fun K hK=>runs_eval tab_ok ?_
   simp only [ev0,evA,evB,evP,fl,gp,tab,simprocAttr,ll_length]
   refine fin_run trivial (hK _ ?_)<;>clear hK<;>clear K
   refine qa (ql ?_)
   refine hk_loop (ι:=Nat) (fun k=>⟨164,[(5,.ptr 0 0),(24,.p (.list (ll bs))),(25,.p (.int .i64 ((tot (bs.take k):Nat):Int))),(143,.p (.list (ll bs))),(144,.p (.int .i64 (bs.length:Nat))),(145,.p (.int .i64 (k:Nat)))],[rb0]⟩) (fun k=>k≤bs.length) (fun k=>bs.length - k) 0 (Nat.zero_le _) [0] (by simp only [leq,leA,ev0,evA,evB,evP,fl,gp,tab,simprocAttr,rb0]<;>first|trivial|exact ⟨rfl,trivial⟩|trace_state) fun k hk=>?_
   refine qm ?_
   refine hk_region fun K hK=>runs_eval tab_ok ?_
   simp only [ev0,evA,evB,evP,fl,gp,tab,simprocAttr]
   refine fin_run trivial (hK _ ?_)<;>clear hK<;>clear K
   refine qa (qm ?_)
   refine hk_cond rfl (fun hC7=>?_) (fun hC7=>?_)
   ·(try simp only [nhs] at hC7)
    have hk:k < bs.length:=by omega
    have htb:=tot_tk bs (k + 1)
    have hte:tot (bs.take (k + 1))=tot (bs.take k) + (bs.getD k []).length:=by rw [take_snoc (d:=[]) hk,tot_sn]
    refine qh (qa (qm (ql (qm ?_))))
    refine hk_region fun K hK=>runs_eval tab_ok ?_
    simp only [ev0,evA,evB,evP,fl,gp,tab,simprocAttr,ll_length,ll_get hk]
    refine fin_run ?_ (hK _ ?_)<;>clear hK<;>clear K
    ·omega
    refine qa ?_
    refine hk_region fun K hK=>runs_eval tab_ok ?_
    simp only [ev0,evA,evB,evP,fl,gp,tab,simprocAttr,il_length]
    refine fin_run ?_ (hK _ ?_)<;>clear hK<;>clear K
    ·(first|exact trivial|omega|(simp only [In64] at *; omega)|(simp [In64] at *; omega)|(simp_all; done)|skip)
    refine qd (qa ?_)
    refine hk_region fun K hK=>runs_eval tab_ok ?_
    simp only [ev0,evA,evB,evP,fl,gp,tab,simprocAttr]
    refine fin_run ?_ (hK _ ?_)<;>clear hK<;>clear K
    ·(first|exact trivial|omega|(simp only [In64] at *; omega)|(simp [In64] at *; omega)|(simp_all; done)|skip)
    refine qa ?_
    have e:((tot (bs.take k):Nat):Int) + ((bs.getD k []).length:Nat)=((tot (bs.take (k + 1)):Nat):Int):=by omega
    rw [e]
    refine ⟨k + 1,[0],by omega,by omega,by simp only [leq,leA,ev0,evA,evB,evP,fl,gp,tab,simprocAttr,rb0]<;>first|trivial|exact ⟨rfl,trivial⟩|trace_state⟩
   ·(try simp only [nhs] at hC7)
    have hk:k=bs.length:=by omega
    rw [hk,List.take_length]
    refine qj (qc (qc (qf (qa (qm (qm ?_))))))
    by_cases g37a:20 < (bs.length:Int)
    ·refine hk_region fun K hK=>runs_eval tab_ok ?_
     simp only [ev0,evA,evB,evP,fl,gp,tab,simprocAttr,ll_length,decide_eq_true g37a]
     refine fin_run trivial (hK _ ?_)<;>clear hK<;>clear K
     refine qa ?_
     refine hk_cond rfl (fun hC8=>?_) (fun hC8=>?_)
     ·refine qm ?_
      refine hk_region fun K hK=>runs_eval tab_ok ?_
      simp only [ev0,evA,evB,evP,fl,gp,tab,simprocAttr]
      refine fin_stop trivial (runs_call (ffault_c 9 0) rfl rfl rfl (by simp only [dstOk,Nat.reduceLT]) (by repeat (first|exact trivial|constructor)) (runs_eval tab_ok ?_))
      simp only [ev0,evA,evB,evP,fl,gp,tab,simprocAttr]
      refine fin_run ?_ (hK _ ?_)<;>clear hK<;>clear K
      ·(first|exact trivial|omega|(simp only [In64] at *; omega)|(simp [In64] at *; omega)|(simp_all; done)|skip)
      refine qa (qk (qb ?_))
      simp only [Try.results31,PostG,endG,rvsA,rvA,mkTup,ev0,evA,evB,evP,fl,gp,tab,simprocAttr]
      refine ⟨.p (.tup [.nil,fl (9,0)]),[],?_,[],rfl,rfl,⟨rfl,List.nodup_nil,trivial,trivial⟩⟩
      rw [hP]
      refine ⟨.inr (.inr ⟨hc1,hc2,_,_,_,_,q,lst,fw,hCa,hCb,mx.pg,gt,?_⟩),rfl⟩
      rw [hbs]
      exact .inl ⟨.inl (by omega),rfl⟩
     ·cases hC8
    ·refine hk_region fun K hK=>runs_eval tab_ok ?_
     simp only [ev0,evA,evB,evP,fl,gp,tab,simprocAttr,ll_length,decide_eq_false g37a]
     refine fin_run trivial (hK _ ?_)<;>clear hK<;>clear K
     refine qa ?_
     refine hk_cond rfl (fun hC8=>?_) (fun hC8=>?_)
     ·(try simp only [nhs] at hC8)
      refine qm ?_
      refine hk_region fun K hK=>runs_eval tab_ok ?_
      simp only [ev0,evA,evB,evP,fl,gp,tab,simprocAttr]
      refine fin_stop trivial (runs_call (ffault_c 9 0) rfl rfl rfl (by simp only [dstOk,Nat.reduceLT]) (by repeat (first|exact trivial|constructor)) (runs_eval tab_ok ?_))
      simp only [ev0,evA,evB,evP,fl,gp,tab,simprocAttr]
      refine fin_run ?_ (hK _ ?_)<;>clear hK<;>clear K
      ·(first|exact trivial|omega|(simp only [In64] at *; omega)|(simp [In64] at *; omega)|(simp_all; done)|skip)
      refine qa (qk (qb ?_))
      simp only [Try.results31,PostG,endG,rvsA,rvA,mkTup,ev0,evA,evB,evP,fl,gp,tab,simprocAttr]
      have h8:(2000:Int) < (tot bs:Nat):=by first|exact hC8|simpa using hC8
      refine ⟨.p (.tup [.nil,fl (9,0)]),[],?_,[],rfl,rfl,⟨rfl,List.nodup_nil,trivial,trivial⟩⟩
      rw [hP]
      refine ⟨.inr (.inr ⟨hc1,hc2,_,_,_,_,q,lst,fw,hCa,hCb,mx.pg,gt,?_⟩),rfl⟩
      rw [hbs]
      exact .inl ⟨.inr (by omega),rfl⟩
     ·(try simp only [nhs] at hC8)
      refine qh (qa (qm ?_))
      refine hk_region fun K hK=>runs_eval tab_ok ?_
      simp only [ev0,evA,evB,evP,fl,gp,tab,simprocAttr]
      refine fin_run ?_ (hK _ ?_)<;>clear hK<;>clear K
      ·(first|exact trivial|omega|(simp only [In64] at *; omega)|(simp [In64] at *; omega)|(simp_all; done)|skip)
      refine qa (qk ?_)
      simp only [Try.results31,PostG,endG,rvsA,rvA,mkTup,ev0,evA,evB,evP,fl,gp,tab,simprocAttr]
      have h8:¬ (2000:Int) < (tot bs:Nat):=by first|exact hC8|simpa using hC8
      refine ⟨.p (.tup [.list (ll bs),fl (0,0)]),[],?_,[],rfl,rfl,⟨rfl,List.nodup_nil,trivial,trivial⟩⟩
      rw [hP]
      refine ⟨.inr (.inr ⟨hc1,hc2,_,_,_,_,q,lst,fw,hCa,hCb,mx.pg,gt,?_⟩),rfl⟩
      rw [hbs]
      exact .inr ⟨by omega,rfl⟩
end Go.Proofs.Ytneglephfhiamaa

set_option linter.all false
namespace Go.Proofs.Ytneglephfhiamaa
open Go.Pv
structure MeetF (l m b:List (List Int)):Prop where
 len:b.length≤20
 ok:∀ w∈b,Ok w∧Red w
 tot:tot b≤2000
 rank:(eP (stE (folded l)) (stE (folded m)):Int) - vP (stE (folded l)) (stE (folded m)) + 1=b.length
 inn:∀ w∈b,memB l w=true∧memB m w=true
 fold:(eS (b.map short):Int) - vS (b.map short) + 1=b.length
 mem:∀ w,memB b w=(memB l w && memB m w)
section
variable {l m:List (List Int)} {A B:Nat→Int→Option Nat} {lA lB lst:List Nat} {q:List (Nat × Nat)} {f:Wy}
theorem eS_tot (h1:(ckL l).1=0):eS (l.map short)≤tot l:=by
 obtain ⟨v1,v2,_,_⟩:=ckL_cnt h1
 have:=folded_len l fun w hw=>((ckL_fold h1).1 w hw).1
 have:=tot_short l
 omega
theorem vS_le (h1:(ckL l).1=0):vS (l.map short)≤2 * tot l + 1:=by
 obtain ⟨v1,v2,_,_⟩:=ckL_cnt h1
 have hp:=plS_len (folded l)
 have:=eS_tot h1
 omega
end
theorem meet_hv {l m:List (List Int)} (h1:lwS l=false) (h2:lwS m=false):(ckL l).1=0→(ckL m).1=0→vS (l.map short) * vS (m.map short)≤10000000:=fun c1 c2=>by
 have a1:=vS_le c1
 have a2:=vS_le c2
 obtain ⟨_,_,t1⟩:=lw_no h1
 obtain ⟨_,_,t2⟩:=lw_no h2
 have b1:tot l≤120:=Nat.le_of_not_lt fun h=>t1 h c1
 have b2:tot m≤120:=Nat.le_of_not_lt fun h=>t2 h c2
 have:=Nat.mul_le_mul (show vS (l.map short)≤241 by omega) (show vS (m.map short)≤241 by omega)
 omega
theorem MeetO.pure {l m:List (List Int)} {r:AV} (h:MeetO l m r):∃ v,r = .p v:=by
 rcases h with ⟨_,rfl⟩ | ⟨_,_,rfl⟩ | ⟨_,_,A,lA,B,lB,q,lst,f,_,_,_,_,⟨_,rfl⟩ | ⟨_,rfl⟩⟩<;>exact ⟨_,rfl⟩
theorem Meet_E {s:St} {o:Oper} {fo:Operand} {args:Array Operand} {ts:Array TypeId} (ho:o.op = .call { callee:=.value fo,args:=args,argTypes:=ts }) (hfo:s.ev fo = .p (.fn 31 []))
  (L M:List (List Int)) (hl:L.length≤1000000000) (hw:∀ w∈L,w.length≤1000000000) (hl2:M.length≤1000000000) (hw2:∀ w∈M,w.length≤1000000000) (hgL:(ckL L).1=0→Good L) (hgM:(ckL M).1=0→Good M) (hv:(ckL L).1=0→(ckL M).1=0→vS (L.map short) * vS (M.map short)≤10000000)
  (hargs:args.toList.map s.ev++([]:List PV).map .p=[.p (.list (ll L)),.p (.list (ll M))]) :
  DoesE Try.prog o s (fun av H'=>MeetO L M av∧H' = s.H):=by
 have:=call_doesE (ks:=[]) ho hfo (meet_e L M hl hw hl2 hw2 hgL hgM hv) (by rw [hargs]; exact ⟨⟨trivial,rfl⟩,⟨trivial,rfl⟩,trivial⟩) trivial List.nodup_nil (fun k hk=>by cases hk) rfl (by
  rintro r H1 ⟨hb,rfl⟩
  obtain ⟨v,rfl⟩:=hb.pure
  rfl)
 intro C m a w K Q R hK
 refine this C m a w K Q R fun v m' w' av H' ⟨r,H1,⟨e0,e1⟩,e4,e5⟩ R2 hv=>hK v m' w' av H' ⟨?_,?_⟩ R2 hv
 ·obtain ⟨x,rfl⟩:=e0.pure
  rw [e4]; exact e0
 ·rw [e5,e1]
  simp only [List.map_nil,putM,List.append_nil]
end Go.Proofs.Ytneglephfhiamaa

set_option linter.all false
namespace Go.Proofs.Ytneglephfhiamaa
open Go.Pv
def tC (p q:Int):Int:=if p < q then 1 else -1
def tS (x:Int):Int:=if 0 < x then 1 else -1
def tP:Int→List Int→Int
 | _,[]=>0
 | p,x :: w=>tC p x + tS x + tP (-x) w
def tL:Int→List Int→Int
 | p,[]=>p
 | _,x :: w=>tL (-x) w
def Rdy:Int→List Int→Prop
 | _,[]=>True
 | p,x :: w=>x ≠ 0∧x ≠ p∧Rdy (-x) w
def tF (p:Int) (s:List Int) (r:Int):Int:=tP p s + tC (tL p s) r
theorem tC_neg {p q:Int} (h:p ≠ q):tC q p = - tC p q:=by unfold tC; split<;>split<;>omega
theorem tS_neg {x:Int} (h:x ≠ 0):tS (-x) = - tS x:=by unfold tS; split<;>split<;>omega
theorem tP_app (b:List Int):∀ (a:List Int) (p:Int),tP p (a++b)=tP p a + tP (tL p a) b
 | [],p=>by simp [tP,tL]
 | x :: a,p=>by
  show tC p x + tS x + tP (-x) (a++b)=tC p x + tS x + tP (-x) a + tP (tL (-x) a) b
  rw [tP_app b a]; omega
theorem tL_app (b:List Int):∀ (a:List Int) (p:Int),tL p (a++b)=tL (tL p a) b
 | [],p=>rfl
 | x :: a,p=>tL_app b a (-x)
theorem rdy_app {b:List Int} : ∀ {a:List Int} {p:Int},Rdy p (a++b)↔Rdy p a∧Rdy (tL p a) b
 | [],p=>by simp [Rdy,tL]
 | x :: a,p=>by
  show (x ≠ 0∧x ≠ p∧Rdy (-x) (a++b))↔(x ≠ 0∧x ≠ p∧Rdy (-x) a)∧Rdy (tL (-x) a) b
  rw [rdy_app]
  constructor
  ·rintro ⟨h1,h2,h3,h4⟩; exact ⟨⟨h1,h2,h3⟩,h4⟩
  ·rintro ⟨⟨h1,h2,h3⟩,h4⟩; exact ⟨h1,h2,h3,h4⟩
theorem Rdy.w0 {p:Int} : ∀ {w:List Int},Rdy p w→Rdy 0 w
 | [],_=>trivial
 | _ :: _,h=>⟨h.1,h.1,h.2.2⟩
theorem tL_nz {p:Int} : ∀ {w:List Int} {p:Int},Rdy p w→w ≠ []→tL p w ≠ 0
 | [],_,_,h=>absurd rfl h
 | [x],p,h,_=>by
  show -x ≠ 0
  have:=h.1; omega
 | x :: y :: w,p,h,_=>tL_nz (p:=p) (w:=y :: w) h.2.2 (by simp)
theorem tF_odd:∀ (s:List Int) (p r:Int),tF p s r % 2=1
 | [],p,r=>by
  show (0 + tC p r) % 2=1
  unfold tC; split<;>decide
 | x :: s,p,r=>by
  have:=tF_odd s (-x) r
  show (tC p x + tS x + tP (-x) s + tC (tL (-x) s) r) % 2=1
  unfold tF at this
  have h1:tC p x=1∨tC p x = -1:=by unfold tC; split<;>simp
  have h2:tS x=1∨tS x = -1:=by unfold tS; split<;>simp
  omega
theorem tL_back (x:Int) (s:List Int) (r:Int):tL r (back (x :: s))=x:=by
 rw [back_cons,tL_app]
 show - -x=x
 omega
theorem tF_back:∀ (s:List Int) (p r:Int),Rdy p s→tL p s ≠ r→tF r (back s) p = - tF p s r
 | [],p,r,_,h=>by
  show 0 + tC r p = -(0 + tC p r)
  rw [tC_neg (show p ≠ r from h)]; omega
 | x :: s,p,r,hr,h=>by
  have ih:=tF_back s (-x) r hr.2.2 h
  unfold tF at ih ⊢
  rw [tL_back,back_cons,tP_app]
  show tP r (back s) + (tC (tL r (back s)) (-x) + tS (-x) + 0) + tC x p = -(tC p x + tS x + tP (-x) s + tC (tL (-x) s) r)
  rw [tS_neg hr.1,tC_neg (fun e=>hr.2.1 e.symm)]
  omega
theorem tri {p q r:Int} (h1:p ≠ q) (h2:q ≠ r) (h3:p ≠ r):tC p q + tC q r - tC p r=1∨tC p q + tC q r - tC p r = -1:=by
 unfold tC
 split<;>split<;>split<;>omega
def Pos (w:List Int):Prop:=w ≠ []∧0 < tF 0 w 0
theorem pos_mul {a s b:List Int} (h1:Rdy 0 (a++s)) (h2:Rdy 0 (back s++b)) (h3:Rdy 0 (a++b)) (p1:Pos (a++s)) (p2:Pos (back s++b)):Pos (a++b):=by
 obtain ⟨n1,p1⟩:=p1
 obtain ⟨n2,p2⟩:=p2
 obtain ⟨ra,rs⟩:=rdy_app.1 h1
 obtain ⟨_,rb⟩:=rdy_app.1 h3
 have o1:=tF_odd (a++s) 0 0
 have o2:=tF_odd (back s++b) 0 0
 have o3:=tF_odd (a++b) 0 0
 have hp:a ≠ []→tL 0 a ≠ 0:=fun h=>tL_nz (p:=0) ra h
 obtain ⟨p,ep⟩:∃ p,tL 0 a=p:=⟨_,rfl⟩
 have hfin:tF 0 (a++s) 0 + tF 0 (back s++b) 0 - tF 0 (a++b) 0=1∨tF 0 (a++s) 0 + tF 0 (back s++b) 0 - tF 0 (a++b) 0 = -1:=by
  cases s with
  | nil =>
   rw [List.append_nil] at n1
   have ha:=hp n1
   rw [ep] at ha rb
   cases b with
   | nil=>exact absurd rfl n2
   | cons y b =>
    have ht:=tri (p:=p) (q:=0) (r:=y) ha (fun e=>rb.1 e.symm) (fun e=>rb.2.1 e.symm)
    have e0:back ([]:List Int)=[]:=rfl
    unfold tF
    rw [e0,List.append_nil,List.nil_append,tP_app,tL_app,ep]
    simp only [tP,tL]
    omega
  | cons x s =>
   rw [ep] at rs rb
   have hb:=tF_back (x :: s) p 0 rs (tL_nz (p:=0) rs (by simp))
   unfold tF at hb
   rw [tL_back] at hb
   have hx:=tC_neg (p:=p) (q:=x) (fun e=>rs.2.1 e.symm)
   cases b with
   | nil =>
    by_cases ha:a=[]
    ·subst ha
     obtain rfl:(0:Int)=p:=ep
     exfalso
     have hb2:=tF_back (x :: s) 0 0 rs (tL_nz (p:=0) rs (by simp))
     rw [List.append_nil] at p2
     have p1:0 < tF 0 (x :: s) 0:=p1
     omega
    ·have ha:=hp ha
     rw [ep] at ha
     have ht:=tri (p:=p) (q:=x) (r:=0) (fun e=>rs.2.1 e.symm) rs.1 ha
     unfold tF
     rw [List.append_nil,List.append_nil,tP_app,tL_app,ep,tL_back]
     omega
   | cons y b =>
    obtain ⟨_,rb2⟩:=rdy_app.1 h2
    rw [tL_back] at rb2
    have ht:=tri (p:=p) (q:=x) (r:=y) (fun e=>rs.2.1 e.symm) (fun e=>rb2.2.1 e.symm) (fun e=>rb.2.1 e.symm)
    unfold tF
    rw [tP_app,tL_app,ep,tP_app (y :: b),tL_app (y :: b),tL_back,tP_app (y :: b),tL_app (y :: b),ep]
    simp only [tP,tL] at hb ⊢
    omega
 have hpos:0 < tF 0 (a++b) 0:=by omega
 refine ⟨fun e=>?_,hpos⟩
 rw [e] at hpos
 have:tF 0 [] 0 = -1:=by decide
 omega
theorem cut_mul:∀ (n:Nat) {u v:List Int},u.length=n→Rdy 0 u→Rdy 0 v→∃ a s b,u=a++s∧v=back s++b∧Rdy 0 (a++b)
 | 0,u,v,hn,hu,hv=>by
  obtain rfl:=List.eq_nil_of_length_eq_zero hn
  exact ⟨[],[],v,rfl,rfl,hv⟩
 | n + 1,u,v,hn,hu,hv=>by
  have hne:u ≠ []:=by intro h; subst h; cases hn
  obtain ⟨u',x,rfl⟩:∃ u' x,u=u'++[x]:=⟨u.dropLast,u.getLast hne,(List.dropLast_concat_getLast hne).symm⟩
  cases v with
  | nil=>exact ⟨u'++[x],[],[],by simp,rfl,by rw [List.append_nil]; exact hu⟩
  | cons y v =>
   by_cases hy:y = -x
   ·obtain ⟨a,s,b,e1,e2,e3⟩:=cut_mul n (u:=u') (v:=v) (by simpa using hn) (rdy_app.1 hu).1 (Rdy.w0 hv.2.2)
    refine ⟨a,s++[x],b,by rw [e1,List.append_assoc],?_,e3⟩
    rw [back_app,e2,hy]; rfl
   ·refine ⟨u'++[x],[],y :: v,by simp,rfl,rdy_app.2 ⟨hu,hv.1,?_,hv.2.2⟩⟩
    rw [tL_app]
    exact hy
theorem rdy_iff:∀ {w:List Int},Rdy 0 w↔Nz w∧Red w
 | []=>⟨fun _=>⟨fun x hx=>(by cases hx),fun i hi=>by simp at hi⟩,fun _=>trivial⟩
 | [x]=>⟨fun h=>⟨fun y hy=>by rw [List.mem_singleton.1 hy]; exact h.1,red_one x⟩,fun h=>⟨h.1 x (by simp),h.1 x (by simp),trivial⟩⟩
 | x :: y :: w=>by
  have ih:=rdy_iff (w:=y :: w)
  constructor
  ·rintro ⟨h1,_,h2⟩
   obtain ⟨hn,hr⟩:=ih.1 (Rdy.w0 h2)
   refine ⟨fun z hz=>?_,fun i hi=>?_⟩
   ·rcases List.mem_cons.1 hz with rfl | hz
    ·exact h1
    ·exact hn z hz
   ·cases i with
    | zero=>exact fun e=>h2.2.1 (by have e:x = -y:=e; omega)
    | succ i=>exact hr i (by simpa using hi)
  ·rintro ⟨hn,hr⟩
   have hx:=hn x (by simp)
   have hy:=hn y (by simp)
   have h2:=ih.2 ⟨fun z hz=>hn z (by simp [hz]),red_tail hr⟩
   refine ⟨hx,hx,hy,fun e=>?_,h2.2.2⟩
   exact hr 0 (by simp) (by show x = -y; omega)
theorem Rdy.sh {p:Int} {w:List Int} (h:Rdy p w):short w=w:=short_red (rdy_iff.1 h.w0).2
theorem Rdy.nz {p:Int} {w:List Int} (h:Rdy p w):Nz w:=(rdy_iff.1 h.w0).1
theorem Nz.rdy {w:List Int} (h:Nz w):Rdy 0 (Go.Proofs.Ytneglephfhiamaa.short w):=rdy_iff.2 ⟨h.short,red_short w⟩
theorem red_backN {a:List Int} (h:Red a):Red (back a):=by
 intro i hi
 have hl:=back_len a
 have e:∀ j,j < a.length→(back a).getD j 0 = -(a.getD (a.length - 1 - j) 0):=fun j hj=>by
  unfold back
  simp only [List.getD_eq_getElem?_getD,List.getElem?_map]
  rw [List.getElem?_reverse hj,List.getElem?_eq_getElem (by omega)]
  rfl
 rw [e i (by omega),e (i + 1) (by omega)]
 have:=h (a.length - 1 - (i + 1)) (by omega)
 have e2:a.length - 1 - (i + 1) + 1=a.length - 1 - i:=by omega
 rw [e2] at this
 omega
def ltW (g h:List Int):Prop:=Pos (short (back g++h))
theorem short_bk (g k h:List Int):short (back (k++g)++(k++h))=short (back g++h):=by
 rw [back_app]
 have e:back g++back k++(k++h)=back g++(back k++k)++h:=by simp
 rw [e,← short_mid,short_inv',List.append_nil]
theorem ltW_short {g h:List Int} : ltW (short g) (short h)↔ltW g h:=by
 unfold ltW
 have:short (back (short g)++short h)=short (back g++h):=by
  rw [short_right,← short_left,short_back,short_left]
 rw [this]
theorem ltW_front {g h k:List Int} : ltW (k++g) (k++h)↔ltW g h:=by
 unfold ltW
 rw [short_bk]
theorem ltW_trans {g h k:List Int} (zg:Nz g) (zh:Nz h) (zk:Nz k) (h1:ltW g h) (h2:ltW h k):ltW g k:=by
 have r1:Rdy 0 (short (back g++h)):=(zg.back.app zh).rdy
 have r2:Rdy 0 (short (back h++k)):=(zh.back.app zk).rdy
 unfold ltW at h1 h2 ⊢
 have e:short (short (back g++h)++short (back h++k))=short (back g++k):=by
  rw [short_right,short_left]
  have e:back g++h++(back h++k)=back g++(h++back h)++k:=by simp
  rw [e,← short_mid,short_inv,List.append_nil]
 obtain ⟨a,s,b,e1,e2,e3⟩:=cut_mul _ rfl r1 r2
 rw [e1] at h1 r1
 rw [e2] at h2 r2
 rw [← e,e1,e2]
 have e4:a++s++(back s++b)=a++(s++back s)++b:=by simp
 rw [e4,← short_mid,short_inv,List.append_nil,e3.sh]
 exact pos_mul r1 r2 e3 h1 h2
theorem ltW_irr {g:List Int} : ¬ ltW g g:=fun h=>h.1 (short_inv' g)
theorem ltW_tot {g h:List Int} (zg:Nz g) (zh:Nz h):ltW g h∨short g=short h∨ltW h g:=by
 have r1:Rdy 0 (short (back g++h)):=(zg.back.app zh).rdy
 by_cases e:short (back g++h)=[]
 ·right; left
  have:short (g++short (back g++h))=short g:=by rw [e,List.append_nil]
  rw [short_right,← List.append_assoc] at this
  rw [← this]
  have h2:=short_mid [] (g++back g) h
  rw [short_inv] at h2
  simpa using h2.symm
 ·have eb:short (back h++g)=back (short (back g++h)):=by
   have h1:=short_back (back g++h)
   rw [back_app,back_back] at h1
   rw [← h1]
   refine short_red ?_
   have:=r1
   have hb:Rdy 0 (back (short (back g++h))):=by
    have hn:Nz (short (back g++h)):=r1.nz
    refine rdy_iff.2 ⟨hn.back,?_⟩
    exact red_backN (rdy_iff.1 r1).2
   exact (rdy_iff.1 hb).2
  have hn:=tF_back _ 0 0 r1 (tL_nz (p:=0) r1 e)
  have ho:=tF_odd (short (back g++h)) 0 0
  by_cases hp:0 < tF 0 (short (back g++h)) 0
  ·exact .inl ⟨e,hp⟩
  ·right; right
   unfold ltW
   rw [eb]
   refine ⟨fun h0=>e ?_,by omega⟩
   have:=congrArg List.length h0
   rw [back_len] at this
   exact List.eq_nil_of_length_eq_zero (by simpa using this)
end Go.Proofs.Ytneglephfhiamaa

set_option linter.all false
namespace Go.Proofs.Ytneglephfhiamaa
open Go.Pv
structure SG (st:Nat→Int→Option Nat) (W:List Nat):Prop where
 inv:InvS st
 nd:W.Nodup
 src:∀ u x v,st u x=some v→u∈W
 lt:∀ u x v,st u x=some v→x ≠ 0∧-26≤x∧x≤26
section
variable {st:Nat→Int→Option Nat} {W:List Nat}
theorem SG.tg (g:SG st W) {u v:Nat} {x:Int} (h:st u x=some v):v∈W:=g.src v (-x) u (g.inv u v x (g.lt u x v h).1 h)
theorem SG.mem (g:SG st W) {u:Nat} {x:Int} : (u,x)∈PE st W↔0 < x∧(st u x).isSome=true:=by
 rw [mem_PE0 fun u hu x v h=>g.lt u x v h]
 constructor
 ·exact fun h=>h.2
 ·intro h
  obtain ⟨v,hv⟩:=Option.isSome_iff_exists.1 h.2
  exact ⟨g.src u x v hv,h⟩
def dg (st:Nat→Int→Option Nat) (u:Nat):Nat:=(ltS st u).length
theorem SG.ltm (g:SG st W) {u:Nat} {x:Int} : x∈ltS st u↔(st u x).isSome=true:=by
 rw [mem_ltS]
 constructor
 ·exact fun h=>h.2
 ·intro h
  obtain ⟨v,hv⟩:=Option.isSome_iff_exists.1 h
  exact ⟨(g.lt u x v hv).2,h⟩
def ups (st:Nat→Int→Option Nat) (u:Nat):List Int:=(ltS st u).filter fun x=>decide (0 < x)
def dns (st:Nat→Int→Option Nat) (u:Nat):List Int:=(ltS st u).filter fun x=>!decide (0 < x)
theorem dg_split (u:Nat):dg st u=(ups st u).length + (dns st u).length:=by
 unfold dg ups dns
 induction ltS st u with
 | nil=>rfl
 | cons x l ih =>
  by_cases h:0 < x<;>simp [List.filter_cons,h,ih]<;>omega
def NE (st:Nat→Int→Option Nat) (W:List Nat):List (Nat × Int):=W.flatMap fun u=>(dns st u).map fun x=>(u,x)
theorem SG.mem_NE (g:SG st W) {u:Nat} {x:Int} : (u,x)∈NE st W↔x < 0∧(st u x).isSome=true:=by
 unfold NE dns
 rw [List.mem_flatMap]
 constructor
 ·rintro ⟨v,hv,h⟩
  obtain ⟨y,hy,e⟩:=List.mem_map.1 h
  injection e with e1 e2
  subst e1; subst e2
  obtain ⟨h1,h2⟩:=List.mem_filter.1 hy
  have h3:=g.ltm.1 h1
  obtain ⟨w,hw⟩:=Option.isSome_iff_exists.1 h3
  have:=(g.lt _ _ _ hw).1
  have h2:¬ 0 < y:=by simpa using h2
  exact ⟨by omega,h3⟩
 ·rintro ⟨hx,hs⟩
  obtain ⟨v,hv⟩:=Option.isSome_iff_exists.1 hs
  exact ⟨u,g.src u x v hv,List.mem_map.2 ⟨x,List.mem_filter.2 ⟨g.ltm.2 hs,by simp; omega⟩,rfl⟩⟩
theorem NE_nd (h:W.Nodup):(NE st W).Nodup:=
 nodup_flat h (fun u _=>nodup_mapF (List.Nodup.sublist List.filter_sublist (ltS_nd u)) fun a _ b _ e=>by injection e) fun u _ v _ z hz1 hz2=>by
  obtain ⟨a,_,rfl⟩:=List.mem_map.1 hz1
  obtain ⟨b,_,e⟩:=List.mem_map.1 hz2
  injection e with e _
  exact e.symm
theorem SG.NE_len (g:SG st W):(NE st W).length=(PE st W).length:=by
 have hh:∀ e∈NE st W,∃ v,st e.1 e.2=some v∧e.2 < 0:=fun e he=>by
  obtain ⟨u,x⟩:=e
  have h:=g.mem_NE.1 he
  obtain ⟨v,hv⟩:=Option.isSome_iff_exists.1 h.2
  exact ⟨v,hv,h.1⟩
 have h1:((NE st W).map fun e=>(tgt st e,-e.2)).Nodup:=nodup_mapF (NE_nd g.nd) fun a ha b hb e=>by
  obtain ⟨v,h1,n1⟩:=hh a ha
  obtain ⟨w,h2,n2⟩:=hh b hb
  injection e with e1 e2
  unfold tgt at e1
  rw [h1,h2] at e1
  obtain rfl:v=w:=e1
  have i1:=g.inv _ _ _ (by omega) h1
  have i2:=g.inv _ _ _ (by omega) h2
  rw [e2,i2] at i1
  obtain ⟨a1,a2⟩:=a
  obtain ⟨b1,b2⟩:=b
  simp only [Option.some.injEq] at i1 e2
  rw [show a1=b1 from i1.symm,show a2=b2 by omega]
 have h2:=nd_eq h1 (PE_nd (step:=st) g.nd) fun e=>by
  obtain ⟨u,x⟩:=e
  rw [List.mem_map,g.mem]
  constructor
  ·rintro ⟨e,he,hq⟩
   obtain ⟨v,hv,hn⟩:=hh e he
   unfold tgt at hq
   rw [hv] at hq
   injection hq with q1 q2
   obtain rfl:v=u:=q1
   have:=g.inv _ _ _ (by omega) hv
   rw [q2] at this
   exact ⟨by omega,by rw [this]; rfl⟩
  ·rintro ⟨hx,hs⟩
   obtain ⟨v,hv⟩:=Option.isSome_iff_exists.1 hs
   have hi:=g.inv _ _ _ (by omega) hv
   refine ⟨(v,-x),g.mem_NE.2 ⟨by omega,by rw [hi]; rfl⟩,?_⟩
   unfold tgt
   rw [hi,Int.neg_neg]; rfl
 rw [← h2,List.length_map]
theorem sum_two (f h:Nat→Nat):∀ l:List Nat,(l.map fun u=>f u + h u).sum=(l.map f).sum + (l.map h).sum
 | []=>rfl
 | u :: l=>by
  have:=sum_two f h l
  simp only [List.map_cons,List.sum_cons]
  omega
theorem SG.deg_sum (g:SG st W):(W.map (dg st)).sum=2 * (PE st W).length:=by
 have h1:(W.map (dg st)).sum=(W.map fun u=>(ups st u).length).sum + (W.map fun u=>(dns st u).length).sum:=by
  rw [← sum_two]
  congr 1
  exact List.map_congr_left fun u _=>dg_split u
 have h2:(PE st W).length=(W.map fun u=>(ups st u).length).sum:=by
  unfold PE ups
  rw [flat_len]
  congr 1
  exact List.map_congr_left fun u _=>List.length_map _
 have h3:(NE st W).length=(W.map fun u=>(dns st u).length).sum:=by
  unfold NE
  rw [flat_len]
  congr 1
  exact List.map_congr_left fun u _=>List.length_map _
 have:=g.NE_len
 omega
def rsS (st:Nat→Int→Option Nat) (K:Nat × Int→Bool) (u:Nat) (x:Int):Option Nat:=(st u x).bind fun v=>if K (edg u x v) then some v else none
theorem rsS_iff {K:Nat × Int→Bool} {u v:Nat} {x:Int} : rsS st K u x=some v↔st u x=some v∧K (edg u x v)=true:=by
 unfold rsS
 cases h:st u x with
 | none=>simp
 | some w =>
  simp only [Option.bind_some]
  by_cases hk:K (edg u x w)=true
  ·rw [if_pos hk]
   constructor
   ·intro e; obtain rfl:=Option.some.inj e; exact ⟨rfl,hk⟩
   ·intro e; exact e.1
  ·rw [if_neg hk]
   constructor
   ·intro e; cases e
   ·rintro ⟨e,h2⟩
    obtain rfl:=Option.some.inj e
    exact absurd h2 hk
theorem SG.rs (g:SG st W) (K:Nat × Int→Bool):SG (rsS st K) W:=by
 refine ⟨fun c d x hx h=>?_,g.nd,fun u x v h=>g.src u x v (rsS_iff.1 h).1,fun u x v h=>g.lt u x v (rsS_iff.1 h).1⟩
 obtain ⟨h1,h2⟩:=rsS_iff.1 h
 exact rsS_iff.2 ⟨g.inv c d x hx h1,by rw [edg_rev hx]; exact h2⟩
theorem SG.rs_len (g:SG st W) (K:Nat × Int→Bool):(PE (rsS st K) W).length=((PE st W).filter K).length:=by
 refine nd_eq (PE_nd g.nd) (List.Nodup.sublist List.filter_sublist (PE_nd g.nd)) fun e=>?_
 obtain ⟨u,x⟩:=e
 rw [(g.rs K).mem,List.mem_filter,g.mem]
 constructor
 ·rintro ⟨hx,h⟩
  obtain ⟨v,hv⟩:=Option.isSome_iff_exists.1 h
  obtain ⟨h1,h2⟩:=rsS_iff.1 hv
  unfold edg at h2
  rw [if_pos hx] at h2
  exact ⟨⟨hx,by rw [h1]; rfl⟩,h2⟩
 ·rintro ⟨⟨hx,h⟩,hk⟩
  obtain ⟨v,hv⟩:=Option.isSome_iff_exists.1 h
  have:rsS st K u x=some v:=rsS_iff.2 ⟨hv,by unfold edg; rw [if_pos hx]; exact hk⟩
  exact ⟨hx,by rw [this]; rfl⟩
theorem SG.drop (g:SG st W) {w:Nat} (hw:w∈W) (h0:dg st w=0):SG st (W.erase w)∧(PE st (W.erase w)).length=(PE st W).length∧(W.erase w).length + 1=W.length:=by
 have hl:W.length=(W.erase w).length + 1:=by
  have:=List.length_erase_of_mem hw
  have:=List.length_pos_of_mem hw
  omega
 have hno:∀ x v,st w x ≠ some v:=fun x v h=>by
  have:x∈ltS st w:=g.ltm.2 (by rw [h]; rfl)
  unfold dg at h0
  rw [List.eq_nil_of_length_eq_zero h0] at this
  cases this
 have g2:SG st (W.erase w):=⟨g.inv,g.nd.erase w,fun u x v h=>(List.mem_erase_of_ne (fun e=>hno x v (by rw [← e]; exact h))).2 (g.src u x v h),g.lt⟩
 exact ⟨g2,nd_eq (PE_nd g2.nd) (PE_nd g.nd) fun e=>by obtain ⟨u,x⟩:=e; rw [g2.mem,g.mem],hl.symm⟩
theorem SG.prune (g:SG st W) {w:Nat} (hw:w∈W) (h1:dg st w=1):∃ K,SG (rsS st K) (W.erase w)∧(PE (rsS st K) (W.erase w)).length + 1=(PE st W).length∧(W.erase w).length + 1=W.length ∧
  ∀ u x v,st u x=some v→u ≠ w→v ≠ w→rsS st K u x=some v:=by
 obtain ⟨x,hx⟩:∃ x,ltS st w=[x]:=by
  unfold dg at h1
  obtain ⟨x,hx⟩:=List.length_eq_one_iff.1 h1
  exact ⟨x,hx⟩
 have hxm:x∈ltS st w:=by rw [hx]; simp
 obtain ⟨v,hv⟩:=Option.isSome_iff_exists.1 (g.ltm.1 hxm)
 have hone:∀ y z,st w y=some z→y=x:=fun y z h=>by
  have:y∈ltS st w:=g.ltm.2 (by rw [h]; rfl)
  rw [hx] at this
  simpa using this
 have hx0:=(g.lt w x v hv).1
 have hi:=g.inv w v x hx0 hv
 have hvw:v ≠ w:=fun e=>by
  rw [e] at hi
  have:=hone _ _ hi
  omega
 let K:Nat × Int→Bool:=fun e=>!decide (e=edg w x v)
 have gK:=g.rs K
 have hz:dg (rsS st K) w=0:=by
  unfold dg
  rw [List.length_eq_zero_iff,List.eq_nil_iff_forall_not_mem]
  intro y hy
  obtain ⟨z,hz⟩:=Option.isSome_iff_exists.1 (gK.ltm.1 hy)
  obtain ⟨a,b⟩:=rsS_iff.1 hz
  obtain rfl:=hone y z a
  rw [hv] at a
  obtain rfl:=Option.some.inj a
  simp [K] at b
 obtain ⟨d1,d2,d3⟩:=gK.drop hw hz
 have hme:edg w x v∈PE st W:=by
  unfold edg
  by_cases hp:0 < x
  ·rw [if_pos hp]; exact g.mem.2 ⟨hp,by rw [hv]; rfl⟩
  ·rw [if_neg hp]; exact g.mem.2 ⟨by omega,by rw [hi]; rfl⟩
 refine ⟨K,d1,?_,d3,fun u y z h hu hz2=>rsS_iff.2 ⟨h,?_⟩⟩
 ·rw [d2,g.rs_len]
  have:(PE st W).filter K=(PE st W).erase (edg w x v):=by
   rw [(PE_nd (step:=st) g.nd).erase_eq_filter]
   refine List.filter_congr fun e _=>?_
   show (!decide (e=edg w x v))=(e != edg w x v)
   by_cases h:e=edg w x v<;>simp [h]
  rw [this,List.length_erase_of_mem hme]
  have:=List.length_pos_of_mem hme
  omega
 ·show (!decide (edg u y z=edg w x v))=true
  have:edg u y z ≠ edg w x v:=fun e=>by
   unfold edg at e
   by_cases h1:0 < y<;>by_cases h2:0 < x
   ·rw [if_pos h1,if_pos h2] at e; injection e with e _; exact hu e
   ·rw [if_pos h1,if_neg h2] at e
    injection e with e1 e2
    rw [e1,e2,hi] at h
    exact hz2 (Option.some.inj h).symm
   ·rw [if_neg h1,if_pos h2] at e
    injection e with e1 e2
    exact hz2 e1
   ·rw [if_neg h1,if_neg h2] at e
    injection e with e1 e2
    have hy:y=x:=by omega
    have:=g.inv _ _ _ (g.lt _ _ _ h).1 h
    rw [e1,hy,hi] at this
    exact hu (Option.some.inj this).symm
  simpa using this
theorem sum_ge {f:Nat→Nat} {k:Nat} : ∀ {l:List Nat},(∀ u∈l,k≤f u)→l.length * k≤(l.map f).sum
 | [],_=>by simp
 | u :: l,h=>by
  have:=sum_ge (l:=l) fun v hv=>h v (by simp [hv])
  have:=h u (by simp)
  simp only [List.map_cons,List.sum_cons,List.length_cons,Nat.add_mul]
  omega
end
theorem sg_upper:∀ (n:Nat) {st:Nat→Int→Option Nat} {W:List Nat},SG st W→W.length=n→(∀ u∈W,∀ k,∃ z:List Int,z.length=k∧Rdy 0 z∧(runW st u z).isSome=true)→W.length≤(PE st W).length
 | n,st,W,g,hn,h=>by
  by_cases h2:∀ u∈W,2≤dg st u
  ·have:=sum_ge h2
   have:=g.deg_sum
   omega
  ·have:∃ w∈W,dg st w < 2:=by
    apply Classical.byContradiction
    intro hc
    exact h2 fun u hu=>by
     apply Classical.byContradiction
     intro h3
     exact hc ⟨u,hu,by omega⟩
   obtain ⟨w,hw,hd⟩:=this
   have h0:dg st w ≠ 0:=fun h0=>by
    obtain ⟨z,hz,hr,hs⟩:=h w hw 1
    obtain ⟨x,rfl⟩:=List.length_eq_one_iff.1 hz
    have hx:(st w x).isSome=true:=by
     cases hh:st w x with
     | none=>simp [runW,hh] at hs
     | some v=>rfl
    have:=g.ltm.2 hx
    unfold dg at h0
    rw [List.eq_nil_of_length_eq_zero h0] at this
    cases this
   obtain ⟨K,g2,e1,e2,e3⟩:=g.prune hw (by omega)
   cases n with
   | zero=>rw [List.eq_nil_of_length_eq_zero hn] at hw; cases hw
   | succ n =>
    have hone:∃ x,∀ y z,st w y=some z→y=x:=by
     obtain ⟨x,hx⟩:=List.length_eq_one_iff.1 (show (ltS st w).length=1 by unfold dg at hd h0; omega)
     refine ⟨x,fun y z hy=>?_⟩
     have:y∈ltS st w:=g.ltm.2 (by rw [hy]; rfl)
     rw [hx] at this
     simpa using this
    obtain ⟨x,hone⟩:=hone
    have key:∀ (z:List Int) (u:Nat) (p:Int) (y:Int),u ≠ w→Rdy p (z++[y])→(runW st u (z++[y])).isSome=true→(runW (rsS st K) u z).isSome=true:=by
     intro z
     induction z with
     | nil=>intro u p y hu hr hs; rfl
     | cons a z ih =>
      intro u p y hu hr hs
      cases ha:st u a with
      | none=>simp [runW,ha] at hs
      | some v =>
       have hs' : (runW st v (z++[y])).isSome=true:=by simpa [runW,ha] using hs
       have hvw:v ≠ w:=fun e=>by
        have hb:=g.inv u v a hr.1 ha
        rw [e] at hb hs'
        have hx1:=hone _ _ hb
        have hr2:=hr.2.2
        cases z with
        | nil =>
         have hr2:Rdy (-a) [y]:=hr2
         cases hy:st w y with
         | none=>simp [runW,hy] at hs'
         | some q =>
          have:=hone _ _ hy
          exact hr2.2.1 (by omega)
        | cons c z =>
         have hr2:Rdy (-a) (c :: (z++[y])):=hr2
         cases hy:st w c with
         | none=>simp [runW,hy] at hs'
         | some q =>
          have:=hone _ _ hy
          exact hr2.2.1 (by omega)
       have:=e3 u a v ha hu hvw
       simp only [runW,this]
       exact ih v (-a) y hvw hr.2.2 hs'
    have:=sg_upper n g2 (by omega) fun u hu k=>by
     have huw:u ≠ w:=fun e=>by rw [e] at hu; exact (List.Nodup.not_mem_erase g.nd) hu
     obtain ⟨z,hz,hr,hs⟩:=h u (List.mem_of_mem_erase hu) (k + 1)
     have hne:z ≠ []:=by intro e; subst e; simp at hz
     obtain ⟨z',y,rfl⟩:∃ z' y,z=z'++[y]:=⟨z.dropLast,z.getLast hne,(List.dropLast_concat_getLast hne).symm⟩
     exact ⟨z',by simpa using hz,(rdy_app.1 hr).1,key z' u 0 y huw hr hs⟩
    omega
theorem sg_lower:∀ (n:Nat) {st:Nat→Int→Option Nat} {W:List Nat},SG st W→W.length=n→W.length < (PE st W).length →
  ∃ st' W',SG st' W'∧(∀ u x v,st' u x=some v→st u x=some v)∧(∀ u∈W',2≤dg st' u)∧∃ w∈W',3≤dg st' w
 | n,st,W,g,hn,h=>by
  by_cases h2:∀ u∈W,2≤dg st u
  ·refine ⟨st,W,g,fun _ _ _ h=>h,h2,?_⟩
   apply Classical.byContradiction
   intro hc
   have hle:(W.map (dg st)).sum≤W.length * 2:=by
    have:∀ l:List Nat,(∀ u∈l,dg st u≤2)→(l.map (dg st)).sum≤l.length * 2:=by
     intro l
     induction l with
     | nil=>intro _; simp
     | cons u l ih =>
      intro hl
      have:=ih fun v hv=>hl v (by simp [hv])
      have:=hl u (by simp)
      simp only [List.map_cons,List.sum_cons,List.length_cons]
      omega
    refine this W fun u hu=>?_
    apply Classical.byContradiction
    intro h3
    exact hc ⟨u,hu,by omega⟩
   have:=g.deg_sum
   omega
  ·have:∃ w∈W,dg st w < 2:=by
    apply Classical.byContradiction
    intro hc
    exact h2 fun u hu=>by
     apply Classical.byContradiction
     intro h3
     exact hc ⟨u,hu,by omega⟩
   obtain ⟨w,hw,hd⟩:=this
   cases n with
   | zero=>rw [List.eq_nil_of_length_eq_zero hn] at hw; cases hw
   | succ n =>
    by_cases h0:dg st w=0
    ·obtain ⟨g2,e1,e2⟩:=g.drop hw h0
     exact sg_lower n g2 (by omega) (by omega)
    ·obtain ⟨K,g2,e1,e2,_⟩:=g.prune hw (by omega)
     obtain ⟨st',W',a,b,c,d⟩:=sg_lower n g2 (by omega) (by omega)
     exact ⟨st',W',a,fun u x v h=>(rsS_iff.1 (b u x v h)).1,c,d⟩
end Go.Proofs.Ytneglephfhiamaa

set_option linter.all false
namespace Go.Proofs.Ytneglephfhiamaa
open Go.Pv
def de (g:List Int) (x:Int):List Int × Int:=if 0 < x then (short g,x) else (short (g++[x]),-x)
def acE (k:List Int) (e:List Int × Int):List Int × Int:=(short (k++e.1),e.2)
def elt (e f:List Int × Int):Prop:=ltW e.1 f.1∨(e.1=f.1∧e.2 < f.2)
def ele (e f:List Int × Int):Prop:=e=f∨elt e f
def VE (e:List Int × Int):Prop:=Rdy 0 e.1
theorem de_ve {g:List Int} {x:Int} (hg:Nz g) (hx:x ≠ 0):VE (de g x):=by
 unfold de VE
 split
 ·exact hg.rdy
 ·exact (hg.app (fun y hy=>by rw [List.mem_singleton.1 hy]; exact hx)).rdy
theorem acE_ve {k:List Int} {e:List Int × Int} (hk:Nz k) (he:VE e):VE (acE k e):=(hk.app he.nz).rdy
theorem ac_de (k g:List Int) (x:Int):acE k (de g x)=de (k++g) x:=by
 unfold acE de
 split
 ·simp only [short_right]
 ·simp only [short_right,List.append_assoc]
theorem de_short (g:List Int) (x:Int):de (short g) x=de g x:=by
 unfold de
 rw [short_short,short_left]
theorem de_rev {g:List Int} {x:Int} (hx:x ≠ 0):de (g++[x]) (-x)=de g x:=by
 unfold de
 by_cases h:0 < x
 ·rw [if_neg (by omega),if_pos h]
  have:=short_cancel g [] x
  rw [List.append_nil] at this
  rw [List.append_assoc]
  show (short (g++[x,-x]),- -x)=_
  rw [this,Int.neg_neg]
 ·rw [if_pos (by omega),if_neg h]
theorem ac_ac (k l:List Int) (e:List Int × Int):acE k (acE l e)=acE (k++l) e:=by
 unfold acE
 simp only [short_right,List.append_assoc]
theorem ac_nil {e:List Int × Int} (h:VE e) {k:List Int} (hk:short k=[]):acE k e=e:=by
 unfold acE
 rw [← short_left,hk,List.nil_append,h.sh]
theorem elt_ac {k:List Int} {e f:List Int × Int} (he:VE e) (hf:VE f):elt (acE k e) (acE k f)↔elt e f:=by
 unfold elt acE
 simp only [ltW_short,ltW_front]
 have:short (k++e.1)=short (k++f.1)↔e.1=f.1:=by
  constructor
  ·intro h
   have h2:=congrArg (fun x=>short (back k++x)) h
   simp only [short_right] at h2
   have e3:∀ v:List Int,Rdy 0 v→short (back k++(k++v))=v:=fun v hv=>by
    rw [← List.append_assoc,← short_left,short_inv',List.nil_append,hv.sh]
   rwa [e3 _ he,e3 _ hf] at h2
  ·intro h; rw [h]
 rw [this]
theorem ele_ac {k:List Int} {e f:List Int × Int} (he:VE e) (hf:VE f) (h:ele e f):ele (acE k e) (acE k f):=by
 rcases h with rfl | h
 ·exact .inl rfl
 ·exact .inr ((elt_ac he hf).2 h)
theorem elt_trans {e f g:List Int × Int} (he:VE e) (hf:VE f) (hg:VE g) (h1:elt e f) (h2:elt f g):elt e g:=by
 rcases h1 with h1 | ⟨h1,h3⟩
 ·rcases h2 with h2 | ⟨h2,h4⟩
  ·exact .inl (ltW_trans he.nz hf.nz hg.nz h1 h2)
  ·rw [h2] at h1; exact .inl h1
 ·rcases h2 with h2 | ⟨h2,h4⟩
  ·rw [← h1] at h2; exact .inl h2
  ·exact .inr ⟨h1.trans h2,by omega⟩
theorem elt_irr {e:List Int × Int} : ¬ elt e e:=fun h=>by
 rcases h with h | ⟨_,h⟩
 ·exact ltW_irr h
 ·omega
theorem elt_tot {e f:List Int × Int} (he:VE e) (hf:VE f):elt e f∨e=f∨elt f e:=by
 rcases ltW_tot he.nz hf.nz with h | h | h
 ·exact .inl (.inl h)
 ·rw [he.sh,hf.sh] at h
  by_cases h1:e.2 < f.2
  ·exact .inl (.inr ⟨h,h1⟩)
  ·by_cases h2:f.2 < e.2
   ·exact .inr (.inr (.inr ⟨h.symm,h2⟩))
   ·exact .inr (.inl (Prod.ext h (by omega)))
 ·exact .inr (.inr (.inl h))
theorem ele_trans {e f g:List Int × Int} (he:VE e) (hf:VE f) (hg:VE g) (h1:ele e f) (h2:ele f g):ele e g:=by
 rcases h1 with rfl | h1
 ·exact h2
 ·rcases h2 with rfl | h2
  ·exact .inr h1
  ·exact .inr (elt_trans he hf hg h1 h2)
theorem ele_tot {e f:List Int × Int} (he:VE e) (hf:VE f):ele e f∨ele f e:=by
 rcases elt_tot he hf with h | h | h
 ·exact .inl (.inr h)
 ·exact .inl (.inl h)
 ·exact .inr (.inr h)
theorem ele_anti {e f:List Int × Int} (he:VE e) (hf:VE f) (h1:ele e f) (h2:ele f e):e=f:=by
 rcases h1 with h1 | h1
 ·exact h1
 ·rcases h2 with h2 | h2
  ·exact h2.symm
  ·exact absurd (elt_trans he hf he h1 h2) elt_irr
theorem ac_inj {k:List Int} {e f:List Int × Int} (he:VE e) (hf:VE f) (h:acE k e=acE k f):e=f:=by
 have h2:=congrArg (acE (back k)) h
 rw [ac_ac,ac_ac,ac_nil he (short_inv' k),ac_nil hf (short_inv' k)] at h2
 exact h2
theorem ele_max {α:Type} {v:α→List Int × Int} : ∀ {l:List α},l ≠ []→(∀ a∈l,VE (v a))→∃ m∈l,∀ a∈l,ele (v a) (v m)
 | [],h,_=>absurd rfl h
 | [a],_,_=>⟨a,by simp,fun b hb=>by rw [List.mem_singleton.1 hb]; exact .inl rfl⟩
 | a :: b :: l,_,hv=>by
  obtain ⟨m,hm,h⟩:=ele_max (l:=b :: l) (by simp) fun c hc=>hv c (by simp [hc])
  have ha:=hv a (by simp)
  have hvm:=hv m (List.mem_cons.2 (.inr hm))
  rcases ele_tot ha hvm with h1 | h1
  ·refine ⟨m,List.mem_cons.2 (.inr hm),fun c hc=>?_⟩
   rcases List.mem_cons.1 hc with rfl | hc
   ·exact h1
   ·exact h c hc
  ·refine ⟨a,by simp,fun c hc=>?_⟩
   rcases List.mem_cons.1 hc with rfl | hc
   ·exact .inl rfl
   ·exact ele_trans (hv c (List.mem_cons.2 (.inr hc))) hvm ha (h c hc) h1
theorem ele_min {α:Type} {v:α→List Int × Int} : ∀ {l:List α},l ≠ []→(∀ a∈l,VE (v a))→∃ m∈l,∀ a∈l,ele (v m) (v a)
 | [],h,_=>absurd rfl h
 | [a],_,_=>⟨a,by simp,fun b hb=>by rw [List.mem_singleton.1 hb]; exact .inl rfl⟩
 | a :: b :: l,_,hv=>by
  obtain ⟨m,hm,h⟩:=ele_min (l:=b :: l) (by simp) fun c hc=>hv c (by simp [hc])
  have ha:=hv a (by simp)
  have hvm:=hv m (List.mem_cons.2 (.inr hm))
  rcases ele_tot hvm ha with h1 | h1
  ·refine ⟨m,List.mem_cons.2 (.inr hm),fun c hc=>?_⟩
   rcases List.mem_cons.1 hc with rfl | hc
   ·exact h1
   ·exact h c hc
  ·refine ⟨a,by simp,fun c hc=>?_⟩
   rcases List.mem_cons.1 hc with rfl | hc
   ·exact .inl rfl
   ·exact ele_trans ha hvm (hv c (List.mem_cons.2 (.inr hc))) h1 (h c hc)
def pe:List Int→List Int→List (List Int × Int)
 | _,[]=>[]
 | g,x :: w=>de g x :: pe (g++[x]) w
theorem mem_pe {e:List Int × Int} : ∀ {w g:List Int},e∈pe g w↔∃ a x b,w=a++x :: b∧e=de (g++a) x
 | [],g=>by
  constructor
  ·intro h; cases h
  ·rintro ⟨a,x,b,h,_⟩
   cases a<;>cases h
 | y :: w,g=>by
  show e∈de g y :: pe (g++[y]) w↔_
  rw [List.mem_cons,mem_pe]
  constructor
  ·rintro (rfl | ⟨a,x,b,rfl,rfl⟩)
   ·exact ⟨[],y,w,rfl,by rw [List.append_nil]⟩
   ·exact ⟨y :: a,x,b,rfl,by rw [List.append_assoc]; rfl⟩
  ·rintro ⟨a,x,b,h,rfl⟩
   cases a with
   | nil =>
    injection h with h1 h2
    left; rw [h1,List.append_nil]
   | cons z a =>
    injection h with h1 h2
    subst h1
    exact .inr ⟨a,x,b,h2,by rw [List.append_assoc]; rfl⟩
theorem pe_app (b:List Int):∀ (a g:List Int),pe g (a++b)=pe g a++pe (g++a) b
 | [],g=>by simp [pe]
 | x :: a,g=>by
  show de g x :: pe (g++[x]) (a++b)=de g x :: (pe (g++[x]) a++pe (g++x :: a) b)
  rw [pe_app b a,List.append_assoc]; rfl
theorem pe_congr {g h:List Int} (e:short g=short h) (w:List Int):pe g w=pe h w:=by
 induction w generalizing g h with
 | nil=>rfl
 | cons x w ih =>
  have e1:de g x=de h x:=by rw [← de_short g,e,de_short]
  have e2:short (g++[x])=short (h++[x]):=by rw [← short_left,e,short_left]
  show de g x :: pe (g++[x]) w=de h x :: pe (h++[x]) w
  rw [e1,ih e2]
theorem pe_ac (k:List Int) {g w:List Int} {e:List Int × Int} (h:e∈pe g w):acE k e∈pe (k++g) w:=by
 obtain ⟨a,x,b,rfl,rfl⟩:=mem_pe.1 h
 exact mem_pe.2 ⟨a,x,b,rfl,by rw [ac_de,List.append_assoc]⟩
theorem pe_ve {g w:List Int} (hg:Nz g) (hw:Nz w) {e:List Int × Int} (h:e∈pe g w):VE e:=by
 obtain ⟨a,x,b,rfl,rfl⟩:=mem_pe.1 h
 exact de_ve (hg.app fun y hy=>hw y (by simp [hy])) (hw x (by simp))
theorem pe_back {e:List Int × Int} : ∀ {a g:List Int},Nz a→e∈pe (g++a) (back a)→e∈pe g a
 | [],g,_,h=>by cases h
 | x :: a,g,hz,h=>by
  rw [back_cons,pe_app] at h
  rcases List.mem_append.1 h with h | h
  ·have h2:e∈pe (g++[x]++a) (back a):=by rw [List.append_assoc]; exact h
   exact List.mem_cons.2 (.inr (pe_back (fun y hy=>hz y (by simp [hy])) h2))
  ·have h2:e=de (g++x :: a++back a) (-x):=by
    have:e∈[de (g++x :: a++back a) (-x)]:=h
    rwa [List.mem_singleton] at this
   have e1:short (g++x :: a++back a)=short (g++[x]):=by
    have h3:=short_mid (g++[x]) (a++back a) []
    rw [short_inv] at h3
    simp only [List.append_nil,List.append_assoc,List.cons_append,List.nil_append] at h3 ⊢
    exact h3.symm
   rw [h2,← de_short,e1,de_short,de_rev (hz x (by simp))]
   simp [pe]
def BrD (st:Nat→Int→Option Nat) (u:Nat) (x:Int):Prop:=∃ v,st u x=some v ∧
 (∀ n,∃ z:List Int,z.length=n∧Rdy (-x) z∧(runW st v z).isSome=true∧∀ e∈pe [x] z,ele e (de [] x)) ∧
 (∀ n,∃ z:List Int,z.length=n∧Rdy x z∧(runW st u z).isSome=true∧∀ e∈pe [] z,ele e (de [] x))
theorem nz_one {x:Int} (h:x ≠ 0):Nz [x]:=fun y hy=>by rw [List.mem_singleton.1 hy]; exact h
theorem BrD.rev {st:Nat→Int→Option Nat} (hi:InvS st) {u v:Nat} {x:Int} (hx:x ≠ 0) (h:BrD st u x) (hv:st u x=some v):BrD st v (-x):=by
 obtain ⟨v',hv',h1,h2⟩:=h
 rw [hv] at hv'
 obtain rfl:=Option.some.inj hv'
 have hxn:(-x:Int) ≠ 0:=by omega
 have hd:de [] (-x)=acE [-x] (de [] x):=by
  rw [ac_de]
  have:=de_rev (g:=[]) hxn
  rw [Int.neg_neg] at this
  exact this.symm
 have hve:=de_ve (g:=[]) (x:=x) (fun y hy=>by cases hy) hx
 refine ⟨u,hi u v x hx hv,fun n=>?_,fun n=>?_⟩
 ·obtain ⟨z,a,b,c,d⟩:=h2 n
  refine ⟨z,a,by rw [Int.neg_neg]; exact b,c,fun e he=>?_⟩
  have he2:=pe_ac [x] he
  have e1:pe ([x]++[-x]) z=pe [] z:=pe_congr (by have:=short_cancel [] [] x; simpa using this) z
  rw [e1] at he2
  have:=ele_ac (k:=[-x]) (acE_ve (nz_one hx) (pe_ve (nz_one hxn) b.nz he)) hve (d _ he2)
  rw [ac_ac,ac_nil (pe_ve (nz_one hxn) b.nz he) (by have h5:=short_cancel [] [] (-x); rw [Int.neg_neg] at h5; exact h5)] at this
  rw [hd]
  exact this
 ·obtain ⟨z,a,b,c,d⟩:=h1 n
  refine ⟨z,a,b,c,fun e he=>?_⟩
  have he2:=pe_ac [x] he
  rw [List.append_nil] at he2
  have hve2:=pe_ve (g:=[]) (fun y hy=>by cases hy) b.nz he
  have:=ele_ac (k:=[-x]) (acE_ve (nz_one hx) hve2) hve (d _ he2)
  rw [ac_ac,ac_nil hve2 (by have h5:=short_cancel [] [] (-x); rw [Int.neg_neg] at h5; exact h5)] at this
  rw [hd]
  exact this
theorem run_homK {X Y:Type} {st:X→Int→Option X} {st' : Y→Int→Option Y} {κ:X→Y} (h:∀ u x v,st u x=some v→st' (κ u) x=some (κ v)):∀ {w:List Int} {u:X},(runW st u w).isSome=true→(runW st' (κ u) w).isSome=true
 | [],u,_=>rfl
 | x :: w,u,hs=>by
  cases hx:st u x with
  | none=>simp [runW,hx] at hs
  | some v =>
   have hs:(runW st v w).isSome=true:=by simpa [runW,hx] using hs
   simp only [runW,h u x v hx]
   exact run_homK h hs
theorem BrD.hom {st st' : Nat→Int→Option Nat} {κ:Nat→Nat} (h:∀ u x v,st u x=some v→st' (κ u) x=some (κ v)) {u:Nat} {x:Int} (b:BrD st u x):BrD st' (κ u) x:=by
 obtain ⟨v,hv,h1,h2⟩:=b
 refine ⟨κ v,h u x v hv,fun n=>?_,fun n=>?_⟩
 ·obtain ⟨z,a,b,c,d⟩:=h1 n
  exact ⟨z,a,b,run_homK h c,d⟩
 ·obtain ⟨z,a,b,c,d⟩:=h2 n
  exact ⟨z,a,b,run_homK h c,d⟩
theorem run_take {st:Nat→Int→Option Nat} {u:Nat} {a b:List Int} (h:(runW st u (a++b)).isSome=true):∃ v,runW st u a=some v∧(runW st v b).isSome=true:=by
 rw [runW_app] at h
 cases ha:runW st u a with
 | none=>rw [ha] at h; simp at h
 | some v=>rw [ha] at h; exact ⟨v,rfl,h⟩
theorem run_part {st s1:Nat→Int→Option Nat} (h:∀ u x v,s1 u x=some v→st u x=some v):∀ {z:List Int} {u:Nat},(runW st u z).isSome=true →
  (runW s1 u z).isSome=true∨∃ z1 y z2 v,z=z1++y :: z2∧runW s1 u z1=some v∧(st v y).isSome=true∧s1 v y=none
 | [],u,_=>.inl rfl
 | x :: z,u,hs=>by
  cases hx:st u x with
  | none=>simp [runW,hx] at hs
  | some v =>
   have hs:(runW st v z).isSome=true:=by simpa [runW,hx] using hs
   cases h1:s1 u x with
   | none=>exact .inr ⟨[],x,z,u,rfl,rfl,by rw [hx]; rfl,h1⟩
   | some v' =>
    have:=h u x v' h1
    rw [hx] at this
    obtain rfl:=Option.some.inj this
    rcases run_part h hs with h2 | ⟨z1,y,z2,w,rfl,h3,h4,h5⟩
    ·left; simp only [runW,h1]; exact h2
    ·exact .inr ⟨x :: z1,y,z2,w,rfl,by simp only [runW,h1]; exact h3,h4,h5⟩
theorem de_ne {y y1:Int} {z1 z2:List Int} (hy:y ≠ 0) (h:Rdy y (z1++y1 :: z2)):de z1 y1 ≠ de [] y:=by
 obtain ⟨h1,h2⟩:=rdy_app.1 h
 have h3:Rdy y (z1++[y1]):=rdy_app.2 ⟨h1,h2.1,h2.2.1,trivial⟩
 have s1:=h1.sh
 have s2:=h3.sh
 have hno:∀ w,Rdy y (y :: w)→False:=fun w hw=>hw.2.1 rfl
 unfold de
 rw [s1,s2]
 have e0:short []=[]:=rfl
 have e1:short ([]++[y])=[y]:=(show Rdy 0 [y] from ⟨hy,hy,trivial⟩).sh
 rw [e0,e1]
 intro e
 by_cases c1:0 < y1<;>by_cases c2:0 < y
 ·rw [if_pos c1,if_pos c2] at e
  injection e with e2 e3
  subst e2; subst e3
  exact hno _ h
 ·rw [if_pos c1,if_neg c2] at e
  injection e with e2 e3
  subst e2
  exact hno _ h
 ·rw [if_neg c1,if_pos c2] at e
  injection e with e2 e3
  cases z1<;>cases e2
 ·rw [if_neg c1,if_neg c2] at e
  injection e with e2 e3
  cases z1 with
  | nil =>
   injection e2 with e2 _
   subst e2
   exact hno _ h
  | cons a z1 =>
   injection e2 with _ e2
   cases z1<;>cases e2
def awF:Nat→List (List Int)
 | 0=>[]
 | n + 1=>[] :: (awF n).flatMap fun w=>(lets 26).map fun x=>x :: w
theorem mem_awF:∀ {n:Nat} {w:List Int},w.length < n→Ok w→w∈awF n
 | 0,w,h,_=>absurd h (Nat.not_lt_zero _)
 | n + 1,[],_,_=>by simp [awF]
 | n + 1,x :: w,h,ho=>by
  have h1:=mem_awF (n:=n) (w:=w) (by simpa using h) fun y hy=>ho y (by simp [hy])
  have h2:=ho x (by simp)
  exact List.mem_cons.2 (.inr (List.mem_flatMap.2 ⟨w,h1,List.mem_map.2 ⟨x,mem_lets.2 ⟨h2.1,by omega,by omega⟩,rfl⟩⟩))
theorem SG.run_ok {st:Nat→Int→Option Nat} {W:List Nat} (g:SG st W):∀ {w:List Int} {u:Nat},(runW st u w).isSome=true→Ok w
 | [],_,_=>fun x hx=>(by cases hx)
 | x :: w,u,h=>by
  cases hx:st u x with
  | none=>simp [runW,hx] at h
  | some v =>
   have hs:(runW st v w).isSome=true:=by simpa [runW,hx] using h
   intro y hy
   rcases List.mem_cons.1 hy with rfl | hy
   ·exact g.lt u y v hx
   ·exact g.run_ok hs y hy
open Classical in
noncomputable def nbK (st:Nat→Int→Option Nat) (e:Nat × Int):Bool:=!decide (BrD st e.1 e.2)
open Classical in
noncomputable def brs (st:Nat→Int→Option Nat) (W:List Nat):List (Nat × Int):=(PE st W).filter fun e=>decide (BrD st e.1 e.2)
section
variable {st:Nat→Int→Option Nat} {W:List Nat}
theorem SG.nb_len (g:SG st W):(PE (rsS st (nbK st)) W).length + (brs st W).length=(PE st W).length:=by
 rw [g.rs_len]
 unfold brs nbK
 induction PE st W with
 | nil=>rfl
 | cons e l ih =>
  by_cases h:BrD st e.1 e.2<;>simp only [List.filter_cons,h,decide_true,decide_false,Bool.not_true,Bool.not_false,if_true,Bool.false_eq_true,if_false,List.length_cons]<;>omega
theorem SG.nb_br (g:SG st W) {u v:Nat} {x:Int} (h:st u x=some v) (h1:rsS st (nbK st) u x=none):BrD st u x:=by
 have hx:=(g.lt u x v h).1
 have hk:nbK st (edg u x v) ≠ true:=fun hk=>by
  rw [rsS_iff.2 ⟨h,hk⟩] at h1
  cases h1
 have hb:BrD st (edg u x v).1 (edg u x v).2:=by
  unfold nbK at hk
  simpa using hk
 unfold edg at hb
 by_cases hp:0 < x
 ·rw [if_pos hp] at hb; exact hb
 ·rw [if_neg hp] at hb
  have hi:=g.inv u v x hx h
  have:=BrD.rev g.inv (by omega) hb hi
  rw [Int.neg_neg] at this
  exact this
theorem SG.nb_no (g:SG st W) {u v:Nat} {x:Int} (h:rsS st (nbK st) u x=some v):¬ BrD st u x:=fun hb=>by
 obtain ⟨h1,h2⟩:=rsS_iff.1 h
 have hx:=(g.lt u x v h1).1
 have:BrD st (edg u x v).1 (edg u x v).2:=by
  unfold edg
  by_cases hp:0 < x
  ·rw [if_pos hp]; exact hb
  ·rw [if_neg hp]; exact hb.rev g.inv hx h1
 unfold nbK at h2
 simp [this] at h2
theorem br_upper (g:SG st W) (hu:∀ u∈W,∀ k,∃ z:List Int,z.length=k∧Rdy 0 z∧(runW st u z).isSome=true):W.length + (brs st W).length≤(PE st W).length:=by
 have g1:=g.rs (nbK st)
 have hsub:∀ u x v,rsS st (nbK st) u x=some v→st u x=some v:=fun u x v h=>(rsS_iff.1 h).1
 have key:∀ u∈W,∀ k,∃ z:List Int,z.length=k∧Rdy 0 z∧(runW (rsS st (nbK st)) u z).isSome=true:=by
  intro v hv k
  apply Classical.byContradiction
  intro hno
  have hsh:∀ z:List Int,Rdy 0 z→(runW (rsS st (nbK st)) v z).isSome=true→z.length < k:=fun z hr hs=>by
   apply Classical.byContradiction
   intro hl
   have e:z=z.take k++z.drop k:=(List.take_append_drop k z).symm
   rw [e] at hr hs
   obtain ⟨v',h1,_⟩:=run_take hs
   exact hno ⟨z.take k,by rw [List.length_take]; omega,(rdy_app.1 hr).1,by rw [h1]; rfl⟩
  let P:List Int × Int→Prop:=fun c=>Rdy 0 c.1∧∃ u,runW (rsS st (nbK st)) v c.1=some u∧(st u c.2).isSome=true∧rsS st (nbK st) u c.2=none
  have hP:∀ w y,P (w,y)→w.length < k∧Ok w∧y ≠ 0∧-26≤y∧y≤26:=fun w y ⟨h1,u,h2,h3,h4⟩=>by
   obtain ⟨v',hv'⟩:=Option.isSome_iff_exists.1 h3
   exact ⟨hsh w h1 (by rw [h2]; rfl),g1.run_ok (by rw [h2]; rfl),g.lt u y v' hv'⟩
  have hex:∃ w y,P (w,y):=by
   obtain ⟨z,hz,hr,hs⟩:=hu v hv k
   rcases run_part hsub hs with h | ⟨z1,y,z2,u,rfl,h1,h2,h3⟩
   ·have:=hsh z hr h
    omega
   ·exact ⟨z1,y,(rdy_app.1 hr).1,u,h1,h2,h3⟩
  have hmin:∃ w y,P (w,y)∧∀ w' y',P (w',y')→ele (de w y) (de w' y'):=by
   classical
   let L:List (List Int × Int):=((awF k).flatMap fun w=>(lets 26).map fun y=>(w,y)).filter fun c=>decide (P c)
   have hmem:∀ w y,(w,y)∈L↔P (w,y):=fun w y=>by
    constructor
    ·intro h
     have:=(List.mem_filter.1 h).2
     simpa using this
    ·intro h
     obtain ⟨a,b,c,d,e⟩:=hP w y h
     refine List.mem_filter.2 ⟨List.mem_flatMap.2 ⟨w,mem_awF a b,List.mem_map.2 ⟨y,mem_lets.2 ⟨c,by omega,by omega⟩,rfl⟩⟩,by simpa using h⟩
   obtain ⟨w0,y0,h0⟩:=hex
   have hne:L ≠ []:=List.ne_nil_of_mem ((hmem w0 y0).2 h0)
   obtain ⟨m,hm,h⟩:=ele_min (v:=fun c:List Int × Int=>de c.1 c.2) hne fun c hc=>by
    obtain ⟨w,y⟩:=c
    have hp:=(hmem w y).1 hc
    exact de_ve hp.1.nz (hP w y hp).2.2.1
   obtain ⟨w,y⟩:=m
   exact ⟨w,y,(hmem w y).1 hm,fun w' y' h'=>h (w',y') ((hmem w' y').2 h')⟩
  obtain ⟨w,y,hp,hmin⟩:=hmin
  obtain ⟨hwk,hwo,hy0,_⟩:=hP w y hp
  obtain ⟨hwr,u,hwu,hy,hyn⟩:=hp
  obtain ⟨v',hv'⟩:=Option.isSome_iff_exists.1 hy
  obtain ⟨_,_,_,hbr⟩:=g.nb_br hv' hyn
  obtain ⟨z,hz,hzr,hzs,hze⟩:=hbr (2 * k)
  have hnzw:=hwr.nz
  rcases run_part hsub hzs with h | ⟨z1,y1,z2,u2,rfl,h1,h2,h3⟩
  ·obtain ⟨d,hd⟩:=Option.isSome_iff_exists.1 h
   have hrun:runW (rsS st (nbK st)) v (w++z)=some d:=by rw [runW_app,hwu]; exact hd
   have hrs:=run_short g1.inv (hnzw.app hzr.nz) hrun
   have hlt:(short (w++z)).length < k:=hsh _ (hnzw.app hzr.nz).rdy (by rw [hrs]; rfl)
   have e:short (back w++short (w++z))=z:=by
    rw [short_right,← List.append_assoc,← short_left,short_inv',List.nil_append,hzr.sh]
   have hl:=short_len (back w++short (w++z))
   rw [e,List.length_append,back_len] at hl
   omega
  ·have hrun:runW (rsS st (nbK st)) v (w++z1)=some u2:=by rw [runW_app,hwu]; exact h1
   have hz1:Nz z1:=fun x hx=>hzr.nz x (by simp [hx])
   have hrs:=run_short g1.inv (hnzw.app hz1) hrun
   have hm:=hmin (short (w++z1)) y1 ⟨(hnzw.app hz1).rdy,u2,hrs,h2,h3⟩
   rw [de_short] at hm
   have hy1:y1 ≠ 0:=hzr.nz y1 (by simp)
   have hve1:VE (de z1 y1):=de_ve hz1 hy1
   have hve2:VE (de [] y):=de_ve (fun x hx=>by cases hx) hy0
   have hle:=ele_ac (k:=w) hve1 hve2 (hze _ (mem_pe.2 ⟨z1,y1,z2,rfl,rfl⟩))
   rw [ac_de,ac_de,List.append_nil] at hle
   have heq:=ele_anti (de_ve hnzw hy0) (de_ve (hnzw.app hz1) hy1) hm hle
   have e1:acE w (de z1 y1)=acE w (de [] y):=by rw [ac_de,ac_de,List.append_nil]; exact heq.symm
   exact de_ne hy0 hzr (ac_inj hve1 hve2 e1)
 have:=sg_upper _ g1 rfl key
 have:=g.nb_len
 omega
end
end Go.Proofs.Ytneglephfhiamaa

set_option linter.all false
namespace Go.Proofs.Ytneglephfhiamaa
open Go.Pv
def cpw (c:List Int) (n:Nat):List Int:=(List.replicate n c).flatten
theorem cpw_succ (c:List Int) (n:Nat):cpw c (n + 1)=c++cpw c n:=by unfold cpw; rw [List.replicate_succ,List.flatten_cons]
theorem cpw_comm (c:List Int):∀ n,cpw c n++c=c++cpw c n
 | 0=>by simp [cpw]
 | n + 1=>by rw [cpw_succ,List.append_assoc,cpw_comm c n]
theorem cpw_back (c:List Int):∀ n,back (cpw c n)=cpw (back c) n
 | 0=>rfl
 | n + 1=>by rw [cpw_succ,back_app,cpw_back c n,cpw_comm,cpw_succ]
theorem cpw_len (c:List Int):∀ n,(cpw c n).length=n * c.length
 | 0=>by simp [cpw]
 | n + 1=>by rw [cpw_succ,List.length_append,cpw_len c n,Nat.add_mul]; omega
theorem Rdy.head {p q x:Int} {w:List Int} (h:Rdy q (x :: w)) (hp:x ≠ p):Rdy p (x :: w):=⟨h.1,hp,h.2.2⟩
theorem rdy_rev:∀ {a:List Int} {x:Int},Rdy 0 (a++[x])→Rdy x (back a)∧tL x (back a)=(a++[x]).headD 0
 | [],x,_=>⟨trivial,rfl⟩
 | y :: a,x,h=>by
  obtain ⟨h1,h2⟩:=rdy_rev (a:=a) (x:=x) (Rdy.w0 h.2.2)
  rw [back_cons]
  refine ⟨rdy_app.2 ⟨h1,?_⟩,?_⟩
  ·rw [h2]
   have hh:Rdy (-y) (a++[x]):=h.2.2
   refine ⟨by have:=h.1; omega,?_,trivial⟩
   cases a with
   | nil=>exact fun e=>hh.2.1 e.symm
   | cons b a=>exact fun e=>hh.2.1 e.symm
  ·rw [tL_app]
   show - -y=y
   omega
section
variable {st:Nat→Int→Option Nat} {W:List Nat}
def GD (st:Nat→Int→Option Nat) (u:Nat) (y:Int):Prop:=∃ (p a:List Int) (x:Int) (b:List Int),p=a++x :: b∧p.head? = some y ∧
 ∀ n:Nat,∃ r:List Int,n≤r.length∧Rdy 0 (p++r)∧(runW st u (p++r)).isSome=true∧∀ e∈pe [] (p++r),ele e (de a x)
theorem gd_half (g:SG st W) {u:Nat} {y1 y2:Int} {p1 a1 b1 p2 a2 b2:List Int} {x1 x2:Int} (hne:y1 ≠ y2) (e1:p1=a1++x1 :: b1) (h1:p1.head? = some y1) (e2:p2=a2++x2 :: b2) (h2:p2.head? = some y2)
  (w1:∀ n:Nat,∃ r:List Int,n≤r.length∧Rdy 0 (p1++r)∧(runW st u (p1++r)).isSome=true∧∀ e∈pe [] (p1++r),ele e (de a1 x1))
  (w2:∀ n:Nat,∃ r:List Int,n≤r.length∧Rdy 0 (p2++r)∧(runW st u (p2++r)).isSome=true∧∀ e∈pe [] (p2++r),ele e (de a2 x2))
  (hm:ele (de a2 x2) (de a1 x1)):∃ v x,(st v x).isSome=true∧BrD st v x:=by
 obtain ⟨r0,_,q1,q2,_⟩:=w1 0
 subst e1
 have hz1:Nz a1:=fun x hx=>q1.nz x (by simp [hx])
 have hx1:x1 ≠ 0:=q1.nz x1 (by simp)
 have hz2:Nz a2:=by
  obtain ⟨r,_,q,_⟩:=w2 0
  subst e2
  exact fun x hx=>q.nz x (by simp [hx])
 have hx2:x2 ≠ 0:=by
  obtain ⟨r,_,q,_⟩:=w2 0
  subst e2
  exact q.nz x2 (by simp)
 have hm1:VE (de a1 x1):=de_ve hz1 hx1
 have hm2:VE (de a2 x2):=de_ve hz2 hx2
 have hm0:VE (de [] x1):=de_ve (fun x hx=>by cases hx) hx1
 have hA:acE a1 (de [] x1)=de a1 x1:=by rw [ac_de,List.append_nil]
 have hdn:∀ e,VE e→ele (acE a1 e) (de a1 x1)→ele e (de [] x1):=fun e he h=>by
  have:=ele_ac (k:=back a1) (acE_ve hz1 he) hm1 h
  rw [← hA,ac_ac,ac_ac,ac_nil he (short_inv' a1),ac_nil hm0 (short_inv' a1)] at this
  exact this
 have q2' : (runW st u (a1++(x1 :: (b1++r0)))).isSome=true:=by
  have e:a1++x1 :: b1++r0=a1++(x1 :: (b1++r0)):=by simp
  rw [← e]; exact q2
 obtain ⟨v,hv,q3⟩:=run_take q2'
 obtain ⟨d,hd⟩:∃ d,st v x1=some d:=by
  cases hh:st v x1 with
  | none=>simp [runW,hh] at q3
  | some d=>exact ⟨d,rfl⟩
 refine ⟨v,x1,by rw [hd]; rfl,d,hd,fun n=>?_,fun n=>?_⟩
 ·obtain ⟨r,hr,k1,k2,k3⟩:=w1 n
  have e:a1++x1 :: b1++r=a1++(x1 :: (b1++r)):=by simp
  rw [e] at k1 k2 k3
  obtain ⟨v',hv',k4⟩:=run_take k2
  rw [hv] at hv'
  obtain rfl:=Option.some.inj hv'
  have k5:(runW st d (b1++r)).isSome=true:=by simpa [runW,hd] using k4
  have k6:Rdy (-x1) (b1++r):=(rdy_app.1 k1).2.2.2
  obtain ⟨z,hz⟩:∃ z,(b1++r).take n=z:=⟨_,rfl⟩
  have hsplit:b1++r=z++(b1++r).drop n:=by rw [← hz,List.take_append_drop]
  have hzl:z.length=n:=by rw [← hz,List.length_take,List.length_append]; omega
  have k7:Rdy (-x1) z:=by rw [hsplit] at k6; exact (rdy_app.1 k6).1
  refine ⟨z,hzl,k7,?_,fun e he=>?_⟩
  ·rw [hsplit] at k5
   obtain ⟨w,hw,_⟩:=run_take k5
   rw [hw]; rfl
  ·refine hdn e (pe_ve (nz_one hx1) k7.nz he) (k3 _ ?_)
   have h4:=pe_ac a1 he
   rw [pe_app]
   refine List.mem_append.2 (.inr ?_)
   show _∈de ([]++a1) x1 :: pe ([]++a1++[x1]) (b1++r)
   rw [hsplit,pe_app]
   exact List.mem_cons.2 (.inr (List.mem_append.2 (.inl (by simpa using h4))))
 ·obtain ⟨r,hr,k1,k2,k3⟩:=w2 n
  have hrd:Rdy 0 (a1++[x1]):=by
   have e:a1++x1 :: b1++r0=(a1++[x1])++(b1++r0):=by simp
   rw [e] at q1
   exact (rdy_app.1 q1).1
  obtain ⟨j1,j2⟩:=rdy_rev hrd
  have hh1:(a1++[x1]).headD 0=y1:=by
   cases a1 with
   | nil=>injection h1
   | cons b a1=>injection h1
  rw [hh1] at j2
  have hp2:∃ w,p2++r=y2 :: w:=by
   cases p2 with
   | nil=>cases h2
   | cons b p2=>injection h2 with h2; exact ⟨p2++r,by rw [h2]; rfl⟩
  obtain ⟨w,hw⟩:=hp2
  have j3:Rdy x1 (back a1++(p2++r)):=rdy_app.2 ⟨j1,by
   rw [j2]
   rw [hw] at k1 ⊢
   exact k1.head (Ne.symm hne)⟩
  have hb:runW st v (back a1)=some u:=run_back g.inv hz1 hv
  have j4:(runW st v (back a1++(p2++r))).isSome=true:=by rw [runW_app,hb]; exact k2
  obtain ⟨z,hz⟩:∃ z,(back a1++(p2++r)).take n=z:=⟨_,rfl⟩
  have hsplit:back a1++(p2++r)=z++(back a1++(p2++r)).drop n:=by rw [← hz,List.take_append_drop]
  have hzl:z.length=n:=by rw [← hz,List.length_take,List.length_append,List.length_append]; omega
  have k7:Rdy x1 z:=by rw [hsplit] at j3; exact (rdy_app.1 j3).1
  refine ⟨z,hzl,k7,?_,fun e he=>?_⟩
  ·rw [hsplit] at j4
   obtain ⟨w,hw,_⟩:=run_take j4
   rw [hw]; rfl
  ·have hve:=pe_ve (g:=[]) (fun x hx=>by cases hx) k7.nz he
   refine hdn e hve ?_
   have he2:e∈pe [] (back a1++(p2++r)):=by
    rw [hsplit,pe_app]; exact List.mem_append.2 (.inl he)
   rw [pe_app] at he2
   rcases List.mem_append.1 he2 with he2 | he2
   ·have h4:=pe_ac a1 he2
    rw [List.append_nil] at h4
    have h5:acE a1 e∈pe [] a1:=pe_back (g:=[]) hz1 h4
    obtain ⟨r',_,_,_,k8⟩:=w1 0
    exact k8 _ (by rw [List.append_assoc,pe_app]; exact List.mem_append.2 (.inl h5))
   ·have h4:=pe_ac a1 he2
    have h5:pe (a1++([]++back a1)) (p2++r)=pe [] (p2++r):=pe_congr (by rw [List.nil_append,short_inv]; rfl) _
    rw [h5] at h4
    exact ele_trans (acE_ve hz1 hve) hm2 hm1 (k3 _ h4) hm
theorem gd_two (g:SG st W) {u:Nat} {y1 y2:Int} (hne:y1 ≠ y2) (g1:GD st u y1) (g2:GD st u y2):∃ v x,(st v x).isSome=true∧BrD st v x:=by
 obtain ⟨p1,a1,x1,b1,e1,h1,w1⟩:=g1
 obtain ⟨p2,a2,x2,b2,e2,h2,w2⟩:=g2
 have v1:VE (de a1 x1):=by
  obtain ⟨r,_,q,_⟩:=w1 0
  subst e1
  exact de_ve (fun x hx=>q.nz x (by simp [hx])) (q.nz x1 (by simp))
 have v2:VE (de a2 x2):=by
  obtain ⟨r,_,q,_⟩:=w2 0
  subst e2
  exact de_ve (fun x hx=>q.nz x (by simp [hx])) (q.nz x2 (by simp))
 rcases ele_tot v1 v2 with h | h
 ·exact gd_half g (Ne.symm hne) e2 h2 e1 h1 w2 w1 h
 ·exact gd_half g hne e1 h1 e2 h2 w1 w2 h
theorem gd_cyc {u:Nat} {y:Int} {t c:List Int} (hc:c ≠ []) (hh:(t++c).head? = some y) (hr:∀ n,Rdy 0 (t++cpw c n)) (hs:∀ n,(runW st u (t++cpw c n)).isSome=true)
  {M:List Int × Int} (hM:M∈pe t c) (hmx:∀ e∈pe t c,ele e M) (hdn:ele (acE (t++c++back t) M) M):GD st u y:=by
 have hr1:=hr 1
 rw [cpw_succ] at hr1
 have hr1:Rdy 0 (t++c):=by simpa [cpw] using hr1
 have hzt:Nz t:=fun x hx=>hr1.nz x (by simp [hx])
 have hzc:Nz c:=fun x hx=>hr1.nz x (by simp [hx])
 have hzh:Nz (t++c++back t):=(hzt.app hzc).app hzt.back
 have hve:∀ {g w:List Int} {e:List Int × Int},Nz g→Nz w→e∈pe g w→VE e:=fun hg hw h=>pe_ve hg hw h
 have vM:VE M:=hve hzt hzc hM
 have hzp:∀ n,Nz (cpw c n):=fun n x hx=>(hr n).nz x (by simp [hx])
 have rnd:∀ m,∀ e∈pe (t++cpw c m) c,ele e M:=by
  intro m
  induction m with
  | zero=>intro e he; exact hmx e (by simpa [cpw] using he)
  | succ m ih =>
   intro e he
   have e1:short (t++cpw c (m + 1))=short ((t++c++back t)++(t++cpw c m)):=by
    rw [cpw_succ]
    have h3:=short_mid (t++c) (back t++t) (cpw c m)
    rw [short_inv'] at h3
    simp only [List.append_nil,List.append_assoc,List.nil_append] at h3 ⊢
    exact h3
   rw [pe_congr e1] at he
   have h2:=pe_ac (back (t++c++back t)) he
   have e2:pe (back (t++c++back t)++(t++c++back t++(t++cpw c m))) c=pe (t++cpw c m) c:=pe_congr (by
    rw [← List.append_assoc,← short_left,short_inv',List.nil_append]) c
   rw [e2] at h2
   have h3:=ih _ h2
   have ve:VE e:=hve (hzh.app (hzt.app (hzp m))) hzc he
   have h4:=ele_ac (k:=t++c++back t) (acE_ve hzh.back ve) vM h3
   rw [ac_ac,ac_nil ve (short_inv _)] at h4
   exact ele_trans ve (acE_ve hzh vM) vM h4 hdn
 have all:∀ n m,∀ e∈pe (t++cpw c m) (cpw c n),ele e M:=by
  intro n
  induction n with
  | zero=>intro m e he; cases he
  | succ n ih =>
   intro m e he
   rw [cpw_succ,pe_app] at he
   rcases List.mem_append.1 he with he | he
   ·exact rnd m e he
   ·rw [List.append_assoc,cpw_comm,← cpw_succ] at he
    exact ih (m + 1) e he
 have hgr:∃ a x b,t++c=a++x :: b∧∀ e∈pe [] t++pe t c,ele e (de a x):=by
  have hne:pe [] (t++c) ≠ []:=by
   rw [pe_app]
   intro h
   have:=(List.append_eq_nil_iff.1 h).2
   rw [List.nil_append] at this
   rw [this] at hM
   cases hM
  obtain ⟨m,hm,h⟩:=ele_max (v:=fun e:List Int × Int=>e) hne fun e he=>hve (g:=[]) (fun x hx=>by cases hx) (hzt.app hzc) he
  obtain ⟨a,x,b,e1,rfl⟩:=mem_pe.1 hm
  rw [List.nil_append] at h
  refine ⟨a,x,b,e1,fun e he=>h e ?_⟩
  rw [pe_app]
  exact he
 obtain ⟨a,x,b,e1,hg⟩:=hgr
 have hax:VE (de a x):=by
  have:de a x∈pe [] (t++c):=mem_pe.2 ⟨a,x,b,e1,by rw [List.nil_append]⟩
  exact hve (fun x hx=>by cases hx) (hzt.app hzc) this
 refine ⟨t++c,a,x,b,e1,hh,fun n=>⟨cpw c n,?_,?_,?_,fun e he=>?_⟩⟩
 ·rw [cpw_len]
  have:=List.length_pos_iff.2 hc
  exact Nat.le_mul_of_pos_right n this
 ·rw [List.append_assoc,← cpw_succ]; exact hr (n + 1)
 ·rw [List.append_assoc,← cpw_succ]; exact hs (n + 1)
 ·rw [List.append_assoc,← cpw_succ,pe_app] at he
  rcases List.mem_append.1 he with he | he
  ·exact hg e (List.mem_append.2 (.inl he))
  ·have h1:=all (n + 1) 0 e (by simpa [cpw] using he)
   have ve:VE e:=hve (by simpa using hzt) (hzp (n + 1)) he
   exact ele_trans ve vM hax h1 (hg M (List.mem_append.2 (.inr hM)))
end
end Go.Proofs.Ytneglephfhiamaa

set_option linter.all false
namespace Go.Proofs.Ytneglephfhiamaa
open Go.Pv
section
variable {st:Nat→Int→Option Nat} {W:List Nat}
def Vd (st:Nat→Int→Option Nat) (d:Nat × Int):Prop:=(st d.1 d.2).isSome=true
theorem Vd.tg {d:Nat × Int} (h:Vd st d):st d.1 d.2=some (tgt st d):=by
 obtain ⟨v,hv⟩:=Option.isSome_iff_exists.1 h
 rw [hv,tgt_of hv]
open Classical in
noncomputable def nxd (st:Nat→Int→Option Nat) (d:Nat × Int):Nat × Int:=
 if h:∃ y,y ≠ -d.2∧(st (tgt st d) y).isSome=true then (tgt st d,h.choose) else d
theorem nxd_spec (g:SG st W) (hd:∀ u∈W,2≤dg st u) {d:Nat × Int} (h:Vd st d):(nxd st d).1=tgt st d∧(nxd st d).2 ≠ -d.2∧Vd st (nxd st d):=by
 have hex:∃ y,y ≠ -d.2∧(st (tgt st d) y).isSome=true:=by
  apply Classical.byContradiction
  intro hc
  have hv:=g.tg h.tg
  have h2:=hd _ hv
  have hall:∀ y∈ltS st (tgt st d),y∈[-d.2]:=fun y hy=>by
   rw [List.mem_singleton]
   apply Classical.byContradiction
   intro hne
   exact hc ⟨y,hne,g.ltm.1 hy⟩
  have:=nd_le (ltS_nd (step:=st) (tgt st d)) hall
  unfold dg at h2
  simp at this
  omega
 unfold nxd
 rw [dif_pos hex]
 exact ⟨rfl,hex.choose_spec.1,hex.choose_spec.2⟩
noncomputable def itd (st:Nat→Int→Option Nat):Nat→Nat × Int→Nat × Int
 | 0,d=>d
 | n + 1,d=>itd st n (nxd st d)
noncomputable def wdd (st:Nat→Int→Option Nat):Nat→Nat × Int→List Int
 | 0,_=>[]
 | n + 1,d=>d.2 :: wdd st n (nxd st d)
theorem itd_add:∀ (a b:Nat) (d:Nat × Int),itd st (a + b) d=itd st b (itd st a d)
 | 0,b,d=>by rw [Nat.zero_add]; rfl
 | a + 1,b,d=>by
  rw [show a + 1 + b=(a + b) + 1 by omega]
  exact itd_add a b (nxd st d)
theorem wdd_add:∀ (a b:Nat) (d:Nat × Int),wdd st (a + b) d=wdd st a d++wdd st b (itd st a d)
 | 0,b,d=>by rw [Nat.zero_add]; rfl
 | a + 1,b,d=>by
  rw [show a + 1 + b=(a + b) + 1 by omega]
  show d.2 :: wdd st (a + b) (nxd st d)=d.2 :: (wdd st a (nxd st d)++wdd st b (itd st a (nxd st d)))
  rw [wdd_add a b (nxd st d)]
variable (g:SG st W) (hd:∀ u∈W,2≤dg st u)
include g hd
theorem itd_vd:∀ (n:Nat) {d:Nat × Int},Vd st d→Vd st (itd st n d)
 | 0,_,h=>h
 | n + 1,_,h=>itd_vd n (nxd_spec g hd h).2.2
theorem wdd_run:∀ (n:Nat) {d:Nat × Int},Vd st d→runW st d.1 (wdd st n d)=some (itd st n d).1
 | 0,_,_=>rfl
 | n + 1,d,h=>by
  show runW st d.1 (d.2 :: wdd st n (nxd st d))=some (itd st n (nxd st d)).1
  have h2:=nxd_spec g hd h
  simp only [runW,h.tg]
  rw [← h2.1]
  exact wdd_run n h2.2.2
theorem wdd_rdy:∀ (n:Nat) {d:Nat × Int} {p:Int},Vd st d→d.2 ≠ p→Rdy p (wdd st n d)
 | 0,_,_,_,_=>trivial
 | n + 1,d,p,h,hp=>by
  have h2:=nxd_spec g hd h
  exact ⟨(g.lt _ _ _ h.tg).1,hp,wdd_rdy n h2.2.2 h2.2.1⟩
theorem itd_rep {d:Nat × Int} (h:Vd st d):∃ i j,i < j∧itd st i d=itd st j d∧(i=0∨itd st (i - 1) d ≠ itd st (j - 1) d):=by
 have hex:∃ i j,i < j∧itd st i d=itd st j d:=by
  apply Classical.byContradiction
  intro hc
  have hne:∀ i j,i < j→itd st i d ≠ itd st j d:=fun i j hij e=>hc ⟨i,j,hij,e⟩
  obtain ⟨D,hD⟩:∃ D,(W.flatMap fun u=>(ltS st u).map fun x=>(u,x))=D:=⟨_,rfl⟩
  have hm:∀ n,itd st n d∈D:=fun n=>by
   have hv:=itd_vd g hd n h
   rw [← hD]
   exact List.mem_flatMap.2 ⟨(itd st n d).1,g.src _ _ _ hv.tg,List.mem_map.2 ⟨(itd st n d).2,g.ltm.2 hv,rfl⟩⟩
  have hnd:((List.range (D.length + 1)).map fun n=>itd st n d).Nodup:=nodup_mapF List.nodup_range fun a _ b _ e=>by
   apply Classical.byContradiction
   intro hab
   rcases Nat.lt_or_gt_of_ne hab with hl | hl
   ·exact hne a b hl e
   ·exact hne b a hl e.symm
  have:=nd_le hnd fun x hx=>by
   obtain ⟨n,_,rfl⟩:=List.mem_map.1 hx
   exact hm n
  simp at this
  omega
 have go:∀ i j,i < j→itd st i d=itd st j d→∃ i j,i < j∧itd st i d=itd st j d∧(i=0∨itd st (i - 1) d ≠ itd st (j - 1) d):=by
  intro i
  induction i with
  | zero=>exact fun j hij e=>⟨0,j,hij,e,.inl rfl⟩
  | succ i ih =>
   intro j hij e
   by_cases h2:itd st i d=itd st (j - 1) d
   ·exact ih (j - 1) (by omega) h2
   ·exact ⟨i + 1,j,hij,e,.inr h2⟩
 obtain ⟨i,j,hij,e⟩:=hex
 exact go i j hij e
theorem wdd_pow {l:Nat} {d:Nat × Int} (h:itd st l d=d):∀ n,wdd st (n * l) d=cpw (wdd st l d) n∧itd st (n * l) d=d
 | 0=>by rw [Nat.zero_mul]; exact ⟨rfl,rfl⟩
 | n + 1=>by
  obtain ⟨h1,h2⟩:=wdd_pow h n
  rw [show (n + 1) * l=l + n * l by rw [Nat.add_mul]; omega]
  rw [wdd_add,itd_add,h,h1,h2,cpw_succ]
  exact ⟨rfl,rfl⟩
theorem dart_gd {d:Nat × Int} (hV:Vd st d):GD st d.1 d.2∨∃ y' δ,GD st d.1 y'∧y' ≠ d.2∧Vd st δ∧tgt st δ=d.1∧δ.2 = -y'∧nxd st δ=d:=by
 obtain ⟨i,j,hij,he,hmin⟩:=itd_rep g hd hV
 obtain ⟨l,rfl⟩:∃ l,j=i + (l + 1):=⟨j - i - 1,by omega⟩
 obtain ⟨d',hd'⟩:∃ d',itd st i d=d':=⟨_,rfl⟩
 have hV' : Vd st d':=hd' ▸ itd_vd g hd i hV
 have hcl:itd st (l + 1) d' = d':=by rw [← hd',← itd_add,← he]
 obtain ⟨t,ht⟩:∃ t,wdd st i d=t:=⟨_,rfl⟩
 obtain ⟨c,hc⟩:∃ c,wdd st (l + 1) d' = c:=⟨_,rfl⟩
 have hcn:c ≠ []:=by rw [← hc]; exact List.cons_ne_nil _ _
 have hd0:d.2 ≠ 0:=(g.lt _ _ _ hV.tg).1
 have hpw:∀ n,wdd st (i + n * (l + 1)) d=t++cpw c n:=fun n=>by rw [wdd_add,ht,hd',(wdd_pow g hd hcl n).1,hc]
 have hr:∀ n,Rdy 0 (t++cpw c n):=fun n=>by rw [← hpw]; exact wdd_rdy g hd _ hV hd0
 have hs:∀ n,(runW st d.1 (t++cpw c n)).isSome=true:=fun n=>by rw [← hpw,wdd_run g hd _ hV]; rfl
 have htc:t++c=wdd st (i + (l + 1)) d:=by rw [wdd_add,ht,hd',hc]
 have hh:(t++c).head? = some d.2:=by
  rw [htc,show i + (l + 1)=(i + l) + 1 by omega]; rfl
 have hr1:Rdy 0 (t++c):=by rw [htc]; exact wdd_rdy g hd _ hV hd0
 have hzt:Nz t:=fun x hx=>hr1.nz x (by simp [hx])
 have hzc:Nz c:=fun x hx=>hr1.nz x (by simp [hx])
 have hpn:pe t c ≠ []:=by
  cases hcc:c with
  | nil=>exact absurd hcc hcn
  | cons x c'=>exact List.cons_ne_nil _ _
 obtain ⟨M,hM,hmx⟩:=ele_max (v:=fun e:List Int × Int=>e) hpn fun e he=>pe_ve hzt hzc he
 have vM:VE M:=pe_ve hzt hzc hM
 have hzh:Nz (t++c++back t):=(hzt.app hzc).app hzt.back
 rcases ele_tot (acE_ve hzh vM) vM with hdn | hup
 ·exact .inl (gd_cyc hcn hh hr hs hM hmx hdn)
 have ebh:t++back c++back t=back (t++c++back t):=by rw [back_app,back_app,back_back,List.append_assoc]
 obtain ⟨h,hhd⟩:∃ h,t++c++back t=h:=⟨_,rfl⟩
 rw [hhd] at hup hzh
 have hzb:=hzh.back
 have e1:short (back h++(t++c))=short t:=by
  rw [← hhd,← ebh]
  have h3:=short_mid (t++back c) (back t++t) c
  rw [short_inv'] at h3
  have h4:=short_mid t (back c++c) []
  rw [short_inv'] at h4
  simp only [List.append_nil,List.append_assoc] at h3 h4 ⊢
  rw [← h3,← h4]
 have e2:short (h++t)=short (t++c):=by
  rw [← hhd]
  have h3:=short_mid (t++c) (back t++t) []
  rw [short_inv'] at h3
  simp only [List.append_nil,List.append_assoc] at h3 ⊢
  exact h3.symm
 have hM' : acE (back h) M∈pe t (back c):=by
  have k1:M∈pe (t++c) (back c):=pe_back (g:=t++c) hzc.back (by
   rw [back_back]
   have:pe (t++c++back c) c=pe t c:=pe_congr (by
    have h3:=short_mid t (c++back c) []
    rw [short_inv] at h3
    simp only [List.append_nil,List.append_assoc] at h3 ⊢
    exact h3.symm) c
   rw [this]; exact hM)
  have k2:=pe_ac (back h) k1
  rwa [pe_congr e1] at k2
 have hmx' : ∀ e∈pe t (back c),ele e (acE (back h) M):=fun e he=>by
  have ve:VE e:=pe_ve hzt hzc.back he
  have k1:=pe_ac h he
  rw [pe_congr e2] at k1
  have k2:=hmx _ (pe_back hzc k1)
  have k3:=ele_ac (k:=back h) (acE_ve hzh ve) vM k2
  rwa [ac_ac,ac_nil ve (short_inv' h)] at k3
 have hdn' : ele (acE (t++back c++back t) (acE (back h) M)) (acE (back h) M):=by
  rw [ebh,hhd]
  have k1:=ele_ac (k:=back h) vM (acE_ve hzh vM) hup
  rw [ac_ac,ac_nil vM (short_inv' h)] at k1
  exact ele_ac (k:=back h) (acE_ve hzb vM) vM k1
 obtain ⟨δ,hδ⟩:∃ δ,itd st l d' = δ:=⟨_,rfl⟩
 have hVδ:Vd st δ:=hδ ▸ itd_vd g hd l hV'
 have hnδ:nxd st δ=d':=by
  have:itd st (l + 1) d' = nxd st (itd st l d'):=itd_add l 1 d'
  rw [← hδ,← this,hcl]
 have hcδ:c=wdd st l d'++[δ.2]:=by
  rw [← hc,wdd_add l 1 d',hδ]; rfl
 have htg:tgt st δ=d'.1:=by rw [← (nxd_spec g hd hVδ).1,hnδ]
 have hbc:back c = -δ.2 :: back (wdd st l d'):=by rw [hcδ,back_app]; rfl
 have hbn:back c ≠ []:=by rw [hbc]; exact List.cons_ne_nil _ _
 have hcyc:∀ n,runW st d'.1 (cpw c n)=some d'.1:=fun n=>by
  have h1:=wdd_pow g hd hcl n
  rw [hc] at h1
  have h2:=wdd_run g hd (n * (l + 1)) hV'
  rw [h1.1,h1.2] at h2
  exact h2
 have hzp:∀ n,Nz (cpw c n):=fun n x hx=>(hr n).nz x (by simp [hx])
 have hbrun:∀ n,runW st d'.1 (cpw (back c) n)=some d'.1:=fun n=>by
  rw [← cpw_back]
  exact run_back g.inv (hzp n) (hcyc n)
 have hbrd:∀ n,Rdy 0 (cpw (back c) n):=fun n=>by
  rw [← cpw_back]
  have h1:=(rdy_app.1 (hr n)).2.w0
  have h2:=rdy_iff.1 h1
  exact rdy_iff.2 ⟨h2.1.back,red_backN h2.2⟩
 have htrun:runW st d.1 t=some d'.1:=by rw [← ht,wdd_run g hd i hV,hd']
 have hs' : ∀ n,(runW st d.1 (t++cpw (back c) n)).isSome=true:=fun n=>by rw [runW_app,htrun]; simp only [Option.bind_some,hbrun]; rfl
 by_cases hi:i=0
 ·subst hi
  have ht0:t=[]:=by rw [← ht]; rfl
  have hdd:d' = d:=hd'.symm
  subst ht0
  right
  refine ⟨-δ.2,δ,gd_cyc hbn (by rw [List.nil_append,hbc]; rfl) (fun n=>hbrd n) hs' hM' hmx' hdn',?_,hVδ,by rw [htg,hdd],by omega,by rw [hnδ,hdd]⟩
  have:=(nxd_spec g hd hVδ).2.1
  rw [hnδ,hdd] at this
  exact fun e=>this e.symm
 ·left
  have hne:=hmin.resolve_left hi
  obtain ⟨k,rfl⟩:∃ k,i=k + 1:=⟨i - 1,by omega⟩
  obtain ⟨ε,hε⟩:∃ ε,itd st k d=ε:=⟨_,rfl⟩
  have hVε:Vd st ε:=hε ▸ itd_vd g hd k hV
  have hnε:nxd st ε=d':=by
   have:itd st (k + 1) d=nxd st (itd st k d):=itd_add k 1 d
   rw [← hε,← this,hd']
  have htε:t=wdd st k d++[ε.2]:=by rw [← ht,wdd_add k 1 d,hε]; rfl
  have hεt:tgt st ε=d'.1:=by rw [← (nxd_spec g hd hVε).1,hnε]
  have hδ2:itd st (k + 1 + (l + 1) - 1) d=δ:=by
   rw [show k + 1 + (l + 1) - 1=(k + 1) + l by omega,itd_add,hd',hδ]
  have hne2:ε ≠ δ:=by
   intro e
   apply hne
   rw [show k + 1 - 1=k by omega,hε,hδ2,e]
  have hl:ε.2 ≠ δ.2:=fun e=>by
   apply hne2
   have i1:=g.inv _ _ _ (g.lt _ _ _ hVε.tg).1 hVε.tg
   have i2:=g.inv _ _ _ (g.lt _ _ _ hVδ.tg).1 hVδ.tg
   rw [hεt,e] at i1
   rw [htg,i1] at i2
   exact Prod.ext (Option.some.inj i2) e
  have hhd2:(t++back c).head? = some d.2:=by
   rw [← ht]; rfl
  refine gd_cyc hbn hhd2 (fun n=>rdy_app.2 ⟨(rdy_app.1 (hr 0)).1,?_⟩) hs' hM' hmx' hdn'
  have htl:tL 0 t = -ε.2:=by rw [htε,tL_app]; rfl
  rw [htl]
  cases n with
  | zero=>trivial
  | succ n =>
   have h1:=hbrd (n + 1)
   rw [cpw_succ,hbc] at h1 ⊢
   exact Rdy.head h1 (by omega)
theorem three_br {w:Nat} (hw:3≤dg st w):∃ v x,(st v x).isSome=true∧BrD st v x:=by
 have hl:∃ y1 y2 y3,y1 ≠ y2∧y1 ≠ y3∧y2 ≠ y3∧Vd st (w,y1)∧Vd st (w,y2)∧Vd st (w,y3):=by
  have hnd:=ltS_nd (step:=st) w
  have hm:∀ y∈ltS st w,Vd st (w,y):=fun y hy=>g.ltm.1 hy
  unfold dg at hw
  revert hnd hm hw
  generalize ltS st w=L
  intro hw hnd hm
  match L,hw,hnd,hm with
  | a :: b :: c :: L,hw,hnd,hm =>
   simp only [List.nodup_cons,List.mem_cons,not_or] at hnd
   exact ⟨a,b,c,hnd.1.1,hnd.1.2.1,hnd.2.1.1,hm a (by simp),hm b (by simp),hm c (by simp)⟩
  | [],hw,_,_=>simp at hw
  | [_],hw,_,_=>simp at hw
  | [_,_],hw,_,_=>simp at hw
 obtain ⟨y1,y2,y3,n12,n13,n23,v1,v2,v3⟩:=hl
 have step:∀ y,Vd st (w,y)→∀ z,Vd st (w,z)→∀ z2,Vd st (w,z2)→y ≠ z→y ≠ z2→z ≠ z2→¬ GD st w y→∃ v x,(st v x).isSome=true∧BrD st v x:=by
  intro y hy z hz z2 hz2 hyz hyz2 hzz hno
  obtain ⟨y',δ,g1,n1,hδ,t1,l1,x1⟩:=(dart_gd g hd hy).resolve_left hno
  have hthird:∃ a,Vd st (w,a)∧a ≠ y∧a ≠ y':=by
   by_cases h:z=y'
   ·exact ⟨z2,hz2,Ne.symm hyz2,fun e=>hzz (by rw [h,e])⟩
   ·exact ⟨z,hz,Ne.symm hyz,h⟩
  obtain ⟨a,ha,a1,a2⟩:=hthird
  rcases dart_gd g hd ha with ga | ⟨a',δ2,g2,n2,hδ2,t2,l2,x2⟩
  ·exact gd_two g a2 ga g1
  ·by_cases e:a' = y'
   ·exfalso
    have i1:=g.inv _ _ _ (g.lt _ _ _ hδ.tg).1 hδ.tg
    have i2:=g.inv _ _ _ (g.lt _ _ _ hδ2.tg).1 hδ2.tg
    rw [t1,l1] at i1
    rw [t2,l2,e] at i2
    rw [i1] at i2
    have:δ=δ2:=Prod.ext (Option.some.inj i2) (by rw [l1,l2,e])
    rw [this,x2] at x1
    exact a1 (congrArg Prod.snd x1)
   ·exact gd_two g (fun h=>e h.symm) g1 g2
 by_cases h1:GD st w y1
 ·by_cases h2:GD st w y2
  ·exact gd_two g n12 h1 h2
  ·exact step y2 v2 y1 v1 y3 v3 (Ne.symm n12) n23 n13 h2
 ·exact step y1 v1 y2 v2 y3 v3 n12 n13 n23 h1
end
theorem br_lower {st:Nat→Int→Option Nat} {W:List Nat} (g:SG st W):(PE st W).length≤W.length + (brs st W).length:=by
 apply Classical.byContradiction
 intro hc
 have hn:=g.nb_len
 obtain ⟨st',W',g',hsub,hd,w,hw,h3⟩:=sg_lower _ (g.rs (nbK st)) rfl (by omega)
 obtain ⟨v,x,hx,hb⟩:=three_br g' hd h3
 obtain ⟨u,hu⟩:=Option.isSome_iff_exists.1 hx
 have h1:=hsub v x u hu
 have h2:BrD st v x:=hb.hom (κ:=id) fun a y b h=>(rsS_iff.1 (hsub a y b h)).1
 exact g.nb_no h1 h2
end Go.Proofs.Ytneglephfhiamaa

set_option linter.all false
namespace Go.Proofs.Ytneglephfhiamaa
open Go.Pv
section
variable {st:Nat→Int→Option Nat} {lst:List Nat}
def rsL (st:Nat→Int→Option Nat) (lst:List Nat) (u:Nat) (x:Int):Option Nat:=if u∈lst then st u x else none
theorem rsL_in {u:Nat} (h:u∈lst) (x:Int):rsL st lst u x=st u x:=if_pos h
theorem rsL_iff {u v:Nat} {x:Int} : rsL st lst u x=some v↔u∈lst∧st u x=some v:=by
 unfold rsL
 by_cases h:u∈lst
 ·rw [if_pos h]; exact ⟨fun e=>⟨h,e⟩,fun e=>e.2⟩
 ·rw [if_neg h]
  constructor
  ·intro e; cases e
  ·intro e; exact absurd e.1 h
theorem CG.sg (c:CG st lst):SG (rsL st lst) lst:=by
 refine ⟨fun a b x hx h=>?_,c.nd,fun u x v h=>(rsL_iff.1 h).1,fun u x v h=>c.lt u (rsL_iff.1 h).1 x v (rsL_iff.1 h).2⟩
 obtain ⟨h1,h2⟩:=rsL_iff.1 h
 exact rsL_iff.2 ⟨c.cl a h1 x b h2,c.inv a b x hx h2⟩
theorem CG.pe_eq (c:CG st lst):(PE (rsL st lst) lst).length=(PE st lst).length:=by
 refine nd_eq (PE_nd c.nd) (PE_nd c.nd) fun e=>?_
 obtain ⟨u,x⟩:=e
 rw [c.sg.mem,mem_PE0 c.lt]
 constructor
 ·rintro ⟨h1,h2⟩
  obtain ⟨v,hv⟩:=Option.isSome_iff_exists.1 h2
  obtain ⟨a,b⟩:=rsL_iff.1 hv
  exact ⟨a,h1,by rw [b]; rfl⟩
 ·rintro ⟨h1,h2,h3⟩
  exact ⟨h2,by rw [rsL_in h1]; exact h3⟩
theorem CG.run_rsL (c:CG st lst):∀ {w:List Int} {u v:Nat},u∈lst→runW st u w=some v→runW (rsL st lst) u w=some v
 | [],_,_,_,h=>h
 | x :: w,u,v,hu,h=>by
  simp only [runW] at h ⊢
  cases hx:st u x with
  | none=>rw [hx] at h; cases h
  | some d =>
   rw [hx] at h
   rw [rsL_in hu,hx]
   exact c.run_rsL (c.cl u hu x d hx) h
theorem cpw_ne {w:List Int} (hr:Rdy 0 w) (hw:w ≠ []):∀ {m n:Nat},m < n→short (cpw w m) ≠ short (cpw w n):=by
 have hz:=hr.nz
 have hzp:∀ n,Nz (cpw w n):=fun n x hx=>by
  unfold cpw at hx
  obtain ⟨l,hl,hx⟩:=List.mem_flatten.1 hx
  rw [(List.mem_replicate.1 hl).2] at hx
  exact hz x hx
 have hz0:Nz ([]:List Int):=fun x hx=>by cases hx
 have sw:short w=w:=hr.sh
 have s0:short ([]:List Int)=[]:=rfl
 have hstep:∀ n,cpw w (n + 1)=cpw w n++w:=fun n=>by rw [cpw_succ,cpw_comm]
 rcases ltW_tot hz0 hz with h | h | h
 ·have one:∀ n,ltW (cpw w n) (cpw w (n + 1)):=fun n=>by
   have:=(ltW_front (g:=[]) (h:=w) (k:=cpw w n)).2 h
   rw [List.append_nil] at this
   rw [hstep]; exact this
  have all:∀ m d,ltW (cpw w m) (cpw w (m + d + 1)):=fun m d=>by
   induction d with
   | zero=>exact one m
   | succ d ih=>exact ltW_trans (hzp m) (hzp _) (hzp _) ih (one _)
  intro m n hmn e
  obtain ⟨d,rfl⟩:∃ d,n=m + d + 1:=⟨n - m - 1,by omega⟩
  have h1:=all m d
  rw [← ltW_short,e] at h1
  exact ltW_irr h1
 ·rw [sw,s0] at h
  intro m n _ _
  exact hw h.symm
 ·have one:∀ n,ltW (cpw w (n + 1)) (cpw w n):=fun n=>by
   have:=(ltW_front (g:=w) (h:=[]) (k:=cpw w n)).2 h
   rw [List.append_nil] at this
   rw [hstep]; exact this
  have all:∀ m d,ltW (cpw w (m + d + 1)) (cpw w m):=fun m d=>by
   induction d with
   | zero=>exact one m
   | succ d ih=>exact ltW_trans (hzp _) (hzp _) (hzp _) (one _) ih
  intro m n hmn e
  obtain ⟨d,rfl⟩:∃ d,n=m + d + 1:=⟨n - m - 1,by omega⟩
  have h1:=all m d
  rw [← ltW_short,e] at h1
  exact ltW_irr h1
theorem cg_unb (c:CG st lst) {w:List Int} (hr:Rdy 0 w) (hw:w ≠ []) (h0:runW st 0 w=some 0):∀ u∈lst,∀ k,∃ z:List Int,z.length=k∧Rdy 0 z∧(runW (rsL st lst) u z).isSome=true:=by
 intro u hu k
 obtain ⟨p,hp⟩:=c.con u hu
 have hpz:=(cg_nz c c.m0 hp).1
 have hz:=hr.nz
 have hzp:∀ n,Nz (cpw w n):=fun n x hx=>by
  unfold cpw at hx
  obtain ⟨l,hl,hx⟩:=List.mem_flatten.1 hx
  rw [(List.mem_replicate.1 hl).2] at hx
  exact hz x hx
 have hcy:∀ n,runW st 0 (cpw w n)=some 0:=fun n=>by
  induction n with
  | zero=>rfl
  | succ n ih=>rw [cpw_succ,runW_app,h0]; exact ih
 have hz1:∀ n,Nz (back p++cpw w n):=fun n=>hpz.back.app (hzp n)
 have hrun:∀ n,runW st u (short (back p++cpw w n))=some 0:=fun n=>by
  refine run_short c.inv (hz1 n) ?_
  rw [runW_app,run_back c.inv hpz hp]
  exact hcy n
 have hex:∃ n,k≤(short (back p++cpw w n)).length:=by
  apply Classical.byContradiction
  intro hc
  have hl:∀ n,(short (back p++cpw w n)).length < k:=fun n=>Nat.lt_of_not_le fun h=>hc ⟨n,h⟩
  have hnd:((List.range ((awF k).length + 1)).map fun n=>short (back p++cpw w n)).Nodup:=nodup_mapF List.nodup_range fun a _ b _ e=>by
   have e2:short (cpw w a)=short (cpw w b):=by
    have h3:=congrArg (fun x=>short (p++x)) e
    simp only [short_right] at h3
    have h4:∀ x,short (p++(back p++x))=short x:=fun x=>by
     rw [← List.append_assoc,← short_left,short_inv,List.nil_append]
    rwa [h4,h4] at h3
   apply Classical.byContradiction
   intro hab
   rcases Nat.lt_or_gt_of_ne hab with hlt | hlt
   ·exact cpw_ne hr hw hlt e2
   ·exact cpw_ne hr hw hlt e2.symm
  have:=nd_le hnd fun z hz=>by
   obtain ⟨n,_,rfl⟩:=List.mem_map.1 hz
   exact mem_awF (hl n) (c.sg.run_ok (u:=u) (by rw [c.run_rsL hu (hrun n)]; rfl))
  simp at this
  omega
 obtain ⟨n,hn⟩:=hex
 obtain ⟨z,hzz⟩:∃ z,short (back p++cpw w n)=z:=⟨_,rfl⟩
 have hrn:=hrun n
 rw [hzz] at hn hrn
 have hrz:Rdy 0 z:=hzz ▸ (hz1 n).rdy
 have e:z=z.take k++z.drop k:=(List.take_append_drop k z).symm
 have hs:(runW (rsL st lst) u (z.take k++z.drop k)).isSome=true:=by rw [← e,c.run_rsL hu hrn]; rfl
 rw [e] at hrz
 obtain ⟨v,hv,_⟩:=run_take hs
 exact ⟨z.take k,by rw [List.length_take]; omega,(rdy_app.1 hrz).1,by rw [hv]; rfl⟩
end
theorem mem_brs {st:Nat→Int→Option Nat} {W:List Nat} (gs:SG st W) (u:Nat) (x:Int):(u,x)∈brs st W↔0 < x∧BrD st u x:=by
 classical
 unfold brs
 rw [List.mem_filter,gs.mem]
 constructor
 ·intro h
  exact ⟨h.1.1,by simpa using h.2⟩
 ·rintro ⟨h1,h2⟩
  have h3:=h2
  obtain ⟨v,hv,_⟩:=h2
  exact ⟨⟨h1,by rw [hv]; rfl⟩,by simpa using h3⟩
theorem brs_nd {st:Nat→Int→Option Nat} {W:List Nat} (gs:SG st W):(brs st W).Nodup:=by
 unfold brs
 exact List.Nodup.sublist List.filter_sublist (PE_nd gs.nd)
section
variable {A B:Nat→Int→Option Nat} {lA lB:List Nat} {q:List (Nat × Nat)}
theorem hn_main (cA:CG A lA) (cB:CG B lB) (g:PG A B q) {w:List Int} (hr:Rdy 0 w) (hw:w ≠ []) (h0:runW (stQ A B q) 0 w=some 0) :
  ∃ a b:Nat,(PE (stQ A B q) (List.range q.length)).length≤q.length + a * b∧lA.length + a≤(PE A lA).length∧lB.length + b≤(PE B lB).length:=by
 have hlt:∀ p∈q,∀ x v,A p.1 x=some v→x ≠ 0∧-26≤x∧x≤26:=fun p hp x v h=>cA.lt p.1 (g.sub cA cB hp).1 x v h
 have cQ:=g.cg cA.inv cB.inv hlt
 have gQ:=cQ.sg
 obtain ⟨wA,wB⟩:=(g.closed w).1 h0
 have uA:=br_upper cA.sg (cg_unb cA hr hw wA)
 have uB:=br_upper cB.sg (cg_unb cB hr hw wB)
 have lQ:=br_lower gQ
 rw [cA.pe_eq] at uA
 rw [cB.pe_eq] at uB
 rw [cQ.pe_eq,List.length_range] at lQ
 refine ⟨_,_,Nat.le_trans lQ (Nat.add_le_add_left ?_ _),uA,uB⟩
 have hpa:∀ i x v,rsL (stQ A B q) (List.range q.length) i x=some v→rsL A lA (q.getD i (0,0)).1 x=some (q.getD v (0,0)).1:=fun i x v h=>by
  obtain ⟨_,h1⟩:=rsL_iff.1 h
  obtain ⟨h2,h3,h4⟩:=(stQ_iff g).1 h1
  exact rsL_iff.2 ⟨(g.sub cA cB (q_mem h2)).1,(sP_iff.1 h4).1⟩
 have hpb:∀ i x v,rsL (stQ A B q) (List.range q.length) i x=some v→rsL B lB (q.getD i (0,0)).2 x=some (q.getD v (0,0)).2:=fun i x v h=>by
  obtain ⟨_,h1⟩:=rsL_iff.1 h
  obtain ⟨h2,h3,h4⟩:=(stQ_iff g).1 h1
  exact rsL_iff.2 ⟨(g.sub cA cB (q_mem h2)).2,(sP_iff.1 h4).2⟩
 have hmem:∀ (st:Nat→Int→Option Nat) (W:List Nat) (gs:SG st W) (u:Nat) (x:Int),(u,x)∈brs st W↔0 < x∧BrD st u x:=fun st W gs u x=>mem_brs gs u x
 have hnd:(brs (rsL (stQ A B q) (List.range q.length)) (List.range q.length)).Nodup:=brs_nd gQ
 have hin:∀ e∈brs (rsL (stQ A B q) (List.range q.length)) (List.range q.length),e.1 < q.length:=fun e he=>by
  obtain ⟨i,x⟩:=e
  obtain ⟨_,v,hv,_⟩:=(hmem _ _ gQ i x).1 he
  exact List.mem_range.1 (rsL_iff.1 hv).1
 have hn2:((brs (rsL (stQ A B q) (List.range q.length)) (List.range q.length)).map fun e=>(((q.getD e.1 (0,0)).1,e.2),((q.getD e.1 (0,0)).2,e.2))).Nodup:=nodup_mapF hnd fun a ha b hb e=>by
  obtain ⟨i,x⟩:=a
  obtain ⟨j,y⟩:=b
  have h1:=hin _ ha
  have h2:=hin _ hb
  simp only [Prod.mk.injEq] at e h1 h2
  obtain ⟨⟨e1,e2⟩,e3,_⟩:=e
  have:q.getD i (0,0)=q.getD j (0,0):=Prod.ext e1 e3
  have h3:=congrArg q.idxOf this
  rw [qix g.nd h1,qix g.nd h2] at h3
  rw [h3,e2]
 have hle:=nd_le (b:=(brs (rsL A lA) lA).flatMap fun e=>(brs (rsL B lB) lB).map fun f=>(e,f)) hn2 fun z hz=>by
  obtain ⟨e,he,rfl⟩:=List.mem_map.1 hz
  obtain ⟨i,x⟩:=e
  obtain ⟨hx,hb⟩:=(hmem _ _ gQ i x).1 he
  have b1:=hb.hom (κ:=fun i=>(q.getD i (0,0)).1) hpa
  have b2:=hb.hom (κ:=fun i=>(q.getD i (0,0)).2) hpb
  exact List.mem_flatMap.2 ⟨_,(hmem _ _ cA.sg _ x).2 ⟨hx,b1⟩,List.mem_map.2 ⟨_,(hmem _ _ cB.sg _ x).2 ⟨hx,b2⟩,rfl⟩⟩
 rw [List.length_map,flat_len,sum_all (fun e=>((brs (rsL B lB) lB).map fun f=>(e,f)).length) (brs (rsL B lB) lB).length _ fun e _=>List.length_map _] at hle
 first
 | exact hle
 | (rw [Nat.mul_comm] at hle; exact hle)
end
end Go.Proofs.Ytneglephfhiamaa

set_option linter.all false
namespace Go.Proofs.Ytneglephfhiamaa
open Go.Pv
theorem rank_le20 {l:List (List Int)} (c1:(ckL l).1=0):(rankS l).1=(eS (l.map short):Int) + 1 - vS (l.map short)∧-1000000≤(rankS l).1∧(rankS l).1≤1000000:=by
 obtain ⟨v1,v2,v3,v4⟩:=ckL_cnt c1
 have:(rankS l).1=(eS (l.map short):Int) + 1 - vS (l.map short):=by
  unfold rankS
  rw [if_neg (fun h=>h c1)]
 omega
theorem neu {l m:List (List Int)} {A B:Nat→Int→Option Nat} {lA lB lst:List Nat} {q:List (Nat × Nat)} {f:Wy} (c1:(ckL l).1=0) (c2:(ckL m).1=0) (iA:IsC (l.map short) A lA) (iB:IsC (m.map short) B lB) (g:PG A B q) (gt:GT (stQ A B q) lst f) :
  (basS (stQ A B q) lst f)=[]∨((basS (stQ A B q) lst f).length:Int) - 1≤((rankS l).1 - 1) * ((rankS m).1 - 1):=by
 cases hb:basS (stQ A B q) lst f with
 | nil=>exact .inl rfl
 | cons w bs =>
  right
  have hw:w∈basS (stQ A B q) lst f:=by rw [hb]; simp
  obtain ⟨e,he,_,hne⟩:=basS_mem.1 hw
  have hr:Rdy 0 w:=rdy_iff.2 ⟨(gt.bas_ok hw).nz,GT.bas_red hw⟩
  obtain ⟨a,b,h1,h2,h3⟩:=hn_main iA.cg iB.cg g hr hne (gt.bas_run hw)
  have hlen:=basS_len gt
  have hltA:∀ p∈q,∀ x v,A p.1 x=some v→x ≠ 0∧-26≤x∧x≤26:=fun p hp x v h=>iA.cg.lt p.1 (g.sub iA.cg iB.cg hp).1 x v h
  obtain ⟨d1,d2⟩:=cg_lang gt.cg (g.cg iA.cg.inv iB.cg.inv hltA) fun w=>Iff.rfl
  rw [List.length_range] at d1
  rw [← hb]
  obtain ⟨n1,n2⟩:=iA.cnt
  obtain ⟨n3,n4⟩:=iB.cnt
  rw [(rank_le20 c1).1,(rank_le20 c2).1]
  obtain ⟨a',ha'⟩:∃ a',eS (l.map short)=vS (l.map short) + a':=⟨eS (l.map short) - vS (l.map short),by omega⟩
  obtain ⟨b',hb'⟩:∃ b',eS (m.map short)=vS (m.map short) + b':=⟨eS (m.map short) - vS (m.map short),by omega⟩
  have hm:a * b≤a' * b':=Nat.mul_le_mul (by omega) (by omega)
  have e1:((eS (l.map short):Nat):Int) + 1 - (vS (l.map short):Nat) - 1=(a' : Int):=by omega
  have e2:((eS (m.map short):Nat):Int) + 1 - (vS (m.map short):Nat) - 1=(b' : Int):=by omega
  rw [e1,e2]
  have:((a' * b' : Nat):Int)=(a' : Int) * (b' : Int):=by push_cast; rfl
  rw [← this]
  omega
theorem mul_bd {x y:Int} {B:Nat} (h1 : -(B:Int)≤x) (h2:x≤B) (h3 : -(B:Int)≤y) (h4:y≤B) : -((B * B:Nat):Int)≤x * y∧x * y≤((B * B:Nat):Int):=by
 have h:(x * y).natAbs≤B * B:=by
  rw [Int.natAbs_mul]
  exact Nat.mul_le_mul (by omega) (by omega)
 omega
theorem MeetO.sumN {l m:List (List Int)} {r:AV} (h:MeetO l m r):∃ (bv:PV) (c:Int × Int),r = .p (.tup [bv,fl c]) ∧
  ((c.1 ≠ 0∧bv = .nil)∨(c=(0,0)∧(ckL l).1=0∧(ckL m).1=0∧∃ b:List (List Int),bv = .list (ll b)∧b.length≤20∧((b.length:Int)=0∨(b.length:Int) - 1≤((rankS l).1 - 1) * ((rankS m).1 - 1)))):=by
 rcases h with ⟨h1,rfl⟩ | ⟨h1,h2,rfl⟩ | ⟨h1,h2,A,lA,B,lB,q,lst,f,iA,iB,g,gt,⟨hn,rfl⟩ | ⟨hn,rfl⟩⟩
 ·exact ⟨_,_,rfl,.inl ⟨h1,rfl⟩⟩
 ·exact ⟨_,_,rfl,.inl ⟨h2,rfl⟩⟩
 ·exact ⟨_,_,rfl,.inl ⟨by simp,rfl⟩⟩
 ·refine ⟨_,_,rfl,.inr ⟨rfl,h1,h2,_,rfl,by omega,?_⟩⟩
  rcases neu h1 h2 iA iB g gt with h | h
  ·rw [h]; exact .inl rfl
  ·exact .inr h
set_option maxHeartbeats 8000000 in
set_option maxRecDepth 20000 in
theorem foldNeumann_c (l m : List (List Int)) (hl : l.length ≤ 100000000000000) (hlw : ∀ w ∈ l, w.length ≤ 100000000000000) (hm : m.length ≤ 100000000000000) (hmw : ∀ w ∈ m, w.length ≤ 100000000000000) :
    FnC Try.prog 8 [.list (ll l), .list (ll m)] (.bool true) := by
  refine fnc_of tab_ok Try.func8 rfl (by kernel_rfl) (by rw [Try.ntmps8]; exact Nat.le_add_left 2 _) ?_; rw [Try.ntmps8]
  refine qm ?_
  refine hk_region fun K hK => runs_eval tab_ok ?_
  simp only [ev0, evA, evB, evP, fl, gp, tab, simprocAttr]
  refine fin_run trivial (hK _ ?_) <;> clear hK <;> clear K
  refine qa (qm (qm ?_))
  refine hk_region fun K hK => runs_eval tab_ok ?_
  simp only [ev0, evA, evB, evP, fl, gp, tab, simprocAttr]
  refine fin_stop trivial (runs_call (foldBegun_c) rfl rfl rfl (by simp only [dstOk, Nat.reduceLT]) (by repeat (first | exact trivial | constructor)) (runs_eval tab_ok ?_))
  simp only [ev0, evA, evB, evP, fl, gp, tab, simprocAttr]
  refine fin_run trivial (hK _ ?_) <;> clear hK <;> clear K
  refine qa ?_
  refine hk_cond rfl (fun hC1 => ?_) (fun hC1 => ?_)
  · (try simp only [nhs] at hC1)
    cases hC1
  · (try simp only [nhs] at hC1)
    refine qh (qa (qm (qm ?_)))
    rcases (show lwS l = true ∨ (lwS l = false ∧ lwS m = true) ∨ (lwS l = false ∧ lwS m = false) by cases lwS l <;> cases lwS m <;> simp) with h1 | ⟨h1, h2⟩ | ⟨h1, h2⟩
    · refine hk_region fun K hK => runs_eval tab_ok ?_
      simp only [ev0, evA, evB, evP, fl, gp, tab, simprocAttr]
      refine fin_stop trivial (runs_call ((h1 ▸ longWords_c l hl hlw)) rfl rfl rfl (by simp only [dstOk, Nat.reduceLT]) (by repeat (first | exact trivial | constructor)) (runs_eval tab_ok ?_))
      simp only [ev0, evA, evB, evP, fl, gp, tab, simprocAttr]
      refine fin_run trivial (hK _ ?_) <;> clear hK <;> clear K
      refine qa ?_
      refine hk_cond rfl (fun hC2 => ?_) (fun hC2 => ?_)
      · refine qm ?_
        refine hk_region fun K hK => runs_eval tab_ok ?_
        simp only [ev0, evA, evB, evP, fl, gp, tab, simprocAttr]
        refine fin_run trivial (hK _ ?_) <;> clear hK <;> clear K
        refine qa (qk (qb ?_))
        simp only [Try.results8, enA, ev0, evA, evB, evP, fl, gp, tab, simprocAttr]
        first
        | rfl
        | (refine decide_eq_true ?_; rcases hb with hb | hb; exact absurd hb g10a; exact hb)
        | (show PV.bool _ = PV.bool true; congr 1; refine decide_eq_true ?_; rcases hb with hb | hb; exact absurd hb g10a; exact hb)
        | trace_state
      · cases hC2
    · refine hk_region fun K hK => runs_eval tab_ok ?_
      simp only [ev0, evA, evB, evP, fl, gp, tab, simprocAttr]
      refine fin_stop trivial (runs_call ((h1 ▸ longWords_c l hl hlw)) rfl rfl rfl (by simp only [dstOk, Nat.reduceLT]) (by repeat (first | exact trivial | constructor)) (runs_eval tab_ok ?_))
      simp only [ev0, evA, evB, evP, fl, gp, tab, simprocAttr]
      refine fin_stop trivial (runs_call ((h2 ▸ longWords_c m hm hmw)) rfl rfl rfl (by simp only [dstOk, Nat.reduceLT]) (by repeat (first | exact trivial | constructor)) (runs_eval tab_ok ?_))
      simp only [ev0, evA, evB, evP, fl, gp, tab, simprocAttr]
      refine fin_run trivial (hK _ ?_) <;> clear hK <;> clear K
      refine qa ?_
      refine hk_cond rfl (fun hC2 => ?_) (fun hC2 => ?_)
      · (try simp only [nhs] at hC2)
        refine qm ?_
        refine hk_region fun K hK => runs_eval tab_ok ?_
        simp only [ev0, evA, evB, evP, fl, gp, tab, simprocAttr]
        refine fin_run trivial (hK _ ?_) <;> clear hK <;> clear K
        refine qa (qk (qb ?_))
        simp only [Try.results8, enA, ev0, evA, evB, evP, fl, gp, tab, simprocAttr]
        first
        | rfl
        | (refine decide_eq_true ?_; rcases hb with hb | hb; exact absurd hb g10a; exact hb)
        | (show PV.bool _ = PV.bool true; congr 1; refine decide_eq_true ?_; rcases hb with hb | hb; exact absurd hb g10a; exact hb)
        | trace_state
      · (try simp only [nhs] at hC2)
        cases hC2
    · refine hk_region fun K hK => runs_eval tab_ok ?_
      simp only [ev0, evA, evB, evP, fl, gp, tab, simprocAttr]
      refine fin_stop trivial (runs_call ((h1 ▸ longWords_c l hl hlw)) rfl rfl rfl (by simp only [dstOk, Nat.reduceLT]) (by repeat (first | exact trivial | constructor)) (runs_eval tab_ok ?_))
      simp only [ev0, evA, evB, evP, fl, gp, tab, simprocAttr]
      refine fin_stop trivial (runs_call ((h2 ▸ longWords_c m hm hmw)) rfl rfl rfl (by simp only [dstOk, Nat.reduceLT]) (by repeat (first | exact trivial | constructor)) (runs_eval tab_ok ?_))
      simp only [ev0, evA, evB, evP, fl, gp, tab, simprocAttr]
      refine fin_run trivial (hK _ ?_) <;> clear hK <;> clear K
      refine qa ?_
      refine hk_cond rfl (fun hC2 => ?_) (fun hC2 => ?_)
      · (try simp only [nhs] at hC2)
        cases hC2
      · (try simp only [nhs] at hC2)
        obtain ⟨l1, l2⟩ := lw_len h1
        obtain ⟨m1, m2⟩ := lw_len h2
        have gl := fun h => ckL_good (L := l) h
        have gm := fun h => ckL_good (L := m) h
        have hvv := meet_hv h1 h2
        have hrl := rank_c l l1 l2 gl
        rw [rankS_2] at hrl
        have hrm := rank_c m m1 m2 gm
        rw [rankS_2] at hrm
        refine qh (qa (qm ?_))
        refine hk_regE 2 (runs_cut fun K hK => ?_)
        simp only [List.take_succ_cons, List.take_zero]
        refine runs_eval tab_ok ?_
        simp only [ev0, evA, evB, evP, fl, gp, tab, simprocAttr]
        refine fin_run trivial (hK _ ?_) <;> clear hK <;> clear K
        refine ⟨_, _, rfl, rfl, by simp only [dstOk, Nat.reduceLT], Meet_E rfl rfl l m l1 l2 m1 m2 gl gm hvv rfl, fun av H' hO => ?_⟩
        obtain ⟨hO, rfl⟩ := hO
        obtain ⟨bv, c, rfl, hcase⟩ := hO.sumN
        refine runs_cut fun K hK => ?_
        simp only [List.drop_succ_cons, List.drop_zero]
        refine runs_eval tab_ok ?_
        simp only [ev0, evA, evB, evP, fl, gp, tab, simprocAttr]
        refine fin_run trivial (hK _ ?_) <;> clear hK <;> clear K
        refine qa (qm ?_)
        refine hk_region fun K hK => runs_eval tab_ok ?_
        simp only [ev0, evA, evB, evP, fl, gp, tab, simprocAttr]
        refine fin_stop trivial (runs_call (hrl) rfl rfl rfl (by simp only [dstOk, Nat.reduceLT]) (by repeat (first | exact trivial | constructor)) (runs_eval tab_ok ?_))
        simp only [ev0, evA, evB, evP, fl, gp, tab, simprocAttr]
        refine fin_run ?_ (hK _ ?_) <;> clear hK <;> clear K
        · (first | exact trivial | omega | (simp only [In64] at *; omega) | (simp [In64] at *; omega) | (simp_all; done) | skip)
        refine qa (qm ?_)
        refine hk_region fun K hK => runs_eval tab_ok ?_
        simp only [ev0, evA, evB, evP, fl, gp, tab, simprocAttr]
        refine fin_stop trivial (runs_call (hrm) rfl rfl rfl (by simp only [dstOk, Nat.reduceLT]) (by repeat (first | exact trivial | constructor)) (runs_eval tab_ok ?_))
        simp only [ev0, evA, evB, evP, fl, gp, tab, simprocAttr]
        refine fin_run ?_ (hK _ ?_) <;> clear hK <;> clear K
        · (first | exact trivial | omega | (simp only [In64] at *; omega) | (simp [In64] at *; omega) | (simp_all; done) | skip)
        refine qa (qm (qm ?_))
        rcases hcase with ⟨hc, rfl⟩ | ⟨rfl, k1, k2, b, rfl, hbl, hb⟩
        · refine hk_region fun K hK => runs_eval tab_ok ?_
          simp only [ev0, evA, evB, evP, fl, gp, tab, simprocAttr, hc]
          refine fin_run ?_ (hK _ ?_) <;> clear hK <;> clear K
          · (first | exact trivial | omega | (simp only [In64] at *; omega) | (simp [In64] at *; omega) | (simp_all; done) | skip)
          refine qa ?_
          refine hk_cond rfl (fun hC3 => ?_) (fun hC3 => ?_)
          · have : True := trivial
            refine qm ?_
            refine hk_region fun K hK => runs_eval tab_ok ?_
            simp only [ev0, evA, evB, evP, fl, gp, tab, simprocAttr]
            refine fin_run trivial (hK _ ?_) <;> clear hK <;> clear K
            refine qa (qk (qb ?_))
            simp only [Try.results8, enA, ev0, evA, evB, evP, fl, gp, tab, simprocAttr]
            first
            | rfl
            | (refine decide_eq_true ?_; rcases hb with hb | hb; exact absurd hb g10a; exact hb)
            | (show PV.bool _ = PV.bool true; congr 1; refine decide_eq_true ?_; rcases hb with hb | hb; exact absurd hb g10a; exact hb)
            | trace_state
          · cases hC3
        · refine hk_region fun K hK => runs_eval tab_ok ?_
          simp only [ev0, evA, evB, evP, fl, gp, tab, simprocAttr, k1, k2, bne_self_eq_false]
          refine fin_run ?_ (hK _ ?_) <;> clear hK <;> clear K
          · (first | exact trivial | omega | (simp only [In64] at *; omega) | (simp [In64] at *; omega) | (simp_all; done) | skip)
          refine qa ?_
          refine hk_cond rfl (fun hC3 => ?_) (fun hC3 => ?_)
          · (try simp only [nhs] at hC3)
            refine qm ?_
            refine hk_region fun K hK => runs_eval tab_ok ?_
            simp only [ev0, evA, evB, evP, fl, gp, tab, simprocAttr]
            refine fin_run trivial (hK _ ?_) <;> clear hK <;> clear K
            refine qa (qk (qb ?_))
            simp only [Try.results8, enA, ev0, evA, evB, evP, fl, gp, tab, simprocAttr]
            first
            | rfl
            | (refine decide_eq_true ?_; rcases hb with hb | hb; exact absurd hb g10a; exact hb)
            | (show PV.bool _ = PV.bool true; congr 1; refine decide_eq_true ?_; rcases hb with hb | hb; exact absurd hb g10a; exact hb)
            | trace_state
          · (try simp only [nhs] at hC3)
            refine qh (qa (qm ?_))
            by_cases g10a : (b.length : Int) = 0
            · refine hk_region fun K hK => runs_eval tab_ok ?_
              simp only [ev0, evA, evB, evP, fl, gp, tab, simprocAttr, ll_length, decide_eq_true g10a]
              refine fin_run ?_ (hK _ ?_) <;> clear hK <;> clear K
              · first
                | trivial
                | (have hx := rank_le20 k1
                   have hy := rank_le20 k2
                   have hp := mul_bd (x := (rankS l).1 - 1) (y := (rankS m).1 - 1) (B := 1000001) (by omega) (by omega) (by omega) (by omega)
                   simp only [In64]
                   refine ⟨⟨⟨?_, ?_⟩, ?_⟩, ?_⟩ <;> omega)
              refine qa (qk ?_)
              simp only [Try.results8, enA, ev0, evA, evB, evP, fl, gp, tab, simprocAttr]
              first
              | rfl
              | (refine decide_eq_true ?_; rcases hb with hb | hb; exact absurd hb g10a; exact hb)
              | (show PV.bool _ = PV.bool true; congr 1; refine decide_eq_true ?_; rcases hb with hb | hb; exact absurd hb g10a; exact hb)
              | trace_state
            · refine hk_region fun K hK => runs_eval tab_ok ?_
              simp only [ev0, evA, evB, evP, fl, gp, tab, simprocAttr, ll_length, decide_eq_false g10a]
              refine fin_run ?_ (hK _ ?_) <;> clear hK <;> clear K
              · first
                | trivial
                | (have hx := rank_le20 k1
                   have hy := rank_le20 k2
                   have hp := mul_bd (x := (rankS l).1 - 1) (y := (rankS m).1 - 1) (B := 1000001) (by omega) (by omega) (by omega) (by omega)
                   simp only [In64]
                   refine ⟨⟨⟨?_, ?_⟩, ?_⟩, ?_⟩ <;> omega)
              refine qa (qk ?_)
              simp only [Try.results8, enA, ev0, evA, evB, evP, fl, gp, tab, simprocAttr]
              first
              | rfl
              | (refine decide_eq_true ?_; rcases hb with hb | hb; exact absurd hb g10a; exact hb)
              | (show PV.bool _ = PV.bool true; congr 1; refine decide_eq_true ?_; rcases hb with hb | hb; exact absurd hb g10a; exact hb)
              | trace_state
end Go.Proofs.Ytneglephfhiamaa
