/-
  Texts of this proof, one behind the other: what each says stands at its head. Conditions: none.
-/
import Derived.Test.YtneglephfhiamaaB3
import Derived.Shelf.SlSortCmp.Whole1
import Derived.Shelf.Sort.Plain
import Derived.Shelf.Slices.In.SortNone
import Derived.ChangeKeysEq

set_option linter.all false
namespace Go.Pv
open Go.RowKit
section
variable {P:Program} {T:TypeId→Option TI} {s:St}
theorem build1a_does (hT:∀ t ti,T t=some ti→tiOf P t=some ti) {o:Oper} {t:TypeId} {x:Operand} (ho:o.op = .buildSlice t 1 #[(0,x)]) {ti te:TI} (ht:T t=some ti) {e:TypeId} (hk:ti.kind = .slice e) (hte:T e=some te) (hsz:te.size=1)
  {av:AV} (hx:s.ev x=av) (hc1:av.cells=[av]) (hok:cellOk av=true):DoesW P o s (.sl s.H.length 0 1) (s.H++[.own [av]]):=by
 intro C m a w K Q R hK
 have hu:=ti_slice (hT _ _ ht) hk
 obtain ⟨i,d,z,h1,h2,h3,h4,h5,h6,h7,h8⟩:=tiOf_parts (hT _ _ hte)
 have hss:=ti_size (hT _ _ hte) w
 rw [hsz] at hss
 obtain ⟨cs',k2,k3,k5⟩:=fillA_run R (fun i=>some (i * 1,1)) [(0,x)] (c:=[.dead]) (c':=[av]) (cs:=(Array.range (1 * 1)).map (z.cells[· % z.cells.size]!)) (p:=(([av].length=1∧0 * 1 + 1≤[AV.dead].length∧[av].all cellOk=true)∧True)) (by simp) (fun j hj=>by
   simp only [List.length_cons,List.length_nil] at hj
   obtain rfl:j=0:=by omega
   exact .dead _) (by
  simp only [List.map_cons,List.map_nil,fillA,hx,hc1,setC]
  rfl) ⟨⟨rfl,Nat.le_refl _,by simp [hok]⟩,trivial⟩
 have hrun:(execOp a.eval o).run P w = .ok (.value (.slice (some ⟨w.heap.size,0,none⟩) 1 1)) (w.alloc (.cells cs' e)):=by
  have hpt:(#[(0,x)].map fun q:Nat × Operand=>(q.1,a.eval q.2)).toList=[(0,x)].map fun q=>(q.1,a.eval q.2):=by simp
  have hne:¬ (1 * 1 > 2 ^ 24):=by decide
  simp only [execOp,ho,Instr.buildSlice,Sem.run_bind,run_underlying hu,Result.andThen_ok,hss,Sem.run_ite,hne,if_false,show ¬ (1 * 1=0) by decide,zeroValue,typeInfo,run_program,h1,h3,Sem.run_pure,newRow] at k2 ⊢
  simp only [hpt,k2,Sem.run_bind,run_newObj,Result.andThen_ok,Sem.run_pure]
  rfl
 have hrel:=R.newBlk (below_alloc _) (cur:=cs') (e:=e) (heap_alloc_new w _) (le_mxl (by rw [k3]; simp [maxLen])) (c:=[av]) (by rw [k3]; exact Nat.le_refl _) k5
 refine opR_of_wp (by first|rfl|(rw [ho]; rfl)) ?_
 unfold Oper.wp
 rw [hrun]
 exact hK _ _ _ hrel (.sl _ _ _ _ (by simp) <| .inr ⟨⟨w.heap.size,0,cs'.size⟩,1,by simp [mput],by simp,Nat.le_refl _,by simp only; rw [k3]; exact Nat.le_refl _⟩)
end
end Go.Pv
namespace Go.Proofs.Ytneglephfhiamaa
open Go.Pv
theorem leH_at {π:List Nat} {H:Heap} : ∀ {ks:List Nat} {H1:Heap},ks.length=H1.length→(∀ i,i < H1.length→LeB π H (ks.getD i 0) (hget H1 i))→LeH π H ks H1
 | [],[],_,_=>trivial
 | [],_ :: _,h,_=>by simp at h
 | _ :: _,[],h,_=>by simp at h
 | k :: ks,b :: r,h,hb=>⟨by simpa [hget] using hb 0 (by simp),leH_at (by simpa using h) fun i hi=>by simpa [hget] using hb (i + 1) (by simpa using hi)⟩
theorem leH_app {π:List Nat} {H:Heap} : ∀ {k1 k2:List Nat} {H1 H2:Heap},LeH π H k1 H1→LeH π H k2 H2→LeH π H (k1++k2) (H1++H2)
 | [],_,[],_,_,h=>h
 | [],_,_ :: _,_,h,_=>h.elim
 | _ :: _,_,[],_,h,_=>h.elim
 | _ :: _,_,_ :: _,_,h,h2=>⟨h.1,leH_app h.2 h2⟩
theorem leH_seg {π:List Nat} {H B:Heap} {a:Nat} (h:∀ i,i < B.length→hget H (a + i)=hget B i) (hr:∀ b∈B,LeB π [b] 0 b):LeH π H (List.range' a B.length) B:=by
 refine leH_at (by simp) fun i hi=>?_
 have e:(List.range' a B.length).getD i 0=a + i:=by simp [List.getD,List.getElem?_range' hi]
 have hm:=hr (hget B i) (by rw [hget_eq,List.getD_eq_getElem?_getD,List.getElem?_eq_getElem hi]; exact List.getElem_mem hi)
 rw [e]
 have h2:hget H (a + i)=hget [hget B i] 0:=h i hi
 revert hm
 generalize hget B i=b at h2 ⊢
 intro hm
 cases b<;>simp only [LeB,h2] at hm ⊢<;>exact hm
theorem leB_mp {π:List Nat} (f:Mp):LeB π [mpB f] 0 (mpB f):=rfl
theorem leB_ol {π:List Nat} {H:Heap} {k:Nat} {l:List Int} (h:hget H k = .own (ol l)):LeB π H k (.own (ol l)):=by
 simp only [LeB,h]
 exact ⟨by rw [List.take_of_length_le (Nat.le_refl _)]; simp [ol,Go.Pv.ren,Go.Pv.ren1],ol_sc _ _⟩
section
variable {G:List Mp} {U:List Int}
def PB (G:List Mp) (U:List Int):Heap:=.own [.sl (G.length + 4) 0 (G.length + 1),.sl (G.length + 5) 0 (U.length + 1)] :: .dead :: .dead :: (G.map mpB++[mpB fun _=>none,.own (mps G.length++[.mptr (G.length + 3)]),.own (ol (U++[(U.length:Int)]))])
set_option maxHeartbeats 4000000 in
set_option maxRecDepth 20000 in
theorem place_c (hl:U.length=G.length) (hk:G.length≤100000000):FnM Try.prog 57 [.ptr 0 0] (GB G U) (.p (.int .i64 (U.length:Nat))) (PB G U):=by
 unfold GB
 refine fnm_of tab_ok Try.func57 rfl (by kernel_rfl) (by rw [Try.ntmps57]; exact Nat.le_add_left 1 _) ?_; rw [Try.ntmps57]; simp only [ancs,entA,List.length_cons,List.length_nil,List.cons_append,List.nil_append,Nat.reduceAdd,Nat.zero_add]
 have hAl:(G.map mpB++.anc 0 0 :: .anc 1 1 :: .anc 2 2 :: ancs 3 (G.map mpB).length:Heap).length=G.length + G.length + 3:=by simp [ancs_length]; omega
 obtain ⟨A,hA⟩:∃ A,(G.map mpB++.anc 0 0 :: .anc 1 1 :: .anc 2 2 :: ancs 3 (G.map mpB).length:Heap)=A:=⟨_,rfl⟩
 rw [hA] at hAl
 rw [hA]
 obtain ⟨N,hN⟩:∃ N,G.length + G.length + 3=N:=⟨_,rfl⟩
 rw [hN] at hAl
 have g1:∀ x y:Blk,hget (A++[x]++[y]) (N + 1)=y:=fun x y=>by
  have:=hget_snoc (A++[x]) y
  rwa [List.length_append,hAl] at this
 have g2:∀ x y z:Blk,hget (A++[x]++[y]++[z]) (N + 2)=z:=fun x y z=>by
  have:=hget_snoc (A++[x]++[y]) z
  rwa [List.length_append,List.length_append,hAl] at this
 have g3:∀ x y z t:Blk,hget (A++[x]++[y]++[z]++[t]) (N + 3)=t:=fun x y z t=>by
  have:=hget_snoc (A++[x]++[y]++[z]) t
  rwa [List.length_append,List.length_append,List.length_append,hAl] at this
 have g4:(mps G.length).take G.length=mps G.length:=List.take_of_length_le (by rw [mps_len]; exact Nat.le_refl _)
 refine qm ?_
 refine hk_region fun K hK=>runs_eval tab_ok ?_
 simp only [evz,fl,gp,tab,simprocAttr]
 refine fin_run trivial (hK _ ?_)<;>clear hK K
 refine qa (qm ?_)
 refine hk_region fun K hK=>runs_eval tab_ok ?_
 simp only [evz,fl,gp,tab,simprocAttr,g1,g4,hAl,List.length_append]
 refine fin_stop ?_ (runs_op (build1a_does tab_ok rfl rfl rfl rfl rfl rfl rfl rfl) rfl (by simp only [dstOk,Nat.reduceLT]) (runs_eval tab_ok ?_))
 ·(first|exact trivial|omega|(simp only [In64] at *; omega)|(simp [In64] at *; omega)|(simp_all; done)|skip)
 simp only [evz,fl,gp,tab,simprocAttr,g1,g4,hAl,List.length_append]
 refine fin_run ?_ (hK _ ?_)<;>clear hK K
 ·exact ⟨mps_ok _,by rw [mps_len]; exact Nat.le_refl _,by omega,by omega⟩
 refine qa (qm ?_)
 refine hk_draw mixed (by kernel_rfl) fun K hK=>runs_eval tab_ok ?_
 simp only [evz,fl,gp,tab,simprocAttr,g1,g2,g3,hAl,List.length_append]
 refine fin_run ?_ (hK _ ?_)<;>clear hK K
 ·exact ⟨Nat.le_refl _,by omega,by omega⟩
 refine qa (qm ?_)
 refine hk_region fun K hK=>runs_eval tab_ok ?_
 simp only [evz,fl,gp,tab,simprocAttr]
 refine fin_run ?_ (hK _ ?_)<;>clear hK K
 ·(first|exact trivial|omega|(simp only [In64] at *; omega)|(simp [In64] at *; omega)|(simp_all; done)|skip)
 refine qa (qk ?_)
 simp only [Try.results57,PostG,endG,rvsA,rvA,mkTup,evz,fl,gp,tab,simprocAttr]
 subst hA
 obtain ⟨π,hπ⟩:∃ π,π=0 :: 1 :: 2 :: (List.range' 3 G.length++([N + 3,N + 5,N + 6]++List.range' (G.length + 3) (G.length + 3))):=⟨_,rfl⟩
 have hπ2:π=List.range' 0 (G.length + 3)++([N + 3,N + 5,N + 6]++List.range' (G.length + 3) (G.length + 3)):=by
  rw [hπ]; simp [List.range'_succ]
 have hpl:π.length=G.length + 3 + (3 + (G.length + 3)):=by rw [hπ2]; simp; omega
 have hp0:∀ i,i < G.length + 3→π.getD i 0=i:=fun i hi=>by
  rw [hπ2,List.getD_eq_getElem?_getD,List.getElem?_append_left (by simpa using hi)]
  simp [List.getElem?_range' hi]
 have hp3:∀ i,i < 3→π.getD (G.length + 3 + i) 0=[N + 3,N + 5,N + 6].getD i 0:=fun i hi=>by
  rw [hπ2,List.getD_eq_getElem?_getD,List.getElem?_append_right (by simp),List.length_range',Nat.add_sub_cancel_left,List.getElem?_append_left (by simpa using hi),List.getD_eq_getElem?_getD]
 refine ⟨π,?_,rfl,rfl,?_,?_,trivial⟩
 ·simp [Go.Pv.ren,Go.Pv.ren1]
 ·rw [hπ2,List.nodup_append]
  refine ⟨List.nodup_range' ..,?_,?_⟩
  ·rw [List.nodup_append]
   refine ⟨by simp,List.nodup_range' ..,fun x hx y hy=>?_⟩
   simp only [List.mem_cons,List.not_mem_nil,or_false] at hx
   rw [List.mem_range'_1] at hy
   omega
  intro x hx y hy
  rw [List.mem_range'_1] at hx
  simp only [List.mem_append,List.mem_cons,List.not_mem_nil,or_false,List.mem_range'_1] at hy
  omega
 have hq1:Go.Pv.ren π (.sl (G.length + 4) 0 (G.length + 1)) = .sl (N + 5) 0 (G.length + 1):=by
  have:=hp3 1 (by omega)
  simp only [Go.Pv.ren,Go.Pv.ren1]
  rw [show G.length + 4=G.length + 3 + 1 by omega,this]; rfl
 have hq2:Go.Pv.ren π (.sl (G.length + 5) 0 (U.length + 1)) = .sl (N + 6) 0 (U.length + 1):=by
  have:=hp3 2 (by omega)
  simp only [Go.Pv.ren,Go.Pv.ren1]
  rw [show G.length + 5=G.length + 3 + 2 by omega,this]; rfl
 have hq3:Go.Pv.ren π (.mptr (G.length + 3)) = .mptr (N + 3):=by
  have:=hp3 0 (by omega)
  simp only [Go.Pv.ren,Go.Pv.ren1]
  rw [show G.length + 3=G.length + 3 + 0 by omega,this]; rfl
 have hq4:(mps G.length).map (Go.Pv.ren π)=mps G.length:=by
  refine List.ext_getElem (by simp) fun i h1 h2=>?_
  have hi:i < G.length:=by simpa [mps_len] using h2
  have:=hp0 (i + 3) (by omega)
  simp only [mps,List.getElem_map,List.getElem_range,Go.Pv.ren,Go.Pv.ren1,this]
 have hx:(.anc 0 0 :: .anc 1 1 :: .anc 2 2 :: ancs 3 (G.map mpB).length:Heap)=ancs 0 (G.length + 3):=by rw [G_len]; rfl
 rw [hx] at hAl g1 g2 g3 ⊢
 simp only
 obtain ⟨H,hH⟩:∃ H:Heap,H=Blk.own [AV.sl (N + 1 + 1 + 1 + 1 + 1) 0 (G.length + 1),AV.sl (N + 1 + 1 + 1 + 1 + 1 + 1) 0 (U.length + 1)] :: Blk.dead :: Blk.dead ::
  (G.map mpB++ancs 0 (G.length + 3)++[Blk.mp IntKind.i64 (fun x=>false) fun x=>default]++[Blk.own [AV.mptr (N + 1 + 1 + 1)]]++[Blk.own (mps G.length++[AV.mptr (N + 1 + 1 + 1)])]++[Blk.own (ol (U++[(U.length:Int)]))]):=⟨_,rfl⟩
 rw [← hH]
 have e0:∀ (a b c:Blk) (T:Heap) (i:Nat),hget (a :: b :: c :: T) (i + 3)=hget T i:=fun _ _ _ _ _=>rfl
 have f0:hget H 0 = .own [.sl (N + 5) 0 (G.length + 1),.sl (N + 6) 0 (U.length + 1)]:=by rw [hH]; rfl
 have f1:∀ i,i < G.length→hget H (3 + i)=mpB (G.getD i fun _=>none):=fun i hi=>by
  rw [hH,Nat.add_comm 3 i,e0]
  simp only [List.append_assoc]
  exact hget_G hi
 have f2:∀ i,i < G.length + 3→hget H (G.length + 3 + i) = .anc i i:=fun i hi=>by
  rw [hH,show G.length + 3 + i=G.length + i + 3 by omega,e0]
  simp only [List.append_assoc]
  rw [hget_app2 (by simp),G_len,Nat.add_sub_cancel_left,hget_app1 (by rw [ancs_length]; exact hi),hget_eq,List.getD_eq_getElem?_getD,ancs_at _ _ _ hi]
  simp
 have f3:hget H (N + 3)=mpB fun _=>none:=by
  rw [hH,e0]
  simp only [List.append_assoc]
  rw [← List.append_assoc,hget_app2 (by rw [hAl]; exact Nat.le_refl _),hAl,Nat.sub_self]; rfl
 have f4:hget H (N + 5) = .own (mps G.length++[.mptr (N + 3)]):=by
  rw [hH,show N + 5=N + 2 + 3 by omega,e0]
  simp only [List.append_assoc]
  rw [← List.append_assoc,hget_app2 (by rw [hAl]; omega),hAl,Nat.add_sub_cancel_left]; rfl
 have f5:hget H (N + 6) = .own (ol (U++[(U.length:Int)])):=by
  rw [hH,show N + 6=N + 3 + 3 by omega,e0]
  simp only [List.append_assoc]
  rw [← List.append_assoc,hget_app2 (by rw [hAl]; omega),hAl,Nat.add_sub_cancel_left]; rfl
 rw [show PB G U++ancs 0 (G.length + 3) = .own [.sl (G.length + 4) 0 (G.length + 1),.sl (G.length + 5) 0 (U.length + 1)] :: .dead :: .dead :: (G.map mpB++([mpB fun _=>none,.own (mps G.length++[.mptr (G.length + 3)]),.own (ol (U++[(U.length:Int)]))]++ancs 0 (G.length + 3))) by unfold PB; simp]
 conv=>arg 3; rw [hπ]
 refine ⟨?_,trivial,trivial,leH_app ?_ (leH_app ⟨f3,?_,leB_ol f5,trivial⟩ ?_)⟩
 ·simp only [LeB,f0,List.map_cons,List.map_nil,hq1,hq2]
  refine ⟨rfl,?_⟩
  simp [scA,sc1,hpl]; omega
 ·have:=leH_seg (π:=π) (H:=H) (B:=G.map mpB) (a:=3) (fun i hi=>by
   rw [G_len] at hi
   rw [f1 i hi]
   have:=hget_G (X:=[]) hi
   rw [List.append_nil] at this
   rw [this]) fun b hb=>by
   obtain ⟨f,_,rfl⟩:=List.mem_map.1 hb
   exact leB_mp f
  rwa [G_len] at this
 ·simp only [LeB,f4,List.map_append,List.map_cons,List.map_nil,hq4,hq3]
  refine ⟨by rw [List.take_of_length_le (by simp [mps_len])],?_⟩
  rw [List.all_append,mps_sc (by omega)]
  simp [scA,sc1,hpl]; omega
 refine leH_at (by simp [ancs_length]) fun i hi=>?_
 rw [ancs_length] at hi
 have e1:(List.range' (G.length + 3) (G.length + 3)).getD i 0=G.length + 3 + i:=by simp [List.getD,List.getElem?_range' hi]
 have e2:hget (ancs 0 (G.length + 3)) i = .anc i i:=by
  rw [hget_eq,List.getD_eq_getElem?_getD,ancs_at _ _ _ hi]; simp
 rw [e1,e2]
 simp only [LeB,f2 i hi,hp0 i hi]
 exact ⟨trivial,by omega⟩
end
end Go.Proofs.Ytneglephfhiamaa

namespace Go.Proofs.Ytneglephfhiamaa
open Go.Pv
def rtN:Nat→List Int→Nat→Nat
 | 0,_,v=>v
 | n + 1,U,v=>if U.getD v 0=(v:Int) then v else rtN n U (U.getD v 0).toNat
def rV (U:List Int) (v:Nat):Nat:=rtN (v + 1) U v
theorem Fo.dn {U:List Int} (h:Fo U) {v:Nat} (hv:v < U.length) (hn:¬ U.getD v 0=(v:Int)):(U.getD v 0).toNat < v:=by
 have:=h v hv
 omega
theorem rtN_fuel:∀ (n m:Nat) (U:List Int) (v:Nat),Fo U→v < U.length→v < n→v < m→rtN n U v=rtN m U v
 | 0,_,_,_,_,_,h,_=>absurd h (Nat.not_lt_zero _)
 | _,0,_,_,_,_,_,h=>absurd h (Nat.not_lt_zero _)
 | n + 1,m + 1,U,v,hU,hv,h1,h2=>by
  rw [rtN,rtN]
  split
  ·rfl
  rename_i hne
  have:=hU.dn hv hne
  exact rtN_fuel n m U _ hU (by omega) (by omega) (by omega)
theorem rV_self {U:List Int} {v:Nat} (h:U.getD v 0=(v:Int)):rV U v=v:=by
 rw [rV,rtN,if_pos h]
theorem rV_up {U:List Int} (hU:Fo U) {v:Nat} (hv:v < U.length):rV U (U.getD v 0).toNat=rV U v:=by
 by_cases h:U.getD v 0=(v:Int)
 ·rw [h]; simp
 have hd:=hU.dn hv h
 conv=>rhs; rw [rV,rtN,if_neg h]
 exact rtN_fuel _ _ _ _ hU (by omega) (by omega) (by omega)
theorem rV_le {U:List Int} (hU:Fo U):∀ (v:Nat),v < U.length→rV U v≤v:=by
 intro v
 induction v using Nat.strongRecOn with
 | ind v ih =>
  intro hv
  by_cases h:U.getD v 0=(v:Int)
  ·rw [rV_self h]; exact Nat.le_refl _
  have hd:=hU.dn hv h
  rw [← rV_up hU hv]
  have:=ih _ hd (by omega)
  omega
theorem rV_root {U:List Int} (hU:Fo U):∀ (v:Nat),v < U.length→U.getD (rV U v) 0=(rV U v:Int):=by
 intro v
 induction v using Nat.strongRecOn with
 | ind v ih =>
  intro hv
  by_cases h:U.getD v 0=(v:Int)
  ·rw [rV_self h]; exact h
  have hd:=hU.dn hv h
  rw [← rV_up hU hv]
  exact ih _ hd (by omega)
theorem rV_idem {U:List Int} (hU:Fo U) {v:Nat} (hv:v < U.length):rV U (rV U v)=rV U v:=rV_self (rV_root hU v hv)
theorem rV_zero {U:List Int} (hU:Fo U) (h:0 < U.length):rV U 0=0:=by
 have:=rV_le hU 0 h
 omega
theorem getD_set {U:List Int} {y i:Nat} {z:Int} (hy:y < U.length):(U.set y z).getD i 0=if i=y then z else U.getD i 0:=by
 rw [List.getD_eq_getElem?_getD,List.getElem?_set]
 by_cases h:y=i
 ·subst h; simp [hy]
 rw [if_neg h,if_neg (fun e=>h e.symm),List.getD_eq_getElem?_getD]
theorem rV_half {U:List Int} (hU:Fo U) {y:Nat} (hy:y < U.length):∀ u,u < U.length→rV (U.set y (U.getD (U.getD y 0).toNat 0)) u=rV U u:=by
 have hF:=(hU.half hy).1
 have hl:(U.set y (U.getD (U.getD y 0).toNat 0)).length=U.length:=List.length_set
 intro u
 induction u using Nat.strongRecOn with
 | ind u ih =>
  intro hu
  by_cases hyu:u=y
  ·subst hyu
   by_cases h:U.getD u 0=(u:Int)
   ·rw [rV_self h]
    refine rV_self ?_
    rw [getD_set hy,if_pos rfl,h]
    simpa using h
   have hd:=hU.dn hy h
   have g1:(U.set u (U.getD (U.getD u 0).toNat 0)).getD u 0=U.getD (U.getD u 0).toNat 0:=by rw [getD_set hy,if_pos rfl]
   have g2:=hU (U.getD u 0).toNat (by omega)
   rw [← rV_up hF (by rw [hl]; exact hy),g1,ih _ (by omega) (by omega),rV_up hU (by omega),rV_up hU hy]
  have g1:(U.set y (U.getD (U.getD y 0).toNat 0)).getD u 0=U.getD u 0:=by rw [getD_set hy,if_neg hyu]
  by_cases h:U.getD u 0=(u:Int)
  ·rw [rV_self h,rV_self (by rw [g1]; exact h)]
  have hd:=hU.dn hu h
  rw [← rV_up hF (by rw [hl]; exact hu),g1,ih _ hd (by omega),rV_up hU hu]
theorem ofS_spec:∀ (n:Nat) (U:List Int) (v:Nat),Fo U→v < U.length→v < n→(ofS n U v).1=rV U v∧Fo (ofS n U v).2∧(ofS n U v).2.length=U.length∧∀ u,u < U.length→rV (ofS n U v).2 u=rV U u
 | 0,_,_,_,_,h=>absurd h (Nat.not_lt_zero _)
 | n + 1,U,v,hU,hv,hn=>by
  rw [ofS]
  split
  ·rename_i h
   exact ⟨(rV_self h).symm,hU,rfl,fun _ _=>rfl⟩
  rename_i h
  have hd:=hU.dn hv h
  obtain ⟨g1,g2,g3,g4⟩:=hU.half hv
  have hl:(U.set v (U.getD (U.getD v 0).toNat 0)).length=U.length:=List.length_set
  obtain ⟨i1,i2,i3,i4⟩:=ofS_spec n (U.set v (U.getD (U.getD v 0).toNat 0)) (U.getD (U.getD v 0).toNat 0).toNat g1 (by omega) (by omega)
  refine ⟨?_,i2,by omega,fun u hu=>?_⟩
  ·rw [i1,rV_half hU hv _ (by omega),rV_up hU (by omega),rV_up hU hv]
  rw [i4 u (by omega),rV_half hU hv u hu]
theorem ofV_eq {U:List Int} (hU:Fo U) {v:Nat} (hv:v < U.length):ofV U v=rV U v:=(ofS_spec _ _ _ hU hv (Nat.lt_succ_self _)).1
theorem ofU_fo {U:List Int} (hU:Fo U) {v:Nat} (hv:v < U.length):Fo (ofU U v):=(ofS_spec _ _ _ hU hv (Nat.lt_succ_self _)).2.1
theorem ofU_rV {U:List Int} (hU:Fo U) {v:Nat} (hv:v < U.length) {u:Nat} (hu:u < U.length):rV (ofU U v) u=rV U u:=(ofS_spec _ _ _ hU hv (Nat.lt_succ_self _)).2.2.2 u hu
theorem Fo.join {U:List Int} (hU:Fo U) {keep gone:Nat} (hg:gone < U.length) (hk:keep < gone):Fo (U.set gone keep):=fun i hi=>by
 rw [List.length_set] at hi
 rw [getD_set hg]
 split
 ·omega
 exact hU i hi
theorem rV_join {U:List Int} (hU:Fo U) {keep gone:Nat} (hg:gone < U.length) (hk:keep < gone) (h1:U.getD keep 0=(keep:Int)) (h2:U.getD gone 0=(gone:Int)):∀ u,u < U.length→rV (U.set gone (keep:Int)) u=if rV U u=gone then keep else rV U u:=by
 have hF:=hU.join hg hk
 have hl:(U.set gone (keep:Int)).length=U.length:=List.length_set
 have hk2:rV (U.set gone (keep:Int)) keep=keep:=rV_self (by rw [getD_set hg,if_neg (by omega)]; exact h1)
 intro u
 induction u using Nat.strongRecOn with
 | ind u ih =>
  intro hu
  by_cases hug:u=gone
  ·subst hug
   rw [rV_self h2,if_pos rfl,← rV_up hF (by omega),getD_set hg,if_pos rfl,Int.toNat_natCast,hk2]
  by_cases h:U.getD u 0=(u:Int)
  ·rw [rV_self h,if_neg hug]
   exact rV_self (by rw [getD_set hg,if_neg hug]; exact h)
  have hd:=hU.dn hu h
  rw [← rV_up hF (by omega),getD_set hg,if_neg hug,ih _ hd (by omega),rV_up hU hu]
theorem Fo.snoc {U:List Int} (hU:Fo U):Fo (U++[(U.length:Int)]):=fun i hi=>by
 rw [List.length_append,List.length_singleton] at hi
 rw [List.getD_eq_getElem?_getD]
 by_cases h:i < U.length
 ·rw [List.getElem?_append_left h,← List.getD_eq_getElem?_getD]; exact hU i h
 have:i=U.length:=by omega
 subst this
 simp
theorem getD_snoc {U:List Int} {z:Int} {i:Nat} (h:i < U.length):(U++[z]).getD i 0=U.getD i 0:=by
 rw [List.getD_eq_getElem?_getD,List.getElem?_append_left h,← List.getD_eq_getElem?_getD]
theorem rV_snoc {U:List Int} (hU:Fo U):∀ u,u < U.length→rV (U++[(U.length:Int)]) u=rV U u:=by
 intro u
 induction u using Nat.strongRecOn with
 | ind u ih =>
  intro hu
  by_cases h:U.getD u 0=(u:Int)
  ·rw [rV_self h,rV_self (by rw [getD_snoc hu]; exact h)]
  have hd:=hU.dn hu h
  rw [← rV_up hU.snoc (by simp; omega),getD_snoc hu,ih _ hd (by omega),rV_up hU hu]
theorem rV_new (U:List Int):rV (U++[(U.length:Int)]) U.length=U.length:=rV_self (by simp)
end Go.Proofs.Ytneglephfhiamaa

namespace Go.Proofs.Ytneglephfhiamaa
open Go.Pv
abbrev E3:=Nat × Int × Nat
def gm (G:List Mp) (i:Nat):Mp:=G.getD i fun _=>none
structure WG (G:List Mp) (U:List Int):Prop where
 len:U.length=G.length
 fo:Fo U
 ent:∀ v x d,v < G.length→gm G v x=some d→0≤d∧d.toNat < G.length∧x ≠ 0∧-26≤x∧x≤26
def Ed (G:List Mp) (U:List Int) (u:Nat) (x:Int) (v:Nat):Prop:=∃ d,gm G (rV U u) x=some d∧rV U d.toNat=rV U v
def OkW (k:Nat) (W:List E3):Prop:=∀ t∈W,t.1 < k∧t.2.2 < k∧t.2.1 ≠ 0∧-26≤t.2.1∧t.2.1≤26
def Pe (G:List Mp) (U:List Int) (W:List E3) (u:Nat) (x:Int) (v:Nat):Prop:=Ed G U u x v∨∃ t∈W,rV U t.1=rV U u∧t.2.1=x∧rV U t.2.2=rV U v
def SymW (G:List Mp) (U:List Int) (W:List E3):Prop:=∀ u x v,u < G.length→v < G.length→Pe G U W u x v→Pe G U W v (-x) u
def Cmp {X:Type} (step:X→Int→Option X) (κ:Nat→X) (G:List Mp) (U:List Int) (W:List E3):Prop:=
 (∀ u,u < G.length→κ (rV U u)=κ u)∧∀ u x v,u < G.length→v < G.length→Pe G U W u x v→step (κ u) x=some (κ v)
structure Nxt (G:List Mp) (U:List Int) (W:List E3) (G' : List Mp) (U' : List Int) (W' : List E3):Prop where
 len:G'.length=G.length
 same:∀ u v,u < G.length→v < G.length→rV U u=rV U v→rV U' u=rV U' v
 keep:∀ u x v,u < G.length→v < G.length→Pe G U W u x v→Pe G' U' W' u x v
 sym:SymW G' U' W'
 cmp:∀ (X:Type) (step:X→Int→Option X) (κ:Nat→X),Cmp step κ G U W→Cmp step κ G' U' W'
theorem Nxt.refl {G:List Mp} {U:List Int} {W:List E3} (h:SymW G U W):Nxt G U W G U W:=⟨rfl,fun _ _ _ _ h=>h,fun _ _ _ _ _ h=>h,h,fun _ _ _ h=>h⟩
theorem Nxt.trans {G G' G2 : List Mp} {U U' U2 : List Int} {W W' W2 : List E3} (h : Nxt G U W G' U' W') (h2 : Nxt G' U' W' G2 U2 W2) : Nxt G U W G2 U2 W2 :=
  ⟨h2.len.trans h.len, fun u v hu hv e => h2.same u v (by rw [h.len]; exact hu) (by rw [h.len]; exact hv) (h.same u v hu hv e),
   fun u x v hu hv e => h2.keep u x v (by rw [h.len]; exact hu) (by rw [h.len]; exact hv) (h.keep u x v hu hv e), h2.sym, fun X s k c => h2.cmp X s k (h.cmp X s k c)⟩
theorem WG.rlt {G:List Mp} {U:List Int} (w:WG G U) {u:Nat} (h:u < G.length):rV U u < G.length:=
 Nat.lt_of_le_of_lt (rV_le w.fo u (by rw [w.len]; exact h)) h
theorem WG.idem {G:List Mp} {U:List Int} (w:WG G U) {u:Nat} (h:u < G.length):rV U (rV U u)=rV U u:=rV_idem w.fo (by rw [w.len]; exact h)
theorem Pe.mv {G:List Mp} {U:List Int} {W:List E3} {u v u2 v2:Nat} {x:Int} (h:Pe G U W u x v) (h1:rV U u=rV U u2) (h2:rV U v=rV U v2):Pe G U W u2 x v2:=by
 rcases h with ⟨d,a,b⟩ | ⟨t,a,b,c,e⟩
 ·exact .inl ⟨d,by rw [← h1]; exact a,b.trans h2⟩
 exact .inr ⟨t,a,b.trans h1,c,e.trans h2⟩
theorem nxt_iff {G G' : List Mp} {U U' : List Int} {W W' : List E3} (hl : G'.length = G.length) (hs : SymW G U W) (hr : ∀ u, u < G.length → rV U' u = rV U u) (h : ∀ u x v, u < G.length → v < G.length → (Pe G' U' W' u x v ↔ Pe G U W u x v)) : Nxt G U W G' U' W' :=
  ⟨hl, fun u v hu hv e => by rw [hr u hu, hr v hv]; exact e, fun u x v hu hv e => (h u x v hu hv).2 e,
   fun u x v hu hv e => by rw [hl] at hu hv; exact (h _ _ _ hv hu).2 (hs u x v hu hv ((h u x v hu hv).1 e)),
   fun X s k c => ⟨fun u hu => by rw [hl] at hu; rw [hr u hu]; exact c.1 u hu, fun u x v hu hv e => by rw [hl] at hu hv; exact c.2 u x v hu hv ((h u x v hu hv).1 e)⟩⟩
theorem Ed.rv {G:List Mp} {U U' : List Int} (w:WG G U) (hr:∀ u,u < G.length→rV U' u=rV U u) {u v:Nat} {x:Int} (hu:u < G.length) (hv:v < G.length):Ed G U' u x v↔Ed G U u x v:=by
 unfold Ed
 rw [hr u hu,hr v hv]
 constructor
 ·rintro ⟨d,a,b⟩
  exact ⟨d,a,by rw [← hr _ (w.ent _ _ _ (w.rlt hu) a).2.1]; exact b⟩
 rintro ⟨d,a,b⟩
 exact ⟨d,a,by rw [hr _ (w.ent _ _ _ (w.rlt hu) a).2.1]; exact b⟩
theorem nxt_up {G:List Mp} {U U' : List Int} {W:List E3} (w:WG G U) (hW:OkW G.length W) (hs:SymW G U W) (hr:∀ u,u < G.length→rV U' u=rV U u):Nxt G U W G U' W:=
 nxt_iff rfl hs hr fun u x v hu hv=>by
  unfold Pe
  rw [Ed.rv w hr hu hv]
  refine or_congr Iff.rfl ⟨?_,?_⟩
  ·rintro ⟨t,a,b,c,d⟩
   exact ⟨t,a,by rw [← hr _ (hW t a).1,← hr u hu]; exact b,c,by rw [← hr _ (hW t a).2.1,← hr v hv]; exact d⟩
  rintro ⟨t,a,b,c,d⟩
  exact ⟨t,a,by rw [hr _ (hW t a).1,hr u hu]; exact b,c,by rw [hr _ (hW t a).2.1,hr v hv]; exact d⟩
theorem WG.up {G:List Mp} {U U' : List Int} (w:WG G U) (hl:U'.length=U.length) (hf:Fo U'):WG G U':=⟨hl.trans w.len,hf,w.ent⟩
theorem gm_set {G:List Mp} {i j:Nat} {f:Mp} (h:i < G.length):gm (G.set i f) j=if j=i then f else gm G j:=by
 unfold gm
 rw [List.getD_eq_getElem?_getD,List.getElem?_set]
 by_cases e:i=j
 ·subst e; simp [h]
 rw [if_neg e,if_neg (fun x=>e x.symm),List.getD_eq_getElem?_getD]
theorem nxt_put {G:List Mp} {U:List Int} {W:List E3} {a b:Nat} {x:Int} (w:WG G U) (hs:SymW G U (W++[(a,x,b)])) (ha:a < G.length) (hb:b < G.length) (hn:gm G (rV U a) x=none) :
  Nxt G U (W++[(a,x,b)]) (G.set (rV U a) (updM (gm G (rV U a)) x (rV U b:Nat))) U W:=
 nxt_iff (by simp) hs (fun _ _=>rfl) fun u y v hu hv=>by
  have hra:=w.rlt ha
  constructor
  ·rintro (⟨d,h1,h2⟩ | ⟨t,h1,h2⟩)
   ·rw [gm_set hra] at h1
    split at h1
    ·rename_i e
     unfold updM at h1
     split at h1
     ·rename_i e2
      subst e2
      obtain rfl:=Option.some.inj h1
      rw [Int.toNat_natCast,w.idem hb] at h2
      exact .inr ⟨(a,y,b),by simp,e.symm,rfl,h2⟩
     exact .inl ⟨d,by rw [e]; exact h1,h2⟩
    exact .inl ⟨d,h1,h2⟩
   exact .inr ⟨t,by simp [h1],h2⟩
  rintro (⟨d,h1,h2⟩ | ⟨t,h1,h2,h3,h4⟩)
  ·refine .inl ⟨d,?_,h2⟩
   rw [gm_set hra]
   split
   ·rename_i e
    unfold updM
    split
    ·rename_i e2
     subst e2
     rw [e,hn] at h1; cases h1
    rw [← e]; exact h1
   exact h1
  rcases List.mem_append.1 h1 with h1 | h1
  ·exact .inr ⟨t,h1,h2,h3,h4⟩
  rw [List.mem_singleton] at h1
  subst h1
  refine .inl ⟨(rV U b:Nat),?_,?_⟩
  ·rw [gm_set hra,if_pos h2.symm]
   unfold updM
   rw [if_pos h3.symm]
  rw [Int.toNat_natCast,w.idem hb]; exact h4
theorem WG.put {G:List Mp} {U:List Int} (w:WG G U) {a b:Nat} {x:Int} (ha:a < G.length) (hb:b < G.length) (hx:x ≠ 0∧-26≤x∧x≤26):WG (G.set (rV U a) (updM (gm G (rV U a)) x (rV U b:Nat))) U:=by
 refine ⟨by rw [List.length_set]; exact w.len,w.fo,fun v y d hv h=>?_⟩
 rw [List.length_set] at hv ⊢
 rw [gm_set (w.rlt ha)] at h
 split at h
 ·rename_i e
  unfold updM at h
  split at h
  ·rename_i e2
   obtain rfl:=Option.some.inj h
   have:=w.rlt hb
   exact ⟨by omega,by omega,by rw [e2]; exact hx⟩
  exact w.ent _ _ _ (w.rlt ha) h
 exact w.ent _ _ _ hv h
theorem nxt_has {G:List Mp} {U:List Int} {W:List E3} {a b:Nat} {x c:Int} (hs:SymW G U (W++[(a,x,b)])) (hc:gm G (rV U a) x=some c) (he:rV U c.toNat=rV U b):Nxt G U (W++[(a,x,b)]) G U W:=
 nxt_iff rfl hs (fun _ _=>rfl) fun u y v hu hv=>by
  constructor
  ·rintro (h | ⟨t,h1,h2⟩)
   ·exact .inl h
   exact .inr ⟨t,by simp [h1],h2⟩
  rintro (h | ⟨t,h1,h2,h3,h4⟩)
  ·exact .inl h
  rcases List.mem_append.1 h1 with h1 | h1
  ·exact .inr ⟨t,h1,h2,h3,h4⟩
  rw [List.mem_singleton] at h1
  subst h1
  refine .inl ⟨c,?_,he.trans h4⟩
  simp only at h2 h3
  rw [← h2,← h3]; exact hc
def goneW (f:Mp) (keep:Nat) (L:List Int):List E3:=L.flatMap fun y=>[(keep,y,((f y).getD 0).toNat),(((f y).getD 0).toNat,-y,keep)]
theorem nxt_join {G:List Mp} {U:List Int} {W:List E3} {a b:Nat} {x c:Int} (w:WG G U) (hW:OkW G.length (W++[(a,x,b)])) (hs:SymW G U (W++[(a,x,b)])) (hc:gm G (rV U a) x=some c) {keep gone:Nat}
  (hk:keep < gone) (hkg:(keep=rV U b∧gone=rV U c.toNat)∨(keep=rV U c.toNat∧gone=rV U b)) {L:List Int} (hL:∀ y,(gm G gone y).isSome=true↔y∈L) :
  Nxt G U (W++[(a,x,b)]) G (U.set gone keep) (W++goneW (gm G gone) keep L):=by
 obtain ⟨ha,hb,hx0⟩:=hW (a,x,b) (by simp)
 simp only at ha hb hx0
 obtain ⟨_,hcl,_⟩:=w.ent _ _ _ (w.rlt ha) hc
 have hkl:keep < G.length:=hkg.elim (fun ⟨h,_⟩=>by rw [h]; exact w.rlt hb) (fun ⟨h,_⟩=>by rw [h]; exact w.rlt hcl)
 have hgl:gone < G.length:=hkg.elim (fun ⟨_,h⟩=>by rw [h]; exact w.rlt hcl) (fun ⟨_,h⟩=>by rw [h]; exact w.rlt hb)
 have hkr:rV U keep=keep:=hkg.elim (fun ⟨h,_⟩=>by rw [h]; exact w.idem hb) (fun ⟨h,_⟩=>by rw [h]; exact w.idem hcl)
 have hgr:rV U gone=gone:=hkg.elim (fun ⟨_,h⟩=>by rw [h]; exact w.idem hcl) (fun ⟨_,h⟩=>by rw [h]; exact w.idem hb)
 have k1:U.getD keep 0=(keep:Int):=by have:=rV_root w.fo keep (by rw [w.len]; exact hkl); rwa [hkr] at this
 have k2:U.getD gone 0=(gone:Int):=by have:=rV_root w.fo gone (by rw [w.len]; exact hgl); rwa [hgr] at this
 have hr:∀ u,u < G.length→rV (U.set gone (keep:Int)) u=if rV U u=gone then keep else rV U u:=fun u hu=>rV_join w.fo (by rw [w.len]; exact hgl) hk k1 k2 u (by rw [w.len]; exact hu)
 have hcb:rV (U.set gone (keep:Int)) c.toNat=rV (U.set gone (keep:Int)) b:=by
  rw [hr _ hcl,hr _ hb]
  rcases hkg with ⟨h1,h2⟩ | ⟨h1,h2⟩
  ·rw [if_pos h2.symm,if_neg (by omega)]; exact h1
  rw [if_pos h2.symm,if_neg (by omega)]; exact h1.symm
 have same:∀ u v,u < G.length→v < G.length→rV U u=rV U v→rV (U.set gone (keep:Int)) u=rV (U.set gone (keep:Int)) v:=fun u v hu hv e=>by rw [hr u hu,hr v hv,e]
 have hkk:rV (U.set gone (keep:Int)) keep=keep:=by rw [hr _ hkl,if_neg (by omega)]; exact hkr
 have hgk:rV (U.set gone (keep:Int)) gone=keep:=by rw [hr _ hgl,if_pos hgr]
 have mg:∀ {y d},gm G gone y=some d→(keep,y,d.toNat)∈goneW (gm G gone) keep L∧(d.toNat,-y,keep)∈goneW (gm G gone) keep L:=fun {y d} h=>by
  unfold goneW
  constructor<;>exact List.mem_flatMap.2 ⟨y,(hL y).1 (by rw [h]; rfl),by simp [h]⟩
 have gmem:∀ t∈goneW (gm G gone) keep L,∃ y d,gm G gone y=some d∧(t=(keep,y,d.toNat)∨t=(d.toNat,-y,keep)):=fun t ht=>by
  obtain ⟨y,hy,h⟩:=List.mem_flatMap.1 ht
  have:=(hL y).2 hy
  obtain ⟨d,hd⟩:=Option.isSome_iff_exists.1 this
  rw [hd] at h
  simp only [Option.getD_some,List.mem_cons,List.not_mem_nil,or_false] at h
  exact ⟨y,d,hd,h⟩
 have ed:∀ u y d v,u < G.length→v < G.length→gm G (rV U u) y=some d→rV (U.set gone (keep:Int)) d.toNat=rV (U.set gone (keep:Int)) v→Pe G (U.set gone (keep:Int)) (W++goneW (gm G gone) keep L) u y v:=fun u y d v hu hv h1 h2=>by
  by_cases e:rV U u=gone
  ·rw [e] at h1
   exact .inr ⟨_,List.mem_append_right _ (mg h1).1,by simp only; rw [hkk,hr u hu,if_pos e],rfl,h2⟩
  exact .inl ⟨d,by rw [hr u hu,if_neg e]; exact h1,h2⟩
 have keepP:∀ u y v,u < G.length→v < G.length→Pe G U (W++[(a,x,b)]) u y v→Pe G (U.set gone (keep:Int)) (W++goneW (gm G gone) keep L) u y v:=by
  intro u y v hu hv h
  rcases h with ⟨d,h1,h2⟩ | ⟨t,h1,h2,h3,h4⟩
  ·exact ed u y d v hu hv h1 (same _ _ (w.ent _ _ _ (w.rlt hu) h1).2.1 hv h2)
  rcases List.mem_append.1 h1 with h1 | h1
  ·obtain ⟨t1,t2,_⟩:=hW t (by simp [h1])
   exact .inr ⟨t,List.mem_append_left _ h1,same _ _ t1 hu h2,h3,same _ _ t2 hv h4⟩
  rw [List.mem_singleton] at h1
  subst h1
  simp only at h2 h3 h4
  subst h3
  exact ed u x c v hu hv (by rw [← h2]; exact hc) (hcb.trans (same _ _ hb hv h4))
 have back:∀ u y v,u < G.length→v < G.length→Pe G (U.set gone (keep:Int)) (W++goneW (gm G gone) keep L) u y v →
   (∃ u0 v0,u0 < G.length∧v0 < G.length∧rV (U.set gone (keep:Int)) u0=rV (U.set gone (keep:Int)) u∧rV (U.set gone (keep:Int)) v0=rV (U.set gone (keep:Int)) v∧Pe G U (W++[(a,x,b)]) u0 y v0):=by
  intro u y v hu hv h
  rcases h with ⟨d,h1,h2⟩ | ⟨t,h1,h2,h3,h4⟩
  ·have hrl:rV (U.set gone (keep:Int)) u < G.length:=by rw [hr u hu]; split<;>first|exact hkl|exact w.rlt hu
   have hrr:rV U (rV (U.set gone (keep:Int)) u)=rV (U.set gone (keep:Int)) u:=by rw [hr u hu]; split<;>first|exact hkr|exact w.idem hu
   have hne:rV (U.set gone (keep:Int)) u ≠ gone:=by rw [hr u hu]; split<;>omega
   have hd:=(w.ent _ _ _ hrl h1).2.1
   exact ⟨rV (U.set gone (keep:Int)) u,d.toNat,hrl,hd,by rw [hr _ hrl,hrr,if_neg hne],h2,.inl ⟨d,by rw [hrr]; exact h1,rfl⟩⟩
  rcases List.mem_append.1 h1 with h1 | h1
  ·obtain ⟨t1,t2,_⟩:=hW t (by simp [h1])
   exact ⟨t.1,t.2.2,t1,t2,h2,h4,.inr ⟨t,by simp [h1],rfl,h3,rfl⟩⟩
  obtain ⟨z,d,hd,rfl | rfl⟩:=gmem t h1
  ·simp only at h2 h3 h4
   subst h3
   have hdl:=(w.ent _ _ _ hgl hd).2.1
   exact ⟨gone,d.toNat,hgl,hdl,by rw [hgk,← h2,hkk],h4,.inl ⟨d,by rw [hgr]; exact hd,rfl⟩⟩
  simp only at h2 h3 h4
  subst h3
  have hdl:=(w.ent _ _ _ hgl hd).2.1
  exact ⟨d.toNat,gone,hdl,hgl,h2,by rw [hgk,← h4,hkk],hs _ _ _ hgl hdl (.inl ⟨d,by rw [hgr]; exact hd,rfl⟩)⟩
 refine ⟨rfl,same,keepP,fun u y v hu hv h=>?_,fun X st κ hC=>?_⟩
 ·obtain ⟨u0,v0,a1,a2,a3,a4,a5⟩:=back u y v hu hv h
  exact (keepP _ _ _ a2 a1 (hs _ _ _ a1 a2 a5)).mv a4 a3
 have e1:st (κ a) x=some (κ b):=hC.2 a x b ha hb (.inr ⟨(a,x,b),by simp,rfl,rfl,rfl⟩)
 have e2:st (κ a) x=some (κ c.toNat):=hC.2 a x c.toNat ha hcl (.inl ⟨c,hc,rfl⟩)
 have e4:κ b=κ c.toNat:=Option.some.inj (e1.symm.trans e2)
 have e3:κ keep=κ gone:=by
  rcases hkg with ⟨h1,h2⟩ | ⟨h1,h2⟩
  ·rw [h1,h2,hC.1 b hb,hC.1 _ hcl,e4]
  rw [h1,h2,hC.1 b hb,hC.1 _ hcl,e4]
 have c1:∀ u,u < G.length→κ (rV (U.set gone (keep:Int)) u)=κ u:=fun u hu=>by
  rw [hr u hu]
  split
  ·rename_i e; rw [e3,← e]; exact hC.1 u hu
  exact hC.1 u hu
 refine ⟨c1,fun u y v hu hv h=>?_⟩
 obtain ⟨u0,v0,a1,a2,a3,a4,a5⟩:=back u y v hu hv h
 have f1:κ u0=κ u:=by rw [← c1 u0 a1,a3,c1 u hu]
 have f2:κ v0=κ v:=by rw [← c1 v0 a2,a4,c1 v hv]
 rw [← f1,← f2]
 exact hC.2 _ _ _ a1 a2 a5
theorem OkW.join {G:List Mp} {U:List Int} {W:List E3} (w:WG G U) (hW:OkW G.length W) {keep gone:Nat} (hkl:keep < G.length) (hgl:gone < G.length) {L:List Int} (hL:∀ y∈L,(gm G gone y).isSome=true):OkW G.length (W++goneW (gm G gone) keep L):=fun t ht=>by
 rcases List.mem_append.1 ht with ht | ht
 ·exact hW t ht
 obtain ⟨y,hy,h⟩:=List.mem_flatMap.1 ht
 obtain ⟨d,hd⟩:=Option.isSome_iff_exists.1 (hL y hy)
 obtain ⟨g1,g2,g3,g4,g5⟩:=w.ent _ _ _ hgl hd
 rw [hd] at h
 simp only [Option.getD_some,List.mem_cons,List.not_mem_nil,or_false] at h
 rcases h with rfl | rfl
 ·exact ⟨hkl,g2,g3,g4,g5⟩
 exact ⟨g2,hkl,by simp only; omega,by simp only; omega,by simp only; omega⟩
theorem goneW_len (f:Mp) (keep:Nat) (L:List Int):(goneW f keep L).length=2 * L.length:=by
 induction L with
 | nil=>rfl
 | cons y r ih=>unfold goneW at ih ⊢; simp only [List.flatMap_cons,List.length_append,ih,List.length_cons,List.length_nil]; omega
theorem goneW_snoc (f:Mp) (keep:Nat) (L:List Int) (z:Int):goneW f keep (L++[z])=goneW f keep L++[(keep,z,((f z).getD 0).toNat),(((f z).getD 0).toNat,-z,keep)]:=by
 unfold goneW; simp
def nr (U:List Int) (k:Nat):Nat:=(List.range k).countP fun v=>rV U v == v
theorem nr_le (U:List Int) (k:Nat):nr U k≤k:=by
 have:=List.countP_le_length (p:=fun v=>rV U v == v) (l:=List.range k)
 simpa [nr] using this
theorem nr_same {U U' : List Int} {k:Nat} (h:∀ u,u < k→rV U' u=rV U u):nr U' k=nr U k:=by
 unfold nr
 refine List.countP_congr fun x hx=>?_
 rw [h x (List.mem_range.1 hx)]
theorem countP_lt {p q:Nat→Bool} : ∀ (l:List Nat) (y:Nat),y∈l→p y=true→q y=false→(∀ x∈l,q x=true→p x=true)→l.countP q < l.countP p
 | [],y,h,_,_,_=>by simp at h
 | x :: r,y,h,hp,hq,hi=>by
  have hle:∀ (l:List Nat),(∀ x∈l,q x=true→p x=true)→l.countP q≤l.countP p:=fun l h=>List.countP_mono_left h
  rw [List.countP_cons,List.countP_cons]
  rcases List.mem_cons.1 h with rfl | h
  ·have:=hle r fun x hx=>hi x (by simp [hx])
   simp [hp,hq]; omega
  have:=countP_lt r y h hp hq fun x hx=>hi x (by simp [hx])
  have h2:=hi x (by simp)
  by_cases e:q x=true
  ·simp [e,h2 e]; exact this
  simp [e]; split<;>omega
theorem nr_join {U U' : List Int} {k keep gone:Nat} (hk:keep < gone) (hg:gone < k) (hgr:rV U gone=gone) (hkr:rV U keep=keep) (hr:∀ u,u < k→rV U' u=if rV U u=gone then keep else rV U u):nr U' k < nr U k:=by
 refine countP_lt _ gone (List.mem_range.2 hg) (by simpa using hgr) ?_ fun x hx h=>?_
 ·rw [hr gone hg,if_pos hgr]; simp; omega
 have hx:=List.mem_range.1 hx
 rw [hr x hx] at h
 simp only [beq_iff_eq] at h ⊢
 split at h
 ·rename_i e
  subst h
  omega
 exact h
theorem nodup_len:∀ (n:Nat) (l:List Nat),l.Nodup→(∀ x∈l,x < n)→l.length≤n
 | 0,[],_,_=>Nat.le_refl _
 | 0,x :: r,_,h=>absurd (h x (by simp)) (Nat.not_lt_zero _)
 | n + 1,l,hn,h=>by
  by_cases hm:n∈l
  ·have:=nodup_len n (l.erase n) (hn.erase n) fun x hx=>by
    have h1:=h x (List.mem_of_mem_erase hx)
    have h2:x ≠ n:=fun e=>by subst e; exact (List.Nodup.mem_erase_iff hn).1 hx |>.1 rfl
    omega
   rw [List.length_erase_of_mem hm] at this
   omega
  have:=nodup_len n l hn fun x hx=>by
   have h1:=h x hx
   have h2:x ≠ n:=fun e=>hm (e ▸ hx)
   omega
  omega
theorem keys_len {L:List Int} (hn:L.Nodup) (h:∀ y∈L,-26≤y∧y≤26):L.length≤53:=by
 have:=nodup_len 53 (L.map fun y=>(y + 26).toNat) ?_ ?_
 ·simpa using this
 ·rw [List.nodup_iff_pairwise_ne,List.pairwise_map]
  refine hn.imp_of_mem fun {a b} ha hb hab e=>?_
  have:=h a ha
  have:=h b hb
  omega
 intro x hx
 obtain ⟨y,hy,rfl⟩:=List.mem_map.1 hx
 have:=h y hy
 omega
end Go.Proofs.Ytneglephfhiamaa

namespace Go.Pv
open Go.RowKit
theorem mpKeep_maps:∀ {G G' : List Mp},G.length=G'.length→mpKeep (G.map mpB) (G'.map mpB)=true
 | [],[],_=>rfl
 | [],_ :: _,h=>by simp at h
 | _ :: _,[],h=>by simp at h
 | f :: r,g :: t,h=>by
  show mpKeep (r.map mpB) (t.map mpB)=true
  exact mpKeep_maps (by simpa using h)
theorem mpKeep_GB {G G' : List Mp} {U U' : List Int} (h:G.length=G'.length):mpKeep (GB G U) (GB G' U')=true:=mpKeep_maps h
theorem GB_all {G:List Mp} {U:List Int} : (GB G U).all (hsc (GB G U).length)=true:=by
 rw [List.all_eq_true,GB_len]
 exact GB_hsc (Nat.le_refl _)
theorem GB_na {G:List Mp} {U:List Int} : (GB G U).all notAnc=true:=by
 rw [List.all_eq_true]
 intro b hb
 unfold GB at hb
 simp only [List.mem_cons] at hb
 rcases hb with rfl | rfl | rfl | hb
 ·rfl
 ·rfl
 ·rfl
 obtain ⟨f,_,rfl⟩:=List.mem_map.1 hb; rfl
theorem GB_scP {G G' : List Mp} {U U' : List Int} {v:PV} (h:G'.length=G.length):scP (GB G U).length (.p v) (GB G U) (GB G' U')=true:=by
 unfold scP
 rw [GB_len,GB_len,h,mpKeep_GB h.symm,GB_na]
 have:(GB G' U').all (hsc (G.length + 3))=true:=by
  rw [List.all_eq_true]
  exact GB_hsc (by omega)
 rw [this]
 simp [scA,sc1]
def draw2OKs (ops : Array Oper) (xs : List I2) : Bool :=
  (List.range ops.size).all fun j =>
    ((opAt ops j).after.toList.all fun e => !Region.binds .any e || e.on < j) &&
    ((List.range j).all fun i => ((anc ops).getD j 0).testBit i || apart2 ops (fun i => xs.getD i default) i j) &&
    (match (xs.getD j default).c.mk with
     | some κ => (List.range ops.size).all fun i => i == j || ((anc ops).getD i 0).testBit j || (nrA κ (xs.getD i default).av && ((xs.getD i default).pu || (xs.getD i default).blks.all (blkNr κ)))
     | none => true) && (xs.getD j default).na
theorem draw2_sw {ops:Array Oper} {xs:List I2} (h:draw2OKs ops xs=true):draw2OK ops xs=true:=by
 have:draw2OK ops xs=draw2OKs ops xs:=by
  unfold draw2OK draw2OKs
  simp only [Bool.or_comm]
  rfl
 rw [this]; exact h
def wl (W:List (Nat × Int × Nat)):List PV:=W.map fun t=>.agg [.int .i64 t.1,.int .i64 t.2.1,.int .i64 t.2.2]
def fw (W:List (Nat × Int × Nat)):List AV:=opl (flat (wl W))
theorem wl_len (W:List (Nat × Int × Nat)):(wl W).length=W.length:=by simp [wl]
theorem flat_app (a b:List PV):flat (a++b)=flat a++flat b:=by
 induction a with
 | nil=>rfl
 | cons x r ih=>simp only [List.cons_append,flat,ih,List.append_assoc]
theorem fw_app (W V:List (Nat × Int × Nat)):fw (W++V)=fw W++fw V:=by
 simp only [fw,wl,List.map_append,flat_app,opl,List.map_append]
theorem fw_len (W:List (Nat × Int × Nat)):(fw W).length=W.length * 3:=by
 induction W with
 | nil=>rfl
 | cons t r ih =>
  have:=fw_app [t] r
  rw [List.singleton_append] at this
  rw [this,List.length_append,ih,List.length_cons]
  have:(fw [t]).length=3:=rfl
  omega
theorem fw_one (a b:Nat) (x:Int):fw [(a,x,b)]=[.p (.int .i64 a),.p (.int .i64 x),.p (.int .i64 b)]:=rfl
theorem fw_last (W:List (Nat × Int × Nat)) (a b:Nat) (x:Int):((fw (W++[(a,x,b)])).drop (W.length * 3)).take 3=[.p (.int .i64 a),.p (.int .i64 x),.p (.int .i64 b)]:=by
 rw [fw_app,← fw_len,List.drop_append_of_le_length (Nat.le_refl _),List.drop_length,List.nil_append]; rfl
theorem fw_take (W V:List (Nat × Int × Nat)):(fw (W++V)).take (W.length * 3)=fw W:=by
 rw [fw_app,← fw_len,List.take_append_of_le_length (Nat.le_refl _),List.take_length]
theorem fw_ok (W:List (Nat × Int × Nat)):(fw W).all cellOk=true:=by
 induction W with
 | nil=>rfl
 | cons t r ih =>
  have:=fw_app [t] r
  rw [List.singleton_append] at this
  rw [this,List.all_append,ih]; rfl
theorem fw_sc (L:Nat) (W:List (Nat × Int × Nat)):(fw W).all (scA L)=true:=opl_sc _ _
theorem fw_ren (π:List Nat) (W:List (Nat × Int × Nat)):(fw W).map (Go.Pv.ren π)=fw W:=opl_ren _ _
theorem fw_dropt {W:List (Nat × Int × Nat)} {n:Nat} (h:W.length=n):((fw W).drop 0).take (n * 3)=fw W:=by
 rw [List.drop_zero,List.take_of_length_le (by rw [fw_len,h]; exact Nat.le_refl _)]
end Go.Pv
namespace Go.Proofs.Ytneglephfhiamaa
open Go.Pv
section
variable {G:List Mp} {U:List Int}
theorem of_w (w:WG G U) (hk:G.length≤100000000) {v:Nat} (hv:v < G.length):FnM Try.prog 56 [.ptr 0 0,.p (.int .i64 v)] (GB G U) (.p (.int .i64 (rV U v:Nat))) (GB G (ofU U v)):=by
 rw [← ofV_eq w.fo (by rw [w.len]; exact hv)]
 exact of_c w.fo w.len hk hv
theorem WG.of (w:WG G U) {v:Nat} (hv:v < G.length):WG G (ofU U v):=w.up (ofU_len _ _) (ofU_fo w.fo (by rw [w.len]; exact hv))
theorem WG.ofr (w:WG G U) {v:Nat} (hv:v < G.length):∀ u,u < G.length→rV (ofU U v) u=rV U u:=fun u hu=>ofU_rV w.fo (by rw [w.len]; exact hv) (by rw [w.len]; exact hu)
theorem runs_of {s:St} {all:Array Oper} {rest:List Oper} {K:St→Prop} {dst:Option Tmp} {ty:TypeId} {pos:String} {aft:Array Edge} {gd:Option (Nat × Bool)} {fo:Operand} {args:Array Operand} {ts:Array TypeId} {X:Heap}
  (w:WG G U) (hk:G.length≤100000000) {v:Nat} (hv:v < G.length) (hfo:s.ev fo = .p (.fn 56 [])) (hg:guardA all s { dst:=dst,op:=.call { callee:=.value fo,args:=args,argTypes:=ts },type:=ty,pos:=pos,after:=aft,guard:=gd } = some true)
  (hH:s.H=GB G U++X) (hargs:args.toList.map s.ev++([]:List PV).map .p=[.ptr 0 0,.p (.int .i64 v)]) (hd:dstOk s dst)
  (h:Runs Try.prog false all rest K (({ s with H:=GB G (ofU U v)++X } : St).put dst (.p (.int .i64 (rV U v:Nat))))) :
  Runs Try.prog false all ({ dst:=dst,op:=.call { callee:=.value fo,args:=args,argTypes:=ts },type:=ty,pos:=pos,after:=aft,guard:=gd } :: rest) K s:=
 runs_callP (of_w w hk hv) hfo hg hH hargs (by rw [GB_len]; simp [scA,sc1]) GB_all GB_na (GB_scP rfl) hd h
theorem runs2_of {s:St} {all:Array Oper} {rest:List Oper} {K:St→List I2→Prop} {acc:List I2} {dst:Option Tmp} {ty:TypeId} {pos:String} {aft:Array Edge} {gd:Option (Nat × Bool)} {fo:Operand} {args:Array Operand} {ts:Array TypeId} {X:Heap}
  (w:WG G U) (hk:G.length≤100000000) {v:Nat} (hv:v < G.length) (hfo:s.ev fo = .p (.fn 56 [])) (hg:guardA all s { dst:=dst,op:=.call { callee:=.value fo,args:=args,argTypes:=ts },type:=ty,pos:=pos,after:=aft,guard:=gd } = some true)
  (hH:s.H=GB G U++X) (hargs:args.toList.map s.ev++([]:List PV).map .p=[.ptr 0 0,.p (.int .i64 v)]) (hd:dstOk s dst)
  (h:Runs2 Try.prog all rest K (({ s with H:=GB G (ofU U v)++X } : St).put dst (.p (.int .i64 (rV U v:Nat)))) (acc++[⟨.ms ((List.range (GB G U).length).zip (GB G (ofU U v))),.p (.int .i64 (rV U v:Nat)),.dead,false⟩])) :
  Runs2 Try.prog all ({ dst:=dst,op:=.call { callee:=.value fo,args:=args,argTypes:=ts },type:=ty,pos:=pos,after:=aft,guard:=gd } :: rest) K s acc:=
 runs2_callP (of_w w hk hv) hfo hg hH hargs (by rw [GB_len]; simp [scA,sc1]) GB_all GB_na (GB_scP rfl) hd h
end
end Go.Proofs.Ytneglephfhiamaa

namespace Go.Pv
open Go.RowKit Go.Proofs.Ytneglephfhiamaa
theorem runs_cut {P:Program} {draw:Bool} {all:Array Oper} {l:List Oper} {K:St→Prop} {s:St} (h:∀ K' : St→Prop,(∀ s',K s'→K' s')→Runs P draw all l K' s):Runs P draw all l K s:=h K fun _ h=>h
theorem ren1_pre {π:List Nat} {L:Nat} (hπ:∀ i,i < L→π.getD i 0=i) {x:AV} (h:sc1 L x=true):ren1 π x=x:=by
 cases x<;>simp only [ren1,sc1,decide_eq_true_eq] at h ⊢
 all_goals rw [hπ _ h]
theorem ren_pre {π:List Nat} {L:Nat} (hπ:∀ i,i < L→π.getD i 0=i) {x:AV} (h:scA L x=true):Go.Pv.ren π x=x:=by
 have hm:∀ l:List AV,l.all (sc1 L)=true→l.map (ren1 π)=l:=fun l hl=>by
  have:=List.map_congr_left (f:=ren1 π) (g:=id) fun x hx=>ren1_pre hπ ((List.all_eq_true.1 hl) x hx)
  rw [this,List.map_id]
 cases x with
 | agg l=>simp only [Go.Pv.ren]; rw [hm l h]
 | tup l=>simp only [Go.Pv.ren]; rw [hm l h]
 | cl f l=>simp only [Go.Pv.ren]; rw [hm l h]
 | yv k l vs =>
  simp only [scA,Bool.and_eq_true,decide_eq_true_eq] at h
  simp only [Go.Pv.ren]; rw [hm l h.2,hπ _ h.1]
 | _=>simp only [Go.Pv.ren]; exact ren1_pre hπ (by simpa only [scA] using h)
theorem sc1_mn {L M:Nat} (h:L≤M) {x:AV} (hx:sc1 L x=true):sc1 M x=true:=by
 cases x<;>simp only [sc1,decide_eq_true_eq,reduceCtorEq,Bool.false_eq_true] at hx ⊢<;>omega
theorem scA_mn {L M:Nat} (h:L≤M) {x:AV} (hx:scA L x=true):scA M x=true:=by
 have hm:∀ l:List AV,l.all (sc1 L)=true→l.all (sc1 M)=true:=fun l hl=>List.all_eq_true.2 fun y hy=>sc1_mn h ((List.all_eq_true.1 hl) y hy)
 cases x with
 | agg l=>exact hm l hx
 | tup l=>exact hm l hx
 | cl f l=>exact hm l hx
 | yv k l vs =>
  simp only [scA,Bool.and_eq_true,decide_eq_true_eq] at hx ⊢
  exact ⟨by omega,hm l hx.2⟩
 | _=>simp only [scA] at hx ⊢; exact sc1_mn h hx
theorem leH_stay {π:List Nat} {H B:Heap} {a L:Nat} (hπ:∀ i,i < L→π.getD i 0=i) (hl:L≤π.length) (hB:∀ b∈B,hsc L b=true) (h:∀ i,i < B.length→hget H (a + i)=hget B i):LeH π H (List.range' a B.length) B:=by
 refine leH_seg h fun b hb=>?_
 have hs:=hB b hb
 cases b with
 | own c =>
  have:hget [Blk.own c] 0 = .own c:=rfl
  simp only [LeB,this]
  have e:=List.map_congr_left (f:=Go.Pv.ren π) (g:=id) fun x hx=>ren_pre hπ ((List.all_eq_true.1 hs) x hx)
  rw [e,List.map_id,List.take_of_length_le (Nat.le_refl _)]
  exact ⟨rfl,List.all_eq_true.2 fun x hx=>scA_mn hl ((List.all_eq_true.1 hs) x hx)⟩
 | anc i j =>
  simp only [hsc,decide_eq_true_eq] at hs
  have:hget [Blk.anc i j] 0 = .anc i j:=rfl
  simp only [LeB,this,hπ j hs]
  exact ⟨trivial,by omega⟩
 | dead=>trivial
 | _=>rfl
theorem le_behind {S s:St} {B:Heap} {N q:Nat} {c d:List AV} (hn:S.n=s.n) (hN:B.length=N) (hSH:S.H=B++[.own c]) (hB:∀ b∈B,hsc (N + 1) b=true) (hq:N≤q) (hBq:∀ b∈B,hsc N b=true) (h0:∀ i,i < N→hget s.H i=hget B i)
  (hd:hget s.H q = .own d) (hc:c.map (Go.Pv.ren (List.range N++[q]))=d.take c.length) (hcs:c.all (scA (N + 1))=true) (hsl:LeS (List.range N++[q]) S.sl s):Le (List.range N++[q]) S s:=by
 have hπ:∀ i,i < N→(List.range N++[q]).getD i 0=i:=fun i hi=>by
  rw [List.getD_eq_getElem?_getD,List.getElem?_append_left (by simpa using hi)]
  simp [List.getElem?_range hi]
 have hpl:(List.range N++[q]).length=N + 1:=by simp
 refine ⟨hn,?_,?_,hsl⟩
 ·rw [List.nodup_append]
  refine ⟨List.nodup_range,by simp,fun x hx y hy=>?_⟩
  have:=List.mem_range.1 hx
  rw [List.mem_singleton] at hy
  omega
 rw [hSH]
 refine leH_app ?_ ⟨?_,trivial⟩
 ·have:=leH_stay (π:=List.range N++[q]) (H:=s.H) (B:=B) (a:=0) (L:=N) hπ (by omega) hBq (fun i hi=>by rw [Nat.zero_add]; exact h0 i (by omega))
  rwa [hN,← List.range_eq_range'] at this
 simp only [LeB,hd,hpl]
 exact ⟨hc,hcs⟩
theorem le_stay {S s:St} {B:Heap} {N:Nat} (hn:S.n=s.n) (hN:B.length=N) (hSH:S.H=B) (hB:∀ b∈B,hsc N b=true) (h0:∀ i,i < N→hget s.H i=hget B i) (hsl:LeS (List.range N) S.sl s):Le (List.range N) S s:=by
 refine ⟨hn,List.nodup_range,?_,hsl⟩
 rw [hSH]
 have:=leH_stay (π:=List.range N) (H:=s.H) (B:=B) (a:=0) (L:=N) (fun i hi=>by simp [List.getElem?_range hi]) (by simp) hB (fun i hi=>by rw [Nat.zero_add]; exact h0 i (by omega))
 rwa [hN,← List.range_eq_range'] at this
theorem le_behind2 {S s:St} {B:Heap} {N q q2 A κ:Nat} {c d:List AV} (hn:S.n=s.n) (hN:B.length=N) (hSH:S.H=B++[.own c,.anc A κ]) (hq:N≤q) (hq2:N≤q2) (hne:q ≠ q2) (hκ:κ < N) (hBq:∀ b∈B,hsc N b=true) (h0:∀ i,i < N→hget s.H i=hget B i)
  (hd:hget s.H q = .own d) (hd2:hget s.H q2 = .anc A κ) (hc:c.map (Go.Pv.ren (List.range N++[q,q2]))=d.take c.length) (hcs:c.all (scA (N + 2))=true) (hsl:LeS (List.range N++[q,q2]) S.sl s):Le (List.range N++[q,q2]) S s:=by
 have hπ:∀ i,i < N→(List.range N++[q,q2]).getD i 0=i:=fun i hi=>by
  rw [List.getD_eq_getElem?_getD,List.getElem?_append_left (by simpa using hi)]
  simp [List.getElem?_range hi]
 have hpl:(List.range N++[q,q2]).length=N + 2:=by simp
 refine ⟨hn,?_,?_,hsl⟩
 ·rw [List.nodup_append]
  refine ⟨List.nodup_range,by simpa using hne,fun x hx y hy=>?_⟩
  have:=List.mem_range.1 hx
  simp only [List.mem_cons,List.not_mem_nil,or_false] at hy
  omega
 rw [hSH]
 refine leH_app ?_ ⟨?_,?_,trivial⟩
 ·have:=leH_stay (π:=List.range N++[q,q2]) (H:=s.H) (B:=B) (a:=0) (L:=N) hπ (by omega) hBq (fun i hi=>by rw [Nat.zero_add]; exact h0 i (by omega))
  rwa [hN,← List.range_eq_range'] at this
 ·simp only [LeB,hd,hpl]
  exact ⟨hc,hcs⟩
 simp only [LeB,hd2,hπ κ hκ,hpl]
 exact ⟨trivial,by omega⟩
end Go.Pv
namespace Go.Proofs.Ytneglephfhiamaa
open Go.Pv
def Sg (k n0:Nat) (X:Heap) (G:List Mp) (U:List Int) (W:List E3):St:=
 ⟨119,[(0,.ptr 0 0),(8,.sls (n0 + 1 + 1 + 1) 0 W.length 3)],.own [.sl 1 0 k,.sl 2 0 k] :: .own (mps k) :: .own (ol U) :: (G.map mpB++(X++[.own (fw W)]))⟩
theorem le_Sg {k n0 q:Nat} {X:Heap} {G:List Mp} {U:List Int} {W:List E3} {s:St} {d:List AV} (hG:G.length=k) (hU:U.length=k) (hX:X.length=k + 3) (hn0:k + (k + 3)=n0) (hXs:∀ b∈X,hsc (n0 + 3) b=true) (hn:s.n=119) (hq:n0 + 3≤q)
  (h0:∀ i,i < n0 + 3→hget s.H i=hget (GB G U++X) i) (hd:hget s.H q = .own d) (hW:fw W=d.take (W.length * 3)) (g0:s.get 0 = .ptr 0 0) (g8:s.get 8 = .sls q 0 W.length 3):Le (List.range (n0 + 3)++[q]) (Sg k n0 X G U W) s:=by
 have hBl:(GB G U++X).length=n0 + 3:=by rw [List.length_append,GB_len,hX,hG]; omega
 have hBs:∀ b∈(GB G U++X),hsc (n0 + 3) b=true:=GB_hscX (by omega) hXs
 have hmn:∀ b:Blk,hsc (n0 + 3) b=true→hsc (n0 + 3 + 1) b=true:=fun b h=>by
  cases b with
  | own c=>exact List.all_eq_true.2 fun x hx=>scA_mn (Nat.le_succ _) ((List.all_eq_true.1 h) x hx)
  | anc i j=>simp only [hsc,decide_eq_true_eq] at h ⊢; omega
  | _=>rfl
 have hπ0:(List.range (n0 + 3)++[q]).getD 0 0=0:=by
  rw [List.getD_eq_getElem?_getD,List.getElem?_append_left (by simp)]
  simp
 have hπq:(List.range (n0 + 3)++[q]).getD (n0 + 1 + 1 + 1) 0=q:=by
  rw [List.getD_eq_getElem?_getD,List.getElem?_append_right (by simp)]
  simp
 refine le_behind (B:=GB G U++X) (c:=fw W) (by rw [hn]; rfl) hBl ?_ (fun b hb=>hmn b (hBs b hb)) hq hBs h0 hd ?_ (fw_sc _ _) ?_
 ·unfold Sg GB
  rw [hG,hU]
  simp
 ·rw [fw_ren,fw_len]; exact hW
 unfold Sg
 refine ⟨?_,?_,?_,?_,trivial⟩
 ·rw [g0]; simp only [Go.Pv.ren,ren1,hπ0]
 ·simp [scA,sc1]
 ·rw [g8]; simp only [Go.Pv.ren,ren1,hπq]
 simp [scA,sc1]
theorem hget_B {k n0 i:Nat} {X R:Heap} {G:List Mp} {U:List Int} (hG:G.length=k) (hU:U.length=k) (hX:X.length=k + 3) (hn0:k + (k + 3)=n0) (hi:i < n0 + 3) :
  hget (.own [.sl 1 0 k,.sl 2 0 k] :: .own (mps k) :: .own (ol U) :: (G.map mpB++(X++R))) i=hget (GB G U++X) i:=by
 have h:=hget_app1 (H:=GB G U++X) (H2:=R) (j:=i) (by rw [List.length_append,GB_len,hX,hG]; omega)
 rw [← h]
 unfold GB
 rw [hG,hU]; simp
def Sr (N A κ keep:Nat) (Bd:Heap) (r:Nat) (W:List E3):St:=
 ⟨119,[(0,.ptr 0 0),(8,.sls N 0 W.length 3),(14,.p (.int .i64 keep)),(101,.itv r)],Bd++[.own (fw W),.anc A κ]⟩
theorem le_Sr {N A κ keep r q q2:Nat} {Bd:Heap} {W:List E3} {s:St} {d:List AV} (hN:Bd.length=N) (h3:0 < N) (hκ:κ < N) (hBs:∀ b∈Bd,hsc N b=true) (hn:s.n=119) (hq:N≤q) (hq2:N≤q2) (hne:q ≠ q2)
  (h0:∀ i,i < N→hget s.H i=hget Bd i) (hd:hget s.H q = .own d) (hd2:hget s.H q2 = .anc A κ) (hW:fw W=d.take (W.length * 3)) (g0:s.get 0 = .ptr 0 0) (g8:s.get 8 = .sls q 0 W.length 3) (g14:s.get 14 = .p (.int .i64 keep)) (g101:s.get 101 = .itv r):Le (List.range N++[q,q2]) (Sr N A κ keep Bd r W) s:=by
 have hπ0:(List.range N++[q,q2]).getD 0 0=0:=by
  rw [List.getD_eq_getElem?_getD,List.getElem?_append_left (by simpa using h3)]
  simp [List.getElem?_range h3]
 have hπq:(List.range N++[q,q2]).getD N 0=q:=by
  rw [List.getD_eq_getElem?_getD,List.getElem?_append_right (by simp)]
  simp
 refine le_behind2 (B:=Bd) (c:=fw W) (by rw [hn]; rfl) hN rfl hq hq2 hne hκ hBs h0 hd hd2 ?_ (fw_sc _ _) ?_
 ·rw [fw_ren,fw_len]; exact hW
 unfold Sr
 refine ⟨?_,?_,?_,?_,?_,?_,?_,?_,trivial⟩
 ·rw [g0]; simp only [Go.Pv.ren,ren1,hπ0]
 ·simp [scA,sc1]
 ·rw [g8]; simp only [Go.Pv.ren,ren1,hπq]
 ·simp [scA,sc1]
 ·rw [g14]; rfl
 ·rfl
 ·rw [g101]; rfl
 rfl
end Go.Proofs.Ytneglephfhiamaa

namespace Go.Proofs.Ytneglephfhiamaa
open Go.Pv
section
variable {G:List Mp} {U:List Int}
set_option maxHeartbeats 4000000 in
set_option maxRecDepth 20000 in
theorem edge_c (w:WG G U) (hk:G.length≤100000000) {a b:Nat} {x:Int} (ha:a < G.length) (hb:b < G.length) (hx:x ≠ 0∧-26≤x∧x≤26) (hs:SymW G U [(a,x,b),(b,-x,a)]) :
  FnE Try.prog 79 [.ptr 0 0,.p (.int .i64 a),.p (.int .i64 x),.p (.int .i64 b)] (GB G U) (fun r H'=>r = .p (.tup [])∧∃ G' U',H' = GB G' U'∧WG G' U'∧Nxt G U [(a,x,b),(b,-x,a)] G' U' []):=by
 obtain ⟨Post,hP⟩:∃ Post:AV→Heap→Prop,Post=(fun r H'=>r = .p (.tup [])∧∃ G' U',H' = GB G' U'∧WG G' U'∧Nxt G U [(a,x,b),(b,-x,a)] G' U' []):=⟨_,rfl⟩
 rw [← hP]
 have hW0:OkW G.length [(a,x,b),(b,-x,a)]:=fun t ht=>by
  simp only [List.mem_cons,List.not_mem_nil,or_false] at ht
  rcases ht with rfl | rfl
  ·exact ⟨ha,hb,hx⟩
  exact ⟨hb,ha,by simp only; omega,by simp only; omega,by simp only; omega⟩
 unfold GB
 refine fne_of tab_ok Try.func79 rfl (by kernel_rfl) (by rw [Try.ntmps79]; exact Nat.le_add_left 4 _) ?_; rw [Try.ntmps79]; simp only [ancs,entA,List.length_cons,List.length_nil,List.cons_append,List.nil_append,Nat.reduceAdd,Nat.zero_add]
 have hXl:(.anc 0 0 :: .anc 1 1 :: .anc 2 2 :: ancs 3 (G.map mpB).length:Heap).length=G.length + 3:=by simp [ancs_length]
 have hXs:∀ L,G.length + 3≤L→∀ b∈(.anc 0 0 :: .anc 1 1 :: .anc 2 2 :: ancs 3 (G.map mpB).length:Heap),hsc L b=true:=fun L hL b hb=>by
  have:(.anc 0 0 :: .anc 1 1 :: .anc 2 2 :: ancs 3 (G.map mpB).length:Heap)=ancs 0 (G.length + 3):=by rw [G_len]; rfl
  rw [this] at hb
  exact ancs_hsc (by omega) b hb
 have hXa:∀ j i:Nat,(.anc 0 0 :: .anc 1 1 :: .anc 2 2 :: ancs 3 (G.map mpB).length:Heap)[j]? ≠ some (.anc (G.length + 3) i):=fun j i hj=>by
  have:(.anc 0 0 :: .anc 1 1 :: .anc 2 2 :: ancs 3 (G.map mpB).length:Heap)=ancs 0 (G.length + 3):=by rw [G_len]; rfl
  rw [this] at hj
  have hjl:=(List.getElem?_eq_some_iff.1 hj).1
  rw [ancs_length] at hjl
  rw [ancs_at _ _ _ hjl] at hj
  simp at hj
  omega
 generalize (.anc 0 0 :: .anc 1 1 :: .anc 2 2 :: ancs 3 (G.map mpB).length:Heap)=X at hXl hXs hXa ⊢
 refine qm ?_
 refine hk_region fun K hK=>runs_at 9 ?_
 simp only [List.take_succ_cons,List.take_zero,List.drop_succ_cons,List.drop_zero]
 refine runs_eval tab_ok ?_
 simp only [evz,fl,gp,tab,simprocAttr]
 refine fin_run ?_ ?_
 ·simp only [In64]; omega
 refine runs_op (buildS_does (n:=2) (sz:=3) tab_ok rfl rfl rfl rfl rfl rfl rfl (by repeat (first|exact trivial|constructor)) rfl (by decide)) rfl (show (27:Nat) < 119 by decide) (runs_eval tab_ok ?_)
 simp only [evz,fl,gp,tab,simprocAttr]
 refine fin_run trivial (hK _ ?_)<;>clear hK K
 refine qa (ql ?_)
 obtain ⟨n0,hn0⟩:∃ n0,G.length + (G.length + 3)=n0:=⟨_,rfl⟩
 have gR0:∀ (G' : List Mp) (b:Blk) (R:Heap),G'.length=G.length→hget (G'.map mpB++(X++(b :: R))) n0=b:=fun G' b R h=>by
  rw [← List.append_assoc,hget_app2 (by rw [List.length_append,G_len,hXl]; omega)]
  rw [show n0 - (G'.map mpB++X).length=0 by rw [List.length_append,G_len,hXl]; omega]; rfl
 have gR1:∀ (G' : List Mp) (b c:Blk) (R:Heap),G'.length=G.length→hget (G'.map mpB++(X++(b :: c :: R))) (n0 + 1)=c:=fun G' b c R h=>by
  rw [← List.append_assoc,hget_app2 (by rw [List.length_append,G_len,hXl]; omega)]
  rw [show n0 + 1 - (G'.map mpB++X).length=1 by rw [List.length_append,G_len,hXl]; omega]; rfl
 have gS1:∀ (G' : List Mp) (b c d:Blk) (R:Heap),G'.length=G.length→hset (G'.map mpB++(X++(b :: c :: R))) (n0 + 1) d=G'.map mpB++(X++(b :: d :: R)):=fun G' b c d R h=>by
  rw [← List.append_assoc,hset_eq,List.set_append_right _ _ (by rw [List.length_append,G_len,hXl]; omega)]
  rw [show n0 + 1 - (G'.map mpB++X).length=1 by rw [List.length_append,G_len,hXl]; omega,List.append_assoc]; rfl
 have lR:∀ (G' : List Mp) (R:Heap),G'.length=G.length→(G'.map mpB++(X++R)).length=n0 + R.length:=fun G' R h=>by
  rw [List.length_append,List.length_append,G_len,hXl]; omega
 have hXs3:=hXs (n0 + 3) (by omega)
 have hGX:(G.map mpB++X).length=n0:=by rw [List.length_append,G_len,hXl]; exact hn0
 rw [hGX,List.append_assoc]
 refine hk_loop (ι:=List Mp × List Int × List E3) (fun q=>Sg G.length n0 X q.1 q.2.1 q.2.2) (fun q=>WG q.1 q.2.1∧q.1.length=G.length∧OkW G.length q.2.2∧Nxt G U [(a,x,b),(b,-x,a)] q.1 q.2.1 q.2.2∧nr q.2.1 G.length * 107 + q.2.2.length≤107 * G.length + 2) (fun q=>nr q.2.1 G.length * 107 + q.2.2.length) (G,U,[(a,x,b),(b,-x,a)]) ⟨w,rfl,hW0,Nxt.refl hs,by
   have:=nr_le U G.length
   simp only [List.length_cons,List.length_nil]; omega⟩ (List.range (n0 + 3)++[n0 + 3]) (le_Sg (d:=fw [(a,x,b),(b,-x,a)]) rfl w.len hXl hn0 hXs3 rfl (Nat.le_refl _) (fun i hi=>by
   simp only [w.len]; exact hget_B rfl w.len hXl hn0 hi) (gR0 G _ [] rfl) (List.take_of_length_le (Nat.le_refl _)).symm rfl rfl) fun q hq=>?_
 obtain ⟨G1,U1,W1⟩:=q
 obtain ⟨w1,l1,o1,nx,bd⟩:=hq
 simp only at w1 l1 o1 nx bd
 show Holds _ _ _ (Sg G.length n0 X G1 U1 W1)
 unfold Sg
 refine qm (qm ?_)
 refine hk_region fun K hK=>runs_eval tab_ok ?_
 simp only [evz,fl,gp,tab,simprocAttr]
 refine fin_stop ?_ (runs_op (lenS_does tab_ok rfl rfl rfl rfl) rfl (by simp only [dstOk,Nat.reduceLT]) (runs_eval tab_ok ?_))
 ·(first|exact trivial|omega|(simp only [In64] at *; omega)|(simp [In64] at *; omega)|(simp_all; done)|skip)
 simp only [evz,fl,gp,tab,simprocAttr]
 refine fin_run trivial (hK _ ?_)<;>clear hK K
 refine qa ?_
 refine hk_cond rfl (fun hC1=>?_) (fun hC1=>?_)
 ·(try simp only [nhs] at hC1)
  have hne:W1 ≠ []:=fun e=>by subst e; simp at hC1
  obtain ⟨W,t,rfl⟩:∃ W t,W1=W++[t]:=⟨W1.dropLast,W1.getLast hne,(List.dropLast_concat_getLast hne).symm⟩
  obtain ⟨c1,y,c2⟩:=t
  obtain ⟨n,hn⟩:∃ n,W.length=n:=⟨_,rfl⟩
  have hl1:(W++[(c1,y,c2)]).length=n + 1:=by rw [List.length_append,hn]; rfl
  have hsub:((n + 1:Nat):Int) - 1=(n:Int):=by omega
  have hfl:=fw_last W c1 c2 y
  rw [hn] at hfl
  obtain ⟨hc1,hc2,hy⟩:=o1 (c1,y,c2) (by simp)
  simp only at hc1 hc2 hy
  rw [hl1] at bd ⊢
  have hnb:n≤10700000100:=by omega
  refine qh (qa (ql (qm ?_)))
  refine hk_region fun K hK=>runs_eval tab_ok ?_
  simp only [evz,fl,gp,tab,simprocAttr,hsub,hfl,gR0 G1 _ _ l1,gR1 G1 _ _ _ l1,gS1 G1 _ _ _ _ l1,lR G1 _ l1,List.append_assoc,Int.toNat_natCast,Nat.zero_add]
  refine fin_stop ?_ (runs_op (lenS_does tab_ok rfl rfl rfl rfl) rfl (by simp only [dstOk,Nat.reduceLT]) (runs_eval tab_ok ?_))
  ·exact trivial
  simp only [evz,fl,gp,tab,simprocAttr,hsub,hfl,gR0 G1 _ _ l1,gR1 G1 _ _ _ l1,gS1 G1 _ _ _ _ l1,lR G1 _ l1,List.append_assoc,Int.toNat_natCast,Nat.zero_add]
  refine fin_stop ?_ (runs_op (idxS_does tab_ok rfl rfl rfl rfl rfl rfl rfl (by omega) (by omega)) rfl (by simp only [dstOk,Nat.reduceLT]) (runs_eval tab_ok ?_))
  ·simp only [In64]; omega
  simp only [evz,fl,gp,tab,simprocAttr,hsub,hfl,gR0 G1 _ _ l1,gR1 G1 _ _ _ l1,gS1 G1 _ _ _ _ l1,lR G1 _ l1,List.append_assoc,Int.toNat_natCast,Nat.zero_add]
  refine fin_run ?_ (hK _ ?_)<;>clear hK K
  ·rw [fw_len,hl1]; omega
  refine qa (qm ?_)
  refine hk_region fun K hK=>runs_eval tab_ok ?_
  simp only [evz,fl,gp,tab,simprocAttr,hsub,Int.toNat_natCast]
  refine fin_stop ?_ (runs_op (lenS_does tab_ok rfl rfl rfl rfl) rfl (by simp only [dstOk,Nat.reduceLT]) (runs_eval tab_ok ?_))
  ·exact trivial
  simp only [evz,fl,gp,tab,simprocAttr,hsub,Int.toNat_natCast]
  refine fin_stop ?_ (runs_op (cutS_does tab_ok rfl rfl rfl rfl rfl rfl rfl (by omega) (by omega) (by omega)) rfl (by simp only [dstOk,Nat.reduceLT]) (runs_eval tab_ok ?_))
  ·simp only [In64]; omega
  simp only [evz,fl,gp,tab,simprocAttr,hsub,Int.toNat_natCast]
  refine fin_run ?_ (hK _ ?_)<;>clear hK K
  ·trivial
  refine qa (qm ?_)
  refine hk_freeze (n0 + 1 + 1 + 1 + 1) (gR1 G1 _ _ _ l1) rfl ?_
  simp only [hset,gS1 G1 _ _ _ _ l1]
  refine hk_pure 9 (p:=0≤3) (pv:=.ptr [.int .i64 c1,.int .i64 y,.int .i64 c2]) (by
   show peekG _ (.ptr (n0 + 1 + 1 + 1 + 1) 0)=_
   simp only [peekG,peekS,hget,gR1 G1 _ _ _ l1]
   rfl) (by decide) ?_
  have hGBk:∀ (U2:List Int) (Y:Heap),U2.length=G.length→GB G1 U2++Y = .own [.sl 1 0 G.length,.sl 2 0 G.length] :: .own (mps G.length) :: .own (ol U2) :: (G1.map mpB++Y):=fun U2 Y h=>by
   unfold GB; rw [l1,h]; rfl
  obtain ⟨U2,hU2⟩:∃ U2,ofU U1 c1=U2:=⟨_,rfl⟩
  have w2:WG G1 U2:=hU2 ▸ w1.of (by omega)
  have r2:∀ u,u < G.length→rV U2 u=rV U1 u:=fun u hu=>hU2 ▸ w1.ofr (by omega) u (by omega)
  obtain ⟨U3,hU3⟩:∃ U3,ofU U2 c2=U3:=⟨_,rfl⟩
  have w3:WG G1 U3:=hU3 ▸ w2.of (by omega)
  have r3:∀ u,u < G.length→rV U3 u=rV U1 u:=fun u hu=>by
   rw [← r2 u hu]; exact hU3 ▸ w2.ofr (by omega) u (by omega)
  obtain ⟨p,hp⟩:∃ p,rV U1 c1=p:=⟨_,rfl⟩
  obtain ⟨q,hq⟩:∃ q,rV U1 c2=q:=⟨_,rfl⟩
  have hq2:rV U2 c2=q:=by rw [r2 c2 hc2]; exact hq
  have hpl:p < G.length:=by rw [← hp,← l1]; exact w1.rlt (by omega)
  have hql:q < G.length:=by rw [← hq,← l1]; exact w1.rlt (by omega)
  refine hk_draw2 mixed fun K hK=>runs2_eval tab_ok ?_
  simp only [evD,evz,fl,gp,tab,simprocAttr]
  refine fin2_stop ?_ (runs2_of (U:=U1) (X:=X++[.own (fw (W++[(c1,y,c2)])),.fro [.int .i64 c1,.int .i64 y,.int .i64 c2]]) w1 (by omega) (v:=c1) (by omega) rfl rfl (hGBk _ _ (by rw [w1.len]; exact l1)).symm rfl (by simp only [dstOk,Nat.reduceLT]) (runs2_eval tab_ok ?_))
  ·exact trivial
  simp only [hU2,hp,hGBk U2 _ (by rw [w2.len]; exact l1),evD,evz,fl,gp,tab,simprocAttr]
  refine fin2_stop ?_ (runs2_of (U:=U2) (X:=X++[.own (fw (W++[(c1,y,c2)])),.fro [.int .i64 c1,.int .i64 y,.int .i64 c2]]) w2 (by omega) (v:=c2) (by omega) rfl rfl (hGBk _ _ (by rw [w2.len]; exact l1)).symm rfl (by simp only [dstOk,Nat.reduceLT]) (runs2_eval tab_ok ?_))
  ·exact trivial
  simp only [hU3,hq2,hGBk U3 _ (by rw [w3.len]; exact l1),evD,evz,fl,gp,tab,simprocAttr]
  refine fin2_run ?_ (hK _ _ (draw2_sw (by kernel_rfl)) ?_)<;>clear hK K
  ·exact trivial
  refine qa (qm ?_)
  have gM:∀ Y:Heap,hget (G1.map mpB++Y) p=mpB (gm G1 p):=fun Y=>hget_G (by omega)
  have hlk:(bif (gm G1 p y).isSome then PV.int .i64 ((gm G1 p y).getD 0) else PV.int .i64 0)=PV.int .i64 ((gm G1 p y).getD 0):=by cases gm G1 p y<;>rfl
  refine hk_draw mixed (by kernel_rfl) fun K hK=>runs_eval tab_ok ?_
  simp only [evz,fl,gp,tab,simprocAttr,mps_get hpl,gM,mpB,hlk,Int.toNat_natCast,mps_len,Int.ofNat_eq_natCast]
  refine fin_run ?_ (hK _ ?_)<;>clear hK K
  ·exact ⟨⟨by omega,by omega⟩,hpl⟩
  refine qa (qm (qm ?_))
  refine hk_region fun K hK=>runs_eval tab_ok ?_
  simp only [evz,fl,gp,tab,simprocAttr]
  refine fin_run trivial (hK _ ?_)<;>clear hK K
  refine qa ?_
  refine hk_cond rfl (fun hC2=>?_) (fun hC2=>?_)
  ·(try simp only [nhs] at hC2)
   have hf:gm G1 p y=none:=by simpa using hC2
   refine qm ?_
   refine hk_draw mixed (by kernel_rfl) fun K hK=>runs_eval tab_ok ?_
   simp only [evz,fl,gp,tab,simprocAttr,mps_get hpl,gM,mpB,Int.toNat_natCast,mps_len,Int.ofNat_eq_natCast]
   refine fin_run ?_ (hK _ ?_)<;>clear hK K
   ·exact ⟨⟨by omega,by omega⟩,hpl⟩
   refine qa (qj (qc (qf (qa ?_))))
   have hM:Blk.mp .i64 (fun u=>decide (u=y) || (gm G1 p u).isSome) (fun u=>bif decide (u=y) then PV.int .i64 (q:Int) else PV.int .i64 ((gm G1 p u).getD 0))=mpB (updM (gm G1 p) y q):=mpB_upd _ _ _
   rw [hM,hset_G (by omega)]
   have o1' : OkW G1.length (W++[(c1,y,c2)]):=by rw [l1]; exact o1
   have hp3:rV U3 c1=p:=by rw [r3 c1 hc1]; exact hp
   have hq3:rV U3 c2=q:=by rw [r3 c2 hc2]; exact hq
   have h1:=nxt_up w1 o1' nx.sym (U':=U3) fun u hu=>r3 u (by omega)
   have h2:=nxt_put w3 h1.sym (by omega) (by omega) (by rw [hp3]; exact hf)
   have h3:=w3.put (a:=c1) (b:=c2) (x:=y) (by omega) (by omega) hy
   rw [hp3,hq3] at h2 h3
   have hnr:nr U3 G.length=nr U1 G.length:=nr_same r3
   refine ⟨(G1.set p (updM (gm G1 p) y q),U3,W),List.range (n0 + 3)++[n0 + 3],⟨h3,by simpa using l1,fun t ht=>o1 t (by simp [ht]),nx.trans (h1.trans h2),by simp only; omega⟩,by simp only; omega,?_⟩
   refine le_Sg (d:=fw (W++[(c1,y,c2)])) (by simpa using l1) (by rw [w3.len]; exact l1) hXl hn0 hXs3 rfl (Nat.le_refl _) (fun i hi=>?_) (gR0 _ _ _ (by simpa using l1)) (fw_take _ _).symm rfl (by rw [← hn]; rfl)
   exact hget_B (by simpa using l1) (by rw [w3.len]; exact l1) hXl hn0 hi
  (try simp only [nhs] at hC2)
  obtain ⟨c,hc⟩:∃ c,gm G1 p y=some c:=Option.isSome_iff_exists.1 (by simpa using hC2)
  obtain ⟨e0,e1,_⟩:=w1.ent p y c (by omega) hc
  obtain ⟨d,rfl⟩:=Int.eq_ofNat_of_zero_le e0
  rw [Int.toNat_natCast] at e1
  simp only [hc,Option.getD_some,Option.isSome_some,cond_true,Int.ofNat_eq_natCast]
  obtain ⟨U4,hU4⟩:∃ U4,ofU U3 d=U4:=⟨_,rfl⟩
  have w4:WG G1 U4:=hU4 ▸ w3.of (by omega)
  have r4:∀ u,u < G.length→rV U4 u=rV U1 u:=fun u hu=>by
   rw [← r3 u hu]; exact hU4 ▸ w3.ofr (by omega) u (by omega)
  obtain ⟨r,hr⟩:∃ r,rV U1 d=r:=⟨_,rfl⟩
  have hr3:rV U3 d=r:=by rw [r3 d (by omega)]; exact hr
  have hrl:r < G.length:=by rw [← hr,← l1]; exact w1.rlt e1
  refine qh (qa (qm (qm ?_)))
  refine hk_region fun K hK=>runs_eval tab_ok ?_
  simp only [evz,fl,gp,tab,simprocAttr]
  refine fin_stop ?_ (runs_of (U:=U3) (X:=X++[.own (fw (W++[(c1,y,c2)])),.fro [.int .i64 c1,.int .i64 y,.int .i64 c2]]) w3 (by omega) (v:=d) (by omega) rfl rfl (hGBk _ _ (by rw [w3.len]; exact l1)).symm rfl (by simp only [dstOk,Nat.reduceLT]) (runs_eval tab_ok ?_))
  ·exact trivial
  simp only [hU4,hr3,hGBk U4 _ (by rw [w4.len]; exact l1),evz,fl,gp,tab,simprocAttr]
  refine fin_run trivial (hK _ ?_)<;>clear hK K
  refine qa (qm ?_)
  refine hk_region fun K hK=>runs_eval tab_ok ?_
  simp only [evz,fl,gp,tab,simprocAttr]
  refine fin_run trivial (hK _ ?_)<;>clear hK K
  refine qa ?_
  refine hk_cond rfl (fun hC3=>?_) (fun hC3=>?_)
  ·(try simp only [nhs] at hC3)
   refine qj (qc (qf (qa ?_)))
   have hrq:r=q:=by omega
   have o1' : OkW G1.length (W++[(c1,y,c2)]):=by rw [l1]; exact o1
   have hp4:rV U4 c1=p:=by rw [r4 c1 hc1]; exact hp
   have hq4:rV U4 c2=q:=by rw [r4 c2 hc2]; exact hq
   have hr4:rV U4 d=r:=by rw [r4 d (by omega)]; exact hr
   have h1:=nxt_up w1 o1' nx.sym (U':=U4) fun u hu=>r4 u (by omega)
   have h2:=nxt_has h1.sym (by rw [hp4]; exact hc) (by rw [Int.toNat_natCast,hr4,hq4]; exact hrq)
   have hnr:nr U4 G.length=nr U1 G.length:=nr_same r4
   refine ⟨(G1,U4,W),List.range (n0 + 3)++[n0 + 3],⟨w4,l1,fun t ht=>o1 t (by simp [ht]),nx.trans (h1.trans h2),by simp only; omega⟩,by simp only; omega,?_⟩
   refine le_Sg (d:=fw (W++[(c1,y,c2)])) l1 (by rw [w4.len]; exact l1) hXl hn0 hXs3 rfl (Nat.le_refl _) (fun i hi=>?_) (gR0 _ _ _ l1) (fw_take _ _).symm rfl (by rw [← hn]; rfl)
   exact hget_B l1 (by rw [w4.len]; exact l1) hXl hn0 hi
  (try simp only [nhs] at hC3)
  have hne2:r ≠ q:=by
   intro e; apply hC3; simp [e]
  obtain ⟨keep,gone,hkg,hmin,hmax,hkq⟩:∃ keep gone:Nat,keep < gone∧(if (r:Int) < (q:Int) then (r:Int) else (q:Int))=(keep:Int)∧(if (r:Int) > (q:Int) then (r:Int) else (q:Int))=(gone:Int)∧((keep=q∧gone=r)∨(keep=r∧gone=q)):=by
   rcases Nat.lt_or_gt_of_ne hne2 with h | h
   ·exact ⟨r,q,h,by rw [if_pos (by omega)],by rw [if_neg (by omega)],.inr ⟨rfl,rfl⟩⟩
   exact ⟨q,r,h,by rw [if_neg (by omega)],by rw [if_pos (by omega)],.inl ⟨rfl,rfl⟩⟩
  refine qh (qa (qm ?_))
  refine hk_region fun K hK=>runs_eval tab_ok ?_
  simp only [evz,fl,gp,tab,simprocAttr,hmin,hmax]
  refine fin_run ?_ (hK _ ?_)<;>clear hK K
  ·(first|exact trivial|omega|(simp only [In64] at *; omega)|(simp [In64] at *; omega)|(simp_all; done)|skip)
  refine qa (qm ?_)
  refine hk_region fun K hK=>runs_eval tab_ok ?_
  simp only [evz,fl,gp,tab,simprocAttr,ol_get (show gone < U4.length by rw [w4.len,l1]; rcases hkq with ⟨_,h⟩ | ⟨_,h⟩<;>omega),ol_set,Int.toNat_natCast,Int.ofNat_eq_natCast]
  refine fin_run ?_ (hK _ ?_)<;>clear hK K
  ·refine ⟨⟨by omega,?_⟩,?_⟩
   ·rcases hkq with ⟨_,h⟩ | ⟨_,h⟩<;>omega
   rw [w4.len,l1]; rcases hkq with ⟨_,h⟩ | ⟨_,h⟩<;>omega
  refine qa ?_
  refine hk_rangeF tab_ok 7 rfl rfl rfl rfl (G.length + 3) ?_
  have hgl:gone < G.length:=by rcases hkq with ⟨_,h⟩ | ⟨_,h⟩<;>omega
  have hkl:keep < G.length:=by omega
  have gMg:∀ Y:Heap,hget (G1.map mpB++Y) gone=mpB (gm G1 gone):=fun Y=>hget_G (by omega)
  obtain ⟨U5,hU5⟩:∃ U5,U4.set gone (keep:Int)=U5:=⟨_,rfl⟩
  have l5:U5.length=G.length:=by rw [← hU5,List.length_set,w4.len]; exact l1
  rw [hU5]
  obtain ⟨B,hB⟩:∃ B,GB G1 U5++X=B:=⟨_,rfl⟩
  have hBl:B.length=n0 + 3:=by rw [← hB,List.length_append,GB_len,hXl,l1]; omega
  have hBs:∀ b∈B,hsc (n0 + 3) b=true:=hB ▸ GB_hscX (by omega) hXs3
  have hBa:∀ b∈B,∀ j,b ≠ .anc (G.length + 3) j:=fun b hb j e=>by
   rw [← hB] at hb
   subst e
   rcases List.mem_append.1 hb with hb | hb
   ·have:=(List.all_eq_true.1 (GB_na (G:=G1) (U:=U5))) _ hb
    cases this
   obtain ⟨i,hi⟩:=List.getElem?_of_mem hb
   exact hXa i j hi
  have hBg:hget B (gone + 3)=mpB (gm G1 gone):=by
   rw [← hB]
   show hget (G1.map mpB++X) gone=_
   exact gMg X
  obtain ⟨Bd,hBd⟩:∃ Bd,hset B (gone + 3) .dead=Bd:=⟨_,rfl⟩
  have hDl:Bd.length=n0 + 3:=by rw [← hBd,hset_length]; exact hBl
  have hDm:∀ b∈Bd,b = .dead∨b∈B:=fun b hb=>by
   rw [← hBd,hset_eq] at hb
   rcases List.mem_or_eq_of_mem_set hb with h | h
   ·exact .inr h
   exact .inl h
  have hDs:∀ b∈Bd,hsc (n0 + 3) b=true:=fun b hb=>by
   rcases hDm b hb with rfl | h
   ·rfl
   exact hBs b h
  have hDg:∀ i,hget Bd i=if i=gone + 3∧gone + 3 < B.length then .dead else hget B i:=fun i=>by rw [← hBd,hset_hget]
  have hH:∀ R:Heap,Blk.own [.sl 1 0 G.length,.sl 2 0 G.length] :: .own (mps G.length) :: .own (ol U5) :: (G1.map mpB++(X++R))=B++R:=fun R=>by
   rw [← hB,List.append_assoc,hGBk U5 _ l5]
  have happ1:∀ (R:Heap) (i:Nat),i < n0 + 3→hget (B++R) i=hget B i:=fun R i hi=>hget_app1 (by rw [hBl]; exact hi)
  have happ2:∀ (R:Heap) (j:Nat),hget (B++R) (n0 + 3 + j)=hget R j:=fun R j=>by
   rw [hget_app2 (by rw [hBl]; omega),hBl,Nat.add_sub_cancel_left]
  have hdp1:∀ (R:Heap) (i:Nat),i < n0 + 3→hget (Bd++R) i=hget Bd i:=fun R i hi=>hget_app1 (by rw [hDl]; exact hi)
  have hdp2:∀ (R:Heap) (j:Nat),hget (Bd++R) (n0 + 3 + j)=hget R j:=fun R j=>by
   rw [hget_app2 (by rw [hDl]; omega),hDl,Nat.add_sub_cancel_left]
  refine runs_cut fun K hK=>?_
  simp only [List.take_succ_cons,List.take_zero]
  refine runs_eval tab_ok ?_
  simp only [evz,fl,gp,tab,simprocAttr,mps_get hgl,Int.toNat_natCast,Int.ofNat_eq_natCast,mps_len]
  refine fin_run ?_ (hK _ ?_)<;>clear hK K
  ·exact ⟨⟨by omega,by omega⟩,hgl⟩
  refine ⟨gone + 3,.i64,fun z=>(gm G1 gone z).isSome,fun z=>.int .i64 ((gm G1 gone z).getD 0),rfl,by
   simp only [hH]
   exact (happ1 _ _ (by omega)).trans hBg,fun _ _=>rfl,?_,rfl,
   fun r' L=>Sr (n0 + 3) (G.length + 3) (gone + 3) keep Bd r' (W++goneW (gm G1 gone) keep L),List.range (n0 + 3)++[n0 + 3,n0 + 3 + 2],gone + 3,n0 + 3 + 1,?_,?_,?_,?_⟩
  ·intro k' j hj
   simp only [hH] at hj
   rcases List.mem_append.1 (List.mem_of_getElem? hj) with h | h
   ·exact hBa _ h j rfl
   simp at h
  ·intro r' L
   refine ⟨rfl,rfl,?_,?_,fun k' j hj=>?_⟩
   ·show (Bd++_)[gone + 3]? = _
    rw [List.getElem?_append_left (by omega),← hBd,hset_get,if_pos ⟨rfl,by omega⟩]
   ·show (Bd++[_,_])[n0 + 3 + 1]? = _
    rw [List.getElem?_append_right (by omega),hDl,Nat.add_sub_cancel_left]; rfl
   have hj:(Bd++[Blk.own (fw (W++goneW (gm G1 gone) keep L)),Blk.anc (G.length + 3) (gone + 3)])[k']? = some (.anc (G.length + 3) j):=hj
   by_cases h:k' < n0 + 3
   ·rw [List.getElem?_append_left (by omega)] at hj
    rcases hDm _ (List.mem_of_getElem? hj) with h2 | h2
    ·cases h2
    exact absurd rfl (hBa _ h2 j)
   rw [List.getElem?_append_right (by omega),hDl] at hj
   have h3:=(List.getElem?_eq_some_iff.1 hj).1
   simp only [List.length_cons,List.length_nil] at h3
   by_cases h4:k' = n0 + 3
   ·rw [h4,Nat.sub_self] at hj; simp at hj
   omega
  ·intro r'
   have hnil:W++goneW (gm G1 gone) keep []=W:=List.append_nil _
   simp only [hnil,hH]
   have hs1:∀ (R:Heap) (x:Blk) (i:Nat),i < n0 + 3→hget (hset (B++R) (gone + 3) .dead++[x]) i=hget Bd i:=fun R x i hi=>by
    rw [hget_app1 (by rw [hset_length,List.length_append]; omega),hset_hget,happ1 R i hi,hDg]
    simp only [List.length_append]
    by_cases h:i=gone + 3
    ·rw [if_pos ⟨h,by omega⟩,if_pos ⟨h,by omega⟩]
    rw [if_neg (fun e=>h e.1),if_neg (fun e=>h e.1)]
   refine le_Sr (d:=fw (W++[(c1,y,c2)])) hDl (by omega) (by omega) hDs rfl (Nat.le_refl _) (by omega) (by omega) (hs1 _ _) ?_ ?_ (fw_take _ _).symm rfl (by rw [← hn]; rfl) rfl rfl
   ·show hget (hset (B++[_,_]) (gone + 3) .dead++[_]) (n0 + 3)=_
    rw [hget_app1 (by rw [hset_length,List.length_append]; simp; omega),hset_hget,if_neg (by omega)]
    exact happ2 _ 0
   show hget (hset (B++[_,_]) (gone + 3) .dead++[_]) (n0 + 3 + 2)=_
   rw [hget_app2 (by rw [hset_length,List.length_append]; simp; omega),hset_length,List.length_append]
   simp [hBl,hget]
  ·intro r' L z hLn hLd hz hzn
   obtain ⟨zz,hzz⟩:=Option.isSome_iff_exists.1 (show (gm G1 gone z).isSome=true from hz)
   obtain ⟨z0,z1,z2⟩:=w1.ent gone z zz (by omega) hzz
   obtain ⟨dd,rfl⟩:=Int.eq_ofNat_of_zero_le z0
   have hLl:L.length≤53:=keys_len hLn fun y hy=>by
    obtain ⟨u,hu⟩:=Option.isSome_iff_exists.1 (show (gm G1 gone y).isSome=true from hLd y hy)
    exact (w1.ent gone y u (by omega) hu).2.2.2
   have hWs:W++goneW (gm G1 gone) keep (L++[z])=W++goneW (gm G1 gone) keep L++[(keep,z,dd),(dd,-z,keep)]:=by
    rw [goneW_snoc,hzz,List.append_assoc]; rfl
   have hWl:(W++goneW (gm G1 gone) keep L).length=n + 2 * L.length:=by rw [List.length_append,goneW_len,hn]
   obtain ⟨W',hW'⟩:∃ W',W++goneW (gm G1 gone) keep L=W':=⟨_,rfl⟩
   simp only [hWs,hW']
   rw [hW'] at hWl
   obtain ⟨m,hm⟩:∃ m,W'.length=m:=⟨_,rfl⟩
   rw [hm] at hWl
   refine runs_cut fun K hK=>?_
   simp only [List.drop_succ_cons,List.drop_zero]
   refine runs_eval tab_ok ?_
   simp only [evz,fl,gp,tab,simprocAttr,Sr,hzz,hm,Option.getD_some,Int.ofNat_eq_natCast]
   refine fin_run trivial (hK _ ?_)<;>clear hK K
   refine hk_region fun K hK=>runs_eval tab_ok ?_
   simp only [evz,fl,gp,tab,simprocAttr]
   refine fin_stop ?_ (runs_op (appS_does (sz:=3) (k:=n0 + 3) (lo:=0) (len:=m) (c:=fw W') (l:=[PV.agg [.int .i64 keep,.int .i64 z,.int .i64 dd],PV.agg [.int .i64 dd,.int .i64 (-z),.int .i64 keep]]) tab_ok rfl rfl rfl rfl rfl rfl (by decide) (by decide) rfl (hdp2 _ 0) rfl (by intro x hx; simp at hx; rcases hx with rfl | rfl<;>rfl) (by intro x hx; simp at hx; rcases hx with rfl | rfl<;>rfl) (show 0 < 2 by decide) (by rw [fw_len,hm]; omega) (by rw [fw_dropt hm]; exact fw_ok _) (by show (m + 2) * 24≤_; omega) (by show (m + 2) * 3≤_; omega) (by show m + 2≤_; omega)) rfl (by simp only [dstOk,Nat.reduceLT]) (runs_eval tab_ok ?_))
   ·simp only [In64]; omega
   simp only [evz,fl,gp,tab,simprocAttr]
   refine fin_run ?_ (hK _ ?_)<;>clear hK K
   ·(first|exact trivial|omega|(simp only [In64] at *; omega)|(simp [In64] at *; omega)|(simp_all; done)|skip)
   refine qd (qa ?_)
   refine ⟨List.range (n0 + 3)++[n0 + 3 + 2,n0 + 3 + 1],le_Sr (d:=(fw W').take (m * 3)++opl (flat [PV.agg [.int .i64 keep,.int .i64 z,.int .i64 dd],PV.agg [.int .i64 dd,.int .i64 (-z),.int .i64 keep]])) hDl (by omega) (by omega) hDs rfl (by omega) (by omega) (by omega) (fun i hi=>?_) ?_ ?_ ?_ rfl ?_ rfl rfl⟩
   ·show hget (hset (Bd++[_,_]) (n0 + 3) .dead++[_]) i=_
    rw [hget_app1 (by rw [hset_length,List.length_append]; omega),hset_hget,if_neg (by omega),hdp1 _ _ hi]
   ·show hget (hset (Bd++[_,_]) (n0 + 3) .dead++[_]) (n0 + 3 + 2)=_
    rw [hget_app2 (by rw [hset_length,List.length_append]; simp; omega),hset_length,List.length_append]
    simp [hDl,hget]
   ·show hget (hset (Bd++[_,_]) (n0 + 3) .dead++[_]) (n0 + 3 + 1)=_
    rw [hget_app1 (by rw [hset_length,List.length_append]; simp; omega),hset_hget,if_neg (by omega)]
    exact hdp2 _ 1
   ·rw [show (fw W').take (m * 3)=fw W' from List.take_of_length_le (by rw [fw_len,hm]; exact Nat.le_refl _)]
    rw [fw_app]
    exact (List.take_of_length_le (by rw [List.length_append,fw_len,List.length_append]; show W'.length * 3 + 6≤(W'.length + 2) * 3; omega)).symm
   show AV.sls (Bd++[_,_]).length 0 (m + 2) 3=_
   simp [hDl,hm]
  intro r' L hLn hLd
  refine qd (qa ?_)
  have o1' : OkW G1.length (W++[(c1,y,c2)]):=by rw [l1]; exact o1
  have hp4:rV U4 c1=p:=by rw [r4 c1 hc1]; exact hp
  have hq4:rV U4 c2=q:=by rw [r4 c2 hc2]; exact hq
  have hr4:rV U4 d=r:=by rw [r4 d (by omega)]; exact hr
  have h1:=nxt_up w1 o1' nx.sym (U':=U4) fun u hu=>r4 u (by omega)
  have h2:=nxt_join (keep:=keep) (gone:=gone) (L:=L) w4 o1' h1.sym (by rw [hp4]; exact hc) hkg (by rw [Int.toNat_natCast,hr4,hq4]; exact hkq) hLd
  rw [hU5] at h2
  have hLl:L.length≤53:=keys_len hLn fun y hy=>by
   obtain ⟨u,hu⟩:=Option.isSome_iff_exists.1 ((hLd y).2 hy)
   exact (w1.ent gone y u (by omega) hu).2.2.2
  have hWl:(W++goneW (gm G1 gone) keep L).length=n + 2 * L.length:=by rw [List.length_append,goneW_len,hn]
  have hkr:rV U4 keep=keep:=by
   rcases hkq with ⟨h,_⟩ | ⟨h,_⟩
   ·rw [h]; exact hq4 ▸ w4.idem (by omega)
   rw [h]; exact hr4 ▸ w4.idem (by omega)
  have hgr:rV U4 gone=gone:=by
   rcases hkq with ⟨_,h⟩ | ⟨_,h⟩
   ·rw [h]; exact hr4 ▸ w4.idem (by omega)
   rw [h]; exact hq4 ▸ w4.idem (by omega)
  have hl4:U4.length=G.length:=by rw [w4.len]; exact l1
  have k1:U4.getD keep 0=(keep:Int):=by have:=rV_root w4.fo keep (by omega); rwa [hkr] at this
  have k2:U4.getD gone 0=(gone:Int):=by have:=rV_root w4.fo gone (by omega); rwa [hgr] at this
  have hnr:nr U4 G.length=nr U1 G.length:=nr_same r4
  have hnj:nr U5 G.length < nr U4 G.length:=nr_join hkg hgl hgr hkr fun u hu=>by rw [← hU5]; exact rV_join w4.fo (by omega) hkg k1 k2 u (by omega)
  have w5:WG G1 U5:=⟨by rw [l5,l1],by rw [← hU5]; exact w4.fo.join (by omega) hkg,w1.ent⟩
  refine ⟨(G1,U5,W++goneW (gm G1 gone) keep L),List.range (n0 + 3)++[n0 + 3],⟨w5,l1,?_,nx.trans (h1.trans h2),by simp only; omega⟩,by simp only; omega,?_⟩
  ·have:=OkW.join (G:=G1) (U:=U5) (W:=W) w5 (fun t ht=>o1' t (by simp [ht])) (keep:=keep) (gone:=gone) (by omega) (by omega) (L:=L) fun y hy=>(hLd y).2 hy
   rwa [l1] at this
  refine le_Sg (d:=fw (W++goneW (gm G1 gone) keep L)) l1 l5 hXl hn0 hXs3 rfl (Nat.le_refl _) (fun i hi=>?_) ?_ (List.take_of_length_le (by rw [fw_len]; exact Nat.le_refl _)).symm rfl rfl
  ·show hget (hset (hset (Bd++[_,_]) (gone + 3) _) (n0 + 3 + 1) .dead) i=_
   rw [hset_hget,if_neg (by omega),hset_hget,List.length_append,hdp1 _ _ hi,hDg,hB]
   by_cases h:i=gone + 3
   ·rw [if_pos ⟨h,by simp; omega⟩,h,hBg]; rfl
   rw [if_neg (fun e=>h e.1),if_neg (fun e=>h e.1)]
  show hget (hset (hset (Bd++[_,_]) (gone + 3) _) (n0 + 3 + 1) .dead) (n0 + 3)=_
  rw [hset_hget,if_neg (by omega),hset_hget,if_neg (by omega)]
  exact hdp2 _ 0
 (try simp only [nhs] at hC1)
 refine qj (qc (qc (qf ?_)))
 simp only [Try.results79,PostG,endG,rvsA,rvA,mkTup,evz,fl,gp,tab,simprocAttr]
 have hnil:W1=[]:=by
  cases W1 with
  | nil=>rfl
  | cons t r=>exact absurd hC1 (by simp)
 subst hnil
 refine ⟨.p (.tup []),GB G1 U1,by rw [hP]; exact ⟨rfl,G1,U1,rfl,w1,nx⟩,List.range (n0 + 3),rfl,rfl,?_⟩
 refine le_stay (B:=GB G1 U1++X) rfl (by rw [List.length_append,GB_len,hXl,l1]; omega) rfl (GB_hscX (by omega) hXs3) (fun i hi=>?_) trivial
 exact hget_B l1 (by rw [w1.len]; exact l1) hXl hn0 hi
end
end Go.Proofs.Ytneglephfhiamaa

namespace Go.Proofs.Ytneglephfhiamaa
open Go.Pv
def Pth (G:List Mp) (U:List Int):Nat→List Int→Nat→Prop
 | u,[],v=>rV U u=rV U v
 | u,x :: w,v=>∃ m,m < G.length∧Ed G U u x m∧Pth G U m w v
theorem Ed.mv {G:List Mp} {U:List Int} {u v u2 v2:Nat} {x:Int} (h:Ed G U u x v) (h1:rV U u=rV U u2) (h2:rV U v=rV U v2):Ed G U u2 x v2:=by
 obtain ⟨d,a,b⟩:=h
 exact ⟨d,by rw [← h1]; exact a,b.trans h2⟩
theorem pe_nil {G:List Mp} {U:List Int} {u v:Nat} {x:Int} : Pe G U [] u x v↔Ed G U u x v:=by
 unfold Pe; simp
theorem Pth.mv {G:List Mp} {U:List Int} : ∀ {w:List Int} {u v u2 v2:Nat},Pth G U u w v→rV U u=rV U u2→rV U v=rV U v2→Pth G U u2 w v2
 | [],_,_,_,_,h,h1,h2=>by rw [Pth] at h ⊢; rw [← h1,← h2]; exact h
 | x :: w,_,_,_,_,⟨m,a,b,c⟩,h1,h2=>⟨m,a,b.mv h1 rfl,c.mv rfl h2⟩
theorem Pth.snoc {G:List Mp} {U:List Int} {x:Int} {m v:Nat} (hm:m < G.length) (hv:v < G.length) (he:Ed G U m x v):∀ {w:List Int} {u:Nat},Pth G U u w m→Pth G U u (w++[x]) v
 | [],u,h=>⟨v,hv,he.mv h.symm rfl,rfl⟩
 | y :: w,u,⟨n,a,b,c⟩=>⟨n,a,b,Pth.snoc hm hv he c⟩
theorem Nxt.ed {G G' : List Mp} {U U' : List Int} {W:List E3} (h:Nxt G U W G' U' []) {u v:Nat} {x:Int} (hu:u < G.length) (hv:v < G.length) (he:Ed G U u x v):Ed G' U' u x v:=pe_nil.1 (h.keep u x v hu hv (.inl he))
theorem Pth.nxt {G G' : List Mp} {U U' : List Int} {W:List E3} (h:Nxt G U W G' U' []):∀ {w:List Int} {u v:Nat},u < G.length→v < G.length→Pth G U u w v→Pth G' U' u w v
 | [],u,v,hu,hv,hp=>h.same u v hu hv hp
 | x :: w,u,v,hu,hv,⟨m,a,b,c⟩=>⟨m,by rw [h.len]; exact a,h.ed hu a b,Pth.nxt h a hv c⟩
theorem gm_snoc {G:List Mp} {i:Nat} {f:Mp} (h:i < G.length):gm (G++[f]) i=gm G i:=by
 unfold gm
 rw [List.getD_eq_getElem?_getD,List.getElem?_append_left h,← List.getD_eq_getElem?_getD]
theorem gm_new {G:List Mp} {f:Mp} : gm (G++[f]) G.length=f:=by
 unfold gm; simp
def nul:Mp:=fun _=>none
theorem WG.place {G:List Mp} {U:List Int} (w:WG G U):WG (G++[nul]) (U++[(U.length:Int)]):=by
 refine ⟨by simp [w.len],w.fo.snoc,fun v x d hv h=>?_⟩
 rw [List.length_append,List.length_singleton] at hv ⊢
 by_cases e:v < G.length
 ·rw [gm_snoc e] at h
  obtain ⟨a,b,c⟩:=w.ent v x d e h
  exact ⟨a,by omega,c⟩
 obtain rfl:v=G.length:=by omega
 rw [gm_new] at h; cases h
theorem WG.placeR {G:List Mp} {U:List Int} (w:WG G U) {u:Nat} (h:u < G.length):rV (U++[(U.length:Int)]) u=rV U u:=rV_snoc w.fo u (by rw [w.len]; exact h)
theorem WG.placeN {G:List Mp} {U:List Int} (w:WG G U):rV (U++[(U.length:Int)]) G.length=G.length:=by
 rw [← w.len]; exact rV_new U
theorem ed_place {G:List Mp} {U:List Int} (w:WG G U) {u v:Nat} {x:Int} (hu:u < G.length + 1) (hv:v < G.length + 1):Ed (G++[nul]) (U++[(U.length:Int)]) u x v↔u < G.length∧v < G.length∧Ed G U u x v:=by
 constructor
 ·rintro ⟨d,a,b⟩
  by_cases e:u < G.length
  ·rw [w.placeR e,gm_snoc (w.rlt e)] at a
   have hd:=(w.ent _ _ _ (w.rlt e) a).2.1
   rw [w.placeR hd] at b
   by_cases e2:v < G.length
   ·rw [w.placeR e2] at b
    exact ⟨e,e2,d,a,b⟩
   obtain rfl:v=G.length:=by omega
   rw [w.placeN] at b
   have:=w.rlt hd
   omega
  obtain rfl:u=G.length:=by omega
  rw [w.placeN,gm_new] at a; cases a
 rintro ⟨e,e2,d,a,b⟩
 have hd:=(w.ent _ _ _ (w.rlt e) a).2.1
 exact ⟨d,by rw [w.placeR e,gm_snoc (w.rlt e)]; exact a,by rw [w.placeR hd,w.placeR e2]; exact b⟩
theorem sym_place {G:List Mp} {U:List Int} (w:WG G U) (h:SymW G U []):SymW (G++[nul]) (U++[(U.length:Int)]) []:=fun u x v hu hv e=>by
 rw [List.length_append,List.length_singleton] at hu hv
 rw [pe_nil,ed_place w hu hv] at e
 rw [pe_nil,ed_place w hv hu]
 exact ⟨e.2.1,e.1,pe_nil.1 (h u x v e.1 e.2.1 (pe_nil.2 e.2.2))⟩
theorem Pth.place {G:List Mp} {U:List Int} (w:WG G U):∀ {l:List Int} {u v:Nat},u < G.length→v < G.length→Pth G U u l v→Pth (G++[nul]) (U++[(U.length:Int)]) u l v
 | [],u,v,hu,hv,hp=>by rw [Pth] at hp ⊢; rw [w.placeR hu,w.placeR hv]; exact hp
 | x :: l,u,v,hu,hv,⟨m,a,b,c⟩=>⟨m,by simp; omega,(ed_place w (by omega) (by omega)).2 ⟨hu,a,b⟩,Pth.place w a hv c⟩
theorem cmp_place {X:Type} {step:X→Int→Option X} {κ:Nat→X} {G:List Mp} {U:List Int} (w:WG G U) (h:Cmp step κ G U []) (c:X):Cmp step (fun u=>if u=G.length then c else κ u) (G++[nul]) (U++[(U.length:Int)]) []:=by
 refine ⟨fun u hu=>?_,fun u x v hu hv e=>?_⟩
 ·rw [List.length_append,List.length_singleton] at hu
  by_cases e:u < G.length
  ·have:=w.rlt e
   rw [w.placeR e]
   show (if rV U u=G.length then c else κ (rV U u))=if u=G.length then c else κ u
   rw [if_neg (by omega),if_neg (by omega)]; exact h.1 u e
  obtain rfl:u=G.length:=by omega
  rw [w.placeN]
 rw [List.length_append,List.length_singleton] at hu hv
 rw [pe_nil,ed_place w hu hv] at e
 simp only
 rw [if_neg (by omega),if_neg (by omega)]
 exact h.2 u x v e.1 e.2.1 (pe_nil.2 e.2.2)
theorem sym_add {G:List Mp} {U:List Int} (h:SymW G U []) (a:Nat) (x:Int) (b:Nat):SymW G U [(a,x,b),(b,-x,a)]:=fun u y v hu hv e=>by
 rcases e with e | ⟨t,ht,h1,h2,h3⟩
 ·exact .inl (pe_nil.1 (h u y v hu hv (pe_nil.2 e)))
 simp only [List.mem_cons,List.not_mem_nil,or_false] at ht
 rcases ht with rfl | rfl
 ·simp only at h1 h2 h3
  exact .inr ⟨(b,-x,a),by simp,h3,by rw [← h2],h1⟩
 simp only at h1 h2 h3
 exact .inr ⟨(a,x,b),by simp,h3,by rw [← h2]; simp,h1⟩
theorem cmp_add {X:Type} {step:X→Int→Option X} {κ:Nat→X} {G:List Mp} {U:List Int} {a b:Nat} {x:Int} (ha:a < G.length) (hb:b < G.length) (h:Cmp step κ G U []) (h1:step (κ a) x=some (κ b)) (h2:step (κ b) (-x)=some (κ a)):Cmp step κ G U [(a,x,b),(b,-x,a)]:=by
 refine ⟨h.1,fun u y v hu hv e=>?_⟩
 have key:∀ {s t:Nat},s < G.length→t < G.length→rV U s=rV U t→κ s=κ t:=fun {s t} hs ht e=>by rw [← h.1 s hs,← h.1 t ht,e]
 rcases e with e | ⟨t,ht,e1,e2,e3⟩
 ·exact h.2 u y v hu hv (pe_nil.2 e)
 simp only [List.mem_cons,List.not_mem_nil,or_false] at ht
 rcases ht with rfl | rfl
 ·simp only at e1 e2 e3
  rw [← key ha hu e1,← key hb hv e3,← e2]; exact h1
 simp only at e1 e2 e3
 rw [← key hb hu e1,← key ha hv e3,← e2]; exact h2
def runW {X:Type} (step:X→Int→Option X):X→List Int→Option X
 | c,[]=>some c
 | c,x :: w=>match step c x with | some d=>runW step d w | none=>none
theorem runW_app {X:Type} (step:X→Int→Option X):∀ (w w' : List Int) (c:X),runW step c (w++w')=(runW step c w).bind fun d=>runW step d w'
 | [],w',c=>rfl
 | x :: w,w',c=>by
  simp only [List.cons_append,runW]
  cases step c x with
  | none=>rfl
  | some d=>exact runW_app step w w' d
def Uni (G:List Mp) (U:List Int) (L:List (List Int)) (v:Nat) (p:List Int):Prop:=
 ∀ (X:Type) (step:X→Int→Option X) (x0:X),(∀ c d x,x ≠ 0→step c x=some d→step d (-x)=some c)→(∀ w∈L,runW step x0 w=some x0)→∃ κ:Nat→X,κ 0=x0∧Cmp step κ G U []∧runW step x0 p=some (κ v)
structure FI (L:List (List Int)) (G:List Mp) (U:List Int) (done:List (List Int)) (v:Nat) (p:List Int):Prop where
 wg:WG G U
 pos:0 < G.length
 lt:v < G.length
 sym:SymW G U []
 cl:∀ w∈done,Pth G U 0 w 0
 pth:Pth G U 0 p v
 con:∀ u,u < G.length→∃ w,Pth G U 0 w u
 uni:Uni G U L v p
theorem fi_zero (L:List (List Int)):FI L [nul] [0] [] 0 []:=by
 have hE:∀ u x v,u < 1→¬ Ed [nul] [0] u x v:=fun u x v hu ⟨d,a,_⟩=>by
  obtain rfl:u=0:=by omega
  have h0:rV [0] 0=0:=rfl
  rw [h0] at a
  cases a
 refine ⟨⟨rfl,fun i hi=>?_,fun v x d hv h=>?_⟩,Nat.one_pos,Nat.one_pos,fun u x v hu hv e=>absurd (pe_nil.1 e) (hE u x v hu),fun w hw=>by simp at hw,rfl,fun u hu=>⟨[],by
  obtain rfl:u=0:=by simpa using hu
  rfl⟩,fun X step x0 _ _=>⟨fun _=>x0,rfl,⟨fun _ _=>rfl,fun u x v hu hv e=>absurd (pe_nil.1 e) (hE u x v hu)⟩,rfl⟩⟩
 ·obtain rfl:i=0:=by simpa using hi
  simp
 obtain rfl:v=0:=by simpa using hv
 cases h
theorem FI.put {L:List (List Int)} {G:List Mp} {U:List Int} {done:List (List Int)} {v:Nat} {p:List Int} (h:FI L G U done v p) {x:Int} (hx:x ≠ 0) {r:List Int} (hm:p++[x]++r∈L) {G' : List Mp} {U' : List Int} (hw:WG G' U')
  (hn:Nxt (G++[nul]) (U++[(U.length:Int)]) [(v,x,G.length),(G.length,-x,v)] G' U' []):FI L G' U' done G.length (p++[x]):=by
 have hl:G'.length=G.length + 1:=by rw [hn.len,List.length_append,List.length_singleton]
 have h0:=h.pos
 have hv:=h.lt
 have hlen:(G++[nul]).length=G.length + 1:=by simp
 have h2:Ed G' U' v x G.length:=pe_nil.1 (hn.keep v x G.length (by omega) (by omega) (.inr ⟨_,List.mem_cons_self,rfl,rfl,rfl⟩))
 refine ⟨hw,by omega,by omega,hn.sym,fun w hw=>?_,?_,fun u hu=>?_,fun X step x0 hi hc=>?_⟩
 ·exact Pth.nxt hn (by omega) (by omega) ((h.cl w hw).place h.wg h0 h0)
 ·have h1:=Pth.nxt hn (by omega) (by omega) (h.pth.place h.wg h0 hv)
  exact h1.snoc (by omega) (by omega) h2
 ·by_cases e:u < G.length
  ·obtain ⟨q,hq⟩:=h.con u e
   exact ⟨q,Pth.nxt hn (by omega) (by omega) (hq.place h.wg h0 e)⟩
  obtain rfl:u=G.length:=by omega
  exact ⟨p++[x],(Pth.nxt hn (by omega) (by omega) (h.pth.place h.wg h0 hv)).snoc (by omega) (by omega) h2⟩
 obtain ⟨κ,k1,k2,k3⟩:=h.uni X step x0 hi hc
 have hrun:=hc _ hm
 rw [runW_app,runW_app,k3] at hrun
 simp only [Option.bind_some,runW] at hrun
 obtain ⟨y,hy⟩:∃ y,step (κ v) x=some y:=by
  cases e:step (κ v) x with
  | none=>rw [e] at hrun; cases hrun
  | some y=>exact ⟨y,rfl⟩
 refine ⟨fun u=>if u=G.length then y else κ u,by simp only; rw [if_neg (by omega)]; exact k1,hn.cmp X step _ (cmp_add (by omega) (by omega) (cmp_place h.wg k2 _) ?_ ?_),?_⟩
 ·show step (if v=G.length then y else κ v) x=some (if G.length=G.length then y else κ G.length)
  rw [if_neg (by omega),if_pos rfl]; exact hy
 ·show step (if G.length=G.length then y else κ G.length) (-x)=some (if v=G.length then y else κ v)
  rw [if_neg (show ¬ v=G.length by omega),if_pos rfl]; exact hi _ _ _ hx hy
 show _=some (if G.length=G.length then y else κ G.length)
 rw [if_pos rfl,runW_app,k3]
 simp only [Option.bind_some,runW,hy]
theorem FI.back {L:List (List Int)} {G:List Mp} {U:List Int} {done:List (List Int)} {v:Nat} {p:List Int} (h:FI L G U done v p) {x:Int} (hx:x ≠ 0) (hm:p++[x]∈L) {G' : List Mp} {U' : List Int} (hw:WG G' U')
  (hn:Nxt G U [(v,x,0),(0,-x,v)] G' U' []):FI L G' U' (done++[p++[x]]) 0 []:=by
 have hl:=hn.len
 have h0:=h.pos
 have hv:=h.lt
 refine ⟨hw,by omega,by omega,hn.sym,fun w hw=>?_,rfl,fun u hu=>(h.con u (by omega)).imp fun q hq=>Pth.nxt hn h0 (by omega) hq,fun X step x0 hi hc=>?_⟩
 ·rcases List.mem_append.1 hw with hw | hw
  ·exact Pth.nxt hn h0 h0 (h.cl w hw)
  rw [List.mem_singleton] at hw
  subst hw
  have h2:Ed G' U' v x 0:=pe_nil.1 (hn.keep v x 0 hv h0 (.inr ⟨_,List.mem_cons_self,rfl,rfl,rfl⟩))
  exact (Pth.nxt hn h0 hv h.pth).snoc (by omega) (by omega) h2
 obtain ⟨κ,k1,k2,k3⟩:=h.uni X step x0 hi hc
 have hx0:step (κ v) x=some (κ 0):=by
  have:=hc _ hm
  rw [runW_app,k3] at this
  simp only [Option.bind_some,runW] at this
  rw [k1]
  cases e:step (κ v) x with
  | none=>rw [e] at this; cases this
  | some y=>rw [e] at this; exact this
 exact ⟨κ,k1,hn.cmp X step _ (cmp_add hv h0 k2 hx0 (hi _ _ _ hx hx0)),by rw [← k1]; rfl⟩
theorem FI.nil {L:List (List Int)} {G:List Mp} {U:List Int} {done:List (List Int)} (h:FI L G U done 0 []):FI L G U (done++[[]]) 0 []:=
 ⟨h.wg,h.pos,h.lt,h.sym,fun w hw=>by
  rcases List.mem_append.1 hw with hw | hw
  ·exact h.cl w hw
  rw [List.mem_singleton] at hw; subst hw; rfl,h.pth,h.con,h.uni⟩
end Go.Proofs.Ytneglephfhiamaa

namespace Go.Pv
open Go.RowKit Go.Proofs.Ytneglephfhiamaa
theorem putM_ot:∀ (ks:List Nat) (bs H:Heap) (k:Nat),k ∉ ks→k < H.length→(putM H ks bs)[k]? = H[k]?
 | [],bs,H,k,_,hk=>by simp only [putM]; rw [List.getElem?_append_left hk]
 | k0 :: ks,[],H,k,_,_=>rfl
 | k0 :: ks,b0 :: bs,H,k,hn,hk=>by
  simp only [putM]
  rw [putM_ot ks bs _ k (fun h=>hn (by simp [h])) (by rw [hset_length]; exact hk),hset_get,if_neg (fun h=>hn (by simp [h.1]))]
theorem putM_at2:∀ (ks:List Nat) (bs H:Heap),ks.Nodup→(∀ k∈ks,k < H.length)→ks.length≤bs.length→∀ (j:Nat) {b:Blk} {k:Nat},bs[j]? = some b→(ks++List.range' H.length (bs.length - ks.length))[j]? = some k→(putM H ks bs)[k]? = some b
 | [],bs,H,_,_,_,j,b,k,h1,h2=>by
  have hj:=(List.getElem?_eq_some_iff.1 h1).1
  simp only [List.nil_append,List.length_nil,Nat.sub_zero] at h2
  rw [List.getElem?_range' hj] at h2
  simp only [Option.some.injEq,Nat.one_mul] at h2
  subst h2
  simp only [putM]
  rw [List.getElem?_append_right (by omega),Nat.add_sub_cancel_left]; exact h1
 | k0 :: ks,[],H,_,_,hl,j,b,k,h1,h2=>by simp at hl
 | k0 :: ks,b0 :: bs,H,hnd,hk,hl,0,b,k,h1,h2=>by
  simp at h1 h2
  subst h1 h2
  simp only [putM]
  rw [putM_ot ks bs _ k0 (List.nodup_cons.1 hnd).1 (by rw [hset_length]; exact hk k0 (by simp)),hset_get,if_pos ⟨rfl,hk k0 (by simp)⟩]
 | k0 :: ks,b0 :: bs,H,hnd,hk,hl,j + 1,b,k,h1,h2=>by
  simp only [putM]
  refine putM_at2 ks bs _ (List.nodup_cons.1 hnd).2 (fun k hk'=>by rw [hset_length]; exact hk k (by simp [hk'])) (by simpa using hl) j (by simpa using h1) ?_
  rw [hset_length]
  simpa using h2
theorem putM_all {H0 L:Heap} (h:H0.length≤L.length):putM H0 (List.range H0.length) L=L:=by
 refine List.ext_getElem? fun k=>?_
 by_cases hk:k < L.length
 ·have e:(List.range H0.length++List.range' H0.length (L.length - (List.range H0.length).length))[k]? = some k:=by
   rw [List.length_range]
   by_cases hk2:k < H0.length
   ·rw [List.getElem?_append_left (by simpa using hk2),List.getElem?_range hk2]
   rw [List.getElem?_append_right (by simp; omega),List.length_range,List.getElem?_range' (by omega)]
   simp; omega
  rw [putM_at2 _ _ H0 List.nodup_range (fun k hk=>List.mem_range.1 hk) (by simpa using h) k (List.getElem?_eq_getElem hk) e,List.getElem?_eq_getElem hk]
 have hlen:=putM_length (List.range H0.length) L H0 (by simpa using h)
 rw [List.length_range] at hlen
 rw [List.getElem?_eq_none (by omega),List.getElem?_eq_none (by omega)]
theorem range_all {n m:Nat} (h:n≤m):List.range n++List.range' n (m - n)=List.range m:=by
 refine List.ext_getElem (by simp; omega) fun i h1 h2=>?_
 by_cases hi:i < n
 ·rw [List.getElem_append_left (by simpa using hi)]; simp
 rw [List.getElem_append_right (by simpa using hi)]; simp; omega
theorem runs_callA {P:Program} {s:St} {all:Array Oper} {rest:List Oper} {K:St→Prop} {dst:Option Tmp} {ty:TypeId} {pos:String} {aft:Array Edge} {gd:Option (Nat × Bool)} {fo:Operand} {args:Array Operand} {ts:Array TypeId} {g:FuncId} {avs:List AV} {H1:Heap} {r:AV}
  (hc:FnM P g avs s.H r H1) {cap:List PV} (hfo:s.ev fo = .p (.fn g cap)) (hg:guardA all s { dst:=dst,op:=.call { callee:=.value fo,args:=args,argTypes:=ts },type:=ty,pos:=pos,after:=aft,guard:=gd } = some true)
  (hargs:args.toList.map s.ev++cap.map .p=avs) (ha:avs.all (scA s.H.length)=true) (hs:s.H.all (hsc s.H.length)=true) (hs1:∀ b∈H1,hsc H1.length b=true) (hr:scA H1.length r=true) (hl:s.H.length≤H1.length) (hsc:scM r s.H H1=true) (hd:dstOk s dst)
  (h:Runs P false all rest K (({ s with H:=H1 } : St).put dst r)) :
  Runs P false all ({ dst:=dst,op:=.call { callee:=.value fo,args:=args,argTypes:=ts },type:=ty,pos:=pos,after:=aft,guard:=gd } :: rest) K s:=by
 have hargN:∀ (l:List AV),l.all (scA s.H.length)=true→argsN (List.range s.H.length) l l:=by
  intro l
  induction l with
  | nil=>intro _; trivial
  | cons x r ih =>
   intro hl
   rw [List.all_cons,Bool.and_eq_true] at hl
   refine ⟨?_,ih hl.2⟩
   cases x with
   | p v=>rfl
   | _=>exact ⟨(ren_id hl.1).symm,by rw [List.length_range]; exact hl.1⟩
 refine runs_callM (List.range s.H.length) hc hfo hg (by rw [hargs]; exact argsN_M (hargN _ ha)) ?_ List.nodup_range (List.all_eq_true.2 fun k hk=>by simpa using hk) hsc hd ?_
 ·have:=leH_pre (H0:=s.H) (X:=[]) fun b hb=>(List.all_eq_true.1 hs) b hb
  rwa [List.append_nil] at this
 rw [List.length_range,range_all hl,ren_id hr]
 have hm:H1.map (Blk.ren (List.range H1.length))=H1:=by
  have:=List.map_congr_left (f:=Blk.ren (List.range H1.length)) (g:=id) fun x hx=>blkren_id (hs1 x hx)
  rw [this,List.map_id]
 rw [hm,putM_all hl]
 exact h
theorem mpKeep_app:∀ {H H1 R:Heap},mpKeep H H1=true→H.length≤H1.length→mpKeep H (H1++R)=true
 | [],_,_,_,_=>rfl
 | b :: r,[],_,h,hl=>by simp at hl
 | b :: r,b1 :: t,R,h,hl=>by
  have hl' : r.length≤t.length:=by simpa using hl
  cases b<;>cases b1<;>simp only [mpKeep,List.cons_append,Bool.false_eq_true] at h ⊢<;>exact mpKeep_app h hl'
end Go.Pv
namespace Go.Proofs.Ytneglephfhiamaa
open Go.Pv
section
variable {G:List Mp} {U:List Int}
theorem PB_len (G:List Mp) (U:List Int):(PB G U).length=G.length + 6:=by
 unfold PB; simp
theorem PB_hsc:∀ b∈PB G U,hsc (PB G U).length b=true:=fun b hb=>by
 rw [PB_len]
 unfold PB at hb
 simp only [List.mem_cons,List.mem_append,List.not_mem_nil,or_false] at hb
 rcases hb with rfl | rfl | rfl | hb | rfl | rfl | rfl
 ·simp [hsc,scA,sc1]
 ·rfl
 ·rfl
 ·obtain ⟨f,_,rfl⟩:=List.mem_map.1 hb; rfl
 ·rfl
 ·simp only [hsc,List.all_append,mps_sc (show G.length + 3≤G.length + 6 by omega)]
  simp [scA,sc1]
 exact ol_sc _ _
theorem PB_scM {v:PV} : scM (.p v) (GB G U) (PB G U)=true:=by
 unfold scM
 have h1:(PB G U).all (fun | .own c=>c.all (scA (PB G U).length) | .anc _ _=>false | _=>true)=true:=by
  rw [List.all_eq_true]
  intro b hb
  have:=PB_hsc b hb
  cases b with
  | own c=>exact this
  | anc i j =>
   unfold PB at hb
   simp only [List.mem_cons,List.mem_append,List.not_mem_nil,or_false,reduceCtorEq,false_or] at hb
   rcases hb with hb | hb
   ·obtain ⟨f,_,h⟩:=List.mem_map.1 hb; cases h
   cases hb
  | _=>rfl
 have h2:mpKeep (GB G U) (PB G U)=true:=by
  show mpKeep (G.map mpB) (G.map mpB++_)=true
  exact mpKeep_app (mpKeep_maps rfl) (Nat.le_refl _)
 simp only [Bool.and_eq_true,decide_eq_true_eq]
 refine ⟨⟨⟨⟨rfl,h1⟩,?_⟩,h2⟩,GB_na⟩
 rw [GB_len,PB_len]; omega
theorem runs_place {s:St} {all:Array Oper} {rest:List Oper} {K:St→Prop} {dst:Option Tmp} {ty:TypeId} {pos:String} {aft:Array Edge} {gd:Option (Nat × Bool)} {fo:Operand} {args:Array Operand} {ts:Array TypeId}
  (hl:U.length=G.length) (hk:G.length≤100000000) (hfo:s.ev fo = .p (.fn 57 [])) (hg:guardA all s { dst:=dst,op:=.call { callee:=.value fo,args:=args,argTypes:=ts },type:=ty,pos:=pos,after:=aft,guard:=gd } = some true)
  (hH:s.H=GB G U) (hargs:args.toList.map s.ev++([]:List PV).map .p=[.ptr 0 0]) (hd:dstOk s dst)
  (h:Runs Try.prog false all rest K (({ s with H:=PB G U } : St).put dst (.p (.int .i64 (U.length:Nat))))) :
  Runs Try.prog false all ({ dst:=dst,op:=.call { callee:=.value fo,args:=args,argTypes:=ts },type:=ty,pos:=pos,after:=aft,guard:=gd } :: rest) K s:=
 runs_callA (H1:=PB G U) (by rw [hH]; exact place_c hl hk) hfo hg hargs (by rw [hH,GB_len]; simp [scA,sc1]) (by rw [hH]; exact GB_all) PB_hsc rfl (by rw [hH,GB_len,PB_len]; omega) (by rw [hH]; exact PB_scM) hd h
theorem le_PB {S s:St} (hl:U.length=G.length) (hn:S.n=s.n) (hS:S.H=GB (G++[nul]) (U++[(U.length:Int)])) (hs:s.H=PB G U) (hsl:LeS (0 :: (G.length + 4) :: (G.length + 5) :: List.range' 3 (G.length + 1)) S.sl s):Le (0 :: (G.length + 4) :: (G.length + 5) :: List.range' 3 (G.length + 1)) S s:=by
 obtain ⟨π,hπ⟩:∃ π,π=0 :: (G.length + 4) :: (G.length + 5) :: List.range' 3 (G.length + 1):=⟨_,rfl⟩
 have hpl:π.length=G.length + 4:=by rw [hπ]; simp
 have hp:∀ i,i < G.length + 1→π.getD (i + 3) 0=i + 3:=fun i hi=>by
  rw [hπ,List.getD_eq_getElem?_getD]
  simp only [List.getElem?_cons_succ,List.getElem?_range' hi,Option.getD_some]
  omega
 have hf:∀ i,i < G.length + 1→hget (PB G U) (3 + i)=hget ((G++[nul]).map mpB) i:=fun i hi=>by
  rw [Nat.add_comm]
  show hget (G.map mpB++_) i=_
  rw [List.map_append]
  by_cases h:i < G.length
  ·rw [hget_app1 (by simpa using h),hget_app1 (by simpa using h)]
  obtain rfl:i=G.length:=by omega
  rw [hget_app2 (by simp),hget_app2 (by simp),G_len,Nat.sub_self]; rfl
 have f1:hget (PB G U) (G.length + 4) = .own (mps G.length++[.mptr (G.length + 3)]):=by
  show hget (G.map mpB++_) (G.length + 1)=_
  rw [hget_app2 (by simp),G_len,Nat.add_sub_cancel_left]; rfl
 have f2:hget (PB G U) (G.length + 5) = .own (ol (U++[(U.length:Int)])):=by
  show hget (G.map mpB++_) (G.length + 2)=_
  rw [hget_app2 (by simp),G_len,Nat.add_sub_cancel_left]; rfl
 rw [← hπ] at hsl ⊢
 refine ⟨hn,?_,?_,hsl⟩
 ·rw [hπ]
  refine List.nodup_cons.2 ⟨?_,List.nodup_cons.2 ⟨?_,List.nodup_cons.2 ⟨?_,List.nodup_range' ..⟩⟩⟩
  ·simp only [List.mem_cons,List.mem_range'_1]; omega
  ·simp only [List.mem_cons,List.mem_range'_1]; omega
  simp only [List.mem_range'_1]; omega
 rw [hS,hs]
 unfold GB
 conv=>arg 3; rw [hπ]
 refine ⟨?_,?_,leB_ol f2,?_⟩
 ·have:hget (PB G U) 0 = .own [.sl (G.length + 4) 0 (G.length + 1),.sl (G.length + 5) 0 (U.length + 1)]:=rfl
  simp only [LeB,this]
  refine ⟨?_,by simp [scA,sc1,hpl]⟩
  rw [hπ]
  simp [Go.Pv.ren,ren1]
 ·simp only [LeB,f1]
  have e:mps (G++[nul]).length=mps G.length++[.mptr (G.length + 3)]:=by rw [mps_snoc]; simp
  rw [e]
  refine ⟨?_,?_⟩
  ·rw [List.take_of_length_le (Nat.le_refl _),mps_snoc]
   refine List.ext_getElem (by simp) fun i h1 h2=>?_
   have hi:i < G.length + 1:=by simpa [mps_len] using h2
   simp only [mps,List.getElem_map,List.getElem_range,Go.Pv.ren,ren1,hp i hi]
  rw [mps_snoc]; exact mps_sc (by omega)
 have:=leH_seg (π:=π) (H:=PB G U) (B:=(G++[nul]).map mpB) (a:=3) (fun i hi=>hf i (by simpa using hi)) fun b hb=>by
  obtain ⟨f,_,rfl⟩:=List.mem_map.1 hb
  exact leB_mp f
 simpa using this
end
end Go.Proofs.Ytneglephfhiamaa

namespace Go.Proofs.Ytneglephfhiamaa
open Go.Pv
theorem tot_sn (L:List (List Int)) (w:List Int):tot (L++[w])=tot L + w.length:=by simp [tot]
theorem tot_tk (L:List (List Int)) (i:Nat):tot (L.take i)≤tot L:=by
 have:tot L=tot (L.take i) + tot (L.drop i):=by
  unfold tot
  rw [← List.length_append,← List.flatten_append,List.take_append_drop]
 omega
theorem take_snoc {α:Type} {L:List α} {i:Nat} {d:α} (h:i < L.length):L.take (i + 1)=L.take i++[L.getD i d]:=by
 rw [List.take_succ,List.getElem?_eq_getElem h,List.getD_eq_getElem?_getD,List.getElem?_eq_getElem h]; rfl
def Lt26 (w:List Int):Prop:=∀ x∈w,x ≠ 0∧-26≤x∧x≤26
theorem short_lt {w:List Int} (hw:Lt26 w):Lt26 (short w):=by
 have:∀ (w o:List Int),Lt26 w→Lt26 o→Lt26 (w.foldl push o):=by
  intro w
  induction w with
  | nil=>intro o _ ho; exact ho
  | cons x r ih =>
   intro o hw ho
   refine ih _ (fun y hy=>hw y (by simp [hy])) ?_
   unfold push
   split
   ·exact fun y hy=>ho y (List.mem_of_mem_take hy)
   intro y hy
   rcases List.mem_append.1 hy with h | h
   ·exact ho y h
   rw [List.mem_singleton] at h
   subst h
   exact hw _ (by simp)
 exact this w [] hw (fun x hx=>by simp at hx)
theorem edge_E {G:List Mp} {U:List Int} {s:St} {o:Oper} {fo:Operand} {args:Array Operand} {ts:Array TypeId} (ho:o.op = .call { callee:=.value fo,args:=args,argTypes:=ts }) (hfo:s.ev fo = .p (.fn 79 []))
  (w:WG G U) (hk:G.length≤100000000) {a b:Nat} {x:Int} (ha:a < G.length) (hb:b < G.length) (hx:x ≠ 0∧-26≤x∧x≤26) (hs:SymW G U [(a,x,b),(b,-x,a)]) (hH:s.H=GB G U)
  (hargs:args.toList.map s.ev++([]:List PV).map .p=[.ptr 0 0,.p (.int .i64 a),.p (.int .i64 x),.p (.int .i64 b)]) :
  DoesE Try.prog o s (fun av H'=>av = .p (.tup [])∧∃ G' U',H' = GB G' U'∧WG G' U'∧Nxt G U [(a,x,b),(b,-x,a)] G' U' []):=by
 have:=call_doesEP (X:=[]) ho hfo (edge_c w hk ha hb hx hs) (by rw [hH,List.append_nil]) hargs (by rw [GB_len]; simp [scA,sc1]) GB_all GB_na (by
  rintro r H1 ⟨rfl,G',U',rfl,h2,h3⟩
  exact GB_scP h3.len)
 intro C m a w K Q R hK
 refine this C m a w K Q R fun v m' w' av H' ⟨H1,⟨e,G',U',e1,e2,e3⟩,e4⟩ R2 hv=>hK v m' w' av H' ⟨e,G',U',?_,e2,e3⟩ R2 hv
 rw [e4,e1,List.append_nil]
set_option maxHeartbeats 4000000 in
set_option maxRecDepth 20000 in
theorem fold_c (L:List (List Int)) (hL:∀ w∈L,w.length≤1000000000∧Lt26 w) (hn:L.length≤1000000) (hb:tot (L.map short)≤10000000) :
  FnE Try.prog 48 [.p (.list (ll L))] [] (fun r H=>r = .ptr 0 0∧∃ G U,H=GB G U∧G.length≤10000001∧FI (L.map short) G U (L.map short) 0 []):=by
 obtain ⟨Post,hP⟩:∃ Post:AV→Heap→Prop,Post=(fun r H=>r = .ptr 0 0∧∃ G U,H=GB G U∧G.length≤10000001∧FI (L.map short) G U (L.map short) 0 []):=⟨_,rfl⟩
 rw [← hP]
 obtain ⟨S,hS⟩:∃ S,L.map short=S:=⟨_,rfl⟩
 rw [hS] at hb hP
 have hSl:S.length=L.length:=by rw [← hS]; simp
 refine fne_of tab_ok Try.func48 rfl (by kernel_rfl) (by rw [Try.ntmps48]; exact Nat.le_add_left 1 _) ?_; rw [Try.ntmps48]; simp only [ancs,entA,List.length_cons,List.length_nil,List.cons_append,List.nil_append,Nat.reduceAdd,Nat.zero_add]
 refine qm ?_
 refine hk_region fun K hK=>runs_eval tab_ok ?_
 simp only [evz,fl,gp,tab,simprocAttr]
 refine fin_run trivial (hK _ ?_)<;>clear hK K
 refine qa (qm ?_)
 refine hk_region fun K hK=>runs_eval tab_ok ?_
 simp only [evz,fl,gp,tab,simprocAttr]
 refine fin_run ?_ (hK _ ?_)<;>clear hK K
 ·(first|exact trivial|omega|(simp only [In64] at *; omega)|(simp [In64] at *; omega)|(simp_all; done)|skip)
 refine qa (qm ?_)
 refine hk_own0c 0 0 rfl rfl ?_
 refine hk_own0c 0 1 rfl rfl ?_
 refine hk_region fun K hK=>runs_eval tab_ok ?_
 simp only [evz,fl,gp,tab,simprocAttr]
 refine fin_stop ?_ (runs_place (G:=[]) (U:=[]) rfl (by decide) rfl rfl rfl rfl (by simp only [dstOk,Nat.reduceLT]) (runs_eval tab_ok ?_))
 ·exact trivial
 simp only [evz,fl,gp,tab,simprocAttr]
 refine fin_run trivial (hK _ ?_)<;>clear hK K
 refine qa (qm (qm ?_))
 refine hk_region fun K hK=>runs_eval tab_ok ?_
 simp only [evz,fl,gp,tab,simprocAttr,ll_length]
 refine fin_run trivial (hK _ ?_)<;>clear hK K
 refine qa (ql ?_)
 refine hk_loop (ι:=Nat × List Mp × List Int) (fun q=>⟨45,[(3,.ptr 0 0),(14,.p (.list (ll L))),(15,.p (.int .i64 L.length)),(16,.p (.int .i64 (q.1:Nat)))],GB q.2.1 q.2.2⟩) (fun q=>q.1≤L.length∧FI S q.2.1 q.2.2 (S.take q.1) 0 []∧q.2.1.length≤1 + tot (S.take q.1)) (fun q=>L.length - q.1) (0,[nul],[0]) ⟨Nat.zero_le _,fi_zero S,by simp [tot]⟩ _ (le_PB (G:=[]) (U:=[]) rfl rfl rfl rfl ?_) fun q hq=>?_
 ·exact ⟨rfl,rfl,rfl,rfl,rfl,rfl,rfl,rfl,trivial⟩
 obtain ⟨i,G,U⟩:=q
 obtain ⟨q1,q2,q3⟩:=hq
 simp only at q1 q2 q3 ⊢
 refine qm ?_
 refine hk_region fun K hK=>runs_eval tab_ok ?_
 simp only [evz,fl,gp,tab,simprocAttr]
 refine fin_run trivial (hK _ ?_)<;>clear hK K
 refine qa (qm ?_)
 refine hk_cond rfl (fun hC1=>?_) (fun hC1=>?_)
 ·(try simp only [nhs] at hC1)
  have hi:i < L.length:=by omega
  refine qh (qa (qm (ql (qm ?_))))
  refine hk_region fun K hK=>runs_eval tab_ok ?_
  simp only [evz,fl,gp,tab,simprocAttr,ll_length,ll_get hi]
  refine fin_run ?_ (hK _ ?_)<;>clear hK K
  ·omega
  refine qa (qm ?_)
  obtain ⟨hw1,hw2⟩:=hL (L.getD i []) (by rw [List.getD_eq_getElem?_getD,List.getElem?_eq_getElem hi]; exact List.getElem_mem hi)
  obtain ⟨w,hw⟩:∃ w,short (L.getD i [])=w:=⟨_,rfl⟩
  have hSi:S.getD i []=w:=by
   rw [← hS,← hw,List.getD_eq_getElem?_getD,List.getD_eq_getElem?_getD,List.getElem?_map,List.getElem?_eq_getElem hi]; rfl
  refine hk_region fun K hK=>runs_eval tab_ok ?_
  simp only [evz,fl,gp,tab,simprocAttr,hw]
  refine fin_stop trivial (runs_call (short_c (L.getD i []) hw1 (fun x hx=>(hw2 x hx).2)) rfl rfl rfl (by simp only [dstOk,Nat.reduceLT]) (by repeat (first|exact trivial|constructor)) (runs_eval tab_ok ?_))
  simp only [evz,fl,gp,tab,simprocAttr,hw]
  refine fin_run trivial (hK _ ?_)<;>clear hK K
  refine qa (qm ?_)
  refine hk_region fun K hK=>runs_eval tab_ok ?_
  simp only [evz,fl,gp,tab,simprocAttr]
  refine fin_run trivial (hK _ ?_)<;>clear hK K
  refine qa (qm ?_)
  refine hk_region fun K hK=>runs_eval tab_ok ?_
  simp only [evz,fl,gp,tab,simprocAttr,il_length]
  refine fin_run trivial (hK _ ?_)<;>clear hK K
  refine qa (ql ?_)
  have hwl:Lt26 w:=hw ▸ short_lt hw2
  have htk:S.take (i + 1)=S.take i++[w]:=by rw [take_snoc (d:=[]) (by omega),hSi]
  have hmem:w∈S:=by rw [← hSi,List.getD_eq_getElem?_getD,List.getElem?_eq_getElem (by omega)]; exact List.getElem_mem _
  have htt:tot (S.take i) + w.length≤10000000:=by
   have:=tot_tk S (i + 1)
   rw [htk,tot_sn] at this
   omega
  refine hk_loop (ι:=Nat × Nat × List Mp × List Int) (fun q=>⟨45,[(3,.ptr 0 0),(5,.p (.list (il w))),(6,.p (.int .i64 (q.2.1:Nat))),(14,.p (.list (ll L))),(15,.p (.int .i64 L.length)),(16,.p (.int .i64 (i:Nat))),(22,.p (.list (il w))),(23,.p (.int .i64 w.length)),(24,.p (.int .i64 (q.1:Nat)))],GB q.2.2.1 q.2.2.2⟩)
   (fun q=>q.1≤w.length∧q.2.2.1.length≤1 + tot (S.take i) + q.1∧(q.1 < w.length→FI S q.2.2.1 q.2.2.2 (S.take i) q.2.1 (w.take q.1))∧(q.1=w.length→FI S q.2.2.1 q.2.2.2 (S.take (i + 1)) 0 [])) (fun q=>w.length - q.1) (0,0,G,U) ⟨Nat.zero_le _,q3,fun _=>q2,fun e=>?_⟩ (List.range (GB G U).length) (le_same rfl rfl (fun b hb=>(List.all_eq_true.1 GB_all) b hb) ?_) fun q hq=>?_
  ·have:w=[]:=List.eq_nil_of_length_eq_zero e.symm
   rw [htk,this]
   exact q2.nil
  ·simp [St.get,lk,scA,sc1,GB_len]
  obtain ⟨j,v,G1,U1⟩:=q
  obtain ⟨j1,j2,j3,j4⟩:=hq
  simp only at j1 j2 j3 j4 ⊢
  refine qm ?_
  refine hk_region fun K hK=>runs_eval tab_ok ?_
  simp only [evz,fl,gp,tab,simprocAttr]
  refine fin_run trivial (hK _ ?_)<;>clear hK K
  refine qa (qm ?_)
  refine hk_cond rfl (fun hC2=>?_) (fun hC2=>?_)
  ·(try simp only [nhs] at hC2)
   have hj:j < w.length:=by omega
   have f1:=j3 hj
   obtain ⟨x,hx⟩:∃ x,w.getD j 0=x:=⟨_,rfl⟩
   have hx3:x ≠ 0∧-26≤x∧x≤26:=hwl x (by rw [← hx,List.getD_eq_getElem?_getD,List.getElem?_eq_getElem hj]; exact List.getElem_mem hj)
   have hws:w.take (j + 1)=w.take j++[x]:=by rw [take_snoc (d:=0) hj,hx]
   refine qh (qa (qm (ql (qm ?_))))
   refine hk_region fun K hK=>runs_eval tab_ok ?_
   simp only [evz,fl,gp,tab,simprocAttr,il_length,il_get hj,hx]
   refine fin_run ?_ (hK _ ?_)<;>clear hK K
   ·omega
   refine qa (qm ?_)
   refine hk_region fun K hK=>runs_eval tab_ok ?_
   simp only [evz,fl,gp,tab,simprocAttr]
   refine fin_run trivial (hK _ ?_)<;>clear hK K
   refine qa (qm (qm ?_))
   refine hk_region fun K hK=>runs_eval tab_ok ?_
   simp only [evz,fl,gp,tab,simprocAttr,il_length]
   refine fin_run ?_ (hK _ ?_)<;>clear hK K
   ·(first|exact trivial|omega|(simp only [In64] at *; omega)|(simp [In64] at *; omega)|(simp_all; done)|skip)
   refine qa ?_
   refine hk_cond rfl (fun hC3=>?_) (fun hC3=>?_)
   ·(try simp only [nhs] at hC3)
    refine hk_region fun K hK=>runs_eval tab_ok ?_
    simp only [evz,fl,gp,tab,simprocAttr]
    refine fin_stop ?_ (runs_place (G:=G1) (U:=U1) f1.wg.len (by omega) rfl rfl rfl rfl (by simp only [dstOk,Nat.reduceLT]) (runs_eval tab_ok ?_))
    ·exact trivial
    simp only [evz,fl,gp,tab,simprocAttr]
    refine fin_run trivial (hK _ ?_)<;>clear hK K
    refine qa (qm ?_)
    refine hk_le (s1:=⟨45,[(3,.ptr 0 0),(5,.p (.list (il w))),(6,.p (.int .i64 (v:Nat))),(8,.p (.int .i64 x)),(9,.p (.int .i64 (G1.length:Nat))),(14,.p (.list (ll L))),(15,.p (.int .i64 L.length)),(16,.p (.int .i64 (i:Nat))),(22,.p (.list (il w))),(23,.p (.int .i64 w.length)),(24,.p (.int .i64 (j:Nat)))],GB (G1++[nul]) (U1++[(U1.length:Int)])⟩) _ (le_PB f1.wg.len rfl rfl rfl ?_) ?_
    ·refine ⟨rfl,rfl,rfl,rfl,rfl,rfl,rfl,rfl,?_,rfl,rfl,rfl,rfl,rfl,rfl,rfl,rfl,rfl,rfl,rfl,rfl,rfl,trivial⟩
     show AV.p (.int .i64 (U1.length:Nat))=_
     rw [f1.wg.len]; rfl
    refine hk_regE 4 (runs_cut fun K hK=>?_)
    simp only [List.take_succ_cons,List.take_zero]
    refine runs_eval tab_ok ?_
    simp only [evz,fl,gp,tab,simprocAttr]
    refine fin_run trivial (hK _ ?_)<;>clear hK K
    have hgl:(G1++[nul]).length=G1.length + 1:=by simp
    have hvl:=f1.lt
    refine ⟨_,_,rfl,rfl,by simp only [dstOk,Nat.reduceLT],edge_E rfl rfl f1.wg.place (by omega) (a:=v) (b:=G1.length) (x:=x) (by omega) (by omega) hx3 (sym_add (sym_place f1.wg f1.sym) _ _ _) rfl rfl,fun av H' hO=>?_⟩
    obtain ⟨rfl,G2,U2,rfl,w2,nx⟩:=hO
    refine runs_cut fun K hK=>?_
    simp only [List.drop_succ_cons,List.drop_zero]
    refine runs_eval tab_ok ?_
    simp only [evz,fl,gp,tab,simprocAttr]
    refine fin_run trivial (hK _ ?_)<;>clear hK K
    refine qa ?_
    refine hk_region fun K hK=>runs_eval tab_ok ?_
    simp only [evz,fl,gp,tab,simprocAttr]
    refine fin_run trivial (hK _ ?_)<;>clear hK K
    refine qd (qa ?_)
    refine hk_region fun K hK=>runs_eval tab_ok ?_
    simp only [evz,fl,gp,tab,simprocAttr]
    refine fin_run ?_ (hK _ ?_)<;>clear hK K
    ·(first|exact trivial|omega|(simp only [In64] at *; omega)|(simp [In64] at *; omega)|(simp_all; done)|skip)
    refine qa ?_
    have hl2:=nx.len
    rw [hgl] at hl2
    refine ⟨(j + 1,G1.length,G2,U2),List.range (GB G2 U2).length,⟨by simp only; omega,by simp only; omega,fun _=>?_,fun h=>?_⟩,by simp only; omega,le_same rfl rfl (fun b hb=>(List.all_eq_true.1 GB_all) b hb) ?_⟩
    ·simp only
     rw [hws]; exact f1.put hx3.1 (r:=w.drop (j + 1)) (by rw [← hws,List.take_append_drop]; exact hmem) w2 nx
    ·simp only at h; omega
    simp [St.get,lk,scA,sc1,GB_len]
   (try simp only [nhs] at hC3)
   refine qh (qa (qm ?_))
   refine hk_regE 4 (runs_cut fun K hK=>?_)
   simp only [List.take_succ_cons,List.take_zero]
   refine runs_eval tab_ok ?_
   simp only [evz,fl,gp,tab,simprocAttr]
   refine fin_run trivial (hK _ ?_)<;>clear hK K
   have hvl:=f1.lt
   refine ⟨_,_,rfl,rfl,by simp only [dstOk,Nat.reduceLT],edge_E rfl rfl f1.wg (by omega) (a:=v) (b:=0) (x:=x) (by omega) (by omega) hx3 (sym_add f1.sym _ _ _) rfl rfl,fun av H' hO=>?_⟩
   obtain ⟨rfl,G2,U2,rfl,w2,nx⟩:=hO
   refine runs_cut fun K hK=>?_
   simp only [List.drop_succ_cons,List.drop_zero]
   refine runs_eval tab_ok ?_
   simp only [evz,fl,gp,tab,simprocAttr]
   refine fin_run trivial (hK _ ?_)<;>clear hK K
   refine qa ?_
   refine hk_region fun K hK=>runs_eval tab_ok ?_
   simp only [evz,fl,gp,tab,simprocAttr]
   refine fin_run trivial (hK _ ?_)<;>clear hK K
   refine qd (qa ?_)
   refine hk_region fun K hK=>runs_eval tab_ok ?_
   simp only [evz,fl,gp,tab,simprocAttr]
   refine fin_run ?_ (hK _ ?_)<;>clear hK K
   ·(first|exact trivial|omega|(simp only [In64] at *; omega)|(simp [In64] at *; omega)|(simp_all; done)|skip)
   refine qa ?_
   have hl2:=nx.len
   have hje:j + 1=w.length:=by omega
   have hwt:w.take j++[x]=w:=by rw [← hws,hje,List.take_length]
   refine ⟨(j + 1,0,G2,U2),List.range (GB G2 U2).length,⟨by simp only; omega,by simp only; omega,fun h=>?_,fun _=>?_⟩,by simp only; omega,le_same rfl rfl (fun b hb=>(List.all_eq_true.1 GB_all) b hb) ?_⟩
   ·simp only at h; omega
   ·have:=f1.back hx3.1 (by rw [hwt]; exact hmem) w2 nx
    rw [hwt] at this
    rw [htk]; exact this
   simp [St.get,lk,scA,sc1,GB_len]
  (try simp only [nhs] at hC2)
  refine qj (qc (qc (qf (qd (qa ?_)))))
  refine hk_region fun K hK=>runs_eval tab_ok ?_
  simp only [evz,fl,gp,tab,simprocAttr]
  refine fin_run ?_ (hK _ ?_)<;>clear hK K
  ·(first|exact trivial|omega|(simp only [In64] at *; omega)|(simp [In64] at *; omega)|(simp_all; done)|skip)
  refine qa ?_
  have hje:j=w.length:=by omega
  refine ⟨(i + 1,G1,U1),List.range (GB G1 U1).length,⟨by simp only; omega,j4 hje,?_⟩,by simp only; omega,le_same rfl rfl (fun b hb=>(List.all_eq_true.1 GB_all) b hb) ?_⟩
  ·simp only
   rw [htk,tot_sn]; omega
  simp [St.get,lk,scA,sc1,GB_len]
 (try simp only [nhs] at hC1)
 refine qj (qc (qc (qf (qa (qm ?_)))))
 refine hk_region fun K hK=>runs_eval tab_ok ?_
 simp only [evz,fl,gp,tab,simprocAttr]
 refine fin_run trivial (hK _ ?_)<;>clear hK K
 refine qa (qk ?_)
 simp only [Try.results48,PostG,endG,rvsA,rvA,mkTup,evz,fl,gp,tab,simprocAttr]
 have hie:i=L.length:=by omega
 have hSt:S.take i=S:=List.take_of_length_le (by omega)
 rw [hSt] at q2 q3
 refine ⟨.ptr 0 0,GB G U,by rw [hP]; exact ⟨rfl,G,U,rfl,by omega,q2⟩,List.range (GB G U).length,?_,?_,le_same rfl rfl (fun b hb=>(List.all_eq_true.1 GB_all) b hb) ?_⟩
 ·exact (ren_id (by simp [scA,sc1,GB_len])).symm
 ·simp [scA,sc1,GB_len]
 intro p hp; cases hp
end Go.Proofs.Ytneglephfhiamaa

namespace Go.Proofs.Ytneglephfhiamaa
open Go.Pv
def stp (G:List Mp) (U:List Int) (u:Nat) (x:Int):Option Nat:=(gm G u x).map fun d=>rV U d.toNat
section
variable {G:List Mp} {U:List Int}
end
end Go.Proofs.Ytneglephfhiamaa

namespace Go.Proofs.Ytneglephfhiamaa
open Go.Pv
def stR (G:List Mp) (U:List Int) (u:Nat) (x:Int):Option Nat:=if u < G.length∧rV U u=u then stp G U u x else none
def InvS {X:Type} (step:X→Int→Option X):Prop:=∀ c d x,x ≠ 0→step c x=some d→step d (-x)=some c
def Mem (S:List (List Int)) (w:List Int):Prop:=∀ (X:Type) (step:X→Int→Option X) (x0:X),InvS step→(∀ u∈S,runW step x0 u=some x0)→runW step x0 w=some x0
section
variable {G:List Mp} {U:List Int}
theorem stp_root (w:WG G U) {u d:Nat} {x:Int} (hu:u < G.length) (h:stp G U u x=some d):d < G.length∧rV U d=d:=by
 unfold stp at h
 cases e:gm G u x with
 | none=>rw [e] at h; cases h
 | some c =>
  rw [e] at h
  obtain rfl:=Option.some.inj h
  have hc:=(w.ent u x c hu e).2.1
  exact ⟨w.rlt hc,w.idem hc⟩
theorem stR_of {u:Nat} (h:u < G.length∧rV U u=u) (x:Int):stR G U u x=stp G U u x:=if_pos h
theorem stp_ed (w:WG G U) {u d:Nat} {x:Int} (h:u < G.length∧rV U u=u) (hd:rV U d=d):stp G U u x=some d↔Ed G U u x d:=by
 unfold stp Ed
 rw [h.2,hd]
 constructor
 ·intro e
  cases e2:gm G u x with
  | none=>rw [e2] at e; cases e
  | some c=>rw [e2] at e; exact ⟨c,rfl,Option.some.inj e⟩
 rintro ⟨c,a,b⟩
 rw [a]; exact congrArg some b
theorem stR_inv (w:WG G U) (hs:SymW G U []):InvS (stR G U):=fun c d x hx h=>by
 unfold stR at h
 split at h
 ·rename_i hc
  have hd:=stp_root w hc.1 h
  have he:=(stp_ed w hc hd.2).1 h
  rw [stR_of hd]
  exact (stp_ed w hd hc.2).2 (pe_nil.1 (hs _ _ _ hc.1 hd.1 (pe_nil.2 he)))
 cases h
theorem pth_run (w:WG G U):∀ (l:List Int) (u v:Nat),u < G.length→v < G.length→Pth G U u l v→runW (stR G U) (rV U u) l=some (rV U v)
 | [],u,v,hu,hv,h=>congrArg some h
 | x :: l,u,v,hu,hv,⟨m,hm,he,hp⟩=>by
  unfold runW
  have hr:rV U u < G.length∧rV U (rV U u)=rV U u:=⟨w.rlt hu,w.idem hu⟩
  have h1:stR G U (rV U u) x=some (rV U m):=by
   rw [stR_of hr]
   exact (stp_ed w hr (w.idem hm)).2 (he.mv hr.2.symm (w.idem hm).symm)
  rw [h1]
  exact pth_run w l m v hm hv hp
end
end Go.Proofs.Ytneglephfhiamaa

namespace Go.Proofs.Ytneglephfhiamaa
open Go.Pv
def Re (e:List E3) (u:Nat) (x:Int) (v:Nat):Prop:=(0 < x∧(u,x,v)∈e)∨(x < 0∧(v,-x,u)∈e)
theorem Re.rev {e:List E3} {u v:Nat} {x:Int} (h:Re e u x v):Re e v (-x) u:=by
 rcases h with ⟨h1,h2⟩ | ⟨h1,h2⟩
 ·exact .inr ⟨by omega,by rw [Int.neg_neg]; exact h2⟩
 exact .inl ⟨by omega,h2⟩
def PthE (e:List E3):Nat→List Int→Nat→Prop
 | u,[],v=>u=v
 | u,x :: w,v=>∃ m,Re e u x m∧PthE e m w v
def rho (a b:Nat) (u:Nat):Nat:=if u=b then a else u
def rhoE (a b:Nat) (t:E3):E3:=(rho a b t.1,t.2.1,rho a b t.2.2)
theorem Re.map {e f:List E3} {a b:Nat} (h:∀ t∈e,rhoE a b t∈f) {u v:Nat} {x:Int} (hr:Re e u x v):Re f (rho a b u) x (rho a b v):=by
 rcases hr with ⟨h1,h2⟩ | ⟨h1,h2⟩
 ·exact .inl ⟨h1,h _ h2⟩
 exact .inr ⟨h1,h _ h2⟩
theorem PthE.map {e f:List E3} {a b:Nat} (h:∀ t∈e,rhoE a b t∈f):∀ {w:List Int} {u v:Nat},PthE e u w v→PthE f (rho a b u) w (rho a b v)
 | [],_,_,hp=>congrArg _ hp
 | x :: w,_,_,⟨m,h1,h2⟩=>⟨rho a b m,h1.map h,PthE.map h h2⟩
theorem PthE.mono {e f:List E3} (h:∀ t∈e,t∈f):∀ {w:List Int} {u v:Nat},PthE e u w v→PthE f u w v
 | [],_,_,hp=>hp
 | x :: w,_,_,⟨m,h1,h2⟩=>⟨m,h1.imp (fun ⟨p,q⟩=>⟨p,h _ q⟩) (fun ⟨p,q⟩=>⟨p,h _ q⟩),PthE.mono h h2⟩
def CmpE {X:Type} (step:X→Int→Option X) (κ:Nat→X) (e:List E3):Prop:=∀ t∈e,step (κ t.1) t.2.1=some (κ t.2.2)
def UniE (S:List (List Int)) (e:List E3):Prop:=∀ (X:Type) (step:X→Int→Option X) (x0:X),InvS step→(∀ w∈S,runW step x0 w=some x0)→∃ κ:Nat→X,κ 0=x0∧CmpE step κ e
def Clash (e:List E3) (a b:Nat):Prop:=∃ s∈e,∃ t∈e,s.2.1=t.2.1∧((s.1=t.1∧s.2.2=a∧t.2.2=b)∨(s.2.2=t.2.2∧s.1=a∧t.1=b))
theorem cmpE_clash {X:Type} {step:X→Int→Option X} {κ:Nat→X} {e:List E3} {a b:Nat} (hi:InvS step) (hp:∀ t∈e,0 < t.2.1) (h:CmpE step κ e) (hc:Clash e a b):κ a=κ b:=by
 obtain ⟨s,hs,t,ht,hx,⟨h1,rfl,rfl⟩ | ⟨h1,rfl,rfl⟩⟩:=hc
 ·have e1:=h s hs
  have e2:=h t ht
  rw [h1,hx,e2] at e1
  exact (Option.some.inj e1).symm
 have hxs:=hp s hs
 have hxt:=hp t ht
 have e1:=hi _ _ _ (by omega) (h s hs)
 have e2:=hi _ _ _ (by omega) (h t ht)
 rw [h1,hx,e2] at e1
 exact (Option.some.inj e1).symm
theorem UniE.join {S:List (List Int)} {e f:List E3} {a b:Nat} (h:UniE S e) (hp:∀ t∈e,0 < t.2.1) (hc:Clash e a b∨Clash e b a) (hb:b ≠ 0) (hf:∀ t∈f,∃ s∈e,rhoE a b s=t):UniE S f:=fun X step x0 hi hcl=>by
 obtain ⟨κ,k1,k2⟩:=h X step x0 hi hcl
 have hk:κ a=κ b:=by
  rcases hc with hc | hc
  ·exact cmpE_clash hi hp k2 hc
  exact (cmpE_clash hi hp k2 hc).symm
 have hr:∀ u,κ (rho a b u)=κ u:=fun u=>by
  unfold rho
  split
  ·rename_i e; rw [e,hk]
  rfl
 refine ⟨κ,k1,fun t ht=>?_⟩
 obtain ⟨s,hs,rfl⟩:=hf t ht
 show step (κ (rho a b s.1)) s.2.1=some (κ (rho a b s.2.2))
 rw [hr,hr]
 exact k2 s hs
structure FE (S:List (List Int)) (e:List E3):Prop where
 pos:∀ t∈e,0 < t.2.1
 cl:∀ w∈S,PthE e 0 w 0
 uni:UniE S e
theorem FE.join {S:List (List Int)} {e f:List E3} {a b:Nat} (h:FE S e) (hc:Clash e a b∨Clash e b a) (hb:b ≠ 0) (hf:∀ t∈f,∃ s∈e,rhoE a b s=t) (hf2:∀ t∈e,rhoE a b t∈f):FE S f:=by
 refine ⟨fun t ht=>?_,fun w hw=>?_,h.uni.join h.pos hc hb hf⟩
 ·obtain ⟨s,hs,rfl⟩:=hf t ht
  exact h.pos s hs
 have:=(h.cl w hw).map hf2
 have h0:rho a b 0=0:=if_neg (fun e=>hb e.symm)
 rwa [h0] at this
def Det (e:List E3):Prop:=∀ u x v v',Re e u x v→Re e u x v'→v=v'
theorem det_of {e:List E3} (h:∀ a b,Clash e a b→a=b):Det e:=fun u x v v' h1 h2=>by
 rcases h1 with ⟨p1,q1⟩ | ⟨p1,q1⟩<;>rcases h2 with ⟨p2,q2⟩ | ⟨p2,q2⟩
 ·exact h v v' ⟨_,q1,_,q2,rfl,.inl ⟨rfl,rfl,rfl⟩⟩
 ·omega
 ·omega
 exact h v v' ⟨_,q1,_,q2,rfl,.inr ⟨rfl,rfl,rfl⟩⟩
open Classical in
noncomputable def stE (e:List E3) (u:Nat) (x:Int):Option Nat:=if h:∃ v,Re e u x v then some h.choose else none
theorem stE_iff {e:List E3} (hd:Det e) {u v:Nat} {x:Int} : stE e u x=some v↔Re e u x v:=by
 unfold stE
 constructor
 ·intro h
  split at h
  ·rename_i hx
   obtain rfl:=Option.some.inj h
   exact hx.choose_spec
  cases h
 intro h
 have hx:∃ v,Re e u x v:=⟨v,h⟩
 rw [dif_pos hx]
 exact congrArg some (hd _ _ _ _ hx.choose_spec h)
theorem stE_inv {e:List E3} (hd:Det e):InvS (stE e):=fun c d x _ h=>(stE_iff hd).2 ((stE_iff hd).1 h).rev
theorem runE {e:List E3} (hd:Det e):∀ (w:List Int) (u v:Nat),runW (stE e) u w=some v↔PthE e u w v
 | [],u,v=>⟨fun h=>Option.some.inj h,fun h=>congrArg some h⟩
 | x :: w,u,v=>by
  unfold runW PthE
  constructor
  ·intro h
   cases e1:stE e u x with
   | none=>rw [e1] at h; cases h
   | some m=>rw [e1] at h; exact ⟨m,(stE_iff hd).1 e1,(runE hd w m v).1 h⟩
  rintro ⟨m,h1,h2⟩
  rw [(stE_iff hd).2 h1]
  exact (runE hd w m v).2 h2
theorem pthE_cmp {X:Type} {step:X→Int→Option X} {κ:Nat→X} {e:List E3} (hi:InvS step) (h:CmpE step κ e):∀ (w:List Int) (u v:Nat),PthE e u w v→runW step (κ u) w=some (κ v)
 | [],u,v,hp=>congrArg (fun z=>some (κ z)) hp
 | x :: w,u,v,⟨m,h1,h2⟩=>by
  unfold runW
  have hs:step (κ u) x=some (κ m):=by
   rcases h1 with ⟨_,h1⟩ | ⟨h0,h1⟩
   ·exact h _ h1
   have:=hi _ _ _ (by simp only; omega) (h _ h1)
   simpa using this
  rw [hs]
  exact pthE_cmp hi h w m v h2
theorem fe_mem {S:List (List Int)} {e:List E3} (h:FE S e) (hd:Det e) (l:List Int):PthE e 0 l 0↔Mem S l:=by
 constructor
 ·intro hp X step x0 hi hc
  obtain ⟨κ,k1,k2⟩:=h.uni X step x0 hi hc
  have:=pthE_cmp hi k2 l 0 0 hp
  rwa [k1] at this
 intro hm
 exact (runE hd l 0 0).1 (hm Nat (stE e) 0 (stE_inv hd) fun w hw=>(runE hd w 0 0).2 (h.cl w hw))
end Go.Proofs.Ytneglephfhiamaa

namespace Go.Proofs.Ytneglephfhiamaa
open Go.Pv
section
variable {G:List Mp} {U:List Int}
theorem stR_root (w:WG G U) {u d:Nat} {x:Int} (h:stR G U u x=some d):(u < G.length∧rV U u=u)∧d < G.length∧rV U d=d:=by
 unfold stR at h
 split at h
 ·rename_i hu
  exact ⟨hu,stp_root w hu.1 h⟩
 cases h
end
end Go.Proofs.Ytneglephfhiamaa

namespace Go.Proofs.Ytneglephfhiamaa
open Go.Pv
abbrev Wy:=Int→Option (List Int)
def updW (f:Wy) (z:Int) (l:List Int):Wy:=fun u=>if u=z then some l else f u
structure BI (G:List Mp) (U:List Int) (lst:List Nat) (f:Wy):Prop where
 nd:lst.Nodup
 rt:∀ u∈lst,u < G.length∧rV U u=u
 hd:lst.head? = some 0
 dom:∀ z:Int,(f z).isSome=true↔∃ u∈lst,(u:Int)=z
 zero:f 0=some []
 tree:∀ j,j < lst.length→0 < j→∃ i x l,i < j∧f (lst.getD i 0:Nat)=some l∧f (lst.getD j 0:Nat)=some (l++[x])∧Ed G U (lst.getD i 0) x (lst.getD j 0)
 len:∀ z l,f z=some l→l.length < lst.length
section
variable {G:List Mp} {U:List Int}
theorem bi_zero (hz:rV U 0=0) (hp:0 < G.length):BI G U [0] (updW (fun _=>none) 0 []):=by
 refine ⟨by simp,fun u hu=>?_,rfl,fun z=>?_,rfl,fun j h1 h2=>?_,fun z l h=>?_⟩
 ·rw [List.mem_singleton] at hu; subst hu; exact ⟨hp,hz⟩
 ·unfold updW
  by_cases e:z=0
  ·subst e; simp
  rw [if_neg e]
  simp only [Option.isSome_none,Bool.false_eq_true,List.mem_singleton,exists_eq_left,false_iff]
  intro h; exact e (by rw [← h]; rfl)
 ·simp only [List.length_singleton] at h1; omega
 unfold updW at h
 split at h
 ·obtain rfl:=Option.some.inj h; simp
 cases h
theorem BI.snoc {lst : List Nat} {f : Wy} (h : BI G U lst f) {i u : Nat} {x : Int} {l : List Int} (hi : i < lst.length) (hl : f (lst.getD i 0 : Nat) = some l) (hu : u < G.length) (hr : rV U u = u) (he : Ed G U (lst.getD i 0) x u) (hn : f (u : Int) = none) :
    BI G U (lst ++ [u]) (updW f u (l ++ [x])) := by
  have hnm : u ∉ lst := fun hm => by
    have := (h.dom u).2 ⟨u, hm, rfl⟩
    rw [hn] at this; cases this
  have old : ∀ v ∈ lst, updW f u (l ++ [x]) (v : Nat) = f v := fun v hv => by
    unfold updW
    rw [if_neg fun e => hnm (by have : v = u := by omega
                                rw [← this]; exact hv)]
  have gl : ∀ j, j < lst.length → (lst ++ [u]).getD j 0 = lst.getD j 0 ∧ lst.getD j 0 ∈ lst := fun j hj => by
    rw [List.getD_eq_getElem?_getD, List.getElem?_append_left hj, ← List.getD_eq_getElem?_getD]
    refine ⟨rfl, ?_⟩
    rw [List.getD_eq_getElem?_getD, List.getElem?_eq_getElem hj]; exact List.getElem_mem hj
  refine ⟨?_, fun v hv => ?_, ?_, fun z => ?_, ?_, fun j h1 h2 => ?_, fun z l' hz => ?_⟩
  · rw [List.nodup_append]
    exact ⟨h.nd, by simp, fun a ha b hb => by rw [List.mem_singleton] at hb; subst hb; exact fun e => hnm (e ▸ ha)⟩
  · rcases List.mem_append.1 hv with hv | hv
    · exact h.rt v hv
    · rw [List.mem_singleton] at hv; subst hv; exact ⟨hu, hr⟩
  · have := h.hd
    cases lst with
    | nil => cases this
    | cons a r => exact this
  · unfold updW
    by_cases e : z = (u : Int)
    · rw [if_pos e]
      simp only [Option.isSome_some, List.mem_append, List.mem_singleton, true_iff]
      exact ⟨u, .inr rfl, e.symm⟩
    · rw [if_neg e, h.dom z]
      constructor
      · rintro ⟨v, hv, hz⟩; exact ⟨v, List.mem_append_left _ hv, hz⟩
      · rintro ⟨v, hv, hz⟩
        rcases List.mem_append.1 hv with hv | hv
        · exact ⟨v, hv, hz⟩
        · rw [List.mem_singleton] at hv; subst hv; exact absurd hz.symm e
  · have h0 : (0 : Nat) ∈ lst := by
      have := h.hd
      cases lst with
      | nil => cases this
      | cons a r => obtain rfl := Option.some.inj this; simp
    have := old 0 h0
    rw [show ((0 : Nat) : Int) = 0 from rfl] at this
    rw [this]; exact h.zero
  · rw [List.length_append, List.length_singleton] at h1
    by_cases hj : j < lst.length
    · obtain ⟨i', x', l', a1, a2, a3, a4⟩ := h.tree j hj h2
      obtain ⟨b1, b2⟩ := gl j hj
      obtain ⟨c1, c2⟩ := gl i' (by omega)
      refine ⟨i', x', l', a1, ?_, ?_, ?_⟩
      · rw [c1, old _ c2]; exact a2
      · rw [b1, old _ b2]; exact a3
      · rw [b1, c1]; exact a4
    · obtain rfl : j = lst.length := by omega
      obtain ⟨c1, c2⟩ := gl i hi
      have e : (lst ++ [u]).getD lst.length 0 = u := by simp
      refine ⟨i, x, l, hi, ?_, ?_, ?_⟩
      · rw [c1, old _ c2]; exact hl
      · rw [e]; unfold updW; rw [if_pos rfl]
      · rw [e, c1]; exact he
  · rw [List.length_append, List.length_singleton]
    unfold updW at hz
    split at hz
    · obtain rfl := Option.some.inj hz
      have := h.len _ _ hl
      rw [List.length_append, List.length_singleton]; omega
    · have := h.len _ _ hz; omega
theorem BI.up {U' : List Int} {lst:List Nat} {f:Wy} (h:BI G U lst f) (w:WG G U) (hr:∀ u,u < G.length→rV U' u=rV U u):BI G U' lst f:=by
 refine ⟨h.nd,fun u hu=>⟨(h.rt u hu).1,by rw [hr u (h.rt u hu).1]; exact (h.rt u hu).2⟩,h.hd,h.dom,h.zero,fun j h1 h2=>?_,h.len⟩
 obtain ⟨i,x,l,a1,a2,a3,a4⟩:=h.tree j h1 h2
 have m1:lst.getD i 0∈lst:=by rw [List.getD_eq_getElem?_getD,List.getElem?_eq_getElem (by omega)]; exact List.getElem_mem _
 have m2:lst.getD j 0∈lst:=by rw [List.getD_eq_getElem?_getD,List.getElem?_eq_getElem h1]; exact List.getElem_mem _
 exact ⟨i,x,l,a1,a2,a3,(Ed.rv w hr (h.rt _ m1).1 (h.rt _ m2).1).2 a4⟩
theorem BI.full {lst:List Nat} {f:Wy} (h:BI G U lst f) (w:WG G U) (hcl:∀ u∈lst,∀ x v,v < G.length→rV U v=v→Ed G U u x v→v∈lst) (hcon:∀ u,u < G.length→∃ l,Pth G U 0 l u):∀ u,u < G.length→rV U u=u→u∈lst:=by
 have h0:(0:Nat)∈lst:=by
  have:=h.hd
  cases lst with
  | nil=>cases this
  | cons a r=>obtain rfl:=Option.some.inj this; simp
 have go:∀ (l:List Int) (v u:Nat),v∈lst→u < G.length→rV U u=u→Pth G U v l u→u∈lst:=by
  intro l
  induction l with
  | nil =>
   intro v u hv hu hr hp
   have e:v=u:=by
    have h1:rV U v=rV U u:=hp
    rw [(h.rt v hv).2,hr] at h1; exact h1
   exact e ▸ hv
  | cons x l ih =>
   rintro v u hv hu hr ⟨m,hm,he,hp⟩
   have hm2:=w.rlt hm
   have hmr:=w.idem hm
   refine ih (rV U m) u (hcl v hv x (rV U m) hm2 hmr (he.mv rfl hmr.symm)) hu hr (hp.mv hmr.symm rfl)
 intro u hu hr
 obtain ⟨l,hl⟩:=hcon u hu
 exact go l 0 u h0 hu hr hl
end
end Go.Proofs.Ytneglephfhiamaa

namespace Go.Proofs.Ytneglephfhiamaa
open Go.Pv
theorem nd_le {α:Type} [DecidableEq α]:∀ {a b:List α},a.Nodup→(∀ x∈a,x∈b)→a.length≤b.length
 | [],b,_,_=>Nat.zero_le _
 | x :: a,b,hn,h=>by
  have hx:=h x List.mem_cons_self
  have hn2:=List.nodup_cons.1 hn
  have:=nd_le (a:=a) (b:=b.erase x) hn2.2 fun y hy=>(List.mem_erase_of_ne (fun e:y=x=>hn2.1 (by rw [← e]; exact hy))).2 (h y (List.mem_cons_of_mem _ hy))
  rw [List.length_erase_of_mem hx] at this
  have h2:=List.length_pos_of_mem hx
  simp only [List.length_cons]; omega
theorem nd_eq {α:Type} [DecidableEq α] {a b:List α} (ha:a.Nodup) (hb:b.Nodup) (h:∀ x,x∈a↔x∈b):a.length=b.length:=
 Nat.le_antisymm (nd_le ha fun x=>(h x).1) (nd_le hb fun x=>(h x).2)
theorem nodup_mapF {α β:Type} {f:α→β} : ∀ {l:List α},l.Nodup→(∀ x∈l,∀ y∈l,f x=f y→x=y)→(l.map f).Nodup
 | [],_,_=>List.nodup_nil
 | x :: l,hn,h=>by
  have hn2:=List.nodup_cons.1 hn
  rw [List.map_cons,List.nodup_cons]
  refine ⟨fun hm=>?_,nodup_mapF hn2.2 fun a ha b hb=>h a (by simp [ha]) b (by simp [hb])⟩
  obtain ⟨y,hy,e⟩:=List.mem_map.1 hm
  have:=h y (by simp [hy]) x (by simp) e
  exact hn2.1 (this ▸ hy)
theorem nodup_flat {α β:Type} {g:α→List β} : ∀ {l:List α},l.Nodup→(∀ x∈l,(g x).Nodup)→(∀ x∈l,∀ y∈l,∀ z,z∈g x→z∈g y→x=y)→(l.flatMap g).Nodup
 | [],_,_,_=>List.nodup_nil
 | x :: l,hn,h,hd=>by
  have hn2:=List.nodup_cons.1 hn
  rw [List.flatMap_cons,List.nodup_append]
  refine ⟨h x (by simp),nodup_flat hn2.2 (fun y hy=>h y (by simp [hy])) fun a ha b hb=>hd a (by simp [ha]) b (by simp [hb]),fun a ha b hb e=>?_⟩
  subst e
  obtain ⟨y,hy,hb⟩:=List.mem_flatMap.1 hb
  have:=hd x (by simp) y (by simp [hy]) a ha hb
  exact hn2.1 (this ▸ hy)
def bls:Nat→List (List Bool)
 | 0=>[[]]
 | n + 1=>(bls n).map (false :: ·)++(bls n).map (true :: ·)
theorem bls_len:∀ n,(bls n).length=2 ^ n
 | 0=>rfl
 | n + 1=>by simp only [bls,List.length_append,List.length_map,bls_len n]; omega
theorem bls_nd:∀ n,(bls n).Nodup
 | 0=>by simp [bls]
 | n + 1=>by
  rw [bls,List.nodup_append]
  refine ⟨nodup_mapF (bls_nd n) fun x _ y _ e=>by injection e,nodup_mapF (bls_nd n) fun x _ y _ e=>by injection e,fun a ha b hb e=>?_⟩
  obtain ⟨x,_,rfl⟩:=List.mem_map.1 ha
  obtain ⟨y,_,rfl⟩:=List.mem_map.1 hb
  injection e with e _
  cases e
theorem mem_bls:∀ (n:Nat) (p:List Bool),p∈bls n↔p.length=n
 | 0,p=>by simp [bls]
 | n + 1,[]=>by simp [bls]
 | n + 1,b :: p=>by
  simp only [bls,List.mem_append,List.mem_map,List.length_cons,Nat.add_right_cancel_iff]
  rw [← mem_bls n p]
  constructor
  ·rintro (⟨q,hq,e⟩ | ⟨q,hq,e⟩)<;>· injection e with _ e; exact e ▸ hq
  intro h
  cases b
  ·exact .inl ⟨p,h,rfl⟩
  exact .inr ⟨p,h,rfl⟩
theorem php {r m:Nat} (F:List Bool→List Bool) (hF:∀ p,(F p).length=m) (hi:∀ p q:List Bool,p.length=r→q.length=r→F p=F q→p=q):r≤m:=by
 have h1:((bls r).map F).Nodup:=nodup_mapF (bls_nd r) fun x hx y hy e=>hi x y ((mem_bls r x).1 hx) ((mem_bls r y).1 hy) e
 have h2:=nd_le h1 (b:=bls m) fun x hx=>by
  obtain ⟨p,_,rfl⟩:=List.mem_map.1 hx
  exact (mem_bls m _).2 (hF p)
 rw [List.length_map,bls_len,bls_len] at h2
 exact (Nat.pow_le_pow_iff_right (by decide)).1 h2
section
variable {X:Type} {step:X→Int→Option X}
def Nz (w:List Int):Prop:=∀ x∈w,x ≠ 0
theorem Nz.app {v w:List Int} (hv:Nz v) (hw:Nz w):Nz (v++w):=fun x hx=>(List.mem_append.1 hx).elim (hv x) (hw x)
theorem Nz.back {w:List Int} (h:Nz w):Nz (back w):=fun x hx=>by
 unfold Go.Proofs.Ytneglephfhiamaa.back at hx
 obtain ⟨y,hy,rfl⟩:=List.mem_map.1 hx
 have:=h y (by simpa using hy)
 omega
theorem Nz.short {w:List Int} (h:Nz w):Nz (short w):=fun x hx=>h x (short_sub w x hx)
theorem Ok.nz {w:List Int} (h:Ok w):Nz w:=fun x hx=>(h x hx).1
theorem run_back (hi:InvS step):∀ {w:List Int} {c d:X},Nz w→runW step c w=some d→runW step d (back w)=some c
 | [],c,d,_,h=>by obtain rfl:=Option.some.inj h; rfl
 | x :: w,c,d,hz,h=>by
  unfold runW at h
  cases e:step c x with
  | none=>rw [e] at h; cases h
  | some m =>
   rw [e] at h
   have:=run_back hi (w:=w) (fun y hy=>hz y (by simp [hy])) h
   rw [back_cons,runW_app,this]
   show runW step m [-x]=some c
   unfold runW
   rw [hi c m x (hz x (by simp)) e]; rfl
theorem run_push (hi:InvS step) {o:List Int} {x:Int} {c d:X} (hz:Nz o) (h:runW step c (o++[x])=some d):runW step c (push o x)=some d:=by
 unfold push
 split
 ·rename_i hc
  obtain ⟨h1,h2⟩:=hc
  have e:=take_last h1
  rw [h2] at e
  rw [← e,List.append_assoc,runW_app] at h
  cases e1:runW step c (o.take (o.length - 1)) with
  | none=>rw [e1] at h; cases h
  | some m =>
   rw [e1] at h
   have h:runW step m [-x,x]=some d:=h
   unfold runW at h
   have hx : -x ≠ 0:=by
    rw [← h2,List.getD_eq_getElem?_getD,List.getElem?_eq_getElem (by omega)]; exact hz _ (List.getElem_mem _)
   cases e2:step m (-x) with
   | none=>rw [e2] at h; cases h
   | some k =>
    rw [e2] at h
    have h3:=hi m k (-x) hx e2
    rw [Int.neg_neg] at h3
    simp only [runW,h3] at h
    exact h
 exact h
theorem run_short (hi:InvS step) {w:List Int} {c d:X} (hz:Nz w) (h:runW step c w=some d):runW step c (short w)=some d:=by
 have go:∀ (w o:List Int),Nz o→Nz w→runW step c (o++w)=some d→runW step c (w.foldl push o)=some d:=by
  intro w
  induction w with
  | nil=>intro o _ _ h; rw [List.append_nil] at h; exact h
  | cons x r ih =>
   intro o ho hw h
   have hp:Nz (push o x):=fun y hy=>by
    unfold push at hy
    split at hy
    ·exact ho y (List.mem_of_mem_take hy)
    rcases List.mem_append.1 hy with hy | hy
    ·exact ho y hy
    rw [List.mem_singleton] at hy; subst hy; exact hw _ (by simp)
   refine ih _ hp (fun y hy=>hw y (by simp [hy])) ?_
   have e:o++x :: r=o++[x]++r:=by simp
   rw [e,runW_app] at h
   cases e1:runW step c (o++[x]) with
   | none=>rw [e1] at h; cases h
   | some m =>
    rw [e1] at h
    rw [runW_app,run_push hi ho e1]; exact h
 exact go w [] (fun x hx=>by simp at hx) hz (by simpa using h)
end
theorem short_undo {a b:List Int} (h:short (a++back b)=[]):short a=short b:=by
 have h1:short (short (a++back b)++b)=short (a++(back b++b)):=by rw [short_left,List.append_assoc]
 rw [h,List.nil_append,← short_right a,short_inv',List.append_nil] at h1
 exact h1.symm
theorem short_same {a b:List Int} (h:short a=short b):short (a++back b)=[]:=by
 rw [← short_left,h,short_left,short_inv]
end Go.Proofs.Ytneglephfhiamaa

namespace Go.Proofs.Ytneglephfhiamaa
open Go.Pv
structure GT (step:Nat→Int→Option Nat) (lst:List Nat) (f:Wy):Prop where
 inv:InvS step
 nd:lst.Nodup
 hd:lst.head? = some 0
 dom:∀ z:Int,(f z).isSome=true↔∃ u∈lst,(u:Int)=z
 zero:f 0=some []
 tree:∀ j,j < lst.length→0 < j→∃ i x l,i < j∧f (lst.getD i 0:Nat)=some l∧f (lst.getD j 0:Nat)=some (l++[x])∧step (lst.getD i 0) x=some (lst.getD j 0)
 cl:∀ u∈lst,∀ x v,step u x=some v→v∈lst
 lt:∀ u∈lst,∀ x v,step u x=some v→x ≠ 0∧-26≤x∧x≤26
def wy (f:Wy) (u:Nat):List Int:=(f u).getD []
theorem nd_ix {l:List Nat} (h:l.Nodup) {i j:Nat} (hi:i < l.length) (hj:j < l.length) (e:l.getD i 0=l.getD j 0):i=j:=by
 rw [List.getD_eq_getElem?_getD,List.getD_eq_getElem?_getD,List.getElem?_eq_getElem hi,List.getElem?_eq_getElem hj] at e
 exact (List.getElem_inj h).1 e
theorem ix_of {l:List Nat} {u:Nat} (h:u∈l):∃ i,i < l.length∧l.getD i 0=u:=by
 obtain ⟨i,hi,e⟩:=List.getElem_of_mem h
 exact ⟨i,hi,by rw [List.getD_eq_getElem?_getD,List.getElem?_eq_getElem hi]; exact e⟩
theorem mem_ix {l:List Nat} {i:Nat} (h:i < l.length):l.getD i 0∈l:=by
 rw [List.getD_eq_getElem?_getD,List.getElem?_eq_getElem h]; exact List.getElem_mem h
section
variable {step:Nat→Int→Option Nat} {lst:List Nat} {f:Wy}
theorem GT.mem0 (g:GT step lst f):0∈lst:=List.mem_of_mem_head? (by rw [g.hd]; rfl)
theorem GT.ix0 (g:GT step lst f):0 < lst.length∧lst.getD 0 0=0:=by
 have:=g.hd
 cases hl:lst with
 | nil=>rw [hl] at this; cases this
 | cons a r=>rw [hl] at this; obtain rfl:=Option.some.inj this; exact ⟨by simp,rfl⟩
theorem GT.nz {u v:Nat} {x:Int} (g:GT step lst f) (hu:u∈lst) (h:step u x=some v):x ≠ 0:=(g.lt u hu x v h).1
theorem GT.ind (g:GT step lst f) {P:Nat→List Int→Prop} (h0:P 0 []) (hs:∀ u v x,u∈lst→v∈lst→step u x=some v→wy f v=wy f u++[x]→P u (wy f u)→P v (wy f u++[x])):∀ u∈lst,P u (wy f u):=by
 have go:∀ n j,j≤n→j < lst.length→P (lst.getD j 0) (wy f (lst.getD j 0)):=by
  intro n
  induction n with
  | zero =>
   intro j hj hl
   obtain rfl:j=0:=by omega
   rw [g.ix0.2]
   have:wy f 0=[]:=by unfold wy; rw [show ((0:Nat):Int)=0 from rfl,g.zero]; rfl
   rw [this]; exact h0
  | succ n ih =>
   intro j hj hl
   by_cases h:j=0
   ·exact ih j (by omega) hl
   obtain ⟨i,x,l,a1,a2,a3,a4⟩:=g.tree j hl (by omega)
   have e1:wy f (lst.getD i 0)=l:=by unfold wy; rw [a2]; rfl
   have e2:wy f (lst.getD j 0)=l++[x]:=by unfold wy; rw [a3]; rfl
   rw [e2,← e1]
   exact hs _ _ x (mem_ix (by omega)) (mem_ix hl) a4 (by rw [e1,e2]) (ih i (by omega) (by omega))
 intro u hu
 obtain ⟨i,hi,rfl⟩:=ix_of hu
 exact go i i (Nat.le_refl _) hi
theorem GT.wy0 (g:GT step lst f):wy f 0=[]:=by unfold wy; rw [show ((0:Nat):Int)=0 from rfl,g.zero]; rfl
theorem GT.run (g:GT step lst f):∀ u∈lst,runW step 0 (wy f u)=some u:=
 g.ind (P:=fun u l=>runW step 0 l=some u) rfl fun u v x hu hv hs _ ih=>by
  rw [runW_app,ih]
  show runW step u [x]=some v
  unfold runW; rw [hs]; rfl
theorem GT.ok (g:GT step lst f):∀ u∈lst,Ok (wy f u):=
 g.ind (P:=fun _ l=>Ok l) (fun x hx=>by simp at hx) fun u v x hu hv hs _ ih=>ih.app fun y hy=>by
  rw [List.mem_singleton] at hy; subst hy; exact g.lt u hu _ _ hs
theorem GT.inj (g:GT step lst f) {u v:Nat} (hu:u∈lst) (hv:v∈lst) (h:wy f u=wy f v):u=v:=by
 have h1:=g.run u hu
 rw [h,g.run v hv] at h1
 exact (Option.some.inj h1).symm
theorem red_snoc2 {l:List Int} {y x:Int} (h:Red (l++[y])) (hn:y ≠ -x):Red (l++[y]++[x]):=fun i hi=>by
 simp only [List.length_append,List.length_singleton] at hi
 by_cases e:i + 1 < (l++[y]).length
 ·rw [getD_app1 (by omega),getD_app1 e]; exact h i e
 simp only [List.length_append,List.length_singleton] at e
 obtain rfl:i=l.length:=by omega
 rw [getD_app1 (by simp),getD_app2 (by simp),getD_app2 (by simp)]
 simpa using hn
theorem red_one (x:Int):Red [x]:=fun i hi=>by simp at hi
theorem GT.par (g:GT step lst f) {j:Nat} (hj:j < lst.length) (h0:0 < j):∃ i x,i < j∧wy f (lst.getD j 0)=wy f (lst.getD i 0)++[x]∧step (lst.getD i 0) x=some (lst.getD j 0):=by
 obtain ⟨i,x,l,a1,a2,a3,a4⟩:=g.tree j hj h0
 refine ⟨i,x,a1,?_,a4⟩
 unfold wy; rw [a2,a3]; rfl
theorem GT.red (g:GT step lst f):∀ u∈lst,Red (wy f u):=by
 have go:∀ n j,j≤n→j < lst.length→Red (wy f (lst.getD j 0)):=by
  intro n
  induction n with
  | zero =>
   intro j hj hl
   obtain rfl:j=0:=by omega
   rw [g.ix0.2,g.wy0]
   exact fun i hi=>by simp at hi
  | succ n ih =>
   intro j hj hl
   by_cases h:j=0
   ·exact ih j (by omega) hl
   obtain ⟨i,x,a1,a2,a3⟩:=g.par hl (by omega)
   by_cases h2:i=0
   ·rw [a2,h2,g.ix0.2,g.wy0]; exact red_one x
   obtain ⟨k,y,b1,b2,b3⟩:=g.par (j:=i) (by omega) (by omega)
   have hr:=ih i (by omega) (by omega)
   rw [a2]
   rw [b2] at hr ⊢
   refine red_snoc2 hr fun e=>?_
   have hy:=g.nz (mem_ix (by omega)) b3
   have:=g.inv _ _ _ hy b3
   rw [show -y=x by omega,a3] at this
   have:=nd_ix g.nd hl (by omega) (Option.some.inj this)
   omega
 intro u hu
 obtain ⟨i,hi,rfl⟩:=ix_of hu
 exact go i i (Nat.le_refl _) hi
def ltS (step:Nat→Int→Option Nat) (u:Nat):List Int:=((List.range 53).map fun i:Nat=>(i:Int) - 26).filter fun x=>(step u x).isSome
theorem mem_ltS {u:Nat} {x:Int} : x∈ltS step u↔(-26≤x∧x≤26)∧(step u x).isSome=true:=by
 unfold ltS
 rw [List.mem_filter]
 refine and_congr ?_ Iff.rfl
 rw [List.mem_map]
 constructor
 ·rintro ⟨i,hi,rfl⟩
  have:=List.mem_range.1 hi
  omega
 intro h
 exact ⟨(x + 26).toNat,List.mem_range.2 (by omega),by omega⟩
theorem ltS_nd (u:Nat):(ltS step u).Nodup:=
 List.Nodup.sublist List.filter_sublist (nodup_mapF List.nodup_range fun a _ b _ e=>by omega)
def PE (step:Nat→Int→Option Nat) (lst:List Nat):List (Nat × Int):=lst.flatMap fun u=>((ltS step u).filter fun x=>decide (0 < x)).map fun x=>(u,x)
theorem mem_PE (g:GT step lst f) {u:Nat} {x:Int} : (u,x)∈PE step lst↔u∈lst∧0 < x∧(step u x).isSome=true:=by
 unfold PE
 rw [List.mem_flatMap]
 constructor
 ·rintro ⟨v,hv,h⟩
  obtain ⟨y,hy,e⟩:=List.mem_map.1 h
  injection e with e1 e2
  subst e1; subst e2
  have:=List.mem_filter.1 hy
  exact ⟨hv,by simpa using this.2,(mem_ltS.1 this.1).2⟩
 rintro ⟨hu,hx,hs⟩
 refine ⟨u,hu,List.mem_map.2 ⟨x,List.mem_filter.2 ⟨mem_ltS.2 ⟨?_,hs⟩,by simpa using hx⟩,rfl⟩⟩
 obtain ⟨v,hv⟩:=Option.isSome_iff_exists.1 hs
 exact (g.lt u hu x v hv).2
theorem PE_nd (h:lst.Nodup):(PE step lst).Nodup:=
 nodup_flat h (fun u _=>nodup_mapF (List.Nodup.sublist List.filter_sublist (ltS_nd u)) fun a _ b _ e=>by injection e) fun u _ v _ z hz1 hz2=>by
  obtain ⟨a,_,rfl⟩:=List.mem_map.1 hz1
  obtain ⟨b,_,e⟩:=List.mem_map.1 hz2
  injection e with e _
  exact e.symm
def tgt (step:Nat→Int→Option Nat) (e:Nat × Int):Nat:=(step e.1 e.2).getD 0
def bw (step:Nat→Int→Option Nat) (f:Wy) (e:Nat × Int):List Int:=short (wy f e.1++[e.2]++back (wy f (tgt step e)))
def basS (step:Nat→Int→Option Nat) (lst:List Nat) (f:Wy):List (List Int):=((PE step lst).map (bw step f)).filter fun w=>decide (0 < w.length)
def NT (step:Nat→Int→Option Nat) (lst:List Nat) (f:Wy):List (Nat × Int):=(PE step lst).filter fun e=>decide (0 < (bw step f e).length)
theorem basS_eq:basS step lst f=(NT step lst f).map (bw step f):=by
 unfold basS NT
 rw [List.filter_map]; rfl
theorem NT_nd (h:lst.Nodup):(NT step lst f).Nodup:=List.Nodup.sublist List.filter_sublist (PE_nd h)
theorem tgt_of {u v:Nat} {x:Int} (h:step u x=some v):tgt step (u,x)=v:=by unfold tgt; rw [h]; rfl
theorem PE_st (g:GT step lst f) {e:Nat × Int} (h:e∈PE step lst):e.1∈lst∧0 < e.2∧step e.1 e.2=some (tgt step e)∧tgt step e∈lst:=by
 obtain ⟨u,x⟩:=e
 obtain ⟨h1,h2,h3⟩:=(mem_PE g).1 h
 obtain ⟨v,hv⟩:=Option.isSome_iff_exists.1 h3
 rw [tgt_of hv]
 exact ⟨h1,h2,hv,g.cl u h1 x v hv⟩
theorem bw_nil (g:GT step lst f) {e:Nat × Int} (h:e∈PE step lst):(bw step f e=[]↔wy f (tgt step e)=wy f e.1++[e.2]∨wy f e.1=wy f (tgt step e)++[-e.2]):=by
 obtain ⟨h1,h2,h3,h4⟩:=PE_st g h
 have r1:=g.red _ h1
 have r2:=g.red _ h4
 have hs:short (wy f e.1++[e.2])=push (wy f e.1) e.2:=by
  rw [short_app,short_red r1]; rfl
 constructor
 ·intro hb
  have:=short_undo hb
  rw [hs,short_red r2] at this
  unfold push at this
  split at this
  ·rename_i hc
   right
   have:=take_last hc.1
   rw [hc.2] at this
   rename_i t
   rw [← t,this]
  exact .inl this.symm
 intro hb
 refine short_same ?_
 rw [hs,short_red r2]
 rcases hb with hb | hb
 ·rw [hb]
  unfold push
  rw [if_neg]
  rintro ⟨c1,c2⟩
  rw [hb] at r2
  have:=r2 ((wy f e.1).length - 1) (by simp; omega)
  rw [getD_app1 (by omega),getD_app2 (by omega),c2] at this
  rw [show (wy f e.1).length - 1 + 1 - (wy f e.1).length=0 by omega] at this
  exact this rfl
 unfold push
 rw [if_pos]
 ·rw [hb]; simp
 rw [hb]; simp
def teS (step:Nat→Int→Option Nat) (f:Wy) (c:Nat):Nat × Int:=
 let y:=(wy f c).getD ((wy f c).length - 1) 0
 if 0 < y then ((step c (-y)).getD 0,y) else (c,-y)
theorem teS_spec (g:GT step lst f) {j:Nat} (hj:j < lst.length) (h0:0 < j):∃ i x,i < j∧wy f (lst.getD j 0)=wy f (lst.getD i 0)++[x]∧step (lst.getD i 0) x=some (lst.getD j 0)∧teS step f (lst.getD j 0)=if 0 < x then (lst.getD i 0,x) else (lst.getD j 0,-x):=by
 obtain ⟨i,x,a1,a2,a3⟩:=g.par hj h0
 refine ⟨i,x,a1,a2,a3,?_⟩
 have hx:=g.nz (mem_ix (by omega)) a3
 have e:(wy f (lst.getD j 0)).getD ((wy f (lst.getD j 0)).length - 1) 0=x:=by rw [a2]; simp
 unfold teS
 simp only [e]
 split
 ·rw [g.inv _ _ _ hx a3]; rfl
 rfl
theorem tail_ix {l:List Nat} {c:Nat} : c∈l.tail↔∃ j,0 < j∧j < l.length∧l.getD j 0=c:=by
 cases l with
 | nil=>simp
 | cons a r =>
  simp only [List.tail_cons,List.length_cons]
  constructor
  ·intro h
   obtain ⟨i,hi,e⟩:=ix_of h
   exact ⟨i + 1,by omega,by omega,by simpa using e⟩
  rintro ⟨j,h1,h2,e⟩
  obtain ⟨k,rfl⟩:∃ k,j=k + 1:=⟨j - 1,by omega⟩
  rw [← e]
  have:(a :: r).getD (k + 1) 0=r.getD k 0:=by simp
  rw [this]; exact mem_ix (by omega)
theorem basS_len (g:GT step lst f):(basS step lst f).length + lst.length=(PE step lst).length + 1:=by
 rw [basS_eq,List.length_map]
 have hT:((PE step lst).filter fun e=>!decide (0 < (bw step f e).length)).length=lst.length - 1:=by
  have e1:(lst.tail.map (teS step f)).length=lst.length - 1:=by simp
  rw [← e1]
  have hspec:∀ c∈lst.tail,∃ p x,p∈lst∧c∈lst∧wy f c=wy f p++[x]∧step p x=some c∧teS step f c=if 0 < x then (p,x) else (c,-x):=fun c hc=>by
   obtain ⟨j,j1,j2,rfl⟩:=tail_ix.1 hc
   obtain ⟨i,x,a1,a2,a3,a4⟩:=teS_spec g j2 j1
   exact ⟨_,x,mem_ix (by omega),mem_ix j2,a2,a3,a4⟩
  refine nd_eq (List.Nodup.sublist List.filter_sublist (PE_nd g.nd)) (nodup_mapF (List.Nodup.sublist (List.tail_sublist _) g.nd) ?_) fun e=>?_
  ·intro c hc d hd e
   obtain ⟨p,x,p1,p2,p3,p4,p5⟩:=hspec c hc
   obtain ⟨q,y,q1,q2,q3,q4,q5⟩:=hspec d hd
   rw [p5,q5] at e
   have hx:=g.nz p1 p4
   have hy:=g.nz q1 q4
   split at e<;>split at e
   ·injection e with e1 e2
    subst e1; subst e2
    rw [p4] at q4; exact Option.some.inj q4
   ·injection e with e1 e2
    subst e1
    have h1:=p3
    have h2:=q3
    have h3:=g.inv _ _ _ hy q4
    rw [← e2,p4] at h3
    obtain rfl:=Option.some.inj h3
    rw [h1] at h2
    have:=congrArg List.length h2
    simp at this
   ·injection e with e1 e2
    subst e1
    have h3:=g.inv _ _ _ hx p4
    rw [e2,q4] at h3
    obtain rfl:=Option.some.inj h3
    rw [p3] at q3
    have:=congrArg List.length q3
    simp at this
   injection e with e1 _
  rw [List.mem_filter,List.mem_map]
  constructor
  ·rintro ⟨h1,h2⟩
   have h2:bw step f e=[]:=by simpa using h2
   obtain ⟨s1,s2,s3,s4⟩:=PE_st g h1
   rcases (bw_nil g h1).1 h2 with h | h
   ·have hc:tgt step e∈lst.tail:=by
     obtain ⟨j,j1,j2⟩:=ix_of s4
     refine tail_ix.2 ⟨j,?_,j1,j2⟩
     rcases Nat.eq_zero_or_pos j with rfl | hj
     ·rw [g.ix0.2] at j2
      rw [← j2,g.wy0] at h
      have:=congrArg List.length h; simp at this
     exact hj
    refine ⟨_,hc,?_⟩
    obtain ⟨p,x,p1,p2,p3,p4,p5⟩:=hspec _ hc
    rw [h] at p3
    obtain ⟨t1,t2⟩:=List.append_inj' p3 rfl
    have t2:e.2=x:=by simpa using t2
    have t1:=g.inj s1 p1 t1
    rw [p5,← t1,← t2,if_pos s2]
   have hc:e.1∈lst.tail:=by
    obtain ⟨j,j1,j2⟩:=ix_of s1
    refine tail_ix.2 ⟨j,?_,j1,j2⟩
    rcases Nat.eq_zero_or_pos j with rfl | hj
    ·rw [g.ix0.2] at j2
     rw [← j2,g.wy0] at h
     have:=congrArg List.length h; simp at this
    exact hj
   refine ⟨_,hc,?_⟩
   obtain ⟨p,x,p1,p2,p3,p4,p5⟩:=hspec _ hc
   rw [h] at p3
   obtain ⟨t1,t2⟩:=List.append_inj' p3 rfl
   have t2 : -e.2=x:=by simpa using t2
   rw [p5,if_neg (by omega),show -x=e.2 by omega]
  rintro ⟨c,hc,rfl⟩
  obtain ⟨p,x,p1,p2,p3,p4,p5⟩:=hspec c hc
  have hx:=g.nz p1 p4
  rw [p5]
  split
  ·rename_i h
   have hm:(p,x)∈PE step lst:=(mem_PE g).2 ⟨p1,h,by rw [p4]; rfl⟩
   refine ⟨hm,?_⟩
   have:=(bw_nil g hm).2 (.inl (by rw [tgt_of p4]; exact p3))
   simp [this]
  rename_i h
  have hi:=g.inv _ _ _ hx p4
  have hm:(c,-x)∈PE step lst:=(mem_PE g).2 ⟨p2,by omega,by rw [hi]; rfl⟩
  refine ⟨hm,?_⟩
  have:=(bw_nil g hm).2 (.inr (by rw [tgt_of hi]; simp only [Int.neg_neg]; exact p3))
  simp [this]
 have hp:∀ l:List (Nat × Int),(l.filter fun e=>decide (0 < (bw step f e).length)).length + (l.filter fun e=>!decide (0 < (bw step f e).length)).length=l.length:=by
  intro l
  induction l with
  | nil=>rfl
  | cons a r ih =>
   simp only [List.filter_cons,List.length_cons]
   by_cases h:0 < (bw step f a).length
   ·simp only [h,decide_true,Bool.not_true,if_true]; simp only [List.length_cons]; simp; omega
   simp only [h,decide_false,Bool.not_false,if_true]; simp only [List.length_cons]; simp; omega
 have:=hp (PE step lst)
 rw [hT] at this
 have h0:=g.ix0.1
 unfold NT
 omega
end
end Go.Proofs.Ytneglephfhiamaa

namespace Go.Proofs.Ytneglephfhiamaa
open Go.Pv
def edg (u:Nat) (x:Int) (v:Nat):Nat × Int:=if 0 < x then (u,x) else (v,-x)
theorem edg_rev {u v:Nat} {x:Int} (h:x ≠ 0):edg v (-x) u=edg u x v:=by
 unfold edg
 by_cases h2:0 < x
 ·rw [if_neg (by omega),if_pos h2,Int.neg_neg]
 rw [if_pos (by omega),if_neg h2]
def cov (step:Nat→Int→Option Nat) (D:Nat × Int→Bool):Nat × Bool→Int→Option (Nat × Bool):=fun c x=>(step c.1 x).map fun v=>(v,xor c.2 (D (edg c.1 x v)))
def par (step:Nat→Int→Option Nat) (D:Nat × Int→Bool):Nat→List Int→Bool
 | _,[]=>false
 | u,x :: w=>match step u x with | some v=>xor (D (edg u x v)) (par step D v w) | none=>false
section
variable {step:Nat→Int→Option Nat} {lst:List Nat} {f:Wy}
theorem cov_inv {D:Nat × Int→Bool} (hi:InvS step):InvS (cov step D):=fun c d x hx h=>by
 unfold cov at h ⊢
 obtain ⟨v,hv,e⟩:=Option.map_eq_some_iff.1 h
 subst e
 rw [hi _ _ _ hx hv]
 simp only [Option.map_some,edg_rev hx]
 obtain ⟨u,s⟩:=c
 simp
theorem run_cov {D:Nat × Int→Bool} : ∀ (w:List Int) (u:Nat) (s:Bool),runW (cov step D) (u,s) w=(runW step u w).map fun v=>(v,xor s (par step D u w))
 | [],u,s=>by simp [runW,par]
 | x :: w,u,s=>by
  have hc:cov step D (u,s) x=(step u x).map fun v=>(v,xor s (D (edg u x v))):=rfl
  unfold runW par
  rw [hc]
  cases e:step u x with
  | none=>rfl
  | some v =>
   simp only [Option.map_some]
   rw [run_cov w v]
   simp only [Bool.xor_assoc]
theorem par_xor {D E:Nat × Int→Bool} : ∀ (w:List Int) (u:Nat),par step (fun e=>xor (D e) (E e)) u w=xor (par step D u w) (par step E u w)
 | [],_=>rfl
 | x :: w,u=>by
  unfold par
  cases e:step u x with
  | none=>rfl
  | some v =>
   simp only
   rw [par_xor w v]
   cases D (edg u x v)<;>cases E (edg u x v)<;>cases par step D v w<;>cases par step E v w<;>rfl
theorem GT.edg_mem (g:GT step lst f) {u v:Nat} {x:Int} (hu:u∈lst) (h:step u x=some v):edg u x v∈PE step lst∧((0 < x∧edg u x v=(u,x))∨(x < 0∧edg u x v=(v,-x))):=by
 have hx:=g.nz hu h
 unfold edg
 split
 ·rename_i hp
  exact ⟨(mem_PE g).2 ⟨hu,hp,by rw [h]; rfl⟩,.inl ⟨hp,rfl⟩⟩
 refine ⟨(mem_PE g).2 ⟨g.cl u hu x v h,by omega,by rw [g.inv _ _ _ hx h]; rfl⟩,.inr ⟨by omega,rfl⟩⟩
theorem GT.tree_nil (g:GT step lst f) {u v:Nat} {x:Int} (hu:u∈lst) (h:step u x=some v) (hw:wy f v=wy f u++[x]):bw step f (edg u x v)=[]:=by
 have hx:=g.nz hu h
 obtain ⟨h1,⟨h2,e⟩ | ⟨h2,e⟩⟩:=g.edg_mem hu h
 ·refine (bw_nil g h1).2 (.inl ?_)
  rw [e,tgt_of h]; exact hw
 refine (bw_nil g h1).2 (.inr ?_)
 rw [e,tgt_of (g.inv _ _ _ hx h),hw,Int.neg_neg]
theorem GT.cov_way (g:GT step lst f) {D:Nat × Int→Bool} (hD:∀ e∈PE step lst,bw step f e=[]→D e=false) (s:Bool):∀ u∈lst,runW (cov step D) (0,s) (wy f u)=some (u,s):=
 g.ind (P:=fun u l=>runW (cov step D) (0,s) l=some (u,s)) rfl fun u v x hu hv hs hw ih=>by
  rw [runW_app,ih]
  show runW (cov step D) (u,s) [x]=some (v,s)
  unfold runW cov
  simp only [hs,Option.map_some]
  rw [hD _ (g.edg_mem hu hs).1 (g.tree_nil hu hs hw)]
  simp [runW]
theorem GT.cov_bw (g:GT step lst f) {D:Nat × Int→Bool} (hD:∀ e∈PE step lst,bw step f e=[]→D e=false) {e:Nat × Int} (he:e∈PE step lst):runW (cov step D) (0,false) (bw step f e)=some (0,D e):=by
 obtain ⟨h1,h2,h3,h4⟩:=PE_st g he
 have hz1:=(g.ok _ h1).nz
 have hz2:=(g.ok _ h4).nz
 unfold bw
 refine run_short (cov_inv g.inv) ((hz1.app (fun y hy=>by rw [List.mem_singleton] at hy; omega)).app hz2.back) ?_
 have hb:=run_back (cov_inv (D:=D) g.inv) hz2 (g.cov_way hD (D e) _ h4)
 rw [runW_app,runW_app,g.cov_way hD false _ h1]
 show (runW (cov step D) (e.1,false) [e.2]).bind _=_
 have:runW (cov step D) (e.1,false) [e.2]=some (tgt step e,D e):=by
  unfold runW cov
  simp only [h3,Option.map_some]
  unfold edg
  rw [if_pos h2]
  simp [runW]
 rw [this]
 exact hb
theorem GT.run_bw (g:GT step lst f) {e:Nat × Int} (he:e∈PE step lst):runW step 0 (bw step f e)=some 0:=by
 have:=g.cov_bw (D:=fun _=>false) (fun _ _ _=>rfl) he
 rw [run_cov] at this
 obtain ⟨v,hv,e⟩:=Option.map_eq_some_iff.1 this
 injection e with e _
 rw [hv,e]
open Classical in
noncomputable def pwB (B:List (Nat × Int)) (p:List Bool) (e:Nat × Int):Bool:=if e∈B then p.getD (B.idxOf e) false else false
theorem idx_nd {α:Type} [BEq α] [LawfulBEq α]:∀ {l:List α},l.Nodup→∀ i (h:i < l.length),l.idxOf l[i]=i
 | [],_,i,h=>absurd h (Nat.not_lt_zero _)
 | a :: l,hn,0,_=>by simp [List.idxOf_cons]
 | a :: l,hn,i + 1,h=>by
  have hn2:=List.nodup_cons.1 hn
  have h' : i < l.length:=by simpa using h
  have hne:a ≠ l[i]:=fun e=>hn2.1 (e ▸ List.getElem_mem h')
  rw [List.getElem_cons_succ,List.idxOf_cons,idx_nd hn2.2 i h',beq_false_of_ne hne]; rfl
theorem rank_aux (g:GT step lst f) {B:List (Nat × Int)} (hB:B.Nodup) (hN:∀ e∈B,e∈NT step lst f) {S:List (List Int)} (hc:∀ s∈S,runW step 0 s=some 0) (hm:∀ e∈B,Mem S (bw step f e)) (q:List Int→Bool)
  (hq:∀ s∈S,q s=false→∀ D:Nat × Int→Bool,(∀ e,e ∉ B→D e=false)→par step D 0 s=false):B.length≤(S.filter q).length:=by
 classical
 refine php (fun p=>(S.filter q).map fun s=>par step (pwB B p) 0 s) (fun p=>by simp) fun p p2 hp hp2 he=>?_
 obtain ⟨D,hD⟩:∃ D:Nat × Int→Bool,D=fun e=>xor (pwB B p e) (pwB B p2 e):=⟨_,rfl⟩
 have hsup:∀ e,e ∉ B→D e=false:=fun e h=>by rw [hD]; unfold pwB; simp only [if_neg h]; rfl
 have hz:∀ s∈S,par step D 0 s=false:=fun s hs=>by
  by_cases h:q s=true
  ·have:=List.map_inj_left.1 he s (List.mem_filter.2 ⟨hs,h⟩)
   rw [hD,par_xor,this]; simp
  exact hq s hs (by simpa using h) D hsup
 have hcl:∀ s∈S,runW (cov step D) (0,false) s=some (0,false):=fun s hs=>by
  rw [run_cov,hc s hs,hz s hs]; rfl
 have hD0:∀ e∈B,D e=false:=fun e he=>by
  have hn:=hN e he
  unfold NT at hn
  have h1:=hm e he _ (cov step D) (0,false) (cov_inv g.inv) hcl
  rw [g.cov_bw (fun e' _ hb=>hsup e' fun hm=>by
   have:=hN e' hm
   unfold NT at this
   have:=(List.mem_filter.1 this).2
   rw [hb] at this; simp at this) (List.mem_filter.1 hn).1] at h1
  have:=Option.some.inj h1
  injection this
 refine List.ext_getElem (by rw [hp,hp2]) fun i h1 h2=>?_
 have hi:i < B.length:=by omega
 have h3:=hD0 _ (List.getElem_mem hi)
 rw [hD] at h3
 simp only [pwB,if_pos (List.getElem_mem hi),idx_nd hB i hi,List.getD_eq_getElem?_getD,List.getElem?_eq_getElem h1,List.getElem?_eq_getElem h2,Option.getD_some] at h3
 revert h3
 cases p[i]<;>cases p2[i]<;>simp
theorem rank_le (g:GT step lst f) {S:List (List Int)} (hc:∀ s∈S,runW step 0 s=some 0) (hm:∀ e∈NT step lst f,Mem S (bw step f e)):(basS step lst f).length≤S.length:=by
 have:=rank_aux g (NT_nd g.nd) (fun e h=>h) hc hm (fun _=>true) (fun s _ h=>by cases h)
 rw [basS_eq,List.length_map]
 rwa [List.filter_eq_self.2 (fun _ _=>rfl)] at this
def cst (step:Nat→Int→Option Nat) (f:Wy) (e:Nat × Int):Nat:=(wy f e.1).length + 1 + (wy f (tgt step e)).length
theorem bw_cst (e:Nat × Int):(bw step f e).length≤cst step f e:=by
 unfold bw cst
 refine Nat.le_trans (short_len _) ?_
 simp only [List.length_append,List.length_singleton,back_len]; omega
end
end Go.Proofs.Ytneglephfhiamaa

namespace Go.Proofs.Ytneglephfhiamaa
open Go.Pv
def InvT {X:Type} (T:X→Int→X):Prop:=∀ c x,x ≠ 0→T (T c x) (-x)=c
def MemT (S:List (List Int)) (w:List Int):Prop:=∀ (X:Type) (T:X→Int→X) (x0:X),InvT T→(∀ s∈S,s.foldl T x0=x0)→w.foldl T x0=x0
section
variable {X:Type} {T:X→Int→X}
theorem InvT.part (h:InvT T):InvS fun c x=>some (T c x):=fun c d x hx e=>by
 obtain rfl:=Option.some.inj e
 exact congrArg some (h c x hx)
theorem runT_eq:∀ (w:List Int) (c:X),runW (fun c x=>some (T c x)) c w=some (w.foldl T c)
 | [],_=>rfl
 | x :: w,c=>by unfold runW; exact runT_eq w _
theorem runT_short (h:InvT T) {w:List Int} (hz:Nz w) (c:X):(short w).foldl T c=w.foldl T c:=by
 have:=run_short h.part hz (runT_eq (T:=T) w c)
 rw [runT_eq] at this
 exact Option.some.inj this
theorem runT_back (h:InvT T) {w:List Int} (hz:Nz w) (c:X):(back w).foldl T (w.foldl T c)=c:=by
 have:=run_back h.part hz (runT_eq (T:=T) w c)
 rw [runT_eq] at this
 exact Option.some.inj this
theorem runT_back2 (h:InvT T) {w:List Int} (hz:Nz w) (c:X):w.foldl T ((back w).foldl T c)=c:=by
 have:=runT_back h hz.back c
 rwa [back_back] at this
end
theorem MemT.app {S:List (List Int)} {v w:List Int} (h:MemT S v) (h2:MemT S w):MemT S (v++w):=fun X T x0 hi hc=>by
 rw [List.foldl_append,h X T x0 hi hc,h2 X T x0 hi hc]
theorem MemT.back {S:List (List Int)} {v:List Int} (hz:Nz v) (h:MemT S v):MemT S (back v):=fun X T x0 hi hc=>by
 have:=runT_back hi hz x0
 rwa [h X T x0 hi hc] at this
theorem MemT.short {S:List (List Int)} {v:List Int} (hz:Nz v) (h:MemT S v):MemT S (short v):=fun X T x0 hi hc=>by
 rw [runT_short hi hz,h X T x0 hi hc]
theorem MemT.of {S:List (List Int)} {v:List Int} (h:v∈S):MemT S v:=fun X T x0 hi hc=>hc v h
theorem MemT.trans {S S' : List (List Int)} {v:List Int} (h:MemT S' v) (h2:∀ s∈S',MemT S s):MemT S v:=fun X T x0 hi hc=>h X T x0 hi fun s hs=>h2 s hs X T x0 hi hc
abbrev Cp {X:Type} (step:X→Int→Option X):Type:={ p:X × List Int // Red p.2∧∀ x r,p.2=x :: r→step p.1 x=none }
theorem push_ne {y:Int} {r:List Int} {x z:Int} {s:List Int} (h:push (y :: r) x=z :: s):z=y:=by
 unfold push at h
 split at h
 ·cases r with
  | nil=>simp at h
  | cons a r =>
   simp only [List.length_cons,Nat.add_sub_cancel,List.take_succ_cons] at h
   injection h with h _
   exact h.symm
 injection h with h _
 exact h.symm
def stC {X:Type} (step:X→Int→Option X) (p:Cp step) (x:Int):Cp step:=
 if hn:p.1.2=[] then
  match h:step p.1.1 x with
  | some d=>⟨(d,[]),⟨fun i hi=>by simp at hi,fun _ _ e=>by cases e⟩⟩
  | none=>⟨(p.1.1,[x]),⟨red_one x,fun z r e=>by injection e with e _; rw [← e]; exact h⟩⟩
 else ⟨(p.1.1,push p.1.2 x),⟨red_push p.2.1,fun z s e=>by
  match hp:p.1.2 with
  | []=>exact absurd hp hn
  | y :: r =>
   rw [hp] at e
   rw [push_ne e]
   exact p.2.2 y r hp⟩⟩
section
variable {X:Type} {step:X→Int→Option X}
theorem stC_some {p:Cp step} {x:Int} {d:X} (h:p.1.2=[]) (hs:step p.1.1 x=some d):(stC step p x).1=(d,[]):=by
 unfold stC
 rw [dif_pos h]
 split
 ·rename_i e; rw [hs] at e; obtain rfl:=Option.some.inj e; rfl
 rename_i e; rw [hs] at e; cases e
theorem stC_none {p:Cp step} {x:Int} (h:p.1.2=[]) (hs:step p.1.1 x=none):(stC step p x).1=(p.1.1,[x]):=by
 unfold stC
 rw [dif_pos h]
 split
 ·rename_i e; rw [hs] at e; cases e
 rfl
theorem stC_push {p:Cp step} {x:Int} (h:p.1.2 ≠ []):(stC step p x).1=(p.1.1,push p.1.2 x):=by
 unfold stC
 rw [dif_neg h]
theorem push_nil (x:Int):push [] x=[x]:=by unfold push; simp
theorem push_one (x:Int):push [x] (-x)=[]:=by
 have:=push_cancel (o:=[]) x (fun i hi=>by simp at hi)
 rwa [push_nil] at this
theorem stC_inv (hi:InvS step):InvT (stC step):=fun p x hx=>by
 refine Subtype.ext ?_
 by_cases h:p.1.2=[]
 ·cases hs:step p.1.1 x with
  | some d =>
   have h1:=stC_some h hs
   have h2:step (stC step p x).1.1 (-x)=some p.1.1:=by rw [h1]; exact hi _ _ _ hx hs
   rw [stC_some (by rw [h1]) h2,← h]
  | none =>
   have h1:=stC_none h hs
   rw [stC_push (by rw [h1]; simp),h1]
   simp only [push_one]
   rw [← h]
 have h1:=stC_push (x:=x) h
 by_cases h2:push p.1.2 x=[]
 ·have h3:=push_cancel x p.2.1
  rw [h2,push_nil] at h3
  have h4:step p.1.1 (-x)=none:=p.2.2 (-x) [] h3.symm
  rw [stC_none (by rw [h1]; exact h2) (by rw [h1]; exact h4),h1]
  simp only [h3]
 rw [stC_push (by rw [h1]; exact h2),h1]
 simp only [push_cancel x p.2.1]
def inC (step:X→Int→Option X) (c:X):Cp step:=⟨(c,[]),⟨fun i hi=>by simp at hi,fun _ _ e=>by cases e⟩⟩
theorem runC_in:∀ {w:List Int} {c d:X},runW step c w=some d→w.foldl (stC step) (inC step c)=inC step d
 | [],c,d,h=>by obtain rfl:=Option.some.inj h; rfl
 | x :: w,c,d,h=>by
  unfold runW at h
  cases e:step c x with
  | none=>rw [e] at h; cases h
  | some m =>
   rw [e] at h
   have h1:stC step (inC step c) x=inC step m:=Subtype.ext (stC_some (p:=inC step c) rfl e)
   rw [List.foldl_cons,h1]
   exact runC_in h
theorem red_tail {x:Int} {w:List Int} (h:Red (x :: w)):Red w:=fun i hi=>by
 have:=h (i + 1) (by simp only [List.length_cons]; omega)
 simpa using this
theorem red_head {l:List Int} {x:Int} {w:List Int} (h:Red (l++x :: w)) (hl:l ≠ []):push l x=l++[x]:=by
 unfold push
 rw [if_neg]
 rintro ⟨h1,h2⟩
 have:=h (l.length - 1) (by simp; omega)
 rw [getD_app1 (by omega),getD_app2 (by omega),h2,show l.length - 1 + 1 - l.length=0 by omega] at this
 exact this rfl
theorem runC_hair:∀ (w:List Int) (p:Cp step),p.1.2 ≠ []→Red (p.1.2++w)→(w.foldl (stC step) p).1=(p.1.1,p.1.2++w)
 | [],p,_,_=>by simp
 | x :: w,p,hp,hr=>by
  have h1:=stC_push (x:=x) hp
  rw [red_head hr hp] at h1
  rw [List.foldl_cons,runC_hair w _ (by rw [h1]; simp) (by rw [h1]; simpa using hr),h1]
  simp
theorem runC_out:∀ {w:List Int} {c d:X},Red w→w.foldl (stC step) (inC step c)=inC step d→runW step c w=some d
 | [],c,d,_,h=>by
  have:=congrArg (fun p:Cp step=>p.1.1) h
  exact congrArg some this
 | x :: w,c,d,hr,h=>by
  rw [List.foldl_cons] at h
  unfold runW
  cases e:step c x with
  | some m =>
   have h1:stC step (inC step c) x=inC step m:=Subtype.ext (stC_some (p:=inC step c) rfl e)
   rw [h1] at h
   exact runC_out (red_tail hr) h
  | none =>
   have h1:=stC_none (p:=inC step c) rfl e
   have h2:=runC_hair w (stC step (inC step c) x) (by rw [h1]; simp) (by rw [h1]; exact hr)
   rw [h,h1] at h2
   have:=congrArg Prod.snd h2
   cases this
end
theorem memT_mem {S:List (List Int)} {w:List Int} (h:MemT S w) (hr:Red w):Mem S w:=fun X step x0 hi hc =>
 runC_out hr (h _ (stC step) (inC step x0) (stC_inv hi) fun s hs=>runC_in (hc s hs))
section
variable {step:Nat→Int→Option Nat} {lst:List Nat} {f:Wy}
theorem basS_mem {w:List Int} : w∈basS step lst f↔∃ e∈PE step lst,bw step f e=w∧w ≠ []:=by
 unfold basS
 rw [List.mem_filter,List.mem_map]
 constructor
 ·rintro ⟨⟨e,he,h⟩,h2⟩
  exact ⟨e,he,h,fun h3=>by rw [h3] at h2; simp at h2⟩
 rintro ⟨e,he,h,h2⟩
 refine ⟨⟨e,he,h⟩,?_⟩
 cases w with
 | nil=>exact absurd rfl h2
 | cons=>simp
theorem GT.bas_run (g:GT step lst f) {w:List Int} (h:w∈basS step lst f):runW step 0 w=some 0:=by
 obtain ⟨e,he,rfl,_⟩:=basS_mem.1 h
 exact g.run_bw he
theorem GT.bas_red {w:List Int} (h:w∈basS step lst f):Red w:=by
 obtain ⟨e,he,rfl,_⟩:=basS_mem.1 h
 exact red_short _
theorem GT.bw_ok (g:GT step lst f) {e:Nat × Int} (he:e∈PE step lst):Ok (wy f e.1++[e.2]++back (wy f (tgt step e))):=by
 obtain ⟨h1,h2,h3,h4⟩:=PE_st g he
 exact ((g.ok _ h1).app (fun y hy=>by rw [List.mem_singleton] at hy; subst hy; exact g.lt _ h1 _ _ h3)).app (g.ok _ h4).back
theorem GT.bas_ok (g:GT step lst f) {w:List Int} (h:w∈basS step lst f):Ok w:=by
 obtain ⟨e,he,rfl,_⟩:=basS_mem.1 h
 exact (g.bw_ok he).short
theorem GT.act (g:GT step lst f) {X:Type} {T:X→Int→X} {x0:X} (hi:InvT T) (hc:∀ s∈basS step lst f,s.foldl T x0=x0) {u v:Nat} {x:Int} (hu:u∈lst) (h:step u x=some v):T ((wy f u).foldl T x0) x=(wy f v).foldl T x0:=by
 have pos:∀ e∈PE step lst,T ((wy f e.1).foldl T x0) e.2=(wy f (tgt step e)).foldl T x0:=fun e he=>by
  have hb:(bw step f e).foldl T x0=x0:=by
   by_cases h0:bw step f e=[]
   ·rw [h0]; rfl
   exact hc _ (basS_mem.2 ⟨e,he,rfl,h0⟩)
  obtain ⟨h1,h2,h3,h4⟩:=PE_st g he
  have hz:=(g.ok _ h4).nz
  unfold bw at hb
  rw [runT_short hi (g.bw_ok he).nz,List.foldl_append,List.foldl_append] at hb
  have:=runT_back2 hi hz (List.foldl T (List.foldl T x0 (wy f e.1)) [e.2])
  rw [hb] at this
  exact this.symm
 have hx:=g.nz hu h
 obtain ⟨h1,⟨h2,e⟩ | ⟨h2,e⟩⟩:=g.edg_mem hu h
 ·have:=pos _ h1
  rw [e,tgt_of h] at this
  exact this
 have:=pos _ h1
 rw [e,tgt_of (g.inv _ _ _ hx h)] at this
 simp only at this
 rw [← this]
 have h3:=hi ((wy f v).foldl T x0) (-x) (by omega)
 rwa [Int.neg_neg] at h3
theorem GT.inL (g:GT step lst f):∀ {w:List Int} {u v:Nat},u∈lst→runW step u w=some v→v∈lst
 | [],u,v,hu,h=>by obtain rfl:=Option.some.inj h; exact hu
 | x :: w,u,v,hu,h=>by
  unfold runW at h
  cases e:step u x with
  | none=>rw [e] at h; cases h
  | some m=>rw [e] at h; exact g.inL (g.cl u hu x m e) h
theorem GT.actW (g:GT step lst f) {X:Type} {T:X→Int→X} {x0:X} (hi:InvT T) (hc:∀ s∈basS step lst f,s.foldl T x0=x0):∀ {w:List Int} {u v:Nat},u∈lst→runW step u w=some v→w.foldl T ((wy f u).foldl T x0)=(wy f v).foldl T x0
 | [],u,v,hu,h=>by obtain rfl:=Option.some.inj h; rfl
 | x :: w,u,v,hu,h=>by
  unfold runW at h
  cases e:step u x with
  | none=>rw [e] at h; cases h
  | some m=>rw [e] at h; rw [List.foldl_cons,g.act hi hc hu e]; exact g.actW hi hc (g.cl u hu x m e) h
theorem GT.gen (g:GT step lst f) {w:List Int} (h:runW step 0 w=some 0):MemT (basS step lst f) w:=fun X T x0 hi hc=>by
 have:=g.actW hi hc g.mem0 h
 rwa [g.wy0] at this
theorem GT.genR (g:GT step lst f) {w:List Int} (h:runW step 0 w=some 0) (hr:Red w):Mem (basS step lst f) w:=memT_mem (g.gen h) hr
def frS (step:Nat→Int→Option Nat) (B:List (Nat × Int)):Nat × { l:List Int // Red l }→Int→Option (Nat × { l:List Int // Red l }):=fun c x=>(step c.1 x).map fun v =>
 (v,if edg c.1 x v∈B then ⟨push c.2.1 (if 0 < x then (B.idxOf (edg c.1 x v):Int) + 1 else -((B.idxOf (edg c.1 x v):Int) + 1)),red_push c.2.2⟩ else c.2)
theorem frS_inv {B:List (Nat × Int)} (hi:InvS step):InvS (frS step B):=fun c d x hx h=>by
 unfold frS at h ⊢
 obtain ⟨v,hv,e⟩:=Option.map_eq_some_iff.1 h
 subst e
 rw [hi _ _ _ hx hv]
 simp only [Option.map_some,edg_rev hx]
 obtain ⟨u,l,hl⟩:=c
 by_cases hB:edg u x v∈B
 ·simp only [if_pos hB]
  refine congrArg some (Prod.ext rfl (Subtype.ext ?_))
  show push (push l _) _=l
  by_cases h2:0 < x
  ·rw [if_pos h2,if_neg (by omega)]; exact push_cancel _ hl
  rw [if_neg h2,if_pos (by omega)]
  have:=push_cancel (-((B.idxOf (edg u x v):Int) + 1)) hl
  rwa [Int.neg_neg] at this
 simp only [if_neg hB]
theorem GT.fr_way (g:GT step lst f) (c : { l:List Int // Red l }):∀ u∈lst,runW (frS step (NT step lst f)) (0,c) (wy f u)=some (u,c):=
 g.ind (P:=fun u l=>runW (frS step (NT step lst f)) (0,c) l=some (u,c)) rfl fun u v x hu hv hs hw ih=>by
  rw [runW_app,ih]
  show runW (frS step (NT step lst f)) (u,c) [x]=some (v,c)
  have hn:edg u x v ∉ NT step lst f:=fun hm=>by
   have:=(List.mem_filter.1 hm).2
   rw [g.tree_nil hu hs hw] at this; simp at this
  unfold runW frS
  simp only [hs,Option.map_some,if_neg hn]
  rfl
theorem GT.fr_bw (g:GT step lst f) (c : { l:List Int // Red l }) {e:Nat × Int} (he:e∈NT step lst f):runW (frS step (NT step lst f)) (0,c) (bw step f e)=some (0,⟨push c.1 ((NT step lst f).idxOf e + 1),red_push c.2⟩):=by
 have hp:=(List.mem_filter.1 he).1
 obtain ⟨h1,h2,h3,h4⟩:=PE_st g hp
 have hz1:=(g.ok _ h1).nz
 have hz2:=(g.ok _ h4).nz
 unfold bw
 refine run_short (frS_inv g.inv) (g.bw_ok hp).nz ?_
 have hb:=run_back (frS_inv (B:=NT step lst f) g.inv) hz2 (g.fr_way ⟨push c.1 ((NT step lst f).idxOf e + 1),red_push c.2⟩ _ h4)
 rw [runW_app,runW_app,g.fr_way c _ h1]
 show (runW (frS step (NT step lst f)) (e.1,c) [e.2]).bind _=_
 have hed:edg e.1 e.2 (tgt step e)=e:=by unfold edg; rw [if_pos h2]
 have:runW (frS step (NT step lst f)) (e.1,c) [e.2]=some (tgt step e,⟨push c.1 ((NT step lst f).idxOf e + 1),red_push c.2⟩):=by
  unfold runW frS
  simp only [h3,Option.map_some,hed,if_pos he,if_pos h2]
  rfl
 rw [this]
 exact hb
def basW (b:List (List Int)) (w:List Int):List Int:=w.flatMap fun k=>if 0 < k then b.getD (k.toNat - 1) [] else back (b.getD ((-k).toNat - 1) [])
theorem GT.free (g:GT step lst f) {w:List Int} (hr:Red w) (hk:∀ k∈w,k ≠ 0∧k≤(basS step lst f).length∧-k≤(basS step lst f).length) (hw:w ≠ []):short (basW (basS step lst f) w) ≠ []:=by
 have hlen:(basS step lst f).length=(NT step lst f).length:=by rw [basS_eq,List.length_map]
 have hb:∀ j,j < (NT step lst f).length→∀ c,runW (frS step (NT step lst f)) (0,c) ((basS step lst f).getD j [])=some (0,⟨push c.1 (j + 1),red_push c.2⟩):=fun j hj c=>by
  have e:(basS step lst f).getD j []=bw step f (NT step lst f)[j]:=by
   rw [basS_eq,List.getD_eq_getElem?_getD,List.getElem?_map,List.getElem?_eq_getElem hj]; rfl
  rw [e,g.fr_bw c (List.getElem_mem hj)]
  have:=idx_nd (NT_nd (step:=step) (f:=f) g.nd) j hj
  simp only [this]
 have hbz:∀ j,j < (NT step lst f).length→Nz ((basS step lst f).getD j []):=fun j hj=>by
  have:(basS step lst f).getD j []∈basS step lst f:=by
   rw [List.getD_eq_getElem?_getD,List.getElem?_eq_getElem (by omega)]; exact List.getElem_mem _
  exact (g.bas_ok this).nz
 have go:∀ (w:List Int) (o:List Int) (ho:Red o),(∀ k∈w,k ≠ 0∧k≤(basS step lst f).length∧-k≤(basS step lst f).length)→∃ h,runW (frS step (NT step lst f)) (0,⟨o,ho⟩) (basW (basS step lst f) w)=some (0,⟨w.foldl push o,h⟩):=by
  intro w
  induction w with
  | nil=>intro o ho _; exact ⟨ho,rfl⟩
  | cons k w ih =>
   intro o ho hk
   obtain ⟨k1,k2,k3⟩:=hk k (by simp)
   obtain ⟨h,hh⟩:=ih (push o k) (red_push ho) fun y hy=>hk y (by simp [hy])
   refine ⟨h,?_⟩
   have e:basW (basS step lst f) (k :: w)=(if 0 < k then (basS step lst f).getD (k.toNat - 1) [] else back ((basS step lst f).getD ((-k).toNat - 1) []))++basW (basS step lst f) w:=by
    unfold basW; rw [List.flatMap_cons]
   have h1:runW (frS step (NT step lst f)) (0,⟨o,ho⟩) (if 0 < k then (basS step lst f).getD (k.toNat - 1) [] else back ((basS step lst f).getD ((-k).toNat - 1) []))=some (0,⟨push o k,red_push ho⟩):=by
    split
    ·rename_i hp
     rw [hb _ (by omega)]
     simp only [show ((k.toNat - 1:Nat):Int) + 1=k by omega]
    rename_i hp
    have h2:=hb ((-k).toNat - 1) (by omega) ⟨push o k,red_push ho⟩
    simp only [show (((-k).toNat - 1:Nat):Int) + 1 = -k by omega,push_cancel k ho] at h2
    exact run_back (frS_inv g.inv) (hbz _ (by omega)) h2
   rw [e,runW_app,h1]
   exact hh
 intro h0
 obtain ⟨h,hh⟩:=go w [] (fun i hi=>by simp at hi) hk
 have hz:Nz (basW (basS step lst f) w):=fun y hy=>by
  unfold basW at hy
  obtain ⟨k,hkm,hy⟩:=List.mem_flatMap.1 hy
  obtain ⟨k1,k2,k3⟩:=hk k hkm
  split at hy
  ·exact hbz _ (by omega) y hy
  exact (hbz _ (by omega)).back y hy
 have h1:=run_short (frS_inv g.inv) hz hh
 rw [h0] at h1
 have h2:[]=w.foldl push []:=congrArg (fun p=>p.2.1) (Option.some.inj h1)
 have h3:w.foldl push []=w:=short_red hr
 exact hw (h3.symm.trans h2.symm)
end
end Go.Proofs.Ytneglephfhiamaa

namespace Go.Proofs.Ytneglephfhiamaa
open Go.Pv
section
variable {step:Nat→Int→Option Nat} {lst:List Nat} {f:Wy}
theorem flat_len {α β:Type} (g:α→List β):∀ l:List α,(l.flatMap g).length=(l.map fun a=>(g a).length).sum
 | []=>rfl
 | a :: l=>by rw [List.flatMap_cons,List.length_append,flat_len g l,List.map_cons,List.sum_cons]
theorem split_len {α:Type} (p:α→Bool):∀ l:List α,(l.filter p).length + (l.filter fun x=>!p x).length=l.length
 | []=>rfl
 | a :: l=>by
  have:=split_len p l
  simp only [List.filter_cons,List.length_cons]
  cases h:p a
  ·simp only [Bool.not_false,if_true,List.length_cons]; simp; omega
  simp only [Bool.not_true,if_true,List.length_cons]; simp; omega
theorem GT.deg (g:GT step lst f):(lst.map fun u=>(ltS step u).length).sum=2 * (PE step lst).length:=by
 obtain ⟨NE,hNE⟩:∃ NE,lst.flatMap (fun u=>((ltS step u).filter fun x=>!decide (0 < x)).map fun x=>(u,x))=NE:=⟨_,rfl⟩
 have h1:NE.length=(PE step lst).length:=by
  have hst:∀ u x,(u,x)∈NE↔u∈lst∧¬ 0 < x∧(step u x).isSome=true:=fun u x=>by
   rw [← hNE,List.mem_flatMap]
   constructor
   ·rintro ⟨v,hv,h⟩
    obtain ⟨y,hy,e⟩:=List.mem_map.1 h
    injection e with e1 e2
    subst e1; subst e2
    have:=List.mem_filter.1 hy
    exact ⟨hv,by simpa using this.2,(mem_ltS.1 this.1).2⟩
   rintro ⟨hu,hx,hs⟩
   refine ⟨u,hu,List.mem_map.2 ⟨x,List.mem_filter.2 ⟨mem_ltS.2 ⟨?_,hs⟩,by simpa using hx⟩,rfl⟩⟩
   obtain ⟨v,hv⟩:=Option.isSome_iff_exists.1 hs
   exact (g.lt u hu x v hv).2
  have hn:NE.Nodup:=by
   rw [← hNE]
   exact nodup_flat g.nd (fun u _=>nodup_mapF (List.Nodup.sublist List.filter_sublist (ltS_nd u)) fun a _ b _ e=>by injection e) fun u _ v _ z hz1 hz2=>by
    obtain ⟨a,_,rfl⟩:=List.mem_map.1 hz1
    obtain ⟨b,_,e⟩:=List.mem_map.1 hz2
    injection e with e _
    exact e.symm
  have hmap:∀ e∈NE,e.1∈lst∧e.2 < 0∧step e.1 e.2=some (tgt step e)∧tgt step e∈lst∧step (tgt step e) (-e.2)=some e.1:=fun ⟨u,x⟩ he=>by
   obtain ⟨h1,h2,h3⟩:=(hst u x).1 he
   obtain ⟨v,hv⟩:=Option.isSome_iff_exists.1 h3
   rw [tgt_of hv]
   have:=g.nz h1 hv
   exact ⟨h1,by simp only; omega,hv,g.cl u h1 x v hv,g.inv _ _ _ this hv⟩
  have e1:(NE.map fun e=>(tgt step e,-e.2)).length=NE.length:=List.length_map ..
  rw [← e1]
  refine nd_eq (nodup_mapF hn fun a ha b hb e=>?_) (PE_nd g.nd) fun e=>?_
  ·injection e with e1 e2
   obtain ⟨a1,a2,a3,a4,a5⟩:=hmap a ha
   obtain ⟨b1,b2,b3,b4,b5⟩:=hmap b hb
   rw [e1,e2,b5] at a5
   exact Prod.ext (Option.some.inj a5).symm (by omega)
  constructor
  ·intro h
   obtain ⟨a,ha,rfl⟩:=List.mem_map.1 h
   obtain ⟨a1,a2,a3,a4,a5⟩:=hmap a ha
   exact (mem_PE g).2 ⟨a4,by omega,by rw [a5]; rfl⟩
  intro h
  obtain ⟨h1,h2,h3,h4⟩:=PE_st g h
  have h5:=g.inv _ _ _ (by omega) h3
  refine List.mem_map.2 ⟨(tgt step e,-e.2),(hst _ _).2 ⟨h4,by omega,by rw [h5]; rfl⟩,?_⟩
  rw [tgt_of h5,Int.neg_neg]
 have h2:(lst.map fun u=>(ltS step u).length).sum=(PE step lst).length + NE.length:=by
  unfold PE
  rw [← hNE,flat_len,flat_len]
  simp only [List.length_map]
  generalize lst=l
  induction l with
  | nil=>rfl
  | cons a r ih =>
   simp only [List.map_cons,List.sum_cons,ih]
   have:=split_len (fun x:Int=>decide (0 < x)) (ltS step a)
   omega
 omega
theorem sum_bd {α:Type} (h:α→Nat) (m:Nat):∀ l:List α,(∀ a∈l,h a≤m)→(l.map h).sum≤m * l.length∧((l.map h).sum=m * l.length→∀ a∈l,h a=m)
 | [],_=>⟨by simp,fun _ a ha=>by cases ha⟩
 | a :: l,hb=>by
  obtain ⟨h1,h2⟩:=sum_bd h m l fun x hx=>hb x (by simp [hx])
  have:=hb a (by simp)
  simp only [List.map_cons,List.sum_cons,List.length_cons,Nat.mul_succ]
  refine ⟨by omega,fun e x hx=>?_⟩
  rcases List.mem_cons.1 hx with rfl | hx
  ·omega
  exact h2 (by omega) x hx
theorem sum_all {α:Type} (h:α→Nat) (m:Nat):∀ l:List α,(∀ a∈l,h a=m)→(l.map h).sum=m * l.length
 | [],_=>by simp
 | a :: l,hb=>by
  have:=sum_all h m l fun x hx=>hb x (by simp [hx])
  have:=hb a (by simp)
  simp only [List.map_cons,List.sum_cons,List.length_cons,Nat.mul_succ]; omega
def Ltn (step:Nat→Int→Option Nat) (lst:List Nat) (n:Int):Prop:=∀ u∈lst,∀ x v,step u x=some v→-n≤x∧x≤n
def lets (n:Nat):List Int:=(List.range n).flatMap fun i:Nat=>[(i:Int) + 1,-((i:Int) + 1)]
theorem lets_len (n:Nat):(lets n).length=2 * n:=by
 unfold lets
 rw [flat_len,sum_all (fun i:Nat=>[(i:Int) + 1,-((i:Int) + 1)].length) 2 _ fun a _=>rfl,List.length_range]
theorem mem_lets {n:Nat} {x:Int} : x∈lets n↔x ≠ 0∧-(n:Int)≤x∧x≤n:=by
 unfold lets
 rw [List.mem_flatMap]
 constructor
 ·rintro ⟨i,hi,h⟩
  have:=List.mem_range.1 hi
  simp only [List.mem_cons,List.not_mem_nil,or_false] at h
  omega
 rintro ⟨h1,h2,h3⟩
 refine ⟨(x.natAbs - 1),List.mem_range.2 (by omega),?_⟩
 simp only [List.mem_cons,List.not_mem_nil,or_false]; omega
theorem GT.deg_le (g:GT step lst f) {n:Nat} (h:Ltn step lst n) {u:Nat} (hu:u∈lst):(ltS step u).length≤2 * n:=by
 rw [← lets_len n]
 refine nd_le (ltS_nd u) fun x hx=>?_
 obtain ⟨v,hv⟩:=Option.isSome_iff_exists.1 (mem_ltS.1 hx).2
 exact mem_lets.2 ⟨g.nz hu hv,h u hu x v hv⟩
def Full (step:Nat→Int→Option Nat) (lst:List Nat) (n:Nat):Prop:=∀ u∈lst,2 * n≤(ltS step u).length
theorem GT.full_iff (g:GT step lst f) {n:Nat} (h:Ltn step lst n):Full step lst n↔(PE step lst).length=n * lst.length:=by
 have h1:=g.deg
 have h2:=sum_bd (fun u=>(ltS step u).length) (2 * n) lst fun u hu=>g.deg_le h hu
 constructor
 ·intro hf
  have:=sum_all (fun u=>(ltS step u).length) (2 * n) lst fun u hu=>Nat.le_antisymm (g.deg_le h hu) (hf u hu)
  rw [this,Nat.mul_assoc] at h1
  omega
 intro e u hu
 exact Nat.le_of_eq (h2.2 (by rw [h1,e,Nat.mul_assoc]) u hu).symm
end
section
variable {step:Nat→Int→Option Nat} {lst:List Nat} {f:Wy}
def Lang (step:Nat→Int→Option Nat) (S:List (List Int)):Prop:=∀ l,runW step 0 l=some 0↔Mem S l
variable {step' : Nat→Int→Option Nat} {lst' : List Nat} {f' : Wy}
end
end Go.Proofs.Ytneglephfhiamaa

namespace Go.Pv
open Go.RowKit
section
variable {P:Program} {ρ:Go.Shelf.Ren}
end
end Go.Pv

namespace Go.Pv
open Go.RowKit
section
variable {P:Program} {ρ:Go.Shelf.Ren}
def srt (l:List Int):List Int:=l.mergeSort fun x y=>decide (x≤y)
theorem sortI_m (L:Go.Proofs.Lays.n189 P ρ) (zs:List Int) (hlen:zs.length < 4611686018427387904) :
  FnM P (ρ.f 189) [.sl 0 0 zs.length] [.own (opl (il zs))] (.p (.tup [])) [.own (opl (il (srt zs)))]:=by
 refine ⟨⟨_,L.f189,by kernel_rfl,rfl⟩,fun C m w vals R=>?_⟩
 have hsz:vals.size=1:=R.size
 have s0:=R.slot 0
 simp only [St.get,entA,lk,BEq.rfl,cond_true] at s0
 generalize hv0:vals.getD 0 undef=v0 at s0
 have hvals:vals = #[v0]:=by
  apply Array.ext
  ·simpa using hsz
  intro i h1 h2
  simp only [Array.getD_eq_getD_getElem?] at hv0
  match i,h2 with
  | 0,_=>rw [Array.getElem?_eq_getElem h1] at hv0; simpa using hv0
 subst hvals
 cases s0 with
 | sl _ _ _ _ hk0 h0 =>
 by_cases hne:zs=[]
 ·subst hne
  have hcall:∃ p cp,v0 = .slice p 0 cp:=by
   rcases h0 with ⟨_,a,h0⟩ | ⟨l,cp,hm,rfl,hle,hlo⟩
   ·exact ⟨a,_,h0⟩
   exact ⟨_,_,rfl⟩
  obtain ⟨p,cp,rfl⟩:=hcall
  refine (Go.Proofs.Any.slices_Sort_int_none L p cp w).mono fun e2 w2 ⟨he,hw⟩=>?_
  subst he hw
  rw [show srt ([]:List Int)=[] from by simp [srt]]
  exact ⟨.tuple #[],m,rfl,R.laid,R.below,R.base,rfl,R.inj,R.blk,R.fro,fun t=>by
   cases t with
   | zero=>exact .p _ _ (.tup [] #[] rfl fun c h=>absurd h (by simp))
   | succ t=>exact .dead _,R.mp⟩
 have hpos:0 < zs.length:=List.length_pos_iff.2 hne
 rcases h0 with ⟨h0,_⟩ | ⟨l,cp,hm,rfl,hle,hlo⟩
 ·omega
 rcases R.blk 0 (opl (il zs)) rfl with ⟨hx,_⟩ | ⟨l',cur,e,hm',hB,hg,hcs,hmx,hol,hcell⟩
 ·exact absurd (show zs=[] by simpa [opl,il] using hx) hne
 rw [hm] at hm'; cases hm'
 rw [opl_length,il_length] at hol
 have hblk:l.g < w.heap.size:=(Array.getElem?_eq_some_iff.1 hg).1
 have hrd:∀ j (h:j < zs.length),cur.getD (l.o + j) undef = .int .i64 zs[j]:=fun j h=>by
  have:=hcell j (by rw [opl_length,il_length]; exact h)
  simp only [opl,il,List.getElem_map] at this
  have h2:=this.p_inv
  generalize cur.getD (l.o + j) undef=v at h2 ⊢
  cases h2
  rfl
 have hH:Go.Sort.Holds (Value.int .i64) w l.g (l.o + 0) zs.toArray:=fun j hj=>by
  have hj' : j < zs.length:=by simpa using hj
  have hjc:l.o + j < cur.size:=by omega
  refine ⟨?_,?_⟩
  ·rw [getElem!_pos zs.toArray j hj]
   have:=hrd j hj'
   simp only [World.cell?,hg,Nat.add_zero]
   simpa [Array.getD_eq_getD_getElem?,Array.getElem?_eq_getElem hjc] using this
  simp [World.frozen?,hg]
 have hcall:=Go.Proofs.Any.slices_Sort_int L l.g (l.o + 0) cp zs w hH hblk hlen
 refine hcall.mono fun e2 w2 ⟨he,n,os,hw⟩=>?_
 subst he
 refine ⟨.tuple #[],m,rfl,?_⟩
 have hyl:(srt zs).length=zs.length:=(List.mergeSort_perm zs _).length_eq
 have hd' : (zs.mergeSort fun x y=>decide (x≤y)).toArray.size=zs.length:=by simpa using hyl
 have R1:Rel C m ⟨1,entA 0 [.sl 0 0 zs.length],hset ([.own (opl (il zs))]++ancs 0 [Blk.own (opl (il zs))].length) 0 (.own (opl (il (srt zs))))⟩ #[.slice (some ⟨l.g,l.o + 0,none⟩) zs.length cp] (Go.Sort.putRow (Value.int .i64) (Go.Sort.ahead w n) l.g (l.o + 0) (zs.mergeSort fun x y=>decide (x≤y)).toArray):=by
  refine R.setBlk (a:={ tmps:=#[.slice (some ⟨l.g,l.o + 0,none⟩) zs.length cp],defers:=[] }) (c:=opl (il zs)) rfl hm ⟨rfl,rfl,rfl,by simp,fun k hk=>?_,by simp⟩ (fun b hb=>?_) (cur:=Go.Sort.putCells (Value.int .i64) (l.o + 0) (zs.mergeSort fun x y=>decide (x≤y)).toArray cur) (e:=e) ?_ (by simp [Go.Sort.putCells,hcs]) (by rw [opl_length,il_length]; omega) fun j hj=>?_
  ·simp only [Go.Sort.putRow,Go.Sort.mapBlock,Array.getElem?_modify]
   rw [if_neg (fun e=>hk (by rw [← e]; exact hB))]; rfl
  ·simp only [Go.Sort.putRow,Go.Sort.mapBlock,Array.getElem?_modify]
   rw [if_neg (Ne.symm hb)]; rfl
  ·simp only [Go.Sort.putRow,Go.Sort.mapBlock,Array.getElem?_modify]
   rw [if_pos trivial]
   show Option.map _ (w.heap[l.g]?)=_
   rw [hg]; rfl
  rw [opl_length,il_length] at hj
  have hjc:l.o + j < cur.size:=by omega
  have hjd:j < (zs.mergeSort fun x y=>decide (x≤y)).toArray.size:=by omega
  have e3:(Go.Sort.putCells (Value.int .i64) (l.o + 0) (zs.mergeSort fun x y=>decide (x≤y)).toArray cur).getD (l.o + j) undef = .int .i64 ((srt zs)[j]'hj):=by
   simp only [Go.Sort.putCells,Array.getD_eq_getD_getElem?,Array.getElem?_mapIdx,Array.getElem?_eq_getElem hjc,Option.map_some,Option.getD_some]
   rw [if_pos ⟨by omega,by omega⟩,show l.o + j - (l.o + 0)=j by omega,getElem!_pos _ j hjd]
   rfl
  rw [e3]
  have e5:(opl (il (srt zs)))[j]'(by rw [opl_length,il_length]; exact hj) = .p (.int .i64 ((srt zs)[j]'hj)):=by simp [opl,il]
  rw [e5]
  exact .p _ _ (.int _ _)
 have R2:=R1.later (w':=w2) (by
  rw [hw]
  refine ⟨rfl,rfl,rfl,by simp,fun k hk=>?_,Nat.le_refl _⟩
  exact Go.Sort.heap_grow_old _ _ hk)
 exact ⟨R2.laid,R2.below,R2.base,rfl,R2.inj,R2.blk,R2.fro,fun t=>by
  cases t with
  | zero=>exact .p _ _ (.tup [] #[] rfl fun c h=>absurd h (by simp))
  | succ t=>exact .dead _,R2.mp⟩
end
end Go.Pv

namespace Go.Proofs.Ytneglephfhiamaa
open Go.Pv
theorem pw_ext:∀ {l m:List Int},l.Pairwise (· < ·)→m.Pairwise (· < ·)→(∀ x,x∈l↔x∈m)→l=m
 | [],[],_,_,_=>rfl
 | [],y :: m,_,_,h=>absurd ((h y).2 (by simp)) (by simp)
 | x :: l,[],_,_,h=>absurd ((h x).1 (by simp)) (by simp)
 | x :: l,y :: m,h1,h2,h=>by
  rw [List.pairwise_cons] at h1 h2
  have hxy:x=y:=by
   rcases List.mem_cons.1 ((h x).1 (by simp)) with e | e
   ·exact e
   rcases List.mem_cons.1 ((h y).2 (by simp)) with e2 | e2
   ·exact e2.symm
   have:=h2.1 x e
   have:=h1.1 y e2
   omega
  subst hxy
  congr 1
  refine pw_ext h1.2 h2.2 fun z=>?_
  constructor
  ·intro hz
   rcases List.mem_cons.1 ((h z).1 (by simp [hz])) with e | e
   ·have:=h1.1 z hz; omega
   exact e
  intro hz
  rcases List.mem_cons.1 ((h z).2 (by simp [hz])) with e | e
  ·have:=h2.1 z hz; omega
  exact e
def lts (f:Mp):List Int:=((List.range 53).map fun i:Nat=>(i:Int) - 26).filter fun x=>(f x).isSome
theorem mem_lts {f:Mp} {x:Int} : x∈lts f↔(-26≤x∧x≤26)∧(f x).isSome=true:=by
 unfold lts
 rw [List.mem_filter,List.mem_map]
 constructor
 ·rintro ⟨⟨i,hi,rfl⟩,h⟩
  have:=List.mem_range.1 hi
  exact ⟨by omega,h⟩
 rintro ⟨h1,h2⟩
 exact ⟨⟨(x + 26).toNat,List.mem_range.2 (by omega),by omega⟩,h2⟩
theorem lts_pw (f:Mp):(lts f).Pairwise (· < ·):=by
 unfold lts
 refine List.Pairwise.filter _ ?_
 rw [List.pairwise_map]
 exact List.pairwise_lt_range.imp fun h=>by omega
theorem srt_pw {l:List Int} (h:l.Nodup):(srt l).Pairwise (· < ·):=by
 have h1:(srt l).Pairwise fun x y=>decide (x≤y)=true:=List.pairwise_mergeSort (fun a b c h1 h2=>by simp at *; omega) (fun a b=>by simp; omega) l
 have h2:(srt l).Nodup:=(List.mergeSort_perm l _).nodup_iff.2 h
 rw [List.nodup_iff_pairwise_ne] at h2
 exact (h1.and h2).imp fun ⟨a,b⟩=>by simp at a; omega
theorem srt_mem {l:List Int} {x:Int} : x∈srt l↔x∈l:=(List.mergeSort_perm l _).mem_iff
theorem srt_lts {f:Mp} {l:List Int} (h:l.Nodup) (hm:∀ z,(f z).isSome=true↔z∈l) (hb:∀ z∈l,-26≤z∧z≤26):srt l=lts f:=by
 refine pw_ext (srt_pw h) (lts_pw f) fun x=>?_
 rw [srt_mem,mem_lts,hm]
 exact ⟨fun hx=>⟨hb x hx,hx⟩,fun hx=>hx.2⟩
theorem lts_len (f:Mp):(lts f).length≤53:=by
 unfold lts
 refine Nat.le_trans (List.length_filter_le _ _) ?_
 simp
end Go.Proofs.Ytneglephfhiamaa

namespace Go.Proofs.Ytneglephfhiamaa
open Go.Pv
structure BQ (G:List Mp) (U:List Int) (lst:List Nat) (f:Wy) (i:Nat):Prop where
 srt:∀ j k,j≤k→k < lst.length→(wy f (lst.getD j 0)).length≤(wy f (lst.getD k 0)).length
 cap:i < lst.length→∀ j,j < lst.length→(wy f (lst.getD j 0)).length≤(wy f (lst.getD i 0)).length + 1
 dn:∀ j,j < i→∀ x v,v < G.length→rV U v=v→Ed G U (lst.getD j 0) x v→v∈lst∧(wy f v).length≤(wy f (lst.getD j 0)).length + 1
def BL (G:List Mp) (U:List Int) (lst:List Nat) (f:Wy) (i:Nat) (xs:List Int):Prop:=
 ∀ x∈xs,∀ v,v < G.length→rV U v=v→Ed G U (lst.getD i 0) x v→v∈lst∧(wy f v).length≤(wy f (lst.getD i 0)).length + 1
section
variable {G:List Mp} {U:List Int} {lst:List Nat} {f:Wy} {i:Nat}
theorem bq_zero:BQ G U [0] (updW (fun _=>none) 0 []) 0:=by
 refine ⟨fun j k h1 h2=>?_,fun _ j hj=>?_,fun j h=>absurd h (Nat.not_lt_zero _)⟩
 ·simp only [List.length_singleton] at h2
  obtain rfl:k=0:=by omega
  obtain rfl:j=0:=by omega
  exact Nat.le_refl _
 simp only [List.length_singleton] at hj
 obtain rfl:j=0:=by omega
 omega
theorem updW_other {z:Int} {l:List Int} {v:Nat} (h:(v:Int) ≠ z):wy (updW f z l) v=wy f v:=by
 unfold wy updW; rw [if_neg h]
theorem updW_self {u:Nat} {l:List Int} : wy (updW f (u:Int) l) u=l:=by
 unfold wy updW; rw [if_pos rfl]; rfl
theorem snoc_getD {u j:Nat} (h:j < lst.length):(lst++[u]).getD j 0=lst.getD j 0:=by
 rw [List.getD_eq_getElem?_getD,List.getElem?_append_left h,← List.getD_eq_getElem?_getD]
theorem BI.notin (h:BI G U lst f) {u:Nat} (hn:f (u:Int)=none):u ∉ lst:=fun hm=>by
 have:=(h.dom u).2 ⟨u,hm,rfl⟩
 rw [hn] at this; cases this
theorem BI.other (h:BI G U lst f) {u v:Nat} {l:List Int} (hn:f (u:Int)=none) (hv:v∈lst):wy (updW f (u:Int) l) v=wy f v:=
 updW_other fun e=>h.notin hn (by
  have:v=u:=by omega
  exact this ▸ hv)
theorem BQ.snoc (h:BI G U lst f) (q:BQ G U lst f i) (hi:i < lst.length) {u:Nat} {x:Int} (hn:f (u:Int)=none):BQ G U (lst++[u]) (updW f u (wy f (lst.getD i 0)++[x])) i:=by
 have old:∀ j,j < lst.length→wy (updW f u (wy f (lst.getD i 0)++[x])) ((lst++[u]).getD j 0)=wy f (lst.getD j 0):=fun j hj=>by
  rw [snoc_getD hj]; exact h.other hn (mem_ix hj)
 have new:wy (updW f u (wy f (lst.getD i 0)++[x])) ((lst++[u]).getD lst.length 0)=wy f (lst.getD i 0)++[x]:=by
  have:(lst++[u]).getD lst.length 0=u:=by simp
  rw [this]; exact updW_self
 have hl:(lst++[u]).length=lst.length + 1:=by simp
 refine ⟨fun j k h1 h2=>?_,fun _ j hj=>?_,fun j hj y v hv hr he=>?_⟩
 ·rw [hl] at h2
  by_cases e:k < lst.length
  ·rw [old j (by omega),old k e]; exact q.srt j k h1 e
  obtain rfl:k=lst.length:=by omega
  rw [new,List.length_append,List.length_singleton]
  by_cases e2:j < lst.length
  ·rw [old j e2]; exact q.cap hi j e2
  obtain rfl:j=lst.length:=by omega
  rw [new]; simp
 ·rw [hl] at hj
  rw [old i hi]
  by_cases e:j < lst.length
  ·rw [old j e]; exact q.cap hi j e
  obtain rfl:j=lst.length:=by omega
  rw [new]; simp
 rw [snoc_getD (by omega)] at he
 obtain ⟨h1,h2⟩:=q.dn j hj y v hv hr he
 rw [old j (by omega),h.other hn h1]
 exact ⟨List.mem_append_left _ h1,h2⟩
theorem BL.snoc {xs:List Int} (h:BI G U lst f) (b:BL G U lst f i xs) (hi:i < lst.length) {u:Nat} {x:Int} (hn:f (u:Int)=none):BL G U (lst++[u]) (updW f u (wy f (lst.getD i 0)++[x])) i xs:=fun y hy v hv hr he=>by
 rw [snoc_getD hi] at he ⊢
 obtain ⟨h1,h2⟩:=b y hy v hv hr he
 rw [h.other hn (mem_ix hi),h.other hn h1]
 exact ⟨List.mem_append_left _ h1,h2⟩
theorem BL.more {xs:List Int} (b:BL G U lst f i xs) {x:Int} {u:Nat} (hu:u∈lst) (hl:(wy f u).length≤(wy f (lst.getD i 0)).length + 1) (hx:∀ v,v < G.length→rV U v=v→Ed G U (lst.getD i 0) x v→v=u):BL G U lst f i (xs++[x]):=fun y hy v hv hr he=>by
 rcases List.mem_append.1 hy with hy | hy
 ·exact b y hy v hv hr he
 rw [List.mem_singleton] at hy
 subst hy
 rw [hx v hv hr he]
 exact ⟨hu,hl⟩
theorem BQ.next (q:BQ G U lst f i) {xs:List Int} (b:BL G U lst f i xs) (hx:∀ x v,v < G.length→rV U v=v→Ed G U (lst.getD i 0) x v→x∈xs):BQ G U lst f (i + 1):=by
 refine ⟨q.srt,fun h j hj=>?_,fun j hj x v hv hr he=>?_⟩
 ·have h1:=q.cap (by omega) j hj
  have h2:=q.srt i (i + 1) (by omega) h
  omega
 by_cases e:j < i
 ·exact q.dn j e x v hv hr he
 obtain rfl:j=i:=by omega
 exact b x (hx x v hv hr he) v hv hr he
theorem BQ.up {U' : List Int} (q:BQ G U lst f i) (h:BI G U lst f) (w:WG G U) (hr:∀ u,u < G.length→rV U' u=rV U u) (hi:i≤lst.length):BQ G U' lst f i:=
 ⟨q.srt,q.cap,fun j hj x v hv hrv he=>q.dn j hj x v hv (by rw [← hr v hv]; exact hrv) ((Ed.rv w hr (h.rt _ (mem_ix (by omega))).1 hv).1 he)⟩
theorem BL.up {U' : List Int} {xs:List Int} (b:BL G U lst f i xs) (h:BI G U lst f) (w:WG G U) (hr:∀ u,u < G.length→rV U' u=rV U u) (hi:i < lst.length):BL G U' lst f i xs:=fun x hx v hv hrv he =>
 b x hx v hv (by rw [← hr v hv]; exact hrv) ((Ed.rv w hr (h.rt _ (mem_ix hi)).1 hv).1 he)
theorem bq_gt (w0:WG G U) (hp:0 < G.length) (hs:SymW G U []) (h:BI G U lst f) (q:BQ G U lst f lst.length):GT (stR G U) lst f∧∀ u∈lst,∀ w,runW (stR G U) 0 w=some u→(wy f u).length≤w.length:=by
 have hst:∀ {u v:Nat} {x:Int},stR G U u x=some v→u < G.length∧rV U u=u∧v < G.length∧rV U v=v∧Ed G U u x v:=fun {u v x} hsx=>by
  obtain ⟨h1,h2⟩:=stR_root w0 hsx
  rw [stR_of h1] at hsx
  exact ⟨h1.1,h1.2,h2.1,h2.2,(stp_ed w0 h1 h2.2).1 hsx⟩
 have dn:∀ u∈lst,∀ x v,stR G U u x=some v→v∈lst∧(wy f v).length≤(wy f u).length + 1:=fun u hu x v hsx=>by
  obtain ⟨_,_,a3,a4,a5⟩:=hst hsx
  obtain ⟨j,hj,rfl⟩:=ix_of hu
  exact q.dn j hj x v a3 a4 a5
 refine ⟨⟨stR_inv w0 hs,h.nd,h.hd,h.dom,h.zero,fun j hj h0=>?_,fun u hu x v hsx=>(dn u hu x v hsx).1,fun u hu x v hsx=>?_⟩,?_⟩
 ·obtain ⟨i,x,l,a1,a2,a3,a4⟩:=h.tree j hj h0
  have m1:=h.rt _ (mem_ix (l:=lst) (i:=i) (by omega))
  have m2:=h.rt _ (mem_ix (l:=lst) hj)
  exact ⟨i,x,l,a1,a2,a3,by rw [stR_of m1]; exact (stp_ed w0 m1 m2.2).2 a4⟩
 ·obtain ⟨a1,a2,a3,a4,d,a5,a6⟩:=hst hsx
  rw [a2] at a5
  exact (w0.ent u x d a1 a5).2.2
 have go:∀ (w:List Int) (u v:Nat),u∈lst→runW (stR G U) u w=some v→v∈lst∧(wy f v).length≤(wy f u).length + w.length:=by
  intro w
  induction w with
  | nil=>intro u v hu h; obtain rfl:=Option.some.inj h; exact ⟨hu,by simp⟩
  | cons x w ih =>
   intro u v hu h
   unfold runW at h
   cases e:stR G U u x with
   | none=>rw [e] at h; cases h
   | some m =>
    rw [e] at h
    obtain ⟨h1,h2⟩:=dn u hu x m e
    obtain ⟨h3,h4⟩:=ih m v h1 h
    refine ⟨h3,?_⟩
    simp only [List.length_cons]; omega
 intro u hu w hw
 have h0:(0:Nat)∈lst:=List.mem_of_mem_head? (by rw [h.hd]; rfl)
 have:=(go w 0 u h0 hw).2
 have hw0:wy f 0=[]:=by unfold wy; rw [show ((0:Nat):Int)=0 from rfl,h.zero]; rfl
 rw [hw0] at this
 simpa using this
theorem stR_eq {U' : List Int} (w:WG G U) (hr:∀ u,u < G.length→rV U' u=rV U u):stR G U' = stR G U:=by
 funext u x
 unfold stR
 by_cases hu:u < G.length
 ·rw [hr u hu]
  by_cases h:rV U u=u
  ·rw [if_pos ⟨hu,h⟩,if_pos ⟨hu,h⟩]
   unfold stp
   cases e:gm G u x with
   | none=>rfl
   | some d =>
    have:=(w.ent u x d hu e).2.1
    simp only [Option.map_some,hr _ this]
  rw [if_neg fun e=>h e.2,if_neg fun e=>h e.2]
 rw [if_neg fun e=>hu e.1,if_neg fun e=>hu e.1]
theorem lts_ltS {u:Nat} (h:u < G.length∧rV U u=u):lts (gm G u)=ltS (stR G U) u:=by
 unfold lts ltS
 refine List.filter_congr fun x _=>?_
 rw [stR_of h]
 unfold stp
 cases gm G u x<;>rfl
end
end Go.Proofs.Ytneglephfhiamaa

namespace Go.Proofs.Ytneglephfhiamaa
open Go.Pv
structure CG (step:Nat→Int→Option Nat) (lst:List Nat):Prop where
 inv:InvS step
 nd:lst.Nodup
 m0:0∈lst
 cl:∀ u∈lst,∀ x v,step u x=some v→v∈lst
 lt:∀ u∈lst,∀ x v,step u x=some v→x ≠ 0∧-26≤x∧x≤26
 con:∀ u∈lst,∃ w,runW step 0 w=some u
def UniG (step:Nat→Int→Option Nat) (lst:List Nat) (S:List (List Int)):Prop:=
 ∀ (X:Type) (st:X→Int→Option X) (x0:X),InvS st→(∀ w∈S,runW st x0 w=some x0)→∃ κ:Nat→X,κ 0=x0∧∀ u∈lst,∀ x v,step u x=some v→st (κ u) x=some (κ v)
section
variable {step step' : Nat→Int→Option Nat} {lst lst' : List Nat} {f f' : Wy} {S:List (List Int)}
theorem GT.cg (g:GT step lst f):CG step lst:=⟨g.inv,g.nd,g.mem0,g.cl,g.lt,fun u hu=>⟨_,g.run u hu⟩⟩
theorem mem_PE0 (hlt:∀ u∈lst,∀ x v,step u x=some v→x ≠ 0∧-26≤x∧x≤26) {u:Nat} {x:Int} : (u,x)∈PE step lst↔u∈lst∧0 < x∧(step u x).isSome=true:=by
 unfold PE
 rw [List.mem_flatMap]
 constructor
 ·rintro ⟨v,hv,h⟩
  obtain ⟨y,hy,e⟩:=List.mem_map.1 h
  injection e with e1 e2
  subst e1; subst e2
  have:=List.mem_filter.1 hy
  exact ⟨hv,by simpa using this.2,(mem_ltS.1 this.1).2⟩
 rintro ⟨hu,hx,hs⟩
 refine ⟨u,hu,List.mem_map.2 ⟨x,List.mem_filter.2 ⟨mem_ltS.2 ⟨?_,hs⟩,by simpa using hx⟩,rfl⟩⟩
 obtain ⟨v,hv⟩:=Option.isSome_iff_exists.1 hs
 exact (hlt u hu x v hv).2
theorem CG.inL (c:CG step lst):∀ {w:List Int} {u v:Nat},u∈lst→runW step u w=some v→v∈lst
 | [],u,v,hu,h=>by obtain rfl:=Option.some.inj h; exact hu
 | x :: w,u,v,hu,h=>by
  unfold runW at h
  cases e:step u x with
  | none=>rw [e] at h; cases h
  | some m=>rw [e] at h; exact c.inL (c.cl u hu x m e) h
theorem run_hom {X:Type} {st:X→Int→Option X} {κ:Nat→X} (c:CG step lst) (h:∀ u∈lst,∀ x v,step u x=some v→st (κ u) x=some (κ v)):∀ {w:List Int} {u v:Nat},u∈lst→runW step u w=some v→runW st (κ u) w=some (κ v)
 | [],u,v,hu,e=>by obtain rfl:=Option.some.inj e; rfl
 | x :: w,u,v,hu,e=>by
  unfold runW at e ⊢
  cases e1:step u x with
  | none=>rw [e1] at e; cases e
  | some m =>
   rw [e1] at e
   rw [h u hu x m e1]
   exact run_hom c h (c.cl u hu x m e1) e
theorem lang_of (c:CG step lst) (u:UniG step lst S) (h:∀ s∈S,runW step 0 s=some 0):Lang step S:=fun l=>by
 constructor
 ·intro hr X st x0 hi hc
  obtain ⟨κ,k1,k2⟩:=u X st x0 hi hc
  have:=run_hom c k2 c.m0 hr
  rwa [k1] at this
 intro hm
 exact hm Nat step 0 c.inv h
theorem cg_half (c:CG step lst) (c' : CG step' lst') (u:UniG step lst S) (u' : UniG step' lst' S) (h:∀ s∈S,runW step 0 s=some 0) (h' : ∀ s∈S,runW step' 0 s=some 0) :
  lst.length≤lst'.length∧(PE step lst).length≤(PE step' lst').length:=by
 obtain ⟨κ,k1,k2⟩:=u Nat step' 0 c'.inv h'
 obtain ⟨μ,m1,m2⟩:=u' Nat step 0 c.inv h
 have hκ:∀ a∈lst,κ a∈lst'∧μ (κ a)=a:=fun a ha=>by
  obtain ⟨w,hw⟩:=c.con a ha
  have h1:=run_hom c k2 c.m0 hw
  rw [k1] at h1
  have h2:=run_hom c' m2 c'.m0 h1
  rw [m1,hw] at h2
  exact ⟨c'.inL c'.m0 h1,(Option.some.inj h2).symm⟩
 have inj:∀ a∈lst,∀ b∈lst,κ a=κ b→a=b:=fun a ha b hb e=>by rw [← (hκ a ha).2,e,(hκ b hb).2]
 constructor
 ·have e:(lst.map κ).length=lst.length:=List.length_map ..
  rw [← e]
  exact nd_le (nodup_mapF c.nd inj) fun x hx=>by
   obtain ⟨a,ha,rfl⟩:=List.mem_map.1 hx
   exact (hκ a ha).1
 have e:((PE step lst).map fun p=>(κ p.1,p.2)).length=(PE step lst).length:=List.length_map ..
 rw [← e]
 refine nd_le (nodup_mapF (PE_nd c.nd) fun a ha b hb e=>?_) fun x hx=>?_
 ·injection e with e1 e2
  exact Prod.ext (inj _ ((mem_PE0 c.lt).1 ha).1 _ ((mem_PE0 c.lt).1 hb).1 e1) e2
 obtain ⟨⟨a,y⟩,ha,rfl⟩:=List.mem_map.1 hx
 obtain ⟨h1,h2,h3⟩:=(mem_PE0 c.lt).1 ha
 obtain ⟨v,hv⟩:=Option.isSome_iff_exists.1 h3
 exact (mem_PE0 c'.lt).2 ⟨(hκ a h1).1,h2,by rw [k2 a h1 y v hv]; rfl⟩
theorem cg_iso (c:CG step lst) (c' : CG step' lst') (u:UniG step lst S) (u' : UniG step' lst' S) (h:∀ s∈S,runW step 0 s=some 0) (h' : ∀ s∈S,runW step' 0 s=some 0) :
  lst.length=lst'.length∧(PE step lst).length=(PE step' lst').length:=
 ⟨Nat.le_antisymm (cg_half c c' u u' h h').1 (cg_half c' c u' u h' h).1,Nat.le_antisymm (cg_half c c' u u' h h').2 (cg_half c' c u' u h' h).2⟩
structure IsG (S:List (List Int)) (step:Nat→Int→Option Nat) (lst:List Nat) (f:Wy):Prop where
 gt:GT step lst f
 uni:UniG step lst S
 cl:∀ s∈S,runW step 0 s=some 0
 far:∀ u∈lst,∀ w,runW step 0 w=some u→(wy f u).length≤w.length
theorem IsG.lang (h:IsG S step lst f):Lang step S:=lang_of h.gt.cg h.uni h.cl
structure IsC (S:List (List Int)) (step:Nat→Int→Option Nat) (lst:List Nat):Prop where
 cg:CG step lst
 uni:UniG step lst S
 cl:∀ s∈S,runW step 0 s=some 0
theorem IsG.isC (h:IsG S step lst f):IsC S step lst:=⟨h.gt.cg,h.uni,h.cl⟩
open Classical in
noncomputable def vS (S:List (List Int)):Nat:=if h:∃ p:(Nat→Int→Option Nat) × List Nat,IsC S p.1 p.2 then h.choose.2.length else 0
open Classical in
noncomputable def eS (S:List (List Int)):Nat:=if h:∃ p:(Nat→Int→Option Nat) × List Nat,IsC S p.1 p.2 then (PE h.choose.1 h.choose.2).length else 0
theorem IsC.cnt (h:IsC S step lst):lst.length=vS S∧(PE step lst).length=eS S:=by
 have hx:∃ p:(Nat→Int→Option Nat) × List Nat,IsC S p.1 p.2:=⟨(step,lst),h⟩
 have h2:=hx.choose_spec
 have:=cg_iso h.cg h2.cg h.uni h2.uni h.cl h2.cl
 unfold vS eS
 rw [dif_pos hx,dif_pos hx]
 exact this
theorem IsG.cnt (h:IsG S step lst f):lst.length=vS S∧(PE step lst).length=eS S:=h.isC.cnt
theorem IsG.rank (h:IsG S step lst f):(basS step lst f).length + vS S=eS S + 1:=by
 have:=basS_len h.gt
 rw [← h.cnt.1,← h.cnt.2]; exact this
theorem uni_ltn (c:CG step lst) (u:UniG step lst S) {n:Int} (hS:∀ s∈S,∀ x∈s,-n≤x∧x≤n):Ltn step lst n:=by
 obtain ⟨κ,_,k2⟩:=u Unit (fun _ x=>if -n≤x∧x≤n then some () else none) () (fun c d x _ h=>by
  cases c; cases d
  dsimp only at h ⊢
  by_cases h2 : -n≤x∧x≤n
  ·rw [if_pos (by omega)]
  ·rw [if_neg h2] at h; cases h) fun s hs=>by
  have:∀ w:List Int,(∀ x∈w,-n≤x∧x≤n)→runW (fun (_:Unit) x=>if -n≤x∧x≤n then some () else none) () w=some ():=by
   intro w
   induction w with
   | nil=>intro _; rfl
   | cons x w ih =>
    intro h
    unfold runW
    rw [if_pos (h x (by simp))]
    exact ih fun y hy=>h y (by simp [hy])
  exact this s (hS s hs)
 intro a ha x v h
 have:=k2 a ha x v h
 by_cases h2 : -n≤x∧x≤n
 ·exact h2
 rw [if_neg h2] at this; cases this
theorem IsG.full (h:IsG S step lst f) {n:Nat} (hS:∀ s∈S,∀ x∈s,-(n:Int)≤x∧x≤n):Full step lst n↔eS S=n * vS S:=by
 rw [h.gt.full_iff (uni_ltn h.gt.cg h.uni hS),h.cnt.1,h.cnt.2]
end
theorem fi_isG {G:List Mp} {U:List Int} {S:List (List Int)} {lst:List Nat} {f:Wy} (fi:FI S G U S 0 []) (g:GT (stR G U) lst f) (hrt:∀ u∈lst,u < G.length∧rV U u=u) (hf:∀ u∈lst,∀ w,runW (stR G U) 0 w=some u→(wy f u).length≤w.length):IsG S (stR G U) lst f:=by
 have hz:rV U 0=0:=rV_zero fi.wg.fo (by rw [fi.wg.len]; exact fi.pos)
 refine ⟨g,fun X st x0 hi hc=>?_,fun s hs=>?_,hf⟩
 ·obtain ⟨κ,k1,k2,_⟩:=fi.uni X st x0 hi hc
  refine ⟨κ,k1,fun u hu x v hs=>?_⟩
  obtain ⟨h1,h2⟩:=stR_root fi.wg hs
  rw [stR_of h1] at hs
  exact k2.2 u x v h1.1 h2.1 (pe_nil.2 ((stp_ed fi.wg h1 h2.2).1 hs))
 have:=pth_run fi.wg s 0 0 fi.pos fi.pos (fi.cl s hs)
 rwa [hz] at this
end Go.Proofs.Ytneglephfhiamaa

namespace Go.Proofs.Ytneglephfhiamaa
open Go.Pv
def e3d:E3:=(0,0,0)
def cl2 (s t:E3):Option (Nat × Nat):=if s.2.1 ≠ t.2.1 then none else if s.1=t.1∧s.2.2 ≠ t.2.2 then some (s.2.2,t.2.2) else if s.2.2=t.2.2∧s.1 ≠ t.1 then some (s.1,t.1) else none
def clashS (e:List E3):Option (Nat × Nat):=(List.range e.length).findSome? fun i=>(List.range i).findSome? fun k=>cl2 (e.getD i e3d) (e.getD k e3d)
def dd:List E3→List E3→List E3
 | f,[]=>f
 | f,x :: r=>if x∈f then dd f r else dd (f++[x]) r
def onceS (e:List E3) (a b:Nat):List E3:=dd [] (e.map (rhoE a b))
def foldF:Nat→List E3→List E3
 | 0,e=>e
 | n + 1,e=>match clashS e with
  | none=>e
  | some (a,b)=>foldF n (onceS e (min a b) (max a b))
def edE (at_:Nat) (x:Int) (to:Nat):E3:=if 0 < x then (at_,x,to) else (to,-x,at_)
def bqW:List Int→Nat→Nat→List E3→Nat × List E3
 | [],_,n,e=>(n,e)
 | x :: r,at_,n,e=>match r with
  | []=>(n,e++[edE at_ x 0])
  | _ :: _=>bqW r n (n + 1) (e++[edE at_ x n])
def bqL:List (List Int)→Nat→List E3→Nat × List E3
 | [],n,e=>(n,e)
 | w :: r,n,e=>bqL r (bqW w 0 n e).1 (bqW w 0 n e).2
theorem mem_dd:∀ (r f:List E3) (t:E3),t∈dd f r↔t∈f∨t∈r
 | [],f,t=>by simp [dd]
 | x :: r,f,t=>by
  unfold dd
  split
  ·rename_i h
   rw [mem_dd r f t]
   constructor
   ·rintro (h1 | h1)
    ·exact .inl h1
    exact .inr (List.mem_cons_of_mem _ h1)
   rintro (h1 | h1)
   ·exact .inl h1
   rcases List.mem_cons.1 h1 with rfl | h1
   ·exact .inl h
   exact .inr h1
  rw [mem_dd r _ t]
  simp only [List.mem_append,List.mem_cons,List.not_mem_nil,or_false]
  constructor
  ·rintro ((h1 | h1) | h1)
   ·exact .inl h1
   ·exact .inr (.inl h1)
   exact .inr (.inr h1)
  rintro (h1 | h1 | h1)
  ·exact .inl (.inl h1)
  ·exact .inl (.inr h1)
  exact .inr h1
theorem dd_nd:∀ (r f:List E3),f.Nodup→(dd f r).Nodup
 | [],f,h=>h
 | x :: r,f,h=>by
  unfold dd
  split
  ·exact dd_nd r f h
  rename_i hx
  refine dd_nd r _ ?_
  rw [List.nodup_append]
  exact ⟨h,by simp,fun a ha b hb=>by rw [List.mem_singleton] at hb; subst hb; exact fun e=>hx (e ▸ ha)⟩
theorem dd_len:∀ (r f:List E3),(dd f r).length≤f.length + r.length
 | [],f=>Nat.le_refl _
 | x :: r,f=>by
  unfold dd
  split
  ·have:=dd_len r f; simp only [List.length_cons]; omega
  have:=dd_len r (f++[x]); simp only [List.length_append,List.length_cons,List.length_nil] at this ⊢; omega
theorem mem_once {e:List E3} {a b:Nat} {t:E3} : t∈onceS e a b↔∃ s∈e,rhoE a b s=t:=by
 unfold onceS
 rw [mem_dd,List.mem_map]
 simp
theorem once_nd (e:List E3) (a b:Nat):(onceS e a b).Nodup:=dd_nd _ _ List.nodup_nil
theorem once_len (e:List E3) (a b:Nat):(onceS e a b).length≤e.length:=by
 have:=dd_len (e.map (rhoE a b)) []
 simpa [onceS] using this
theorem rho_id (u:Nat):rho 0 0 u=u:=by
 unfold rho; split
 ·rename_i h; exact h.symm
 rfl
theorem once_zero {e:List E3} {t:E3} : t∈onceS e 0 0↔t∈e:=by
 rw [mem_once]
 have hr:∀ s:E3,rhoE 0 0 s=s:=fun s=>by unfold rhoE; rw [rho_id,rho_id]
 constructor
 ·rintro ⟨s,hs,rfl⟩; rw [hr]; exact hs
 intro h; exact ⟨t,h,hr t⟩
theorem find_at {α:Type} {f:Nat→Option α} {n i:Nat} {p:α} (hi:i < n) (h1:∀ j,j < i→f j=none) (h2:f i=some p):(List.range n).findSome? f=some p:=by
 obtain ⟨r,rfl⟩:∃ r,n=i + (r + 1):=⟨n - i - 1,by omega⟩
 have h0:(List.range i).findSome? f=none:=by
  rw [List.findSome?_eq_none_iff]
  exact fun j hj=>h1 j (List.mem_range.1 hj)
 rw [List.range_add,List.findSome?_append,h0]
 rw [List.range_succ_eq_map]
 simp only [List.map_cons,List.findSome?_cons,Nat.add_zero,h2,Option.none_or]
theorem find_none {α:Type} {f:Nat→Option α} {n:Nat} (h1:∀ j,j < n→f j=none):(List.range n).findSome? f=none:=by
 rw [List.findSome?_eq_none_iff]
 exact fun j hj=>h1 j (List.mem_range.1 hj)
theorem find_some {α:Type} {f:Nat→Option α} {n:Nat} {p:α} (h:(List.range n).findSome? f=some p):∃ i,i < n∧f i=some p:=by
 obtain ⟨i,hi,hf⟩:=List.exists_of_findSome?_eq_some h
 exact ⟨i,List.mem_range.1 hi,hf⟩
theorem mem_e3 {e:List E3} {i:Nat} (h:i < e.length):e.getD i e3d∈e:=by
 rw [List.getD_eq_getElem?_getD,List.getElem?_eq_getElem h]; exact List.getElem_mem h
theorem cl2_some {s t:E3} {a b:Nat} (h:cl2 s t=some (a,b)):s.2.1=t.2.1∧a ≠ b∧((s.1=t.1∧s.2.2=a∧t.2.2=b)∨(s.2.2=t.2.2∧s.1=a∧t.1=b)):=by
 unfold cl2 at h
 split at h
 ·cases h
 rename_i h1
 split at h
 ·rename_i h2
  have:=Option.some.inj h
  injection this with e1 e2
  exact ⟨by simpa using h1,by rw [← e1,← e2]; exact h2.2,.inl ⟨h2.1,e1,e2⟩⟩
 split at h
 ·rename_i h2
  have:=Option.some.inj h
  injection this with e1 e2
  exact ⟨by simpa using h1,by rw [← e1,← e2]; exact h2.2,.inr ⟨h2.1,e1,e2⟩⟩
 cases h
theorem clash_some {e:List E3} {a b:Nat} (h:clashS e=some (a,b)):Clash e a b∧a ≠ b:=by
 obtain ⟨i,hi,h1⟩:=find_some h
 obtain ⟨k,hk,h2⟩:=find_some h1
 obtain ⟨c1,c2,c3⟩:=cl2_some h2
 exact ⟨⟨_,mem_e3 hi,_,mem_e3 (by omega),c1,c3⟩,c2⟩
theorem clash_none {e:List E3} (h:clashS e=none):Det e:=by
 have hn:∀ i k,i < e.length→k < i→cl2 (e.getD i e3d) (e.getD k e3d)=none:=fun i k hi hk=>by
  have h1:=(List.findSome?_eq_none_iff.1 h) i (List.mem_range.2 hi)
  exact (List.findSome?_eq_none_iff.1 h1) k (List.mem_range.2 hk)
 have key:∀ i k,i < e.length→k < i→(e.getD i e3d).2.1=(e.getD k e3d).2.1→((e.getD i e3d).1=(e.getD k e3d).1↔(e.getD i e3d).2.2=(e.getD k e3d).2.2):=fun i k hi hk hx=>by
  have h1:=hn i k hi hk
  unfold cl2 at h1
  rw [if_neg (by simpa using hx)] at h1
  split at h1
  ·cases h1
  rename_i h2
  split at h1
  ·cases h1
  rename_i h3
  constructor
  ·intro h4; exact Classical.byContradiction fun h5=>h2 ⟨h4,h5⟩
  intro h4; exact Classical.byContradiction fun h5=>h3 ⟨h4,h5⟩
 have key2:∀ s∈e,∀ t∈e,s.2.1=t.2.1→(s.1=t.1↔s.2.2=t.2.2):=fun s hs t ht hx=>by
  obtain ⟨i,hi,rfl⟩:=List.getElem_of_mem hs
  obtain ⟨k,hk,rfl⟩:=List.getElem_of_mem ht
  have ei:e[i]=e.getD i e3d:=by rw [List.getD_eq_getElem?_getD,List.getElem?_eq_getElem hi]; rfl
  have ek:e[k]=e.getD k e3d:=by rw [List.getD_eq_getElem?_getD,List.getElem?_eq_getElem hk]; rfl
  rw [ei,ek] at hx ⊢
  rcases Nat.lt_trichotomy i k with h | h | h
  ·have:=key k i hk h hx.symm
   exact ⟨fun h=>(this.1 h.symm).symm,fun h=>(this.2 h.symm).symm⟩
  ·subst h; exact ⟨fun _=>rfl,fun _=>rfl⟩
  exact key i k hi h hx
 refine det_of fun a b ⟨s,hs,t,ht,hx,hc⟩=>?_
 rcases hc with ⟨h1,rfl,rfl⟩ | ⟨h1,rfl,rfl⟩
 ·exact (key2 s hs t ht hx).1 h1
 exact (key2 s hs t ht hx).2 h1
structure FC (S:List (List Int)) (e:List E3):Prop where
 fe:FE S e
 let26:∀ t∈e,t.2.1≤26
 con:∀ t∈e,∃ w,PthE e 0 w t.1
theorem PthE.app {e:List E3} : ∀ {w v:List Int} {a b c:Nat},PthE e a w b→PthE e b v c→PthE e a (w++v) c
 | [],v,a,b,c,h,h2=>by rw [PthE] at h; subst h; exact h2
 | x :: w,v,a,b,c,⟨m,h1,h3⟩,h2=>⟨m,h1,PthE.app h3 h2⟩
theorem FE.congr {S:List (List Int)} {e f:List E3} (h:FE S e) (hm:∀ t,t∈f↔t∈e):FE S f:=by
 refine ⟨fun t ht=>h.pos t ((hm t).1 ht),fun w hw=>(h.cl w hw).mono fun t ht=>(hm t).2 ht,fun X step x0 hi hc=>?_⟩
 obtain ⟨κ,k1,k2⟩:=h.uni X step x0 hi hc
 exact ⟨κ,k1,fun t ht=>k2 t ((hm t).1 ht)⟩
theorem FC.congr {S:List (List Int)} {e f:List E3} (h:FC S e) (hm:∀ t,t∈f↔t∈e):FC S f:=
 ⟨h.fe.congr hm,fun t ht=>h.let26 t ((hm t).1 ht),fun t ht=>(h.con t ((hm t).1 ht)).imp fun w hw=>hw.mono fun t ht=>(hm t).2 ht⟩
theorem FC.join {S:List (List Int)} {e:List E3} {a b:Nat} (h:FC S e) (hc:Clash e a b∨Clash e b a) (hb:b ≠ 0):FC S (onceS e a b):=by
 refine ⟨h.fe.join hc hb (fun t ht=>mem_once.1 ht) fun t ht=>mem_once.2 ⟨t,ht,rfl⟩,fun t ht=>?_,fun t ht=>?_⟩
 ·obtain ⟨s,hs,rfl⟩:=mem_once.1 ht
  exact h.let26 s hs
 obtain ⟨s,hs,rfl⟩:=mem_once.1 ht
 obtain ⟨w,hw⟩:=h.con s hs
 have:=hw.map (a:=a) (b:=b) (f:=onceS e a b) fun t ht=>mem_once.2 ⟨t,ht,rfl⟩
 have h0:rho a b 0=0:=if_neg (fun e=>hb e.symm)
 rw [h0] at this
 exact ⟨w,this⟩
def occ (N:Nat) (e:List E3):Nat:=(List.range N).countP fun v=>decide (∃ t∈e,t.1=v∨t.2.2=v)
theorem occ_le (N:Nat) (e:List E3):occ N e≤N:=by
 have:=List.countP_le_length (p:=fun v=>decide (∃ t∈e,t.1=v∨t.2.2=v)) (l:=List.range N)
 simpa [occ] using this
theorem clash_mem {e:List E3} {a b:Nat} (h:Clash e a b):(∃ t∈e,t.1=a∨t.2.2=a)∧∃ t∈e,t.1=b∨t.2.2=b:=by
 obtain ⟨s,hs,t,ht,_,⟨_,h1,h2⟩ | ⟨_,h1,h2⟩⟩:=h
 ·exact ⟨⟨s,hs,.inr h1⟩,t,ht,.inr h2⟩
 exact ⟨⟨s,hs,.inl h1⟩,t,ht,.inl h2⟩
def Lt (N:Nat) (e:List E3):Prop:=∀ t∈e,t.1 < N∧t.2.2 < N
theorem lt_clash {N:Nat} {e:List E3} {a b:Nat} (hl:Lt N e) (h:Clash e a b):a < N∧b < N:=by
 obtain ⟨⟨s,hs,h1⟩,t,ht,h2⟩:=clash_mem h
 have:=hl s hs
 have:=hl t ht
 omega
theorem lt_once {N:Nat} {e:List E3} {a b:Nat} (hl:Lt N e) (ha:a < N):Lt N (onceS e a b):=fun t ht=>by
 obtain ⟨s,hs,rfl⟩:=mem_once.1 ht
 have:=hl s hs
 unfold rhoE rho
 simp only
 constructor<;>split<;>omega
theorem occ_once {N:Nat} {e:List E3} {a b:Nat} (hl:Lt N e) (h:Clash e a b∨Clash e b a) (hne:a ≠ b):occ N (onceS e a b) < occ N e:=by
 have hab:(∃ t∈e,t.1=a∨t.2.2=a)∧(∃ t∈e,t.1=b∨t.2.2=b)∧b < N:=by
  rcases h with h | h
  ·exact ⟨(clash_mem h).1,(clash_mem h).2,(lt_clash hl h).2⟩
  exact ⟨(clash_mem h).2,(clash_mem h).1,(lt_clash hl h).1⟩
 obtain ⟨h1,h2,h3⟩:=hab
 unfold occ
 refine countP_lt _ b (List.mem_range.2 h3) (by simpa using h2) ?_ fun x hx hx2=>?_
 ·simp only [decide_eq_false_iff_not,not_exists,not_and]
  intro t ht
  obtain ⟨s,hs,rfl⟩:=mem_once.1 ht
  unfold rhoE rho
  simp only
  intro hh
  rcases hh with hh | hh<;>split at hh<;>omega
 simp only [decide_eq_true_eq] at hx2 ⊢
 obtain ⟨t,ht,hh⟩:=hx2
 obtain ⟨s,hs,rfl⟩:=mem_once.1 ht
 unfold rhoE rho at hh
 simp only at hh
 rcases hh with hh | hh
 ·split at hh
  ·rw [← hh]; exact h1
  exact ⟨s,hs,.inl hh⟩
 split at hh
 ·rw [← hh]; exact h1
 exact ⟨s,hs,.inr hh⟩
theorem foldF_spec {S:List (List Int)} {N:Nat} : ∀ (n:Nat) (e:List E3),FC S e→Lt N e→occ N e≤n→FC S (foldF n e)∧Det (foldF n e)∧(e.Nodup→(foldF n e).Nodup)∧(foldF n e).length≤e.length
 | 0,e,h,hl,hn=>by
  refine ⟨h,?_,id,Nat.le_refl _⟩
  cases hc:clashS e with
  | none=>exact clash_none hc
  | some p =>
   obtain ⟨a,b⟩:=p
   obtain ⟨h1,h2⟩:=clash_some hc
   have:=occ_once hl (.inl h1) h2
   omega
 | n + 1,e,h,hl,hn=>by
  unfold foldF
  cases hc:clashS e with
  | none=>exact ⟨h,clash_none hc,id,Nat.le_refl _⟩
  | some p =>
   obtain ⟨a,b⟩:=p
   obtain ⟨h1,h2⟩:=clash_some hc
   have hcl:Clash e (min a b) (max a b)∨Clash e (max a b) (min a b):=by
    rcases Nat.le_total a b with h3 | h3
    ·rw [Nat.min_eq_left h3,Nat.max_eq_right h3]; exact .inl h1
    rw [Nat.min_eq_right h3,Nat.max_eq_left h3]; exact .inr h1
   have hab:=lt_clash hl h1
   have hlt:=occ_once hl hcl (by omega)
   have:=foldF_spec n (onceS e (min a b) (max a b)) (h.join hcl (by omega)) (lt_once hl (by omega)) (by omega)
   exact ⟨this.1,this.2.1,fun _=>this.2.2.1 (once_nd _ _ _),Nat.le_trans this.2.2.2 (once_len _ _ _)⟩
structure BqI (S done:List (List Int)) (e:List E3) (n at_:Nat) (p:List Int):Prop where
 pos:0 < n
 al:at_ < n
 lt:∀ t∈e,t.1 < n∧t.2.2 < n∧0 < t.2.1∧t.2.1≤26
 cl:∀ w∈done,PthE e 0 w 0
 con:∀ u,u < n→∃ w,PthE e 0 w u
 pth:PthE e 0 p at_
 uni:∀ (X:Type) (step:X→Int→Option X) (x0:X),InvS step→(∀ w∈S,runW step x0 w=some x0)→∃ κ:Nat→X,κ 0=x0∧CmpE step κ e∧runW step x0 p=some (κ at_)
theorem bqI_zero (S:List (List Int)):BqI S [] [] 1 0 []:=by
 refine ⟨Nat.one_pos,Nat.one_pos,fun t ht=>?_,fun w hw=>?_,fun u hu=>⟨[],?_⟩,rfl,fun X step x0 _ _=>⟨fun _=>x0,rfl,fun t ht=>?_,rfl⟩⟩
 ·cases ht
 ·cases hw
 ·show 0=u; omega
 cases ht
theorem re_edE {e:List E3} {a b:Nat} {x:Int} (hx:x ≠ 0):Re (e++[edE a x b]) a x b:=by
 unfold edE
 by_cases h:0 < x
 ·rw [if_pos h]; exact .inl ⟨h,by simp⟩
 rw [if_neg h]; exact .inr ⟨by omega,by simp⟩
theorem PthE.snoc {e:List E3} {a b c:Nat} {w:List Int} {x:Int} (h:PthE e a w b) (h2:Re e b x c):PthE e a (w++[x]) c:=h.app ⟨c,h2,rfl⟩
theorem cmp_edE {X:Type} {step:X→Int→Option X} {κ:Nat→X} {e:List E3} {a b:Nat} {x:Int} (hi:InvS step) (hx:x ≠ 0) (h:CmpE step κ e) (hs:step (κ a) x=some (κ b)):CmpE step κ (e++[edE a x b]):=fun t ht=>by
 rcases List.mem_append.1 ht with ht | ht
 ·exact h t ht
 rw [List.mem_singleton] at ht
 subst ht
 unfold edE
 split
 ·exact hs
 exact hi _ _ _ hx hs
theorem runW_pre {X:Type} {step:X→Int→Option X} {c:X} {p r:List Int} {x:Int} {d z:X} (h:runW step c p=some d) (h2:runW step c (p++x :: r)=some z):∃ y,step d x=some y∧runW step y r=some z:=by
 rw [runW_app,h] at h2
 have h2:runW step d (x :: r)=some z:=h2
 unfold runW at h2
 cases e:step d x with
 | none=>rw [e] at h2; cases h2
 | some y=>rw [e] at h2; exact ⟨y,rfl,h2⟩
theorem BqI.put {S done:List (List Int)} {e:List E3} {n at_:Nat} {p:List Int} (h:BqI S done e n at_ p) {x:Int} (hx:x ≠ 0∧-26≤x∧x≤26) {r:List Int} (hm:p++x :: r∈S):BqI S done (e++[edE at_ x n]) (n + 1) n (p++[x]):=by
 have hmono:∀ t∈e,t∈e++[edE at_ x n]:=fun t ht=>List.mem_append_left _ ht
 have hp:PthE (e++[edE at_ x n]) 0 (p++[x]) n:=(h.pth.mono hmono).snoc (re_edE hx.1)
 refine ⟨by omega,by omega,fun t ht=>?_,fun w hw=>(h.cl w hw).mono hmono,fun u hu=>?_,hp,fun X step x0 hi hc=>?_⟩
 ·rcases List.mem_append.1 ht with ht | ht
  ·obtain ⟨a1,a2,a3⟩:=h.lt t ht; exact ⟨by omega,by omega,a3⟩
  rw [List.mem_singleton] at ht
  subst ht
  have:=h.al
  unfold edE
  split
  ·exact ⟨by simp only; omega,by simp only; omega,by simp only; omega,by simp only; omega⟩
  exact ⟨by simp only; omega,by simp only; omega,by simp only; omega,by simp only; omega⟩
 ·by_cases hu2:u < n
  ·exact (h.con u hu2).imp fun w hw=>hw.mono hmono
  obtain rfl:u=n:=by omega
  exact ⟨_,hp⟩
 obtain ⟨κ,k1,k2,k3⟩:=h.uni X step x0 hi hc
 obtain ⟨y,y1,y2⟩:=runW_pre k3 (hc _ hm)
 have old:∀ u,u < n→(if u=n then y else κ u)=κ u:=fun u hu=>if_neg (by omega)
 refine ⟨fun u=>if u=n then y else κ u,?_,cmp_edE hi hx.1 (fun t ht=>?_) ?_,?_⟩
 ·show (if 0=n then y else κ 0)=x0
  rw [old 0 h.pos,k1]
 ·show step (if t.1=n then y else κ t.1) t.2.1=some (if t.2.2=n then y else κ t.2.2)
  rw [old _ (h.lt t ht).1,old _ (h.lt t ht).2.1]
  exact k2 t ht
 ·show step (if at_=n then y else κ at_) x=some (if n=n then y else κ n)
  rw [old _ h.al,if_pos rfl]; exact y1
 show runW step x0 (p++[x])=some (if n=n then y else κ n)
 rw [if_pos rfl,runW_app,k3]
 show runW step (κ at_) [x]=some y
 unfold runW; rw [y1]; rfl
theorem BqI.back {S done:List (List Int)} {e:List E3} {n at_:Nat} {p:List Int} (h:BqI S done e n at_ p) {x:Int} (hx:x ≠ 0∧-26≤x∧x≤26) (hm:p++[x]∈S):BqI S (done++[p++[x]]) (e++[edE at_ x 0]) n 0 []:=by
 have hmono:∀ t∈e,t∈e++[edE at_ x 0]:=fun t ht=>List.mem_append_left _ ht
 have hp:PthE (e++[edE at_ x 0]) 0 (p++[x]) 0:=(h.pth.mono hmono).snoc (re_edE hx.1)
 refine ⟨h.pos,h.pos,fun t ht=>?_,fun w hw=>?_,fun u hu=>(h.con u hu).imp fun w hw=>hw.mono hmono,rfl,fun X step x0 hi hc=>?_⟩
 ·rcases List.mem_append.1 ht with ht | ht
  ·exact h.lt t ht
  rw [List.mem_singleton] at ht
  subst ht
  have:=h.al
  have:=h.pos
  unfold edE
  split
  ·exact ⟨by simp only; omega,by simp only; omega,by simp only; omega,by simp only; omega⟩
  exact ⟨by simp only; omega,by simp only; omega,by simp only; omega,by simp only; omega⟩
 ·rcases List.mem_append.1 hw with hw | hw
  ·exact (h.cl w hw).mono hmono
  rw [List.mem_singleton] at hw; subst hw; exact hp
 obtain ⟨κ,k1,k2,k3⟩:=h.uni X step x0 hi hc
 obtain ⟨y,y1,y2⟩:=runW_pre k3 (hc _ hm)
 have y2:some y=some x0:=y2
 refine ⟨κ,k1,cmp_edE hi hx.1 k2 ?_,by rw [k1]; rfl⟩
 rw [k1,y1,y2]
theorem bqW_spec {S done:List (List Int)} : ∀ (r:List Int) (p:List Int) (e:List E3) (n at_:Nat),BqI S done e n at_ p→(∀ x∈r,x ≠ 0∧-26≤x∧x≤26)→p++r∈S→r ≠ []→BqI S (done++[p++r]) (bqW r at_ n e).2 (bqW r at_ n e).1 0 []
 | [],p,e,n,at_,h,hx,hm,hr=>absurd rfl hr
 | [x],p,e,n,at_,h,hx,hm,_=>h.back (hx x (by simp)) hm
 | x :: y :: r,p,e,n,at_,h,hx,hm,_=>by
  have h1:=h.put (hx x (by simp)) hm
  have:=bqW_spec (y :: r) (p++[x]) (e++[edE at_ x n]) (n + 1) n h1 (fun z hz=>hx z (by simp only [List.mem_cons] at hz ⊢; exact .inr hz)) (by rw [List.append_assoc]; exact hm) (by simp)
  rw [List.append_assoc] at this
  unfold bqW
  exact this
theorem bqL_spec {S:List (List Int)} : ∀ (r done:List (List Int)) (e:List E3) (n:Nat),BqI S done e n 0 []→(∀ w∈r,w∈S∧∀ x∈w,x ≠ 0∧-26≤x∧x≤26)→BqI S (done++r) (bqL r n e).2 (bqL r n e).1 0 []
 | [],done,e,n,h,_=>by rw [List.append_nil]; exact h
 | w :: r,done,e,n,h,hr=>by
  have hw:=hr w (by simp)
  have h1:BqI S (done++[w]) (bqW w 0 n e).2 (bqW w 0 n e).1 0 []:=by
   cases w with
   | nil =>
    refine ⟨h.pos,h.al,h.lt,fun v hv=>?_,h.con,h.pth,h.uni⟩
    rcases List.mem_append.1 hv with hv | hv
    ·exact h.cl v hv
    rw [List.mem_singleton] at hv; subst hv; rfl
   | cons x t=>exact bqW_spec (x :: t) [] e n 0 h hw.2 hw.1 (by simp)
  have:=bqL_spec r (done++[w]) _ _ h1 fun v hv=>hr v (by simp [hv])
  rw [List.append_assoc] at this
  exact this
theorem bqW_len:∀ (r:List Int) (at_ n:Nat) (e:List E3),(bqW r at_ n e).2.length=e.length + r.length∧(bqW r at_ n e).1≤n + r.length
 | [],_,n,e=>⟨rfl,Nat.le_refl _⟩
 | [x],at_,n,e=>⟨by simp [bqW],by simp [bqW]⟩
 | x :: y :: r,at_,n,e=>by
  have:=bqW_len (y :: r) n (n + 1) (e++[edE at_ x n])
  unfold bqW
  simp only [List.length_append,List.length_cons,List.length_nil] at this ⊢
  omega
theorem bqL_len:∀ (L:List (List Int)) (n:Nat) (e:List E3),(bqL L n e).2.length=e.length + tot L∧(bqL L n e).1≤n + tot L
 | [],n,e=>⟨by simp [bqL,tot],by simp [bqL]⟩
 | w :: r,n,e=>by
  have h1:=bqW_len w 0 n e
  have h2:=bqL_len r (bqW w 0 n e).1 (bqW w 0 n e).2
  have h3:tot (w :: r)=w.length + tot r:=by simp [tot]
  unfold bqL
  omega
def folded (L:List (List Int)):List E3:=foldF (bqL (L.map short) 1 []).1 (onceS (bqL (L.map short) 1 []).2 0 0)
theorem folded_spec {L:List (List Int)} (hL:∀ w∈L,Ok w):FC (L.map short) (folded L)∧Det (folded L)∧(folded L).Nodup:=by
 have h:=bqL_spec (S:=L.map short) (L.map short) [] [] 1 (bqI_zero _) fun w hw=>⟨hw,by
  obtain ⟨v,hv,rfl⟩:=List.mem_map.1 hw
  exact (hL v hv).short⟩
 rw [List.nil_append] at h
 have hfc:FC (L.map short) (bqL (L.map short) 1 []).2:=by
  refine ⟨⟨fun t ht=>(h.lt t ht).2.2.1,h.cl,fun X step x0 hi hc=>?_⟩,fun t ht=>(h.lt t ht).2.2.2,fun t ht=>h.con _ (h.lt t ht).1⟩
  obtain ⟨κ,k1,k2,_⟩:=h.uni X step x0 hi hc
  exact ⟨κ,k1,k2⟩
 have:=foldF_spec (N:=(bqL (L.map short) 1 []).1) (bqL (L.map short) 1 []).1 (onceS (bqL (L.map short) 1 []).2 0 0) (hfc.congr fun t=>once_zero) (fun t ht=>by
  have:=h.lt t (once_zero.1 ht)
  exact ⟨this.1,this.2.1⟩) (occ_le _ _)
 exact ⟨this.1,this.2.1,this.2.2.1 (once_nd _ _ _)⟩
theorem folded_len (L:List (List Int)) (hL:∀ w∈L,Ok w):(folded L).length≤tot (L.map short):=by
 have h:=bqL_spec (S:=L.map short) (L.map short) [] [] 1 (bqI_zero _) fun w hw=>⟨hw,by
  obtain ⟨v,hv,rfl⟩:=List.mem_map.1 hw
  exact (hL v hv).short⟩
 rw [List.nil_append] at h
 have hfc:FC (L.map short) (bqL (L.map short) 1 []).2:=by
  refine ⟨⟨fun t ht=>(h.lt t ht).2.2.1,h.cl,fun X step x0 hi hc=>?_⟩,fun t ht=>(h.lt t ht).2.2.2,fun t ht=>h.con _ (h.lt t ht).1⟩
  obtain ⟨κ,k1,k2,_⟩:=h.uni X step x0 hi hc
  exact ⟨κ,k1,k2⟩
 have:=foldF_spec (N:=(bqL (L.map short) 1 []).1) (bqL (L.map short) 1 []).1 (onceS (bqL (L.map short) 1 []).2 0 0) (hfc.congr fun t=>once_zero) (fun t ht=>by
  have:=h.lt t (once_zero.1 ht)
  exact ⟨this.1,this.2.1⟩) (occ_le _ _)
 have h2:=once_len (bqL (L.map short) 1 []).2 0 0
 have h3:=(bqL_len (L.map short) 1 []).1
 have h4:=this.2.2.2
 simp only [List.length_nil,Nat.zero_add] at h3
 unfold folded
 omega
end Go.Proofs.Ytneglephfhiamaa

namespace Go.Pv
open Go.RowKit
section
variable {P:Program} {T:TypeId→Option TI} {s:St}
theorem idxS_loc (hT:∀ t ti,T t=some ti→tiOf P t=some ti) {o:Oper} {t:TypeId} {x y:Operand} (ho:o.op = .indexAddr t x y) {ti te:TI} (ht:T t=some ti) {e:TypeId} (hk:ti.kind = .slice e) (hte:T e=some te) {sz:Nat} (hsz:te.size=sz) {k lo len:Nat} (hx:s.ev x = .sls k lo len sz)
  {kk:IntKind} {i:Int} (hy:s.ev y = .p (.int kk i)) (h0:0≤i) (h1:i < (len:Int)):Loc1 P o s (.ptr k (lo + i.toNat * sz)) s.H:=by
 have hx2:x∈o.op.operands:=by rw [ho]; simp [Op.operands]
 have hy2:y∈o.op.operands:=by rw [ho]; simp [Op.operands]
 have D:∀ s2:St,Agree o s s2→DoesW P o s2 (.ptr k (lo + i.toNat * sz)) s2.H:=fun s2 ha=>idxS_does hT ho ht hk hte hsz ((ha _ hx2).trans hx) ((ha _ hy2).trans hy) h0 h1
 exact ⟨fun s2 hn ha hH=>by rw [← hH]; exact D s2 ha,fun _=>⟨rfl,fun s2 hn ha=>D s2 ha⟩,fun _=>rfl⟩
end
theorem arrEq3_does {P:Program} {T:TypeId→Option TI} {s:St} (hT:∀ t ti,T t=some ti→tiOf P t=some ti) {o:Oper} {t u:TypeId} {x y:Operand} (ho:o.op = .binOp .eql t x y u) {ti te:TI} (ht:T t=some ti) {e:TypeId} (hk:ti.kind = .array 3 e) (hte:T e=some te) (hki:te.kind = .int .i64) (hsz:te.size=1)
  {a b c a' b' c' : Int} (hx:s.ev x = .p (.agg [.int .i64 a,.int .i64 b,.int .i64 c])) (hy:s.ev y = .p (.agg [.int .i64 a',.int .i64 b',.int .i64 c'])) (hge:P.eqGuardType P.depth t=false):DoesW P o s (.p (.bool (a == a' && (b == b' && c == c')))) s.H:=by
 intro C m ac w K Q R hK
 have get:∀ {z:Operand} {a b c:Int},s.ev z = .p (.agg [.int .i64 a,.int .i64 b,.int .i64 c])→ac.eval z = .agg #[.int .i64 a,.int .i64 b,.int .i64 c]:=by
  intro z a b c hz
  have h:=R.ev z
  rw [hz] at h
  generalize ac.eval z=v at h
  have h:=h.p_inv
  cases h with
  | agg _ vs hl hr =>
   have h0:=(hr 0 (by simp)).int_inv
   have h1:=(hr 1 (by simp)).int_inv
   have h2:=(hr 2 (by simp)).int_inv
   congr 1
   simp only [List.length_cons,List.length_nil] at hl
   apply Array.ext
   ·simp [hl]
   intro i hi1 hi2
   match i,hi2 with
   | 0,_=>simpa [Array.getD_eq_getD_getElem?,hl] using h0
   | 1,_=>simpa [Array.getD_eq_getD_getElem?,hl] using h1
   | 2,_=>simpa [Array.getD_eq_getD_getElem?,hl] using h2
 have ex:=get hx
 have ey:=get hy
 have hu:=ti_array (hT _ _ ht) hk
 have hue:=ti_int (hT _ _ hte) hki
 obtain ⟨i,de,z,h1,h2,h3,h4,h5,h6,h7,h8⟩:=tiOf_parts (hT _ _ hte)
 have hce:P.cellsOf e=1:=by simp [Program.cellsOf,h1,h4,hsz]
 have ag:∀ w,(isAgg e).run P w = .ok false w:=fun w=>by simp [isAgg,run_underlying hue]
 have q0:∀ (x y z:Value) w,(part e #[x,y,z] 0).run P w = .ok x w:=fun x y z w=>by simp [part,ag]
 have q1:∀ (x y z:Value) w,(part e #[x,y,z] 1).run P w = .ok y w:=fun x y z w=>by simp [part,ag]
 have q2:∀ (x y z:Value) w,(part e #[x,y,z] 2).run P w = .ok z w:=fun x y z w=>by simp [part,ag]
 have en:∀ (p q:Int) w,(Op.equalIn 9999 e (.int .i64 p) (.int .i64 q)).run P w = .ok (p == q) w:=fun p q w=>run_equalIn_num 9998 hue p q w
 have hr:(Op.equalIn 10000 t (.agg #[.int .i64 a,.int .i64 b,.int .i64 c]) (.agg #[.int .i64 a',.int .i64 b',.int .i64 c'])).run P w = .ok (a == a' && (b == b' && c == c')) w:=by
  rw [run_equalIn_array w 9999 _ _ hu h1,hce]
  simp only [show List.range 3=[0,1,2] from rfl,Op.eqItems,Sem.run_bind,q0,q1,q2,Result.andThen_ok,Nat.zero_mul,Nat.one_mul,Nat.mul_one,en]
  cases h1:(a == a')<;>cases h2:(b == b')<;>cases h3:(c == c')<;>simp [q1,q2,en,h2,h3]
 have hgg:(eqGuard .eql t x y (.agg #[.int .i64 a,.int .i64 b,.int .i64 c]) (.agg #[.int .i64 a',.int .i64 b',.int .i64 c'])).run P w = .ok () w:=by
  unfold eqGuard
  split<;>simp [hge]
 have hrun:(execOp ac.eval o).run P w = .ok (.value (.bool (a == a' && (b == b' && c == c')))) w:=by
  simp only [execOp,ho,ex,ey,hgg,Sem.run_bind,Result.andThen_ok,run_eql_struct,hr,Sem.run_pure]
 refine opR_of_wp (by first|rfl|(rw [ho]; rfl)) ?_
 unfold Oper.wp
 rw [hrun]
 exact hK _ m w R (.p _ _ (.bool _))
theorem arrEq3_loc {P:Program} {T:TypeId→Option TI} {s:St} (hT:∀ t ti,T t=some ti→tiOf P t=some ti) {o:Oper} {t u:TypeId} {x y:Operand} (ho:o.op = .binOp .eql t x y u) {ti te:TI} (ht:T t=some ti) {e:TypeId} (hk:ti.kind = .array 3 e) (hte:T e=some te) (hki:te.kind = .int .i64) (hsz:te.size=1)
  {a b c a' b' c' : Int} (hx:s.ev x = .p (.agg [.int .i64 a,.int .i64 b,.int .i64 c])) (hy:s.ev y = .p (.agg [.int .i64 a',.int .i64 b',.int .i64 c'])) (hge:P.eqGuardType P.depth t=false):Loc1 P o s (.p (.bool (a == a' && (b == b' && c == c')))) s.H:=by
 have hx2:x∈o.op.operands:=by rw [ho]; simp [Op.operands]
 have hy2:y∈o.op.operands:=by rw [ho]; simp [Op.operands]
 have D:∀ s2:St,Agree o s s2→DoesW P o s2 (.p (.bool (a == a' && (b == b' && c == c')))) s2.H:=fun s2 ha=>arrEq3_does hT ho ht hk hte hki hsz ((ha _ hx2).trans hx) ((ha _ hy2).trans hy) hge
 exact ⟨fun s2 hn ha hH=>by rw [← hH]; exact D s2 ha,fun _=>⟨rfl,fun s2 hn ha=>D s2 ha⟩,fun _=>rfl⟩
end Go.Pv

namespace Go.Pv
open Go.RowKit
section
variable {P:Program} {C:Ctx} {m:Map} {s:St} {tmps:Array Value} {w:World}
theorem Rel.pureS (R:Rel C m s tmps w) {t k sz:Nat} {l:List PV} (h1:s.get t = .sls k 0 l.length sz) (h2:hget s.H k = .fro (flat l)) (hsz:∀ x∈l,x.cells.length=sz):Rel C m { s with sl:=(t,.p (.list l)) :: s.sl } tmps w:=by
 refine ⟨R.laid,R.below,R.base,R.size,R.inj,R.blk,R.fro,fun t'=>?_,R.mp⟩
 by_cases e:t=t'
 ·subst e
  have e2:({ s with sl:=(t,AV.p (.list l)) :: s.sl } : St).get t = .p (.list l):=by simp [St.get,lk]
  rw [e2]
  have hv:=R.slot t
  rw [h1] at hv
  generalize hve:tmps.getD t undef=v at hv
  cases hv with
  | sls _ _ _ _ _ hk hs =>
   rcases hs with ⟨h0,rfl⟩ | ⟨l1,cap,hm,rfl,hcap,hn⟩
   ·obtain rfl:=List.eq_nil_of_length_eq_zero h0
    exact .p _ _ (.list0 _ _ fun _=>rfl)
   rcases R.fro k _ (hget_fro h2) with ⟨_,hno⟩ | ⟨l2,vs,hm2,hok,hle,hcs⟩
   ·rw [hm] at hno; cases hno
   rw [hm] at hm2; cases hm2
   refine .p _ _ ?_
   rw [Nat.add_zero]
   exact .list l l1.g l1.o cap sz vs hok hsz hcap (fun c hc=>(hcs c hc).1) (fun c hc=>(hcs c hc).2)
 have e2:({ s with sl:=(t,AV.p (.list l)) :: s.sl } : St).get t' = s.get t':=by simp [St.get,lk,show (t == t')=false by simpa using e]
 rw [e2]
 exact R.slot t'
theorem hk_seals {c:Code} {Q:Exit→St→Prop} (t k:Nat) {sz:Nat} {l:List PV} (hsz:∀ x∈l,x.cells.length=sz) (h1:s.get t = .sls k 0 l.length sz) (h2:hget s.H k = .own (opl (flat l))) (h:Holds P c Q { s with sl:=(t,.p (.list l)) :: s.sl,H:=hset s.H k (.fro (flat l)) }):Holds P c Q s:=by
 refine hk_freeze k h2 (opl_allP (flat l)) fun r ds C m a w R hd=>h r ds C m a w ?_ hd
 have hkl:k < s.H.length:=(List.getElem?_eq_some_iff.1 (hget_mut h2)).1
 exact R.pureS (s:={ s with H:=hset s.H k (.fro (flat l)) }) h1 (hget_hset_same _ _ _ hkl) hsz
end
end Go.Pv
