/-
  Texts of this proof, one behind the other: what each says stands at its head. Conditions: none.
-/
import Derived.Test.YtneglephfhiamaaProg
import Derived.Shelf.Lays
import Derived.Test.YtneglephfhiamaaB5
import Derived.Test.YtneglephfhiamaaB6
import Derived.Test.YtneglephfhiamaaB3
import Derived.Test.YtneglephfhiamaaB2

/-
  Contracts of the library, laid at this dump: numbers, and that each body is the same. Conditions: none; written by a program of this repo out of the kit's own tool.
-/
set_option linter.all false
namespace Go.Proofs
open Go.Shelf
def Try.sortI_ren:Go.Shelf.Ren:=⟨fun | 189=>81 | 125=>90 | 257=>89 | 128=>100 | 129=>101 | 294=>91 | 295=>92 | 296=>93 | 297=>94 | 298=>95 | 299=>96 | 216=>97 | 300=>98 | 301=>99 | 328=>102 | 329=>103 | 330=>104 | 331=>105 | 332=>106 | 215=>107 | 343=>108 | n=>n,fun | 28=>35 | 3=>3 | 46=>117 | 0=>0 | 51=>127 | 53=>129 | 4=>4 | 183=>120 | 182=>119 | 131=>91 | 5=>5 | 9=>9 | 218=>130 | 222=>134 | 228=>137 | 229=>75 | n=>n,fun | n=>n⟩
theorem Try.sortI : Go.Proofs.Lays.n189 Try.prog Try.sortI_ren := {
  mixed := by kernel_rfl
  f125 := Try.func90.trans (congrArg some (by kernel_rfl))
  f128 := Try.func100.trans (congrArg some (by kernel_rfl))
  f129 := Try.func101.trans (congrArg some (by kernel_rfl))
  f189 := Try.func81.trans (congrArg some (by kernel_rfl))
  f215 := Try.func107.trans (congrArg some (by kernel_rfl))
  f216 := Try.func97.trans (congrArg some (by kernel_rfl))
  f257 := Try.func89.trans (congrArg some (by kernel_rfl))
  f294 := Try.func91.trans (congrArg some (by kernel_rfl))
  f295 := Try.func92.trans (congrArg some (by kernel_rfl))
  f296 := Try.func93.trans (congrArg some (by kernel_rfl))
  f297 := Try.func94.trans (congrArg some (by kernel_rfl))
  f298 := Try.func95.trans (congrArg some (by kernel_rfl))
  f299 := Try.func96.trans (congrArg some (by kernel_rfl))
  f300 := Try.func98.trans (congrArg some (by kernel_rfl))
  f301 := Try.func99.trans (congrArg some (by kernel_rfl))
  f328 := Try.func102.trans (congrArg some (by kernel_rfl))
  f329 := Try.func103.trans (congrArg some (by kernel_rfl))
  f330 := Try.func104.trans (congrArg some (by kernel_rfl))
  f331 := Try.func105.trans (congrArg some (by kernel_rfl))
  f332 := Try.func106.trans (congrArg some (by kernel_rfl))
  f343 := Try.func108.trans (congrArg some (by kernel_rfl))
  t0 := Try.underlying0
  a0 := Try.isAgg0
  z0 := Try.sizeOf0
  v0 := Try.zeroValue0
  t3 := Try.underlying3
  a3 := Try.isAgg3
  z3 := Try.sizeOf3
  v3 := Try.zeroValue3
  t4 := Try.underlying4
  a4 := Try.isAgg4
  z4 := Try.sizeOf4
  v4 := Try.zeroValue4
  t5 := Try.underlying5
  a5 := Try.isAgg5
  z5 := Try.sizeOf5
  v5 := Try.zeroValue5
  t9 := Try.underlying9
  a9 := Try.isAgg9
  z9 := Try.sizeOf9
  v9 := Try.zeroValue9
  t28 := Try.underlying35
  a28 := Try.isAgg35
  z28 := Try.sizeOf35
  v28 := Try.zeroValue35
  t46 := Try.underlying117
  a46 := Try.isAgg117
  z46 := Try.sizeOf117
  v46 := Try.zeroValue117
  t51 := Try.underlying127
  a51 := Try.isAgg127
  z51 := Try.sizeOf127
  v51 := Try.zeroValue127
  t53 := Try.underlying129
  a53 := Try.isAgg129
  z53 := Try.sizeOf129
  v53 := Try.zeroValue129
  t131 := Try.underlying91
  a131 := Try.isAgg91
  z131 := Try.sizeOf91
  v131 := Try.zeroValue91
  t182 := Try.underlying119
  a182 := Try.isAgg119
  z182 := Try.sizeOf119
  v182 := Try.zeroValue119
  t183 := Try.underlying120
  a183 := Try.isAgg120
  z183 := Try.sizeOf120
  v183 := Try.zeroValue120
  t218 := Try.underlying130
  a218 := Try.isAgg130
  z218 := Try.sizeOf130
  v218 := Try.zeroValue130
  t222 := Try.underlying134
  a222 := Try.isAgg134
  z222 := Try.sizeOf134
  v222 := Try.zeroValue134
  t228 := Try.underlying137
  a228 := Try.isAgg137
  z228 := Try.sizeOf137
  v228 := Try.zeroValue137
  t229 := Try.underlying75
  a229 := Try.isAgg75
  z229 := Try.sizeOf75
  v229 := Try.zeroValue75 }
end Go.Proofs

/-
  Graphs of words: the walk of letters. Conditions: none.
-/
set_option linter.all false
namespace Go.Proofs.Ytneglephfhiamaa
open Go.Pv

def Sl (N A κ:Nat) (Bd:Heap) (r:Nat) (L:List Int):St:=
 ⟨26,[(5,.sl N 0 L.length),(14,.itv r)],Bd++[.own (ol L),.anc A κ]⟩
theorem le_Sl {N A κ r q q2:Nat} {Bd:Heap} {L:List Int} {s:St} {d:List AV} (hN:Bd.length=N) (hκ:κ < N) (hBs:∀ b∈Bd,hsc N b=true) (hn:s.n=26) (hq:N≤q) (hq2:N≤q2) (hne:q ≠ q2)
  (h0:∀ i,i < N→hget s.H i=hget Bd i) (hd:hget s.H q = .own d) (hd2:hget s.H q2 = .anc A κ) (hW:ol L=d.take L.length) (g5:s.get 5 = .sl q 0 L.length) (g14:s.get 14 = .itv r):Le (List.range N++[q,q2]) (Sl N A κ Bd r L) s:=by
 have hπq:(List.range N++[q,q2]).getD N 0=q:=by
  rw [List.getD_eq_getElem?_getD,List.getElem?_append_right (by simp)]
  simp
 have hol:(ol L).length=L.length:=by simp [ol,il_length]
 refine le_behind2 (B:=Bd) (c:=ol L) (by rw [hn]; rfl) hN rfl hq hq2 hne hκ hBs h0 hd hd2 ?_ (ol_sc _ _) ?_
 ·rw [hol,← hW]; simp [ol,Go.Pv.ren,ren1]
 ·unfold Sl
  refine ⟨?_,?_,?_,?_,trivial⟩
  ·rw [g5]; simp only [Go.Pv.ren,ren1,hπq]
  ·simp [scA,sc1]
  ·rw [g14]; rfl
  ·rfl

section
variable {G:List Mp} {U:List Int}

set_option maxHeartbeats 4000000 in
set_option maxRecDepth 20000 in
theorem letters_e (w:WG G U) (hk:G.length≤100000000) {v:Nat} (hv:v < G.length):FnE Try.prog 58 [.ptr 0 0,.p (.int .i64 v)] (GB G U) (fun r H'=>r = .p (.list (il (lts (gm G v))))∧H' = GB G U):=by
 obtain ⟨Post,hP⟩:∃ Post:AV→Heap→Prop,Post=(fun r H'=>r = .p (.list (il (lts (gm G v))))∧H' = GB G U):=⟨_,rfl⟩
 rw [← hP]
 unfold GB
 refine fne_of tab_ok Try.func58 rfl (by kernel_rfl) (by rw [Try.ntmps58]; exact Nat.le_add_left 2 _) ?_; rw [Try.ntmps58]; simp only [ancs,entA,List.length_cons,List.length_nil,List.cons_append,List.nil_append,Nat.reduceAdd,Nat.zero_add]
 have hXl:(.anc 0 0 :: .anc 1 1 :: .anc 2 2 :: ancs 3 (G.map mpB).length:Heap).length=G.length + 3:=by simp [ancs_length]
 have hXs:∀ L,G.length + 3≤L→∀ b∈(.anc 0 0 :: .anc 1 1 :: .anc 2 2 :: ancs 3 (G.map mpB).length:Heap),hsc L b=true:=fun L hL b hb=>by
  have:(.anc 0 0 :: .anc 1 1 :: .anc 2 2 :: ancs 3 (G.map mpB).length:Heap)=ancs 0 (G.length + 3):=by rw [G_len]; rfl
  rw [this] at hb
  exact ancs_hsc (by omega) b hb
 have hXa:∀ j i:Nat,(.anc 0 0 :: .anc 1 1 :: .anc 2 2 :: ancs 3 (G.map mpB).length:Heap)[j]? ≠ some (.anc (G.length + 3) i):=fun j i hj=>by
  have:(.anc 0 0 :: .anc 1 1 :: .anc 2 2 :: ancs 3 (G.map mpB).length:Heap)=ancs 0 (G.length + 3):=by rw [G_len]; rfl
  rw [this] at hj
  have hjl:=(List.getElem?_eq_some_iff.1 hj).1
  rw [ancs_length] at hjl
  rw [ancs_at _ _ _ hjl] at hj
  simp at hj
  omega
 generalize (.anc 0 0 :: .anc 1 1 :: .anc 2 2 :: ancs 3 (G.map mpB).length:Heap)=X at hXl hXs hXa ⊢
 obtain ⟨n0,hn0⟩:∃ n0,G.length + (G.length + 3)=n0:=⟨_,rfl⟩
 have hXs3:=hXs (n0 + 3) (by omega)
 obtain ⟨B,hB⟩:∃ B,GB G U++X=B:=⟨_,rfl⟩
 have hBl:B.length=n0 + 3:=by rw [← hB,List.length_append,GB_len,hXl]; omega
 have hBs:∀ b∈B,hsc (n0 + 3) b=true:=hB ▸ GB_hscX (by omega) hXs3
 have hBa:∀ b∈B,∀ j,b ≠ .anc (G.length + 3) j:=fun b hb j e=>by
  rw [← hB] at hb
  subst e
  rcases List.mem_append.1 hb with hb | hb
  ·have:=(List.all_eq_true.1 (GB_na (G:=G) (U:=U))) _ hb
   cases this
  ·obtain ⟨i,hi⟩:=List.getElem?_of_mem hb
   exact hXa i j hi
 have hBg:hget B (v + 3)=mpB (gm G v):=by
  rw [← hB]
  show hget (G.map mpB++X) v=_
  exact hget_G hv
 obtain ⟨Bd,hBd⟩:∃ Bd,hset B (v + 3) .dead=Bd:=⟨_,rfl⟩
 have hDl:Bd.length=n0 + 3:=by rw [← hBd,hset_length]; exact hBl
 have hDm:∀ b∈Bd,b = .dead∨b∈B:=fun b hb=>by
  rw [← hBd,hset_eq] at hb
  rcases List.mem_or_eq_of_mem_set hb with h | h
  ·exact .inr h
  ·exact .inl h
 have hDs:∀ b∈Bd,hsc (n0 + 3) b=true:=fun b hb=>by
  rcases hDm b hb with rfl | h
  ·rfl
  ·exact hBs b h
 have hDg:∀ i,hget Bd i=if i=v + 3∧v + 3 < B.length then .dead else hget B i:=fun i=>by rw [← hBd,hset_hget]
 have hH:∀ R:Heap,Blk.own [.sl 1 0 G.length,.sl 2 0 U.length] :: .own (mps G.length) :: .own (ol U) :: (G.map mpB++X++R)=B++R:=fun R=>by
  rw [← hB]; unfold GB; simp
 have happ1:∀ (R:Heap) (i:Nat),i < n0 + 3→hget (B++R) i=hget B i:=fun R i hi=>hget_app1 (by rw [hBl]; exact hi)
 have happ2:∀ (R:Heap) (j:Nat),hget (B++R) (n0 + 3 + j)=hget R j:=fun R j=>by
  rw [hget_app2 (by rw [hBl]; omega),hBl,Nat.add_sub_cancel_left]
 have hdp1:∀ (R:Heap) (i:Nat),i < n0 + 3→hget (Bd++R) i=hget Bd i:=fun R i hi=>hget_app1 (by rw [hDl]; exact hi)
 have hdp2:∀ (R:Heap) (j:Nat),hget (Bd++R) (n0 + 3 + j)=hget R j:=fun R j=>by
  rw [hget_app2 (by rw [hDl]; omega),hDl,Nat.add_sub_cancel_left]
 have hGX:(G.map mpB++X).length=n0:=by rw [List.length_append,G_len,hXl]; exact hn0
 refine qm ?_
 refine hk_region fun K hK=>runs_eval tab_ok ?_
 simp only [ev0,evA,evB,evP,fl,gp,tab,simprocAttr,reduceCtorEq,reduceIte]
 refine fin_run trivial (hK _ ?_)<;>clear hK<;>clear K
 refine qa (qm ?_)
 refine hk_region fun K hK=>runs_eval tab_ok ?_
 simp only [ev0,evA,evB,evP,fl,gp,tab,simprocAttr,reduceCtorEq,reduceIte]
 refine fin_run trivial (hK _ ?_)<;>clear hK<;>clear K
 refine qa (qm ?_)
 refine hk_own0 5 rfl ?_
 refine hk_rangeF tab_ok 7 rfl rfl rfl rfl (G.length + 3) ?_
 simp only [List.length_cons,hGX,List.cons_append]
 refine runs_cut fun K hK=>?_
 simp only [List.take_succ_cons,List.take_zero]
 refine runs_eval tab_ok ?_
 simp only [ev0,evA,evB,evP,fl,gp,tab,simprocAttr,reduceCtorEq,reduceIte,mps_get hv,Int.toNat_natCast,Int.ofNat_eq_natCast,mps_len]
 refine fin_run ?_ (hK _ ?_)<;>clear hK<;>clear K
 ·exact ⟨⟨by omega,by omega⟩,hv⟩
 refine ⟨v + 3,.i64,fun z=>(gm G v z).isSome,fun z=>.int .i64 ((gm G v z).getD 0),rfl,by
  simp only [hH]
  exact (happ1 _ _ (by omega)).trans hBg,fun _ _=>rfl,?_,rfl,
  fun r' L=>Sl (n0 + 3) (G.length + 3) (v + 3) Bd r' L,List.range (n0 + 3)++[n0 + 3,n0 + 3 + 1],v + 3,n0 + 3 + 1,?_,?_,?_,?_⟩
 ·intro k' j hj
  simp only [hH] at hj
  rcases List.mem_append.1 (List.mem_of_getElem? hj) with h | h
  ·exact hBa _ h j rfl
  ·simp at h
 ·intro r' L
  refine ⟨rfl,rfl,?_,?_,fun k' j hj=>?_⟩
  ·show (Bd++_)[v + 3]? = _
   rw [List.getElem?_append_left (by omega),← hBd,hset_get,if_pos ⟨rfl,by omega⟩]
  ·show (Bd++[_,_])[n0 + 3 + 1]? = _
   rw [List.getElem?_append_right (by omega),hDl,Nat.add_sub_cancel_left]; rfl
  ·have hj:(Bd++[Blk.own (ol L),Blk.anc (G.length + 3) (v + 3)])[k']? = some (.anc (G.length + 3) j):=hj
   by_cases h:k' < n0 + 3
   ·rw [List.getElem?_append_left (by omega)] at hj
    rcases hDm _ (List.mem_of_getElem? hj) with h2 | h2
    ·cases h2
    ·exact absurd rfl (hBa _ h2 j)
   ·rw [List.getElem?_append_right (by omega),hDl] at hj
    have h3:=(List.getElem?_eq_some_iff.1 hj).1
    simp only [List.length_cons,List.length_nil] at h3
    by_cases h4:k' = n0 + 3
    ·rw [h4,Nat.sub_self] at hj; simp at hj
    ·omega
 ·intro r'
  simp only [hH]
  have hs1:∀ (R:Heap) (x:Blk) (i:Nat),i < n0 + 3→hget (hset (B++R) (v + 3) .dead++[x]) i=hget Bd i:=fun R x i hi=>by
   rw [hget_app1 (by rw [hset_length,List.length_append]; omega),hset_hget,happ1 R i hi,hDg]
   simp only [List.length_append]
   by_cases h:i=v + 3
   ·rw [if_pos ⟨h,by omega⟩,if_pos ⟨h,by omega⟩]
   ·rw [if_neg (fun e=>h e.1),if_neg (fun e=>h e.1)]
  refine le_Sl (d:=[]) hDl (by omega) hDs rfl (Nat.le_refl _) (by omega) (by omega) (hs1 _ _) ?_ ?_ rfl rfl rfl
  ·show hget (hset (B++[_]) (v + 3) .dead++[_]) (n0 + 3)=_
   rw [hget_app1 (by rw [hset_length,List.length_append]; simp; omega),hset_hget,if_neg (by omega)]
   exact happ2 _ 0
  ·show hget (hset (B++[_]) (v + 3) .dead++[_]) (n0 + 3 + 1)=_
   rw [hget_app2 (by rw [hset_length,List.length_append]; simp; omega),hset_length,List.length_append]
   simp [hBl,hget]
 ·intro r' L z hLn hLd hz hzn
  have hLl:L.length≤53:=keys_len hLn fun y hy=>by
   obtain ⟨u,hu⟩:=Option.isSome_iff_exists.1 (show (gm G v y).isSome=true from hLd y hy)
   exact (w.ent v y u (by omega) hu).2.2.2
  refine runs_cut fun K hK=>?_
  simp only [List.drop_succ_cons,List.drop_zero]
  refine runs_eval tab_ok ?_
  simp only [ev0,evA,evB,evP,fl,gp,tab,simprocAttr,reduceCtorEq,reduceIte,Sl]
  refine fin_run trivial (hK _ ?_)<;>clear hK<;>clear K
  refine hk_region fun K hK=>runs_eval tab_ok ?_
  simp only [ev0,evA,evB,evP,fl,gp,tab,simprocAttr,reduceCtorEq,reduceIte,hdp2 [_,_] 0]
  refine fin_run ?_ (hK _ ?_)<;>clear hK<;>clear K
  ·exact ⟨Nat.le_refl _,by omega,by omega⟩
  refine qd (qa ?_)
  refine ⟨List.range (n0 + 3)++[n0 + 3 + 2,n0 + 3 + 1],le_Sl (d:=ol (L++[z])) hDl (by omega) hDs rfl (by omega) (by omega) (by omega) (fun i hi=>?_) ?_ ?_ ?_ ?_ rfl⟩
  ·show hget (hset (Bd++[_,_]) (n0 + 3) .dead++[_]) i=_
   rw [hget_app1 (by rw [hset_length,List.length_append]; omega),hset_hget,if_neg (by omega),hdp1 _ _ hi]
  ·show hget (hset (Bd++[_,_]) (n0 + 3) .dead++[_]) (n0 + 3 + 2)=_
   rw [hget_app2 (by rw [hset_length,List.length_append]; simp; omega),hset_length,List.length_append]
   simp [hDl,hget]
  ·show hget (hset (Bd++[_,_]) (n0 + 3) .dead++[_]) (n0 + 3 + 1)=_
   rw [hget_app1 (by rw [hset_length,List.length_append]; simp; omega),hset_hget,if_neg (by omega)]
   exact hdp2 _ 1
  ·exact (List.take_of_length_le (by simp [ol,il_length])).symm
  ·show AV.sl (Bd++[_,_]).length 0 (L.length + 1)=_
   simp [hDl]
 ·intro r' L hLn hLd
  have hLb:∀ z∈L,-26≤z∧z≤26:=fun y hy=>by
   obtain ⟨u,hu⟩:=Option.isSome_iff_exists.1 ((hLd y).2 hy)
   exact (w.ent v y u (by omega) hu).2.2.2
  have hsl:srt L=lts (gm G v):=srt_lts hLn hLd hLb
  have hLl:L.length≤53:=keys_len hLn hLb
  have hll:(lts (gm G v)).length=L.length:=by rw [← hsl]; exact (List.mergeSort_perm L _).length_eq
  have hmn:∀ b∈B,hsc (n0 + 3 + 1) b=true:=fun b hb=>by
   have h:=hBs b hb
   cases b with
   | own c=>exact List.all_eq_true.2 fun x hx=>scA_mn (Nat.le_succ _) ((List.all_eq_true.1 h) x hx)
   | anc i j=>simp only [hsc,decide_eq_true_eq] at h ⊢; omega
   | _=>rfl
  refine qa (qm ?_)
  refine hk_le (s1:=⟨26,[(5,.sl (n0 + 3) 0 L.length)],B++[.own (ol L)]⟩) (List.range (n0 + 3)++[n0 + 3]) (le_behind (B:=B) (c:=ol L) (d:=ol L) rfl hBl rfl hmn (Nat.le_refl _) hBs (fun i hi=>?_) ?_ ?_ (ol_sc _ _) ?_) ?_
  ·show hget (hset (hset (Bd++[_,_]) (v + 3) _) (n0 + 3 + 1) .dead) i=_
   rw [hset_hget,if_neg (by omega),hset_hget,List.length_append,hdp1 _ _ hi,hDg]
   by_cases h:i=v + 3
   ·rw [if_pos ⟨h,by simp; omega⟩,h,hBg]; rfl
   ·rw [if_neg (fun e=>h e.1),if_neg (fun e=>h e.1)]
  ·show hget (hset (hset (Bd++[_,_]) (v + 3) _) (n0 + 3 + 1) .dead) (n0 + 3)=_
   rw [hset_hget,if_neg (by omega),hset_hget,if_neg (by omega)]
   exact hdp2 _ 0
  ·rw [List.take_of_length_le (Nat.le_refl _)]; simp [ol,Go.Pv.ren,ren1]
  ·refine ⟨?_,?_,trivial⟩
   ·show AV.sl (n0 + 3) 0 L.length=_
    have:(List.range (n0 + 3)++[n0 + 3]).getD (n0 + 3) 0=n0 + 3:=by
     rw [List.getD_eq_getElem?_getD,List.getElem?_append_right (by simp)]
     simp
    simp only [Go.Pv.ren,ren1,this]
   ·simp [scA,sc1]
  have hput:∀ σ,putM (B++[.own (ol L)]) [n0 + 3] [Blk.ren σ (.own (opl (il (lts (gm G v)))))]=B++[.own (ol (lts (gm G v)))]:=fun σ=>by
   simp only [Blk.ren,opl_ren,putM,List.append_nil]
   rw [hset_eq,List.set_append_right _ _ (by omega),hBl,Nat.sub_self]; rfl
  refine hk_region fun K hK=>runs_eval tab_ok ?_
  simp only [ev0,evA,evB,evP,fl,gp,tab,simprocAttr,reduceCtorEq,reduceIte]
  refine fin_stop ?_ (runs_callM [n0 + 3] (sortI_m Go.Proofs.Try.sortI L (by omega)) rfl rfl ⟨⟨rfl,rfl⟩,trivial⟩ ⟨show LeB [n0 + 3] (B++[.own (ol L)]) (n0 + 3) (.own (ol L)) from leB_ol (happ2 _ 0),trivial⟩ (by simp) (by simp [hBl]) (by simp [scM,scA,sc1,opl_sc,mpKeep,notAnc]) (by simp only [dstOk,Nat.reduceLT]) (runs_eval tab_ok ?_))
  ·exact trivial
  simp only [hsl,List.map_cons,List.map_nil,hput]
  simp only [ev0,evA,evB,evP,fl,gp,tab,simprocAttr,reduceCtorEq,reduceIte,ren,ren1]
  refine fin_run trivial (hK _ ?_)<;>clear hK<;>clear K
  refine qa (qm ?_)
  refine hk_seal 5 (n0 + 3) (w:=lts (gm G v)) ?_ ?_ ?_
  ·show AV.sl (n0 + 3) 0 L.length=_
   rw [hll]
  ·exact happ2 _ 0
  refine hk_region fun K hK=>runs_eval tab_ok ?_
  simp only [ev0,evA,evB,evP,fl,gp,tab,simprocAttr,reduceCtorEq,reduceIte]
  refine fin_run trivial (hK _ ?_)<;>clear hK<;>clear K
  refine qa (qk ?_)
  simp only [Try.results58,PostG,endG,rvsA,rvA,mkTup,ev0,evA,evB,evP,fl,gp,tab,simprocAttr,reduceCtorEq,reduceIte]
  refine ⟨.p (.list (il (lts (gm G v)))),GB G U,by rw [hP]; exact ⟨rfl,rfl⟩,List.range (n0 + 3),rfl,rfl,?_⟩
  refine le_stay (B:=GB G U++X) rfl (by rw [hB]; exact hBl) rfl (by rw [hB]; exact hBs) (fun i hi=>?_) trivial
  show hget (hset (B++[_]) (n0 + 3) _) i=_
  rw [hset_hget,if_neg (by omega),happ1 _ _ hi,hB]
theorem letters_c (w:WG G U) (hk:G.length≤100000000) {v:Nat} (hv:v < G.length):FnM Try.prog 58 [.ptr 0 0,.p (.int .i64 v)] (GB G U) (.p (.list (il (lts (gm G v))))) (GB G U):=
 (letters_e w hk hv).one fun _ _ h=>h
end
end Go.Proofs.Ytneglephfhiamaa

/-
  Regions with some calls of many outcomes. Conditions: none; a library text.
-/
set_option linter.all false
namespace Go.Pv
open Go.RowKit
section
variable {P:Program} {T:TypeId→Option TI}

/-- The rest of a region, so many operations of which have many outcomes. -/
def RunsE (P:Program) (all:Array Oper):Nat→List Oper→(St→Prop)→St→Prop
 | 0,l,K,s=>Runs P false all l K s
 | j + 1,l,K,s=>∃ n,Runs P false all (l.take n) (fun s1=>∃ o O,l[n]? = some o∧guardA all s1 o=some true∧dstOk s1 o.dst∧DoesE P o s1 O∧∀ av H',O av H'→RunsE P all j (l.drop (n + 1)) K (({ s1 with H:=H' } : St).put o.dst av)) s

theorem runsE_sound {all:Array Oper} {Q:Exit→Act→World→Prop} {C:Ctx} {ds:List Deferred} {K:St→Prop} : ∀ (j:Nat) (l:List Oper) (s:St),RunsE P all j l K s→∀ {m:Map} {a:Act} {w:World},Rel C m s a.tmps w→a.defers=ds →
  (∀ s' m' (a' : Act) w',K s'→Rel C m' s' a'.tmps w'→a'.defers=ds→Q .normal a' w')→lstR P all Q l a w
 | 0,l,s,⟨s',hr,hK⟩,m,a,w,R,hd,hQ=>hr.sound R hd fun m' a' w' R' hd'=>hQ s' m' a' w' hK R' hd'
 | j + 1,l,s,⟨n,s1,hr,o,O,ho,hg,hdst,hdo,hrest⟩,m,a,w,R,hd,hQ=>by
  have hL:l=l.take n++(o :: l.drop (n + 1)):=by
   have hn:=(List.getElem?_eq_some_iff.1 ho).1
   have h1:=List.drop_eq_getElem_cons (l:=l) (i:=n) hn
   rw [List.getElem?_eq_getElem hn,Option.some.injEq] at ho
   rw [ho] at h1
   rw [← h1,List.take_append_drop]
  rw [hL]
  refine hr.soundK R hd fun m' a' w' R' hd'=>?_
  have hw:=guardA_wanted (P:=P) R' hg
  refine lstR_step fun K2 hK2=>?_
  rw [if_pos hw]
  refine hdo C m' a' w' K2 _ R' fun v m2 w2 av H' hO R2 hv=>hK2 _ _ ?_
  exact runsE_sound j _ _ (hrest av H' hO) (R2.put (dstOk_spec hdst) hv) (by rw [put_defers]; exact hd') hQ

/-- A region with so many of them. -/
theorem hk_regEn {s:St} {id:Nat} {L:List Oper} {Q:Exit→St→Prop} (j:Nat) (h:RunsE P L.toArray j L (Q .normal) s):Holds P (.region id L.toArray false) Q s:=by
 intro r ds C m a w R hd
 refine wpR_region_lit ?_
 exact runsE_sound j L s h R hd fun s' m' a' w' hK R' hd'=>⟨s',m',hK,R',hd'⟩
end
end Go.Pv

/-
  A region whose state is read more weakly behind some operations. Conditions: none; a library text.
-/
set_option linter.all false
namespace Go.Pv
open Go.RowKit
section
variable {P:Program}

theorem runsMid_sound {all:Array Oper} {Q:Exit→Act→World→Prop} {C:Ctx} {ds:List Deferred} {K:St→Prop} {l:List Oper} {s:St} (n:Nat)
  (h:Runs P false all (l.take n) (fun s1=>∃ s2,(∀ (C:Ctx) (m:Map) (tmps:Array Value) (w:World),Rel C m s1 tmps w→Rel C m s2 tmps w)∧Runs P false all (l.drop n) K s2) s) {m:Map} {a:Act} {w:World} (R:Rel C m s a.tmps w) (hd:a.defers=ds)
  (hQ:∀ s' m' (a' : Act) w',K s'→Rel C m' s' a'.tmps w'→a'.defers=ds→Q .normal a' w'):lstR P all Q l a w:=by
 obtain ⟨s1,hr,s2,hm,s',hr2,hK⟩:=h
 rw [show l=l.take n++l.drop n from (List.take_append_drop n l).symm]
 refine hr.soundK R hd fun m' a' w' R' hd'=>?_
 exact hr2.sound (hm C m' a'.tmps w' R') hd' fun m2 a2 w2 R2 hd2=>hQ s' m2 a2 w2 hK R2 hd2
theorem hk_regMid {s:St} {id:Nat} {L:List Oper} {Q:Exit→St→Prop} (n:Nat)
  (h:Runs P false L.toArray (L.take n) (fun s1=>∃ s2,(∀ (C:Ctx) (m:Map) (tmps:Array Value) (w:World),Rel C m s1 tmps w→Rel C m s2 tmps w)∧Runs P false L.toArray (L.drop n) (Q .normal) s2) s):Holds P (.region id L.toArray false) Q s:=by
 intro r ds C m a w R hd
 refine wpR_region_lit ?_
 exact runsMid_sound n h R hd fun s' m' a' w' hK R' hd'=>⟨s',m',hK,R',hd'⟩
theorem Rel.sealI {C:Ctx} {m:Map} {s:St} {tmps:Array Value} {w:World} (R:Rel C m s tmps w) (t k:Nat) {l:List Int} (h1:s.get t = .sl k 0 l.length) (h2:hget s.H k = .own (ol l)):Rel C m { s with sl:=(t,.p (.list (il l))) :: s.sl,H:=hset s.H k (.fro (il l)) } tmps w:=by
 have hkl:k < s.H.length:=(List.getElem?_eq_some_iff.1 (hget_mut h2)).1
 have e2:hget (hset s.H k (.fro (il l))) k = .fro (il l):=by rw [hset_hget,if_pos ⟨rfl,hkl⟩]
 have R2:=R.freeze h2 (ol_allP l)
 have h3:peekG (hset s.H k (.fro (il l))) (({ s with H:=hset s.H k (.fro (il l)) } : St).get t)=some (0 + l.length≤(il l).length∧(((il l).drop 0).take l.length).all PV.one=true,.list (((il l).drop 0).take l.length),true):=by
  have e:({ s with H:=hset s.H k (.fro (il l)) } : St).get t = .sl k 0 l.length:=h1
  rw [e]
  simp only [peekG,peekS,e2]
 have R3:=R2.pure h3 (by
  simp only [il_length,List.drop_zero,il_take,take_len,il_all]
  exact ⟨by omega,trivial⟩)
 simp only [List.drop_zero,il_take,take_len] at R3
 exact R3
end
end Go.Pv

/-
  A map's values, read more weakly. Conditions: none; a library text.
-/
set_option linter.all false
namespace Go.Pv
open Go.RowKit
section
variable {P:Program} {C:Ctx} {m:Map} {s:St} {tmps:Array Value} {w:World}

theorem Rel.mpw (R:Rel C m s tmps w) {k:Nat} {kk:IntKind} {d:Int→Bool} {v v' : Int→PV} (hk:hget s.H k = .mp kk d v) (hv:∀ z,d z=true→∀ ok w x,Reads ok w (v z) x→Reads ok w (v' z) x):Rel C m { s with H:=hset s.H k (.mp kk d v') } tmps w:=by
 have hk2:=hget_some hk (by simp)
 have hkl:k < s.H.length:=(List.getElem?_eq_some_iff.1 hk2).1
 have hget:∀ (j:Nat) (b:Blk),(hset s.H k (.mp kk d v'))[j]? = some b→(j=k∧b = .mp kk d v')∨(j ≠ k∧s.H[j]? = some b):=by
  intro j b h
  rw [hset_get] at h
  by_cases e:j=k
  ·rw [if_pos ⟨e,hkl⟩] at h; exact .inl ⟨e,(Option.some.inj h).symm⟩
  ·rw [if_neg (by simp [e])] at h; exact .inr ⟨e,h⟩
 have hown:∀ (j:Nat) (c:List AV),(hset s.H k (.mp kk d v'))[j]? = some (.own c)→s.H[j]? = some (.own c):=fun j c h=>by
  rcases hget j _ h with ⟨_,e⟩ | ⟨_,h⟩
  ·cases e
  ·exact h
 have hok:∀ b,OK C m s.H w b→OK C m (hset s.H k (.mp kk d v')) w b:=fun b h=>⟨h.1,h.2.1,fun j c l hj hl=>h.2.2 j c l (hown j c hj) hl⟩
 have rdx:∀ p x,Reads (OK C m s.H w) w p x→Reads (OK C m (hset s.H k (.mp kk d v')) w) w p x:=fun p x h=>h.mono hok
 have hlen:s.H.length≤(hset s.H k (.mp kk d v')).length:=by rw [hset_length]; exact Nat.le_refl _
 refine ⟨R.laid.ext rdx,R.below,R.base,R.size,fun j j' c c' l l' h1 h2=>R.inj j j' c c' l l' (hown j c h1) (hown j' c' h2),fun j c h=>?_,fun j c h=>?_,fun t=>(R.slot t).ext rdx hlen fun _ _=>rfl,fun j kk2 d2 v2 h=>?_,fun j j' kk2 d2 v2 kk3 d3 v3 l l' h1 h2 h3 h4 h5=>?_,fun j i i' h=>?_,?_⟩
 ·exact (R.blk j c (hown j c h)).ext rdx hlen (fun _ _=>rfl) rfl fun _ _=>rfl
 ·rcases hget j _ h with ⟨_,e⟩ | ⟨_,h⟩
  ·cases e
  ·rcases R.fro j c h with h' | ⟨l2,vs2,b1,b2,b3,b4⟩
   ·exact .inl h'
   ·exact .inr ⟨l2,vs2,b1,hok _ b2,b3,fun i hi=>⟨(b4 i hi).1,rdx _ _ (b4 i hi).2⟩⟩
 ·rcases hget j _ h with ⟨rfl,e⟩ | ⟨_,h⟩
  ·simp only [Blk.mp.injEq] at e
   obtain ⟨rfl,rfl,rfl⟩:=e
   obtain ⟨l,ar,clk,vs,a1,a2,a3,a4,a5,a6,a7⟩:=R.mp.1 j _ _ v hk2
   exact ⟨l,ar,clk,vs,a1,a2,a3,a4,a5,a6,fun z hz=>hv z hz _ _ _ (rdx _ _ (a7 z hz))⟩
  ·obtain ⟨l,ar,clk,vs,a1,a2,a3,a4,a5,a6,a7⟩:=R.mp.1 j _ _ _ h
   exact ⟨l,ar,clk,vs,a1,a2,a3,a4,a5,a6,fun z hz=>rdx _ _ (a7 z hz)⟩
 ·have old:∀ (j:Nat) (kk2:IntKind) (d2:Int→Bool) (v2:Int→PV),(hset s.H k (.mp kk d v'))[j]? = some (.mp kk2 d2 v2)→∃ v4,s.H[j]? = some (.mp kk2 d2 v4):=fun j kk2 d2 v2 h=>by
   rcases hget j _ h with ⟨rfl,e⟩ | ⟨_,h⟩
   ·simp only [Blk.mp.injEq] at e
    obtain ⟨rfl,rfl,rfl⟩:=e
    exact ⟨v,hk2⟩
   ·exact ⟨v2,h⟩
  obtain ⟨v4,h1'⟩:=old j _ _ _ h1
  obtain ⟨v5,h2'⟩:=old j' _ _ _ h2
  exact R.mp.2.1 j j' kk2 d2 v4 kk3 d3 v5 l l' h1' h2' h3 h4 h5
 ·rcases hget j _ h with ⟨_,e⟩ | ⟨_,h⟩
  ·cases e
  ·obtain ⟨a1,a2⟩:=R.mp.2.2.1 j i i' h
   exact ⟨by simp only [hset_length]; exact a1,a2⟩
 ·refine R.mp.2.2.2.ext id (fun j r h=>?_) (fun _ _ _ _ _ _ h=>h) (fun _ _ _ _ _ h=>rfl) fun _ _ _ _ _ h=>h
  rcases hget j _ h with ⟨_,e⟩ | ⟨_,h⟩
  ·cases e
  ·exact ⟨h,rfl⟩
theorem hk_mpw {c:Code} {Q:Exit→St→Prop} (k:Nat) {kk:IntKind} {d:Int→Bool} {v v' : Int→PV} (hk:hget s.H k = .mp kk d v) (hv:∀ z,d z=true→∀ ok w x,Reads ok w (v z) x→Reads ok w (v' z) x) (h:Holds P c Q { s with H:=hset s.H k (.mp kk d v') }):Holds P c Q s:=
 fun r ds C m a w R hd=>h r ds C m a w (R.mpw hk hv) hd
end
end Go.Pv

/-
  Graphs of words: the walk of reaching all places. Conditions: none.
-/
set_option linter.all false
namespace Go.Proofs.Ytneglephfhiamaa
open Go.Pv

def wayB (f:Wy):Blk:=.mp .i64 (fun z=>(f z).isSome) (fun z=>.list (il ((f z).getD [])))
/-- Roads as they are kept while places are reached: none is nil. -/
def wayN (f:Wy):Blk:=.mp .i64 (fun z=>(f z).isSome) (fun z=>nl ((f z).getD []))
theorem wayN_zero:Blk.mp .i64 (fun u=>decide (u=0) || false) (fun z=>nl ((updW (fun _=>none) 0 [] z).getD []))=wayN (updW (fun _=>none) 0 []):=by
 unfold wayN
 congr 1
 funext z
 unfold updW
 by_cases h:z=0<;>simp [h]
theorem wayN_upd (f:Wy) (u:Int) (l:List Int) (x:Int):Blk.mp .i64 (fun z=>decide (z=u) || (f z).isSome) (fun z=>bif decide (z=u) then .list (il (l++[x])) else nl ((f z).getD []))=wayN (updW f u (l++[x])):=by
 unfold wayN updW
 congr 1
 ·funext z
  by_cases h:z=u<;>simp [h]
 ·funext z
  by_cases h:z=u
  ·simp only [h,decide_true,cond_true,if_true,Option.getD_some]; exact (nl_cons l x).symm
  ·simp only [h,decide_false,cond_false,if_false]

section
variable {G:List Mp} {U:List Int}
theorem runs_letters {s:St} {all:Array Oper} {rest:List Oper} {K:St→Prop} {dst:Option Tmp} {ty:TypeId} {pos:String} {aft:Array Edge} {gd:Option (Nat × Bool)} {fo:Operand} {args:Array Operand} {ts:Array TypeId} {X:Heap}
  (w:WG G U) (hk:G.length≤100000000) {v:Nat} (hv:v < G.length) (hfo:s.ev fo = .p (.fn 58 [])) (hg:guardA all s { dst:=dst,op:=.call { callee:=.value fo,args:=args,argTypes:=ts },type:=ty,pos:=pos,after:=aft,guard:=gd } = some true)
  (hH:s.H=GB G U++X) (hargs:args.toList.map s.ev++([]:List PV).map .p=[.ptr 0 0,.p (.int .i64 v)]) (hd:dstOk s dst)
  (h:Runs Try.prog false all rest K (({ s with H:=GB G U++X } : St).put dst (.p (.list (il (lts (gm G v))))))) :
  Runs Try.prog false all ({ dst:=dst,op:=.call { callee:=.value fo,args:=args,argTypes:=ts },type:=ty,pos:=pos,after:=aft,guard:=gd } :: rest) K s:=
 runs_callP (letters_c w hk hv) hfo hg hH hargs (by rw [GB_len]; simp [scA,sc1]) GB_all GB_na (GB_scP rfl) hd h

theorem le_mid {S s:St} {B X:Heap} {N n0:Nat} {kk:IntKind} {d:Int→Bool} {v:Int→PV} (hn:S.n=s.n) (hN:B.length=N) (hn0:N + X.length=n0) (hSH:S.H=B++[.mp kk d v]++X) (hB:∀ b∈B,hsc N b=true) (hX:∀ b∈X,hsc N b=true)
  (h0:∀ i,i < N→hget s.H i=hget B i) (h1:∀ i,i < X.length→hget s.H (N + i)=hget X i) (h2:hget s.H n0 = .mp kk d v) (hsl:LeS (List.range N++[n0]++List.range' N X.length) S.sl s):Le (List.range N++[n0]++List.range' N X.length) S s:=by
 have hπ:∀ i,i < N→(List.range N++[n0]++List.range' N X.length).getD i 0=i:=fun i hi=>by
  rw [List.append_assoc,List.getD_eq_getElem?_getD,List.getElem?_append_left (by simpa using hi)]
  simp [List.getElem?_range hi]
 refine ⟨hn,?_,?_,hsl⟩
 ·rw [List.nodup_append,List.nodup_append]
  refine ⟨⟨List.nodup_range,by simp,fun x hx y hy=>?_⟩,List.nodup_range',fun x hx y hy=>?_⟩
  ·have:=List.mem_range.1 hx
   rw [List.mem_singleton] at hy
   omega
  ·have hy:=List.mem_range'_1.1 hy
   rcases List.mem_append.1 hx with hx | hx
   ·have:=List.mem_range.1 hx; omega
   ·rw [List.mem_singleton] at hx; omega
 ·rw [hSH]
  refine leH_app (leH_app ?_ ⟨h2,trivial⟩) ?_
  ·have:=leH_stay (π:=List.range N++[n0]++List.range' N X.length) (H:=s.H) (B:=B) (a:=0) (L:=N) hπ (by simp) hB (fun i hi=>by rw [Nat.zero_add]; exact h0 i (by omega))
   rwa [hN,← List.range_eq_range'] at this
  ·exact leH_stay (π:=List.range N++[n0]++List.range' N X.length) (H:=s.H) (B:=X) (a:=N) (L:=N) hπ (by simp) hX h1

set_option maxHeartbeats 4000000 in
set_option maxRecDepth 20000 in
theorem reach_e (w0:WG G U) (hp:0 < G.length) (hk:G.length≤100000000) :
  FnE Try.prog 55 [.ptr 0 0] (GB G U) (fun r H'=>∃ (lst:List Nat) (f:Wy) (U' : List Int),r = .tup [.p (.list (il (lst.map Int.ofNat))),.mptr (G.length + 3)]∧H' = GB G U'++[wayB f]∧(WG G U'∧∀ u,u < G.length→rV U' u=rV U u)∧BI G U' lst f∧BQ G U' lst f lst.length):=by
 obtain ⟨Post,hP⟩:∃ Post:AV→Heap→Prop,Post=(fun r H'=>∃ (lst:List Nat) (f:Wy) (U' : List Int),r = .tup [.p (.list (il (lst.map Int.ofNat))),.mptr (G.length + 3)]∧H' = GB G U'++[wayB f]∧(WG G U'∧∀ u,u < G.length→rV U' u=rV U u)∧BI G U' lst f∧BQ G U' lst f lst.length):=⟨_,rfl⟩
 rw [← hP]
 refine fne_of tab_ok Try.func55 rfl (by kernel_rfl) (by rw [Try.ntmps55]; exact Nat.le_add_left 1 _) ?_; rw [Try.ntmps55]; simp only [ancs,entA,List.length_cons,List.length_nil,List.cons_append,List.nil_append,Nat.reduceAdd,Nat.zero_add]
 have hYl:(ancs 0 (GB G U).length).length=G.length + 3:=by rw [ancs_length,GB_len]
 have hXs0:∀ L,G.length + 3≤L→∀ b∈ancs 0 (GB G U).length,hsc L b=true:=fun L hL b hb=>ancs_hsc (by rw [GB_len]; omega) b hb
 generalize ancs 0 (GB G U).length=X at hYl hXs0 ⊢
 obtain ⟨n0,hn0⟩:∃ n0,G.length + 3 + (G.length + 3)=n0:=⟨_,rfl⟩
 have hBl:∀ U1,(GB G U1++X).length=n0:=fun U1=>by rw [List.length_append,GB_len,hYl]; exact hn0
 obtain ⟨U1,hU1⟩:∃ U1,ofU U 0=U1:=⟨_,rfl⟩
 have w1:WG G U1:=hU1 ▸ w0.of hp
 have r1:∀ u,u < G.length→rV U1 u=rV U u:=hU1 ▸ w0.ofr hp
 have hz:rV U 0=0:=rV_zero w0.fo (by rw [w0.len]; exact hp)
 have hz1:rV U1 0=0:=by rw [r1 0 hp]; exact hz
 obtain ⟨U2,hU2⟩:∃ U2,ofU U1 0=U2:=⟨_,rfl⟩
 have w2:WG G U2:=hU2 ▸ w1.of hp
 have r2:∀ u,u < G.length→rV U2 u=rV U u:=fun u hu=>by rw [← hU2,w1.ofr hp u hu]; exact r1 u hu
 have fi2:WG G U2∧∀ u,u < G.length→rV U2 u=rV U u:=⟨w2,r2⟩
 have hz2:rV U2 0=0:=by rw [r2 0 hp]; exact hz
 have hg0:∀ (V:List Int) (a:Blk) (R:Heap),hget (GB G V++(X++a :: R)) n0=a:=fun V a R=>by
  rw [← List.append_assoc,hget_app2 (by rw [hBl]; exact Nat.le_refl _),hBl,Nat.sub_self]; rfl
 have hg1:∀ (V:List Int) (a b:Blk) (R:Heap),hget (GB G V++(X++a :: b :: R)) (n0 + 1)=b:=fun V a b R=>by
  rw [← List.append_assoc,hget_app2 (by rw [hBl]; omega),hBl,Nat.add_sub_cancel_left]; rfl
 have hs0:∀ (V:List Int) (a c:Blk) (R:Heap),hset (GB G V++(X++a :: R)) n0 c=GB G V++(X++c :: R):=fun V a c R=>by
  rw [← List.append_assoc,hset_eq,List.set_append_right _ _ (by rw [hBl]; exact Nat.le_refl _),hBl,Nat.sub_self,List.append_assoc]; rfl
 have hs1:∀ (V:List Int) (a b c:Blk) (R:Heap),hset (GB G V++(X++a :: b :: R)) (n0 + 1) c=GB G V++(X++a :: c :: R):=fun V a b c R=>by
  rw [← List.append_assoc,hset_eq,List.set_append_right _ _ (by rw [hBl]; omega),hBl,Nat.add_sub_cancel_left,List.append_assoc]; rfl
 have hL:∀ (V:List Int) (R:Heap),(GB G V++(X++R)).length=n0 + R.length:=fun V R=>by
  rw [← List.append_assoc,List.length_append,hBl]
 have hBs:∀ (V:List Int) (f:Wy) (c:List Int),∀ b∈(GB G V++(X++[wayN f,.own (ol c)])),hsc (n0 + 2) b=true:=fun V f c b hb=>by
  rw [← List.append_assoc] at hb
  rcases List.mem_append.1 hb with hb | hb
  ·exact GB_hscX (by omega) (hXs0 _ (by omega)) b hb
  ·simp only [List.mem_cons,List.not_mem_nil,or_false] at hb
   rcases hb with rfl | rfl
   ·rfl
   ·exact List.all_eq_true.2 fun x hx=>(List.all_eq_true.1 (ol_sc _ _)) x hx
 have hle:∀ {S1 s1:St} (V:List Int) (f:Wy) (c:List Int),S1.n=s1.n→s1.H=GB G V++(X++[wayN f,.own (ol c)])→S1.H=s1.H→(∀ p∈S1.sl,s1.get p.1=p.2∧scA (n0 + 2) p.2=true)→Le (List.range (n0 + 2)) S1 s1:=fun {S1 s1} V f c h1 h2 h3 h4=>by
  have hlen:s1.H.length=n0 + 2:=by rw [h2,hL]; rfl
  rw [← hlen] at h4 ⊢
  exact le_same h1 h3 (fun b hb=>by rw [hlen]; rw [h2] at hb; exact hBs V f c b hb) h4
 have hgw:∀ (V:List Int) (f:Wy) (R:Heap),hget (GB G V++(X++wayN f :: R)) n0 = .mp .i64 (fun z=>(f z).isSome) (fun z=>nl ((f z).getD [])):=fun V f R=>hg0 V _ R
 have hgA:∀ (V:List Int) (a b c:Blk),hget (GB G V++(X++[a,b])++[c]) (n0 + 2)=c:=fun V a b c=>by
  rw [hget_app2 (by rw [hL]; exact Nat.le_refl _),hL]; simp [hget]
 have hsA:∀ (V:List Int) (a b c d:Blk),hset (GB G V++(X++[a,b])++[c]) (n0 + 2) d=GB G V++(X++[a,b,d]):=fun V a b c d=>by
  rw [hset_eq,List.set_append_right _ _ (by rw [hL]; exact Nat.le_refl _),hL]; simp
 have hgB:∀ (V:List Int) (a b c d:Blk),hget (GB G V++(X++[a,b,c])++[d]) (n0 + 3)=d:=fun V a b c d=>by
  rw [hget_app2 (by rw [hL]; exact Nat.le_refl _),hL]; simp [hget]
 have hBs1:∀ (V:List Int) (f:Wy) (M:Nat),n0≤M→∀ b∈(GB G V++(X++[wayN f])),hsc M b=true:=fun V f M hM b hb=>by
  rw [← List.append_assoc] at hb
  rcases List.mem_append.1 hb with hb | hb
  ·exact GB_hscX (by omega) (hXs0 _ (by omega)) b hb
  ·rw [List.mem_singleton] at hb; subst hb; rfl
 refine qm ?_
 refine hk_region fun K hK=>runs_eval tab_ok ?_
 simp only [ev0,evA,evB,evP,fl,gp,tab,simprocAttr,reduceCtorEq,reduceIte]
 refine fin_run trivial (hK _ ?_)<;>clear hK<;>clear K
 refine qa (qm ?_)
 refine hk_region fun K hK=>runs_eval tab_ok ?_
 simp only [ev0,evA,evB,evP,fl,gp,tab,simprocAttr,reduceCtorEq,reduceIte,hBl]
 refine fin_stop ?_ (runs_of (U:=U) (X:=X++[.mp .i64 (fun _=>false) (fun _=>default)]) w0 (by omega) (v:=0) hp rfl rfl (by rw [List.append_assoc]) rfl (by simp only [dstOk,Nat.reduceLT]) (runs_eval tab_ok ?_))
 ·exact trivial
 simp only [hU1,hz]
 simp only [ev0,evA,evB,evP,fl,gp,tab,simprocAttr,reduceCtorEq,reduceIte]
 refine fin_stop ?_ (runs_op (insert_does tab_ok rfl rfl (by
  simp only [mapUpdateA,hg0,ev0,evA,evB,evP,fl,gp,tab,simprocAttr,reduceCtorEq,reduceIte]
  rfl) ?_) rfl (by simp only [dstOk,Nat.reduceLT]) (runs_eval tab_ok ?_))
 ·exact trivial
 ·exact trivial
 simp only [hs0]
 simp only [ev0,evA,evB,evP,fl,gp,tab,simprocAttr,reduceCtorEq,reduceIte]
 refine fin_run trivial (hK _ ?_)<;>clear hK<;>clear K
 refine qa (qm ?_)
 refine hk_mpw n0 (v':=fun z=>nl ((updW (fun _=>none) 0 [] z).getD [])) (hg0 _ _ _) (fun z hz ok w x hx=>?_) ?_
 ·have e:z=0:=by simpa using hz
  subst e
  exact hx
 simp only [hs0,wayN_zero]
 refine hk_region fun K hK=>runs_eval tab_ok ?_
 simp only [ev0,evA,evB,evP,fl,gp,tab,simprocAttr,reduceCtorEq,reduceIte]
 refine fin_stop ?_ (runs_of (U:=U1) (X:=X++[wayN (updW (fun _=>none) 0 [])]) w1 (by omega) (v:=0) hp rfl rfl rfl rfl (by simp only [dstOk,Nat.reduceLT]) (runs_op (buildOwn_does (n:=1) (l:=[.int .i64 (rV U1 0:Nat)]) tab_ok rfl rfl rfl rfl rfl rfl rfl ⟨⟨rfl,rfl,rfl⟩,trivial⟩ rfl (by decide) rfl) rfl (show (20:Nat) < 75 by decide) (runs_eval tab_ok ?_)))
 ·exact trivial
 simp only [hU2,hz1]
 simp only [ev0,evA,evB,evP,fl,gp,tab,simprocAttr,reduceCtorEq,reduceIte,hL,List.append_assoc,List.cons_append,List.nil_append]
 refine fin_run trivial (hK _ ?_)<;>clear hK<;>clear K
 refine qa (qm (qm ?_))
 refine hk_region fun K hK=>runs_eval tab_ok ?_
 simp only [ev0,evA,evB,evP,fl,gp,tab,simprocAttr,reduceCtorEq,reduceIte,List.append_assoc,List.cons_append,List.nil_append]
 refine fin_run trivial (hK _ ?_)<;>clear hK<;>clear K
 refine qa (ql ?_)
 refine hk_loop (ι:=Nat × List Nat × Wy × List Int) (fun q=>⟨75,[(0,.ptr 0 0),(4,.mptr n0),(5,.sl (n0 + 1) 0 q.2.1.length),(6,.p (.int .i64 (q.1:Nat)))],GB G q.2.2.2++(X++[wayN q.2.2.1,.own (ol (q.2.1.map Int.ofNat))])⟩)
  (fun q=>q.1≤q.2.1.length∧(WG G q.2.2.2∧∀ u,u < G.length→rV q.2.2.2 u=rV U u)∧BI G q.2.2.2 q.2.1 q.2.2.1∧BQ G q.2.2.2 q.2.1 q.2.2.1 q.1) (fun q=>G.length - q.1) (0,[0],updW (fun _=>none) 0 [],U2) ⟨Nat.zero_le _,fi2,bi_zero hz2 hp,bq_zero⟩ (List.range (n0 + 2)) (hle U2 (updW (fun _=>none) 0 []) [0] rfl rfl rfl (by simp [St.get,lk,scA,sc1])) fun q hq=>?_
 obtain ⟨i,lst,f,V⟩:=q
 obtain ⟨q1,fi1,bi1,bq1⟩:=hq
 simp only at q1 fi1 bi1 bq1 ⊢
 have hll:lst.length≤G.length:=nodup_len _ _ bi1.nd fun x hx=>(bi1.rt x hx).1
 refine qm (qm ?_)
 refine hk_region fun K hK=>runs_eval tab_ok ?_
 simp only [ev0,evA,evB,evP,fl,gp,tab,simprocAttr,reduceCtorEq,reduceIte]
 refine fin_run trivial (hK _ ?_)<;>clear hK<;>clear K
 refine qa ?_
 refine hk_cond rfl (fun hC1=>?_) (fun hC1=>?_)
 ·(try simp only [nhs] at hC1)
  have hi:i < lst.length:=by omega
  obtain ⟨v,hv⟩:∃ v,lst.getD i 0=v:=⟨_,rfl⟩
  have hvm:v∈lst:=hv ▸ mem_ix hi
  obtain ⟨hvl,hvr⟩:=bi1.rt v hvm
  have hgl:∀ d:AV,(ol (lst.map Int.ofNat)).getD i d = .p (.int .i64 (v:Nat)):=fun d=>by
   rw [ol_get (by simpa using hi)]
   have:(lst.map Int.ofNat).getD i 0=(v:Int):=by
    rw [← hv,List.getD_eq_getElem?_getD,List.getD_eq_getElem?_getD,List.getElem?_map,List.getElem?_eq_getElem hi]; rfl
   rw [this]
  refine qh (qa (qm (ql (qm ?_))))
  refine hk_region fun K hK=>runs_eval tab_ok ?_
  simp only [ev0,evA,evB,evP,fl,gp,tab,simprocAttr,reduceCtorEq,reduceIte,hg1,hgl]
  refine fin_run ?_ (hK _ ?_)<;>clear hK<;>clear K
  ·exact ⟨by omega,by simpa using hi⟩
  refine qa (qm ?_)
  refine hk_region fun K hK=>runs_eval tab_ok ?_
  simp only [ev0,evA,evB,evP,fl,gp,tab,simprocAttr,reduceCtorEq,reduceIte]
  refine fin_stop ?_ (runs_letters (U:=V) (X:=X++[wayN f,.own (ol (lst.map Int.ofNat))]) fi1.1 (by omega) (v:=v) hvl rfl rfl rfl rfl (by simp only [dstOk,Nat.reduceLT]) (runs_eval tab_ok ?_))
  ·exact trivial
  simp only [ev0,evA,evB,evP,fl,gp,tab,simprocAttr,reduceCtorEq,reduceIte,il_length]
  refine fin_run trivial (hK _ ?_)<;>clear hK<;>clear K
  refine qa (ql ?_)
  obtain ⟨L,hLd⟩:∃ L,lts (gm G v)=L:=⟨_,rfl⟩
  have hLl:L.length≤53:=hLd ▸ lts_len _
  rw [hLd]
  refine hk_loop (ι:=Nat × List Nat × Wy × List Int) (fun q=>⟨75,[(0,.ptr 0 0),(4,.mptr n0),(5,.sl (n0 + 1) 0 q.2.1.length),(6,.p (.int .i64 (i:Nat))),(7,.p (.int .i64 (v:Nat))),(33,.p (.list (il L))),(34,.p (.int .i64 L.length)),(35,.p (.int .i64 (q.1:Nat)))],GB G q.2.2.2++(X++[wayN q.2.2.1,.own (ol (q.2.1.map Int.ofNat))])⟩)
   (fun q=>q.1≤L.length∧i < q.2.1.length∧q.2.1.getD i 0=v∧(WG G q.2.2.2∧∀ u,u < G.length→rV q.2.2.2 u=rV U u)∧BI G q.2.2.2 q.2.1 q.2.2.1∧BQ G q.2.2.2 q.2.1 q.2.2.1 i∧BL G q.2.2.2 q.2.1 q.2.2.1 i (L.take q.1)) (fun q=>L.length - q.1) (0,lst,f,V) ⟨Nat.zero_le _,hi,hv,fi1,bi1,bq1,fun x hx=>by simp at hx⟩ (List.range (n0 + 2)) (hle V f (lst.map Int.ofNat) rfl rfl rfl (by simp [St.get,lk,scA,sc1])) fun q hq=>?_
  obtain ⟨j,lst2,f2,V2⟩:=q
  obtain ⟨j1,j2,j3,fi3,bi3,bq3,bl3⟩:=hq
  simp only at j1 j2 j3 fi3 bi3 bq3 bl3 ⊢
  have hll2:lst2.length≤G.length:=nodup_len _ _ bi3.nd fun x hx=>(bi3.rt x hx).1
  have hvm2:v∈lst2:=j3 ▸ mem_ix j2
  have hvr2:rV V2 v=v:=(bi3.rt v hvm2).2
  refine qm ?_
  refine hk_region fun K hK=>runs_eval tab_ok ?_
  simp only [ev0,evA,evB,evP,fl,gp,tab,simprocAttr,reduceCtorEq,reduceIte]
  refine fin_run trivial (hK _ ?_)<;>clear hK<;>clear K
  refine qa (qm ?_)
  refine hk_cond rfl (fun hC2=>?_) (fun hC2=>?_)
  ·(try simp only [nhs] at hC2)
   have hj:j < L.length:=by omega
   obtain ⟨x,hx⟩:∃ x,L.getD j 0=x:=⟨_,rfl⟩
   have hxm:x∈L:=by rw [← hx,List.getD_eq_getElem?_getD,List.getElem?_eq_getElem hj]; exact List.getElem_mem hj
   have hxs:(gm G v x).isSome=true:=(mem_lts.1 (hLd ▸ hxm)).2
   obtain ⟨c,hc⟩:=Option.isSome_iff_exists.1 hxs
   obtain ⟨e0,e1,e2⟩:=fi3.1.ent v x c hvl hc
   obtain ⟨d,rfl⟩:=Int.eq_ofNat_of_zero_le e0
   rw [Int.toNat_natCast] at e1
   obtain ⟨V3,hV3⟩:∃ V3,ofU V2 d=V3:=⟨_,rfl⟩
   have w3:WG G V3:=hV3 ▸ fi3.1.of e1
   have r3:∀ u,u < G.length→rV V3 u=rV V2 u:=hV3 ▸ fi3.1.ofr e1
   have fi4:WG G V3∧∀ u,u < G.length→rV V3 u=rV U u:=⟨w3,fun u hu=>(r3 u hu).trans (fi3.2 u hu)⟩
   have bi4:BI G V3 lst2 f2:=bi3.up fi3.1 r3
   have bq4:BQ G V3 lst2 f2 i:=bq3.up bi3 fi3.1 r3 (by omega)
   have bl4:BL G V3 lst2 f2 i (L.take j):=bl3.up bi3 fi3.1 r3 j2
   obtain ⟨u,hu⟩:∃ u,rV V2 d=u:=⟨_,rfl⟩
   have hul:u < G.length:=hu ▸ fi3.1.rlt e1
   have hur:rV V3 u=u:=by rw [r3 u hul,← hu]; exact fi3.1.idem e1
   have hed:Ed G V3 v x u:=⟨d,by rw [r3 v hvl,hvr2]; exact hc,by rw [Int.toNat_natCast,r3 d e1,hu,hur]⟩
   have huq:∀ y,y < G.length→rV V3 y=y→Ed G V3 (lst2.getD i 0) x y→y=u:=fun y hy hyr ⟨d',hd',hd2⟩=>by
    rw [j3,r3 v hvl,hvr2,hc] at hd'
    obtain rfl:=Option.some.inj hd'
    rw [Int.toNat_natCast,r3 d e1,hu,hyr] at hd2
    exact hd2.symm
   have hLt:L.take (j + 1)=L.take j++[x]:=by rw [take_snoc (d:=0) hj,hx]
   have gM:∀ Y:Heap,hget (G.map mpB++Y) v=mpB (gm G v):=fun Y=>hget_G hvl
   have hGBk:∀ (Y:Heap),GB G V2++Y = .own [.sl 1 0 G.length,.sl 2 0 V2.length] :: .own (mps G.length) :: .own (ol V2) :: (G.map mpB++Y):=fun Y=>rfl
   refine qh (qa (qm (ql (qm ?_))))
   refine hk_region fun K hK=>runs_eval tab_ok ?_
   simp only [ev0,evA,evB,evP,fl,gp,tab,simprocAttr,reduceCtorEq,reduceIte,il_length,il_get hj,hx]
   refine fin_run ?_ (hK _ ?_)<;>clear hK<;>clear K
   ·omega
   refine qa (qm ?_)
   rw [hGBk]
   refine hk_region fun K hK=>runs_eval tab_ok ?_
   simp only [ev0,evA,evB,evP,fl,gp,tab,simprocAttr,reduceCtorEq,reduceIte,mps_get hvl,gM,mpB,hc,Option.isSome_some,cond_true,Option.getD_some,Int.ofNat_eq_natCast,mps_len,Int.toNat_natCast]
   refine fin_stop ?_ (runs_of (U:=V2) (X:=X++[wayN f2,.own (ol (lst2.map Int.ofNat))]) fi3.1 (by omega) (v:=d) e1 rfl rfl (hGBk _).symm rfl (by simp only [dstOk,Nat.reduceLT]) (runs_eval tab_ok ?_))
   ·exact ⟨⟨by omega,by omega⟩,hvl⟩
   simp only [hV3,hu]
   simp only [ev0,evA,evB,evP,fl,gp,tab,simprocAttr,reduceCtorEq,reduceIte]
   refine fin_run trivial (hK _ ?_)<;>clear hK<;>clear K
   refine qa (qm ?_)
   refine hk_region fun K hK=>runs_eval tab_ok ?_
   simp only [ev0,evA,evB,evP,fl,gp,tab,simprocAttr,reduceCtorEq,reduceIte,hgw]
   refine fin_run ?_ (hK _ ?_)<;>clear hK<;>clear K
   ·(first|exact trivial|omega|(simp only [In64] at *; omega)|(simp [In64] at *; omega)|(simp_all; done)|skip)
   refine qa (qm ?_)
   refine hk_region fun K hK=>runs_eval tab_ok ?_
   simp only [ev0,evA,evB,evP,fl,gp,tab,simprocAttr,reduceCtorEq,reduceIte]
   refine fin_run trivial (hK _ ?_)<;>clear hK<;>clear K
   refine qa ?_
   refine hk_cond rfl (fun hC3=>?_) (fun hC3=>?_)
   ·(try simp only [nhs] at hC3)
    have hfu:f2 (u:Int)=none:=by simpa using hC3
    obtain ⟨l,hl⟩:∃ l,f2 (v:Int)=some l:=Option.isSome_iff_exists.1 ((bi4.dom v).2 ⟨v,hvm2,rfl⟩)
    have hlw:wy f2 v=l:=by unfold wy; rw [hl]; rfl
    have hlen:l.length < lst2.length:=bi4.len _ _ hl
    refine qm ?_
    refine hk_regMid 10 (runs_cut fun K hK=>?_)
    simp only [List.take_succ_cons,List.take_zero]
    refine runs_eval tab_ok ?_
    simp only [ev0,evA,evB,evP,fl,gp,tab,simprocAttr,reduceCtorEq,reduceIte,hgw,hl,Option.isSome_some,cond_true,Option.getD_some]
    refine fin_stop trivial (runs_call (clone_n l (by omega)) rfl rfl rfl (by simp only [dstOk,Nat.reduceLT]) (by repeat (first|exact trivial|constructor)) (runs_eval tab_ok ?_))
    simp only [ev0,evA,evB,evP,fl,gp,tab,simprocAttr,reduceCtorEq,reduceIte]
    refine fin_stop trivial (runs_call (clip_n l) rfl rfl rfl (by simp only [dstOk,Nat.reduceLT]) (by repeat (first|exact trivial|constructor)) (runs_eval tab_ok ?_))
    simp only [ev0,evA,evB,evP,fl,gp,tab,simprocAttr,reduceCtorEq,reduceIte,hL]
    refine fin_run ?_ (hK _ ?_)<;>clear hK<;>clear K
    ·exact ⟨by omega,by omega⟩
    refine ⟨_,fun C m tmps w R=>R.sealI 67 (n0 + 2) (l:=l++[x]) ?_ ?_,?_⟩
    ·show AV.sl (n0 + 2) 0 (l.length + 1)=AV.sl (n0 + 2) 0 (l++[x]).length
     rw [List.length_append]; rfl
    ·refine (hgA _ _ _ _).trans ?_
     simp [ol,il]
    refine runs_cut fun K hK=>?_
    simp only [List.drop_succ_cons,List.drop_zero,hsA]
    refine runs_eval tab_ok ?_
    simp only [ev0,evA,evB,evP,fl,gp,tab,simprocAttr,reduceCtorEq,reduceIte,hgw,hs0,wayN_upd]
    refine fin_run trivial (hK _ ?_)<;>clear hK<;>clear K
    refine qa ?_
    refine hk_region fun K hK=>runs_eval tab_ok ?_
    simp only [ev0,evA,evB,evP,fl,gp,tab,simprocAttr,reduceCtorEq,reduceIte,hg1,hs1,hL]
    refine fin_run ?_ (hK _ ?_)<;>clear hK<;>clear K
    ·exact ⟨by simp,by omega,by omega⟩
    refine qd (qa ?_)
    refine hk_region fun K hK=>runs_eval tab_ok ?_
    simp only [ev0,evA,evB,evP,fl,gp,tab,simprocAttr,reduceCtorEq,reduceIte]
    refine fin_run ?_ (hK _ ?_)<;>clear hK<;>clear K
    ·(first|exact trivial|omega|(simp only [In64] at *; omega)|(simp [In64] at *; omega)|(simp_all; done)|skip)
    refine qa ?_
    have e1:wy f2 (lst2.getD i 0)=l:=by rw [j3]; exact hlw
    have bi5:BI G V3 (lst2++[u]) (updW f2 u (l++[x])):=bi4.snoc (i:=i) j2 (by rw [j3]; exact hl) hul hur (by rw [j3]; exact hed) hfu
    have bq5:=BQ.snoc bi4 bq4 j2 (x:=x) hfu
    have bl5:=BL.snoc bi4 bl4 j2 (x:=x) hfu
    rw [e1] at bq5 bl5
    have bl6:=bl5.more (x:=x) (u:=u) (by simp) (by rw [updW_self,snoc_getD j2,bi4.other hfu (mem_ix j2),e1]; simp) (by rw [snoc_getD j2]; exact huq)
    rw [← hLt] at bl6
    obtain ⟨f3,hf3⟩:∃ f3,updW f2 u (l++[x])=f3:=⟨_,rfl⟩
    rw [hf3] at bi5 bq5 bl6 ⊢
    have hml:(lst2++[u]).map Int.ofNat=List.take lst2.length (lst2.map Int.ofNat)++[(u:Int)]:=by
     rw [List.take_of_length_le (by simp)]; simp
    refine ⟨(j + 1,lst2++[u],f3,V3),List.range (n0 + 1)++[n0 + 3],⟨by simp only; omega,by simp only [List.length_append]; omega,by simp only; rw [snoc_getD j2]; exact j3,fi4,bi5,bq5,bl6⟩,by simp only; omega,le_behind (B:=GB G V3++(X++[wayN f3])) (c:=ol ((lst2++[u]).map Int.ofNat)) (d:=ol ((lst2++[u]).map Int.ofNat)) rfl (by rw [hL]; rfl) (by simp) (fun b hb=>hBs1 V3 f3 _ (by omega) b hb) (by omega) (fun b hb=>hBs1 V3 f3 _ (by omega) b hb) (fun k hk=>?_) ?_ ?_ (ol_sc _ _) ?_⟩
    ·show hget (GB G V3++(X++[wayN f3,_,_])++[_]) k=_
     rw [show ∀ b c d:Blk,GB G V3++(X++[wayN f3,b,c])++[d]=(GB G V3++(X++[wayN f3]))++[b,c,d] from fun b c d=>by simp]
     exact hget_app1 (by rw [hL]; simpa using hk)
    ·rw [hml]
     exact hgB _ _ _ _ _
    ·rw [ol_ren,List.take_of_length_le (Nat.le_refl _)]
    ·have hq3:(List.range (n0 + 1)++[n0 + 3]).getD (n0 + 1) 0=n0 + 3:=by
      rw [List.getD_eq_getElem?_getD,List.getElem?_append_right (by simp)]; simp
     have hq0:(List.range (n0 + 1)++[n0 + 3]).getD 0 0=0:=by
      rw [List.getD_eq_getElem?_getD,List.getElem?_append_left (by simp)]; simp
     have hqn:(List.range (n0 + 1)++[n0 + 3]).getD n0 0=n0:=by
      rw [List.getD_eq_getElem?_getD,List.getElem?_append_left (by simp)]; simp
     refine ⟨?_,?_,?_,?_,?_,?_,rfl,rfl,rfl,rfl,rfl,rfl,rfl,rfl,?_,rfl,trivial⟩
     ·show AV.ptr 0 0=Go.Pv.ren _ _
      simp only [Go.Pv.ren,ren1,hq0]
     ·simp [scA,sc1]
     ·show AV.mptr n0=Go.Pv.ren _ _
      simp only [Go.Pv.ren,ren1,hqn]
     ·simp [scA,sc1]; omega
     ·show AV.sl (n0 + 3) 0 (lst2.length + 1)=Go.Pv.ren _ _
      simp only [Go.Pv.ren,ren1,hq3,List.length_append,List.length_singleton]
     ·simp [scA,sc1]
     ·rfl
   ·(try simp only [nhs] at hC3)
    refine qh (qd (qa ?_))
    refine hk_region fun K hK=>runs_eval tab_ok ?_
    simp only [ev0,evA,evB,evP,fl,gp,tab,simprocAttr,reduceCtorEq,reduceIte]
    refine fin_run ?_ (hK _ ?_)<;>clear hK<;>clear K
    ·(first|exact trivial|omega|(simp only [In64] at *; omega)|(simp [In64] at *; omega)|(simp_all; done)|skip)
    refine qa ?_
    obtain ⟨l,hl⟩:∃ l,f2 (u:Int)=some l:=Option.isSome_iff_exists.1 (by simpa using hC3)
    have hum:u∈lst2:=by
     obtain ⟨u',hu',e⟩:=(bi4.dom (u:Int)).1 (by rw [hl]; rfl)
     have:u' = u:=by omega
     exact this ▸ hu'
    have bl6:=bl4.more (x:=x) hum (by
     obtain ⟨k,hk,e⟩:=ix_of hum
     rw [← e]; exact bq4.cap j2 k hk) huq
    rw [← hLt] at bl6
    exact ⟨(j + 1,lst2,f2,V3),List.range (n0 + 2),⟨by simp only; omega,j2,j3,fi4,bi4,bq4,bl6⟩,by simp only; omega,hle V3 f2 (lst2.map Int.ofNat) rfl rfl rfl (by simp [St.get,lk,scA,sc1])⟩
  ·(try simp only [nhs] at hC2)
   refine qj (qc (qc (qf (qd (qa ?_)))))
   refine hk_region fun K hK=>runs_eval tab_ok ?_
   simp only [ev0,evA,evB,evP,fl,gp,tab,simprocAttr,reduceCtorEq,reduceIte]
   refine fin_run ?_ (hK _ ?_)<;>clear hK<;>clear K
   ·(first|exact trivial|omega|(simp only [In64] at *; omega)|(simp [In64] at *; omega)|(simp_all; done)|skip)
   refine qa ?_
   have hjl:j=L.length:=by omega
   have bq':=bq3.next bl3 fun x y hy hyr ⟨d,hd,_⟩=>by
    rw [j3,hvr2] at hd
    rw [hjl,List.take_length,← hLd]
    obtain ⟨_,_,e2⟩:=fi3.1.ent v x d hvl hd
    exact mem_lts.2 ⟨e2.2,by rw [hd]; rfl⟩
   exact ⟨(i + 1,lst2,f2,V2),List.range (n0 + 2),⟨by simp only; omega,fi3,bi3,bq'⟩,by simp only; omega,hle V2 f2 (lst2.map Int.ofNat) rfl rfl rfl (by simp [St.get,lk,scA,sc1])⟩
 ·(try simp only [nhs] at hC1)
  refine qj (qc (qc (qf (qa (qm ?_)))))
  refine hk_seal 5 (n0 + 1) (w:=lst.map Int.ofNat) (by show AV.sl (n0 + 1) 0 lst.length=_; rw [List.length_map]) (hg1 _ _ _ _) ?_
  simp only [hs1]
  refine hk_mpw n0 (v':=fun z=>.list (il ((f z).getD []))) (hgw _ _ _) (fun z hz ok w x hx=>nl_list hx) ?_
  simp only [hs0]
  refine hk_region fun K hK=>runs_eval tab_ok ?_
  simp only [ev0,evA,evB,evP,fl,gp,tab,simprocAttr,reduceCtorEq,reduceIte]
  refine fin_run trivial (hK _ ?_)<;>clear hK<;>clear K
  refine qa (qk ?_)
  simp only [Try.results55,PostG,endG,rvsA,rvA,mkTup,ev0,evA,evB,evP,fl,gp,tab,simprocAttr,reduceCtorEq,reduceIte]
  have hie:i=lst.length:=by omega
  have hπn:(List.range (G.length + 3)++[n0]++List.range' (G.length + 3) X.length).getD (G.length + 3) 0=n0:=by
   rw [List.append_assoc,List.getD_eq_getElem?_getD,List.getElem?_append_right (by simp)]; simp
  refine ⟨.tup [.p (.list (il (lst.map Int.ofNat))),.mptr (G.length + 3)],GB G V++[wayB f],by rw [hP]; exact ⟨lst,f,V,rfl,rfl,fi1,bi1,hie ▸ bq1⟩,List.range (G.length + 3)++[n0]++List.range' (G.length + 3) X.length,?_,?_,?_⟩
  ·simp only [Go.Pv.ren,ren1,List.map_cons,List.map_nil,hπn]
  ·simp [scA,sc1]
  ·refine le_mid (B:=GB G V) (X:=X) (N:=G.length + 3) (n0:=n0) rfl (GB_len _ _) (by rw [hYl]; exact hn0) rfl (GB_hsc (Nat.le_refl _)) (hXs0 _ (Nat.le_refl _)) (fun k hk=>?_) (fun k hk=>?_) (hg0 _ _ _) trivial
   ·exact hget_app1 (by rw [GB_len]; exact hk)
   ·rw [hget_app2 (by rw [GB_len]; omega),GB_len,Nat.add_sub_cancel_left]
    exact hget_app1 hk
end
end Go.Proofs.Ytneglephfhiamaa

/-
  Graphs of words: reaching all places, in a region of its own. Conditions: none.
-/
set_option linter.all false
namespace Go.Proofs.Ytneglephfhiamaa
open Go.Pv

theorem putM_pre0:∀ (H0 A P X E:Heap),A.length=H0.length→putM (P++H0++X) (List.range' P.length H0.length) (A++E)=P++A++X++E
 | [],[],P,X,E,_=>by simp [putM]
 | [],_ :: _,_,_,_,h=>by simp at h
 | _ :: _,[],_,_,_,h=>by simp at h
 | b :: H0,a :: A,P,X,E,h=>by
  rw [List.length_cons,List.range'_succ,List.cons_append,putM]
  have e:hset (P++b :: H0++X) P.length a=(P++[a])++H0++X:=by
   rw [hset_eq,List.append_assoc,List.set_append_right _ _ (Nat.le_refl _),Nat.sub_self]; simp
  rw [e]
  have:=putM_pre0 H0 A (P++[a]) X E (by simpa using h)
  rw [List.length_append,List.length_singleton] at this
  rw [this]; simp
theorem putM_pre {H0 A X E:Heap} (h:A.length=H0.length):putM (H0++X) (List.range H0.length) (A++E)=A++X++E:=by
 have:=putM_pre0 H0 A [] X E h
 rwa [List.nil_append,List.length_nil,← List.range_eq_range'] at this

section
variable {G:List Mp} {U:List Int}
theorem GBw_scM {f:Wy} {U' : List Int} {l:List PV} : scM (.tup [.p (.list l),.mptr (G.length + 3)]) (GB G U) (GB G U'++[wayB f])=true:=by
 unfold scM
 have hl:(GB G U'++[wayB f]).length=G.length + 4:=by rw [List.length_append,GB_len]; rfl
 have h1:(GB G U'++[wayB f]).all (fun | .own c=>c.all (scA (GB G U'++[wayB f]).length) | .anc _ _=>false | _=>true)=true:=by
  rw [List.all_eq_true]
  intro b hb
  rw [hl]
  rcases List.mem_append.1 hb with hb | hb
  ·have h:=GB_hsc (L:=G.length + 4) (by omega) b hb
   have h2:=(List.all_eq_true.1 (GB_na (G:=G) (U:=U'))) b hb
   cases b with
   | own c=>exact h
   | anc i j=>cases h2
   | _=>rfl
  ·rw [List.mem_singleton] at hb; subst hb; rfl
 have h2:mpKeep (GB G U) (GB G U'++[wayB f])=true:=mpKeep_app (mpKeep_GB rfl) (by rw [GB_len,GB_len]; exact Nat.le_refl _)
 simp only [Bool.and_eq_true,decide_eq_true_eq]
 refine ⟨⟨⟨⟨?_,h1⟩,?_⟩,h2⟩,GB_na⟩
 ·rw [hl]; simp [scA,sc1]
 ·rw [hl,GB_len]; omega
theorem reach_E {s:St} {o:Oper} {fo:Operand} {args:Array Operand} {ts:Array TypeId} {X:Heap} (ho:o.op = .call { callee:=.value fo,args:=args,argTypes:=ts }) (hfo:s.ev fo = .p (.fn 55 []))
  (w0:WG G U) (hp:0 < G.length) (hs:SymW G U []) (hk:G.length≤100000000) (hH:s.H=GB G U++X) (hargs:args.toList.map s.ev++([]:List PV).map .p=[.ptr 0 0]) :
  DoesE Try.prog o s (fun av H'=>∃ (lst:List Nat) (f:Wy) (U' : List Int),av = .tup [.p (.list (il (lst.map Int.ofNat))),.mptr (G.length + 3 + X.length)]∧H' = GB G U'++(X++[wayB f])∧WG G U'∧(∀ u,u < G.length→rV U' u=rV U u) ∧
   GT (stR G U) lst f∧(∀ u∈lst,u < G.length∧rV U u=u)∧∀ u∈lst,∀ w,runW (stR G U) 0 w=some u→(wy f u).length≤w.length):=by
 have hsl:s.H.length=G.length + 3 + X.length:=by rw [hH,List.length_append,GB_len]
 have hA:argsM s.H (List.range (GB G U).length) (args.toList.map s.ev++([]:List PV).map .p) [.ptr 0 0]:=by
  rw [hargs]
  refine ⟨?_,trivial⟩
  rw [GB_len]
  exact ⟨(ren_id (by simp [scA,sc1])).symm,by simp [scA,sc1]⟩
 have hL:LeH (List.range (GB G U).length) s.H (List.range (GB G U).length) (GB G U):=by
  have:=leH_stay (π:=List.range (GB G U).length) (H:=s.H) (B:=GB G U) (a:=0) (L:=(GB G U).length) (fun i hi=>by simp [List.getElem?_range hi]) (by simp) (by rw [GB_len]; exact GB_hsc (Nat.le_refl _)) (fun i hi=>by rw [Nat.zero_add,hH]; exact hget_app1 hi)
  rwa [← List.range_eq_range'] at this
 have:=call_doesE ho hfo (reach_e w0 hp hk) hA hL List.nodup_range (fun k hk=>by rw [hH,List.length_append]; have:=List.mem_range.1 hk; omega) GB_na (by
  rintro r H1 ⟨lst,f,U',rfl,rfl,_⟩
  exact GBw_scM)
 intro C m a w K Q R hK
 refine this C m a w K Q R fun v m' w' av H' ⟨r,H1,⟨lst,f,U',e1,e2,⟨w1,r1⟩,bi,bq⟩,e3,e4⟩ R2 hv=>hK v m' w' av H' ⟨lst,f,U',?_,?_,w1,r1,?_⟩ R2 hv
 ·subst e1; subst e2
  have hl:(GB G U'++[wayB f]).length - (List.range (GB G U).length).length=1:=by simp [GB_len]
  have hq:(List.range (GB G U).length++List.range' s.H.length 1).getD (G.length + 3) 0=G.length + 3 + X.length:=by
   rw [List.getD_eq_getElem?_getD,List.getElem?_append_right (by simp [GB_len]),hsl]; simp [GB_len]
  rw [e3,hl]
  simp only [Go.Pv.ren,ren1,List.map_cons,List.map_nil,hq]
 ·subst e1; subst e2
  have hπ:∀ i,i < (GB G U).length→(List.range (GB G U).length++List.range' s.H.length ((GB G U'++[wayB f]).length - (List.range (GB G U).length).length)).getD i 0=i:=fun i hi=>by
   rw [List.getD_eq_getElem?_getD,List.getElem?_append_left (by simpa using hi)]
   simp [List.getElem?_range hi]
  have e5:(GB G U'++[wayB f]).map (Blk.ren (List.range (GB G U).length++List.range' s.H.length ((GB G U'++[wayB f]).length - (List.range (GB G U).length).length)))=GB G U'++[wayB f]:=by
   have:∀ b∈(GB G U'++[wayB f]),Blk.ren (List.range (GB G U).length++List.range' s.H.length ((GB G U'++[wayB f]).length - (List.range (GB G U).length).length)) b=id b:=fun b hb=>by
    rcases List.mem_append.1 hb with hb | hb
    ·have h:=GB_hsc (L:=(GB G U).length) (by rw [GB_len]; exact Nat.le_refl _) b hb
     have h2:=(List.all_eq_true.1 (GB_na (G:=G) (U:=U'))) b hb
     cases b with
     | own c =>
      have:=List.map_congr_left (f:=Go.Pv.ren (List.range (GB G U).length++List.range' s.H.length ((GB G U'++[wayB f]).length - (List.range (GB G U).length).length))) (g:=id) fun x hx=>ren_pre hπ ((List.all_eq_true.1 h) x hx)
      show Blk.own _=Blk.own c
      rw [this,List.map_id]
     | anc i j=>cases h2
     | _=>rfl
    ·rw [List.mem_singleton] at hb; subst hb; rfl
   rw [List.map_congr_left this,List.map_id]
  rw [e4,e5,hH,putM_pre (by rw [GB_len,GB_len]),List.append_assoc]
 ·have hs1:SymW G U' []:=fun u x v hu hv e=>by
   rw [pe_nil,Ed.rv w0 r1 hu hv] at e
   rw [pe_nil,Ed.rv w0 r1 hv hu]
   exact pe_nil.1 (hs u x v hu hv (pe_nil.2 e))
  obtain ⟨g,hf⟩:=bq_gt w1 hp hs1 bi bq
  rw [stR_eq w0 r1] at g hf
  exact ⟨g,fun u hu=>⟨(bi.rt u hu).1,by rw [← r1 u (bi.rt u hu).1]; exact (bi.rt u hu).2⟩,hf⟩
end
end Go.Proofs.Ytneglephfhiamaa

/-
  Groups as tables: plain laws, with no program in sight. Conditions: none.
-/
set_option linter.all false
namespace Go.Proofs.Ytneglephfhiamaa
open Go.Pv

/-! ### The first number of which something holds -/

/-! ### Counting -/

/-! ### Groups -/

structure Grp (n:Nat) (f:Nat→Nat→Nat) (e:Nat):Prop where
 pos:0 < n
 cl:∀ a b,a < n→b < n→f a b < n
 el:e < n
 one_l:∀ a,a < n→f e a=a
 one_r:∀ a,a < n→f a e=a
 assoc:∀ a b c,a < n→b < n→c < n→f (f a b) c=f a (f b c)
 inv:∀ a,a < n→∃ b,b < n∧f a b=e∧f b a=e

section
variable {n:Nat} {f:Nat→Nat→Nat} {e:Nat}

theorem Grp.cancel_l (G:Grp n f e) {a b c:Nat} (ha:a < n) (hb:b < n) (hc:c < n) (h:f a b=f a c):b=c:=by
 obtain ⟨i,hi,_,h2⟩:=G.inv a ha
 have h1:f i (f a b)=f i (f a c):=by rw [h]
 rwa [← G.assoc i a b hi ha hb,← G.assoc i a c hi ha hc,h2,G.one_l b hb,G.one_l c hc] at h1
/-- Whose square is itself is the one. -/
theorem Grp.idem (G:Grp n f e) {a:Nat} (ha:a < n):f a a=a↔a=e:=
 ⟨fun h=>G.cancel_l ha ha G.el (by rw [h,G.one_r a ha]),fun h=>by subst h; exact G.one_l _ ha⟩

end

end Go.Proofs.Ytneglephfhiamaa

/-
  What reads as one value reads as another. Conditions: none.
-/
set_option linter.all false
namespace Go.Proofs.Ytneglephfhiamaa
open Go.Pv

/-! ### What reads as one reads as another -/

def Rle (a b:PV):Prop:=∀ (ok:Nat→Prop) (w:World) (v:Value),Reads ok w a v→Reads ok w b v
theorem Rle.rfl {a:PV} : Rle a a:=fun _ _ _ h=>h
theorem Rle.nn {l:List PV} : Rle (.nn l) (.list l):=fun _ _ _ h=>h.nn_list
def Rles:List PV→List PV→Prop
 | [],[]=>True
 | a :: r,b :: s=>Rle a b∧Rles r s
 | _,_=>False
theorem Rles.len:∀ {l r:List PV},Rles l r→l.length=r.length
 | [],[],_=>by rfl
 | a :: l,b :: r,h=>by simp [Rles.len h.2]
 | [],_ :: _,h=>h.elim
 | _ :: _,[],h=>h.elim
theorem Rles.get:∀ {l r:List PV},Rles l r→∀ (i:Nat) (h:i < l.length) (h' : i < r.length),Rle l[i] r[i]
 | a :: l,b :: r,h,0,_,_=>h.1
 | a :: l,b :: r,h,i + 1,h1,h2=>by simpa using Rles.get h.2 i (by simpa using h1) (by simpa using h2)
 | [],[],_,i,h,_=>by simp at h
 | [],_ :: _,h,_,_,_=>h.elim
 | _ :: _,[],h,_,_,_=>h.elim
theorem FnC.weak {P:Program} {f:FuncId} {args args' : List PV} {r:PV} (h:FnC P f args r) (hs:Rles args' args):FnC P f args' r:=by
 refine ⟨h.1,fun okA w vals h1 h2 h3=>h.2 okA w vals h1 (h2.trans hs.len) fun i hi=>?_⟩
 have:=hs.len
 exact hs.get i (by omega) hi _ _ _ (h3 i (by omega))

end Go.Proofs.Ytneglephfhiamaa

/-
  Graphs of words: the walk of the basis. Conditions: none.
-/
set_option linter.all false
namespace Go.Proofs.Ytneglephfhiamaa
open Go.Pv

theorem Rle.nn_mid {a b c:List PV} : Rle (.nn [.list a,.nn b,.list c]) (.nn [.list a,.list b,.list c]):=fun ok w v h=>by
 cases h with
 | nn _ k off sz vs hb hsz hc hr =>
  refine .nn [.list a,.list b,.list c] k off 1 vs hb (by simp [PV.cells]) (fun i hc'=>hc i (by simpa [flat,PV.cells] using hc')) fun i hcl=>?_
  have h0:=hr 0 (by simp [flat,PV.cells])
  have h1:=hr 1 (by simp [flat,PV.cells])
  have h2:=hr 2 (by simp [flat,PV.cells])
  match i,hcl with
  | 0,_=>exact h0
  | 1,_=>exact Reads.nn_list h1
  | 2,_=>exact h2
theorem concat3_c (a:List Int) (x:Int) (c:List Int) (h:a.length + 1 + c.length≤1000000000):FnC Try.prog 67 [.nn [.list (il a),.nn [.int .i64 x],.list (il c)]] (.list (il (a++[x]++c))):=by
 have:=concat_c [a,[x],c] (by simp; omega) (by simp)
 have e:[a,[x],c].flatten=a++[x]++c:=by simp
 rw [e] at this
 exact FnC.weak this ⟨Rle.nn_mid,trivial⟩

section
variable {step:Nat→Int→Option Nat} {lst:List Nat} {f:Wy}
/-- The words of some letters of a place. -/
def bL (step:Nat→Int→Option Nat) (f:Wy) (v:Nat) (xs:List Int):List (List Int):=(((xs.filter fun x=>decide (0 < x)).map fun x=>(v,x)).map (bw step f)).filter fun w=>decide (0 < w.length)
theorem basS_take {i:Nat} (h:i < lst.length):basS step (lst.take (i + 1)) f=basS step (lst.take i) f++bL step f (lst.getD i 0) (ltS step (lst.getD i 0)):=by
 unfold basS bL PE
 have:lst.take (i + 1)=lst.take i++[lst.getD i 0]:=take_snoc h
 rw [this,List.flatMap_append,List.map_append,List.filter_append]
 simp
theorem bL_snoc (v:Nat) (xs:List Int) (x:Int):bL step f v (xs++[x])=bL step f v xs++(if 0 < x then (if 0 < (bw step f (v,x)).length then [bw step f (v,x)] else []) else []):=by
 unfold bL
 rw [List.filter_append,List.map_append,List.map_append,List.filter_append]
 congr 1
 by_cases h:0 < x
 ·by_cases h2:0 < (bw step f (v,x)).length
  ·simp [h,h2]
  ·simp [h,h2]
 ·simp [h]
end

section
variable {step:Nat→Int→Option Nat} {lst:List Nat} {f:Wy}
theorem way_len (g:GT step lst f) {u:Nat} (hu:u∈lst):(wy f u).length < lst.length:=by
 have go:∀ n j,j≤n→j < lst.length→(wy f (lst.getD j 0)).length≤j:=by
  intro n
  induction n with
  | zero =>
   intro j hj hl
   obtain rfl:j=0:=by omega
   rw [g.ix0.2,g.wy0]; exact Nat.le_refl _
  | succ n ih =>
   intro j hj hl
   by_cases h:j=0
   ·exact ih j (by omega) hl
   obtain ⟨i,x,a1,a2,a3⟩:=g.par hl (by omega)
   have:=ih i (by omega) (by omega)
   rw [a2,List.length_append,List.length_singleton]; omega
 obtain ⟨j,hj,rfl⟩:=ix_of hu
 have:=go j j (Nat.le_refl _) hj
 omega
end

section
variable {G:List Mp} {U:List Int}
set_option maxHeartbeats 4000000 in
set_option maxRecDepth 20000 in
theorem basis_e (w0:WG G U) (hp:0 < G.length) (hs:SymW G U []) (hk:G.length≤10000001) :
  FnE Try.prog 49 [.ptr 0 0] (GB G U) (fun r H'=>∃ (lst:List Nat) (f:Wy) (U' : List Int),r = .p (.list (ll (basS (stR G U) lst f)))∧H' = GB G U'∧GT (stR G U) lst f∧(∀ u∈lst,u < G.length∧rV U u=u)∧∀ u∈lst,∀ w,runW (stR G U) 0 w=some u→(wy f u).length≤w.length):=by
 obtain ⟨Post,hP⟩:∃ Post:AV→Heap→Prop,Post=(fun r H'=>∃ (lst:List Nat) (f:Wy) (U' : List Int),r = .p (.list (ll (basS (stR G U) lst f)))∧H' = GB G U'∧GT (stR G U) lst f∧(∀ u∈lst,u < G.length∧rV U u=u)∧∀ u∈lst,∀ w,runW (stR G U) 0 w=some u→(wy f u).length≤w.length):=⟨_,rfl⟩
 rw [← hP]
 obtain ⟨st,hst⟩:∃ st,stR G U=st:=⟨_,rfl⟩
 rw [hst] at hP
 refine fne_of tab_ok Try.func49 rfl (by kernel_rfl) (by rw [Try.ntmps49]; exact Nat.le_add_left 1 _) ?_; rw [Try.ntmps49]; simp only [ancs,entA,List.length_cons,List.length_nil,List.cons_append,List.nil_append,Nat.reduceAdd,Nat.zero_add]
 have hYl:(ancs 0 (GB G U).length).length=G.length + 3:=by rw [ancs_length,GB_len]
 have hXs0:∀ L,G.length + 3≤L→∀ b∈ancs 0 (GB G U).length,hsc L b=true:=fun L hL b hb=>ancs_hsc (by rw [GB_len]; omega) b hb
 generalize ancs 0 (GB G U).length=X at hYl hXs0 ⊢
 obtain ⟨n0,hn0⟩:∃ n0,G.length + 3 + (G.length + 3)=n0:=⟨_,rfl⟩
 have hBl:∀ U1,(GB G U1++X).length=n0:=fun U1=>by rw [List.length_append,GB_len,hYl]; exact hn0
 have hg0:∀ (V:List Int) (a:Blk) (R:Heap),hget (GB G V++(X++a :: R)) n0=a:=fun V a R=>by
  rw [← List.append_assoc,hget_app2 (by rw [hBl]; exact Nat.le_refl _),hBl,Nat.sub_self]; rfl
 have hg1:∀ (V:List Int) (a b:Blk) (R:Heap),hget (GB G V++(X++a :: b :: R)) (n0 + 1)=b:=fun V a b R=>by
  rw [← List.append_assoc,hget_app2 (by rw [hBl]; omega),hBl,Nat.add_sub_cancel_left]; rfl
 have hs1:∀ (V:List Int) (a b c:Blk) (R:Heap),hset (GB G V++(X++a :: b :: R)) (n0 + 1) c=GB G V++(X++a :: c :: R):=fun V a b c R=>by
  rw [← List.append_assoc,hset_eq,List.set_append_right _ _ (by rw [hBl]; omega),hBl,Nat.add_sub_cancel_left,List.append_assoc]; rfl
 have hL:∀ (V:List Int) (R:Heap),(GB G V++(X++R)).length=n0 + R.length:=fun V R=>by
  rw [← List.append_assoc,List.length_append,hBl]
 have hgw:∀ (V:List Int) (f:Wy) (R:Heap),hget (GB G V++(X++wayB f :: R)) n0 = .mp .i64 (fun z=>(f z).isSome) (fun z=>.list (il ((f z).getD []))):=fun V f R=>hg0 V _ R
 have hBs1:∀ (V:List Int) (f:Wy) (M:Nat),n0≤M→∀ b∈(GB G V++(X++[wayB f])),hsc M b=true:=fun V f M hM b hb=>by
  rw [← List.append_assoc] at hb
  rcases List.mem_append.1 hb with hb | hb
  ·exact GB_hscX (by omega) (hXs0 _ (by omega)) b hb
  ·rw [List.mem_singleton] at hb; subst hb; rfl
 have hBs:∀ (V:List Int) (f:Wy) (c:List PV),∀ b∈(GB G V++(X++[wayB f,.own (opl c)])),hsc (n0 + 2) b=true:=fun V f c b hb=>by
  rw [show GB G V++(X++[wayB f,Blk.own (opl c)])=(GB G V++(X++[wayB f]))++[Blk.own (opl c)] by simp] at hb
  rcases List.mem_append.1 hb with hb | hb
  ·exact hBs1 V f _ (by omega) b hb
  ·rw [List.mem_singleton] at hb; subst hb
   exact List.all_eq_true.2 fun x hx=>(List.all_eq_true.1 (opl_sc _ _)) x hx
 have hle:∀ {S1 s1:St} (V:List Int) (f:Wy) (c:List PV),S1.n=s1.n→s1.H=GB G V++(X++[wayB f,.own (opl c)])→S1.H=s1.H→(∀ p∈S1.sl,s1.get p.1=p.2∧scA (n0 + 2) p.2=true)→Le (List.range (n0 + 2)) S1 s1:=fun {S1 s1} V f c h1 h2 h3 h4=>by
  have hlen:s1.H.length=n0 + 2:=by rw [h2,hL]; rfl
  rw [← hlen] at h4 ⊢
  exact le_same h1 h3 (fun b hb=>by rw [hlen]; rw [h2] at hb; exact hBs V f c b hb) h4
 refine qm ?_
 refine hk_region fun K hK=>runs_eval tab_ok ?_
 simp only [ev0,evA,evB,evP,fl,gp,tab,simprocAttr,reduceCtorEq,reduceIte]
 refine fin_run trivial (hK _ ?_)<;>clear hK<;>clear K
 refine qa (qm ?_)
 refine hk_regE 1 (runs_cut fun K hK=>?_)
 simp only [List.take_succ_cons,List.take_zero]
 refine runs_eval tab_ok ?_
 simp only [ev0,evA,evB,evP,fl,gp,tab,simprocAttr,reduceCtorEq,reduceIte]
 refine fin_run trivial (hK _ ?_)<;>clear hK<;>clear K
 refine ⟨_,_,rfl,rfl,by simp only [dstOk,Nat.reduceLT],reach_E (X:=X) rfl rfl w0 hp hs (by omega) rfl rfl,fun av H' hO=>?_⟩
 obtain ⟨lst,f,U1,rfl,rfl,w1,r1,g,hrt,hf⟩:=hO
 rw [hst] at g hf
 refine runs_cut fun K hK=>?_
 simp only [List.drop_succ_cons,List.drop_zero,hYl,hn0]
 refine runs_eval tab_ok ?_
 simp only [ev0,evA,evB,evP,fl,gp,tab,simprocAttr,reduceCtorEq,reduceIte]
 refine fin_run trivial (hK _ ?_)<;>clear hK<;>clear K
 refine qa (qm ?_)
 refine hk_region fun K hK=>runs_eval tab_ok ?_
 simp only [ev0,evA,evB,evP,fl,gp,tab,simprocAttr,reduceCtorEq,reduceIte]
 refine fin_run trivial (hK _ ?_)<;>clear hK<;>clear K
 refine qa (qm (qm ?_))
 refine hk_own0 5 rfl ?_
 simp only [hL,List.append_assoc,List.cons_append,List.nil_append,List.length_cons,List.length_nil,Nat.zero_add]
 refine hk_region fun K hK=>runs_eval tab_ok ?_
 simp only [ev0,evA,evB,evP,fl,gp,tab,simprocAttr,reduceCtorEq,reduceIte,il_length,List.length_map]
 refine fin_run trivial (hK _ ?_)<;>clear hK<;>clear K
 refine qa (ql ?_)
 refine hk_loop (ι:=Nat × List (List Int) × List Int) (fun q=>⟨66,[(0,.ptr 0 0),(4,.mptr n0),(5,.sl (n0 + 1) 0 q.2.1.length),(17,.p (.list (il (lst.map Int.ofNat)))),(18,.p (.int .i64 lst.length)),(19,.p (.int .i64 (q.1:Nat)))],GB G q.2.2++(X++[wayB f,.own (opl (ll q.2.1))])⟩)
  (fun q=>q.1≤lst.length∧q.2.1=basS st (lst.take q.1) f∧q.2.1.length≤53 * q.1∧WG G q.2.2∧∀ u,u < G.length→rV q.2.2 u=rV U u) (fun q=>lst.length - q.1) (0,[],U1) ⟨Nat.zero_le _,rfl,Nat.le_refl _,w1,r1⟩ (List.range (n0 + 2)) (hle U1 f [] rfl rfl rfl (by simp [St.get,lk,scA,sc1,ll])) fun q hq=>?_
 obtain ⟨i,b,V⟩:=q
 obtain ⟨q1,q2,q3,w2,r2⟩:=hq
 simp only at q1 q2 q3 w2 r2 ⊢
 have hll:lst.length≤G.length:=nodup_len _ _ g.nd fun x hx=>(hrt x hx).1
 refine qm ?_
 refine hk_region fun K hK=>runs_eval tab_ok ?_
 simp only [ev0,evA,evB,evP,fl,gp,tab,simprocAttr,reduceCtorEq,reduceIte]
 refine fin_run trivial (hK _ ?_)<;>clear hK<;>clear K
 refine qa (qm ?_)
 refine hk_cond rfl (fun hC1=>?_) (fun hC1=>?_)
 ·(try simp only [nhs] at hC1)
  have hi:i < lst.length:=by omega
  obtain ⟨v,hv⟩:∃ v,lst.getD i 0=v:=⟨_,rfl⟩
  have hvm:v∈lst:=hv ▸ mem_ix hi
  obtain ⟨hvl,hvr⟩:=hrt v hvm
  have hgl:(lst.map Int.ofNat).getD i 0=(v:Int):=by
   rw [← hv,List.getD_eq_getElem?_getD,List.getD_eq_getElem?_getD,List.getElem?_map,List.getElem?_eq_getElem hi]; rfl
  have hil:i < (lst.map Int.ofNat).length:=by simpa using hi
  refine qh (qa (qm (ql (qm ?_))))
  refine hk_region fun K hK=>runs_eval tab_ok ?_
  simp only [ev0,evA,evB,evP,fl,gp,tab,simprocAttr,reduceCtorEq,reduceIte,il_length,List.length_map,il_get hil,hgl]
  refine fin_run ?_ (hK _ ?_)<;>clear hK<;>clear K
  ·omega
  refine qa (qm ?_)
  refine hk_region fun K hK=>runs_eval tab_ok ?_
  simp only [ev0,evA,evB,evP,fl,gp,tab,simprocAttr,reduceCtorEq,reduceIte]
  refine fin_stop ?_ (runs_letters (U:=V) (X:=X++[wayB f,.own (opl (ll b))]) w2 (by omega) (v:=v) hvl rfl rfl rfl rfl (by simp only [dstOk,Nat.reduceLT]) (runs_eval tab_ok ?_))
  ·exact trivial
  simp only [ev0,evA,evB,evP,fl,gp,tab,simprocAttr,reduceCtorEq,reduceIte,il_length]
  refine fin_run trivial (hK _ ?_)<;>clear hK<;>clear K
  refine qa (ql ?_)
  obtain ⟨L,hLd⟩:∃ L,lts (gm G v)=L:=⟨_,rfl⟩
  have hLl:L.length≤53:=hLd ▸ lts_len _
  have hLs:ltS st v=L:=by rw [← hst,← lts_ltS ⟨hvl,hvr⟩]; exact hLd
  rw [hLd]
  refine hk_loop (ι:=Nat × List (List Int) × List Int) (fun q=>⟨66,[(0,.ptr 0 0),(4,.mptr n0),(5,.sl (n0 + 1) 0 q.2.1.length),(7,.p (.int .i64 (v:Nat))),(17,.p (.list (il (lst.map Int.ofNat)))),(18,.p (.int .i64 lst.length)),(19,.p (.int .i64 (i:Nat))),(25,.p (.list (il L))),(26,.p (.int .i64 L.length)),(27,.p (.int .i64 (q.1:Nat)))],GB G q.2.2++(X++[wayB f,.own (opl (ll q.2.1))])⟩)
   (fun q=>q.1≤L.length∧q.2.1=b++bL st f v (L.take q.1)∧q.2.1.length≤53 * i + q.1∧WG G q.2.2∧∀ u,u < G.length→rV q.2.2 u=rV U u) (fun q=>L.length - q.1) (0,b,V) ⟨Nat.zero_le _,by simp [bL],q3,w2,r2⟩ (List.range (n0 + 2)) (hle V f (ll b) rfl rfl rfl (by simp [St.get,lk,scA,sc1])) fun q hq=>?_
  obtain ⟨j,c,V2⟩:=q
  obtain ⟨j1,j2,j3,w3,r3⟩:=hq
  simp only at j1 j2 j3 w3 r3 ⊢
  refine qm ?_
  refine hk_region fun K hK=>runs_eval tab_ok ?_
  simp only [ev0,evA,evB,evP,fl,gp,tab,simprocAttr,reduceCtorEq,reduceIte]
  refine fin_run trivial (hK _ ?_)<;>clear hK<;>clear K
  refine qa (qm ?_)
  refine hk_cond rfl (fun hC2=>?_) (fun hC2=>?_)
  ·(try simp only [nhs] at hC2)
   have hj:j < L.length:=by omega
   obtain ⟨x,hx⟩:∃ x,L.getD j 0=x:=⟨_,rfl⟩
   have hxm:x∈L:=by rw [← hx,List.getD_eq_getElem?_getD,List.getElem?_eq_getElem hj]; exact List.getElem_mem hj
   have hLt:L.take (j + 1)=L.take j++[x]:=by rw [take_snoc (d:=0) hj,hx]
   have hsn:=bL_snoc (step:=st) (f:=f) v (L.take j) x
   rw [← hLt] at hsn
   refine qh (qa (qm (ql (qm ?_))))
   refine hk_region fun K hK=>runs_eval tab_ok ?_
   simp only [ev0,evA,evB,evP,fl,gp,tab,simprocAttr,reduceCtorEq,reduceIte,il_length,il_get hj,hx]
   refine fin_run ?_ (hK _ ?_)<;>clear hK<;>clear K
   ·omega
   refine qa (qm (qm ?_))
   refine hk_region fun K hK=>runs_eval tab_ok ?_
   simp only [ev0,evA,evB,evP,fl,gp,tab,simprocAttr,reduceCtorEq,reduceIte]
   refine fin_run trivial (hK _ ?_)<;>clear hK<;>clear K
   refine qa ?_
   refine hk_cond rfl (fun hC3=>?_) (fun hC3=>?_)
   ·(try simp only [nhs] at hC3)
    have hx0:x < 0:=by simpa using hC3
    refine qj (qc (qf (qa ?_)))
    refine hk_region fun K hK=>runs_eval tab_ok ?_
    simp only [ev0,evA,evB,evP,fl,gp,tab,simprocAttr,reduceCtorEq,reduceIte]
    refine fin_run ?_ (hK _ ?_)<;>clear hK<;>clear K
    ·(first|exact trivial|omega|(simp only [In64] at *; omega)|(simp [In64] at *; omega)|(simp_all; done)|skip)
    refine qa ?_
    rw [if_neg (by omega),List.append_nil] at hsn
    exact ⟨(j + 1,c,V2),List.range (n0 + 2),⟨by simp only; omega,by simp only; rw [hsn]; exact j2,by simp only; omega,w3,r3⟩,by simp only; omega,hle V2 f (ll c) rfl rfl rfl (by simp [St.get,lk,scA,sc1])⟩
   ·(try simp only [nhs] at hC3)
    have hx1:0 < x:=by
     have h1:¬ x < 0:=by simpa using hC3
     obtain ⟨d,hd⟩:=Option.isSome_iff_exists.1 (mem_ltS.1 (hLs ▸ hxm)).2
     have:=g.nz hvm hd
     omega
    rw [if_pos hx1] at hsn
    have hxs:(gm G v x).isSome=true:=(mem_lts.1 (hLd ▸ hxm)).2
    obtain ⟨cc,hc⟩:=Option.isSome_iff_exists.1 hxs
    obtain ⟨e0,e1,e2⟩:=w3.ent v x cc hvl hc
    obtain ⟨d,rfl⟩:=Int.eq_ofNat_of_zero_le e0
    rw [Int.toNat_natCast] at e1
    obtain ⟨V3,hV3⟩:∃ V3,ofU V2 d=V3:=⟨_,rfl⟩
    have w4:WG G V3:=hV3 ▸ w3.of e1
    have r4:∀ u,u < G.length→rV V3 u=rV U u:=fun u hu=>by rw [← hV3,w3.ofr e1 u hu]; exact r3 u hu
    obtain ⟨u,hu⟩:∃ u,rV V2 d=u:=⟨_,rfl⟩
    have hsu:st v x=some u:=by
     rw [← hst,stR_of ⟨hvl,hvr⟩]
     unfold stp
     rw [hc,← hu,r3 d e1]; rfl
    have hum:u∈lst:=g.cl v hvm x u hsu
    have fv:f (v:Int)=some (wy f v):=by
     obtain ⟨l,hl⟩:=Option.isSome_iff_exists.1 ((g.dom v).2 ⟨v,hvm,rfl⟩)
     unfold wy; rw [hl]; rfl
    have fu:f (u:Int)=some (wy f u):=by
     obtain ⟨l,hl⟩:=Option.isSome_iff_exists.1 ((g.dom u).2 ⟨u,hum,rfl⟩)
     unfold wy; rw [hl]; rfl
    have lv:(wy f v).length≤10000001:=by
     have:=way_len g hum
     have:=way_len g hvm
     omega
    have lu:(wy f u).length≤10000001:=by
     have:=way_len g hum
     omega
    have gM:∀ Y:Heap,hget (G.map mpB++Y) v=mpB (gm G v):=fun Y=>hget_G hvl
    have hGBk:∀ (Y:Heap),GB G V2++Y = .own [.sl 1 0 G.length,.sl 2 0 V2.length] :: .own (mps G.length) :: .own (ol V2) :: (G.map mpB++Y):=fun Y=>rfl
    refine qh (qa (qm ?_))
    rw [hGBk]
    refine hk_region fun K hK=>runs_eval tab_ok ?_
    simp only [ev0,evA,evB,evP,fl,gp,tab,simprocAttr,reduceCtorEq,reduceIte,mps_get hvl,gM,mpB,hc,Option.isSome_some,cond_true,Option.getD_some,Int.ofNat_eq_natCast,mps_len,Int.toNat_natCast]
    refine fin_stop ?_ (runs_of (U:=V2) (X:=X++[wayB f,.own (opl (ll c))]) w3 (by omega) (v:=d) e1 rfl rfl (hGBk _).symm rfl (by simp only [dstOk,Nat.reduceLT]) (runs_eval tab_ok ?_))
    ·exact ⟨⟨by omega,by omega⟩,hvl⟩
    simp only [hV3,hu]
    simp only [ev0,evA,evB,evP,fl,gp,tab,simprocAttr,reduceCtorEq,reduceIte]
    refine fin_run trivial (hK _ ?_)<;>clear hK<;>clear K
    refine qa (qm ?_)
    obtain ⟨bw0,hbw0⟩:∃ b,wy f v++[x]++back (wy f u)=b:=⟨_,rfl⟩
    have hb1:bw st f (v,x)=short bw0:=by unfold bw; rw [tgt_of hsu]; simp only [hbw0]
    have hokb:Ok bw0:=by
     rw [← hbw0]
     exact ((g.ok v hvm).app fun y hy=>by rw [List.mem_singleton] at hy; subst hy; exact g.lt v hvm _ _ hsu).app (g.ok u hum).back
    have hbl:bw0.length≤30000000:=by rw [← hbw0]; simp [back_len]; omega
    have hbc:=concat3_c (wy f v) x (back (wy f u)) (by rw [back_len]; omega)
    rw [hbw0] at hbc
    have hsb:(short bw0).length≤30000000:=Nat.le_trans (short_len _) hbl
    refine hk_draw2 mixed fun K hK=>runs2_eval tab_ok ?_
    simp only [evD,ev0,evA,evB,evP,fl,gp,tab,simprocAttr,reduceCtorEq,reduceIte,hgw,fv,fu,Option.isSome_some,cond_true,Option.getD_some]
    refine fin2_stop trivial (runs2_call (back_c (wy f u) (by omega) (g.ok u hum).sm) rfl rfl rfl rfl (by simp only [dstOk,Nat.reduceLT]) (by repeat (first|exact trivial|constructor)) (runs2_eval tab_ok ?_))
    simp only [evD,ev0,evA,evB,evP,fl,gp,tab,simprocAttr,reduceCtorEq,reduceIte,hgw,fv,fu,Option.isSome_some,cond_true,Option.getD_some]
    refine fin2_stop trivial (runs2_call (hbc) rfl rfl rfl rfl (by simp only [dstOk,Nat.reduceLT]) (by repeat (first|exact trivial|constructor)) (runs2_eval tab_ok ?_))
    simp only [evD,ev0,evA,evB,evP,fl,gp,tab,simprocAttr,reduceCtorEq,reduceIte,hgw,fv,fu,Option.isSome_some,cond_true,Option.getD_some]
    refine fin2_stop trivial (runs2_call (short_c bw0 (by omega) hokb.sm) rfl rfl rfl rfl (by simp only [dstOk,Nat.reduceLT]) (by repeat (first|exact trivial|constructor)) (runs2_eval tab_ok ?_))
    simp only [evD,ev0,evA,evB,evP,fl,gp,tab,simprocAttr,reduceCtorEq,reduceIte,hgw,fv,fu,Option.isSome_some,cond_true,Option.getD_some]
    refine fin2_run ?_ (hK _ _ (by first|kernel_rfl|rfl) ?_)<;>clear hK<;>clear K
    ·(first|exact trivial|omega|(simp only [In64] at *; omega)|(simp [In64] at *; omega)|(simp_all; done)|skip)
    refine qa (qm ?_)
    refine hk_region fun K hK=>runs_eval tab_ok ?_
    simp only [ev0,evA,evB,evP,fl,gp,tab,simprocAttr,reduceCtorEq,reduceIte,il_length]
    refine fin_run trivial (hK _ ?_)<;>clear hK<;>clear K
    refine qa ?_
    refine hk_cond rfl (fun hC4=>?_) (fun hC4=>?_)
    ·(try simp only [nhs] at hC4)
     have h4:0 < (short bw0).length:=by simpa using hC4
     refine hk_region fun K hK=>runs_eval tab_ok ?_
     simp only [ev0,evA,evB,evP,fl,gp,tab,simprocAttr,reduceCtorEq,reduceIte,hg1,hs1,hL]
     refine fin_run ?_ (hK _ ?_)<;>clear hK<;>clear K
     ·exact ⟨List.all_eq_true.2 fun x hx=>(List.all_eq_true.1 (opl_ok (ll_all c))) x (by
       unfold opl at hx ⊢
       obtain ⟨y,hy,rfl⟩:=List.mem_map.1 hx
       exact List.mem_map.2 ⟨y,List.mem_of_mem_take hy,rfl⟩),Nat.le_refl _,by omega,by omega⟩
     refine qd (qa ?_)
     refine hk_region fun K hK=>runs_eval tab_ok ?_
     simp only [ev0,evA,evB,evP,fl,gp,tab,simprocAttr,reduceCtorEq,reduceIte]
     refine fin_run ?_ (hK _ ?_)<;>clear hK<;>clear K
     ·(first|exact trivial|omega|(simp only [In64] at *; omega)|(simp [In64] at *; omega)|(simp_all; done)|skip)
     refine qa ?_
     rw [hb1,if_pos h4] at hsn
     have e2:List.take c.length (ll c)++[PV.list (il (short bw0))]=ll (c++[short bw0]):=by
      rw [List.take_of_length_le (by rw [ll_length]; exact Nat.le_refl _),ll_snoc]
     refine ⟨(j + 1,c++[short bw0],V3),List.range (n0 + 1)++[n0 + 2],⟨by simp only; omega,by simp only; rw [hsn,j2,List.append_assoc],by simp only [List.length_append,List.length_singleton]; omega,w4,r4⟩,by simp only; omega,le_behind (B:=GB G V3++(X++[wayB f])) (c:=opl (ll (c++[short bw0]))) (d:=opl (ll (c++[short bw0]))) rfl (by rw [hL]; rfl) (by simp) (fun b hb=>hBs1 V3 f _ (by omega) b hb) (by omega) (fun b hb=>hBs1 V3 f _ (by omega) b hb) (fun k hk=>?_) ?_ ?_ (opl_sc _ _) ?_⟩
     ·show hget (GB G V3++(X++[wayB f,_])++[_]) k=_
      rw [show ∀ b d:Blk,GB G V3++(X++[wayB f,b])++[d]=(GB G V3++(X++[wayB f]))++[b,d] from fun b d=>by simp]
      exact hget_app1 (by rw [hL]; simpa using hk)
     ·rw [← e2]
      show hget (GB G V3++(X++[wayB f,_])++[_]) (n0 + 2)=_
      rw [hget_app2 (by rw [hL]; exact Nat.le_refl _),hL]; simp [hget]
     ·rw [opl_ren,List.take_of_length_le (Nat.le_refl _)]
     ·have hq3:(List.range (n0 + 1)++[n0 + 2]).getD (n0 + 1) 0=n0 + 2:=by
       rw [List.getD_eq_getElem?_getD,List.getElem?_append_right (by simp)]; simp
      have hq0:(List.range (n0 + 1)++[n0 + 2]).getD 0 0=0:=by
       rw [List.getD_eq_getElem?_getD,List.getElem?_append_left (by simp)]; simp
      have hqn:(List.range (n0 + 1)++[n0 + 2]).getD n0 0=n0:=by
       rw [List.getD_eq_getElem?_getD,List.getElem?_append_left (by simp)]; simp
      refine ⟨?_,?_,?_,?_,?_,?_,rfl,rfl,rfl,rfl,rfl,rfl,rfl,rfl,rfl,rfl,rfl,rfl,?_,rfl,trivial⟩
      ·show AV.ptr 0 0=Go.Pv.ren _ _
       simp only [Go.Pv.ren,ren1,hq0]
      ·simp [scA,sc1]
      ·show AV.mptr n0=Go.Pv.ren _ _
       simp only [Go.Pv.ren,ren1,hqn]
      ·simp [scA,sc1]; omega
      ·show AV.sl (n0 + 2) 0 (c.length + 1)=Go.Pv.ren _ _
       simp only [Go.Pv.ren,ren1,hq3,List.length_append,List.length_singleton]
      ·simp [scA,sc1]
      ·rfl
    ·(try simp only [nhs] at hC4)
     refine qh (qd (qa ?_))
     refine hk_region fun K hK=>runs_eval tab_ok ?_
     simp only [ev0,evA,evB,evP,fl,gp,tab,simprocAttr,reduceCtorEq,reduceIte]
     refine fin_run ?_ (hK _ ?_)<;>clear hK<;>clear K
     ·(first|exact trivial|omega|(simp only [In64] at *; omega)|(simp [In64] at *; omega)|(simp_all; done)|skip)
     refine qa ?_
     have h4:¬ 0 < (short bw0).length:=by simpa using hC4
     rw [hb1,if_neg h4,List.append_nil] at hsn
     exact ⟨(j + 1,c,V3),List.range (n0 + 2),⟨by simp only; omega,by simp only; rw [hsn]; exact j2,by simp only; omega,w4,r4⟩,by simp only; omega,hle V3 f (ll c) rfl rfl rfl (by simp [St.get,lk,scA,sc1])⟩
  ·(try simp only [nhs] at hC2)
   refine qj (qc (qc (qf (qd (qa ?_)))))
   refine hk_region fun K hK=>runs_eval tab_ok ?_
   simp only [ev0,evA,evB,evP,fl,gp,tab,simprocAttr,reduceCtorEq,reduceIte]
   refine fin_run ?_ (hK _ ?_)<;>clear hK<;>clear K
   ·(first|exact trivial|omega|(simp only [In64] at *; omega)|(simp [In64] at *; omega)|(simp_all; done)|skip)
   refine qa ?_
   have hjl:j=L.length:=by omega
   have hbt:=basS_take (step:=st) (f:=f) hi
   rw [hv,hLs,← q2] at hbt
   exact ⟨(i + 1,c,V2),List.range (n0 + 2),⟨by simp only; omega,by simp only; rw [hbt,j2,hjl,List.take_length],by simp only; omega,w3,r3⟩,by simp only; omega,hle V2 f (ll c) rfl rfl rfl (by simp [St.get,lk,scA,sc1])⟩
 ·(try simp only [nhs] at hC1)
  refine qj (qc (qc (qf (qa (qm ?_)))))
  refine hk_sealp 5 (n0 + 1) (l:=ll b) (ll_all b) (by show AV.sl (n0 + 1) 0 b.length=_; rw [ll_length]) (hg1 _ _ _ _) ?_
  refine hk_region fun K hK=>runs_eval tab_ok ?_
  simp only [ev0,evA,evB,evP,fl,gp,tab,simprocAttr,reduceCtorEq,reduceIte]
  refine fin_run trivial (hK _ ?_)<;>clear hK<;>clear K
  refine qa (qk ?_)
  simp only [Try.results49,PostG,endG,rvsA,rvA,mkTup,ev0,evA,evB,evP,fl,gp,tab,simprocAttr,reduceCtorEq,reduceIte]
  have hie:i=lst.length:=by omega
  rw [hie,List.take_length] at q2
  refine ⟨.p (.list (ll b)),GB G V,by rw [hP]; exact ⟨lst,f,V,by rw [q2],rfl,g,hrt,hf⟩,List.range n0,rfl,rfl,?_⟩
  refine le_stay (B:=GB G V++X) rfl (hBl V) rfl (fun b hb=>GB_hscX (by omega) (hXs0 _ (by omega)) b hb) (fun k hk=>?_) trivial
  show hget (hset (GB G V++(X++[wayB f,_])) (n0 + 1) _) k=_
  rw [hs1,← List.append_assoc]
  exact hget_app1 (by rw [hBl]; exact hk)
end
end Go.Proofs.Ytneglephfhiamaa

/-
  Graphs of words: the walks of Basis and Rank. Conditions: none.
-/
set_option linter.all false
namespace Go.Proofs.Ytneglephfhiamaa
open Go.Pv
open Go.RowKit
/-- A call that is lent what a call has put behind other blocks. -/
theorem call_doesES {P:Program} {s:St} {o:Oper} {fo:Operand} {args:Array Operand} {ts:Array TypeId} (ho:o.op = .call { callee:=.value fo,args:=args,argTypes:=ts }) {g:FuncId} {cap:List PV} (hfo:s.ev fo = .p (.fn g cap)) {avs:List AV} {H0 Q:Heap} {Post:AV→Heap→Prop}
  (hc:FnE P g avs H0 Post) (hH:s.H=Q++H0.map (Blk.ren (List.range' Q.length H0.length))) (hargs:argsM s.H (List.range' Q.length H0.length) (args.toList.map s.ev++cap.map .p) avs) (h1:∀ b∈H0,hsc H0.length b=true) (h2:H0.all notAnc=true) (hsc:∀ r H1,Post r H1→scM r H0 H1=true) :
  DoesE P o s (fun av H'=>∃ r H1,Post r H1∧av=Go.Pv.ren (List.range' Q.length H1.length) r∧H' = Q++H1.map (Blk.ren (List.range' Q.length H1.length))):=by
 have hsl:s.H.length=Q.length + H0.length:=by rw [hH]; simp
 have hle:LeH (List.range' Q.length H0.length) s.H (List.range' Q.length H0.length) H0:=by
  refine leH_at (by simp) fun i hi=>?_
  have e:(List.range' Q.length H0.length).getD i 0=Q.length + i:=by simp [List.getD,List.getElem?_range' hi]
  have eb:hget s.H (Q.length + i)=Blk.ren (List.range' Q.length H0.length) (hget H0 i):=by
   rw [hH,hget_app2 (by omega),Nat.add_sub_cancel_left,hget_eq,List.getD_eq_getElem?_getD,List.getElem?_map,hget_eq,List.getD_eq_getElem?_getD,List.getElem?_eq_getElem hi]; rfl
  have hm:hget H0 i∈H0:=by rw [hget_eq,List.getD_eq_getElem?_getD,List.getElem?_eq_getElem hi]; exact List.getElem_mem hi
  have hb:=h1 _ hm
  have hna:=(List.all_eq_true.1 h2) _ hm
  rw [e]
  revert eb hb hna
  generalize hget H0 i=b
  intro eb hb hna
  cases b with
  | own d =>
   simp only [Blk.ren] at eb
   simp only [LeB,eb]
   refine ⟨?_,List.all_eq_true.2 fun x hx=>scA_mn (by simp) ((List.all_eq_true.1 hb) x hx)⟩
   rw [List.take_of_length_le (by simp)]
  | anc i j=>cases hna
  | dead=>trivial
  | _=>simp only [Blk.ren] at eb; simp only [LeB,eb]
 have:=call_doesE ho hfo hc hargs hle (List.nodup_range' ..) (fun k hk=>by rw [hsl]; have:=List.mem_range'_1.1 hk; omega) h2 hsc
 intro C m a w K R0 R hK
 refine this C m a w K R0 R fun v m' w' av H' ⟨r,H1,e0,e1,e2⟩ R2 hv=>hK v m' w' av H' ⟨r,H1,e0,?_,?_⟩ R2 hv
 ·have hl:H0.length≤H1.length:=by
   have:=hsc r H1 e0
   unfold scM at this
   simp only [Bool.and_eq_true,decide_eq_true_eq] at this
   exact this.1.1.2
  have er:List.range' Q.length H0.length++List.range' s.H.length (H1.length - (List.range' Q.length H0.length).length)=List.range' Q.length H1.length:=by
   rw [List.length_range',hsl,List.range'_append_1]; congr 1; omega
  rw [e1,er]
 ·have hl:H0.length≤H1.length:=by
   have:=hsc r H1 e0
   unfold scM at this
   simp only [Bool.and_eq_true,decide_eq_true_eq] at this
   exact this.1.1.2
  have er:List.range' Q.length H0.length++List.range' s.H.length (H1.length - (List.range' Q.length H0.length).length)=List.range' Q.length H1.length:=by
   rw [List.length_range',hsl,List.range'_append_1]; congr 1; omega
  rw [e2,er,hH]
  obtain ⟨M,hM⟩:∃ M,H1.map (Blk.ren (List.range' Q.length H1.length))=M:=⟨_,rfl⟩
  have hMl:M.length=H1.length:=by rw [← hM]; simp
  rw [hM]
  have:=putM_pre0 (H0.map (Blk.ren (List.range' Q.length H0.length))) (M.take H0.length) Q [] (M.drop H0.length) (by simp; omega)
  rw [List.append_nil,List.take_append_drop,List.append_nil,List.length_map,List.append_assoc,List.take_append_drop] at this
  exact this
section
variable {G:List Mp} {U:List Int}
theorem GB_scM {v:PV} {U' : List Int} : scM (.p v) (GB G U) (GB G U')=true:=(scP_M (n:=(GB G U).length) GB_na rfl (GB_scP (v:=v) rfl)).1
/-- The basis of what has been folded, in a region of its own. -/
theorem basis_E {s:St} {o:Oper} {fo:Operand} {args:Array Operand} {ts:Array TypeId} {Q:Heap} (ho:o.op = .call { callee:=.value fo,args:=args,argTypes:=ts }) (hfo:s.ev fo = .p (.fn 49 []))
  (w0:WG G U) (hp:0 < G.length) (hs:SymW G U []) (hk:G.length≤10000001) (hH:s.H=Q++(GB G U).map (Blk.ren (List.range' Q.length (GB G U).length))) (hargs:args.toList.map s.ev++([]:List PV).map .p=[.ptr Q.length 0]) :
  DoesE Try.prog o s (fun av H'=>∃ (lst:List Nat) (f:Wy) (R:Heap),av = .p (.list (ll (basS (stR G U) lst f)))∧H' = Q++R∧GT (stR G U) lst f∧(∀ u∈lst,u < G.length∧rV U u=u)∧∀ u∈lst,∀ w,runW (stR G U) 0 w=some u→(wy f u).length≤w.length):=by
 have h0:(List.range' Q.length (GB G U).length).getD 0 0=Q.length:=by
  rw [List.getD_eq_getElem?_getD,List.getElem?_range' (by rw [GB_len]; omega)]; simp
 have:=call_doesES ho hfo (basis_e w0 hp hs hk) hH (by
  rw [hargs]
  refine ⟨⟨?_,?_⟩,trivial⟩
  ·simp only [Go.Pv.ren,ren1,h0]
  ·rw [List.length_range',GB_len]; simp [scA,sc1]) (by rw [GB_len]; exact GB_hsc (Nat.le_refl _)) GB_na (by
  rintro r H1 ⟨lst,f,U',rfl,rfl,_⟩
  exact GB_scM)
 intro C m a w K R0 R hK
 refine this C m a w K R0 R fun v m' w' av H' ⟨r,H1,⟨lst,f,U',e0,e1,e2⟩,e3,e4⟩ R2 hv=>hK v m' w' av H' ⟨lst,f,_,?_,e4,e2⟩ R2 hv
 rw [e3,e0]; rfl
end

/-- What Basis answers. -/
def BasO (L:List (List Int)) (r:AV):Prop:=
 ((ckL L).1 ≠ 0∧r = .p (.tup [.nil,fl (ckL L)]))∨((ckL L).1=0∧∃ st lst f,IsG (L.map short) st lst f∧lst.length≤10000001∧r = .p (.tup [.list (ll (basS st lst f)),fl (0,0)]))
set_option maxHeartbeats 4000000 in
set_option maxRecDepth 20000 in
theorem Basis_e (L:List (List Int)) (hl:L.length≤1000000000) (hw:∀ w∈L,w.length≤1000000000) (hgood:(ckL L).1=0→Good L) :
  FnE Try.prog 15 [.p (.list (ll L))] [] (fun r H'=>BasO L r∧H' = []):=by
 obtain ⟨Post,hP⟩:∃ Post:AV→Heap→Prop,Post=(fun r H'=>BasO L r∧H' = []):=⟨_,rfl⟩
 rw [← hP]
 refine fne_of tab_ok Try.func15 rfl (by kernel_rfl) (by rw [Try.ntmps15]; exact Nat.le_add_left 1 _) ?_; rw [Try.ntmps15]; simp only [ancs,entA,List.length_cons,List.length_nil,List.cons_append,List.nil_append,Nat.reduceAdd,Nat.zero_add]
 refine qm ?_
 refine hk_region fun K hK=>runs_eval tab_ok ?_
 simp only [ev0,evA,evB,evP,fl,gp,tab,simprocAttr,reduceCtorEq,reduceIte]
 refine fin_run ?_ (hK _ ?_)<;>clear hK<;>clear K
 ·(first|exact trivial|omega|(simp only [In64] at *; omega)|(simp [In64] at *; omega)|(simp_all; done)|skip)
 refine qa (qm (qm ?_))
 refine hk_region fun K hK=>runs_eval tab_ok ?_
 simp only [ev0,evA,evB,evP,fl,gp,tab,simprocAttr,reduceCtorEq,reduceIte]
 refine fin_stop trivial (runs_call (checkL_c L hl hw) rfl rfl rfl (by simp only [dstOk,Nat.reduceLT]) (by repeat (first|exact trivial|constructor)) (runs_eval tab_ok ?_))
 simp only [ev0,evA,evB,evP,fl,gp,tab,simprocAttr,reduceCtorEq,reduceIte]
 refine fin_run ?_ (hK _ ?_)<;>clear hK<;>clear K
 ·(first|exact trivial|omega|(simp only [In64] at *; omega)|(simp [In64] at *; omega)|(simp_all; done)|skip)
 refine qa (qm ?_)
 refine hk_region fun K hK=>runs_eval tab_ok ?_
 simp only [ev0,evA,evB,evP,fl,gp,tab,simprocAttr,reduceCtorEq,reduceIte]
 refine fin_run ?_ (hK _ ?_)<;>clear hK<;>clear K
 ·(first|exact trivial|omega|(simp only [In64] at *; omega)|(simp [In64] at *; omega)|(simp_all; done)|skip)
 refine qa ?_
 refine hk_cond rfl (fun hC1=>?_) (fun hC1=>?_)
 ·(try simp only [nhs] at hC1)
  have h1:(ckL L).1 ≠ 0:=hC1
  refine qm ?_
  refine hk_draw mixed (by kernel_rfl) fun K hK=>runs_eval tab_ok ?_
  simp only [ev0,evA,evB,evP,fl,gp,tab,simprocAttr,reduceCtorEq,reduceIte]
  refine fin_run ?_ (hK _ ?_)<;>clear hK<;>clear K
  ·(first|exact trivial|omega|(simp only [In64] at *; omega)|(simp [In64] at *; omega)|(simp_all; done)|skip)
  refine qa (qk (qb ?_))
  simp only [Try.results15,PostG,endG,rvsA,rvA,mkTup,ev0,evA,evB,evP,fl,gp,tab,simprocAttr,reduceCtorEq,reduceIte]
  all_goals (exact ⟨.p (.tup [.nil,fl (ckL L)]),[],by rw [hP]; exact ⟨.inl ⟨h1,rfl⟩,rfl⟩,[],rfl,rfl,⟨rfl,List.nodup_nil,trivial,trivial⟩⟩)
 ·(try simp only [nhs] at hC1)
  have h1:(ckL L).1=0:=by simpa using hC1
  obtain ⟨g1,g2,g3⟩:=hgood h1
  refine qh (qa (qm ?_))
  refine hk_regEn 2 ⟨1,runs_cut fun K hK=>?_⟩
  simp only [List.take_succ_cons,List.take_zero]
  refine runs_eval tab_ok ?_
  simp only [ev0,evA,evB,evP,fl,gp,tab,simprocAttr,reduceCtorEq,reduceIte]
  refine fin_run trivial (hK _ ?_)<;>clear hK<;>clear K
  refine ⟨_,_,rfl,rfl,by simp only [dstOk,Nat.reduceLT],fold_E rfl rfl L g1 g2 g3 rfl,fun av H' hO=>?_⟩
  obtain ⟨G,U,rfl,rfl,hGl,fi⟩:=hO
  refine ⟨0,runs_cut fun K hK=>?_⟩
  simp only [List.drop_succ_cons,List.drop_zero,List.take_zero]
  refine runs_eval tab_ok ?_
  simp only [ev0,evA,evB,evP,fl,gp,tab,simprocAttr,reduceCtorEq,reduceIte]
  refine fin_run trivial (hK _ ?_)<;>clear hK<;>clear K
  refine ⟨_,_,rfl,rfl,by simp only [dstOk,Nat.reduceLT],basis_E (Q:=[_,_]) rfl rfl fi.wg fi.pos fi.sym hGl rfl rfl,fun av H' hO=>?_⟩
  obtain ⟨lst,f,R,rfl,rfl,g,hrt,hf⟩:=hO
  have hG:=fi_isG fi g hrt hf
  refine runs_cut fun K hK=>?_
  simp only [List.drop_succ_cons,List.drop_zero]
  refine runs_eval tab_ok ?_
  simp only [ev0,evA,evB,evP,fl,gp,tab,simprocAttr,reduceCtorEq,reduceIte]
  refine fin_run trivial (hK _ ?_)<;>clear hK<;>clear K
  refine qa (qk ?_)
  simp only [Try.results15,PostG,endG,rvsA,rvA,mkTup,ev0,evA,evB,evP,fl,gp,tab,simprocAttr,reduceCtorEq,reduceIte]
  have hll:lst.length≤10000001:=Nat.le_trans (nodup_len _ _ g.nd fun x hx=>(hrt x hx).1) hGl
  exact ⟨.p (.tup [.list (ll (basS (stR G U) lst f)),fl (0,0)]),[],by rw [hP]; exact ⟨.inr ⟨h1,_,_,_,hG,hll,rfl⟩,rfl⟩,[],rfl,rfl,⟨rfl,List.nodup_nil,trivial,trivial⟩⟩

theorem BasO.pure {L:List (List Int)} {r:AV} (h:BasO L r):∃ v,r = .p v:=by
 rcases h with ⟨_,rfl⟩ | ⟨_,_,_,_,_,_,rfl⟩
 ·exact ⟨_,rfl⟩
 ·exact ⟨_,rfl⟩
theorem Basis_E {s:St} {o:Oper} {fo:Operand} {args:Array Operand} {ts:Array TypeId} (ho:o.op = .call { callee:=.value fo,args:=args,argTypes:=ts }) (hfo:s.ev fo = .p (.fn 15 []))
  (L:List (List Int)) (hl:L.length≤1000000000) (hw:∀ w∈L,w.length≤1000000000) (hgood:(ckL L).1=0→Good L) (hargs:args.toList.map s.ev++([]:List PV).map .p=[.p (.list (ll L))]) :
  DoesE Try.prog o s (fun av H'=>BasO L av∧H' = s.H):=by
 have:=call_doesE (ks:=[]) ho hfo (Basis_e L hl hw hgood) (by rw [hargs]; exact ⟨⟨trivial,rfl⟩,trivial⟩) trivial List.nodup_nil (fun k hk=>by cases hk) rfl (by
  rintro r H1 ⟨hb,rfl⟩
  obtain ⟨v,rfl⟩:=hb.pure
  rfl)
 intro C m a w K Q R hK
 refine this C m a w K Q R fun v m' w' av H' ⟨r,H1,⟨e0,e1⟩,e4,e5⟩ R2 hv=>hK v m' w' av H' ⟨?_,?_⟩ R2 hv
 ·obtain ⟨x,rfl⟩:=e0.pure
  rw [e4]; exact e0
 ·rw [e5,e1]
  simp only [List.map_nil,putM,List.append_nil]
noncomputable def rankS (L:List (List Int)):Int × (Int × Int):=if (ckL L).1 ≠ 0 then (0,ckL L) else ((eS (L.map short):Int) + 1 - vS (L.map short),(0,0))
set_option maxHeartbeats 4000000 in
set_option maxRecDepth 20000 in
theorem rank_c (L:List (List Int)) (hl:L.length≤1000000000) (hw:∀ w∈L,w.length≤1000000000) (hgood:(ckL L).1=0→Good L):FnC Try.prog 17 [.list (ll L)] (.tup [.int .i64 (rankS L).1,fl (rankS L).2]):=by
 refine fnc_of tab_ok Try.func17 rfl (by kernel_rfl) (by rw [Try.ntmps17]; exact Nat.le_add_left 1 _) ?_; rw [Try.ntmps17]
 refine qm ?_
 refine hk_region fun K hK=>runs_eval tab_ok ?_
 simp only [ev0,evA,evB,evP,fl,gp,tab,simprocAttr,reduceCtorEq,reduceIte]
 refine fin_run ?_ (hK _ ?_)<;>clear hK<;>clear K
 ·(first|exact trivial|omega|(simp only [In64] at *; omega)|(simp [In64] at *; omega)|(simp_all; done)|skip)
 refine qa (qm ?_)
 refine hk_regE 1 (runs_cut fun K hK=>?_)
 simp only [List.take_succ_cons,List.take_zero]
 refine runs_eval tab_ok ?_
 simp only [ev0,evA,evB,evP,fl,gp,tab,simprocAttr,reduceCtorEq,reduceIte]
 refine fin_run trivial (hK _ ?_)<;>clear hK<;>clear K
 refine ⟨_,_,rfl,rfl,by simp only [dstOk,Nat.reduceLT],Basis_E rfl rfl L hl hw hgood rfl,fun av H' hO=>?_⟩
 obtain ⟨hO,rfl⟩:=hO
 obtain ⟨n,c,b,hav,hn,hc,hb⟩:∃ (n:Nat) (c:Int × Int) (b:PV),av = .p (.tup [b,fl c])∧n=(rankS L).1∧c=(rankS L).2∧((b = .nil∧n=0)∨∃ l,b = .list (ll l)∧l.length=n):=by
  rcases hO with ⟨h1,rfl⟩ | ⟨h1,st,lst,f,hG,_,rfl⟩
  ·exact ⟨0,ckL L,.nil,rfl,by unfold rankS; rw [if_pos h1]; rfl,by unfold rankS; rw [if_pos h1],.inl ⟨rfl,rfl⟩⟩
  ·refine ⟨(basS st lst f).length,(0,0),_,rfl,?_,by unfold rankS; rw [if_neg (fun h=>h h1)],.inr ⟨_,rfl,rfl⟩⟩
   have:=hG.rank
   unfold rankS
   rw [if_neg (fun h=>h h1)]
   simp only; omega
 subst hav
 rw [← hn,← hc]
 refine runs_cut fun K hK=>?_
 simp only [List.drop_succ_cons,List.drop_zero]
 refine runs_eval tab_ok ?_
 simp only [ev0,evA,evB,evP,fl,gp,tab,simprocAttr,reduceCtorEq,reduceIte]
 refine fin_run trivial (hK _ ?_)<;>clear hK<;>clear K
 refine qa (qm ?_)
 rcases hb with ⟨rfl,rfl⟩ | ⟨l,rfl,rfl⟩
 ·refine hk_draw mixed (by kernel_rfl) fun K hK=>runs_eval tab_ok ?_
  simp only [ev0,evA,evB,evP,fl,gp,tab,simprocAttr,reduceCtorEq,reduceIte]
  refine fin_run ?_ (hK _ ?_)<;>clear hK<;>clear K
  ·(first|exact trivial|omega|(simp only [In64] at *; omega)|(simp [In64] at *; omega)|(simp_all; done)|skip)
  refine qa (qk ?_)
  simp only [Try.results17,enA,ev0,evA,evB,evP,fl,gp,tab,simprocAttr,reduceCtorEq,reduceIte]
  all_goals ((first|exact rfl|exact ⟨rfl,rfl⟩|exact ⟨rfl,rfl,rfl⟩|exact ⟨trivial,rfl⟩|exact ⟨Nat.le_refl _,rfl⟩|trivial|(simp; done)))
 ·refine hk_draw mixed (by kernel_rfl) fun K hK=>runs_eval tab_ok ?_
  simp only [ev0,evA,evB,evP,fl,gp,tab,simprocAttr,reduceCtorEq,reduceIte]
  refine fin_run ?_ (hK _ ?_)<;>clear hK<;>clear K
  ·(first|exact trivial|omega|(simp only [In64] at *; omega)|(simp [In64] at *; omega)|(simp_all; done)|skip)
  refine qa (qk ?_)
  simp only [Try.results17,enA,ev0,evA,evB,evP,fl,gp,tab,simprocAttr,reduceCtorEq,reduceIte]
  all_goals ((first|exact rfl|exact ⟨rfl,rfl⟩|exact ⟨rfl,rfl,rfl⟩|exact ⟨trivial,rfl⟩|exact ⟨Nat.le_refl _,rfl⟩|trivial|(simp; done)))
end Go.Proofs.Ytneglephfhiamaa

/-
  Graphs of words: the walk of Index. Conditions: none.
-/
set_option linter.all false
namespace Go.Proofs.Ytneglephfhiamaa
open Go.Pv

/-- Has a word a letter above n? -/
def badW (n:Int) (w:List Int):Bool:=(short w).any fun x=>decide (n < max x (-x))
def badF (n:Int) (L:List (List Int)):Int × Int:=if L.findIdx (badW n) < L.length then (4,((L.findIdx (badW n):Nat):Int)) else (0,0)
def idxF (L:List (List Int)) (n:Int):Int × Int:=if (ckL L).1 ≠ 0 then ckL L else if n < 1∨26 < n then (3,1) else badF n L
noncomputable def indexS (L:List (List Int)) (n:Int):Int × (Int × Int):=((if (idxF L n).1 ≠ 0 then 0 else if eS (L.map short)=n.toNat * vS (L.map short) then (vS (L.map short):Int) else 0),idxF L n)

section
variable {G:List Mp} {U:List Int}
/-- Reaching all places of what has been folded, in a region of its own. -/
theorem reach_ES {s:St} {o:Oper} {fo:Operand} {args:Array Operand} {ts:Array TypeId} {Q:Heap} (ho:o.op = .call { callee:=.value fo,args:=args,argTypes:=ts }) (hfo:s.ev fo = .p (.fn 55 []))
  (w0:WG G U) (hp:0 < G.length) (hs:SymW G U []) (hk:G.length≤10000001) (hH:s.H=Q++(GB G U).map (Blk.ren (List.range' Q.length (GB G U).length))) (hargs:args.toList.map s.ev++([]:List PV).map .p=[.ptr Q.length 0]) :
  DoesE Try.prog o s (fun av H'=>∃ (lst:List Nat) (f:Wy) (U' : List Int),av = .tup [.p (.list (il (lst.map Int.ofNat))),.mptr (Q.length + (G.length + 3))]∧H' = Q++(GB G U'++[wayB f]).map (Blk.ren (List.range' Q.length (GB G U'++[wayB f]).length)) ∧
   GT (stR G U) lst f∧(∀ u∈lst,u < G.length∧rV U u=u)∧∀ u∈lst,∀ w,runW (stR G U) 0 w=some u→(wy f u).length≤w.length):=by
 have h0:(List.range' Q.length (GB G U).length).getD 0 0=Q.length:=by
  rw [List.getD_eq_getElem?_getD,List.getElem?_range' (by rw [GB_len]; omega)]; simp
 have:=call_doesES ho hfo (reach_e w0 hp (by omega)) hH (by
  rw [hargs]
  refine ⟨⟨?_,?_⟩,trivial⟩
  ·simp only [Go.Pv.ren,ren1,h0]
  ·rw [List.length_range',GB_len]; simp [scA,sc1]) (by rw [GB_len]; exact GB_hsc (Nat.le_refl _)) GB_na (by
  rintro r H1 ⟨lst,f,U',rfl,rfl,_⟩
  exact GBw_scM)
 intro C m a w K R0 R hK
 refine this C m a w K R0 R fun v m' w' av H' ⟨r,H1,⟨lst,f,U',e0,e1,⟨w1,r1⟩,bi,bq⟩,e3,e4⟩ R2 hv=>hK v m' w' av H' ⟨lst,f,U',?_,?_,?_⟩ R2 hv
 ·have hl:H1.length=G.length + 4:=by rw [e1,List.length_append,GB_len]; rfl
  have hq:(List.range' Q.length H1.length).getD (G.length + 3) 0=Q.length + (G.length + 3):=by
   rw [List.getD_eq_getElem?_getD,List.getElem?_range' (by omega)]; simp
  rw [e3,e0]
  simp only [Go.Pv.ren,ren1,List.map_cons,List.map_nil,hq]
 ·rw [e4,e1]
 ·have hs1:SymW G U' []:=fun u x v hu hv e=>by
   rw [pe_nil,Ed.rv w0 r1 hu hv] at e
   rw [pe_nil,Ed.rv w0 r1 hv hu]
   exact pe_nil.1 (hs u x v hu hv (pe_nil.2 e))
  obtain ⟨g,hf⟩:=bq_gt w1 hp hs1 bi bq
  rw [stR_eq w0 r1] at g hf
  exact ⟨g,fun u hu=>⟨(bi.rt u hu).1,by rw [← r1 u (bi.rt u hu).1]; exact (bi.rt u hu).2⟩,hf⟩
theorem mpLen_lts (f:Mp) (h:∀ x d,f x=some d→-26≤x∧x≤26):mpLen (fun z=>(f z).isSome)=(lts f).length:=by
 refine mpLen_eq ?_ fun z=>?_
 ·exact List.Nodup.sublist List.filter_sublist (nodup_mapF List.nodup_range fun a _ b _ e=>by omega)
 ·rw [mem_lts]
  constructor
  ·exact fun h=>h.2
  ·intro hz
   obtain ⟨d,hd⟩:=Option.isSome_iff_exists.1 hz
   exact ⟨h z d hd,hz⟩
end

theorem badF_at {n:Int} {L:List (List Int)} {i:Nat} (hi:i < L.length) (h1:badW n (L.getD i [])=true) (h2:∀ k,k < i→badW n (L.getD k [])=false):badF n L=(4,((i:Nat):Int)):=by
 have hx:L.findIdx (badW n)=i:=by
  rw [List.findIdx_eq hi]
  refine ⟨?_,fun j hj=>?_⟩
  ·rw [List.getD_eq_getElem?_getD,List.getElem?_eq_getElem hi] at h1; exact h1
  ·have:=h2 j hj
   rwa [List.getD_eq_getElem?_getD,List.getElem?_eq_getElem (by omega)] at this
 unfold badF
 rw [hx,if_pos hi]
theorem badF_none {n:Int} {L:List (List Int)} (h2:∀ k,k < L.length→badW n (L.getD k [])=false):badF n L=(0,0):=by
 have hx:L.findIdx (badW n)=L.length:=by
  rw [List.findIdx_eq_length]
  intro w hw
  obtain ⟨j,hj,rfl⟩:=List.getElem_of_mem hw
  have:=h2 j hj
  rwa [List.getD_eq_getElem?_getD,List.getElem?_eq_getElem hj] at this
 unfold badF
 rw [hx,if_neg (Nat.lt_irrefl _)]

set_option maxHeartbeats 4000000 in
set_option maxRecDepth 20000 in
theorem index_c (L:List (List Int)) (n:Int) (hl:L.length≤1000000000) (hw:∀ w∈L,w.length≤1000000000) (hgood:(ckL L).1=0→Good L) :
  FnC Try.prog 24 [.list (ll L),.int .i64 n] (.tup [.int .i64 (indexS L n).1,fl (indexS L n).2]):=by
 refine fnc_of tab_ok Try.func24 rfl (by kernel_rfl) (by rw [Try.ntmps24]; exact Nat.le_add_left 2 _) ?_; rw [Try.ntmps24]
 refine qm ?_
 refine hk_region fun K hK=>runs_eval tab_ok ?_
 simp only [ev0,evA,evB,evP,fl,gp,tab,simprocAttr,reduceCtorEq,reduceIte]
 refine fin_run ?_ (hK _ ?_)<;>clear hK<;>clear K
 ·(first|exact trivial|omega|(simp only [In64] at *; omega)|(simp [In64] at *; omega)|(simp_all; done)|skip)
 refine qa (qm (qm ?_))
 refine hk_region fun K hK=>runs_eval tab_ok ?_
 simp only [ev0,evA,evB,evP,fl,gp,tab,simprocAttr,reduceCtorEq,reduceIte]
 refine fin_stop trivial (runs_call (checkL_c L hl hw) rfl rfl rfl (by simp only [dstOk,Nat.reduceLT]) (by repeat (first|exact trivial|constructor)) (runs_eval tab_ok ?_))
 simp only [ev0,evA,evB,evP,fl,gp,tab,simprocAttr,reduceCtorEq,reduceIte]
 refine fin_run ?_ (hK _ ?_)<;>clear hK<;>clear K
 ·(first|exact trivial|omega|(simp only [In64] at *; omega)|(simp [In64] at *; omega)|(simp_all; done)|skip)
 refine qa (qm ?_)
 refine hk_region fun K hK=>runs_eval tab_ok ?_
 simp only [ev0,evA,evB,evP,fl,gp,tab,simprocAttr,reduceCtorEq,reduceIte]
 refine fin_run ?_ (hK _ ?_)<;>clear hK<;>clear K
 ·(first|exact trivial|omega|(simp only [In64] at *; omega)|(simp [In64] at *; omega)|(simp_all; done)|skip)
 refine qa ?_
 refine hk_cond rfl (fun hC1=>?_) (fun hC1=>?_)
 ·(try simp only [nhs] at hC1)
  have h1:(ckL L).1 ≠ 0:=hC1
  have hs:indexS L n=(0,ckL L):=by unfold indexS idxF; simp only [if_pos h1]
  refine qm ?_
  refine hk_draw mixed (by kernel_rfl) fun K hK=>runs_eval tab_ok ?_
  simp only [ev0,evA,evB,evP,fl,gp,tab,simprocAttr,reduceCtorEq,reduceIte]
  refine fin_run ?_ (hK _ ?_)<;>clear hK<;>clear K
  ·(first|exact trivial|omega|(simp only [In64] at *; omega)|(simp [In64] at *; omega)|(simp_all; done)|skip)
  refine qa (qk (qb ?_))
  simp only [Try.results24,enA,ev0,evA,evB,evP,fl,gp,tab,simprocAttr,reduceCtorEq,reduceIte]
  all_goals (rw [hs]; exact ⟨rfl,rfl,rfl⟩)
 ·(try simp only [nhs] at hC1)
  have h1:(ckL L).1=0:=by simpa using hC1
  obtain ⟨g1,g2,g3⟩:=hgood h1
  refine qh (qa (qm (qm ?_)))
  by_cases g4a:n < 1
  ·refine hk_region fun K hK=>runs_eval tab_ok ?_
   simp only [ev0,evA,evB,evP,fl,gp,tab,simprocAttr,reduceCtorEq,reduceIte,decide_eq_true g4a]
   refine fin_run trivial (hK _ ?_)<;>clear hK<;>clear K
   refine qa ?_
   refine hk_cond rfl (fun hC2=>?_) (fun hC2=>?_)
   ·have h2:n < 1∨26 < n:=by first|exact .inl g4a|exact .inr (by simpa using hC2)
    have hs:indexS L n=(0,(3,1)):=by
     have:idxF L n=(3,1):=by unfold idxF; rw [if_neg (fun h=>h h1),if_pos h2]
     unfold indexS; rw [this]; rfl
    refine qm ?_
    refine hk_region fun K hK=>runs_eval tab_ok ?_
    simp only [ev0,evA,evB,evP,fl,gp,tab,simprocAttr,reduceCtorEq,reduceIte]
    refine fin_stop trivial (runs_call (ffault_c 3 1) rfl rfl rfl (by simp only [dstOk,Nat.reduceLT]) (by repeat (first|exact trivial|constructor)) (runs_eval tab_ok ?_))
    simp only [ev0,evA,evB,evP,fl,gp,tab,simprocAttr,reduceCtorEq,reduceIte]
    refine fin_run ?_ (hK _ ?_)<;>clear hK<;>clear K
    ·(first|exact trivial|omega|(simp only [In64] at *; omega)|(simp [In64] at *; omega)|(simp_all; done)|skip)
    refine qa (qk (qb ?_))
    simp only [Try.results24,enA,ev0,evA,evB,evP,fl,gp,tab,simprocAttr,reduceCtorEq,reduceIte]
    all_goals (rw [hs]; exact ⟨rfl,rfl,rfl⟩)
   ·cases hC2
  ·refine hk_region fun K hK=>runs_eval tab_ok ?_
   simp only [ev0,evA,evB,evP,fl,gp,tab,simprocAttr,reduceCtorEq,reduceIte,decide_eq_false g4a]
   refine fin_run trivial (hK _ ?_)<;>clear hK<;>clear K
   refine qa ?_
   refine hk_cond rfl (fun hC2=>?_) (fun hC2=>?_)
   ·(try simp only [nhs] at hC2)
    have h2:n < 1∨26 < n:=by first|exact .inl g4a|exact .inr (by simpa using hC2)
    have hs:indexS L n=(0,(3,1)):=by
     have:idxF L n=(3,1):=by unfold idxF; rw [if_neg (fun h=>h h1),if_pos h2]
     unfold indexS; rw [this]; rfl
    refine qm ?_
    refine hk_region fun K hK=>runs_eval tab_ok ?_
    simp only [ev0,evA,evB,evP,fl,gp,tab,simprocAttr,reduceCtorEq,reduceIte]
    refine fin_stop trivial (runs_call (ffault_c 3 1) rfl rfl rfl (by simp only [dstOk,Nat.reduceLT]) (by repeat (first|exact trivial|constructor)) (runs_eval tab_ok ?_))
    simp only [ev0,evA,evB,evP,fl,gp,tab,simprocAttr,reduceCtorEq,reduceIte]
    refine fin_run ?_ (hK _ ?_)<;>clear hK<;>clear K
    ·(first|exact trivial|omega|(simp only [In64] at *; omega)|(simp [In64] at *; omega)|(simp_all; done)|skip)
    refine qa (qk (qb ?_))
    simp only [Try.results24,enA,ev0,evA,evB,evP,fl,gp,tab,simprocAttr,reduceCtorEq,reduceIte]
    all_goals (rw [hs]; exact ⟨rfl,rfl,rfl⟩)
   ·(try simp only [nhs] at hC2)
    have h2:¬ (n < 1∨26 < n):=by
     have h3:¬ 26 < n:=by simpa using hC2
     omega
    have hi0:idxF L n=badF n L:=by unfold idxF; rw [if_neg (fun h=>h h1),if_neg h2]
    refine qh (qa (qm (qm ?_)))
    refine hk_region fun K hK=>runs_eval tab_ok ?_
    simp only [ev0,evA,evB,evP,fl,gp,tab,simprocAttr,reduceCtorEq,reduceIte,ll_length]
    refine fin_run trivial (hK _ ?_)<;>clear hK<;>clear K
    refine qa (ql ?_)
    refine hk_loop (ι:=Nat) (fun i=>⟨82,[(0,.p (.list (ll L))),(1,.p (.int .i64 n)),(5,.ptr 0 0),(29,.p (.list (ll L))),(30,.p (.int .i64 L.length)),(31,.p (.int .i64 (i:Nat)))],[.own [.p (.int .i64 0),.p (.int .i64 0)]]⟩) (fun i=>i≤L.length∧∀ k,k < i→badW n (L.getD k [])=false) (fun i=>L.length - i) 0 ⟨Nat.zero_le _,fun k hk=>absurd hk (Nat.not_lt_zero _)⟩ [0] (by simp only [leq,leA,ev0,evA,evB,evP,fl,gp,tab,simprocAttr,reduceCtorEq,reduceIte]<;>trivial) fun i hi=>?_
    obtain ⟨q1,q2⟩:=hi
    refine qm ?_
    refine hk_region fun K hK=>runs_eval tab_ok ?_
    simp only [ev0,evA,evB,evP,fl,gp,tab,simprocAttr,reduceCtorEq,reduceIte]
    refine fin_run trivial (hK _ ?_)<;>clear hK<;>clear K
    refine qa (qm ?_)
    refine hk_cond rfl (fun hC3=>?_) (fun hC3=>?_)
    ·(try simp only [nhs] at hC3)
     have hi:i < L.length:=by omega
     obtain ⟨w0,hw0⟩:∃ w,L.getD i []=w:=⟨_,rfl⟩
     have hwm:w0∈L:=by rw [← hw0,List.getD_eq_getElem?_getD,List.getElem?_eq_getElem hi]; exact List.getElem_mem hi
     obtain ⟨hw1,hw2⟩:=g1 w0 hwm
     obtain ⟨w,hws⟩:∃ w,short w0=w:=⟨_,rfl⟩
     have hwl:Lt26 w:=hws ▸ short_lt hw2
     have hwn:w.length≤1000000000:=hws ▸ Nat.le_trans (short_len w0) hw1
     refine qh (qa (qm (ql (qm ?_))))
     refine hk_region fun K hK=>runs_eval tab_ok ?_
     simp only [ev0,evA,evB,evP,fl,gp,tab,simprocAttr,reduceCtorEq,reduceIte,ll_length,ll_get hi,hw0]
     refine fin_run ?_ (hK _ ?_)<;>clear hK<;>clear K
     ·omega
     refine qa (qm ?_)
     refine hk_region fun K hK=>runs_eval tab_ok ?_
     simp only [ev0,evA,evB,evP,fl,gp,tab,simprocAttr,reduceCtorEq,reduceIte,hws,il_length]
     refine fin_stop trivial (runs_call (short_c w0 hw1 (fun x hx=>(hw2 x hx).2)) rfl rfl rfl (by simp only [dstOk,Nat.reduceLT]) (by repeat (first|exact trivial|constructor)) (runs_eval tab_ok ?_))
     simp only [ev0,evA,evB,evP,fl,gp,tab,simprocAttr,reduceCtorEq,reduceIte,hws,il_length]
     refine fin_run trivial (hK _ ?_)<;>clear hK<;>clear K
     refine qa (ql ?_)
     refine hk_loop (ι:=Nat) (fun j=>⟨82,[(0,.p (.list (ll L))),(1,.p (.int .i64 n)),(5,.ptr 0 0),(7,.p (.int .i64 (i:Nat))),(29,.p (.list (ll L))),(30,.p (.int .i64 L.length)),(31,.p (.int .i64 (i:Nat))),(37,.p (.list (il w))),(38,.p (.int .i64 w.length)),(39,.p (.int .i64 (j:Nat)))],[.own [.p (.int .i64 0),.p (.int .i64 0)]]⟩) (fun j=>j≤w.length∧∀ k,k < j→¬ n < max (w.getD k 0) (-(w.getD k 0))) (fun j=>w.length - j) 0 ⟨Nat.zero_le _,fun k hk=>absurd hk (Nat.not_lt_zero _)⟩ [0] (by simp only [leq,leA,ev0,evA,evB,evP,fl,gp,tab,simprocAttr,reduceCtorEq,reduceIte]<;>trivial) fun j hj=>?_
     obtain ⟨p1,p2⟩:=hj
     refine qm ?_
     refine hk_region fun K hK=>runs_eval tab_ok ?_
     simp only [ev0,evA,evB,evP,fl,gp,tab,simprocAttr,reduceCtorEq,reduceIte]
     refine fin_run trivial (hK _ ?_)<;>clear hK<;>clear K
     refine qa (qm ?_)
     refine hk_cond rfl (fun hC4=>?_) (fun hC4=>?_)
     ·(try simp only [nhs] at hC4)
      have hj:j < w.length:=by omega
      obtain ⟨x,hx⟩:∃ x,w.getD j 0=x:=⟨_,rfl⟩
      have hxm:x∈w:=by rw [← hx,List.getD_eq_getElem?_getD,List.getElem?_eq_getElem hj]; exact List.getElem_mem hj
      obtain ⟨x0,x1,x2⟩:=hwl x hxm
      refine qh (qa (qm (ql (qm ?_))))
      refine hk_region fun K hK=>runs_eval tab_ok ?_
      simp only [ev0,evA,evB,evP,fl,gp,tab,simprocAttr,reduceCtorEq,reduceIte,il_length,il_get hj,hx]
      refine fin_run ?_ (hK _ ?_)<;>clear hK<;>clear K
      ·omega
      refine qa (qm ?_)
      refine hk_region fun K hK=>runs_eval tab_ok ?_
      simp only [ev0,evA,evB,evP,fl,gp,tab,simprocAttr,reduceCtorEq,reduceIte]
      refine fin_run ?_ (hK _ ?_)<;>clear hK<;>clear K
      ·(first|exact trivial|omega|(simp only [In64] at *; omega)|(simp [In64] at *; omega)|(simp_all; done)|skip)
      refine qa ?_
      refine hk_cond rfl (fun hC5=>?_) (fun hC5=>?_)
      ·(try simp only [nhs] at hC5)
       have hbad:n < max x (-x):=by
        have h:n < if x < -x then -x else x:=by simpa using hC5
        split at h<;>omega
       have hb:badW n (L.getD i [])=true:=by
        unfold badW
        rw [hw0,hws,List.any_eq_true]
        exact ⟨x,hxm,by simpa using hbad⟩
       have hs:indexS L n=(0,(4,(i:Int))):=by
        have:idxF L n=(4,(i:Int)):=by rw [hi0]; exact badF_at hi hb q2
        unfold indexS; rw [this]; rfl
       refine qm ?_
       refine hk_region fun K hK=>runs_eval tab_ok ?_
       simp only [ev0,evA,evB,evP,fl,gp,tab,simprocAttr,reduceCtorEq,reduceIte]
       refine fin_stop trivial (runs_call (ffault_c 4 i) rfl rfl rfl (by simp only [dstOk,Nat.reduceLT]) (by repeat (first|exact trivial|constructor)) (runs_eval tab_ok ?_))
       simp only [ev0,evA,evB,evP,fl,gp,tab,simprocAttr,reduceCtorEq,reduceIte]
       refine fin_run ?_ (hK _ ?_)<;>clear hK<;>clear K
       ·(first|exact trivial|omega|(simp only [In64] at *; omega)|(simp [In64] at *; omega)|(simp_all; done)|skip)
       refine qa (qk (qe (qb (qb (qe (qe (qb (qb (qe (qb ?_))))))))))
       simp only [Try.results24,enA,ev0,evA,evB,evP,fl,gp,tab,simprocAttr,reduceCtorEq,reduceIte]
       all_goals (rw [hs]; exact ⟨rfl,rfl,rfl⟩)
      ·(try simp only [nhs] at hC5)
       have hgood2:¬ n < max x (-x):=by
        have h:¬ n < if x < -x then -x else x:=by simpa using hC5
        split at h<;>omega
       refine qh (qd (qa ?_))
       refine hk_region fun K hK=>runs_eval tab_ok ?_
       simp only [ev0,evA,evB,evP,fl,gp,tab,simprocAttr,reduceCtorEq,reduceIte]
       refine fin_run ?_ (hK _ ?_)<;>clear hK<;>clear K
       ·(first|exact trivial|omega|(simp only [In64] at *; omega)|(simp [In64] at *; omega)|(simp_all; done)|skip)
       refine qa ?_
       refine ⟨j + 1,[0],⟨by omega,fun k hk=>?_⟩,by omega,by simp only [leq,leA,ev0,evA,evB,evP,fl,gp,tab,simprocAttr,reduceCtorEq,reduceIte]<;>trivial⟩
       by_cases h:k < j
       ·exact p2 k h
       ·obtain rfl:k=j:=by omega
        rw [hx]; exact hgood2
     ·(try simp only [nhs] at hC4)
      refine qj (qc (qc (qf (qd (qa ?_)))))
      refine hk_region fun K hK=>runs_eval tab_ok ?_
      simp only [ev0,evA,evB,evP,fl,gp,tab,simprocAttr,reduceCtorEq,reduceIte]
      refine fin_run ?_ (hK _ ?_)<;>clear hK<;>clear K
      ·(first|exact trivial|omega|(simp only [In64] at *; omega)|(simp [In64] at *; omega)|(simp_all; done)|skip)
      refine qa ?_
      refine ⟨i + 1,[0],⟨by omega,fun k hk=>?_⟩,by omega,by simp only [leq,leA,ev0,evA,evB,evP,fl,gp,tab,simprocAttr,reduceCtorEq,reduceIte]<;>trivial⟩
      by_cases h:k < i
      ·exact q2 k h
      ·obtain rfl:k=i:=by omega
       unfold badW
       rw [hw0,hws,List.any_eq_false]
       intro x hxm
       obtain ⟨k,hk,rfl⟩:=List.getElem_of_mem hxm
       have:=p2 k (by omega)
       rw [List.getD_eq_getElem?_getD,List.getElem?_eq_getElem hk] at this
       simpa using this
    ·(try simp only [nhs] at hC3)
     have hie:i=L.length:=by omega
     rw [hie] at q2
     have hf0:idxF L n=(0,0):=by rw [hi0]; exact badF_none q2
     obtain ⟨m,rfl⟩:=Int.eq_ofNat_of_zero_le (show 0≤n by omega)
     have hlet:∀ s∈L.map short,∀ x∈s,-(m:Int)≤x∧x≤m:=fun s hs x hx=>by
      obtain ⟨w,hwm,rfl⟩:=List.mem_map.1 hs
      obtain ⟨k,hk,rfl⟩:=List.getElem_of_mem hwm
      have:=q2 k hk
      rw [List.getD_eq_getElem?_getD,List.getElem?_eq_getElem hk] at this
      unfold badW at this
      rw [List.any_eq_false] at this
      have:=this x hx
      simp only [decide_eq_true_eq] at this
      have h3:max x (-x)≤(m:Int):=by simpa using this
      omega
     refine qj (qc (qc (qf (qa (qm ?_)))))
     refine hk_regE 1 (runs_cut fun K hK=>?_)
     simp only [List.take_succ_cons,List.take_zero]
     refine runs_eval tab_ok ?_
     simp only [ev0,evA,evB,evP,fl,gp,tab,simprocAttr,reduceCtorEq,reduceIte]
     refine fin_run trivial (hK _ ?_)<;>clear hK<;>clear K
     refine ⟨_,_,rfl,rfl,by simp only [dstOk,Nat.reduceLT],fold_E rfl rfl L g1 g2 g3 rfl,fun av H' hO=>?_⟩
     obtain ⟨G,U,rfl,rfl,hGl,fi⟩:=hO
     refine runs_cut fun K hK=>?_
     simp only [List.drop_succ_cons,List.drop_zero]
     refine runs_eval tab_ok ?_
     simp only [ev0,evA,evB,evP,fl,gp,tab,simprocAttr,reduceCtorEq,reduceIte]
     refine fin_run trivial (hK _ ?_)<;>clear hK<;>clear K
     refine qa (qm ?_)
     refine hk_regE 1 (runs_cut fun K hK=>?_)
     simp only [List.take_succ_cons,List.take_zero]
     refine runs_eval tab_ok ?_
     simp only [ev0,evA,evB,evP,fl,gp,tab,simprocAttr,reduceCtorEq,reduceIte]
     refine fin_run trivial (hK _ ?_)<;>clear hK<;>clear K
     refine ⟨_,_,rfl,rfl,by simp only [dstOk,Nat.reduceLT],reach_ES (Q:=[_]) rfl rfl fi.wg fi.pos fi.sym hGl rfl rfl,fun av H' hO=>?_⟩
     obtain ⟨lst,f,V,rfl,rfl,g,hrt,hf⟩:=hO
     have hG:=fi_isG fi g hrt hf
     obtain ⟨st,hst⟩:∃ st,stR G U=st:=⟨_,rfl⟩
     rw [hst] at g hf hG
     refine runs_cut fun K hK=>?_
     simp only [List.drop_succ_cons,List.drop_zero]
     refine runs_eval tab_ok ?_
     simp only [ev0,evA,evB,evP,fl,gp,tab,simprocAttr,reduceCtorEq,reduceIte]
     refine fin_run trivial (hK _ ?_)<;>clear hK<;>clear K
     refine qa (qm (qm ?_))
     obtain ⟨N,hN⟩:∃ N,G.length + 3=N:=⟨_,rfl⟩
     have hH1l:(GB G V++[wayB f]).length=N + 1:=by rw [List.length_append,GB_len,hN]; rfl
     have hπ0:(List.range' 1 (GB G V++[wayB f]).length++[0]).getD 0 0=1:=by
      rw [List.getD_eq_getElem?_getD,List.getElem?_append_left (by rw [List.length_range',hH1l]; omega),List.getElem?_range' (by rw [hH1l]; omega)]; rfl
     have hπk:(List.range' 1 (GB G V++[wayB f]).length++[0]).getD (N + 1) 0=0:=by
      rw [List.getD_eq_getElem?_getD,List.getElem?_append_right (by rw [List.length_range',hH1l]; omega),List.length_range',hH1l,Nat.sub_self]; rfl
     refine hk_le (s1:=⟨82,[(1,.p (.int .i64 m)),(5,.ptr (N + 1) 0),(11,.ptr 0 0),(12,.p (.list (il (lst.map Int.ofNat))))],GB G V++[wayB f,.own (opl [.int .i64 0,.int .i64 0])]⟩) _ (le_swap1 (P:=[_]) (H1:=GB G V++[wayB f]) (c:=[.int .i64 0,.int .i64 0]) rfl rfl (fun b hb=>?_) ?_ rfl (by simp) ?_) ?_
     ·rw [hH1l]
      rcases List.mem_append.1 hb with hb | hb
      ·exact GB_hsc (by omega) b hb
      ·rw [List.mem_singleton] at hb; subst hb; rfl
     ·rw [List.all_append,GB_na]; rfl
     ·refine ⟨rfl,rfl,?_,?_,?_,?_,rfl,rfl,trivial⟩
      ·show AV.ptr 0 0=Go.Pv.ren _ _
       simp only [Go.Pv.ren,ren1,List.length_cons,List.length_nil,Nat.zero_add,hπk]
      ·rw [List.length_append,List.length_range',hH1l]; simp [scA,sc1]
      ·show AV.ptr 1 0=Go.Pv.ren _ _
       simp only [Go.Pv.ren,ren1,List.length_cons,List.length_nil,Nat.zero_add,hπ0]
      ·rw [List.length_append,List.length_range',hH1l]; simp [scA,sc1]
     have hgN:∀ a b:Blk,hget (GB G V++[a,b]) (N + 1)=b:=fun a b=>by
      rw [hget_app2 (by rw [GB_len]; omega),GB_len,show N + 1 - (G.length + 3)=1 by omega]; rfl
     have hsN:∀ a b c:Blk,hset (GB G V++[a,b]) (N + 1) c=GB G V++[a,c]:=fun a b c=>by
      rw [hset_eq,List.set_append_right _ _ (by rw [GB_len]; omega),GB_len,show N + 1 - (G.length + 3)=1 by omega]; rfl
     have hHs:∀ c:List PV,∀ b∈(GB G V++[wayB f,.own (opl c)]),hsc (N + 2) b=true:=fun c b hb=>by
      rcases List.mem_append.1 hb with hb | hb
      ·exact GB_hsc (by omega) b hb
      ·simp only [List.mem_cons,List.not_mem_nil,or_false] at hb
       rcases hb with rfl | rfl
       ·rfl
       ·exact List.all_eq_true.2 fun x hx=>(List.all_eq_true.1 (opl_sc _ _)) x hx
     have hll:lst.length≤G.length:=nodup_len _ _ g.nd fun x hx=>(hrt x hx).1
     refine hk_region fun K hK=>runs_eval tab_ok ?_
     simp only [ev0,evA,evB,evP,fl,gp,tab,simprocAttr,reduceCtorEq,reduceIte,il_length,List.length_map]
     refine fin_run trivial (hK _ ?_)<;>clear hK<;>clear K
     refine qa (ql ?_)
     have hHl:(GB G V++[wayB f,Blk.own (opl [.int .i64 0,.int .i64 0])]).length=N + 2:=by rw [List.length_append,GB_len,hN]; rfl
     refine hk_loop (ι:=Nat) (fun i=>⟨82,[(1,.p (.int .i64 m)),(5,.ptr (N + 1) 0),(11,.ptr 0 0),(12,.p (.list (il (lst.map Int.ofNat)))),(60,.p (.list (il (lst.map Int.ofNat)))),(61,.p (.int .i64 lst.length)),(62,.p (.int .i64 (i:Nat)))],GB G V++[wayB f,.own (opl [.int .i64 0,.int .i64 0])]⟩) (fun i=>i≤lst.length∧∀ k,k < i→2 * m≤(ltS st (lst.getD k 0)).length) (fun i=>lst.length - i) 0 ⟨Nat.zero_le _,fun k hk=>absurd hk (Nat.not_lt_zero _)⟩ (List.range (N + 2)) (by
      rw [← hHl]
      refine le_same rfl rfl (by rw [hHl]; exact hHs _) ?_
      rw [hHl]
      simp [St.get,lk,scA,sc1]) fun i hi=>?_
     obtain ⟨r1,r2⟩:=hi
     refine qm ?_
     refine hk_region fun K hK=>runs_eval tab_ok ?_
     simp only [ev0,evA,evB,evP,fl,gp,tab,simprocAttr,reduceCtorEq,reduceIte]
     refine fin_run trivial (hK _ ?_)<;>clear hK<;>clear K
     refine qa (qm ?_)
     refine hk_cond rfl (fun hC6=>?_) (fun hC6=>?_)
     ·(try simp only [nhs] at hC6)
      have hi:i < lst.length:=by omega
      obtain ⟨v,hv⟩:∃ v,lst.getD i 0=v:=⟨_,rfl⟩
      have hvm:v∈lst:=hv ▸ mem_ix hi
      obtain ⟨hvl,hvr⟩:=hrt v hvm
      have hgl:(lst.map Int.ofNat).getD i 0=(v:Int):=by
       rw [← hv,List.getD_eq_getElem?_getD,List.getD_eq_getElem?_getD,List.getElem?_map,List.getElem?_eq_getElem hi]; rfl
      have hil:i < (lst.map Int.ofNat).length:=by simpa using hi
      have hml:mpLen (fun z=>(gm G v z).isSome)=(ltS st v).length:=by
       rw [mpLen_lts _ fun x d hd=>(fi.wg.ent v x d hvl hd).2.2.2,lts_ltS ⟨hvl,hvr⟩,hst]
      have gM:∀ Y:Heap,hget (G.map mpB++Y) v=mpB (gm G v):=fun Y=>hget_G hvl
      have hGBk:∀ (Y:Heap),GB G V++Y = .own [.sl 1 0 G.length,.sl 2 0 V.length] :: .own (mps G.length) :: .own (ol V) :: (G.map mpB++Y):=fun Y=>rfl
      have hll2:(ltS st v).length≤53:=by rw [← hst,← lts_ltS ⟨hvl,hvr⟩]; exact lts_len _
      refine qh (qa (qm (ql (qm ?_))))
      refine hk_region fun K hK=>runs_eval tab_ok ?_
      simp only [ev0,evA,evB,evP,fl,gp,tab,simprocAttr,reduceCtorEq,reduceIte,il_length,List.length_map,il_get hil,hgl]
      refine fin_run ?_ (hK _ ?_)<;>clear hK<;>clear K
      ·omega
      refine qa (qm ?_)
      rw [hGBk]
      refine hk_region fun K hK=>runs_eval tab_ok ?_
      simp only [ev0,evA,evB,evP,fl,gp,tab,simprocAttr,reduceCtorEq,reduceIte,mps_get hvl,mps_len,Int.toNat_natCast]
      refine fin_stop ?_ (runs_mapLen tab_ok rfl rfl (k:=v + 3) rfl (gM _) rfl (by simp only [dstOk,Nat.reduceLT]) (runs_eval tab_ok ?_))
      ·exact ⟨⟨by omega,by omega⟩,hvl⟩
      simp only [hml]
      simp only [ev0,evA,evB,evP,fl,gp,tab,simprocAttr,reduceCtorEq,reduceIte]
      refine fin_run ?_ (hK _ ?_)<;>clear hK<;>clear K
      ·simp only [In64]; omega
      rw [← hGBk]
      refine qa ?_
      refine hk_cond rfl (fun hC7=>?_) (fun hC7=>?_)
      ·(try simp only [nhs] at hC7)
       have hlt:(ltS st v).length < 2 * m:=by
        have:((ltS st v).length:Int) < 2 * m:=by simpa using hC7
        omega
       have hne:¬ eS (L.map short)=m * vS (L.map short):=fun e=>by
        have:=(hG.full hlet).2 e v hvm
        omega
       have hs:indexS L m=(0,(0,0)):=by
        unfold indexS
        rw [hf0,Int.toNat_natCast,if_neg (by decide),if_neg hne]
       refine qm ?_
       refine hk_region fun K hK=>runs_eval tab_ok ?_
       simp only [ev0,evA,evB,evP,fl,gp,tab,simprocAttr,reduceCtorEq,reduceIte,hgN,hsN]
       refine fin_run ?_ (hK _ ?_)<;>clear hK<;>clear K
       ·(first|exact trivial|omega|(simp only [In64] at *; omega)|(simp [In64] at *; omega)|(simp_all; done)|skip)
       refine qa (qk (qe (qb (qb (qe (qb ?_))))))
       simp only [Try.results24,enA,ev0,evA,evB,evP,fl,gp,tab,simprocAttr,reduceCtorEq,reduceIte]
       simp only [hgN,enA,ev0,evA,evB,evP,fl,gp,tab,simprocAttr,reduceCtorEq,reduceIte]
       rw [hs]; exact ⟨rfl,rfl,rfl⟩
      ·(try simp only [nhs] at hC7)
       have hge:2 * m≤(ltS st v).length:=by
        have:¬ ((ltS st v).length:Int) < 2 * m:=by simpa using hC7
        omega
       refine qh (qd (qa ?_))
       refine hk_region fun K hK=>runs_eval tab_ok ?_
       simp only [ev0,evA,evB,evP,fl,gp,tab,simprocAttr,reduceCtorEq,reduceIte]
       refine fin_run ?_ (hK _ ?_)<;>clear hK<;>clear K
       ·(first|exact trivial|omega|(simp only [In64] at *; omega)|(simp [In64] at *; omega)|(simp_all; done)|skip)
       refine qa ?_
       refine ⟨i + 1,List.range (N + 2),⟨by omega,fun k hk=>?_⟩,by omega,?_⟩
       ·by_cases h:k < i
        ·exact r2 k h
        ·obtain rfl:k=i:=by omega
         rw [hv]; exact hge
       ·rw [← hHl]
        refine le_same rfl rfl (by rw [hHl]; exact hHs _) ?_
        rw [hHl]
        simp [St.get,lk,scA,sc1]
     ·(try simp only [nhs] at hC6)
      have hie2:i=lst.length:=by omega
      have hfu:Full st lst m:=fun u hu=>by
       obtain ⟨k,hk,rfl⟩:=ix_of hu
       exact r2 k (by omega)
      have heq:=(hG.full hlet).1 hfu
      have hs:indexS L m=((lst.length:Int),(0,0)):=by
       unfold indexS
       rw [hf0,Int.toNat_natCast,if_neg (by decide),if_pos heq,hG.cnt.1]
      refine qj (qc (qc (qf (qa (qm ?_)))))
      refine hk_region fun K hK=>runs_eval tab_ok ?_
      simp only [ev0,evA,evB,evP,fl,gp,tab,simprocAttr,reduceCtorEq,reduceIte,hgN,hsN,il_length,List.length_map]
      refine fin_run ?_ (hK _ ?_)<;>clear hK<;>clear K
      ·(first|exact trivial|omega|(simp only [In64] at *; omega)|(simp [In64] at *; omega)|(simp_all; done)|skip)
      refine qa (qk ?_)
      simp only [Try.results24,enA,ev0,evA,evB,evP,fl,gp,tab,simprocAttr,reduceCtorEq,reduceIte]
      simp only [hgN,enA,ev0,evA,evB,evP,fl,gp,tab,simprocAttr,reduceCtorEq,reduceIte]
      rw [hs]; exact ⟨rfl,rfl,rfl⟩
end Go.Proofs.Ytneglephfhiamaa

/-
  The graph of the document's example. Conditions: none.
-/
set_option linter.all false
namespace Go.Proofs.Ytneglephfhiamaa
open Go.Pv

def stX (u:Nat) (x:Int):Option Nat:=if (u=0∧(x=1∨x = -1)) then some 1 else if (u=1∧(x=1∨x = -1)) then some 0 else if (u≤1∧(x=2∨x = -2)) then some u else none
def fX:Wy:=updW (updW (fun _=>none) 0 []) 1 [1]
def sX:List (List Int):=[[1,1],[2],[1,2,-1]]
theorem stX_iff {u v:Nat} {x:Int} : stX u x=some v↔(u=0∧(x=1∨x = -1)∧v=1)∨(u=1∧(x=1∨x = -1)∧v=0)∨(u≤1∧(x=2∨x = -2)∧v=u):=by
 unfold stX
 split
 ·rename_i h; obtain ⟨rfl,h⟩:=h
  constructor
  ·intro e; have:=Option.some.inj e; left; omega
  ·intro e; have:v=1:=by omega
   rw [this]
 ·split
  ·rename_i h; obtain ⟨rfl,h⟩:=h
   constructor
   ·intro e; have:=Option.some.inj e; right; left; omega
   ·intro e; have:v=0:=by omega
    rw [this]
  ·split
   ·constructor
    ·intro e; have:=Option.some.inj e; right; right; omega
    ·intro e; have:v=u:=by omega
     rw [this]
   ·constructor
    ·intro e; cases e
    ·intro e; omega
theorem isX:IsG sX stX [0,1] fX:=by
 have f0:fX 0=some []:=rfl
 have f1:fX 1=some [1]:=rfl
 refine ⟨⟨fun c d x _ h=>?_,by simp,rfl,fun z=>?_,rfl,fun j hj h0=>?_,fun u hu x v h=>?_,fun u hu x v h=>?_⟩,fun X st x0 hi hc=>?_,fun s hs=>?_,fun u hu w hw=>?_⟩
 ·rw [stX_iff] at h ⊢; omega
 ·unfold fX updW
  by_cases h1:z=1
  ·subst h1; simp
  ·rw [if_neg h1]
   by_cases h2:z=0
   ·subst h2; simp
   ·rw [if_neg h2]
    simp only [Option.isSome_none,Bool.false_eq_true,List.mem_cons,List.not_mem_nil,or_false,false_iff,not_exists,not_and]
    rintro u (rfl | rfl)<;>omega
 ·simp only [List.length_cons,List.length_nil] at hj
  obtain rfl:j=1:=by omega
  exact ⟨0,1,[],by omega,rfl,rfl,rfl⟩
 ·rw [stX_iff] at h
  simp only [List.mem_cons,List.not_mem_nil,or_false]; omega
 ·rw [stX_iff] at h; omega
 ·have c1:=hc [1,1] (by simp [sX])
  have c2:=hc [2] (by simp [sX])
  have c3:=hc [1,2,-1] (by simp [sX])
  simp only [runW] at c1 c2 c3
  cases e1:st x0 1 with
  | none=>rw [e1] at c1; cases c1
  | some y =>
   rw [e1] at c1 c3
   simp only at c1 c3
   cases e2:st y 1 with
   | none=>rw [e2] at c1; cases c1
   | some z =>
    rw [e2] at c1
    obtain rfl:z=x0:=Option.some.inj c1
    cases e3:st z 2 with
    | none=>rw [e3] at c2; cases c2
    | some t =>
     rw [e3] at c2
     obtain rfl:t=z:=Option.some.inj c2
     cases e4:st y 2 with
     | none=>rw [e4] at c3; cases c3
     | some q =>
      rw [e4] at c3
      simp only at c3
      cases e5:st q (-1) with
      | none=>rw [e5] at c3; cases c3
      | some q2 =>
       rw [e5] at c3
       obtain rfl:q2=t:=Option.some.inj c3
       have e6:=hi _ _ _ (by decide) e5
       rw [Int.neg_neg,e1] at e6
       obtain rfl:=Option.some.inj e6
       refine ⟨fun u=>if u=0 then q2 else y,rfl,fun u hu x v h=>?_⟩
       rw [stX_iff] at h
       have i1:=hi _ _ _ (by decide) e1
       have i2:=hi _ _ _ (by decide) e2
       have i3:=hi _ _ _ (by decide) e3
       have i4:=hi _ _ _ (by decide) e4
       rcases h with ⟨rfl,rfl | rfl,rfl⟩ | ⟨rfl,rfl | rfl,rfl⟩ | ⟨hu1,rfl | rfl,rfl⟩
       ·exact e1
       ·exact i2
       ·exact e2
       ·exact i1
       ·rcases (show v=0∨v=1 by omega) with rfl | rfl
        ·exact e3
        ·exact e4
       ·rcases (show v=0∨v=1 by omega) with rfl | rfl
        ·exact i3
        ·exact i4
 ·simp only [sX,List.mem_cons,List.not_mem_nil,or_false] at hs
  rcases hs with rfl | rfl | rfl<;>rfl
 ·simp only [List.mem_cons,List.not_mem_nil,or_false] at hu
  rcases hu with rfl | rfl
  ·exact Nat.zero_le _
  ·cases w with
   | nil=>cases hw
   | cons x w=>show 1≤(x :: w).length; simp
theorem cntX:vS sX=2∧eS sX=4:=by
 have:=isX.cnt
 refine ⟨this.1.symm,?_⟩
 rw [← this.2]
 decide
end Go.Proofs.Ytneglephfhiamaa

/-
  Graphs of words: the walk of the document's example. Conditions: none.
-/
set_option linter.all false
namespace Go.Proofs.Ytneglephfhiamaa
open Go.Pv

theorem Rle.nn3l {a b c:List PV} : Rle (.nn [.nn a,.nn b,.nn c]) (.list [.list a,.list b,.list c]):=fun ok w v h=>by
 cases h with
 | nn _ k off sz vs hb hsz hc hr =>
  refine .list [.list a,.list b,.list c] k off 3 1 vs hb (by simp [PV.cells]) (by simp) (fun i hc'=>hc i (by simpa [flat,PV.cells] using hc')) fun i hcl=>?_
  have h0:=hr 0 (by simp [flat,PV.cells])
  have h1:=hr 1 (by simp [flat,PV.cells])
  have h2:=hr 2 (by simp [flat,PV.cells])
  match i,hcl with
  | 0,_=>exact Reads.nn_list h0
  | 1,_=>exact Reads.nn_list h1
  | 2,_=>exact Reads.nn_list h2
theorem ckX:ckL sX=(0,0):=rfl
theorem shX:sX.map short=sX:=rfl
theorem goodX:Good sX:=by
 refine ⟨fun w hw=>?_,by decide,by decide⟩
 simp only [sX,List.mem_cons,List.not_mem_nil,or_false] at hw
 rcases hw with rfl | rfl | rfl
 ·exact ⟨by decide,fun x hx=>by simp at hx; omega⟩
 ·exact ⟨by decide,fun x hx=>by simp at hx; omega⟩
 ·exact ⟨by decide,fun x hx=>by simp at hx; omega⟩
theorem indexX:indexS sX 2=(2,(0,0)):=by
 have h1:idxF sX 2=(0,0):=rfl
 unfold indexS
 rw [h1,shX,cntX.1,cntX.2]; rfl
theorem rankX:rankS sX=(3,(0,0)):=by
 unfold rankS
 rw [ckX,shX,cntX.1,cntX.2]; rfl
theorem lenX:sX.length≤1000000000∧∀ w∈sX,w.length≤1000000000:=⟨by decide,fun w hw=>(goodX.1 w hw).1⟩
theorem indexX_c:FnC Try.prog 24 [.nn [.nn [.int .i64 1,.int .i64 1],.nn [.int .i64 2],.nn [.int .i64 1,.int .i64 2,.int .i64 (-1)]],.int .i64 2] (.tup [.int .i64 2,fl (0,0)]):=by
 have:=index_c sX 2 lenX.1 lenX.2 (fun _=>goodX)
 rw [indexX] at this
 exact FnC.weak this ⟨Rle.nn3l,Rle.rfl,trivial⟩
theorem rankX_c:FnC Try.prog 17 [.nn [.nn [.int .i64 1,.int .i64 1],.nn [.int .i64 2],.nn [.int .i64 1,.int .i64 2,.int .i64 (-1)]]] (.tup [.int .i64 3,fl (0,0)]):=by
 have:=rank_c sX lenX.1 lenX.2 (fun _=>goodX)
 rw [rankX] at this
 exact FnC.weak this ⟨Rle.nn3l,trivial⟩

set_option maxHeartbeats 4000000 in
theorem foldBegun_c:FnC Try.prog 13 [] (.bool true):=by
 refine fnc_of tab_ok Try.func13 rfl (by kernel_rfl) (by rw [Try.ntmps13]; exact Nat.le_add_left 0 _) ?_; rw [Try.ntmps13]
 refine qm ?_
 refine hk_region fun K hK=>runs_eval tab_ok ?_
 simp only [ev0,evA,evB,evP,fl,gp,tab,simprocAttr,reduceCtorEq,reduceIte]
 refine fin_run trivial (hK _ ?_)<;>clear hK<;>clear K
 refine qa (qm ?_)
 refine hk_region fun K hK=>runs_eval tab_ok ?_
 simp only [ev0,evA,evB,evP,fl,gp,tab,simprocAttr,reduceCtorEq,reduceIte]
 refine fin_run ?_ (hK _ ?_)<;>clear hK<;>clear K
 ·(first|exact trivial|omega|(simp only [In64] at *; omega)|(simp [In64] at *; omega)|(simp_all; done)|skip)
 refine qa (qm ?_)
 refine hk_region fun K hK=>runs_eval tab_ok ?_
 simp only [ev0,evA,evB,evP,fl,gp,tab,simprocAttr,reduceCtorEq,reduceIte]
 refine fin_stop trivial (runs_call (indexX_c) rfl rfl rfl (by simp only [dstOk,Nat.reduceLT]) (by repeat (first|exact trivial|constructor)) (runs_eval tab_ok ?_))
 simp only [ev0,evA,evB,evP,fl,gp,tab,simprocAttr,reduceCtorEq,reduceIte]
 refine fin_run ?_ (hK _ ?_)<;>clear hK<;>clear K
 ·(first|exact trivial|omega|(simp only [In64] at *; omega)|(simp [In64] at *; omega)|(simp_all; done)|skip)
 refine qa (qm ?_)
 refine hk_region fun K hK=>runs_eval tab_ok ?_
 simp only [ev0,evA,evB,evP,fl,gp,tab,simprocAttr,reduceCtorEq,reduceIte]
 refine fin_stop trivial (runs_call (rankX_c) rfl rfl rfl (by simp only [dstOk,Nat.reduceLT]) (by repeat (first|exact trivial|constructor)) (runs_eval tab_ok ?_))
 simp only [ev0,evA,evB,evP,fl,gp,tab,simprocAttr,reduceCtorEq,reduceIte]
 refine fin_run ?_ (hK _ ?_)<;>clear hK<;>clear K
 ·(first|exact trivial|omega|(simp only [In64] at *; omega)|(simp [In64] at *; omega)|(simp_all; done)|skip)
 refine qa (qm ?_)
 refine hk_region fun K hK=>runs_eval tab_ok ?_
 simp only [ev0,evA,evB,evP,fl,gp,tab,simprocAttr,reduceCtorEq,reduceIte]
 refine fin_run ?_ (hK _ ?_)<;>clear hK<;>clear K
 ·(first|exact trivial|omega|(simp only [In64] at *; omega)|(simp [In64] at *; omega)|(simp_all; done)|skip)
 refine qa (qk ?_)
 simp only [Try.results13,enA,ev0,evA,evB,evP,fl,gp,tab,simprocAttr,reduceCtorEq,reduceIte]
 all_goals ((first|exact rfl|exact ⟨rfl,rfl⟩|exact ⟨rfl,rfl,rfl⟩|exact ⟨trivial,rfl⟩|exact ⟨Nat.le_refl _,rfl⟩|trivial|(simp; done)))
end Go.Proofs.Ytneglephfhiamaa

/-
  Walks: the reference's faults of words; words that are long; copies. Conditions: none.
-/
set_option linter.all false
namespace Go.Proofs.Ytneglephfhiamaa
open Go.Pv

set_option maxHeartbeats 4000000 in
theorem someWords_c (L:List (List Int)) (hl:L.length≤1000000000) (hw:∀ w∈L,w.length≤1000000000):FnC Try.prog 18 [.list (ll L)] (fl (ckL L)):=by
 refine fnc_of tab_ok Try.func18 rfl (by kernel_rfl) (by rw [Try.ntmps18]; exact Nat.le_add_left 1 _) ?_; rw [Try.ntmps18]
 refine qm ?_
 refine hk_region fun K hK=>runs_eval tab_ok ?_
 simp only [ev0,evA,evB,evP,fl,gp,tab,simprocAttr,reduceCtorEq,reduceIte]
 refine fin_run ?_ (hK _ ?_)<;>clear hK<;>clear K
 ·(first|exact trivial|omega|(simp only [In64] at *; omega)|(simp [In64] at *; omega)|(simp_all; done)|skip)
 refine qa (qm (qm ?_))
 refine hk_region fun K hK=>runs_eval tab_ok ?_
 simp only [ev0,evA,evB,evP,fl,gp,tab,simprocAttr,reduceCtorEq,reduceIte,ll_length]
 refine fin_run trivial (hK _ ?_)<;>clear hK<;>clear K
 refine qa ?_
 refine hk_cond rfl (fun hC1=>?_) (fun hC1=>?_)
 ·(try simp only [nhs] at hC1)
  have h20:20 < L.length:=by omega
  refine qm ?_
  refine hk_region fun K hK=>runs_eval tab_ok ?_
  simp only [ev0,evA,evB,evP,fl,gp,tab,simprocAttr,reduceCtorEq,reduceIte]
  refine fin_stop trivial (runs_call (f_c 2 0) rfl rfl rfl (by simp only [dstOk,Nat.reduceLT]) (by repeat (first|exact trivial|constructor)) (runs_eval tab_ok ?_))
  simp only [ev0,evA,evB,evP,fl,gp,tab,simprocAttr,reduceCtorEq,reduceIte]
  refine fin_run ?_ (hK _ ?_)<;>clear hK<;>clear K
  ·(first|exact trivial|omega|(simp only [In64] at *; omega)|(simp [In64] at *; omega)|(simp_all; done)|skip)
  refine qa (qk (qb ?_))
  simp only [Try.results18,enA,ev0,evA,evB,evP,fl,gp,tab,simprocAttr,reduceCtorEq,reduceIte]
  have e:ckL L=(2,0):=by unfold ckL; rw [if_pos (by omega)]
  rw [e]
  exact ⟨rfl,rfl⟩
 ·(try simp only [nhs] at hC1)
  have h20:¬ 20 < L.length:=by omega
  refine qh (qa (qm ?_))
  refine hk_region fun K hK=>runs_eval tab_ok ?_
  simp only [ev0,evA,evB,evP,fl,gp,tab,simprocAttr,reduceCtorEq,reduceIte]
  refine fin_run trivial (hK _ ?_)<;>clear hK<;>clear K
  refine qa (qm (qm ?_))
  refine hk_region fun K hK=>runs_eval tab_ok ?_
  simp only [ev0,evA,evB,evP,fl,gp,tab,simprocAttr,reduceCtorEq,reduceIte]
  refine fin_run trivial (hK _ ?_)<;>clear hK<;>clear K
  refine qa (ql ?_)
  refine hk_loop (ι:=Nat × Nat) (fun q=>⟨40,[(0,.p (.list (ll L))),(2,.ptr 0 0),(3,.p (.int .i64 (q.2:Nat))),(4,.p (.int .i64 (q.1:Nat)))],[.own [.p (.int .i64 0),.p (.int .i64 0)]]⟩) (fun q=>q.1≤L.length∧q.2≤2000∧ckL L=ckG (L.drop q.1) q.1 q.2) (fun q=>L.length - q.1) (0,0) ⟨Nat.zero_le _,Nat.zero_le _,by unfold ckL; rw [if_neg h20]; rfl⟩ [0] (by simp only [leq,leA,ev0,evA,evB,evP,fl,gp,tab,simprocAttr,reduceCtorEq,reduceIte]<;>trivial) fun q hq=>?_
  obtain ⟨i,n⟩:=q
  obtain ⟨q1,q2,q3⟩:=hq
  simp only at q1 q2 q3 ⊢
  refine qm (qm ?_)
  refine hk_region fun K hK=>runs_eval tab_ok ?_
  simp only [ev0,evA,evB,evP,fl,gp,tab,simprocAttr,reduceCtorEq,reduceIte,ll_length]
  refine fin_run trivial (hK _ ?_)<;>clear hK<;>clear K
  refine qa ?_
  refine hk_cond rfl (fun hC2=>?_) (fun hC2=>?_)
  ·(try simp only [nhs] at hC2)
   have hi:i < L.length:=by omega
   have hdr:L.drop i=L.getD i [] :: L.drop (i + 1):=by
    rw [List.drop_eq_getElem_cons hi,List.getD_eq_getElem?_getD,List.getElem?_eq_getElem hi]; rfl
   obtain ⟨w,hwd⟩:∃ w,L.getD i []=w:=⟨_,rfl⟩
   have hwl:w.length≤1000000000:=hw w (by rw [← hwd,List.getD_eq_getElem?_getD,List.getElem?_eq_getElem hi]; exact List.getElem_mem hi)
   rw [hdr,hwd,ckG] at q3
   refine qh (qa (qm (ql (qm ?_))))
   refine hk_region fun K hK=>runs_eval tab_ok ?_
   simp only [ev0,evA,evB,evP,fl,gp,tab,simprocAttr,reduceCtorEq,reduceIte,ll_length,ll_get hi,hwd]
   refine fin_stop ?_ (runs_call (wordFault_c w) rfl rfl rfl (by simp only [dstOk,Nat.reduceLT]) (by repeat (first|exact trivial|constructor)) (runs_eval tab_ok ?_))
   ·(first|exact trivial|omega|exact ⟨by omega,by omega⟩|trace_state)
   simp only [ev0,evA,evB,evP,fl,gp,tab,simprocAttr,reduceCtorEq,reduceIte,ll_length,ll_get hi,hwd]
   refine fin_run ?_ (hK _ ?_)<;>clear hK<;>clear K
   ·(first|exact trivial|omega|trace_state)
   refine qa (qm (qm ?_))
   refine hk_region fun K hK=>runs_eval tab_ok ?_
   simp only [ev0,evA,evB,evP,fl,gp,tab,simprocAttr,reduceCtorEq,reduceIte]
   refine fin_run ?_ (hK _ ?_)<;>clear hK<;>clear K
   ·(first|exact trivial|omega|(simp only [In64] at *; omega)|(simp [In64] at *; omega)|(simp_all; done)|skip)
   refine qa ?_
   refine hk_cond rfl (fun hC3=>?_) (fun hC3=>?_)
   ·(try simp only [nhs] at hC3)
    have h0:(check w).1 ≠ 0:=hC3
    rw [if_pos h0] at q3
    refine qm ?_
    refine hk_region fun K hK=>runs_eval tab_ok ?_
    simp only [ev0,evA,evB,evP,fl,gp,tab,simprocAttr,reduceCtorEq,reduceIte]
    refine fin_stop trivial (runs_call (f_c (check w).1 i) rfl rfl rfl (by simp only [dstOk,Nat.reduceLT]) (by repeat (first|exact trivial|constructor)) (runs_eval tab_ok ?_))
    simp only [ev0,evA,evB,evP,fl,gp,tab,simprocAttr,reduceCtorEq,reduceIte]
    refine fin_run ?_ (hK _ ?_)<;>clear hK<;>clear K
    ·(first|exact trivial|omega|(simp only [In64] at *; omega)|(simp [In64] at *; omega)|(simp_all; done)|skip)
    refine qa (qk (qb (qe (qb (qb (qe (qb ?_)))))))
    simp only [Try.results18,enA,ev0,evA,evB,evP,fl,gp,tab,simprocAttr,reduceCtorEq,reduceIte]
    all_goals (rw [q3]; exact ⟨rfl,rfl⟩)
   ·(try simp only [nhs] at hC3)
    have h0:¬ (check w).1 ≠ 0:=fun h=>h hC3
    rw [if_neg h0] at q3
    refine qh (qa (qm ?_))
    refine hk_region fun K hK=>runs_eval tab_ok ?_
    simp only [ev0,evA,evB,evP,fl,gp,tab,simprocAttr,reduceCtorEq,reduceIte,il_length,ll_length,ll_get hi,hwd]
    refine fin_run ?_ (hK _ ?_)<;>clear hK<;>clear K
    ·(first|omega|(simp only [In64]; omega)|exact ⟨by omega,by simp only [In64]; omega⟩|trace_state)
    refine qa (qm ?_)
    refine hk_region fun K hK=>runs_eval tab_ok ?_
    simp only [ev0,evA,evB,evP,fl,gp,tab,simprocAttr,reduceCtorEq,reduceIte]
    refine fin_run trivial (hK _ ?_)<;>clear hK<;>clear K
    refine qa ?_
    refine hk_cond rfl (fun hC4=>?_) (fun hC4=>?_)
    ·(try simp only [nhs] at hC4)
     have h1:2000 < n + w.length:=by omega
     rw [if_pos h1] at q3
     refine qm ?_
     refine hk_region fun K hK=>runs_eval tab_ok ?_
     simp only [ev0,evA,evB,evP,fl,gp,tab,simprocAttr,reduceCtorEq,reduceIte]
     refine fin_stop trivial (runs_call (f_c 2 i) rfl rfl rfl (by simp only [dstOk,Nat.reduceLT]) (by repeat (first|exact trivial|constructor)) (runs_eval tab_ok ?_))
     simp only [ev0,evA,evB,evP,fl,gp,tab,simprocAttr,reduceCtorEq,reduceIte]
     refine fin_run ?_ (hK _ ?_)<;>clear hK<;>clear K
     ·(first|exact trivial|omega|(simp only [In64] at *; omega)|(simp [In64] at *; omega)|(simp_all; done)|skip)
     refine qa (qk (qe (qb (qb (qe (qb ?_))))))
     simp only [Try.results18,enA,ev0,evA,evB,evP,fl,gp,tab,simprocAttr,reduceCtorEq,reduceIte]
     all_goals (rw [q3]; exact ⟨rfl,rfl⟩)
    ·(try simp only [nhs] at hC4)
     have h1:¬ 2000 < n + w.length:=by omega
     rw [if_neg h1] at q3
     refine qh (qd (qa ?_))
     refine hk_region fun K hK=>runs_eval tab_ok ?_
     simp only [ev0,evA,evB,evP,fl,gp,tab,simprocAttr,reduceCtorEq,reduceIte]
     refine fin_run ?_ (hK _ ?_)<;>clear hK<;>clear K
     ·(first|exact trivial|omega|(simp only [In64] at *; omega)|(simp [In64] at *; omega)|(simp_all; done)|skip)
     refine qa ?_
     refine ⟨(i + 1,n + w.length),[0],⟨by simp only; omega,by simp only; omega,q3⟩,by simp only; omega,?_⟩
     simp only [leq,leA,ev0,evA,evB,evP,fl,gp,tab,simprocAttr,reduceCtorEq,reduceIte]<;>first|trivial|trace_state
  ·(try simp only [nhs] at hC2)
   refine qj (qc (qc (qf (qa (qm ?_)))))
   refine hk_region fun K hK=>runs_eval tab_ok ?_
   simp only [ev0,evA,evB,evP,fl,gp,tab,simprocAttr,reduceCtorEq,reduceIte]
   refine fin_run ?_ (hK _ ?_)<;>clear hK<;>clear K
   ·(first|exact trivial|omega|(simp only [In64] at *; omega)|(simp [In64] at *; omega)|(simp_all; done)|skip)
   refine qa (qk ?_)
   simp only [Try.results18,enA,ev0,evA,evB,evP,fl,gp,tab,simprocAttr,reduceCtorEq,reduceIte]
   have hie:i=L.length:=by omega
   rw [hie,List.drop_length,ckG] at q3
   rw [q3]
   exact ⟨rfl,rfl⟩

end Go.Proofs.Ytneglephfhiamaa

/-
  Walks: words that are long; copies of lists. Conditions: none.
-/
set_option linter.all false
namespace Go.Proofs.Ytneglephfhiamaa
open Go.Pv

/-- More letters than are folded. -/
def lwS (L:List (List Int)):Bool:=decide (3000 < tot L) || decide (200 < L.length) || (decide (120 < tot L) && decide ((ckL L).1=0))

theorem tot_mem:∀ {L:List (List Int)} {w:List Int},w∈L→w.length≤tot L
 | v :: L,w,h=>by
  have e:tot (v :: L)=v.length + tot L:=by simp [tot]
  rcases List.mem_cons.1 h with rfl | h
  ·omega
  ·have:=tot_mem h; omega
set_option maxHeartbeats 4000000 in
theorem longWords_c (L:List (List Int)) (hl:L.length≤100000000000000) (hw:∀ w∈L,w.length≤100000000000000):FnC Try.prog 14 [.list (ll L)] (.bool (lwS L)):=by
 refine fnc_of tab_ok Try.func14 rfl (by kernel_rfl) (by rw [Try.ntmps14]; exact Nat.le_add_left 1 _) ?_; rw [Try.ntmps14]
 refine qm ?_
 refine hk_region fun K hK=>runs_eval tab_ok ?_
 simp only [ev0,evA,evB,evP,fl,gp,tab,simprocAttr,reduceCtorEq,reduceIte]
 refine fin_run trivial (hK _ ?_)<;>clear hK<;>clear K
 refine qa (qm ?_)
 refine hk_region fun K hK=>runs_eval tab_ok ?_
 simp only [ev0,evA,evB,evP,fl,gp,tab,simprocAttr,reduceCtorEq,reduceIte]
 refine fin_run trivial (hK _ ?_)<;>clear hK<;>clear K
 refine qa (qm (qm ?_))
 refine hk_region fun K hK=>runs_eval tab_ok ?_
 simp only [ev0,evA,evB,evP,fl,gp,tab,simprocAttr,reduceCtorEq,reduceIte]
 refine fin_run trivial (hK _ ?_)<;>clear hK<;>clear K
 refine qa (ql ?_)
 refine hk_loop (ι:=Nat) (fun i=>⟨33,[(0,.p (.list (ll L))),(3,.p (.int .i64 (tot (L.take i):Nat))),(4,.p (.int .i64 (i:Nat)))],[]⟩) (fun i=>i≤L.length∧tot (L.take i)≤3000) (fun i=>L.length - i) 0 ⟨Nat.zero_le _,by simp [tot]⟩ [] ⟨rfl,List.nodup_nil,trivial,rfl,rfl,rfl,rfl,rfl,rfl,trivial⟩ fun i hq=>?_
 obtain ⟨q1,q2⟩:=hq
 refine qm (qm ?_)
 refine hk_region fun K hK=>runs_eval tab_ok ?_
 simp only [ev0,evA,evB,evP,fl,gp,tab,simprocAttr,reduceCtorEq,reduceIte,ll_length]
 refine fin_run trivial (hK _ ?_)<;>clear hK<;>clear K
 refine qa ?_
 refine hk_cond rfl (fun hC1=>?_) (fun hC1=>?_)
 ·(try simp only [nhs] at hC1)
  have hi:i < L.length:=by omega
  have ht:tot (L.take (i + 1))=tot (L.take i) + (L.getD i []).length:=by rw [take_snoc (d:=[]) hi,tot_sn]
  have hwl:=hw (L.getD i []) (by rw [List.getD_eq_getElem?_getD,List.getElem?_eq_getElem hi]; exact List.getElem_mem hi)
  refine qh (qa (qm (ql (qm ?_))))
  refine hk_region fun K hK=>runs_eval tab_ok ?_
  simp only [ev0,evA,evB,evP,fl,gp,tab,simprocAttr,reduceCtorEq,reduceIte,ll_length,ll_get hi,il_length]
  refine fin_run ?_ (hK _ ?_)<;>clear hK<;>clear K
  ·(first|exact ⟨⟨by omega,by omega⟩,by simp only [In64]; omega⟩|exact ⟨by omega,by simp only [In64]; omega⟩|trace_state)
  refine qa (qm ?_)
  refine hk_region fun K hK=>runs_eval tab_ok ?_
  simp only [ev0,evA,evB,evP,fl,gp,tab,simprocAttr,reduceCtorEq,reduceIte]
  refine fin_run trivial (hK _ ?_)<;>clear hK<;>clear K
  refine qa ?_
  refine hk_cond rfl (fun hC2=>?_) (fun hC2=>?_)
  ·(try simp only [nhs] at hC2)
   have h3:3000 < tot L:=by
    have:=tot_tk L (i + 1)
    omega
   refine qm ?_
   refine hk_region fun K hK=>runs_eval tab_ok ?_
   simp only [ev0,evA,evB,evP,fl,gp,tab,simprocAttr,reduceCtorEq,reduceIte]
   refine fin_run trivial (hK _ ?_)<;>clear hK<;>clear K
   refine qa (qk (qe (qb (qb (qe (qb ?_))))))
   simp only [Try.results14,enA,ev0,evA,evB,evP,fl,gp,tab,simprocAttr,reduceCtorEq,reduceIte]
   all_goals (simp [lwS,h3])
  ·(try simp only [nhs] at hC2)
   refine qh (qd (qa ?_))
   refine hk_region fun K hK=>runs_eval tab_ok ?_
   simp only [ev0,evA,evB,evP,fl,gp,tab,simprocAttr,reduceCtorEq,reduceIte]
   refine fin_run ?_ (hK _ ?_)<;>clear hK<;>clear K
   ·(first|exact trivial|omega|(simp only [In64] at *; omega)|(simp [In64] at *; omega)|(simp_all; done)|skip)
   refine qa ?_
   refine ⟨i + 1,[],⟨by omega,by omega⟩,by omega,?_⟩
   rw [ht]
   simp only [leq,leA,ev0,evA,evB,evP,fl,gp,tab,simprocAttr,reduceCtorEq,reduceIte]<;>first|trivial|trace_state
 ·(try simp only [nhs] at hC1)
  have hie:i=L.length:=by omega
  rw [hie,List.take_length] at q2
  rw [hie,List.take_length]
  refine qj (qc (qc (qf (qa (qm ?_)))))
  by_cases g8a:(L.length:Int) > 200
  ·refine hk_region fun K hK=>runs_eval tab_ok ?_
   simp only [ev0,evA,evB,evP,fl,gp,tab,simprocAttr,reduceCtorEq,reduceIte,ll_length,decide_eq_true g8a]
   refine fin_run trivial (hK _ ?_)<;>clear hK<;>clear K
   refine qa (qk ?_)
   simp only [Try.results14,enA,ev0,evA,evB,evP,fl,gp,tab,simprocAttr,reduceCtorEq,reduceIte]
   have h1:200 < L.length:=by omega
   simp [lwS,h1]
  ·by_cases g8b:(tot L:Int) > 120
   ·refine hk_region fun K hK=>runs_eval tab_ok ?_
    simp only [ev0,evA,evB,evP,fl,gp,tab,simprocAttr,reduceCtorEq,reduceIte,ll_length,decide_eq_false g8a,decide_eq_true g8b]
    refine fin_stop trivial (runs_call (someWords_c L (by omega) (fun w hw=>by have:=tot_mem hw; omega)) rfl rfl rfl (by simp only [dstOk,Nat.reduceLT]) (by repeat (first|exact trivial|constructor)) (runs_eval tab_ok ?_))
    simp only [ev0,evA,evB,evP,fl,gp,tab,simprocAttr,reduceCtorEq,reduceIte,ll_length,decide_eq_false g8a,decide_eq_true g8b]
    refine fin_run trivial (hK _ ?_)<;>clear hK<;>clear K
    refine qa (qk ?_)
    simp only [Try.results14,enA,ev0,evA,evB,evP,fl,gp,tab,simprocAttr,reduceCtorEq,reduceIte]
    have h1:¬ 200 < L.length:=by omega
    have h2:120 < tot L:=by omega
    have h3:¬ 3000 < tot L:=by omega
    simp [lwS,h1,h2,h3]
   ·refine hk_region fun K hK=>runs_eval tab_ok ?_
    simp only [ev0,evA,evB,evP,fl,gp,tab,simprocAttr,reduceCtorEq,reduceIte,ll_length,decide_eq_false g8a,decide_eq_false g8b]
    refine fin_run trivial (hK _ ?_)<;>clear hK<;>clear K
    refine qa (qk ?_)
    simp only [Try.results14,enA,ev0,evA,evB,evP,fl,gp,tab,simprocAttr,reduceCtorEq,reduceIte]
    have h1:¬ 200 < L.length:=by omega
    have h2:¬ 120 < tot L:=by omega
    have h3:¬ 3000 < tot L:=by omega
    simp [lwS,h1,h2,h3]
end Go.Proofs.Ytneglephfhiamaa

/-
  Arguments of a law, opened: rows of rows of numbers. Conditions: none; a library text.
-/
set_option linter.all false
namespace Go.Pv
open Go.RowKit Go.ChangeShapes Go.WideShapes Go.ChangeAt

section
variable {H:Type} {enc:TypeId × Value→H} {P:Program}
theorem weightsAll_mem {e:TypeId} {f:Nat→Bool} : ∀ {l:List (DataW H)},(DataW.weightsAll P e l).all f=true→∀ d∈l,(d.weights P e).all f=true
 | [],_,d,hd=>by simp at hd
 | x :: r,h,d,hd=>by
  simp only [DataW.weightsAll,List.all_append,Bool.and_eq_true] at h
  rcases List.mem_cons.1 hd with rfl | hd
  ·exact h.1
  ·exact weightsAll_mem h.2 d hd

theorem wcells_one {W:World} {base:Nat} {a:Addr} {u:Value} (h:W.cells? base a 1=some [u]):W.cell? a=some u:=by
 unfold World.cells? at h
 split at h
 ·simp only [List.range_succ,List.range_zero,List.nil_append,List.mapM_cons,List.mapM_nil,Option.bind_eq_bind,Option.pure_def,Option.bind_eq_some_iff] at h
  obtain ⟨v,hv,l,hl,e⟩:=h
  simp only [Option.some.injEq] at hl e
  subst hl
  simp only [List.cons.injEq,and_true] at e
  subst e
  have:a.add 0=a:=by cases a; simp [Addr.add]
  rwa [this] at hv
 ·cases h

theorem open_ll {t e ti:TypeId} {W:World} {base:Nat} {v:Value} {d:DataW H} {p:List MemPlace} (ht:P.underlying t=some (.slice e)) (he:P.underlying e=some (.slice ti)) (hti:P.underlying ti=some (.int .i64)) (hce:P.cellsOf e=1) (hc:P.cellsOf ti=1)
  (hbe:P.bytesOf e=24) (hby:P.bytesOf ti=8) (hval:Value.okWide P W .any base t v) (h:DataW.Trod enc P W 0 (fun _=>true) true t v d p) (hw:(d.weights P t).all (·≤reachBytes)=true) :
  ∃ ls:List (List Int),(∀ w∈ls,w.length≤17592186043904)∧ls.length≤17592186043904∧Reads (fun b=>b < W.heap.size) W (.list (ll ls)) v:=by
 obtain ⟨a0,len0,cap0,rfl⟩:=okWide_slice ht hval
 obtain ⟨fuel,hf⟩:=h
 rcases DataW.trod_slice ht hf with ⟨hcs,hx⟩ | ⟨a,len,cap,elems,rest,n,_,hcs,hx,hb,hle,hmax,hlen,hel,_,_⟩
 ·simp [Value.cells] at hcs
  obtain ⟨rfl,rfl,rfl⟩:=hcs
  exact ⟨[],fun x hx=>by simp at hx,Nat.zero_le _,.list0 none 0 fun _=>rfl⟩
 ·simp [Value.cells] at hcs
  obtain ⟨rfl,rfl,rfl⟩:=hcs
  simp only [Prod.mk.injEq] at hx
  obtain ⟨rfl,rfl⟩:=hx
  simp only [DataW.weights,ht,hbe,List.all_cons,List.all_append,Bool.and_eq_true,decide_eq_true_eq,List.length_map] at hw
  obtain ⟨hw1,hw2,_⟩:=hw
  unfold reachBytes at hw1
  have each:∀ i,∃ xs:List Int,∃ u:Value,i < len0→W.cell? (a.add i)=some u∧xs.length≤17592186043904∧Reads (fun b=>b < W.heap.size) W (.list (il xs)) u:=by
   intro i
   by_cases hi:i < len0
   ·have h1:=hel i hi
    rw [hce,Nat.mul_one,List.getElem?_eq_getElem (show i < elems.length by omega)] at h1
    obtain ⟨cs,hcs,htr⟩:=Option.bind_eq_some_iff.1 h1
    have hwi:=weightsAll_mem hw2 (elems[i]'(by omega)).1 (List.mem_map.2 ⟨_,List.getElem_mem _,rfl⟩)
    obtain ⟨xs,u,rfl,_,g2,g3⟩:=il_of_trod he hti hc hby htr hwi
    exact ⟨xs,u,fun _=>⟨wcells_one hcs,g2,g3⟩⟩
   ·exact ⟨[],undef,fun h=>absurd h hi⟩
  obtain ⟨fx,hfx⟩:=Classical.skolem.1 each
  obtain ⟨fu,hfu⟩:=Classical.skolem.1 hfx
  refine ⟨(List.range len0).map fx,fun w hw=>?_,by rw [List.length_map,List.length_range]; omega,?_⟩
  ·obtain ⟨i,hi,rfl⟩:=List.mem_map.1 hw
   exact (hfu i (List.mem_range.1 hi)).2.1
  ·have hlen' : (ll ((List.range len0).map fx)).length=len0:=by rw [ll_length,List.length_map,List.length_range]
   by_cases h0:len0=0
   ·subst h0
    exact .list0 _ _ fun h=>by cases h
   ·obtain ⟨b,off,spot⟩:=a
    have hspot:spot=none:=by simpa [Addr.add] using World.cell?_spot (hfu 0 (by omega)).1
    subst hspot
    have hone:∀ x∈ll ((List.range len0).map fx),x.cells.length=1:=by
     intro x hx
     obtain ⟨y,_,rfl⟩:=List.mem_map.1 hx
     rfl
    have hfl:flat (ll ((List.range len0).map fx))=ll ((List.range len0).map fx):=flat_all_one (ll_all _)
    have hcell' : ∀ c,c < len0→W.cell? ⟨b,off + c,none⟩=some (fu c):=fun c hc=>by rw [← Go.WideShapes.add_plain]; exact (hfu c hc).1
    have:=Reads.list (ok:=fun b=>b < W.heap.size) (w:=W) (ll ((List.range len0).map fx)) b off cap0 1 fu ?_ hone (by rw [hlen']; exact hle) (fun c hcl=>?_) (fun c hcl=>?_)
    ·rwa [hlen'] at this
    ·have:=hcell' 0 (by omega)
     simp only [World.cell?] at this
     by_cases hb:b < W.heap.size
     ·exact hb
     ·rw [Array.getElem?_eq_none (by omega)] at this
      simp at this
    ·rw [hfl,hlen'] at hcl
     exact hcell' c hcl
    ·simp only [hfl]
     have hcl2:c < len0:=by rw [hfl,hlen'] at hcl; exact hcl
     have e:(ll ((List.range len0).map fx))[c]'(by rw [hlen']; exact hcl2) = .list (il (fx c)):=by
      simp [ll]
     rw [e]
     exact (hfu c hcl2).2.2
end
end Go.Pv

/-
  Laws of folding: what is no longer than is folded here. Conditions: none.
-/
set_option linter.all false
namespace Go.Proofs.Ytneglephfhiamaa
open Go.Pv

theorem lw_no {L:List (List Int)} (h:lwS L=false):L.length≤200∧tot L≤3000∧(120 < tot L→(ckL L).1 ≠ 0):=by
 unfold lwS at h
 simp only [Bool.or_eq_false_iff,Bool.and_eq_false_iff,decide_eq_false_iff_not] at h
 obtain ⟨⟨h1,h2⟩,h3⟩:=h
 exact ⟨by omega,by omega,fun h4=>h3.resolve_left fun h5=>h5 h4⟩
theorem lw_len {L:List (List Int)} (h:lwS L=false):L.length≤1000000000∧∀ w∈L,w.length≤1000000000:=by
 obtain ⟨h1,h2,_⟩:=lw_no h
 exact ⟨by omega,fun w hw=>by have:=tot_mem hw; omega⟩
theorem ckG_ok:∀ (L:List (List Int)) (i n:Nat),(ckG L i n).1=0→(∀ w∈L,Ok w∧w.length≤2000)∧(L ≠ []→n + tot L≤2000)∧ckG L i n=(0,0)
 | [],i,n,_=>⟨fun w hw=>(by cases hw),fun h=>absurd rfl h,rfl⟩
 | w :: r,i,n,h=>by
  unfold ckG at h ⊢
  by_cases h1:(check w).1 ≠ 0
  ·rw [if_pos h1] at h; exact absurd h h1
  ·rw [if_neg h1] at h ⊢
   by_cases h2:2000 < n + w.length
   ·rw [if_pos h2] at h; cases h
   ·rw [if_neg h2] at h ⊢
    obtain ⟨a1,a2,a3⟩:=ckG_ok r (i + 1) (n + w.length) h
    have hw:=check_ok (Classical.not_not.1 h1)
    refine ⟨fun v hv=>?_,fun _=>?_,a3⟩
    ·rcases List.mem_cons.1 hv with rfl | hv
     ·exact hw
     ·exact a1 v hv
    ·rw [tot_cons]
     by_cases hr:r=[]
     ·subst hr; simp [tot]; omega
     ·have:=a2 hr; omega
theorem ckL_ok {L:List (List Int)} (h:(ckL L).1=0):L.length≤20∧(∀ w∈L,Ok w∧w.length≤2000)∧tot L≤2000∧ckL L=(0,0):=by
 unfold ckL at h ⊢
 by_cases h1:20 < L.length
 ·rw [if_pos h1] at h; cases h
 ·rw [if_neg h1] at h ⊢
  obtain ⟨a1,a2,a3⟩:=ckG_ok L 0 0 h
  refine ⟨by omega,a1,?_,a3⟩
  by_cases hL:L=[]
  ·subst hL; simp [tot]
  ·have:=a2 hL; omega
theorem tot_short:∀ L:List (List Int),tot (L.map short)≤tot L
 | []=>Nat.le_refl _
 | w :: L=>by
  rw [List.map_cons,tot_cons,tot_cons]
  have:=short_len w
  have:=tot_short L
  omega
theorem ckL_good {L:List (List Int)} (h:(ckL L).1=0):Good L:=by
 obtain ⟨h1,h2,h3,_⟩:=ckL_ok h
 refine ⟨fun w hw=>⟨by have:=(h2 w hw).2; omega,(h2 w hw).1⟩,by omega,?_⟩
 have:=tot_short L
 omega
theorem ckL_fold {L:List (List Int)} (h:(ckL L).1=0):(∀ w∈L,Ok w∧w.length≤1000000000)∧L.length≤1000000∧tot (L.map short)≤90000:=by
 obtain ⟨h1,h2,h3,_⟩:=ckL_ok h
 have:=tot_short L
 exact ⟨fun w hw=>⟨(h2 w hw).1,by have:=(h2 w hw).2; omega⟩,by omega,by omega⟩
end Go.Proofs.Ytneglephfhiamaa

/-
  The law FoldBases. Conditions: none.
-/
set_option linter.all false
namespace Go.Proofs.Ytneglephfhiamaa
open Go.Pv

theorem ckG_mk:∀ (L:List (List Int)) (i n:Nat),(∀ w∈L,Ok w)→n + tot L≤2000→ckG L i n=(0,0)
 | [],_,_,_,_=>rfl
 | w :: r,i,n,h,ht=>by
  rw [tot_cons] at ht
  unfold ckG
  have hw:check w=(0,0):=ok_check (h w (by simp)) (by omega)
  rw [hw,if_neg (by simp),if_neg (by omega)]
  exact ckG_mk r (i + 1) (n + w.length) (fun v hv=>h v (by simp [hv])) (by omega)
theorem ckL_mk {L:List (List Int)} (hl:L.length≤20) (h:∀ w∈L,Ok w) (ht:tot L≤2000):ckL L=(0,0):=by
 unfold ckL
 rw [if_neg (by omega)]
 exact ckG_mk L 0 0 h (by omega)
theorem rankS_2 (l:List (List Int)):(rankS l).2=ckL l:=by
 unfold rankS
 by_cases h:(ckL l).1=0
 ·rw [if_neg (fun h2=>h2 h),(ckL_ok h).2.2.2]
 ·rw [if_pos h]
/-- The basis of words that may be folded. -/
structure BasF (l b:List (List Int)):Prop where
 len:b.length≤20
 ok:∀ w∈b,Ok w∧Red w∧w ≠ []
 tot:tot b≤2000
 rank:(b.length:Int)=(eS (l.map short):Int) - vS (l.map short) + 1
 to:∀ w∈b,Mem (l.map short) w
 fro:∀ w,Mem (l.map short) w→Red w→Mem b w
theorem BasF.short {l b:List (List Int)} (h:BasF l b):b.map Go.Proofs.Ytneglephfhiamaa.short=b:=by
 have:=List.map_congr_left (f:=Go.Proofs.Ytneglephfhiamaa.short) (g:=id) (l:=b) fun w hw=>short_red (h.ok w hw).2.1
 rw [this,List.map_id]
end Go.Proofs.Ytneglephfhiamaa

/-
  Each connected graph has a tree; conjugated subgroups have the same rank and index. Conditions: none.
-/
set_option linter.all false
namespace Go.Proofs.Ytneglephfhiamaa
open Go.Pv

/-- A part of a tree. -/
structure PT (step:Nat→Int→Option Nat) (lst0 lst:List Nat) (f:Wy):Prop where
 nd:lst.Nodup
 sub:∀ u∈lst,u∈lst0
 hd:lst.head? = some 0
 dom:∀ z:Int,(f z).isSome=true↔∃ u∈lst,(u:Int)=z
 zero:f 0=some []
 tree:∀ j,j < lst.length→0 < j→∃ i x l,i < j∧f (lst.getD i 0:Nat)=some l∧f (lst.getD j 0:Nat)=some (l++[x])∧step (lst.getD i 0) x=some (lst.getD j 0)
section
variable {step:Nat→Int→Option Nat} {lst0 lst:List Nat} {f:Wy}
theorem pt_zero (h:0∈lst0):PT step lst0 [0] (updW (fun _=>none) 0 []):=by
 refine ⟨by simp,fun u hu=>?_,rfl,fun z=>?_,rfl,fun j h1 h2=>?_⟩
 ·rw [List.mem_singleton] at hu; subst hu; exact h
 ·unfold updW
  by_cases e:z=0
  ·subst e; simp
  ·rw [if_neg e]
   simp only [Option.isSome_none,Bool.false_eq_true,List.mem_singleton,exists_eq_left,false_iff]
   intro h; exact e (by rw [← h]; rfl)
 ·simp only [List.length_singleton] at h1; omega
theorem PT.snoc (h : PT step lst0 lst f) {u v : Nat} {x : Int} (hu : u ∈ lst) (hv : v ∈ lst0) (hn : v ∉ lst) (hs : step u x = some v) : PT step lst0 (lst ++ [v]) (updW f v (wy f u ++ [x])) := by
  have old : ∀ w ∈ lst, updW f v (wy f u ++ [x]) (w : Nat) = f w := fun w hw => by
    unfold updW
    rw [if_neg fun e => hn (by have : w = v := by omega
                               rw [← this]; exact hw)]
  have fu : f (u : Int) = some (wy f u) := by
    obtain ⟨l, hl⟩ := Option.isSome_iff_exists.1 ((h.dom u).2 ⟨u, hu, rfl⟩)
    unfold wy; rw [hl]; rfl
  have h0 : (0 : Nat) ∈ lst := List.mem_of_mem_head? (by rw [h.hd]; rfl)
  refine ⟨?_, fun w hw => ?_, ?_, fun z => ?_, ?_, fun j h1 h2 => ?_⟩
  · rw [List.nodup_append]
    exact ⟨h.nd, by simp, fun a ha b hb => by rw [List.mem_singleton] at hb; subst hb; exact fun e => hn (e ▸ ha)⟩
  · rcases List.mem_append.1 hw with hw | hw
    · exact h.sub w hw
    · rw [List.mem_singleton] at hw; subst hw; exact hv
  · have := h.hd
    cases lst with
    | nil => cases this
    | cons a r => exact this
  · unfold updW
    by_cases e : z = (v : Int)
    · rw [if_pos e]
      simp only [Option.isSome_some, List.mem_append, List.mem_singleton, true_iff]
      exact ⟨v, .inr rfl, e.symm⟩
    · rw [if_neg e, h.dom z]
      constructor
      · rintro ⟨w, hw, hz⟩; exact ⟨w, List.mem_append_left _ hw, hz⟩
      · rintro ⟨w, hw, hz⟩
        rcases List.mem_append.1 hw with hw | hw
        · exact ⟨w, hw, hz⟩
        · rw [List.mem_singleton] at hw; subst hw; exact absurd hz.symm e
  · have := old 0 h0
    rw [show ((0 : Nat) : Int) = 0 from rfl] at this
    rw [this]; exact h.zero
  · rw [List.length_append, List.length_singleton] at h1
    by_cases hj : j < lst.length
    · obtain ⟨i', x', l', a1, a2, a3, a4⟩ := h.tree j hj h2
      refine ⟨i', x', l', a1, ?_, ?_, ?_⟩
      · rw [snoc_getD (by omega), old _ (mem_ix (by omega))]; exact a2
      · rw [snoc_getD hj, old _ (mem_ix hj)]; exact a3
      · rw [snoc_getD hj, snoc_getD (by omega)]; exact a4
    · obtain rfl : j = lst.length := by omega
      obtain ⟨i, hi, e⟩ := ix_of hu
      have ev : (lst ++ [v]).getD lst.length 0 = v := by simp
      refine ⟨i, x, wy f u, hi, ?_, ?_, ?_⟩
      · rw [snoc_getD hi, e, old _ hu]; exact fu
      · rw [ev]; unfold updW; rw [if_pos rfl]
      · rw [ev, snoc_getD hi, e]; exact hs
theorem PT.grow (c:CG step lst0):∀ (n:Nat) (lst:List Nat) (f:Wy),PT step lst0 lst f→lst0.length - lst.length≤n→∃ lst' f',PT step lst0 lst' f'∧∀ u∈lst',∀ x v,step u x=some v→v∈lst'
 | n,lst,f,h,hn=>by
  by_cases hc:∀ u∈lst,∀ x v,step u x=some v→v∈lst
  ·exact ⟨lst,f,h,hc⟩
  ·have:∃ u x v,u∈lst∧step u x=some v∧v ∉ lst:=by
    refine Classical.byContradiction fun hno=>hc fun u hu x v hs=>Classical.byContradiction fun hv=>hno ⟨u,x,v,hu,hs,hv⟩
   obtain ⟨u,x,v,hu,hs,hv⟩:=this
   have hv0:=c.cl u (h.sub u hu) x v hs
   have h2:=h.snoc hu hv0 hv hs
   have hlt:=nd_le h2.nd h2.sub
   rw [List.length_append,List.length_singleton] at hlt
   cases n with
   | zero=>omega
   | succ n=>exact PT.grow c n _ _ h2 (by rw [List.length_append,List.length_singleton]; omega)
theorem isC_gt {S:List (List Int)} (h:IsC S step lst0):∃ lst f,GT step lst f∧IsC S step lst:=by
 obtain ⟨lst,f,p,hcl⟩:=PT.grow h.cg _ [0] _ (pt_zero h.cg.m0) (Nat.le_refl _)
 have g:GT step lst f:=⟨h.cg.inv,p.nd,p.hd,p.dom,p.zero,p.tree,hcl,fun u hu=>h.cg.lt u (p.sub u hu)⟩
 refine ⟨lst,f,g,g.cg,fun X st x0 hi hc=>?_,h.cl⟩
 obtain ⟨κ,k1,k2⟩:=h.uni X st x0 hi hc
 exact ⟨κ,k1,fun u hu=>k2 u (p.sub u hu)⟩
end
theorem ckL_isC {l:List (List Int)} (h0:(ckL l).1=0):∃ st lst f,GT st lst f∧IsC (l.map short) st lst:=by
 obtain ⟨f1,f2,f3⟩:=ckL_fold h0
 obtain ⟨s1,s2,s3⟩:=folded_spec fun v hv=>(f1 v hv).1
 obtain ⟨c,u,cl,_⟩:=fc_cg s1 s2 s3
 obtain ⟨lst,f,g,hc⟩:=isC_gt (IsC.mk c u cl)
 exact ⟨_,lst,f,g,hc⟩
/-- The words, conjugated. -/
def cjS (l:List (List Int)) (w:List Int):List (List Int):=l.map fun x=>short (back w++x++w)
theorem cjS_short (l:List (List Int)) (w:List Int):(cjS l w).map short=cjS (l.map short) w:=by
 unfold cjS
 rw [List.map_map,List.map_map]
 refine List.map_congr_left fun x _=>?_
 show short (short (back w++x++w))=short (back w++short x++w)
 rw [short_short,short_mid]
theorem cj_back {s w:List Int} (hs:Red s):short (back (back w)++short (back w++s++w)++back w)=s:=by
 rw [back_back,short_mid]
 have e:w++(back w++s++w)++back w=(w++back w)++s++(w++back w):=by simp [List.append_assoc]
 rw [e,← short_right,short_inv,List.append_nil,← short_left,short_inv,List.nil_append,short_red hs]
section
variable {l:List (List Int)} {w:List Int}
theorem cj_rank (h0:(ckL l).1=0) (hc:(ckL (cjS l w)).1=0) (hw:Nz w):(rankS l).1=(rankS (cjS l w)).1:=by
 obtain ⟨st,lst,f,g,hi⟩:=ckL_isC h0
 obtain ⟨st',lst',f',g',hi'⟩:=ckL_isC hc
 rw [cjS_short] at hi'
 have hL:=lang_of hi.cg hi.uni hi.cl
 have hL':=lang_of hi'.cg hi'.uni hi'.cl
 have hS:∀ s∈l.map short,Nz s:=fun s hs=>by
  obtain ⟨v,hv,rfl⟩:=List.mem_map.1 hs
  exact (((ckL_ok h0).2.1 v hv).1.short).nz
 have hS' : ∀ s∈cjS (l.map short) w,Nz s:=fun s hs=>by
  obtain ⟨v,hv,rfl⟩:=List.mem_map.1 hs
  exact ((hw.back.app (hS v hv)).app hw).short
 have a1:∀ s∈l.map short,short (back w++s++w)∈cjS (l.map short) w:=fun s hs=>List.mem_map.2 ⟨s,hs,rfl⟩
 have a2:∀ s'∈cjS (l.map short) w,∃ s∈l.map short,s' = short (back w++s++w):=fun s' hs=>by
  obtain ⟨s,h1,h2⟩:=List.mem_map.1 hs
  exact ⟨s,h1,h2.symm⟩
 have b1:∀ s∈cjS (l.map short) w,short (back (back w)++s++back w)∈l.map short:=fun s' hs=>by
  obtain ⟨s,h1,rfl⟩:=List.mem_map.1 hs
  obtain ⟨v,hv,rfl⟩:=List.mem_map.1 h1
  rw [cj_back (red_short v)]; exact h1
 have b2:∀ s'∈l.map short,∃ s∈cjS (l.map short) w,s' = short (back (back w)++s++back w):=fun s' hs=>by
  refine ⟨_,a1 s' hs,?_⟩
  obtain ⟨v,hv,rfl⟩:=List.mem_map.1 hs
  rw [cj_back (red_short v)]
 have r1:=conj_rank g g' hS hw a1 a2 hL hL'
 have r2:=conj_rank g' g hS' hw.back b1 b2 hL' hL
 have e1:=basS_len g
 have e2:=basS_len g'
 have c1:=hi.cnt
 have c2:=hi'.cnt
 unfold rankS
 rw [if_neg (fun h=>h h0),if_neg (fun h=>h hc),cjS_short]
 simp only
 rw [← c1.1,← c1.2,← c2.1,← c2.2]
 omega
theorem cj_index {n:Int} (hn:(idxF l n).1=0) (hn' : (idxF (cjS l w) n).1=0) (hw:Nz w):(indexS l n).1=(indexS (cjS l w) n).1:=by
 have fz:∀ {l:List (List Int)},(idxF l n).1=0→(ckL l).1=0∧¬ (n < 1∨26 < n)∧∀ s∈l.map short,∀ x∈s,-n≤x∧x≤n:=fun {l} h=>by
  have h0:(ckL l).1=0:=by
   by_cases h0:(ckL l).1=0
   ·exact h0
   ·unfold idxF at h; rw [if_pos h0] at h; exact absurd h h0
  have hr:¬ (n < 1∨26 < n):=fun hr=>by
   unfold idxF at h
   rw [if_neg (fun h2=>h2 h0),if_pos hr] at h
   cases h
  refine ⟨h0,hr,fun s hs x hx=>?_⟩
  obtain ⟨v,hv,rfl⟩:=List.mem_map.1 hs
  unfold idxF at h
  rw [if_neg (fun h2=>h2 h0),if_neg hr] at h
  unfold badF at h
  split at h
  ·cases h
  ·rename_i hf
   have hlen:l.findIdx (badW n)=l.length:=Nat.le_antisymm List.findIdx_le_length (by omega)
   have hb:=(List.findIdx_eq_length.1 hlen) v hv
   unfold badW at hb
   rw [List.any_eq_false] at hb
   have:=hb x hx
   have h3:max x (-x)≤n:=by simpa using this
   omega
 obtain ⟨h0,hr,hb⟩:=fz hn
 obtain ⟨hc,_,hb'⟩:=fz hn'
 obtain ⟨m,rfl⟩:=Int.eq_ofNat_of_zero_le (show 0≤n by omega)
 obtain ⟨st,lst,f,g,hi⟩:=ckL_isC h0
 obtain ⟨st',lst',f',g',hi'⟩:=ckL_isC hc
 rw [cjS_short] at hi' hb'
 have hL:=lang_of hi.cg hi.uni hi.cl
 have hL':=lang_of hi'.cg hi'.uni hi'.cl
 have hS:∀ s∈l.map short,Nz s:=fun s hs=>by
  obtain ⟨v,hv,rfl⟩:=List.mem_map.1 hs
  exact (((ckL_ok h0).2.1 v hv).1.short).nz
 have hS' : ∀ s∈cjS (l.map short) w,Nz s:=fun s hs=>by
  obtain ⟨v,hv,rfl⟩:=List.mem_map.1 hs
  exact ((hw.back.app (hS v hv)).app hw).short
 have a1:∀ s∈l.map short,short (back w++s++w)∈cjS (l.map short) w:=fun s hs=>List.mem_map.2 ⟨s,hs,rfl⟩
 have a2:∀ s'∈cjS (l.map short) w,∃ s∈l.map short,s' = short (back w++s++w):=fun s' hs=>by
  obtain ⟨s,h1,h2⟩:=List.mem_map.1 hs
  exact ⟨s,h1,h2.symm⟩
 have b1:∀ s∈cjS (l.map short) w,short (back (back w)++s++back w)∈l.map short:=fun s' hs=>by
  obtain ⟨s,h1,rfl⟩:=List.mem_map.1 hs
  obtain ⟨v,hv,rfl⟩:=List.mem_map.1 h1
  rw [cj_back (red_short v)]; exact h1
 have b2:∀ s'∈l.map short,∃ s∈cjS (l.map short) w,s' = short (back (back w)++s++back w):=fun s' hs=>by
  refine ⟨_,a1 s' hs,?_⟩
  obtain ⟨v,hv,rfl⟩:=List.mem_map.1 hs
  rw [cj_back (red_short v)]
 have t1:=uni_ltn hi.cg hi.uni hb
 have t2:=uni_ltn hi'.cg hi'.uni hb'
 have c1:=hi.cnt
 have c2:=hi'.cnt
 have u1:=g.full_iff t1
 have u2:=g'.full_iff t2
 rw [c1.1,c1.2] at u1
 rw [c2.1,c2.2] at u2
 have f1:=conj_full g g' hS hw a1 a2 hL hL' (by omega) t1 t2
 have f2:=conj_full g' g hS' hw.back b1 b2 hL' hL (by omega) t2 t1
 rw [c1.1,c2.1] at f1 f2
 unfold indexS
 simp only [Int.toNat_natCast]
 rw [if_neg (show ¬ (idxF l m).1 ≠ 0 from fun q=>q hn),if_neg (show ¬ (idxF (cjS l w) m).1 ≠ 0 from fun q=>q hn'),cjS_short]
 by_cases hE:eS (l.map short)=m * vS (l.map short)
 ·obtain ⟨x1,x2⟩:=f1 (u1.2 hE)
  obtain ⟨_,x3⟩:=f2 x1
  rw [if_pos hE,if_pos (u2.1 x1)]
  omega
 ·rw [if_neg hE,if_neg (show ¬ eS (cjS (l.map short) w)=m * vS (cjS (l.map short) w) from fun q=>hE (u1.1 (f2 (u2.2 q)).1))]
end
end Go.Proofs.Ytneglephfhiamaa

/-
  The law FoldMoves. Conditions: none.
-/
set_option linter.all false
namespace Go.Pv
open Go.RowKit
section
variable {P:Program} {T:TypeId→Option TI} {s:St}
theorem appendNnL0_does (hT:∀ t ti,T t=some ti→tiOf P t=some ti) {o:Oper} {t:TypeId} {x y:Operand} (ho:o.op = .call { callee:=.builtin .append,args:=#[x,y],argTypes:=#[t,t] }) {ti te:TI} (ht:T t=some ti) {e:TypeId} (hk:ti.kind = .slice e) (hte:T e=some te) (hsz:te.size=1)
  {l:List PV} (hx:s.ev x = .p (.nn l)) (hy:s.ev y = .p (.list [])):DoesW P o s (.p (.nn l)) s.H:=by
 intro C m a w K Q R hK
 obtain ⟨dst,op,type,pos,after,guard⟩:=o
 simp only at ho
 subst ho
 have hu:=ti_slice (hT _ _ ht) hk
 obtain ⟨i,d,z,h1,h2,h3,h4,h5,h6,h7,h8⟩:=tiOf_parts (hT _ _ hte)
 have h:=R.ev x
 rw [hx] at h
 have hl:=h.p_inv
 obtain ⟨ad,hv⟩:∃ ad,a.eval x = .slice (some ad) l.length l.length:=by
  generalize a.eval x=v at hl
  rcases hl.nn_inv with ⟨rfl,ad,rfl⟩ | ⟨b,off,sz,vs,rfl,_⟩
  ·exact ⟨ad,rfl⟩
  ·exact ⟨_,rfl⟩
 have hy':=R.ev y
 rw [hy] at hy'
 have hy':=hy'.p_inv
 obtain ⟨ad2,cap2,hv2⟩:∃ ad2 cap2,a.eval y = .slice ad2 0 cap2:=by
  obtain ⟨ad,cap,e,_⟩:=hy'.list_len
  exact ⟨ad,cap,e⟩
 have hr:=append_nothing (P:=P) (w:=w) type hu h1 (by rw [h4,hsz]) (ad:=some ad) (n:=l.length) (cap:=l.length) (x:=.slice ad2 0 cap2) src_nil (Nat.le_refl _)
 have hrun:(execOp a.eval { dst:=dst,op:=.call { callee:=.builtin .append,args:=#[x,y],argTypes:=#[t,t] },type:=type,pos:=pos,after:=after,guard:=guard }).run P w = .ok (.value (.slice (some ad) l.length l.length)) w:=by
  simp only [BigFrame.execOp_builtin,BigFrame.builtin_append,List.map_toArray,List.map_cons,List.map_nil,hv,hv2,Sem.run_bind,hr,Result.andThen_ok,Sem.run_pure]
 refine opR_of_wp (by first|rfl|(rw [ho]; rfl)) ?_
 unfold Oper.wp
 rw [hrun]
 rw [hv] at hl
 exact hK _ m w R (.p _ _ hl)
end
section
variable {P:Program} {s:St}
/-- A slot is read more weakly. -/
theorem hk_rle {c:Code} {Q:Exit→St→Prop} (t:Nat) {a b:PV} (hs:s.get t = .p a) (hr:∀ (ok:Nat→Prop) (w:World) (v:Value),Reads ok w a v→Reads ok w b v) (h:Holds P c Q { s with sl:=(t,.p b) :: s.sl }):Holds P c Q s:=by
 intro r ds C m tmps w R hd
 have hv:=R.slot t
 rw [hs] at hv
 have hv:=hr _ _ _ hv.p_inv
 refine h r ds C m tmps w ⟨R.laid,R.below,R.base,R.size,R.inj,R.blk,R.fro,fun t'=>?_,R.mp⟩ hd
 by_cases e:t=t'
 ·subst e
  have e2:({ s with sl:=(t,.p b) :: s.sl } : St).get t = .p b:=by simp [St.get,lk]
  rw [e2]
  exact .p _ _ hv
 ·have e2:({ s with sl:=(t,.p b) :: s.sl } : St).get t' = s.get t':=by simp [St.get,lk,show (t == t')=false by simpa using e]
  rw [e2]
  exact R.slot t'
/-- Two arms that come together again. -/
theorem hk_join {x y:Code} {Q Q2:Exit→St→Prop} (S:St) (h1:Holds P x (fun e s'=>e = .normal∧∀ (c:Code) (Q:Exit→St→Prop),Holds P c Q S→Holds P c Q s') s) (h2:Thn (Holds P y Q2) Q .normal S):Holds P x (Thn (Holds P y Q2) Q) s:=by
 refine hk_mono (fun e s' h=>?_) h1
 obtain ⟨rfl,h⟩:=h
 exact h _ _ h2
end
end Go.Pv
namespace Go.Proofs.Ytneglephfhiamaa
open Go.Pv

/-- The list after the moves. -/
def mvS (x y:List Int) (r:List (List Int)):List (List Int):=short (x++y) :: short (back y) :: r
theorem mv_sides {x y:List Int} {r:List (List Int)} (hx:Nz x) (hy:Nz y) (hr:∀ v∈r,Nz v):inB (x :: y :: r) (mvS x y r)=true∧inB (mvS x y r) (x :: y :: r)=true∧memB (x :: y :: r) (short (x++x))=true:=by
 have g1:∀ {l:List (List Int)} {v:List Int},v∈l→Nz v→MemT (l.map short) v:=fun {l v} h hv=>MemT.unshort hv (MemT.of (List.mem_map.2 ⟨v,h,rfl⟩))
 have g2:∀ {S:List (List Int)} {v:List Int},Nz v→MemT S v→Mem S (short v):=fun {S v} hv h=>memT_mem (MemT.short hv h) (red_short v)
 have ax:MemT ((x :: y :: r).map short) x:=g1 (by simp) hx
 have ay:MemT ((x :: y :: r).map short) y:=g1 (by simp) hy
 have b1:MemT ((mvS x y r).map short) (x++y):=MemT.unshort (hx.app hy) (g1 (by simp [mvS]) (hx.app hy).short)
 have b2:MemT ((mvS x y r).map short) (back y):=MemT.unshort hy.back (g1 (by simp [mvS]) hy.back.short)
 have b3:MemT ((mvS x y r).map short) x:=by
  have h:=MemT.short ((hx.app hy).app hy.back) (b1.app b2)
  rw [List.append_assoc,← short_right,short_inv,List.append_nil] at h
  exact MemT.unshort hx h
 have b4:MemT ((mvS x y r).map short) y:=by
  have h:=MemT.back hy.back b2
  rwa [back_back] at h
 refine ⟨inB_iff.2 fun v hv=>?_,inB_iff.2 fun v hv=>?_,memB_iff.2 (g2 ((hx.app hx).short) (MemT.short (hx.app hx) (ax.app ax)))⟩
 ·rcases List.mem_cons.1 hv with rfl | hv
  ·exact g2 hx b3
  rcases List.mem_cons.1 hv with rfl | hv
  ·exact g2 hy b4
  ·exact g2 (hr v hv) (g1 (by simp [mvS,hv]) (hr v hv))
 ·rcases List.mem_cons.1 hv with rfl | hv
  ·exact g2 (hx.app hy).short (MemT.short (hx.app hy) (ax.app ay))
  rcases List.mem_cons.1 hv with rfl | hv
  ·exact g2 hy.back.short (MemT.short hy.back (MemT.back hy ay))
  ·exact g2 (hr v hv) (g1 (by simp [hv]) (hr v hv))
theorem mul_ok {v w:List Int} (h1:Ok v∧v.length≤2000) (h2:Ok w∧w.length≤2000):mulS v w=(short (v++w),(0,0)):=by
 unfold mulS
 rw [ok_allS (fun u hu=>by
  rcases List.mem_cons.1 hu with rfl | hu
  ·exact h1
  ·rw [List.mem_singleton.1 hu]; exact h2),if_neg (fun h=>h rfl)]
theorem inv_ok {v:List Int} (h1:Ok v) (h2:v.length≤2000):invS v=(short (back v),(0,0)):=by
 unfold invS
 rw [ok_check h1 h2,if_neg (fun h=>h rfl)]
theorem lw_tot {l:List (List Int)} (h:lwS l=false) (h0:(ckL l).1=0):tot l≤120:=by
 unfold lwS at h
 simp [h0] at h
 omega
theorem cj_len {l:List (List Int)} {w:List Int} : (cjS l w).length=l.length:=by unfold cjS; rw [List.length_map]
theorem cj_get {l:List (List Int)} {w:List Int} {i:Nat} (h:i < l.length):cjS (l.take (i + 1)) w=cjS (l.take i) w++[short (back w++l.getD i []++w)]:=by
 unfold cjS
 rw [take_snoc (d:=[]) h,List.map_append]
 rfl

set_option maxHeartbeats 8000000 in
set_option maxRecDepth 20000 in
theorem foldMoves_c (l:List (List Int)) (w:List Int) (n:Int) (hl:l.length≤100000000000000) (hlw:∀ w∈l,w.length≤100000000000000) (hw:w.length≤100000000000000) :
  FnC Try.prog 10 [.list (ll l),.list (il w),.int .i64 n] (.bool true):=by
 refine fnc_of tab_ok Try.func10 rfl (by kernel_rfl) (by rw [Try.ntmps10]; exact Nat.le_add_left 3 _) ?_; rw [Try.ntmps10]
 refine qm ?_
 refine hk_region fun K hK=>runs_eval tab_ok ?_
 simp only [ev0,evA,evB,evP,fl,gp,tab,simprocAttr,reduceCtorEq,reduceIte]
 refine fin_run trivial (hK _ ?_)<;>clear hK<;>clear K
 refine qa (qm (qm ?_))
 refine hk_region fun K hK=>runs_eval tab_ok ?_
 simp only [ev0,evA,evB,evP,fl,gp,tab,simprocAttr,reduceCtorEq,reduceIte]
 refine fin_stop trivial (runs_call (foldBegun_c) rfl rfl rfl (by simp only [dstOk,Nat.reduceLT]) (by repeat (first|exact trivial|constructor)) (runs_eval tab_ok ?_))
 simp only [ev0,evA,evB,evP,fl,gp,tab,simprocAttr,reduceCtorEq,reduceIte]
 refine fin_run trivial (hK _ ?_)<;>clear hK<;>clear K
 refine qa ?_
 refine hk_cond rfl (fun hC1=>?_) (fun hC1=>?_)
 ·(try simp only [nhs] at hC1)
  cases hC1
 ·(try simp only [nhs] at hC1)
  refine qh (qa (qm (qm ?_)))
  rcases (show lwS l=true∨(lwS l=false∧(w.length:Int) > 20)∨(lwS l=false∧¬ (w.length:Int) > 20∧¬ (check w).1=0)∨(lwS l=false∧¬ (w.length:Int) > 20∧(check w).1=0∧¬ (ckL l).1=0)∨(lwS l=false∧¬ (w.length:Int) > 20∧(check w).1=0∧(ckL l).1=0∧(l.length:Int) < 2)∨(lwS l=false∧¬ (w.length:Int) > 20∧(check w).1=0∧(ckL l).1=0∧¬ (l.length:Int) < 2) by cases lwS l<;>simp<;>omega) with h1 | ⟨h1,h2⟩ | ⟨h1,h2,h3⟩ | ⟨h1,h2,h3,h4⟩ | ⟨h1,h2,h3,h4,h5⟩ | ⟨h1,h2,h3,h4,h5⟩
  ·refine hk_region fun K hK=>runs_eval tab_ok ?_
   simp only [ev0,evA,evB,evP,fl,gp,tab,simprocAttr,reduceCtorEq,reduceIte,il_length]
   refine fin_stop trivial (runs_call ((h1 ▸ longWords_c l hl hlw)) rfl rfl rfl (by simp only [dstOk,Nat.reduceLT]) (by repeat (first|exact trivial|constructor)) (runs_eval tab_ok ?_))
   simp only [ev0,evA,evB,evP,fl,gp,tab,simprocAttr,reduceCtorEq,reduceIte,il_length]
   refine fin_run trivial (hK _ ?_)<;>clear hK<;>clear K
   refine qa ?_
   refine hk_cond rfl (fun hC2=>?_) (fun hC2=>?_)
   ·refine qm ?_
    refine hk_region fun K hK=>runs_eval tab_ok ?_
    simp only [ev0,evA,evB,evP,fl,gp,tab,simprocAttr,reduceCtorEq,reduceIte]
    refine fin_run trivial (hK _ ?_)<;>clear hK<;>clear K
    refine qa (qk (qb ?_))
    simp only [Try.results10,enA,ev0,evA,evB,evP,fl,gp,tab,simprocAttr,reduceCtorEq,reduceIte]
    all_goals ((first|exact rfl|exact ⟨rfl,rfl⟩|exact ⟨rfl,rfl,rfl⟩|exact ⟨trivial,rfl⟩|exact ⟨Nat.le_refl _,rfl⟩|trivial|(simp; done)))
   ·cases hC2
  ·refine hk_region fun K hK=>runs_eval tab_ok ?_
   simp only [ev0,evA,evB,evP,fl,gp,tab,simprocAttr,reduceCtorEq,reduceIte,il_length,h2,decide_true]
   refine fin_stop trivial (runs_call ((h1 ▸ longWords_c l hl hlw)) rfl rfl rfl (by simp only [dstOk,Nat.reduceLT]) (by repeat (first|exact trivial|constructor)) (runs_eval tab_ok ?_))
   simp only [ev0,evA,evB,evP,fl,gp,tab,simprocAttr,reduceCtorEq,reduceIte,il_length,h2,decide_true]
   refine fin_run trivial (hK _ ?_)<;>clear hK<;>clear K
   refine qa ?_
   refine hk_cond rfl (fun hC2=>?_) (fun hC2=>?_)
   ·refine qm ?_
    refine hk_region fun K hK=>runs_eval tab_ok ?_
    simp only [ev0,evA,evB,evP,fl,gp,tab,simprocAttr,reduceCtorEq,reduceIte]
    refine fin_run trivial (hK _ ?_)<;>clear hK<;>clear K
    refine qa (qk (qb ?_))
    simp only [Try.results10,enA,ev0,evA,evB,evP,fl,gp,tab,simprocAttr,reduceCtorEq,reduceIte]
    all_goals ((first|exact rfl|exact ⟨rfl,rfl⟩|exact ⟨rfl,rfl,rfl⟩|exact ⟨trivial,rfl⟩|exact ⟨Nat.le_refl _,rfl⟩|trivial|(simp; done)))
   ·cases hC2
  ·refine hk_region fun K hK=>runs_eval tab_ok ?_
   simp only [ev0,evA,evB,evP,fl,gp,tab,simprocAttr,reduceCtorEq,reduceIte,il_length,h2,h3]
   refine fin_stop trivial (runs_call ((h1 ▸ longWords_c l hl hlw)) rfl rfl rfl (by simp only [dstOk,Nat.reduceLT]) (by repeat (first|exact trivial|constructor)) (runs_eval tab_ok ?_))
   simp only [ev0,evA,evB,evP,fl,gp,tab,simprocAttr,reduceCtorEq,reduceIte,il_length,h2,h3]
   refine fin_stop trivial (runs_call (wordFault_c w) rfl rfl rfl (by simp only [dstOk,Nat.reduceLT]) (by repeat (first|exact trivial|constructor)) (runs_eval tab_ok ?_))
   simp only [ev0,evA,evB,evP,fl,gp,tab,simprocAttr,reduceCtorEq,reduceIte,il_length,h2,h3]
   refine fin_run trivial (hK _ ?_)<;>clear hK<;>clear K
   refine qa ?_
   refine hk_cond rfl (fun hC2=>?_) (fun hC2=>?_)
   ·refine qm ?_
    refine hk_region fun K hK=>runs_eval tab_ok ?_
    simp only [ev0,evA,evB,evP,fl,gp,tab,simprocAttr,reduceCtorEq,reduceIte]
    refine fin_run trivial (hK _ ?_)<;>clear hK<;>clear K
    refine qa (qk (qb ?_))
    simp only [Try.results10,enA,ev0,evA,evB,evP,fl,gp,tab,simprocAttr,reduceCtorEq,reduceIte]
    all_goals ((first|exact rfl|exact ⟨rfl,rfl⟩|exact ⟨rfl,rfl,rfl⟩|exact ⟨trivial,rfl⟩|exact ⟨Nat.le_refl _,rfl⟩|trivial|(simp; done)))
   ·cases hC2
  ·refine hk_region fun K hK=>runs_eval tab_ok ?_
   simp only [ev0,evA,evB,evP,fl,gp,tab,simprocAttr,reduceCtorEq,reduceIte,il_length,ll_length,h2,h3,h4]
   refine fin_stop trivial (runs_call ((h1 ▸ longWords_c l hl hlw)) rfl rfl rfl (by simp only [dstOk,Nat.reduceLT]) (by repeat (first|exact trivial|constructor)) (runs_eval tab_ok ?_))
   simp only [ev0,evA,evB,evP,fl,gp,tab,simprocAttr,reduceCtorEq,reduceIte,il_length,ll_length,h2,h3,h4]
   refine fin_stop trivial (runs_call (wordFault_c w) rfl rfl rfl (by simp only [dstOk,Nat.reduceLT]) (by repeat (first|exact trivial|constructor)) (runs_eval tab_ok ?_))
   simp only [ev0,evA,evB,evP,fl,gp,tab,simprocAttr,reduceCtorEq,reduceIte,il_length,ll_length,h2,h3,h4]
   refine fin_stop trivial (runs_call (someWords_c l (lw_len h1).1 (lw_len h1).2) rfl rfl rfl (by simp only [dstOk,Nat.reduceLT]) (by repeat (first|exact trivial|constructor)) (runs_eval tab_ok ?_))
   simp only [ev0,evA,evB,evP,fl,gp,tab,simprocAttr,reduceCtorEq,reduceIte,il_length,ll_length,h2,h3,h4]
   refine fin_run trivial (hK _ ?_)<;>clear hK<;>clear K
   refine qa ?_
   refine hk_cond rfl (fun hC2=>?_) (fun hC2=>?_)
   ·refine qm ?_
    refine hk_region fun K hK=>runs_eval tab_ok ?_
    simp only [ev0,evA,evB,evP,fl,gp,tab,simprocAttr,reduceCtorEq,reduceIte]
    refine fin_run trivial (hK _ ?_)<;>clear hK<;>clear K
    refine qa (qk (qb ?_))
    simp only [Try.results10,enA,ev0,evA,evB,evP,fl,gp,tab,simprocAttr,reduceCtorEq,reduceIte]
    all_goals ((first|exact rfl|exact ⟨rfl,rfl⟩|exact ⟨rfl,rfl,rfl⟩|exact ⟨trivial,rfl⟩|exact ⟨Nat.le_refl _,rfl⟩|trivial|(simp; done)))
   ·cases hC2
  ·refine hk_region fun K hK=>runs_eval tab_ok ?_
   simp only [ev0,evA,evB,evP,fl,gp,tab,simprocAttr,reduceCtorEq,reduceIte,il_length,ll_length,h2,h3,h4,h5,bne_self_eq_false,decide_true]
   refine fin_stop trivial (runs_call ((h1 ▸ longWords_c l hl hlw)) rfl rfl rfl (by simp only [dstOk,Nat.reduceLT]) (by repeat (first|exact trivial|constructor)) (runs_eval tab_ok ?_))
   simp only [ev0,evA,evB,evP,fl,gp,tab,simprocAttr,reduceCtorEq,reduceIte,il_length,ll_length,h2,h3,h4,h5,bne_self_eq_false,decide_true]
   refine fin_stop trivial (runs_call (wordFault_c w) rfl rfl rfl (by simp only [dstOk,Nat.reduceLT]) (by repeat (first|exact trivial|constructor)) (runs_eval tab_ok ?_))
   simp only [ev0,evA,evB,evP,fl,gp,tab,simprocAttr,reduceCtorEq,reduceIte,il_length,ll_length,h2,h3,h4,h5,bne_self_eq_false,decide_true]
   refine fin_stop trivial (runs_call (someWords_c l (lw_len h1).1 (lw_len h1).2) rfl rfl rfl (by simp only [dstOk,Nat.reduceLT]) (by repeat (first|exact trivial|constructor)) (runs_eval tab_ok ?_))
   simp only [ev0,evA,evB,evP,fl,gp,tab,simprocAttr,reduceCtorEq,reduceIte,il_length,ll_length,h2,h3,h4,h5,bne_self_eq_false,decide_true]
   refine fin_run trivial (hK _ ?_)<;>clear hK<;>clear K
   refine qa ?_
   refine hk_cond rfl (fun hC2=>?_) (fun hC2=>?_)
   ·refine qm ?_
    refine hk_region fun K hK=>runs_eval tab_ok ?_
    simp only [ev0,evA,evB,evP,fl,gp,tab,simprocAttr,reduceCtorEq,reduceIte]
    refine fin_run trivial (hK _ ?_)<;>clear hK<;>clear K
    refine qa (qk (qb ?_))
    simp only [Try.results10,enA,ev0,evA,evB,evP,fl,gp,tab,simprocAttr,reduceCtorEq,reduceIte]
    all_goals ((first|exact rfl|exact ⟨rfl,rfl⟩|exact ⟨rfl,rfl,rfl⟩|exact ⟨trivial,rfl⟩|exact ⟨Nat.le_refl _,rfl⟩|trivial|(simp; done)))
   ·cases hC2
  ·refine hk_region fun K hK=>runs_eval tab_ok ?_
   simp only [ev0,evA,evB,evP,fl,gp,tab,simprocAttr,reduceCtorEq,reduceIte,il_length,ll_length,h2,h3,h4,h5,bne_self_eq_false,decide_false]
   refine fin_stop trivial (runs_call ((h1 ▸ longWords_c l hl hlw)) rfl rfl rfl (by simp only [dstOk,Nat.reduceLT]) (by repeat (first|exact trivial|constructor)) (runs_eval tab_ok ?_))
   simp only [ev0,evA,evB,evP,fl,gp,tab,simprocAttr,reduceCtorEq,reduceIte,il_length,ll_length,h2,h3,h4,h5,bne_self_eq_false,decide_false]
   refine fin_stop trivial (runs_call (wordFault_c w) rfl rfl rfl (by simp only [dstOk,Nat.reduceLT]) (by repeat (first|exact trivial|constructor)) (runs_eval tab_ok ?_))
   simp only [ev0,evA,evB,evP,fl,gp,tab,simprocAttr,reduceCtorEq,reduceIte,il_length,ll_length,h2,h3,h4,h5,bne_self_eq_false,decide_false]
   refine fin_stop trivial (runs_call (someWords_c l (lw_len h1).1 (lw_len h1).2) rfl rfl rfl (by simp only [dstOk,Nat.reduceLT]) (by repeat (first|exact trivial|constructor)) (runs_eval tab_ok ?_))
   simp only [ev0,evA,evB,evP,fl,gp,tab,simprocAttr,reduceCtorEq,reduceIte,il_length,ll_length,h2,h3,h4,h5,bne_self_eq_false,decide_false]
   refine fin_run trivial (hK _ ?_)<;>clear hK<;>clear K
   refine qa ?_
   refine hk_cond rfl (fun hC2=>?_) (fun hC2=>?_)
   ·(try simp only [nhs] at hC2)
    refine qm ?_
    refine hk_region fun K hK=>runs_eval tab_ok ?_
    simp only [ev0,evA,evB,evP,fl,gp,tab,simprocAttr,reduceCtorEq,reduceIte]
    refine fin_run trivial (hK _ ?_)<;>clear hK<;>clear K
    refine qa (qk (qb ?_))
    simp only [Try.results10,enA,ev0,evA,evB,evP,fl,gp,tab,simprocAttr,reduceCtorEq,reduceIte]
    all_goals ((first|exact rfl|exact ⟨rfl,rfl⟩|exact ⟨rfl,rfl,rfl⟩|exact ⟨trivial,rfl⟩|exact ⟨Nat.le_refl _,rfl⟩|trivial|(simp; done)))
   ·(try simp only [nhs] at hC2)
    obtain ⟨l1,l2⟩:=lw_len h1
    have h6:l.length≤15:=by
     have:¬ (l.length:Int) > 15:=by simpa using hC2
     omega
    have hwl:w.length≤20:=by omega
    have hwo:=(check_ok h3).1
    have htt:=lw_tot h1 h4
    have gl:=fun h=>ckL_good (L:=l) h
    obtain ⟨k1,k2,k3,k4⟩:=ckL_ok h4
    obtain ⟨x,y,r,hL⟩:∃ x y r,l=x :: y :: r:=by
     match l,h5 with
     | x :: y :: r,_=>exact ⟨x,y,r,rfl⟩
     | [],h=>exact absurd (show ((0:Nat):Int) < 2 by decide) h
     | [_],h=>exact absurd (show ((1:Nat):Int) < 2 by decide) h
    have hx:x∈l:=by rw [hL]; simp
    have hy:y∈l:=by rw [hL]; simp
    have hox:=k2 x hx
    have hoy:=k2 y hy
    have hxl:=tot_mem hx
    have hyl:=tot_mem hy
    have e0:(ll l).getD 0 default = .list (il x):=by rw [hL]; rfl
    have e1:(ll l).getD 1 default = .list (il y):=by rw [hL]; rfl
    have ed:(ll l).drop 2=ll r:=by rw [hL]; rfl
    have et:(ll r).take (l.length - 2)=ll r:=List.take_of_length_le (by rw [ll_length,hL]; simp)
    have hll:2≤l.length:=by omega
    have hmul:=mul_c x y
    rw [mul_ok ⟨hox.1,by omega⟩ ⟨hoy.1,by omega⟩] at hmul
    have hinv:=inv_c y
    rw [inv_ok hoy.1 (by omega)] at hinv
    simp only at hmul hinv
    obtain ⟨a,ha⟩:∃ a,short (x++y)=a:=⟨_,rfl⟩
    obtain ⟨b,hb⟩:∃ b,short (back y)=b:=⟨_,rfl⟩
    rw [ha] at hmul
    rw [hb] at hinv
    have htl:tot l=x.length + (y.length + tot r):=by rw [hL,tot_cons,tot_cons]
    have hoa:Ok a:=ha ▸ (hox.1.app hoy.1).short
    have hob:Ok b:=hb ▸ hoy.1.back.short
    have hal:a.length≤x.length + y.length:=by rw [← ha]; have:=short_len (x++y); rwa [List.length_append] at this
    have hbl:b.length≤y.length:=by rw [← hb]; have:=short_len (back y); rwa [back_len] at this
    obtain ⟨m,hm⟩:∃ m,a :: b :: r=m:=⟨_,rfl⟩
    have hmv:mvS x y r=m:=by rw [← hm,← ha,← hb]; rfl
    have hml:m.length=l.length:=by rw [← hm,hL]; rfl
    have hmt:tot m≤240:=by rw [← hm,tot_cons,tot_cons]; omega
    have hmo:∀ v∈m,Ok v:=fun v hv=>by
     rw [← hm] at hv
     rcases List.mem_cons.1 hv with rfl | hv
     ·exact hoa
     rcases List.mem_cons.1 hv with rfl | hv
     ·exact hob
     ·exact (k2 v (by rw [hL]; simp [hv])).1
    have hmk:ckL m=(0,0):=ckL_mk (by omega) hmo (by omega)
    obtain ⟨sd1,sd2,sd3⟩:=mv_sides (r:=r) hox.1.nz hoy.1.nz fun v hv=>(k2 v (by rw [hL]; simp [hv])).1.nz
    rw [hmv,← hL] at sd1 sd2
    rw [← hL] at sd3
    have hsame:=same_c l m l1 l2 (by omega) (fun v hv=>by have:=tot_mem hv; omega) gl (fun h=>ckL_good h)
    have hsv:sameS l m=(true,(0,0)):=by
     unfold sameS
     rw [if_neg (fun h=>h h4),hmk,if_neg (fun h=>h rfl),sd1,sd2]
     rfl
    rw [hsv] at hsame
    have hbh:=behind_c [a,b,x] (by simp; omega) (by simp) (by simpa using (hoa.sm.app (hob.sm.app hox.1.sm)))
    have hfl:short [a,b,x].flatten=short (x++x):=by
     have e:[a,b,x].flatten=short (x++y)++(short (back y)++x):=by rw [ha,hb]; simp
     rw [e,short_left,← List.append_assoc,short_mid,show x++y++back y++x=x++(y++back y)++x by simp [List.append_assoc],← short_mid,short_inv,List.append_nil]
    rw [hfl] at hbh
    have hmem:=member_c l (short (x++x)) l1 l2 (by have:=short_len (x++x); rw [List.length_append] at this; omega) gl (fun h=>(check_ok h).1)
    have hxx:(short (x++x)).length≤240:=by have:=short_len (x++x); rw [List.length_append] at this; omega
    have hmv2:memberS l (short (x++x))=(true,(0,0)):=by
     unfold memberS
     rw [if_neg (fun h=>h h4),ok_check (hox.1.app hox.1).short (by omega),if_neg (fun h=>h rfl),sd3]
    rw [hmv2] at hmem
    simp only at hsame hmem
    refine qh (qa (qm ?_))
    refine hk_draw2 mixed fun K hK=>runs2_eval tab_ok ?_
    simp only [evD,ev0,evA,evB,evP,fl,gp,tab,simprocAttr,reduceCtorEq,reduceIte,ll_length,e0,e1]
    refine fin2_stop ?_ (runs2_call (hmul) rfl rfl rfl rfl (by simp only [dstOk,Nat.reduceLT]) (by repeat (first|exact trivial|constructor)) (runs2_eval tab_ok ?_))
    ·omega
    simp only [evD,ev0,evA,evB,evP,fl,gp,tab,simprocAttr,reduceCtorEq,reduceIte,ll_length,e0,e1]
    refine fin2_run ?_ (hK _ _ (by first|kernel_rfl|rfl) ?_)<;>clear hK<;>clear K
    ·(first|exact trivial|omega|(simp only [In64] at *; omega)|(simp [In64] at *; omega)|(simp_all; done)|skip)
    refine qa (qm ?_)
    refine hk_region fun K hK=>runs_eval tab_ok ?_
    simp only [ev0,evA,evB,evP,fl,gp,tab,simprocAttr,reduceCtorEq,reduceIte,ll_length,e0,e1]
    refine fin_stop ?_ (runs_call (hinv) rfl rfl rfl (by simp only [dstOk,Nat.reduceLT]) (by repeat (first|exact trivial|constructor)) (runs_eval tab_ok ?_))
    ·omega
    simp only [ev0,evA,evB,evP,fl,gp,tab,simprocAttr,reduceCtorEq,reduceIte,ll_length,e0,e1]
    refine fin_run ?_ (hK _ ?_)<;>clear hK<;>clear K
    ·(first|exact trivial|omega|(simp only [In64] at *; omega)|(simp [In64] at *; omega)|(simp_all; done)|skip)
    refine qa (qm (qm ?_))
    refine hk_region fun K hK=>runs_eval tab_ok ?_
    simp only [ev0,evA,evB,evP,fl,gp,tab,simprocAttr,reduceCtorEq,reduceIte]
    refine fin_run ?_ (hK _ ?_)<;>clear hK<;>clear K
    ·(first|exact trivial|omega|(simp only [In64] at *; omega)|(simp [In64] at *; omega)|(simp_all; done)|skip)
    refine qa ?_
    refine hk_cond rfl (fun hC3=>?_) (fun hC3=>?_)
    ·(try simp only [nhs] at hC3)
     cases hC3
    ·(try simp only [nhs] at hC3)
     refine qh (qa (qm ?_))
     refine hk_join ⟨188,[(0,.p (.list (ll l))),(1,.p (.list (il w))),(2,.p (.int .i64 n)),(7,.p (.list (il a))),(8,.ptr 0 0),(9,.p (.list (il b))),(10,.ptr 1 0),(11,.p (.list (ll m)))],[.own [.p (.int .i64 0),.p (.int .i64 0)],.own [.p (.int .i64 0),.p (.int .i64 0)]]⟩ ?_ ?_
     ·rcases r with _ | ⟨z,r⟩
      ·refine hk_region fun K hK=>runs_at 5 (runs_eval tab_ok ?_)
       simp only [List.take_succ_cons,List.take_zero]
       simp only [ev0,evA,evB,evP,fl,gp,tab,simprocAttr,reduceCtorEq,reduceIte,ll_length,ed,ll_nil]
       refine fin_run (by omega) ?_
       refine runs_op (appendNnL0_does tab_ok rfl rfl rfl rfl rfl rfl rfl) rfl (by simp only [dstOk,Nat.reduceLT]) (runs_eval tab_ok ?_)
       simp only [ev0,evA,evB,evP,fl,gp,tab,simprocAttr,reduceCtorEq,reduceIte]
       refine fin_run trivial (hK _ ?_)<;>clear hK<;>clear K
       refine ⟨rfl,fun c Q h=>hk_rle 11 rfl (fun _ _ _ h=>h.nn_list) (hk_le [0,1] ?_ h)⟩
       rw [← hm]
       simp only [leq,leA,ev0,evA,evB,evP,fl,gp,tab,simprocAttr,reduceCtorEq,reduceIte]<;>trivial
      ·refine hk_region fun K hK=>runs_eval tab_ok ?_
       simp only [ev0,evA,evB,evP,fl,gp,tab,simprocAttr,reduceCtorEq,reduceIte,ll_length,ed,et,opl_map,opl_length]
       have hrl:(z :: r).length≤13:=by rw [hL] at h6; simpa using h6
       refine fin_run ?_ (hK _ ?_)<;>clear hK<;>clear K
       ·have:r.length + 1≤13:=by simpa using hrl
        exact ⟨⟨by omega,by omega⟩,by omega,by omega,by omega⟩
       refine ⟨rfl,fun c Q h=>?_⟩
       refine hk_sealp 11 2 (l:=ll m) (ll_all m) ?_ ?_ ?_
       ·show AV.sl 2 0 (2 + (z :: r).length)=_
        rw [← hm,ll_length]
        congr 1
        simp; omega
       ·rw [← hm]; rfl
       ·refine hk_le [0,1] ?_ h
        simp only [leq,leA,ev0,evA,evB,evP,fl,gp,tab,simprocAttr,reduceCtorEq,reduceIte]<;>trivial
     refine qa (qm ?_)
     refine hk_region fun K hK=>runs_eval tab_ok ?_
     simp only [ev0,evA,evB,evP,fl,gp,tab,simprocAttr,reduceCtorEq,reduceIte]
     refine fin_stop trivial (runs_call (hsame) rfl rfl rfl (by simp only [dstOk,Nat.reduceLT]) (by repeat (first|exact trivial|constructor)) (runs_eval tab_ok ?_))
     simp only [ev0,evA,evB,evP,fl,gp,tab,simprocAttr,reduceCtorEq,reduceIte]
     refine fin_run ?_ (hK _ ?_)<;>clear hK<;>clear K
     ·(first|exact trivial|omega|(simp only [In64] at *; omega)|(simp [In64] at *; omega)|(simp_all; done)|skip)
     refine qa (qm ?_)
     refine hk_region fun K hK=>runs_eval tab_ok ?_
     simp only [ev0,evA,evB,evP,fl,gp,tab,simprocAttr,reduceCtorEq,reduceIte,ll_length,e0,e1]
     refine fin_stop ?_ (runs_call (hbh) rfl rfl rfl (by simp only [dstOk,Nat.reduceLT]) (by repeat (first|exact trivial|constructor)) (runs_eval tab_ok ?_))
     ·omega
     simp only [ev0,evA,evB,evP,fl,gp,tab,simprocAttr,reduceCtorEq,reduceIte,ll_length,e0,e1]
     refine fin_stop trivial (runs_call (hmem) rfl rfl rfl (by simp only [dstOk,Nat.reduceLT]) (by repeat (first|exact trivial|constructor)) (runs_eval tab_ok ?_))
     simp only [ev0,evA,evB,evP,fl,gp,tab,simprocAttr,reduceCtorEq,reduceIte,ll_length,e0,e1]
     refine fin_run ?_ (hK _ ?_)<;>clear hK<;>clear K
     ·(first|exact trivial|omega|(simp only [In64] at *; omega)|(simp [In64] at *; omega)|(simp_all; done)|skip)
     refine qa (qm (qm ?_))
     refine hk_region fun K hK=>runs_eval tab_ok ?_
     simp only [ev0,evA,evB,evP,fl,gp,tab,simprocAttr,reduceCtorEq,reduceIte,Bool.not_true]
     refine fin_run ?_ (hK _ ?_)<;>clear hK<;>clear K
     ·(first|exact trivial|omega|(simp only [In64] at *; omega)|(simp [In64] at *; omega)|(simp_all; done)|skip)
     refine qa ?_
     refine hk_cond rfl (fun hC4=>?_) (fun hC4=>?_)
     ·(try simp only [nhs] at hC4)
      cases hC4
     ·(try simp only [nhs] at hC4)
      refine qh (qa (qm ?_))
      refine hk_region fun K hK=>runs_eval tab_ok ?_
      simp only [ev0,evA,evB,evP,fl,gp,tab,simprocAttr,reduceCtorEq,reduceIte]
      refine fin_run trivial (hK _ ?_)<;>clear hK<;>clear K
      refine qa (qm (qm ?_))
      refine hk_own0 16 rfl ?_
      refine hk_region fun K hK=>runs_eval tab_ok ?_
      simp only [ev0,evA,evB,evP,fl,gp,tab,simprocAttr,reduceCtorEq,reduceIte]
      refine fin_run trivial (hK _ ?_)<;>clear hK<;>clear K
      refine qa (ql ?_)
      refine hk_loop (ι:=Nat) (fun i=>⟨188,[(0,.p (.list (ll l))),(1,.p (.list (il w))),(2,.p (.int .i64 n)),(8,.ptr 0 0),(10,.ptr 1 0),(16,.sl 2 0 i),(17,.p (.int .i64 (i:Nat)))],[.own [.p (.int .i64 0),.p (.int .i64 0)],.own [.p (.int .i64 0),.p (.int .i64 0)],.own (opl (ll (cjS (l.take i) w)))]⟩) (fun i=>i≤l.length) (fun i=>l.length - i) 0 (Nat.zero_le _) [0,1,4] (by simp only [leq,leA,ev0,evA,evB,evP,fl,gp,tab,simprocAttr,reduceCtorEq,reduceIte]<;>first|trivial|trace_state) fun i q1=>?_
      refine qm (qm ?_)
      refine hk_region fun K hK=>runs_eval tab_ok ?_
      simp only [ev0,evA,evB,evP,fl,gp,tab,simprocAttr,reduceCtorEq,reduceIte,ll_length]
      refine fin_run trivial (hK _ ?_)<;>clear hK<;>clear K
      refine qa ?_
      refine hk_cond rfl (fun hC5=>?_) (fun hC5=>?_)
      ·(try simp only [nhs] at hC5)
       have hi:i < l.length:=by omega
       have hlen:(cjS (l.take i) w).length=i:=by rw [cj_len,List.length_take]; omega
       obtain ⟨v,hv⟩:∃ v,l.getD i []=v:=⟨_,rfl⟩
       have hvm:v∈l:=by rw [← hv,List.getD_eq_getElem?_getD,List.getElem?_eq_getElem hi]; exact List.getElem_mem hi
       have hvo:=(k2 v hvm).1
       have hvl:=tot_mem hvm
       have hsn:=cj_get (w:=w) hi
       rw [hv] at hsn
       have htk:List.take i (opl (ll (cjS (l.take i) w)))=opl (ll (cjS (l.take i) w)):=List.take_of_length_le (by rw [opl_length,ll_length,hlen]; exact Nat.le_refl _)
       have hb3:=behind_c [back w,v,w] (by simp [back_len]; omega) (by simp) (by simpa using (hwo.back.sm.app (hvo.sm.app hwo.sm)))
       have e3:[back w,v,w].flatten=back w++v++w:=by simp [List.append_assoc]
       rw [e3] at hb3
       refine qh (qa (qm (ql ?_)))
       refine hk_draw2 mixed fun K hK=>runs2_eval tab_ok ?_
       simp only [evD,ev0,evA,evB,evP,fl,gp,tab,simprocAttr,reduceCtorEq,reduceIte,ll_length,ll_get hi,hv,htk,opl_length,hlen]
       refine fin2_stop trivial (runs2_call (turned_c w (by omega) hwo.sm) rfl rfl rfl rfl (by simp only [dstOk,Nat.reduceLT]) (by repeat (first|exact trivial|constructor)) (runs2_eval tab_ok ?_))
       simp only [evD,ev0,evA,evB,evP,fl,gp,tab,simprocAttr,reduceCtorEq,reduceIte,ll_length,ll_get hi,hv,htk,opl_length,hlen]
       refine fin2_stop ?_ (runs2_call (hb3) rfl rfl rfl rfl (by simp only [dstOk,Nat.reduceLT]) (by repeat (first|exact trivial|constructor)) (runs2_eval tab_ok ?_))
       ·omega
       simp only [evD,ev0,evA,evB,evP,fl,gp,tab,simprocAttr,reduceCtorEq,reduceIte,ll_length,ll_get hi,hv,htk,opl_length,hlen]
       refine fin2_run ?_ (hK _ _ (by first|kernel_rfl|rfl) ?_)<;>clear hK<;>clear K
       ·exact ⟨Nat.le_refl _,by omega,by omega⟩
       refine qd (qa ?_)
       refine hk_region fun K hK=>runs_eval tab_ok ?_
       simp only [ev0,evA,evB,evP,fl,gp,tab,simprocAttr,reduceCtorEq,reduceIte]
       refine fin_run ?_ (hK _ ?_)<;>clear hK<;>clear K
       ·(first|exact trivial|omega|(simp only [In64] at *; omega)|(simp [In64] at *; omega)|(simp_all; done)|skip)
       refine qa ?_
       refine ⟨i + 1,[0,1,3],by omega,by omega,?_⟩
       rw [hsn]
       have hts:(ll (cjS (l.take i) w++[short (back w++v++w)])).take ((cjS (l.take i) w).length + 1)=ll (cjS (l.take i) w++[short (back w++v++w)]):=List.take_of_length_le (by rw [ll_length]; simp)
       simp only [leq,leA,ev0,evA,evB,evP,fl,gp,tab,simprocAttr,reduceCtorEq,reduceIte,opl_ren,opl_sc,hts]<;>first|trivial|exact ⟨⟨⟨rfl,rfl⟩,⟨rfl,rfl⟩,trivial⟩,rfl,rfl,rfl,rfl,rfl,rfl,rfl,rfl⟩|trace_state
      ·(try simp only [nhs] at hC5)
       have hie:i=l.length:=by omega
       rw [hie,List.take_length]
       obtain ⟨c,hc⟩:∃ c,cjS l w=c:=⟨_,rfl⟩
       have hcl:c.length=l.length:=by rw [← hc,cj_len]
       have hcw:∀ v∈c,v.length≤1000000000:=fun v hv=>by
        rw [← hc] at hv
        obtain ⟨u,hu,rfl⟩:=List.mem_map.1 hv
        have e1:=short_len (back w++u++w)
        have e2:=tot_mem hu
        simp only [List.length_append,back_len] at e1
        omega
       rw [hc]
       refine qj (qc (qc (qf (qa (qm (qm ?_))))))
       refine hk_sealp 16 2 (l:=ll c) (ll_all c) (by rw [ll_length,hcl]; rfl) rfl ?_
       refine hk_region fun K hK=>runs_eval tab_ok ?_
       simp only [ev0,evA,evB,evP,fl,gp,tab,simprocAttr,reduceCtorEq,reduceIte]
       refine fin_stop trivial (runs_call (someWords_c c (by omega) hcw) rfl rfl rfl (by simp only [dstOk,Nat.reduceLT]) (by repeat (first|exact trivial|constructor)) (runs_eval tab_ok ?_))
       simp only [ev0,evA,evB,evP,fl,gp,tab,simprocAttr,reduceCtorEq,reduceIte]
       refine fin_run trivial (hK _ ?_)<;>clear hK<;>clear K
       refine qa ?_
       refine hk_cond rfl (fun hC6=>?_) (fun hC6=>?_)
       ·(try simp only [nhs] at hC6)
        refine qm ?_
        refine hk_region fun K hK=>runs_eval tab_ok ?_
        simp only [ev0,evA,evB,evP,fl,gp,tab,simprocAttr,reduceCtorEq,reduceIte]
        refine fin_run trivial (hK _ ?_)<;>clear hK<;>clear K
        refine qa (qk (qb ?_))
        simp only [Try.results10,enA,ev0,evA,evB,evP,fl,gp,tab,simprocAttr,reduceCtorEq,reduceIte]
        all_goals ((first|exact rfl|exact ⟨rfl,rfl⟩|exact ⟨rfl,rfl,rfl⟩|exact ⟨trivial,rfl⟩|exact ⟨Nat.le_refl _,rfl⟩|trivial|(simp; done)))
       ·(try simp only [nhs] at hC6)
        have hck:(ckL c).1=0:=by simpa using hC6
        have hr1:=rank_c l l1 l2 gl
        rw [rankS_2,k4] at hr1
        have hr2:=rank_c c (by omega) hcw (fun h=>ckL_good h)
        rw [rankS_2,(ckL_ok hck).2.2.2] at hr2
        have hcr:=cj_rank (w:=w) h4 (by rw [hc]; exact hck) hwo.nz
        rw [hc] at hcr
        rw [← hcr] at hr2
        obtain ⟨rk,hrk⟩:∃ rk,(rankS l).1=rk:=⟨_,rfl⟩
        rw [hrk] at hr1 hr2
        have hi1:=index_c l n l1 l2 gl
        have hi2:=index_c c n (by omega) hcw (fun h=>ckL_good h)
        have hci:=cj_index (l:=l) (w:=w) (n:=n)
        rw [hc] at hci
        rw [show (indexS l n).2=idxF l n from rfl] at hi1
        rw [show (indexS c n).2=idxF c n from rfl] at hi2
        obtain ⟨p,hp⟩:∃ p,(indexS l n).1=p:=⟨_,rfl⟩
        obtain ⟨q,hq⟩:∃ q,(indexS c n).1=q:=⟨_,rfl⟩
        rw [hp] at hi1
        rw [hq] at hi2
        rw [hp,hq] at hci
        obtain ⟨d1,hd1⟩:∃ d,idxF l n=d:=⟨_,rfl⟩
        obtain ⟨d2,hd2⟩:∃ d,idxF c n=d:=⟨_,rfl⟩
        rw [hd1] at hi1 hci
        rw [hd2] at hi2 hci
        refine qh (qa (qm ?_))
        refine hk_region fun K hK=>runs_eval tab_ok ?_
        simp only [ev0,evA,evB,evP,fl,gp,tab,simprocAttr,reduceCtorEq,reduceIte]
        refine fin_stop trivial (runs_call (hr1) rfl rfl rfl (by simp only [dstOk,Nat.reduceLT]) (by repeat (first|exact trivial|constructor)) (runs_eval tab_ok ?_))
        simp only [ev0,evA,evB,evP,fl,gp,tab,simprocAttr,reduceCtorEq,reduceIte]
        refine fin_run ?_ (hK _ ?_)<;>clear hK<;>clear K
        ·(first|exact trivial|omega|(simp only [In64] at *; omega)|(simp [In64] at *; omega)|(simp_all; done)|skip)
        refine qa (qm ?_)
        refine hk_region fun K hK=>runs_eval tab_ok ?_
        simp only [ev0,evA,evB,evP,fl,gp,tab,simprocAttr,reduceCtorEq,reduceIte]
        refine fin_stop trivial (runs_call (hr2) rfl rfl rfl (by simp only [dstOk,Nat.reduceLT]) (by repeat (first|exact trivial|constructor)) (runs_eval tab_ok ?_))
        simp only [ev0,evA,evB,evP,fl,gp,tab,simprocAttr,reduceCtorEq,reduceIte]
        refine fin_run ?_ (hK _ ?_)<;>clear hK<;>clear K
        ·(first|exact trivial|omega|(simp only [In64] at *; omega)|(simp [In64] at *; omega)|(simp_all; done)|skip)
        refine qa (qm (qm ?_))
        refine hk_region fun K hK=>runs_eval tab_ok ?_
        simp only [ev0,evA,evB,evP,fl,gp,tab,simprocAttr,reduceCtorEq,reduceIte,bne_self_eq_false,decide_false,ne_eq,not_true_eq_false]
        refine fin_run ?_ (hK _ ?_)<;>clear hK<;>clear K
        ·(first|exact trivial|omega|(simp only [In64] at *; omega)|(simp [In64] at *; omega)|(simp_all; done)|skip)
        refine qa ?_
        refine hk_cond rfl (fun hC7=>?_) (fun hC7=>?_)
        ·(try simp only [nhs] at hC7)
         cases hC7
        ·(try simp only [nhs] at hC7)
         refine qh (qa (qm ?_))
         refine hk_region fun K hK=>runs_eval tab_ok ?_
         simp only [ev0,evA,evB,evP,fl,gp,tab,simprocAttr,reduceCtorEq,reduceIte]
         refine fin_stop trivial (runs_call (hi1) rfl rfl rfl (by simp only [dstOk,Nat.reduceLT]) (by repeat (first|exact trivial|constructor)) (runs_eval tab_ok ?_))
         simp only [ev0,evA,evB,evP,fl,gp,tab,simprocAttr,reduceCtorEq,reduceIte]
         refine fin_run ?_ (hK _ ?_)<;>clear hK<;>clear K
         ·(first|exact trivial|omega|(simp only [In64] at *; omega)|(simp [In64] at *; omega)|(simp_all; done)|skip)
         refine qa (qm ?_)
         refine hk_region fun K hK=>runs_eval tab_ok ?_
         simp only [ev0,evA,evB,evP,fl,gp,tab,simprocAttr,reduceCtorEq,reduceIte]
         refine fin_stop trivial (runs_call (hi2) rfl rfl rfl (by simp only [dstOk,Nat.reduceLT]) (by repeat (first|exact trivial|constructor)) (runs_eval tab_ok ?_))
         simp only [ev0,evA,evB,evP,fl,gp,tab,simprocAttr,reduceCtorEq,reduceIte]
         refine fin_run ?_ (hK _ ?_)<;>clear hK<;>clear K
         ·(first|exact trivial|omega|(simp only [In64] at *; omega)|(simp [In64] at *; omega)|(simp_all; done)|skip)
         refine qa (qm ?_)
         rcases (show (¬ d1.1=0)∨(d1.1=0∧¬ d2.1=0)∨(d1.1=0∧d2.1=0) by by_cases h:d1.1=0<;>by_cases h' : d2.1=0<;>simp [h,h']) with z1 | ⟨z1,z2⟩ | ⟨z1,z2⟩
         ·refine hk_region fun K hK=>runs_eval tab_ok ?_
          simp only [ev0,evA,evB,evP,fl,gp,tab,simprocAttr,reduceCtorEq,reduceIte,z1,decide_true,ne_eq,not_false_eq_true]
          refine fin_run ?_ (hK _ ?_)<;>clear hK<;>clear K
          ·(first|exact trivial|omega|(simp only [In64] at *; omega)|(simp [In64] at *; omega)|(simp_all; done)|skip)
          refine qa (qk ?_)
          simp only [Try.results10,enA,ev0,evA,evB,evP,fl,gp,tab,simprocAttr,reduceCtorEq,reduceIte]
          all_goals ((first|exact rfl|exact ⟨rfl,rfl⟩|exact ⟨rfl,rfl,rfl⟩|exact ⟨trivial,rfl⟩|exact ⟨Nat.le_refl _,rfl⟩|trivial|(simp; done)))
         ·refine hk_region fun K hK=>runs_eval tab_ok ?_
          simp only [ev0,evA,evB,evP,fl,gp,tab,simprocAttr,reduceCtorEq,reduceIte,z1,z2,decide_true,ne_eq,not_false_eq_true,decide_false,not_true_eq_false,bne_self_eq_false]
          refine fin_run ?_ (hK _ ?_)<;>clear hK<;>clear K
          ·(first|exact trivial|omega|(simp only [In64] at *; omega)|(simp [In64] at *; omega)|(simp_all; done)|skip)
          refine qa (qk ?_)
          simp only [Try.results10,enA,ev0,evA,evB,evP,fl,gp,tab,simprocAttr,reduceCtorEq,reduceIte]
          all_goals ((first|exact rfl|exact ⟨rfl,rfl⟩|exact ⟨rfl,rfl,rfl⟩|exact ⟨trivial,rfl⟩|exact ⟨Nat.le_refl _,rfl⟩|trivial|(simp; done)))
         ·obtain rfl:p=q:=hci z1 z2 hwo.nz
          refine hk_region fun K hK=>runs_eval tab_ok ?_
          simp only [ev0,evA,evB,evP,fl,gp,tab,simprocAttr,reduceCtorEq,reduceIte,z1,z2,decide_true,ne_eq,not_false_eq_true,decide_false,not_true_eq_false,bne_self_eq_false]
          refine fin_run ?_ (hK _ ?_)<;>clear hK<;>clear K
          ·(first|exact trivial|omega|(simp only [In64] at *; omega)|(simp [In64] at *; omega)|(simp_all; done)|skip)
          refine qa (qk ?_)
          simp only [Try.results10,enA,ev0,evA,evB,evP,fl,gp,tab,simprocAttr,reduceCtorEq,reduceIte]
          all_goals ((first|exact rfl|exact ⟨rfl,rfl⟩|exact ⟨rfl,rfl,rfl⟩|exact ⟨trivial,rfl⟩|exact ⟨Nat.le_refl _,rfl⟩|trivial|(simp; done)))
end Go.Proofs.Ytneglephfhiamaa
