/-
  Texts of this proof, one behind the other: what each says stands at its head. Conditions: none.
-/
import Derived.Test.YtneglephfhiamaaB5
import Derived.Test.YtneglephfhiamaaB4
import Derived.Shelf.SlSortCmp.Whole1
import Derived.Shelf.Sort.Plain
import Derived.Shelf.Slices.In.SortNone
import Derived.ChangeKeysEq

/-
  Graphs of words: calls that put a place, and an edge. Conditions: none.
-/
set_option linter.all false
namespace Go.Pv
open Go.RowKit Go.Proofs.Ytneglephfhiamaa

theorem putM_ot:∀ (ks:List Nat) (bs H:Heap) (k:Nat),k ∉ ks→k < H.length→(putM H ks bs)[k]? = H[k]?
 | [],bs,H,k,_,hk=>by simp only [putM]; rw [List.getElem?_append_left hk]
 | k0 :: ks,[],H,k,_,_=>rfl
 | k0 :: ks,b0 :: bs,H,k,hn,hk=>by
  simp only [putM]
  rw [putM_ot ks bs _ k (fun h=>hn (by simp [h])) (by rw [hset_length]; exact hk),hset_get,if_neg (fun h=>hn (by simp [h.1]))]
theorem putM_at2:∀ (ks:List Nat) (bs H:Heap),ks.Nodup→(∀ k∈ks,k < H.length)→ks.length≤bs.length→∀ (j:Nat) {b:Blk} {k:Nat},bs[j]? = some b→(ks++List.range' H.length (bs.length - ks.length))[j]? = some k→(putM H ks bs)[k]? = some b
 | [],bs,H,_,_,_,j,b,k,h1,h2=>by
  have hj:=(List.getElem?_eq_some_iff.1 h1).1
  simp only [List.nil_append,List.length_nil,Nat.sub_zero] at h2
  rw [List.getElem?_range' hj] at h2
  simp only [Option.some.injEq,Nat.one_mul] at h2
  subst h2
  simp only [putM]
  rw [List.getElem?_append_right (by omega),Nat.add_sub_cancel_left]; exact h1
 | k0 :: ks,[],H,_,_,hl,j,b,k,h1,h2=>by simp at hl
 | k0 :: ks,b0 :: bs,H,hnd,hk,hl,0,b,k,h1,h2=>by
  simp at h1 h2
  subst h1 h2
  simp only [putM]
  rw [putM_ot ks bs _ k0 (List.nodup_cons.1 hnd).1 (by rw [hset_length]; exact hk k0 (by simp)),hset_get,if_pos ⟨rfl,hk k0 (by simp)⟩]
 | k0 :: ks,b0 :: bs,H,hnd,hk,hl,j + 1,b,k,h1,h2=>by
  simp only [putM]
  refine putM_at2 ks bs _ (List.nodup_cons.1 hnd).2 (fun k hk'=>by rw [hset_length]; exact hk k (by simp [hk'])) (by simpa using hl) j (by simpa using h1) ?_
  rw [hset_length]
  simpa using h2
theorem putM_all {H0 L:Heap} (h:H0.length≤L.length):putM H0 (List.range H0.length) L=L:=by
 refine List.ext_getElem? fun k=>?_
 by_cases hk:k < L.length
 ·have e:(List.range H0.length++List.range' H0.length (L.length - (List.range H0.length).length))[k]? = some k:=by
   rw [List.length_range]
   by_cases hk2:k < H0.length
   ·rw [List.getElem?_append_left (by simpa using hk2),List.getElem?_range hk2]
   ·rw [List.getElem?_append_right (by simp; omega),List.length_range,List.getElem?_range' (by omega)]
    simp; omega
  rw [putM_at2 _ _ H0 List.nodup_range (fun k hk=>List.mem_range.1 hk) (by simpa using h) k (List.getElem?_eq_getElem hk) e,List.getElem?_eq_getElem hk]
 ·have hlen:=putM_length (List.range H0.length) L H0 (by simpa using h)
  rw [List.length_range] at hlen
  rw [List.getElem?_eq_none (by omega),List.getElem?_eq_none (by omega)]
theorem range_all {n m:Nat} (h:n≤m):List.range n++List.range' n (m - n)=List.range m:=by
 refine List.ext_getElem (by simp; omega) fun i h1 h2=>?_
 by_cases hi:i < n
 ·rw [List.getElem_append_left (by simpa using hi)]; simp
 ·rw [List.getElem_append_right (by simpa using hi)]; simp; omega

/-- A call that is lent all there is, and may put more behind it. -/
theorem runs_callA {P:Program} {s:St} {all:Array Oper} {rest:List Oper} {K:St→Prop} {dst:Option Tmp} {ty:TypeId} {pos:String} {aft:Array Edge} {gd:Option (Nat × Bool)} {fo:Operand} {args:Array Operand} {ts:Array TypeId} {g:FuncId} {avs:List AV} {H1:Heap} {r:AV}
  (hc:FnM P g avs s.H r H1) {cap:List PV} (hfo:s.ev fo = .p (.fn g cap)) (hg:guardA all s { dst:=dst,op:=.call { callee:=.value fo,args:=args,argTypes:=ts },type:=ty,pos:=pos,after:=aft,guard:=gd } = some true)
  (hargs:args.toList.map s.ev++cap.map .p=avs) (ha:avs.all (scA s.H.length)=true) (hs:s.H.all (hsc s.H.length)=true) (hs1:∀ b∈H1,hsc H1.length b=true) (hr:scA H1.length r=true) (hl:s.H.length≤H1.length) (hsc:scM r s.H H1=true) (hd:dstOk s dst)
  (h:Runs P false all rest K (({ s with H:=H1 } : St).put dst r)) :
  Runs P false all ({ dst:=dst,op:=.call { callee:=.value fo,args:=args,argTypes:=ts },type:=ty,pos:=pos,after:=aft,guard:=gd } :: rest) K s:=by
 have hargN:∀ (l:List AV),l.all (scA s.H.length)=true→argsN (List.range s.H.length) l l:=by
  intro l
  induction l with
  | nil=>intro _; trivial
  | cons x r ih =>
   intro hl
   rw [List.all_cons,Bool.and_eq_true] at hl
   refine ⟨?_,ih hl.2⟩
   cases x with
   | p v=>rfl
   | _=>exact ⟨(ren_id hl.1).symm,by rw [List.length_range]; exact hl.1⟩
 refine runs_callM (List.range s.H.length) hc hfo hg (by rw [hargs]; exact argsN_M (hargN _ ha)) ?_ List.nodup_range (List.all_eq_true.2 fun k hk=>by simpa using hk) hsc hd ?_
 ·have:=leH_pre (H0:=s.H) (X:=[]) fun b hb=>(List.all_eq_true.1 hs) b hb
  rwa [List.append_nil] at this
 ·rw [List.length_range,range_all hl,ren_id hr]
  have hm:H1.map (Blk.ren (List.range H1.length))=H1:=by
   have:=List.map_congr_left (f:=Blk.ren (List.range H1.length)) (g:=id) fun x hx=>blkren_id (hs1 x hx)
   rw [this,List.map_id]
  rw [hm,putM_all hl]
  exact h
theorem mpKeep_app:∀ {H H1 R:Heap},mpKeep H H1=true→H.length≤H1.length→mpKeep H (H1++R)=true
 | [],_,_,_,_=>rfl
 | b :: r,[],_,h,hl=>by simp at hl
 | b :: r,b1 :: t,R,h,hl=>by
  have hl' : r.length≤t.length:=by simpa using hl
  cases b<;>cases b1<;>simp only [mpKeep,List.cons_append,Bool.false_eq_true] at h ⊢<;>exact mpKeep_app h hl'
end Go.Pv
namespace Go.Proofs.Ytneglephfhiamaa
open Go.Pv

section
variable {G:List Mp} {U:List Int}

theorem PB_len (G:List Mp) (U:List Int):(PB G U).length=G.length + 6:=by
 unfold PB; simp
theorem PB_hsc:∀ b∈PB G U,hsc (PB G U).length b=true:=fun b hb=>by
 rw [PB_len]
 unfold PB at hb
 simp only [List.mem_cons,List.mem_append,List.not_mem_nil,or_false] at hb
 rcases hb with rfl | rfl | rfl | hb | rfl | rfl | rfl
 ·simp [hsc,scA,sc1]
 ·rfl
 ·rfl
 ·obtain ⟨f,_,rfl⟩:=List.mem_map.1 hb; rfl
 ·rfl
 ·simp only [hsc,List.all_append,mps_sc (show G.length + 3≤G.length + 6 by omega)]
  simp [scA,sc1]
 ·exact ol_sc _ _
theorem PB_scM {v:PV} : scM (.p v) (GB G U) (PB G U)=true:=by
 unfold scM
 have h1:(PB G U).all (fun | .own c=>c.all (scA (PB G U).length) | .anc _ _=>false | _=>true)=true:=by
  rw [List.all_eq_true]
  intro b hb
  have:=PB_hsc b hb
  cases b with
  | own c=>exact this
  | anc i j =>
   unfold PB at hb
   simp only [List.mem_cons,List.mem_append,List.not_mem_nil,or_false,reduceCtorEq,false_or] at hb
   rcases hb with hb | hb
   ·obtain ⟨f,_,h⟩:=List.mem_map.1 hb; cases h
   ·cases hb
  | _=>rfl
 have h2:mpKeep (GB G U) (PB G U)=true:=by
  show mpKeep (G.map mpB) (G.map mpB++_)=true
  exact mpKeep_app (mpKeep_maps rfl) (Nat.le_refl _)
 simp only [Bool.and_eq_true,decide_eq_true_eq]
 refine ⟨⟨⟨⟨rfl,h1⟩,?_⟩,h2⟩,GB_na⟩
 rw [GB_len,PB_len]; omega

theorem runs_place {s:St} {all:Array Oper} {rest:List Oper} {K:St→Prop} {dst:Option Tmp} {ty:TypeId} {pos:String} {aft:Array Edge} {gd:Option (Nat × Bool)} {fo:Operand} {args:Array Operand} {ts:Array TypeId}
  (hl:U.length=G.length) (hk:G.length≤100000000) (hfo:s.ev fo = .p (.fn 57 [])) (hg:guardA all s { dst:=dst,op:=.call { callee:=.value fo,args:=args,argTypes:=ts },type:=ty,pos:=pos,after:=aft,guard:=gd } = some true)
  (hH:s.H=GB G U) (hargs:args.toList.map s.ev++([]:List PV).map .p=[.ptr 0 0]) (hd:dstOk s dst)
  (h:Runs Try.prog false all rest K (({ s with H:=PB G U } : St).put dst (.p (.int .i64 (U.length:Nat))))) :
  Runs Try.prog false all ({ dst:=dst,op:=.call { callee:=.value fo,args:=args,argTypes:=ts },type:=ty,pos:=pos,after:=aft,guard:=gd } :: rest) K s:=
 runs_callA (H1:=PB G U) (by rw [hH]; exact place_c hl hk) hfo hg hargs (by rw [hH,GB_len]; simp [scA,sc1]) (by rw [hH]; exact GB_all) PB_hsc rfl (by rw [hH,GB_len,PB_len]; omega) (by rw [hH]; exact PB_scM) hd h

/-- The blocks of a graph with a place more, in order. -/
theorem le_PB {S s:St} (hl:U.length=G.length) (hn:S.n=s.n) (hS:S.H=GB (G++[nul]) (U++[(U.length:Int)])) (hs:s.H=PB G U) (hsl:LeS (0 :: (G.length + 4) :: (G.length + 5) :: List.range' 3 (G.length + 1)) S.sl s):Le (0 :: (G.length + 4) :: (G.length + 5) :: List.range' 3 (G.length + 1)) S s:=by
 obtain ⟨π,hπ⟩:∃ π,π=0 :: (G.length + 4) :: (G.length + 5) :: List.range' 3 (G.length + 1):=⟨_,rfl⟩
 have hpl:π.length=G.length + 4:=by rw [hπ]; simp
 have hp:∀ i,i < G.length + 1→π.getD (i + 3) 0=i + 3:=fun i hi=>by
  rw [hπ,List.getD_eq_getElem?_getD]
  simp only [List.getElem?_cons_succ,List.getElem?_range' hi,Option.getD_some]
  omega
 have hf:∀ i,i < G.length + 1→hget (PB G U) (3 + i)=hget ((G++[nul]).map mpB) i:=fun i hi=>by
  rw [Nat.add_comm]
  show hget (G.map mpB++_) i=_
  rw [List.map_append]
  by_cases h:i < G.length
  ·rw [hget_app1 (by simpa using h),hget_app1 (by simpa using h)]
  ·obtain rfl:i=G.length:=by omega
   rw [hget_app2 (by simp),hget_app2 (by simp),G_len,Nat.sub_self]; rfl
 have f1:hget (PB G U) (G.length + 4) = .own (mps G.length++[.mptr (G.length + 3)]):=by
  show hget (G.map mpB++_) (G.length + 1)=_
  rw [hget_app2 (by simp),G_len,Nat.add_sub_cancel_left]; rfl
 have f2:hget (PB G U) (G.length + 5) = .own (ol (U++[(U.length:Int)])):=by
  show hget (G.map mpB++_) (G.length + 2)=_
  rw [hget_app2 (by simp),G_len,Nat.add_sub_cancel_left]; rfl
 rw [← hπ] at hsl ⊢
 refine ⟨hn,?_,?_,hsl⟩
 ·rw [hπ]
  refine List.nodup_cons.2 ⟨?_,List.nodup_cons.2 ⟨?_,List.nodup_cons.2 ⟨?_,List.nodup_range' ..⟩⟩⟩
  ·simp only [List.mem_cons,List.mem_range'_1]; omega
  ·simp only [List.mem_cons,List.mem_range'_1]; omega
  ·simp only [List.mem_range'_1]; omega
 ·rw [hS,hs]
  unfold GB
  conv=>arg 3; rw [hπ]
  refine ⟨?_,?_,leB_ol f2,?_⟩
  ·have:hget (PB G U) 0 = .own [.sl (G.length + 4) 0 (G.length + 1),.sl (G.length + 5) 0 (U.length + 1)]:=rfl
   simp only [LeB,this]
   refine ⟨?_,by simp [scA,sc1,hpl]⟩
   rw [hπ]
   simp [Go.Pv.ren,ren1]
  ·simp only [LeB,f1]
   have e:mps (G++[nul]).length=mps G.length++[.mptr (G.length + 3)]:=by rw [mps_snoc]; simp
   rw [e]
   refine ⟨?_,?_⟩
   ·rw [List.take_of_length_le (Nat.le_refl _),mps_snoc]
    refine List.ext_getElem (by simp) fun i h1 h2=>?_
    have hi:i < G.length + 1:=by simpa [mps_len] using h2
    simp only [mps,List.getElem_map,List.getElem_range,Go.Pv.ren,ren1,hp i hi]
   ·rw [mps_snoc]; exact mps_sc (by omega)
  ·have:=leH_seg (π:=π) (H:=PB G U) (B:=(G++[nul]).map mpB) (a:=3) (fun i hi=>hf i (by simpa using hi)) fun b hb=>by
    obtain ⟨f,_,rfl⟩:=List.mem_map.1 hb
    exact leB_mp f
   simpa using this
end
end Go.Proofs.Ytneglephfhiamaa

/-
  Graphs of words: the walk of folding. Conditions: none.
-/
set_option linter.all false
namespace Go.Proofs.Ytneglephfhiamaa
open Go.Pv

theorem tot_sn (L:List (List Int)) (w:List Int):tot (L++[w])=tot L + w.length:=by simp [tot]
theorem tot_tk (L:List (List Int)) (i:Nat):tot (L.take i)≤tot L:=by
 have:tot L=tot (L.take i) + tot (L.drop i):=by
  unfold tot
  rw [← List.length_append,← List.flatten_append,List.take_append_drop]
 omega
theorem take_snoc {α:Type} {L:List α} {i:Nat} {d:α} (h:i < L.length):L.take (i + 1)=L.take i++[L.getD i d]:=by
 rw [List.take_succ,List.getElem?_eq_getElem h,List.getD_eq_getElem?_getD,List.getElem?_eq_getElem h]; rfl

/-- Words whose letters are letters. -/
def Lt26 (w:List Int):Prop:=∀ x∈w,x ≠ 0∧-26≤x∧x≤26

theorem short_lt {w:List Int} (hw:Lt26 w):Lt26 (short w):=by
 have:∀ (w o:List Int),Lt26 w→Lt26 o→Lt26 (w.foldl push o):=by
  intro w
  induction w with
  | nil=>intro o _ ho; exact ho
  | cons x r ih =>
   intro o hw ho
   refine ih _ (fun y hy=>hw y (by simp [hy])) ?_
   unfold push
   split
   ·exact fun y hy=>ho y (List.mem_of_mem_take hy)
   ·intro y hy
    rcases List.mem_append.1 hy with h | h
    ·exact ho y h
    ·rw [List.mem_singleton] at h
     subst h
     exact hw _ (by simp)
 exact this w [] hw (fun x hx=>by simp at hx)

/-- An edge is put: in a region of its own. -/
theorem edge_E {G:List Mp} {U:List Int} {s:St} {o:Oper} {fo:Operand} {args:Array Operand} {ts:Array TypeId} (ho:o.op = .call { callee:=.value fo,args:=args,argTypes:=ts }) (hfo:s.ev fo = .p (.fn 79 []))
  (w:WG G U) (hk:G.length≤100000000) {a b:Nat} {x:Int} (ha:a < G.length) (hb:b < G.length) (hx:x ≠ 0∧-26≤x∧x≤26) (hs:SymW G U [(a,x,b),(b,-x,a)]) (hH:s.H=GB G U)
  (hargs:args.toList.map s.ev++([]:List PV).map .p=[.ptr 0 0,.p (.int .i64 a),.p (.int .i64 x),.p (.int .i64 b)]) :
  DoesE Try.prog o s (fun av H'=>av = .p (.tup [])∧∃ G' U',H' = GB G' U'∧WG G' U'∧Nxt G U [(a,x,b),(b,-x,a)] G' U' []):=by
 have:=call_doesEP (X:=[]) ho hfo (edge_c w hk ha hb hx hs) (by rw [hH,List.append_nil]) hargs (by rw [GB_len]; simp [scA,sc1]) GB_all GB_na (by
  rintro r H1 ⟨rfl,G',U',rfl,h2,h3⟩
  exact GB_scP h3.len)
 intro C m a w K Q R hK
 refine this C m a w K Q R fun v m' w' av H' ⟨H1,⟨e,G',U',e1,e2,e3⟩,e4⟩ R2 hv=>hK v m' w' av H' ⟨e,G',U',?_,e2,e3⟩ R2 hv
 rw [e4,e1,List.append_nil]

set_option maxHeartbeats 4000000 in
set_option maxRecDepth 20000 in
theorem fold_c (L:List (List Int)) (hL:∀ w∈L,w.length≤1000000000∧Lt26 w) (hn:L.length≤1000000) (hb:tot (L.map short)≤10000000) :
  FnE Try.prog 48 [.p (.list (ll L))] [] (fun r H=>r = .ptr 0 0∧∃ G U,H=GB G U∧G.length≤10000001∧FI (L.map short) G U (L.map short) 0 []):=by
 obtain ⟨Post,hP⟩:∃ Post:AV→Heap→Prop,Post=(fun r H=>r = .ptr 0 0∧∃ G U,H=GB G U∧G.length≤10000001∧FI (L.map short) G U (L.map short) 0 []):=⟨_,rfl⟩
 rw [← hP]
 obtain ⟨S,hS⟩:∃ S,L.map short=S:=⟨_,rfl⟩
 rw [hS] at hb hP
 have hSl:S.length=L.length:=by rw [← hS]; simp
 refine fne_of tab_ok Try.func48 rfl (by kernel_rfl) (by rw [Try.ntmps48]; exact Nat.le_add_left 1 _) ?_; rw [Try.ntmps48]; simp only [ancs,entA,List.length_cons,List.length_nil,List.cons_append,List.nil_append,Nat.reduceAdd,Nat.zero_add]
 refine qm ?_
 refine hk_region fun K hK=>runs_eval tab_ok ?_
 simp only [ev0,evA,evB,evP,fl,gp,tab,simprocAttr,reduceCtorEq,reduceIte]
 refine fin_run trivial (hK _ ?_)<;>clear hK<;>clear K
 refine qa (qm ?_)
 refine hk_region fun K hK=>runs_eval tab_ok ?_
 simp only [ev0,evA,evB,evP,fl,gp,tab,simprocAttr,reduceCtorEq,reduceIte]
 refine fin_run ?_ (hK _ ?_)<;>clear hK<;>clear K
 ·(first|exact trivial|omega|(simp only [In64] at *; omega)|(simp [In64] at *; omega)|(simp_all; done)|skip)
 refine qa (qm ?_)
 refine hk_own0c 0 0 rfl rfl ?_
 refine hk_own0c 0 1 rfl rfl ?_
 refine hk_region fun K hK=>runs_eval tab_ok ?_
 simp only [ev0,evA,evB,evP,fl,gp,tab,simprocAttr,reduceCtorEq,reduceIte]
 refine fin_stop ?_ (runs_place (G:=[]) (U:=[]) rfl (by decide) rfl rfl rfl rfl (by simp only [dstOk,Nat.reduceLT]) (runs_eval tab_ok ?_))
 ·exact trivial
 simp only [ev0,evA,evB,evP,fl,gp,tab,simprocAttr,reduceCtorEq,reduceIte]
 refine fin_run trivial (hK _ ?_)<;>clear hK<;>clear K
 refine qa (qm (qm ?_))
 refine hk_region fun K hK=>runs_eval tab_ok ?_
 simp only [ev0,evA,evB,evP,fl,gp,tab,simprocAttr,reduceCtorEq,reduceIte,ll_length]
 refine fin_run trivial (hK _ ?_)<;>clear hK<;>clear K
 refine qa (ql ?_)
 refine hk_loop (ι:=Nat × List Mp × List Int) (fun q=>⟨45,[(3,.ptr 0 0),(14,.p (.list (ll L))),(15,.p (.int .i64 L.length)),(16,.p (.int .i64 (q.1:Nat)))],GB q.2.1 q.2.2⟩) (fun q=>q.1≤L.length∧FI S q.2.1 q.2.2 (S.take q.1) 0 []∧q.2.1.length≤1 + tot (S.take q.1)) (fun q=>L.length - q.1) (0,[nul],[0]) ⟨Nat.zero_le _,fi_zero S,by simp [tot]⟩ _ (le_PB (G:=[]) (U:=[]) rfl rfl rfl rfl ?_) fun q hq=>?_
 ·exact ⟨rfl,rfl,rfl,rfl,rfl,rfl,rfl,rfl,trivial⟩
 obtain ⟨i,G,U⟩:=q
 obtain ⟨q1,q2,q3⟩:=hq
 simp only at q1 q2 q3 ⊢
 refine qm ?_
 refine hk_region fun K hK=>runs_eval tab_ok ?_
 simp only [ev0,evA,evB,evP,fl,gp,tab,simprocAttr,reduceCtorEq,reduceIte]
 refine fin_run trivial (hK _ ?_)<;>clear hK<;>clear K
 refine qa (qm ?_)
 refine hk_cond rfl (fun hC1=>?_) (fun hC1=>?_)
 ·(try simp only [nhs] at hC1)
  have hi:i < L.length:=by omega
  refine qh (qa (qm (ql (qm ?_))))
  refine hk_region fun K hK=>runs_eval tab_ok ?_
  simp only [ev0,evA,evB,evP,fl,gp,tab,simprocAttr,reduceCtorEq,reduceIte,ll_length,ll_get hi]
  refine fin_run ?_ (hK _ ?_)<;>clear hK<;>clear K
  ·omega
  refine qa (qm ?_)
  obtain ⟨hw1,hw2⟩:=hL (L.getD i []) (by rw [List.getD_eq_getElem?_getD,List.getElem?_eq_getElem hi]; exact List.getElem_mem hi)
  obtain ⟨w,hw⟩:∃ w,short (L.getD i [])=w:=⟨_,rfl⟩
  have hSi:S.getD i []=w:=by
   rw [← hS,← hw,List.getD_eq_getElem?_getD,List.getD_eq_getElem?_getD,List.getElem?_map,List.getElem?_eq_getElem hi]; rfl
  refine hk_region fun K hK=>runs_eval tab_ok ?_
  simp only [ev0,evA,evB,evP,fl,gp,tab,simprocAttr,reduceCtorEq,reduceIte,hw]
  refine fin_stop trivial (runs_call (short_c (L.getD i []) hw1 (fun x hx=>(hw2 x hx).2)) rfl rfl rfl (by simp only [dstOk,Nat.reduceLT]) (by repeat (first|exact trivial|constructor)) (runs_eval tab_ok ?_))
  simp only [ev0,evA,evB,evP,fl,gp,tab,simprocAttr,reduceCtorEq,reduceIte,hw]
  refine fin_run trivial (hK _ ?_)<;>clear hK<;>clear K
  refine qa (qm ?_)
  refine hk_region fun K hK=>runs_eval tab_ok ?_
  simp only [ev0,evA,evB,evP,fl,gp,tab,simprocAttr,reduceCtorEq,reduceIte]
  refine fin_run trivial (hK _ ?_)<;>clear hK<;>clear K
  refine qa (qm ?_)
  refine hk_region fun K hK=>runs_eval tab_ok ?_
  simp only [ev0,evA,evB,evP,fl,gp,tab,simprocAttr,reduceCtorEq,reduceIte,il_length]
  refine fin_run trivial (hK _ ?_)<;>clear hK<;>clear K
  refine qa (ql ?_)
  have hwl:Lt26 w:=hw ▸ short_lt hw2
  have htk:S.take (i + 1)=S.take i++[w]:=by rw [take_snoc (d:=[]) (by omega),hSi]
  have hmem:w∈S:=by rw [← hSi,List.getD_eq_getElem?_getD,List.getElem?_eq_getElem (by omega)]; exact List.getElem_mem _
  have htt:tot (S.take i) + w.length≤10000000:=by
   have:=tot_tk S (i + 1)
   rw [htk,tot_sn] at this
   omega
  refine hk_loop (ι:=Nat × Nat × List Mp × List Int) (fun q=>⟨45,[(3,.ptr 0 0),(5,.p (.list (il w))),(6,.p (.int .i64 (q.2.1:Nat))),(14,.p (.list (ll L))),(15,.p (.int .i64 L.length)),(16,.p (.int .i64 (i:Nat))),(22,.p (.list (il w))),(23,.p (.int .i64 w.length)),(24,.p (.int .i64 (q.1:Nat)))],GB q.2.2.1 q.2.2.2⟩)
   (fun q=>q.1≤w.length∧q.2.2.1.length≤1 + tot (S.take i) + q.1∧(q.1 < w.length→FI S q.2.2.1 q.2.2.2 (S.take i) q.2.1 (w.take q.1))∧(q.1=w.length→FI S q.2.2.1 q.2.2.2 (S.take (i + 1)) 0 [])) (fun q=>w.length - q.1) (0,0,G,U) ⟨Nat.zero_le _,q3,fun _=>q2,fun e=>?_⟩ (List.range (GB G U).length) (le_same rfl rfl (fun b hb=>(List.all_eq_true.1 GB_all) b hb) ?_) fun q hq=>?_
  ·have:w=[]:=List.eq_nil_of_length_eq_zero e.symm
   rw [htk,this]
   exact q2.nil
  ·simp [St.get,lk,scA,sc1,GB_len]
  obtain ⟨j,v,G1,U1⟩:=q
  obtain ⟨j1,j2,j3,j4⟩:=hq
  simp only at j1 j2 j3 j4 ⊢
  refine qm ?_
  refine hk_region fun K hK=>runs_eval tab_ok ?_
  simp only [ev0,evA,evB,evP,fl,gp,tab,simprocAttr,reduceCtorEq,reduceIte]
  refine fin_run trivial (hK _ ?_)<;>clear hK<;>clear K
  refine qa (qm ?_)
  refine hk_cond rfl (fun hC2=>?_) (fun hC2=>?_)
  ·(try simp only [nhs] at hC2)
   have hj:j < w.length:=by omega
   have f1:=j3 hj
   obtain ⟨x,hx⟩:∃ x,w.getD j 0=x:=⟨_,rfl⟩
   have hx3:x ≠ 0∧-26≤x∧x≤26:=hwl x (by rw [← hx,List.getD_eq_getElem?_getD,List.getElem?_eq_getElem hj]; exact List.getElem_mem hj)
   have hws:w.take (j + 1)=w.take j++[x]:=by rw [take_snoc (d:=0) hj,hx]
   refine qh (qa (qm (ql (qm ?_))))
   refine hk_region fun K hK=>runs_eval tab_ok ?_
   simp only [ev0,evA,evB,evP,fl,gp,tab,simprocAttr,reduceCtorEq,reduceIte,il_length,il_get hj,hx]
   refine fin_run ?_ (hK _ ?_)<;>clear hK<;>clear K
   ·omega
   refine qa (qm ?_)
   refine hk_region fun K hK=>runs_eval tab_ok ?_
   simp only [ev0,evA,evB,evP,fl,gp,tab,simprocAttr,reduceCtorEq,reduceIte]
   refine fin_run trivial (hK _ ?_)<;>clear hK<;>clear K
   refine qa (qm (qm ?_))
   refine hk_region fun K hK=>runs_eval tab_ok ?_
   simp only [ev0,evA,evB,evP,fl,gp,tab,simprocAttr,reduceCtorEq,reduceIte,il_length]
   refine fin_run ?_ (hK _ ?_)<;>clear hK<;>clear K
   ·(first|exact trivial|omega|(simp only [In64] at *; omega)|(simp [In64] at *; omega)|(simp_all; done)|skip)
   refine qa ?_
   refine hk_cond rfl (fun hC3=>?_) (fun hC3=>?_)
   ·(try simp only [nhs] at hC3)
    refine hk_region fun K hK=>runs_eval tab_ok ?_
    simp only [ev0,evA,evB,evP,fl,gp,tab,simprocAttr,reduceCtorEq,reduceIte]
    refine fin_stop ?_ (runs_place (G:=G1) (U:=U1) f1.wg.len (by omega) rfl rfl rfl rfl (by simp only [dstOk,Nat.reduceLT]) (runs_eval tab_ok ?_))
    ·exact trivial
    simp only [ev0,evA,evB,evP,fl,gp,tab,simprocAttr,reduceCtorEq,reduceIte]
    refine fin_run trivial (hK _ ?_)<;>clear hK<;>clear K
    refine qa (qm ?_)
    refine hk_le (s1:=⟨45,[(3,.ptr 0 0),(5,.p (.list (il w))),(6,.p (.int .i64 (v:Nat))),(8,.p (.int .i64 x)),(9,.p (.int .i64 (G1.length:Nat))),(14,.p (.list (ll L))),(15,.p (.int .i64 L.length)),(16,.p (.int .i64 (i:Nat))),(22,.p (.list (il w))),(23,.p (.int .i64 w.length)),(24,.p (.int .i64 (j:Nat)))],GB (G1++[nul]) (U1++[(U1.length:Int)])⟩) _ (le_PB f1.wg.len rfl rfl rfl ?_) ?_
    ·refine ⟨rfl,rfl,rfl,rfl,rfl,rfl,rfl,rfl,?_,rfl,rfl,rfl,rfl,rfl,rfl,rfl,rfl,rfl,rfl,rfl,rfl,rfl,trivial⟩
     show AV.p (.int .i64 (U1.length:Nat))=_
     rw [f1.wg.len]; rfl
    refine hk_regE 4 (runs_cut fun K hK=>?_)
    simp only [List.take_succ_cons,List.take_zero]
    refine runs_eval tab_ok ?_
    simp only [ev0,evA,evB,evP,fl,gp,tab,simprocAttr,reduceCtorEq,reduceIte]
    refine fin_run trivial (hK _ ?_)<;>clear hK<;>clear K
    have hgl:(G1++[nul]).length=G1.length + 1:=by simp
    have hvl:=f1.lt
    refine ⟨_,_,rfl,rfl,by simp only [dstOk,Nat.reduceLT],edge_E rfl rfl f1.wg.place (by omega) (a:=v) (b:=G1.length) (x:=x) (by omega) (by omega) hx3 (sym_add (sym_place f1.wg f1.sym) _ _ _) rfl rfl,fun av H' hO=>?_⟩
    obtain ⟨rfl,G2,U2,rfl,w2,nx⟩:=hO
    refine runs_cut fun K hK=>?_
    simp only [List.drop_succ_cons,List.drop_zero]
    refine runs_eval tab_ok ?_
    simp only [ev0,evA,evB,evP,fl,gp,tab,simprocAttr,reduceCtorEq,reduceIte]
    refine fin_run trivial (hK _ ?_)<;>clear hK<;>clear K
    refine qa ?_
    refine hk_region fun K hK=>runs_eval tab_ok ?_
    simp only [ev0,evA,evB,evP,fl,gp,tab,simprocAttr,reduceCtorEq,reduceIte]
    refine fin_run trivial (hK _ ?_)<;>clear hK<;>clear K
    refine qd (qa ?_)
    refine hk_region fun K hK=>runs_eval tab_ok ?_
    simp only [ev0,evA,evB,evP,fl,gp,tab,simprocAttr,reduceCtorEq,reduceIte]
    refine fin_run ?_ (hK _ ?_)<;>clear hK<;>clear K
    ·(first|exact trivial|omega|(simp only [In64] at *; omega)|(simp [In64] at *; omega)|(simp_all; done)|skip)
    refine qa ?_
    have hl2:=nx.len
    rw [hgl] at hl2
    refine ⟨(j + 1,G1.length,G2,U2),List.range (GB G2 U2).length,⟨by simp only; omega,by simp only; omega,fun _=>?_,fun h=>?_⟩,by simp only; omega,le_same rfl rfl (fun b hb=>(List.all_eq_true.1 GB_all) b hb) ?_⟩
    ·simp only
     rw [hws]; exact f1.put hx3.1 (r:=w.drop (j + 1)) (by rw [← hws,List.take_append_drop]; exact hmem) w2 nx
    ·simp only at h; omega
    ·simp [St.get,lk,scA,sc1,GB_len]
   ·(try simp only [nhs] at hC3)
    refine qh (qa (qm ?_))
    refine hk_regE 4 (runs_cut fun K hK=>?_)
    simp only [List.take_succ_cons,List.take_zero]
    refine runs_eval tab_ok ?_
    simp only [ev0,evA,evB,evP,fl,gp,tab,simprocAttr,reduceCtorEq,reduceIte]
    refine fin_run trivial (hK _ ?_)<;>clear hK<;>clear K
    have hvl:=f1.lt
    refine ⟨_,_,rfl,rfl,by simp only [dstOk,Nat.reduceLT],edge_E rfl rfl f1.wg (by omega) (a:=v) (b:=0) (x:=x) (by omega) (by omega) hx3 (sym_add f1.sym _ _ _) rfl rfl,fun av H' hO=>?_⟩
    obtain ⟨rfl,G2,U2,rfl,w2,nx⟩:=hO
    refine runs_cut fun K hK=>?_
    simp only [List.drop_succ_cons,List.drop_zero]
    refine runs_eval tab_ok ?_
    simp only [ev0,evA,evB,evP,fl,gp,tab,simprocAttr,reduceCtorEq,reduceIte]
    refine fin_run trivial (hK _ ?_)<;>clear hK<;>clear K
    refine qa ?_
    refine hk_region fun K hK=>runs_eval tab_ok ?_
    simp only [ev0,evA,evB,evP,fl,gp,tab,simprocAttr,reduceCtorEq,reduceIte]
    refine fin_run trivial (hK _ ?_)<;>clear hK<;>clear K
    refine qd (qa ?_)
    refine hk_region fun K hK=>runs_eval tab_ok ?_
    simp only [ev0,evA,evB,evP,fl,gp,tab,simprocAttr,reduceCtorEq,reduceIte]
    refine fin_run ?_ (hK _ ?_)<;>clear hK<;>clear K
    ·(first|exact trivial|omega|(simp only [In64] at *; omega)|(simp [In64] at *; omega)|(simp_all; done)|skip)
    refine qa ?_
    have hl2:=nx.len
    have hje:j + 1=w.length:=by omega
    have hwt:w.take j++[x]=w:=by rw [← hws,hje,List.take_length]
    refine ⟨(j + 1,0,G2,U2),List.range (GB G2 U2).length,⟨by simp only; omega,by simp only; omega,fun h=>?_,fun _=>?_⟩,by simp only; omega,le_same rfl rfl (fun b hb=>(List.all_eq_true.1 GB_all) b hb) ?_⟩
    ·simp only at h; omega
    ·have:=f1.back hx3.1 (by rw [hwt]; exact hmem) w2 nx
     rw [hwt] at this
     rw [htk]; exact this
    ·simp [St.get,lk,scA,sc1,GB_len]
  ·(try simp only [nhs] at hC2)
   refine qj (qc (qc (qf (qd (qa ?_)))))
   refine hk_region fun K hK=>runs_eval tab_ok ?_
   simp only [ev0,evA,evB,evP,fl,gp,tab,simprocAttr,reduceCtorEq,reduceIte]
   refine fin_run ?_ (hK _ ?_)<;>clear hK<;>clear K
   ·(first|exact trivial|omega|(simp only [In64] at *; omega)|(simp [In64] at *; omega)|(simp_all; done)|skip)
   refine qa ?_
   have hje:j=w.length:=by omega
   refine ⟨(i + 1,G1,U1),List.range (GB G1 U1).length,⟨by simp only; omega,j4 hje,?_⟩,by simp only; omega,le_same rfl rfl (fun b hb=>(List.all_eq_true.1 GB_all) b hb) ?_⟩
   ·simp only
    rw [htk,tot_sn]; omega
   ·simp [St.get,lk,scA,sc1,GB_len]
 ·(try simp only [nhs] at hC1)
  refine qj (qc (qc (qf (qa (qm ?_)))))
  refine hk_region fun K hK=>runs_eval tab_ok ?_
  simp only [ev0,evA,evB,evP,fl,gp,tab,simprocAttr,reduceCtorEq,reduceIte]
  refine fin_run trivial (hK _ ?_)<;>clear hK<;>clear K
  refine qa (qk ?_)
  simp only [Try.results48,PostG,endG,rvsA,rvA,mkTup,ev0,evA,evB,evP,fl,gp,tab,simprocAttr,reduceCtorEq,reduceIte]
  have hie:i=L.length:=by omega
  have hSt:S.take i=S:=List.take_of_length_le (by omega)
  rw [hSt] at q2 q3
  refine ⟨.ptr 0 0,GB G U,by rw [hP]; exact ⟨rfl,G,U,rfl,by omega,q2⟩,List.range (GB G U).length,?_,?_,le_same rfl rfl (fun b hb=>(List.all_eq_true.1 GB_all) b hb) ?_⟩
  ·exact (ren_id (by simp [scA,sc1,GB_len])).symm
  ·simp [scA,sc1,GB_len]
  ·intro p hp; cases hp
end Go.Proofs.Ytneglephfhiamaa

/-
  Graphs of words: the walk of following a word. Conditions: none.
-/
set_option linter.all false
namespace Go.Proofs.Ytneglephfhiamaa
open Go.Pv

/-- Where a word leads, and which roads were shortened. -/
def folS (G:List Mp):List Int→List Int→Nat→Option Nat × List Int
 | [],U,v=>(some v,U)
 | x :: w,U,v=>match gm G v x with | none=>(none,U) | some d=>folS G w (ofU U d.toNat) (rV U d.toNat)
def intO:Option Nat→Int
 | none=>-1
 | some v=>(v:Int)
/-- The step along a letter. -/
def stp (G:List Mp) (U:List Int) (u:Nat) (x:Int):Option Nat:=(gm G u x).map fun d=>rV U d.toNat
theorem folS_run {G:List Mp} {U0:List Int} : ∀ (w U:List Int) (v:Nat),WG G U→(∀ u,u < G.length→rV U u=rV U0 u)→v < G.length →
  (folS G w U v).1=runW (stp G U0) v w∧WG G (folS G w U v).2∧(∀ u,u < G.length→rV (folS G w U v).2 u=rV U0 u)
 | [],U,v,h,hr,hv=>⟨rfl,h,hr⟩
 | x :: w,U,v,h,hr,hv=>by
  unfold folS runW stp
  cases e:gm G v x with
  | none=>exact ⟨rfl,h,hr⟩
  | some d =>
   have hd:=(h.ent v x d hv e).2.1
   simp only [Option.map_some]
   have:=folS_run (U0:=U0) w (ofU U d.toNat) (rV U d.toNat) (h.of hd) (fun u hu=>by rw [h.ofr hd u hu]; exact hr u hu) (h.rlt hd)
   rw [← hr _ hd]
   exact this

section
variable {G:List Mp} {U:List Int}

set_option maxHeartbeats 4000000 in
set_option maxRecDepth 20000 in
theorem follow_c (w:WG G U) (hk:G.length≤100000000) {v:Nat} (hv:v < G.length) (wd:List Int) (hw:wd.length≤1000000000) :
  FnM Try.prog 62 [.ptr 0 0,.p (.int .i64 v),.p (.list (il wd))] (GB G U) (.p (.int .i64 (intO (folS G wd (ofU U v) (rV U v)).1))) (GB G (folS G wd (ofU U v) (rV U v)).2):=by
 unfold GB
 refine fnm_of tab_ok Try.func62 rfl (by kernel_rfl) (by rw [Try.ntmps62]; exact Nat.le_add_left 3 _) ?_; rw [Try.ntmps62]; simp only [ancs,entA,List.length_cons,List.length_nil,List.cons_append,List.nil_append,Nat.reduceAdd,Nat.zero_add]
 have hXl:(.anc 0 0 :: .anc 1 1 :: .anc 2 2 :: ancs 3 (G.map mpB).length:Heap).length=G.length + 3:=by simp [ancs_length]
 have hXs:∀ L,G.length + 3≤L→∀ b∈(.anc 0 0 :: .anc 1 1 :: .anc 2 2 :: ancs 3 (G.map mpB).length:Heap),hsc L b=true:=fun L hL b hb=>by
  have:(.anc 0 0 :: .anc 1 1 :: .anc 2 2 :: ancs 3 (G.map mpB).length:Heap)=ancs 0 (G.length + 3):=by rw [G_len]; rfl
  rw [this] at hb
  exact ancs_hsc (by omega) b hb
 generalize (.anc 0 0 :: .anc 1 1 :: .anc 2 2 :: ancs 3 (G.map mpB).length:Heap)=X at hXl hXs ⊢
 have hGBk:∀ (U2:List Int),U2.length=U.length→GB G U2++X = .own [.sl 1 0 G.length,.sl 2 0 U.length] :: .own (mps G.length) :: .own (ol U2) :: (G.map mpB++X):=fun U2 h=>by
  unfold GB; rw [h]; rfl
 have hBs:∀ (U2:List Int),∀ b∈(GB G U2++X),hsc (GB G U2++X).length b=true:=fun U2=>by
  have:(GB G U2++X).length=G.length + 3 + (G.length + 3):=by rw [List.length_append,GB_len,hXl]
  rw [this]
  exact GB_hscX (by omega) (hXs _ (by omega))
 have hBl:∀ (U2:List Int),(GB G U2++X).length=G.length + 3 + (G.length + 3):=fun U2=>by rw [List.length_append,GB_len,hXl]
 obtain ⟨U1,hU1⟩:∃ U1,ofU U v=U1:=⟨_,rfl⟩
 have w1:WG G U1:=hU1 ▸ w.of hv
 obtain ⟨v1,hv1⟩:∃ v1,rV U v=v1:=⟨_,rfl⟩
 have hv1l:v1 < G.length:=hv1 ▸ w.rlt hv
 have r1:∀ u,u < G.length→rV U1 u=rV U u:=hU1 ▸ w.ofr hv
 rw [hU1,hv1]
 refine qm ?_
 refine hk_region fun K hK=>runs_eval tab_ok ?_
 simp only [ev0,evA,evB,evP,fl,gp,tab,simprocAttr,reduceCtorEq,reduceIte]
 refine fin_run trivial (hK _ ?_)<;>clear hK<;>clear K
 refine qa (qm ?_)
 refine hk_region fun K hK=>runs_eval tab_ok ?_
 simp only [ev0,evA,evB,evP,fl,gp,tab,simprocAttr,reduceCtorEq,reduceIte]
 refine fin_stop ?_ (runs_of (U:=U) (X:=X) w (by omega) (v:=v) (by omega) rfl rfl rfl rfl (by simp only [dstOk,Nat.reduceLT]) (runs_eval tab_ok ?_))
 ·exact trivial
 simp only [hU1,hv1,ev0,evA,evB,evP,fl,gp,tab,simprocAttr,reduceCtorEq,reduceIte]
 refine fin_run trivial (hK _ ?_)<;>clear hK<;>clear K
 refine qa (qm (qm ?_))
 refine hk_region fun K hK=>runs_eval tab_ok ?_
 simp only [ev0,evA,evB,evP,fl,gp,tab,simprocAttr,reduceCtorEq,reduceIte,il_length]
 refine fin_run trivial (hK _ ?_)<;>clear hK<;>clear K
 refine qa (ql ?_)
 refine hk_loop (ι:=Nat × Nat × List Int) (fun q=>⟨39,[(0,.ptr 0 0),(1,.p (.int .i64 (q.2.1:Nat))),(14,.p (.list (il wd))),(15,.p (.int .i64 wd.length)),(16,.p (.int .i64 (q.1:Nat)))],GB G q.2.2++X⟩) (fun q=>q.1≤wd.length∧q.2.1 < G.length∧WG G q.2.2∧folS G wd U1 v1=folS G (wd.drop q.1) q.2.2 q.2.1) (fun q=>wd.length - q.1) (0,v1,U1) ⟨Nat.zero_le _,hv1l,w1,rfl⟩ (List.range (GB G U1++X).length) (le_same rfl rfl (hBs U1) (by
  rw [hBl]
  simp [St.get,lk,scA,sc1]; omega)) fun q hq=>?_
 obtain ⟨i,u,U2⟩:=q
 obtain ⟨q1,q2,w2,q3⟩:=hq
 simp only at q1 q2 w2 q3 ⊢
 have hU2:U2.length=U.length:=by rw [w2.len,w.len]
 rw [hGBk U2 hU2]
 refine qm ?_
 refine hk_region fun K hK=>runs_eval tab_ok ?_
 simp only [ev0,evA,evB,evP,fl,gp,tab,simprocAttr,reduceCtorEq,reduceIte]
 refine fin_run trivial (hK _ ?_)<;>clear hK<;>clear K
 refine qa (qm ?_)
 refine hk_cond rfl (fun hC1=>?_) (fun hC1=>?_)
 ·(try simp only [nhs] at hC1)
  have hi:i < wd.length:=by omega
  have hdr:wd.drop i=wd.getD i 0 :: wd.drop (i + 1):=by
   rw [List.drop_eq_getElem_cons hi,List.getD_eq_getElem?_getD,List.getElem?_eq_getElem hi]; rfl
  obtain ⟨x,hx⟩:∃ x,wd.getD i 0=x:=⟨_,rfl⟩
  rw [hx] at hdr
  rw [hdr] at q3
  refine qh (qa (qm (ql (qm ?_))))
  refine hk_region fun K hK=>runs_eval tab_ok ?_
  simp only [ev0,evA,evB,evP,fl,gp,tab,simprocAttr,reduceCtorEq,reduceIte,il_length,il_get hi,hx]
  refine fin_run ?_ (hK _ ?_)<;>clear hK<;>clear K
  ·omega
  refine qa (qm ?_)
  have gM:∀ Y:Heap,hget (G.map mpB++Y) u=mpB (gm G u):=fun Y=>hget_G (by omega)
  have hlk:(bif (gm G u x).isSome then PV.int .i64 ((gm G u x).getD 0) else PV.int .i64 0)=PV.int .i64 ((gm G u x).getD 0):=by cases gm G u x<;>rfl
  refine hk_region fun K hK=>runs_eval tab_ok ?_
  simp only [ev0,evA,evB,evP,fl,gp,tab,simprocAttr,reduceCtorEq,reduceIte,mps_get q2,gM,mpB,hlk,Int.toNat_natCast,mps_len,Int.ofNat_eq_natCast]
  refine fin_run ?_ (hK _ ?_)<;>clear hK<;>clear K
  ·exact ⟨⟨by omega,by omega⟩,q2⟩
  refine qa (qm (qm ?_))
  refine hk_region fun K hK=>runs_eval tab_ok ?_
  simp only [ev0,evA,evB,evP,fl,gp,tab,simprocAttr,reduceCtorEq,reduceIte]
  refine fin_run trivial (hK _ ?_)<;>clear hK<;>clear K
  refine qa ?_
  refine hk_cond rfl (fun hC2=>?_) (fun hC2=>?_)
  ·(try simp only [nhs] at hC2)
   refine qm ?_
   refine hk_region fun K hK=>runs_eval tab_ok ?_
   simp only [ev0,evA,evB,evP,fl,gp,tab,simprocAttr,reduceCtorEq,reduceIte]
   refine fin_run trivial (hK _ ?_)<;>clear hK<;>clear K
   refine qa (qk (qb (qe (qb (qb (qe (qb ?_)))))))
   simp only [Try.results62,PostG,endG,rvsA,rvA,mkTup,ev0,evA,evB,evP,fl,gp,tab,simprocAttr,reduceCtorEq,reduceIte]
   have hn:gm G u x=none:=by simpa using hC2
   simp only [folS,hn] at q3
   rw [q3]
   exact ⟨List.range (G.length + 3 + (G.length + 3)),rfl,rfl,le_stay (B:=GB G U2++X) rfl (hBl U2) rfl ((hBl U2) ▸ hBs U2) (fun i hi=>congrArg (fun H=>hget H i) (hGBk U2 hU2).symm) trivial⟩
  ·(try simp only [nhs] at hC2)
   obtain ⟨c,hc⟩:∃ c,gm G u x=some c:=Option.isSome_iff_exists.1 (by simpa using hC2)
   obtain ⟨e0,e1,_⟩:=w2.ent u x c q2 hc
   obtain ⟨d,rfl⟩:=Int.eq_ofNat_of_zero_le e0
   rw [Int.toNat_natCast] at e1
   simp only [hc,Option.getD_some,Option.isSome_some,cond_true,Int.ofNat_eq_natCast]
   simp only [folS,hc,Int.ofNat_eq_natCast,Int.toNat_natCast] at q3
   obtain ⟨U3,hU3⟩:∃ U3,ofU U2 d=U3:=⟨_,rfl⟩
   have w3:WG G U3:=hU3 ▸ w2.of e1
   obtain ⟨u3,hu3⟩:∃ u3,rV U2 d=u3:=⟨_,rfl⟩
   have hu3l:u3 < G.length:=hu3 ▸ w2.rlt e1
   rw [hU3,hu3] at q3
   refine qh (qa ?_)
   refine hk_region fun K hK=>runs_eval tab_ok ?_
   simp only [ev0,evA,evB,evP,fl,gp,tab,simprocAttr,reduceCtorEq,reduceIte]
   refine fin_stop ?_ (runs_of (U:=U2) (X:=X) w2 (by omega) (v:=d) e1 rfl rfl (hGBk U2 hU2).symm rfl (by simp only [dstOk,Nat.reduceLT]) (runs_eval tab_ok ?_))
   ·exact trivial
   simp only [hU3,hu3,ev0,evA,evB,evP,fl,gp,tab,simprocAttr,reduceCtorEq,reduceIte]
   refine fin_run trivial (hK _ ?_)<;>clear hK<;>clear K
   refine qd (qa ?_)
   refine hk_region fun K hK=>runs_eval tab_ok ?_
   simp only [ev0,evA,evB,evP,fl,gp,tab,simprocAttr,reduceCtorEq,reduceIte]
   refine fin_run ?_ (hK _ ?_)<;>clear hK<;>clear K
   ·(first|exact trivial|omega|(simp only [In64] at *; omega)|(simp [In64] at *; omega)|(simp_all; done)|skip)
   refine qa ?_
   refine ⟨(i + 1,u3,U3),List.range (GB G U3++X).length,⟨by simp only; omega,hu3l,w3,q3⟩,by simp only; omega,le_same rfl rfl (hBs U3) ?_⟩
   rw [hBl]
   simp [St.get,lk,scA,sc1]; omega
 ·(try simp only [nhs] at hC1)
  refine qj (qc (qc (qf (qa (qm ?_)))))
  refine hk_region fun K hK=>runs_eval tab_ok ?_
  simp only [ev0,evA,evB,evP,fl,gp,tab,simprocAttr,reduceCtorEq,reduceIte]
  refine fin_run trivial (hK _ ?_)<;>clear hK<;>clear K
  refine qa (qk ?_)
  simp only [Try.results62,PostG,endG,rvsA,rvA,mkTup,ev0,evA,evB,evP,fl,gp,tab,simprocAttr,reduceCtorEq,reduceIte]
  have hie:i=wd.length:=by omega
  rw [hie,List.drop_length,folS] at q3
  rw [q3]
  exact ⟨List.range (G.length + 3 + (G.length + 3)),rfl,rfl,le_stay (B:=GB G U2++X) rfl (hBl U2) rfl ((hBl U2) ▸ hBs U2) (fun i hi=>congrArg (fun H=>hget H i) (hGBk U2 hU2).symm) trivial⟩
end
end Go.Proofs.Ytneglephfhiamaa

/-
  Graphs of words: whose words lead back. Conditions: none.
-/
set_option linter.all false
namespace Go.Proofs.Ytneglephfhiamaa
open Go.Pv

/-- The step along a letter, between places that stand for themselves. -/
def stR (G:List Mp) (U:List Int) (u:Nat) (x:Int):Option Nat:=if u < G.length∧rV U u=u then stp G U u x else none
def InvS {X:Type} (step:X→Int→Option X):Prop:=∀ c d x,x ≠ 0→step c x=some d→step d (-x)=some c
/-- A word that leads back wherever the words do. -/
def Mem (S:List (List Int)) (w:List Int):Prop:=∀ (X:Type) (step:X→Int→Option X) (x0:X),InvS step→(∀ u∈S,runW step x0 u=some x0)→runW step x0 w=some x0

section
variable {G:List Mp} {U:List Int}
theorem stp_root (w:WG G U) {u d:Nat} {x:Int} (hu:u < G.length) (h:stp G U u x=some d):d < G.length∧rV U d=d:=by
 unfold stp at h
 cases e:gm G u x with
 | none=>rw [e] at h; cases h
 | some c =>
  rw [e] at h
  obtain rfl:=Option.some.inj h
  have hc:=(w.ent u x c hu e).2.1
  exact ⟨w.rlt hc,w.idem hc⟩
theorem stR_of {u:Nat} (h:u < G.length∧rV U u=u) (x:Int):stR G U u x=stp G U u x:=if_pos h
theorem runW_stR (w:WG G U):∀ (l:List Int) (u:Nat),u < G.length∧rV U u=u→runW (stp G U) u l=runW (stR G U) u l
 | [],_,_=>rfl
 | x :: l,u,h=>by
  unfold runW
  rw [stR_of h]
  cases e:stp G U u x with
  | none=>rfl
  | some d=>exact runW_stR w l d (stp_root w h.1 e)
theorem stp_ed (w:WG G U) {u d:Nat} {x:Int} (h:u < G.length∧rV U u=u) (hd:rV U d=d):stp G U u x=some d↔Ed G U u x d:=by
 unfold stp Ed
 rw [h.2,hd]
 constructor
 ·intro e
  cases e2:gm G u x with
  | none=>rw [e2] at e; cases e
  | some c=>rw [e2] at e; exact ⟨c,rfl,Option.some.inj e⟩
 ·rintro ⟨c,a,b⟩
  rw [a]; exact congrArg some b
theorem stR_inv (w:WG G U) (hs:SymW G U []):InvS (stR G U):=fun c d x hx h=>by
 unfold stR at h
 split at h
 ·rename_i hc
  have hd:=stp_root w hc.1 h
  have he:=(stp_ed w hc hd.2).1 h
  rw [stR_of hd]
  exact (stp_ed w hd hc.2).2 (pe_nil.1 (hs _ _ _ hc.1 hd.1 (pe_nil.2 he)))
 ·cases h
theorem pth_run (w:WG G U):∀ (l:List Int) (u v:Nat),u < G.length→v < G.length→Pth G U u l v→runW (stR G U) (rV U u) l=some (rV U v)
 | [],u,v,hu,hv,h=>congrArg some h
 | x :: l,u,v,hu,hv,⟨m,hm,he,hp⟩=>by
  unfold runW
  have hr:rV U u < G.length∧rV U (rV U u)=rV U u:=⟨w.rlt hu,w.idem hu⟩
  have h1:stR G U (rV U u) x=some (rV U m):=by
   rw [stR_of hr]
   exact (stp_ed w hr (w.idem hm)).2 (he.mv hr.2.symm (w.idem hm).symm)
  rw [h1]
  exact pth_run w l m v hm hv hp
theorem run_cmp {X:Type} {step:X→Int→Option X} {κ:Nat→X} (w:WG G U) (h:Cmp step κ G U []):∀ (l:List Int) (u v:Nat),u < G.length→runW (stR G U) u l=some v→runW step (κ u) l=some (κ v)
 | [],u,v,hu,e=>by
  obtain rfl:=Option.some.inj e
  rfl
 | x :: l,u,v,hu,e=>by
  unfold runW at e ⊢
  cases e2:stR G U u x with
  | none=>rw [e2] at e; cases e
  | some d =>
   rw [e2] at e
   unfold stR at e2
   split at e2
   ·rename_i hr
    have hd:=stp_root w hr.1 e2
    have he:=(stp_ed w hr hd.2).1 e2
    rw [h.2 u x d hu hd.1 (pe_nil.2 he)]
    exact run_cmp w h l d v hd.1 e
   ·cases e2
/-- Words that lead back in the folded graph are those of the subgroup. -/
theorem fi_mem {S:List (List Int)} (h:FI S G U S 0 []) (l:List Int):runW (stR G U) 0 l=some 0↔Mem S l:=by
 have hz:rV U 0=0:=rV_zero h.wg.fo (by rw [h.wg.len]; exact h.pos)
 constructor
 ·intro e X step x0 hi hc
  obtain ⟨κ,k1,k2,_⟩:=h.uni X step x0 hi hc
  have:=run_cmp h.wg k2 l 0 0 h.pos e
  rwa [k1] at this
 ·intro hm
  refine hm Nat (stR G U) 0 (stR_inv h.wg h.sym) fun u hu=>?_
  have:=pth_run h.wg u 0 0 h.pos h.pos (h.cl u hu)
  rwa [hz] at this
theorem fi_fol {S:List (List Int)} (h:FI S G U S 0 []) (l:List Int):((folS G l (ofU U 0) (rV U 0)).1=some (rV U 0))↔Mem S l:=by
 have hz:rV U 0=0:=rV_zero h.wg.fo (by rw [h.wg.len]; exact h.pos)
 obtain ⟨e,_⟩:=folS_run (U0:=U) l (ofU U 0) (rV U 0) (h.wg.of h.pos) (h.wg.ofr h.pos) (h.wg.rlt h.pos)
 rw [e,hz,runW_stR h.wg l 0 ⟨h.pos,hz⟩]
 exact fi_mem h l
end
end Go.Proofs.Ytneglephfhiamaa

/-
  The reference's graphs: lists of edges; what folding keeps of them. Conditions: none.
-/
set_option linter.all false
namespace Go.Proofs.Ytneglephfhiamaa
open Go.Pv

/-- An edge along a letter, either way. -/
def Re (e:List E3) (u:Nat) (x:Int) (v:Nat):Prop:=(0 < x∧(u,x,v)∈e)∨(x < 0∧(v,-x,u)∈e)
theorem Re.rev {e:List E3} {u v:Nat} {x:Int} (h:Re e u x v):Re e v (-x) u:=by
 rcases h with ⟨h1,h2⟩ | ⟨h1,h2⟩
 ·exact .inr ⟨by omega,by rw [Int.neg_neg]; exact h2⟩
 ·exact .inl ⟨by omega,h2⟩
def PthE (e:List E3):Nat→List Int→Nat→Prop
 | u,[],v=>u=v
 | u,x :: w,v=>∃ m,Re e u x m∧PthE e m w v
/-- One place for another. -/
def rho (a b:Nat) (u:Nat):Nat:=if u=b then a else u
def rhoE (a b:Nat) (t:E3):E3:=(rho a b t.1,t.2.1,rho a b t.2.2)

theorem Re.map {e f:List E3} {a b:Nat} (h:∀ t∈e,rhoE a b t∈f) {u v:Nat} {x:Int} (hr:Re e u x v):Re f (rho a b u) x (rho a b v):=by
 rcases hr with ⟨h1,h2⟩ | ⟨h1,h2⟩
 ·exact .inl ⟨h1,h _ h2⟩
 ·exact .inr ⟨h1,h _ h2⟩
theorem PthE.map {e f:List E3} {a b:Nat} (h:∀ t∈e,rhoE a b t∈f):∀ {w:List Int} {u v:Nat},PthE e u w v→PthE f (rho a b u) w (rho a b v)
 | [],_,_,hp=>congrArg _ hp
 | x :: w,_,_,⟨m,h1,h2⟩=>⟨rho a b m,h1.map h,PthE.map h h2⟩
theorem PthE.mono {e f:List E3} (h:∀ t∈e,t∈f):∀ {w:List Int} {u v:Nat},PthE e u w v→PthE f u w v
 | [],_,_,hp=>hp
 | x :: w,_,_,⟨m,h1,h2⟩=>⟨m,h1.imp (fun ⟨p,q⟩=>⟨p,h _ q⟩) (fun ⟨p,q⟩=>⟨p,h _ q⟩),PthE.mono h h2⟩

/-- The values of places agree with the edges. -/
def CmpE {X:Type} (step:X→Int→Option X) (κ:Nat→X) (e:List E3):Prop:=∀ t∈e,step (κ t.1) t.2.1=some (κ t.2.2)
def UniE (S:List (List Int)) (e:List E3):Prop:=∀ (X:Type) (step:X→Int→Option X) (x0:X),InvS step→(∀ w∈S,runW step x0 w=some x0)→∃ κ:Nat→X,κ 0=x0∧CmpE step κ e
/-- Two places must be one. -/
def Clash (e:List E3) (a b:Nat):Prop:=∃ s∈e,∃ t∈e,s.2.1=t.2.1∧((s.1=t.1∧s.2.2=a∧t.2.2=b)∨(s.2.2=t.2.2∧s.1=a∧t.1=b))

theorem cmpE_clash {X:Type} {step:X→Int→Option X} {κ:Nat→X} {e:List E3} {a b:Nat} (hi:InvS step) (hp:∀ t∈e,0 < t.2.1) (h:CmpE step κ e) (hc:Clash e a b):κ a=κ b:=by
 obtain ⟨s,hs,t,ht,hx,⟨h1,rfl,rfl⟩ | ⟨h1,rfl,rfl⟩⟩:=hc
 ·have e1:=h s hs
  have e2:=h t ht
  rw [h1,hx,e2] at e1
  exact (Option.some.inj e1).symm
 ·have hxs:=hp s hs
  have hxt:=hp t ht
  have e1:=hi _ _ _ (by omega) (h s hs)
  have e2:=hi _ _ _ (by omega) (h t ht)
  rw [h1,hx,e2] at e1
  exact (Option.some.inj e1).symm
/-- Putting together what clashes keeps the property. -/
theorem UniE.join {S:List (List Int)} {e f:List E3} {a b:Nat} (h:UniE S e) (hp:∀ t∈e,0 < t.2.1) (hc:Clash e a b∨Clash e b a) (hb:b ≠ 0) (hf:∀ t∈f,∃ s∈e,rhoE a b s=t):UniE S f:=fun X step x0 hi hcl=>by
 obtain ⟨κ,k1,k2⟩:=h X step x0 hi hcl
 have hk:κ a=κ b:=by
  rcases hc with hc | hc
  ·exact cmpE_clash hi hp k2 hc
  ·exact (cmpE_clash hi hp k2 hc).symm
 have hr:∀ u,κ (rho a b u)=κ u:=fun u=>by
  unfold rho
  split
  ·rename_i e; rw [e,hk]
  ·rfl
 refine ⟨κ,k1,fun t ht=>?_⟩
 obtain ⟨s,hs,rfl⟩:=hf t ht
 show step (κ (rho a b s.1)) s.2.1=some (κ (rho a b s.2.2))
 rw [hr,hr]
 exact k2 s hs

structure FE (S:List (List Int)) (e:List E3):Prop where
 pos:∀ t∈e,0 < t.2.1
 cl:∀ w∈S,PthE e 0 w 0
 uni:UniE S e
theorem FE.join {S:List (List Int)} {e f:List E3} {a b:Nat} (h:FE S e) (hc:Clash e a b∨Clash e b a) (hb:b ≠ 0) (hf:∀ t∈f,∃ s∈e,rhoE a b s=t) (hf2:∀ t∈e,rhoE a b t∈f):FE S f:=by
 refine ⟨fun t ht=>?_,fun w hw=>?_,h.uni.join h.pos hc hb hf⟩
 ·obtain ⟨s,hs,rfl⟩:=hf t ht
  exact h.pos s hs
 ·have:=(h.cl w hw).map hf2
  have h0:rho a b 0=0:=if_neg (fun e=>hb e.symm)
  rwa [h0] at this

/-- Where nothing clashes, a letter leads to one place. -/
def Det (e:List E3):Prop:=∀ u x v v',Re e u x v→Re e u x v'→v=v'
theorem det_of {e:List E3} (h:∀ a b,Clash e a b→a=b):Det e:=fun u x v v' h1 h2=>by
 rcases h1 with ⟨p1,q1⟩ | ⟨p1,q1⟩<;>rcases h2 with ⟨p2,q2⟩ | ⟨p2,q2⟩
 ·exact h v v' ⟨_,q1,_,q2,rfl,.inl ⟨rfl,rfl,rfl⟩⟩
 ·omega
 ·omega
 ·exact h v v' ⟨_,q1,_,q2,rfl,.inr ⟨rfl,rfl,rfl⟩⟩
open Classical in
noncomputable def stE (e:List E3) (u:Nat) (x:Int):Option Nat:=if h:∃ v,Re e u x v then some h.choose else none
theorem stE_iff {e:List E3} (hd:Det e) {u v:Nat} {x:Int} : stE e u x=some v↔Re e u x v:=by
 unfold stE
 constructor
 ·intro h
  split at h
  ·rename_i hx
   obtain rfl:=Option.some.inj h
   exact hx.choose_spec
  ·cases h
 ·intro h
  have hx:∃ v,Re e u x v:=⟨v,h⟩
  rw [dif_pos hx]
  exact congrArg some (hd _ _ _ _ hx.choose_spec h)
theorem stE_inv {e:List E3} (hd:Det e):InvS (stE e):=fun c d x _ h=>(stE_iff hd).2 ((stE_iff hd).1 h).rev
theorem runE {e:List E3} (hd:Det e):∀ (w:List Int) (u v:Nat),runW (stE e) u w=some v↔PthE e u w v
 | [],u,v=>⟨fun h=>Option.some.inj h,fun h=>congrArg some h⟩
 | x :: w,u,v=>by
  unfold runW PthE
  constructor
  ·intro h
   cases e1:stE e u x with
   | none=>rw [e1] at h; cases h
   | some m=>rw [e1] at h; exact ⟨m,(stE_iff hd).1 e1,(runE hd w m v).1 h⟩
  ·rintro ⟨m,h1,h2⟩
   rw [(stE_iff hd).2 h1]
   exact (runE hd w m v).2 h2
end Go.Proofs.Ytneglephfhiamaa

/-
  The two folded graphs are one. Conditions: none.
-/
set_option linter.all false
namespace Go.Proofs.Ytneglephfhiamaa
open Go.Pv

section
variable {G:List Mp} {U:List Int}
theorem stR_root (w:WG G U) {u d:Nat} {x:Int} (h:stR G U u x=some d):(u < G.length∧rV U u=u)∧d < G.length∧rV U d=d:=by
 unfold stR at h
 split at h
 ·rename_i hu
  exact ⟨hu,stp_root w hu.1 h⟩
 ·cases h
end
end Go.Proofs.Ytneglephfhiamaa

/-
  Places in the order in which they are reached; roads to them. Conditions: none.
-/
set_option linter.all false
namespace Go.Proofs.Ytneglephfhiamaa
open Go.Pv

abbrev Wy:=Int→Option (List Int)
def updW (f:Wy) (z:Int) (l:List Int):Wy:=fun u=>if u=z then some l else f u

/-- Places that are reached, with the roads to them: a tree. -/
structure BI (G:List Mp) (U:List Int) (lst:List Nat) (f:Wy):Prop where
 nd:lst.Nodup
 rt:∀ u∈lst,u < G.length∧rV U u=u
 hd:lst.head? = some 0
 dom:∀ z:Int,(f z).isSome=true↔∃ u∈lst,(u:Int)=z
 zero:f 0=some []
 tree:∀ j,j < lst.length→0 < j→∃ i x l,i < j∧f (lst.getD i 0:Nat)=some l∧f (lst.getD j 0:Nat)=some (l++[x])∧Ed G U (lst.getD i 0) x (lst.getD j 0)
 len:∀ z l,f z=some l→l.length < lst.length

section
variable {G:List Mp} {U:List Int}
theorem bi_zero (hz:rV U 0=0) (hp:0 < G.length):BI G U [0] (updW (fun _=>none) 0 []):=by
 refine ⟨by simp,fun u hu=>?_,rfl,fun z=>?_,rfl,fun j h1 h2=>?_,fun z l h=>?_⟩
 ·rw [List.mem_singleton] at hu; subst hu; exact ⟨hp,hz⟩
 ·unfold updW
  by_cases e:z=0
  ·subst e; simp
  ·rw [if_neg e]
   simp only [Option.isSome_none,Bool.false_eq_true,List.mem_singleton,exists_eq_left,false_iff]
   intro h; exact e (by rw [← h]; rfl)
 ·simp only [List.length_singleton] at h1; omega
 ·unfold updW at h
  split at h
  ·obtain rfl:=Option.some.inj h; simp
  ·cases h
/-- A place more is reached. -/
theorem BI.snoc {lst : List Nat} {f : Wy} (h : BI G U lst f) {i u : Nat} {x : Int} {l : List Int} (hi : i < lst.length) (hl : f (lst.getD i 0 : Nat) = some l) (hu : u < G.length) (hr : rV U u = u) (he : Ed G U (lst.getD i 0) x u) (hn : f (u : Int) = none) :
    BI G U (lst ++ [u]) (updW f u (l ++ [x])) := by
  have hnm : u ∉ lst := fun hm => by
    have := (h.dom u).2 ⟨u, hm, rfl⟩
    rw [hn] at this; cases this
  have old : ∀ v ∈ lst, updW f u (l ++ [x]) (v : Nat) = f v := fun v hv => by
    unfold updW
    rw [if_neg fun e => hnm (by have : v = u := by omega
                                rw [← this]; exact hv)]
  have gl : ∀ j, j < lst.length → (lst ++ [u]).getD j 0 = lst.getD j 0 ∧ lst.getD j 0 ∈ lst := fun j hj => by
    rw [List.getD_eq_getElem?_getD, List.getElem?_append_left hj, ← List.getD_eq_getElem?_getD]
    refine ⟨rfl, ?_⟩
    rw [List.getD_eq_getElem?_getD, List.getElem?_eq_getElem hj]; exact List.getElem_mem hj
  refine ⟨?_, fun v hv => ?_, ?_, fun z => ?_, ?_, fun j h1 h2 => ?_, fun z l' hz => ?_⟩
  · rw [List.nodup_append]
    exact ⟨h.nd, by simp, fun a ha b hb => by rw [List.mem_singleton] at hb; subst hb; exact fun e => hnm (e ▸ ha)⟩
  · rcases List.mem_append.1 hv with hv | hv
    · exact h.rt v hv
    · rw [List.mem_singleton] at hv; subst hv; exact ⟨hu, hr⟩
  · have := h.hd
    cases lst with
    | nil => cases this
    | cons a r => exact this
  · unfold updW
    by_cases e : z = (u : Int)
    · rw [if_pos e]
      simp only [Option.isSome_some, List.mem_append, List.mem_singleton, true_iff]
      exact ⟨u, .inr rfl, e.symm⟩
    · rw [if_neg e, h.dom z]
      constructor
      · rintro ⟨v, hv, hz⟩; exact ⟨v, List.mem_append_left _ hv, hz⟩
      · rintro ⟨v, hv, hz⟩
        rcases List.mem_append.1 hv with hv | hv
        · exact ⟨v, hv, hz⟩
        · rw [List.mem_singleton] at hv; subst hv; exact absurd hz.symm e
  · have h0 : (0 : Nat) ∈ lst := by
      have := h.hd
      cases lst with
      | nil => cases this
      | cons a r => obtain rfl := Option.some.inj this; simp
    have := old 0 h0
    rw [show ((0 : Nat) : Int) = 0 from rfl] at this
    rw [this]; exact h.zero
  · rw [List.length_append, List.length_singleton] at h1
    by_cases hj : j < lst.length
    · obtain ⟨i', x', l', a1, a2, a3, a4⟩ := h.tree j hj h2
      obtain ⟨b1, b2⟩ := gl j hj
      obtain ⟨c1, c2⟩ := gl i' (by omega)
      refine ⟨i', x', l', a1, ?_, ?_, ?_⟩
      · rw [c1, old _ c2]; exact a2
      · rw [b1, old _ b2]; exact a3
      · rw [b1, c1]; exact a4
    · obtain rfl : j = lst.length := by omega
      obtain ⟨c1, c2⟩ := gl i hi
      have e : (lst ++ [u]).getD lst.length 0 = u := by simp
      refine ⟨i, x, l, hi, ?_, ?_, ?_⟩
      · rw [c1, old _ c2]; exact hl
      · rw [e]; unfold updW; rw [if_pos rfl]
      · rw [e, c1]; exact he
  · rw [List.length_append, List.length_singleton]
    unfold updW at hz
    split at hz
    · obtain rfl := Option.some.inj hz
      have := h.len _ _ hl
      rw [List.length_append, List.length_singleton]; omega
    · have := h.len _ _ hz; omega
theorem BI.up {U' : List Int} {lst:List Nat} {f:Wy} (h:BI G U lst f) (w:WG G U) (hr:∀ u,u < G.length→rV U' u=rV U u):BI G U' lst f:=by
 refine ⟨h.nd,fun u hu=>⟨(h.rt u hu).1,by rw [hr u (h.rt u hu).1]; exact (h.rt u hu).2⟩,h.hd,h.dom,h.zero,fun j h1 h2=>?_,h.len⟩
 obtain ⟨i,x,l,a1,a2,a3,a4⟩:=h.tree j h1 h2
 have m1:lst.getD i 0∈lst:=by rw [List.getD_eq_getElem?_getD,List.getElem?_eq_getElem (by omega)]; exact List.getElem_mem _
 have m2:lst.getD j 0∈lst:=by rw [List.getD_eq_getElem?_getD,List.getElem?_eq_getElem h1]; exact List.getElem_mem _
 exact ⟨i,x,l,a1,a2,a3,(Ed.rv w hr (h.rt _ m1).1 (h.rt _ m2).1).2 a4⟩
/-- Where no edge leads out, all places are reached. -/
theorem BI.full {lst:List Nat} {f:Wy} (h:BI G U lst f) (w:WG G U) (hcl:∀ u∈lst,∀ x v,v < G.length→rV U v=v→Ed G U u x v→v∈lst) (hcon:∀ u,u < G.length→∃ l,Pth G U 0 l u):∀ u,u < G.length→rV U u=u→u∈lst:=by
 have h0:(0:Nat)∈lst:=by
  have:=h.hd
  cases lst with
  | nil=>cases this
  | cons a r=>obtain rfl:=Option.some.inj this; simp
 have go:∀ (l:List Int) (v u:Nat),v∈lst→u < G.length→rV U u=u→Pth G U v l u→u∈lst:=by
  intro l
  induction l with
  | nil =>
   intro v u hv hu hr hp
   have e:v=u:=by
    have h1:rV U v=rV U u:=hp
    rw [(h.rt v hv).2,hr] at h1; exact h1
   exact e ▸ hv
  | cons x l ih =>
   rintro v u hv hu hr ⟨m,hm,he,hp⟩
   have hm2:=w.rlt hm
   have hmr:=w.idem hm
   refine ih (rV U m) u (hcl v hv x (rV U m) hm2 hmr (he.mv rfl hmr.symm)) hu hr (hp.mv hmr.symm rfl)
 intro u hu hr
 obtain ⟨l,hl⟩:=hcon u hu
 exact go l 0 u h0 hu hr hl
end
end Go.Proofs.Ytneglephfhiamaa

/-
  Graphs with a tree of roads: plain laws. Conditions: none.
-/
set_option linter.all false
namespace Go.Proofs.Ytneglephfhiamaa
open Go.Pv

/-! ### Lists -/

theorem nd_le {α:Type} [DecidableEq α]:∀ {a b:List α},a.Nodup→(∀ x∈a,x∈b)→a.length≤b.length
 | [],b,_,_=>Nat.zero_le _
 | x :: a,b,hn,h=>by
  have hx:=h x List.mem_cons_self
  have hn2:=List.nodup_cons.1 hn
  have:=nd_le (a:=a) (b:=b.erase x) hn2.2 fun y hy=>(List.mem_erase_of_ne (fun e:y=x=>hn2.1 (by rw [← e]; exact hy))).2 (h y (List.mem_cons_of_mem _ hy))
  rw [List.length_erase_of_mem hx] at this
  have h2:=List.length_pos_of_mem hx
  simp only [List.length_cons]; omega
theorem nd_eq {α:Type} [DecidableEq α] {a b:List α} (ha:a.Nodup) (hb:b.Nodup) (h:∀ x,x∈a↔x∈b):a.length=b.length:=
 Nat.le_antisymm (nd_le ha fun x=>(h x).1) (nd_le hb fun x=>(h x).2)
theorem nodup_mapF {α β:Type} {f:α→β} : ∀ {l:List α},l.Nodup→(∀ x∈l,∀ y∈l,f x=f y→x=y)→(l.map f).Nodup
 | [],_,_=>List.nodup_nil
 | x :: l,hn,h=>by
  have hn2:=List.nodup_cons.1 hn
  rw [List.map_cons,List.nodup_cons]
  refine ⟨fun hm=>?_,nodup_mapF hn2.2 fun a ha b hb=>h a (by simp [ha]) b (by simp [hb])⟩
  obtain ⟨y,hy,e⟩:=List.mem_map.1 hm
  have:=h y (by simp [hy]) x (by simp) e
  exact hn2.1 (this ▸ hy)
theorem nodup_flat {α β:Type} {g:α→List β} : ∀ {l:List α},l.Nodup→(∀ x∈l,(g x).Nodup)→(∀ x∈l,∀ y∈l,∀ z,z∈g x→z∈g y→x=y)→(l.flatMap g).Nodup
 | [],_,_,_=>List.nodup_nil
 | x :: l,hn,h,hd=>by
  have hn2:=List.nodup_cons.1 hn
  rw [List.flatMap_cons,List.nodup_append]
  refine ⟨h x (by simp),nodup_flat hn2.2 (fun y hy=>h y (by simp [hy])) fun a ha b hb=>hd a (by simp [ha]) b (by simp [hb]),fun a ha b hb e=>?_⟩
  subst e
  obtain ⟨y,hy,hb⟩:=List.mem_flatMap.1 hb
  have:=hd x (by simp) y (by simp [hy]) a ha hb
  exact hn2.1 (this ▸ hy)

def bls:Nat→List (List Bool)
 | 0=>[[]]
 | n + 1=>(bls n).map (false :: ·)++(bls n).map (true :: ·)
theorem bls_len:∀ n,(bls n).length=2 ^ n
 | 0=>rfl
 | n + 1=>by simp only [bls,List.length_append,List.length_map,bls_len n]; omega
theorem bls_nd:∀ n,(bls n).Nodup
 | 0=>by simp [bls]
 | n + 1=>by
  rw [bls,List.nodup_append]
  refine ⟨nodup_mapF (bls_nd n) fun x _ y _ e=>by injection e,nodup_mapF (bls_nd n) fun x _ y _ e=>by injection e,fun a ha b hb e=>?_⟩
  obtain ⟨x,_,rfl⟩:=List.mem_map.1 ha
  obtain ⟨y,_,rfl⟩:=List.mem_map.1 hb
  injection e with e _
  cases e
theorem mem_bls:∀ (n:Nat) (p:List Bool),p∈bls n↔p.length=n
 | 0,p=>by simp [bls]
 | n + 1,[]=>by simp [bls]
 | n + 1,b :: p=>by
  simp only [bls,List.mem_append,List.mem_map,List.length_cons,Nat.add_right_cancel_iff]
  rw [← mem_bls n p]
  constructor
  ·rintro (⟨q,hq,e⟩ | ⟨q,hq,e⟩)<;>· injection e with _ e; exact e ▸ hq
  ·intro h
   cases b
   ·exact .inl ⟨p,h,rfl⟩
   ·exact .inr ⟨p,h,rfl⟩
/-- Fewer places than things: two things have one place. -/
theorem php {r m:Nat} (F:List Bool→List Bool) (hF:∀ p,(F p).length=m) (hi:∀ p q:List Bool,p.length=r→q.length=r→F p=F q→p=q):r≤m:=by
 have h1:((bls r).map F).Nodup:=nodup_mapF (bls_nd r) fun x hx y hy e=>hi x y ((mem_bls r x).1 hx) ((mem_bls r y).1 hy) e
 have h2:=nd_le h1 (b:=bls m) fun x hx=>by
  obtain ⟨p,_,rfl⟩:=List.mem_map.1 hx
  exact (mem_bls m _).2 (hF p)
 rw [List.length_map,bls_len,bls_len] at h2
 exact (Nat.pow_le_pow_iff_right (by decide)).1 h2

/-! ### Runs -/

section
variable {X:Type} {step:X→Int→Option X}
def Nz (w:List Int):Prop:=∀ x∈w,x ≠ 0
theorem Nz.app {v w:List Int} (hv:Nz v) (hw:Nz w):Nz (v++w):=fun x hx=>(List.mem_append.1 hx).elim (hv x) (hw x)
theorem Nz.back {w:List Int} (h:Nz w):Nz (back w):=fun x hx=>by
 unfold Go.Proofs.Ytneglephfhiamaa.back at hx
 obtain ⟨y,hy,rfl⟩:=List.mem_map.1 hx
 have:=h y (by simpa using hy)
 omega
theorem Nz.short {w:List Int} (h:Nz w):Nz (short w):=fun x hx=>h x (short_sub w x hx)
theorem Ok.nz {w:List Int} (h:Ok w):Nz w:=fun x hx=>(h x hx).1
theorem run_back (hi:InvS step):∀ {w:List Int} {c d:X},Nz w→runW step c w=some d→runW step d (back w)=some c
 | [],c,d,_,h=>by obtain rfl:=Option.some.inj h; rfl
 | x :: w,c,d,hz,h=>by
  unfold runW at h
  cases e:step c x with
  | none=>rw [e] at h; cases h
  | some m =>
   rw [e] at h
   have:=run_back hi (w:=w) (fun y hy=>hz y (by simp [hy])) h
   rw [back_cons,runW_app,this]
   show runW step m [-x]=some c
   unfold runW
   rw [hi c m x (hz x (by simp)) e]; rfl
theorem run_push (hi:InvS step) {o:List Int} {x:Int} {c d:X} (hz:Nz o) (h:runW step c (o++[x])=some d):runW step c (push o x)=some d:=by
 unfold push
 split
 ·rename_i hc
  obtain ⟨h1,h2⟩:=hc
  have e:=take_last h1
  rw [h2] at e
  rw [← e,List.append_assoc,runW_app] at h
  cases e1:runW step c (o.take (o.length - 1)) with
  | none=>rw [e1] at h; cases h
  | some m =>
   rw [e1] at h
   have h:runW step m [-x,x]=some d:=h
   unfold runW at h
   have hx : -x ≠ 0:=by
    rw [← h2,List.getD_eq_getElem?_getD,List.getElem?_eq_getElem (by omega)]; exact hz _ (List.getElem_mem _)
   cases e2:step m (-x) with
   | none=>rw [e2] at h; cases h
   | some k =>
    rw [e2] at h
    have h3:=hi m k (-x) hx e2
    rw [Int.neg_neg] at h3
    simp only [runW,h3] at h
    exact h
 ·exact h
theorem run_short (hi:InvS step) {w:List Int} {c d:X} (hz:Nz w) (h:runW step c w=some d):runW step c (short w)=some d:=by
 have go:∀ (w o:List Int),Nz o→Nz w→runW step c (o++w)=some d→runW step c (w.foldl push o)=some d:=by
  intro w
  induction w with
  | nil=>intro o _ _ h; rw [List.append_nil] at h; exact h
  | cons x r ih =>
   intro o ho hw h
   have hp:Nz (push o x):=fun y hy=>by
    unfold push at hy
    split at hy
    ·exact ho y (List.mem_of_mem_take hy)
    ·rcases List.mem_append.1 hy with hy | hy
     ·exact ho y hy
     ·rw [List.mem_singleton] at hy; subst hy; exact hw _ (by simp)
   refine ih _ hp (fun y hy=>hw y (by simp [hy])) ?_
   have e:o++x :: r=o++[x]++r:=by simp
   rw [e,runW_app] at h
   cases e1:runW step c (o++[x]) with
   | none=>rw [e1] at h; cases h
   | some m =>
    rw [e1] at h
    rw [runW_app,run_push hi ho e1]; exact h
 exact go w [] (fun x hx=>by simp at hx) hz (by simpa using h)
end
theorem short_undo {a b:List Int} (h:short (a++back b)=[]):short a=short b:=by
 have h1:short (short (a++back b)++b)=short (a++(back b++b)):=by rw [short_left,List.append_assoc]
 rw [h,List.nil_append,← short_right a,short_inv',List.append_nil] at h1
 exact h1.symm
theorem short_same {a b:List Int} (h:short a=short b):short (a++back b)=[]:=by
 rw [← short_left,h,short_left,short_inv]
end Go.Proofs.Ytneglephfhiamaa

/-
  Graphs with a tree of roads: the basis, and how many words it has. Conditions: none.
-/
set_option linter.all false
namespace Go.Proofs.Ytneglephfhiamaa
open Go.Pv

/-- Letters lead from place to place; roads to all places, a tree. -/
structure GT (step:Nat→Int→Option Nat) (lst:List Nat) (f:Wy):Prop where
 inv:InvS step
 nd:lst.Nodup
 hd:lst.head? = some 0
 dom:∀ z:Int,(f z).isSome=true↔∃ u∈lst,(u:Int)=z
 zero:f 0=some []
 tree:∀ j,j < lst.length→0 < j→∃ i x l,i < j∧f (lst.getD i 0:Nat)=some l∧f (lst.getD j 0:Nat)=some (l++[x])∧step (lst.getD i 0) x=some (lst.getD j 0)
 cl:∀ u∈lst,∀ x v,step u x=some v→v∈lst
 lt:∀ u∈lst,∀ x v,step u x=some v→x ≠ 0∧-26≤x∧x≤26

def wy (f:Wy) (u:Nat):List Int:=(f u).getD []
theorem nd_ix {l:List Nat} (h:l.Nodup) {i j:Nat} (hi:i < l.length) (hj:j < l.length) (e:l.getD i 0=l.getD j 0):i=j:=by
 rw [List.getD_eq_getElem?_getD,List.getD_eq_getElem?_getD,List.getElem?_eq_getElem hi,List.getElem?_eq_getElem hj] at e
 exact (List.getElem_inj h).1 e
theorem ix_of {l:List Nat} {u:Nat} (h:u∈l):∃ i,i < l.length∧l.getD i 0=u:=by
 obtain ⟨i,hi,e⟩:=List.getElem_of_mem h
 exact ⟨i,hi,by rw [List.getD_eq_getElem?_getD,List.getElem?_eq_getElem hi]; exact e⟩
theorem mem_ix {l:List Nat} {i:Nat} (h:i < l.length):l.getD i 0∈l:=by
 rw [List.getD_eq_getElem?_getD,List.getElem?_eq_getElem h]; exact List.getElem_mem h

section
variable {step:Nat→Int→Option Nat} {lst:List Nat} {f:Wy}
theorem GT.mem0 (g:GT step lst f):0∈lst:=List.mem_of_mem_head? (by rw [g.hd]; rfl)
theorem GT.ix0 (g:GT step lst f):0 < lst.length∧lst.getD 0 0=0:=by
 have:=g.hd
 cases hl:lst with
 | nil=>rw [hl] at this; cases this
 | cons a r=>rw [hl] at this; obtain rfl:=Option.some.inj this; exact ⟨by simp,rfl⟩
theorem GT.nz {u v:Nat} {x:Int} (g:GT step lst f) (hu:u∈lst) (h:step u x=some v):x ≠ 0:=(g.lt u hu x v h).1
/-- Something told of all places along the tree. -/
theorem GT.ind (g:GT step lst f) {P:Nat→List Int→Prop} (h0:P 0 []) (hs:∀ u v x,u∈lst→v∈lst→step u x=some v→wy f v=wy f u++[x]→P u (wy f u)→P v (wy f u++[x])):∀ u∈lst,P u (wy f u):=by
 have go:∀ n j,j≤n→j < lst.length→P (lst.getD j 0) (wy f (lst.getD j 0)):=by
  intro n
  induction n with
  | zero =>
   intro j hj hl
   obtain rfl:j=0:=by omega
   rw [g.ix0.2]
   have:wy f 0=[]:=by unfold wy; rw [show ((0:Nat):Int)=0 from rfl,g.zero]; rfl
   rw [this]; exact h0
  | succ n ih =>
   intro j hj hl
   by_cases h:j=0
   ·exact ih j (by omega) hl
   obtain ⟨i,x,l,a1,a2,a3,a4⟩:=g.tree j hl (by omega)
   have e1:wy f (lst.getD i 0)=l:=by unfold wy; rw [a2]; rfl
   have e2:wy f (lst.getD j 0)=l++[x]:=by unfold wy; rw [a3]; rfl
   rw [e2,← e1]
   exact hs _ _ x (mem_ix (by omega)) (mem_ix hl) a4 (by rw [e1,e2]) (ih i (by omega) (by omega))
 intro u hu
 obtain ⟨i,hi,rfl⟩:=ix_of hu
 exact go i i (Nat.le_refl _) hi
theorem GT.wy0 (g:GT step lst f):wy f 0=[]:=by unfold wy; rw [show ((0:Nat):Int)=0 from rfl,g.zero]; rfl
theorem GT.run (g:GT step lst f):∀ u∈lst,runW step 0 (wy f u)=some u:=
 g.ind (P:=fun u l=>runW step 0 l=some u) rfl fun u v x hu hv hs _ ih=>by
  rw [runW_app,ih]
  show runW step u [x]=some v
  unfold runW; rw [hs]; rfl
theorem GT.ok (g:GT step lst f):∀ u∈lst,Ok (wy f u):=
 g.ind (P:=fun _ l=>Ok l) (fun x hx=>by simp at hx) fun u v x hu hv hs _ ih=>ih.app fun y hy=>by
  rw [List.mem_singleton] at hy; subst hy; exact g.lt u hu _ _ hs
theorem GT.inj (g:GT step lst f) {u v:Nat} (hu:u∈lst) (hv:v∈lst) (h:wy f u=wy f v):u=v:=by
 have h1:=g.run u hu
 rw [h,g.run v hv] at h1
 exact (Option.some.inj h1).symm
theorem red_snoc2 {l:List Int} {y x:Int} (h:Red (l++[y])) (hn:y ≠ -x):Red (l++[y]++[x]):=fun i hi=>by
 simp only [List.length_append,List.length_singleton] at hi
 by_cases e:i + 1 < (l++[y]).length
 ·rw [getD_app1 (by omega),getD_app1 e]; exact h i e
 ·simp only [List.length_append,List.length_singleton] at e
  obtain rfl:i=l.length:=by omega
  rw [getD_app1 (by simp),getD_app2 (by simp),getD_app2 (by simp)]
  simpa using hn
theorem red_one (x:Int):Red [x]:=fun i hi=>by simp at hi
/-- Parents stand ahead. -/
theorem GT.par (g:GT step lst f) {j:Nat} (hj:j < lst.length) (h0:0 < j):∃ i x,i < j∧wy f (lst.getD j 0)=wy f (lst.getD i 0)++[x]∧step (lst.getD i 0) x=some (lst.getD j 0):=by
 obtain ⟨i,x,l,a1,a2,a3,a4⟩:=g.tree j hj h0
 refine ⟨i,x,a1,?_,a4⟩
 unfold wy; rw [a2,a3]; rfl
theorem GT.red (g:GT step lst f):∀ u∈lst,Red (wy f u):=by
 have go:∀ n j,j≤n→j < lst.length→Red (wy f (lst.getD j 0)):=by
  intro n
  induction n with
  | zero =>
   intro j hj hl
   obtain rfl:j=0:=by omega
   rw [g.ix0.2,g.wy0]
   exact fun i hi=>by simp at hi
  | succ n ih =>
   intro j hj hl
   by_cases h:j=0
   ·exact ih j (by omega) hl
   obtain ⟨i,x,a1,a2,a3⟩:=g.par hl (by omega)
   by_cases h2:i=0
   ·rw [a2,h2,g.ix0.2,g.wy0]; exact red_one x
   ·obtain ⟨k,y,b1,b2,b3⟩:=g.par (j:=i) (by omega) (by omega)
    have hr:=ih i (by omega) (by omega)
    rw [a2]
    rw [b2] at hr ⊢
    refine red_snoc2 hr fun e=>?_
    have hy:=g.nz (mem_ix (by omega)) b3
    have:=g.inv _ _ _ hy b3
    rw [show -y=x by omega,a3] at this
    have:=nd_ix g.nd hl (by omega) (Option.some.inj this)
    omega
 intro u hu
 obtain ⟨i,hi,rfl⟩:=ix_of hu
 exact go i i (Nat.le_refl _) hi

/-! ### Edges -/

def ltS (step:Nat→Int→Option Nat) (u:Nat):List Int:=((List.range 53).map fun i:Nat=>(i:Int) - 26).filter fun x=>(step u x).isSome
theorem mem_ltS {u:Nat} {x:Int} : x∈ltS step u↔(-26≤x∧x≤26)∧(step u x).isSome=true:=by
 unfold ltS
 rw [List.mem_filter]
 refine and_congr ?_ Iff.rfl
 rw [List.mem_map]
 constructor
 ·rintro ⟨i,hi,rfl⟩
  have:=List.mem_range.1 hi
  omega
 ·intro h
  exact ⟨(x + 26).toNat,List.mem_range.2 (by omega),by omega⟩
theorem ltS_nd (u:Nat):(ltS step u).Nodup:=
 List.Nodup.sublist List.filter_sublist (nodup_mapF List.nodup_range fun a _ b _ e=>by omega)
/-- Edges along letters above 0. -/
def PE (step:Nat→Int→Option Nat) (lst:List Nat):List (Nat × Int):=lst.flatMap fun u=>((ltS step u).filter fun x=>decide (0 < x)).map fun x=>(u,x)
theorem mem_PE (g:GT step lst f) {u:Nat} {x:Int} : (u,x)∈PE step lst↔u∈lst∧0 < x∧(step u x).isSome=true:=by
 unfold PE
 rw [List.mem_flatMap]
 constructor
 ·rintro ⟨v,hv,h⟩
  obtain ⟨y,hy,e⟩:=List.mem_map.1 h
  injection e with e1 e2
  subst e1; subst e2
  have:=List.mem_filter.1 hy
  exact ⟨hv,by simpa using this.2,(mem_ltS.1 this.1).2⟩
 ·rintro ⟨hu,hx,hs⟩
  refine ⟨u,hu,List.mem_map.2 ⟨x,List.mem_filter.2 ⟨mem_ltS.2 ⟨?_,hs⟩,by simpa using hx⟩,rfl⟩⟩
  obtain ⟨v,hv⟩:=Option.isSome_iff_exists.1 hs
  exact (g.lt u hu x v hv).2
theorem PE_nd (h:lst.Nodup):(PE step lst).Nodup:=
 nodup_flat h (fun u _=>nodup_mapF (List.Nodup.sublist List.filter_sublist (ltS_nd u)) fun a _ b _ e=>by injection e) fun u _ v _ z hz1 hz2=>by
  obtain ⟨a,_,rfl⟩:=List.mem_map.1 hz1
  obtain ⟨b,_,e⟩:=List.mem_map.1 hz2
  injection e with e _
  exact e.symm
def tgt (step:Nat→Int→Option Nat) (e:Nat × Int):Nat:=(step e.1 e.2).getD 0
/-- The word of an edge: to it, along it, and back. -/
def bw (step:Nat→Int→Option Nat) (f:Wy) (e:Nat × Int):List Int:=short (wy f e.1++[e.2]++back (wy f (tgt step e)))
def basS (step:Nat→Int→Option Nat) (lst:List Nat) (f:Wy):List (List Int):=((PE step lst).map (bw step f)).filter fun w=>decide (0 < w.length)
/-- Edges that are not of the tree. -/
def NT (step:Nat→Int→Option Nat) (lst:List Nat) (f:Wy):List (Nat × Int):=(PE step lst).filter fun e=>decide (0 < (bw step f e).length)
theorem basS_eq:basS step lst f=(NT step lst f).map (bw step f):=by
 unfold basS NT
 rw [List.filter_map]; rfl
theorem NT_nd (h:lst.Nodup):(NT step lst f).Nodup:=List.Nodup.sublist List.filter_sublist (PE_nd h)
theorem tgt_of {u v:Nat} {x:Int} (h:step u x=some v):tgt step (u,x)=v:=by unfold tgt; rw [h]; rfl
theorem PE_st (g:GT step lst f) {e:Nat × Int} (h:e∈PE step lst):e.1∈lst∧0 < e.2∧step e.1 e.2=some (tgt step e)∧tgt step e∈lst:=by
 obtain ⟨u,x⟩:=e
 obtain ⟨h1,h2,h3⟩:=(mem_PE g).1 h
 obtain ⟨v,hv⟩:=Option.isSome_iff_exists.1 h3
 rw [tgt_of hv]
 exact ⟨h1,h2,hv,g.cl u h1 x v hv⟩
theorem bw_nil (g:GT step lst f) {e:Nat × Int} (h:e∈PE step lst):(bw step f e=[]↔wy f (tgt step e)=wy f e.1++[e.2]∨wy f e.1=wy f (tgt step e)++[-e.2]):=by
 obtain ⟨h1,h2,h3,h4⟩:=PE_st g h
 have r1:=g.red _ h1
 have r2:=g.red _ h4
 have hs:short (wy f e.1++[e.2])=push (wy f e.1) e.2:=by
  rw [short_app,short_red r1]; rfl
 constructor
 ·intro hb
  have:=short_undo hb
  rw [hs,short_red r2] at this
  unfold push at this
  split at this
  ·rename_i hc
   right
   have:=take_last hc.1
   rw [hc.2] at this
   rename_i t
   rw [← t,this]
  ·exact .inl this.symm
 ·intro hb
  refine short_same ?_
  rw [hs,short_red r2]
  rcases hb with hb | hb
  ·rw [hb]
   unfold push
   rw [if_neg]
   rintro ⟨c1,c2⟩
   rw [hb] at r2
   have:=r2 ((wy f e.1).length - 1) (by simp; omega)
   rw [getD_app1 (by omega),getD_app2 (by omega),c2] at this
   rw [show (wy f e.1).length - 1 + 1 - (wy f e.1).length=0 by omega] at this
   exact this rfl
  ·unfold push
   rw [if_pos]
   ·rw [hb]; simp
   ·rw [hb]; simp
/-- The edge of the tree that leads to a place. -/
def teS (step:Nat→Int→Option Nat) (f:Wy) (c:Nat):Nat × Int:=
 let y:=(wy f c).getD ((wy f c).length - 1) 0
 if 0 < y then ((step c (-y)).getD 0,y) else (c,-y)
theorem teS_spec (g:GT step lst f) {j:Nat} (hj:j < lst.length) (h0:0 < j):∃ i x,i < j∧wy f (lst.getD j 0)=wy f (lst.getD i 0)++[x]∧step (lst.getD i 0) x=some (lst.getD j 0)∧teS step f (lst.getD j 0)=if 0 < x then (lst.getD i 0,x) else (lst.getD j 0,-x):=by
 obtain ⟨i,x,a1,a2,a3⟩:=g.par hj h0
 refine ⟨i,x,a1,a2,a3,?_⟩
 have hx:=g.nz (mem_ix (by omega)) a3
 have e:(wy f (lst.getD j 0)).getD ((wy f (lst.getD j 0)).length - 1) 0=x:=by rw [a2]; simp
 unfold teS
 simp only [e]
 split
 ·rw [g.inv _ _ _ hx a3]; rfl
 ·rfl
theorem tail_ix {l:List Nat} {c:Nat} : c∈l.tail↔∃ j,0 < j∧j < l.length∧l.getD j 0=c:=by
 cases l with
 | nil=>simp
 | cons a r =>
  simp only [List.tail_cons,List.length_cons]
  constructor
  ·intro h
   obtain ⟨i,hi,e⟩:=ix_of h
   exact ⟨i + 1,by omega,by omega,by simpa using e⟩
  ·rintro ⟨j,h1,h2,e⟩
   obtain ⟨k,rfl⟩:∃ k,j=k + 1:=⟨j - 1,by omega⟩
   rw [← e]
   have:(a :: r).getD (k + 1) 0=r.getD k 0:=by simp
   rw [this]; exact mem_ix (by omega)
/-- As many words has the basis as there are edges more than places, and one. -/
theorem basS_len (g:GT step lst f):(basS step lst f).length + lst.length=(PE step lst).length + 1:=by
 rw [basS_eq,List.length_map]
 have hT:((PE step lst).filter fun e=>!decide (0 < (bw step f e).length)).length=lst.length - 1:=by
  have e1:(lst.tail.map (teS step f)).length=lst.length - 1:=by simp
  rw [← e1]
  have hspec:∀ c∈lst.tail,∃ p x,p∈lst∧c∈lst∧wy f c=wy f p++[x]∧step p x=some c∧teS step f c=if 0 < x then (p,x) else (c,-x):=fun c hc=>by
   obtain ⟨j,j1,j2,rfl⟩:=tail_ix.1 hc
   obtain ⟨i,x,a1,a2,a3,a4⟩:=teS_spec g j2 j1
   exact ⟨_,x,mem_ix (by omega),mem_ix j2,a2,a3,a4⟩
  refine nd_eq (List.Nodup.sublist List.filter_sublist (PE_nd g.nd)) (nodup_mapF (List.Nodup.sublist (List.tail_sublist _) g.nd) ?_) fun e=>?_
  ·intro c hc d hd e
   obtain ⟨p,x,p1,p2,p3,p4,p5⟩:=hspec c hc
   obtain ⟨q,y,q1,q2,q3,q4,q5⟩:=hspec d hd
   rw [p5,q5] at e
   have hx:=g.nz p1 p4
   have hy:=g.nz q1 q4
   split at e<;>split at e
   ·injection e with e1 e2
    subst e1; subst e2
    rw [p4] at q4; exact Option.some.inj q4
   ·injection e with e1 e2
    subst e1
    have h1:=p3
    have h2:=q3
    have h3:=g.inv _ _ _ hy q4
    rw [← e2,p4] at h3
    obtain rfl:=Option.some.inj h3
    rw [h1] at h2
    have:=congrArg List.length h2
    simp at this
   ·injection e with e1 e2
    subst e1
    have h3:=g.inv _ _ _ hx p4
    rw [e2,q4] at h3
    obtain rfl:=Option.some.inj h3
    rw [p3] at q3
    have:=congrArg List.length q3
    simp at this
   ·injection e with e1 _
  ·rw [List.mem_filter,List.mem_map]
   constructor
   ·rintro ⟨h1,h2⟩
    have h2:bw step f e=[]:=by simpa using h2
    obtain ⟨s1,s2,s3,s4⟩:=PE_st g h1
    rcases (bw_nil g h1).1 h2 with h | h
    ·have hc:tgt step e∈lst.tail:=by
      obtain ⟨j,j1,j2⟩:=ix_of s4
      refine tail_ix.2 ⟨j,?_,j1,j2⟩
      rcases Nat.eq_zero_or_pos j with rfl | hj
      ·rw [g.ix0.2] at j2
       rw [← j2,g.wy0] at h
       have:=congrArg List.length h; simp at this
      ·exact hj
     refine ⟨_,hc,?_⟩
     obtain ⟨p,x,p1,p2,p3,p4,p5⟩:=hspec _ hc
     rw [h] at p3
     obtain ⟨t1,t2⟩:=List.append_inj' p3 rfl
     have t2:e.2=x:=by simpa using t2
     have t1:=g.inj s1 p1 t1
     rw [p5,← t1,← t2,if_pos s2]
    ·have hc:e.1∈lst.tail:=by
      obtain ⟨j,j1,j2⟩:=ix_of s1
      refine tail_ix.2 ⟨j,?_,j1,j2⟩
      rcases Nat.eq_zero_or_pos j with rfl | hj
      ·rw [g.ix0.2] at j2
       rw [← j2,g.wy0] at h
       have:=congrArg List.length h; simp at this
      ·exact hj
     refine ⟨_,hc,?_⟩
     obtain ⟨p,x,p1,p2,p3,p4,p5⟩:=hspec _ hc
     rw [h] at p3
     obtain ⟨t1,t2⟩:=List.append_inj' p3 rfl
     have t2 : -e.2=x:=by simpa using t2
     rw [p5,if_neg (by omega),show -x=e.2 by omega]
   ·rintro ⟨c,hc,rfl⟩
    obtain ⟨p,x,p1,p2,p3,p4,p5⟩:=hspec c hc
    have hx:=g.nz p1 p4
    rw [p5]
    split
    ·rename_i h
     have hm:(p,x)∈PE step lst:=(mem_PE g).2 ⟨p1,h,by rw [p4]; rfl⟩
     refine ⟨hm,?_⟩
     have:=(bw_nil g hm).2 (.inl (by rw [tgt_of p4]; exact p3))
     simp [this]
    ·rename_i h
     have hi:=g.inv _ _ _ hx p4
     have hm:(c,-x)∈PE step lst:=(mem_PE g).2 ⟨p2,by omega,by rw [hi]; rfl⟩
     refine ⟨hm,?_⟩
     have:=(bw_nil g hm).2 (.inr (by rw [tgt_of hi]; simp only [Int.neg_neg]; exact p3))
     simp [this]
 have hp:∀ l:List (Nat × Int),(l.filter fun e=>decide (0 < (bw step f e).length)).length + (l.filter fun e=>!decide (0 < (bw step f e).length)).length=l.length:=by
  intro l
  induction l with
  | nil=>rfl
  | cons a r ih =>
   simp only [List.filter_cons,List.length_cons]
   by_cases h:0 < (bw step f a).length
   ·simp only [h,decide_true,Bool.not_true,if_true]; simp only [List.length_cons]; simp; omega
   ·simp only [h,decide_false,Bool.not_false,if_true]; simp only [List.length_cons]; simp; omega
 have:=hp (PE step lst)
 rw [hT] at this
 have h0:=g.ix0.1
 unfold NT
 omega
end
end Go.Proofs.Ytneglephfhiamaa

/-
  Graphs with a tree of roads: ranks by values of two kinds; what the basis makes. Conditions: none.
-/
set_option linter.all false
namespace Go.Proofs.Ytneglephfhiamaa
open Go.Pv

def edg (u:Nat) (x:Int) (v:Nat):Nat × Int:=if 0 < x then (u,x) else (v,-x)
theorem edg_rev {u v:Nat} {x:Int} (h:x ≠ 0):edg v (-x) u=edg u x v:=by
 unfold edg
 by_cases h2:0 < x
 ·rw [if_neg (by omega),if_pos h2,Int.neg_neg]
 ·rw [if_pos (by omega),if_neg h2]
/-- Each place twice; edges with the value true lead to the other one. -/
def cov (step:Nat→Int→Option Nat) (D:Nat × Int→Bool):Nat × Bool→Int→Option (Nat × Bool):=fun c x=>(step c.1 x).map fun v=>(v,xor c.2 (D (edg c.1 x v)))
def par (step:Nat→Int→Option Nat) (D:Nat × Int→Bool):Nat→List Int→Bool
 | _,[]=>false
 | u,x :: w=>match step u x with | some v=>xor (D (edg u x v)) (par step D v w) | none=>false

section
variable {step:Nat→Int→Option Nat} {lst:List Nat} {f:Wy}
theorem cov_inv {D:Nat × Int→Bool} (hi:InvS step):InvS (cov step D):=fun c d x hx h=>by
 unfold cov at h ⊢
 obtain ⟨v,hv,e⟩:=Option.map_eq_some_iff.1 h
 subst e
 rw [hi _ _ _ hx hv]
 simp only [Option.map_some,edg_rev hx]
 obtain ⟨u,s⟩:=c
 simp
theorem run_cov {D:Nat × Int→Bool} : ∀ (w:List Int) (u:Nat) (s:Bool),runW (cov step D) (u,s) w=(runW step u w).map fun v=>(v,xor s (par step D u w))
 | [],u,s=>by simp [runW,par]
 | x :: w,u,s=>by
  have hc:cov step D (u,s) x=(step u x).map fun v=>(v,xor s (D (edg u x v))):=rfl
  unfold runW par
  rw [hc]
  cases e:step u x with
  | none=>rfl
  | some v =>
   simp only [Option.map_some]
   rw [run_cov w v]
   simp only [Bool.xor_assoc]
theorem par_xor {D E:Nat × Int→Bool} : ∀ (w:List Int) (u:Nat),par step (fun e=>xor (D e) (E e)) u w=xor (par step D u w) (par step E u w)
 | [],_=>rfl
 | x :: w,u=>by
  unfold par
  cases e:step u x with
  | none=>rfl
  | some v =>
   simp only
   rw [par_xor w v]
   cases D (edg u x v)<;>cases E (edg u x v)<;>cases par step D v w<;>cases par step E v w<;>rfl
theorem GT.edg_mem (g:GT step lst f) {u v:Nat} {x:Int} (hu:u∈lst) (h:step u x=some v):edg u x v∈PE step lst∧((0 < x∧edg u x v=(u,x))∨(x < 0∧edg u x v=(v,-x))):=by
 have hx:=g.nz hu h
 unfold edg
 split
 ·rename_i hp
  exact ⟨(mem_PE g).2 ⟨hu,hp,by rw [h]; rfl⟩,.inl ⟨hp,rfl⟩⟩
 ·refine ⟨(mem_PE g).2 ⟨g.cl u hu x v h,by omega,by rw [g.inv _ _ _ hx h]; rfl⟩,.inr ⟨by omega,rfl⟩⟩
theorem GT.tree_nil (g:GT step lst f) {u v:Nat} {x:Int} (hu:u∈lst) (h:step u x=some v) (hw:wy f v=wy f u++[x]):bw step f (edg u x v)=[]:=by
 have hx:=g.nz hu h
 obtain ⟨h1,⟨h2,e⟩ | ⟨h2,e⟩⟩:=g.edg_mem hu h
 ·refine (bw_nil g h1).2 (.inl ?_)
  rw [e,tgt_of h]; exact hw
 ·refine (bw_nil g h1).2 (.inr ?_)
  rw [e,tgt_of (g.inv _ _ _ hx h),hw,Int.neg_neg]
theorem GT.cov_way (g:GT step lst f) {D:Nat × Int→Bool} (hD:∀ e∈PE step lst,bw step f e=[]→D e=false) (s:Bool):∀ u∈lst,runW (cov step D) (0,s) (wy f u)=some (u,s):=
 g.ind (P:=fun u l=>runW (cov step D) (0,s) l=some (u,s)) rfl fun u v x hu hv hs hw ih=>by
  rw [runW_app,ih]
  show runW (cov step D) (u,s) [x]=some (v,s)
  unfold runW cov
  simp only [hs,Option.map_some]
  rw [hD _ (g.edg_mem hu hs).1 (g.tree_nil hu hs hw)]
  simp [runW]
theorem GT.cov_bw (g:GT step lst f) {D:Nat × Int→Bool} (hD:∀ e∈PE step lst,bw step f e=[]→D e=false) {e:Nat × Int} (he:e∈PE step lst):runW (cov step D) (0,false) (bw step f e)=some (0,D e):=by
 obtain ⟨h1,h2,h3,h4⟩:=PE_st g he
 have hz1:=(g.ok _ h1).nz
 have hz2:=(g.ok _ h4).nz
 unfold bw
 refine run_short (cov_inv g.inv) ((hz1.app (fun y hy=>by rw [List.mem_singleton] at hy; omega)).app hz2.back) ?_
 have hb:=run_back (cov_inv (D:=D) g.inv) hz2 (g.cov_way hD (D e) _ h4)
 rw [runW_app,runW_app,g.cov_way hD false _ h1]
 show (runW (cov step D) (e.1,false) [e.2]).bind _=_
 have:runW (cov step D) (e.1,false) [e.2]=some (tgt step e,D e):=by
  unfold runW cov
  simp only [h3,Option.map_some]
  unfold edg
  rw [if_pos h2]
  simp [runW]
 rw [this]
 exact hb
theorem GT.run_bw (g:GT step lst f) {e:Nat × Int} (he:e∈PE step lst):runW step 0 (bw step f e)=some 0:=by
 have:=g.cov_bw (D:=fun _=>false) (fun _ _ _=>rfl) he
 rw [run_cov] at this
 obtain ⟨v,hv,e⟩:=Option.map_eq_some_iff.1 this
 injection e with e _
 rw [hv,e]

open Classical in
noncomputable def pwB (B:List (Nat × Int)) (p:List Bool) (e:Nat × Int):Bool:=if e∈B then p.getD (B.idxOf e) false else false
theorem idx_nd {α:Type} [BEq α] [LawfulBEq α]:∀ {l:List α},l.Nodup→∀ i (h:i < l.length),l.idxOf l[i]=i
 | [],_,i,h=>absurd h (Nat.not_lt_zero _)
 | a :: l,hn,0,_=>by simp [List.idxOf_cons]
 | a :: l,hn,i + 1,h=>by
  have hn2:=List.nodup_cons.1 hn
  have h' : i < l.length:=by simpa using h
  have hne:a ≠ l[i]:=fun e=>hn2.1 (e ▸ List.getElem_mem h')
  rw [List.getElem_cons_succ,List.idxOf_cons,idx_nd hn2.2 i h',beq_false_of_ne hne]; rfl
/-- So many words make what so many edges ask. -/
theorem rank_aux (g:GT step lst f) {B:List (Nat × Int)} (hB:B.Nodup) (hN:∀ e∈B,e∈NT step lst f) {S:List (List Int)} (hc:∀ s∈S,runW step 0 s=some 0) (hm:∀ e∈B,Mem S (bw step f e)) (q:List Int→Bool)
  (hq:∀ s∈S,q s=false→∀ D:Nat × Int→Bool,(∀ e,e ∉ B→D e=false)→par step D 0 s=false):B.length≤(S.filter q).length:=by
 classical
 refine php (fun p=>(S.filter q).map fun s=>par step (pwB B p) 0 s) (fun p=>by simp) fun p p2 hp hp2 he=>?_
 obtain ⟨D,hD⟩:∃ D:Nat × Int→Bool,D=fun e=>xor (pwB B p e) (pwB B p2 e):=⟨_,rfl⟩
 have hsup:∀ e,e ∉ B→D e=false:=fun e h=>by rw [hD]; unfold pwB; simp only [if_neg h]; rfl
 have hz:∀ s∈S,par step D 0 s=false:=fun s hs=>by
  by_cases h:q s=true
  ·have:=List.map_inj_left.1 he s (List.mem_filter.2 ⟨hs,h⟩)
   rw [hD,par_xor,this]; simp
  ·exact hq s hs (by simpa using h) D hsup
 have hcl:∀ s∈S,runW (cov step D) (0,false) s=some (0,false):=fun s hs=>by
  rw [run_cov,hc s hs,hz s hs]; rfl
 have hD0:∀ e∈B,D e=false:=fun e he=>by
  have hn:=hN e he
  unfold NT at hn
  have h1:=hm e he _ (cov step D) (0,false) (cov_inv g.inv) hcl
  rw [g.cov_bw (fun e' _ hb=>hsup e' fun hm=>by
   have:=hN e' hm
   unfold NT at this
   have:=(List.mem_filter.1 this).2
   rw [hb] at this; simp at this) (List.mem_filter.1 hn).1] at h1
  have:=Option.some.inj h1
  injection this
 refine List.ext_getElem (by rw [hp,hp2]) fun i h1 h2=>?_
 have hi:i < B.length:=by omega
 have h3:=hD0 _ (List.getElem_mem hi)
 rw [hD] at h3
 simp only [pwB,if_pos (List.getElem_mem hi),idx_nd hB i hi,List.getD_eq_getElem?_getD,List.getElem?_eq_getElem h1,List.getElem?_eq_getElem h2,Option.getD_some] at h3
 revert h3
 cases p[i]<;>cases p2[i]<;>simp
theorem rank_le (g:GT step lst f) {S:List (List Int)} (hc:∀ s∈S,runW step 0 s=some 0) (hm:∀ e∈NT step lst f,Mem S (bw step f e)):(basS step lst f).length≤S.length:=by
 have:=rank_aux g (NT_nd g.nd) (fun e h=>h) hc hm (fun _=>true) (fun s _ h=>by cases h)
 rw [basS_eq,List.length_map]
 rwa [List.filter_eq_self.2 (fun _ _=>rfl)] at this

/-! ### How long the basis is -/

end
end Go.Proofs.Ytneglephfhiamaa

/-
  Actions of words that are whole; what a basis makes; bases are free. Conditions: none.
-/
set_option linter.all false
namespace Go.Proofs.Ytneglephfhiamaa
open Go.Pv

def InvT {X:Type} (T:X→Int→X):Prop:=∀ c x,x ≠ 0→T (T c x) (-x)=c
/-- A word that leads back wherever the words do, by whole actions. -/
def MemT (S:List (List Int)) (w:List Int):Prop:=∀ (X:Type) (T:X→Int→X) (x0:X),InvT T→(∀ s∈S,s.foldl T x0=x0)→w.foldl T x0=x0

section
variable {X:Type} {T:X→Int→X}
theorem InvT.part (h:InvT T):InvS fun c x=>some (T c x):=fun c d x hx e=>by
 obtain rfl:=Option.some.inj e
 exact congrArg some (h c x hx)
theorem runT_eq:∀ (w:List Int) (c:X),runW (fun c x=>some (T c x)) c w=some (w.foldl T c)
 | [],_=>rfl
 | x :: w,c=>by unfold runW; exact runT_eq w _
theorem runT_short (h:InvT T) {w:List Int} (hz:Nz w) (c:X):(short w).foldl T c=w.foldl T c:=by
 have:=run_short h.part hz (runT_eq (T:=T) w c)
 rw [runT_eq] at this
 exact Option.some.inj this
theorem runT_back (h:InvT T) {w:List Int} (hz:Nz w) (c:X):(back w).foldl T (w.foldl T c)=c:=by
 have:=run_back h.part hz (runT_eq (T:=T) w c)
 rw [runT_eq] at this
 exact Option.some.inj this
theorem runT_back2 (h:InvT T) {w:List Int} (hz:Nz w) (c:X):w.foldl T ((back w).foldl T c)=c:=by
 have:=runT_back h hz.back c
 rwa [back_back] at this
end
theorem mem_memT {S:List (List Int)} {w:List Int} (h:Mem S w):MemT S w:=fun X T x0 hi hc=>by
 have:=h X (fun c x=>some (T c x)) x0 hi.part fun s hs=>by rw [runT_eq,hc s hs]
 rw [runT_eq] at this
 exact Option.some.inj this
theorem MemT.app {S:List (List Int)} {v w:List Int} (h:MemT S v) (h2:MemT S w):MemT S (v++w):=fun X T x0 hi hc=>by
 rw [List.foldl_append,h X T x0 hi hc,h2 X T x0 hi hc]
theorem MemT.back {S:List (List Int)} {v:List Int} (hz:Nz v) (h:MemT S v):MemT S (back v):=fun X T x0 hi hc=>by
 have:=runT_back hi hz x0
 rwa [h X T x0 hi hc] at this
theorem MemT.short {S:List (List Int)} {v:List Int} (hz:Nz v) (h:MemT S v):MemT S (short v):=fun X T x0 hi hc=>by
 rw [runT_short hi hz,h X T x0 hi hc]
theorem MemT.unshort {S:List (List Int)} {v:List Int} (hz:Nz v) (h:MemT S (Go.Proofs.Ytneglephfhiamaa.short v)):MemT S v:=fun X T x0 hi hc=>by
 rw [← runT_short hi hz,h X T x0 hi hc]
theorem MemT.of {S:List (List Int)} {v:List Int} (h:v∈S):MemT S v:=fun X T x0 hi hc=>hc v h
theorem MemT.trans {S S' : List (List Int)} {v:List Int} (h:MemT S' v) (h2:∀ s∈S',MemT S s):MemT S v:=fun X T x0 hi hc=>h X T x0 hi fun s hs=>h2 s hs X T x0 hi hc

/-! ### An action in part made whole: what leads nowhere leads into a hair -/

abbrev Cp {X:Type} (step:X→Int→Option X):Type:={ p:X × List Int // Red p.2∧∀ x r,p.2=x :: r→step p.1 x=none }
theorem push_ne {y:Int} {r:List Int} {x z:Int} {s:List Int} (h:push (y :: r) x=z :: s):z=y:=by
 unfold push at h
 split at h
 ·cases r with
  | nil=>simp at h
  | cons a r =>
   simp only [List.length_cons,Nat.add_sub_cancel,List.take_succ_cons] at h
   injection h with h _
   exact h.symm
 ·injection h with h _
  exact h.symm
def stC {X:Type} (step:X→Int→Option X) (p:Cp step) (x:Int):Cp step:=
 if hn:p.1.2=[] then
  match h:step p.1.1 x with
  | some d=>⟨(d,[]),⟨fun i hi=>by simp at hi,fun _ _ e=>by cases e⟩⟩
  | none=>⟨(p.1.1,[x]),⟨red_one x,fun z r e=>by injection e with e _; rw [← e]; exact h⟩⟩
 else ⟨(p.1.1,push p.1.2 x),⟨red_push p.2.1,fun z s e=>by
  match hp:p.1.2 with
  | []=>exact absurd hp hn
  | y :: r =>
   rw [hp] at e
   rw [push_ne e]
   exact p.2.2 y r hp⟩⟩
section
variable {X:Type} {step:X→Int→Option X}
theorem stC_some {p:Cp step} {x:Int} {d:X} (h:p.1.2=[]) (hs:step p.1.1 x=some d):(stC step p x).1=(d,[]):=by
 unfold stC
 rw [dif_pos h]
 split
 ·rename_i e; rw [hs] at e; obtain rfl:=Option.some.inj e; rfl
 ·rename_i e; rw [hs] at e; cases e
theorem stC_none {p:Cp step} {x:Int} (h:p.1.2=[]) (hs:step p.1.1 x=none):(stC step p x).1=(p.1.1,[x]):=by
 unfold stC
 rw [dif_pos h]
 split
 ·rename_i e; rw [hs] at e; cases e
 ·rfl
theorem stC_push {p:Cp step} {x:Int} (h:p.1.2 ≠ []):(stC step p x).1=(p.1.1,push p.1.2 x):=by
 unfold stC
 rw [dif_neg h]
theorem push_nil (x:Int):push [] x=[x]:=by unfold push; simp
theorem push_one (x:Int):push [x] (-x)=[]:=by
 have:=push_cancel (o:=[]) x (fun i hi=>by simp at hi)
 rwa [push_nil] at this
theorem stC_inv (hi:InvS step):InvT (stC step):=fun p x hx=>by
 refine Subtype.ext ?_
 by_cases h:p.1.2=[]
 ·cases hs:step p.1.1 x with
  | some d =>
   have h1:=stC_some h hs
   have h2:step (stC step p x).1.1 (-x)=some p.1.1:=by rw [h1]; exact hi _ _ _ hx hs
   rw [stC_some (by rw [h1]) h2,← h]
  | none =>
   have h1:=stC_none h hs
   rw [stC_push (by rw [h1]; simp),h1]
   simp only [push_one]
   rw [← h]
 ·have h1:=stC_push (x:=x) h
  by_cases h2:push p.1.2 x=[]
  ·have h3:=push_cancel x p.2.1
   rw [h2,push_nil] at h3
   have h4:step p.1.1 (-x)=none:=p.2.2 (-x) [] h3.symm
   rw [stC_none (by rw [h1]; exact h2) (by rw [h1]; exact h4),h1]
   simp only [h3]
  ·rw [stC_push (by rw [h1]; exact h2),h1]
   simp only [push_cancel x p.2.1]
def inC (step:X→Int→Option X) (c:X):Cp step:=⟨(c,[]),⟨fun i hi=>by simp at hi,fun _ _ e=>by cases e⟩⟩
theorem runC_in:∀ {w:List Int} {c d:X},runW step c w=some d→w.foldl (stC step) (inC step c)=inC step d
 | [],c,d,h=>by obtain rfl:=Option.some.inj h; rfl
 | x :: w,c,d,h=>by
  unfold runW at h
  cases e:step c x with
  | none=>rw [e] at h; cases h
  | some m =>
   rw [e] at h
   have h1:stC step (inC step c) x=inC step m:=Subtype.ext (stC_some (p:=inC step c) rfl e)
   rw [List.foldl_cons,h1]
   exact runC_in h
theorem red_tail {x:Int} {w:List Int} (h:Red (x :: w)):Red w:=fun i hi=>by
 have:=h (i + 1) (by simp only [List.length_cons]; omega)
 simpa using this
theorem red_head {l:List Int} {x:Int} {w:List Int} (h:Red (l++x :: w)) (hl:l ≠ []):push l x=l++[x]:=by
 unfold push
 rw [if_neg]
 rintro ⟨h1,h2⟩
 have:=h (l.length - 1) (by simp; omega)
 rw [getD_app1 (by omega),getD_app2 (by omega),h2,show l.length - 1 + 1 - l.length=0 by omega] at this
 exact this rfl
theorem runC_hair:∀ (w:List Int) (p:Cp step),p.1.2 ≠ []→Red (p.1.2++w)→(w.foldl (stC step) p).1=(p.1.1,p.1.2++w)
 | [],p,_,_=>by simp
 | x :: w,p,hp,hr=>by
  have h1:=stC_push (x:=x) hp
  rw [red_head hr hp] at h1
  rw [List.foldl_cons,runC_hair w _ (by rw [h1]; simp) (by rw [h1]; simpa using hr),h1]
  simp
/-- A reduced word that leads from a place to a place never leaves. -/
theorem runC_out:∀ {w:List Int} {c d:X},Red w→w.foldl (stC step) (inC step c)=inC step d→runW step c w=some d
 | [],c,d,_,h=>by
  have:=congrArg (fun p:Cp step=>p.1.1) h
  exact congrArg some this
 | x :: w,c,d,hr,h=>by
  rw [List.foldl_cons] at h
  unfold runW
  cases e:step c x with
  | some m =>
   have h1:stC step (inC step c) x=inC step m:=Subtype.ext (stC_some (p:=inC step c) rfl e)
   rw [h1] at h
   exact runC_out (red_tail hr) h
  | none =>
   have h1:=stC_none (p:=inC step c) rfl e
   have h2:=runC_hair w (stC step (inC step c) x) (by rw [h1]; simp) (by rw [h1]; exact hr)
   rw [h,h1] at h2
   have:=congrArg Prod.snd h2
   cases this
end
theorem memT_mem {S:List (List Int)} {w:List Int} (h:MemT S w) (hr:Red w):Mem S w:=fun X step x0 hi hc =>
 runC_out hr (h _ (stC step) (inC step x0) (stC_inv hi) fun s hs=>runC_in (hc s hs))

section
variable {step:Nat→Int→Option Nat} {lst:List Nat} {f:Wy}
theorem basS_mem {w:List Int} : w∈basS step lst f↔∃ e∈PE step lst,bw step f e=w∧w ≠ []:=by
 unfold basS
 rw [List.mem_filter,List.mem_map]
 constructor
 ·rintro ⟨⟨e,he,h⟩,h2⟩
  exact ⟨e,he,h,fun h3=>by rw [h3] at h2; simp at h2⟩
 ·rintro ⟨e,he,h,h2⟩
  refine ⟨⟨e,he,h⟩,?_⟩
  cases w with
  | nil=>exact absurd rfl h2
  | cons=>simp
theorem GT.bas_run (g:GT step lst f) {w:List Int} (h:w∈basS step lst f):runW step 0 w=some 0:=by
 obtain ⟨e,he,rfl,_⟩:=basS_mem.1 h
 exact g.run_bw he
theorem GT.bw_ok (g:GT step lst f) {e:Nat × Int} (he:e∈PE step lst):Ok (wy f e.1++[e.2]++back (wy f (tgt step e))):=by
 obtain ⟨h1,h2,h3,h4⟩:=PE_st g he
 exact ((g.ok _ h1).app (fun y hy=>by rw [List.mem_singleton] at hy; subst hy; exact g.lt _ h1 _ _ h3)).app (g.ok _ h4).back
theorem GT.bas_ok (g:GT step lst f) {w:List Int} (h:w∈basS step lst f):Ok w:=by
 obtain ⟨e,he,rfl,_⟩:=basS_mem.1 h
 exact (g.bw_ok he).short
/-- Roads by a whole action that the basis leaves where it is. -/
theorem GT.act (g:GT step lst f) {X:Type} {T:X→Int→X} {x0:X} (hi:InvT T) (hc:∀ s∈basS step lst f,s.foldl T x0=x0) {u v:Nat} {x:Int} (hu:u∈lst) (h:step u x=some v):T ((wy f u).foldl T x0) x=(wy f v).foldl T x0:=by
 have pos:∀ e∈PE step lst,T ((wy f e.1).foldl T x0) e.2=(wy f (tgt step e)).foldl T x0:=fun e he=>by
  have hb:(bw step f e).foldl T x0=x0:=by
   by_cases h0:bw step f e=[]
   ·rw [h0]; rfl
   ·exact hc _ (basS_mem.2 ⟨e,he,rfl,h0⟩)
  obtain ⟨h1,h2,h3,h4⟩:=PE_st g he
  have hz:=(g.ok _ h4).nz
  unfold bw at hb
  rw [runT_short hi (g.bw_ok he).nz,List.foldl_append,List.foldl_append] at hb
  have:=runT_back2 hi hz (List.foldl T (List.foldl T x0 (wy f e.1)) [e.2])
  rw [hb] at this
  exact this.symm
 have hx:=g.nz hu h
 obtain ⟨h1,⟨h2,e⟩ | ⟨h2,e⟩⟩:=g.edg_mem hu h
 ·have:=pos _ h1
  rw [e,tgt_of h] at this
  exact this
 ·have:=pos _ h1
  rw [e,tgt_of (g.inv _ _ _ hx h)] at this
  simp only at this
  rw [← this]
  have h3:=hi ((wy f v).foldl T x0) (-x) (by omega)
  rwa [Int.neg_neg] at h3
theorem GT.inL (g:GT step lst f):∀ {w:List Int} {u v:Nat},u∈lst→runW step u w=some v→v∈lst
 | [],u,v,hu,h=>by obtain rfl:=Option.some.inj h; exact hu
 | x :: w,u,v,hu,h=>by
  unfold runW at h
  cases e:step u x with
  | none=>rw [e] at h; cases h
  | some m=>rw [e] at h; exact g.inL (g.cl u hu x m e) h
theorem GT.actW (g:GT step lst f) {X:Type} {T:X→Int→X} {x0:X} (hi:InvT T) (hc:∀ s∈basS step lst f,s.foldl T x0=x0):∀ {w:List Int} {u v:Nat},u∈lst→runW step u w=some v→w.foldl T ((wy f u).foldl T x0)=(wy f v).foldl T x0
 | [],u,v,hu,h=>by obtain rfl:=Option.some.inj h; rfl
 | x :: w,u,v,hu,h=>by
  unfold runW at h
  cases e:step u x with
  | none=>rw [e] at h; cases h
  | some m=>rw [e] at h; rw [List.foldl_cons,g.act hi hc hu e]; exact g.actW hi hc (g.cl u hu x m e) h
/-- What leads back is made by the basis. -/
theorem GT.gen (g:GT step lst f) {w:List Int} (h:runW step 0 w=some 0):MemT (basS step lst f) w:=fun X T x0 hi hc=>by
 have:=g.actW hi hc g.mem0 h
 rwa [g.wy0] at this
/-! ### A basis is free -/

/-- Places, and words of numbers of edges. -/
def frS (step:Nat→Int→Option Nat) (B:List (Nat × Int)):Nat × { l:List Int // Red l }→Int→Option (Nat × { l:List Int // Red l }):=fun c x=>(step c.1 x).map fun v =>
 (v,if edg c.1 x v∈B then ⟨push c.2.1 (if 0 < x then (B.idxOf (edg c.1 x v):Int) + 1 else -((B.idxOf (edg c.1 x v):Int) + 1)),red_push c.2.2⟩ else c.2)
theorem frS_inv {B:List (Nat × Int)} (hi:InvS step):InvS (frS step B):=fun c d x hx h=>by
 unfold frS at h ⊢
 obtain ⟨v,hv,e⟩:=Option.map_eq_some_iff.1 h
 subst e
 rw [hi _ _ _ hx hv]
 simp only [Option.map_some,edg_rev hx]
 obtain ⟨u,l,hl⟩:=c
 by_cases hB:edg u x v∈B
 ·simp only [if_pos hB]
  refine congrArg some (Prod.ext rfl (Subtype.ext ?_))
  show push (push l _) _=l
  by_cases h2:0 < x
  ·rw [if_pos h2,if_neg (by omega)]; exact push_cancel _ hl
  ·rw [if_neg h2,if_pos (by omega)]
   have:=push_cancel (-((B.idxOf (edg u x v):Int) + 1)) hl
   rwa [Int.neg_neg] at this
 ·simp only [if_neg hB]
theorem GT.fr_way (g:GT step lst f) (c : { l:List Int // Red l }):∀ u∈lst,runW (frS step (NT step lst f)) (0,c) (wy f u)=some (u,c):=
 g.ind (P:=fun u l=>runW (frS step (NT step lst f)) (0,c) l=some (u,c)) rfl fun u v x hu hv hs hw ih=>by
  rw [runW_app,ih]
  show runW (frS step (NT step lst f)) (u,c) [x]=some (v,c)
  have hn:edg u x v ∉ NT step lst f:=fun hm=>by
   have:=(List.mem_filter.1 hm).2
   rw [g.tree_nil hu hs hw] at this; simp at this
  unfold runW frS
  simp only [hs,Option.map_some,if_neg hn]
  rfl
theorem GT.fr_bw (g:GT step lst f) (c : { l:List Int // Red l }) {e:Nat × Int} (he:e∈NT step lst f):runW (frS step (NT step lst f)) (0,c) (bw step f e)=some (0,⟨push c.1 ((NT step lst f).idxOf e + 1),red_push c.2⟩):=by
 have hp:=(List.mem_filter.1 he).1
 obtain ⟨h1,h2,h3,h4⟩:=PE_st g hp
 have hz1:=(g.ok _ h1).nz
 have hz2:=(g.ok _ h4).nz
 unfold bw
 refine run_short (frS_inv g.inv) (g.bw_ok hp).nz ?_
 have hb:=run_back (frS_inv (B:=NT step lst f) g.inv) hz2 (g.fr_way ⟨push c.1 ((NT step lst f).idxOf e + 1),red_push c.2⟩ _ h4)
 rw [runW_app,runW_app,g.fr_way c _ h1]
 show (runW (frS step (NT step lst f)) (e.1,c) [e.2]).bind _=_
 have hed:edg e.1 e.2 (tgt step e)=e:=by unfold edg; rw [if_pos h2]
 have:runW (frS step (NT step lst f)) (e.1,c) [e.2]=some (tgt step e,⟨push c.1 ((NT step lst f).idxOf e + 1),red_push c.2⟩):=by
  unfold runW frS
  simp only [h3,Option.map_some,hed,if_pos he,if_pos h2]
  rfl
 rw [this]
 exact hb
/-- Words of the basis, by their numbers. -/
def basW (b:List (List Int)) (w:List Int):List Int:=w.flatMap fun k=>if 0 < k then b.getD (k.toNat - 1) [] else back (b.getD ((-k).toNat - 1) [])
theorem GT.free (g:GT step lst f) {w:List Int} (hr:Red w) (hk:∀ k∈w,k ≠ 0∧k≤(basS step lst f).length∧-k≤(basS step lst f).length) (hw:w ≠ []):short (basW (basS step lst f) w) ≠ []:=by
 have hlen:(basS step lst f).length=(NT step lst f).length:=by rw [basS_eq,List.length_map]
 have hb:∀ j,j < (NT step lst f).length→∀ c,runW (frS step (NT step lst f)) (0,c) ((basS step lst f).getD j [])=some (0,⟨push c.1 (j + 1),red_push c.2⟩):=fun j hj c=>by
  have e:(basS step lst f).getD j []=bw step f (NT step lst f)[j]:=by
   rw [basS_eq,List.getD_eq_getElem?_getD,List.getElem?_map,List.getElem?_eq_getElem hj]; rfl
  rw [e,g.fr_bw c (List.getElem_mem hj)]
  have:=idx_nd (NT_nd (step:=step) (f:=f) g.nd) j hj
  simp only [this]
 have hbz:∀ j,j < (NT step lst f).length→Nz ((basS step lst f).getD j []):=fun j hj=>by
  have:(basS step lst f).getD j []∈basS step lst f:=by
   rw [List.getD_eq_getElem?_getD,List.getElem?_eq_getElem (by omega)]; exact List.getElem_mem _
  exact (g.bas_ok this).nz
 have go:∀ (w:List Int) (o:List Int) (ho:Red o),(∀ k∈w,k ≠ 0∧k≤(basS step lst f).length∧-k≤(basS step lst f).length)→∃ h,runW (frS step (NT step lst f)) (0,⟨o,ho⟩) (basW (basS step lst f) w)=some (0,⟨w.foldl push o,h⟩):=by
  intro w
  induction w with
  | nil=>intro o ho _; exact ⟨ho,rfl⟩
  | cons k w ih =>
   intro o ho hk
   obtain ⟨k1,k2,k3⟩:=hk k (by simp)
   obtain ⟨h,hh⟩:=ih (push o k) (red_push ho) fun y hy=>hk y (by simp [hy])
   refine ⟨h,?_⟩
   have e:basW (basS step lst f) (k :: w)=(if 0 < k then (basS step lst f).getD (k.toNat - 1) [] else back ((basS step lst f).getD ((-k).toNat - 1) []))++basW (basS step lst f) w:=by
    unfold basW; rw [List.flatMap_cons]
   have h1:runW (frS step (NT step lst f)) (0,⟨o,ho⟩) (if 0 < k then (basS step lst f).getD (k.toNat - 1) [] else back ((basS step lst f).getD ((-k).toNat - 1) []))=some (0,⟨push o k,red_push ho⟩):=by
    split
    ·rename_i hp
     rw [hb _ (by omega)]
     simp only [show ((k.toNat - 1:Nat):Int) + 1=k by omega]
    ·rename_i hp
     have h2:=hb ((-k).toNat - 1) (by omega) ⟨push o k,red_push ho⟩
     simp only [show (((-k).toNat - 1:Nat):Int) + 1 = -k by omega,push_cancel k ho] at h2
     exact run_back (frS_inv g.inv) (hbz _ (by omega)) h2
   rw [e,runW_app,h1]
   exact hh
 intro h0
 obtain ⟨h,hh⟩:=go w [] (fun i hi=>by simp at hi) hk
 have hz:Nz (basW (basS step lst f) w):=fun y hy=>by
  unfold basW at hy
  obtain ⟨k,hkm,hy⟩:=List.mem_flatMap.1 hy
  obtain ⟨k1,k2,k3⟩:=hk k hkm
  split at hy
  ·exact hbz _ (by omega) y hy
  ·exact (hbz _ (by omega)).back y hy
 have h1:=run_short (frS_inv g.inv) hz hh
 rw [h0] at h1
 have h2:[]=w.foldl push []:=congrArg (fun p=>p.2.1) (Option.some.inj h1)
 have h3:w.foldl push []=w:=short_red hr
 exact hw (h3.symm.trans h2.symm)
end
end Go.Proofs.Ytneglephfhiamaa

/-
  Graphs with a tree of roads: how many letters lead on; conjugated subgroups. Conditions: none.
-/
set_option linter.all false
namespace Go.Proofs.Ytneglephfhiamaa
open Go.Pv

section
variable {step:Nat→Int→Option Nat} {lst:List Nat} {f:Wy}
theorem flat_len {α β:Type} (g:α→List β):∀ l:List α,(l.flatMap g).length=(l.map fun a=>(g a).length).sum
 | []=>rfl
 | a :: l=>by rw [List.flatMap_cons,List.length_append,flat_len g l,List.map_cons,List.sum_cons]
theorem split_len {α:Type} (p:α→Bool):∀ l:List α,(l.filter p).length + (l.filter fun x=>!p x).length=l.length
 | []=>rfl
 | a :: l=>by
  have:=split_len p l
  simp only [List.filter_cons,List.length_cons]
  cases h:p a
  ·simp only [Bool.not_false,if_true,List.length_cons]; simp; omega
  ·simp only [Bool.not_true,if_true,List.length_cons]; simp; omega
/-- All letters that lead on are twice the edges. -/
theorem GT.deg (g:GT step lst f):(lst.map fun u=>(ltS step u).length).sum=2 * (PE step lst).length:=by
 obtain ⟨NE,hNE⟩:∃ NE,lst.flatMap (fun u=>((ltS step u).filter fun x=>!decide (0 < x)).map fun x=>(u,x))=NE:=⟨_,rfl⟩
 have h1:NE.length=(PE step lst).length:=by
  have hst:∀ u x,(u,x)∈NE↔u∈lst∧¬ 0 < x∧(step u x).isSome=true:=fun u x=>by
   rw [← hNE,List.mem_flatMap]
   constructor
   ·rintro ⟨v,hv,h⟩
    obtain ⟨y,hy,e⟩:=List.mem_map.1 h
    injection e with e1 e2
    subst e1; subst e2
    have:=List.mem_filter.1 hy
    exact ⟨hv,by simpa using this.2,(mem_ltS.1 this.1).2⟩
   ·rintro ⟨hu,hx,hs⟩
    refine ⟨u,hu,List.mem_map.2 ⟨x,List.mem_filter.2 ⟨mem_ltS.2 ⟨?_,hs⟩,by simpa using hx⟩,rfl⟩⟩
    obtain ⟨v,hv⟩:=Option.isSome_iff_exists.1 hs
    exact (g.lt u hu x v hv).2
  have hn:NE.Nodup:=by
   rw [← hNE]
   exact nodup_flat g.nd (fun u _=>nodup_mapF (List.Nodup.sublist List.filter_sublist (ltS_nd u)) fun a _ b _ e=>by injection e) fun u _ v _ z hz1 hz2=>by
    obtain ⟨a,_,rfl⟩:=List.mem_map.1 hz1
    obtain ⟨b,_,e⟩:=List.mem_map.1 hz2
    injection e with e _
    exact e.symm
  have hmap:∀ e∈NE,e.1∈lst∧e.2 < 0∧step e.1 e.2=some (tgt step e)∧tgt step e∈lst∧step (tgt step e) (-e.2)=some e.1:=fun ⟨u,x⟩ he=>by
   obtain ⟨h1,h2,h3⟩:=(hst u x).1 he
   obtain ⟨v,hv⟩:=Option.isSome_iff_exists.1 h3
   rw [tgt_of hv]
   have:=g.nz h1 hv
   exact ⟨h1,by simp only; omega,hv,g.cl u h1 x v hv,g.inv _ _ _ this hv⟩
  have e1:(NE.map fun e=>(tgt step e,-e.2)).length=NE.length:=List.length_map ..
  rw [← e1]
  refine nd_eq (nodup_mapF hn fun a ha b hb e=>?_) (PE_nd g.nd) fun e=>?_
  ·injection e with e1 e2
   obtain ⟨a1,a2,a3,a4,a5⟩:=hmap a ha
   obtain ⟨b1,b2,b3,b4,b5⟩:=hmap b hb
   rw [e1,e2,b5] at a5
   exact Prod.ext (Option.some.inj a5).symm (by omega)
  ·constructor
   ·intro h
    obtain ⟨a,ha,rfl⟩:=List.mem_map.1 h
    obtain ⟨a1,a2,a3,a4,a5⟩:=hmap a ha
    exact (mem_PE g).2 ⟨a4,by omega,by rw [a5]; rfl⟩
   ·intro h
    obtain ⟨h1,h2,h3,h4⟩:=PE_st g h
    have h5:=g.inv _ _ _ (by omega) h3
    refine List.mem_map.2 ⟨(tgt step e,-e.2),(hst _ _).2 ⟨h4,by omega,by rw [h5]; rfl⟩,?_⟩
    rw [tgt_of h5,Int.neg_neg]
 have h2:(lst.map fun u=>(ltS step u).length).sum=(PE step lst).length + NE.length:=by
  unfold PE
  rw [← hNE,flat_len,flat_len]
  simp only [List.length_map]
  generalize lst=l
  induction l with
  | nil=>rfl
  | cons a r ih =>
   simp only [List.map_cons,List.sum_cons,ih]
   have:=split_len (fun x:Int=>decide (0 < x)) (ltS step a)
   omega
 omega
theorem sum_bd {α:Type} (h:α→Nat) (m:Nat):∀ l:List α,(∀ a∈l,h a≤m)→(l.map h).sum≤m * l.length∧((l.map h).sum=m * l.length→∀ a∈l,h a=m)
 | [],_=>⟨by simp,fun _ a ha=>by cases ha⟩
 | a :: l,hb=>by
  obtain ⟨h1,h2⟩:=sum_bd h m l fun x hx=>hb x (by simp [hx])
  have:=hb a (by simp)
  simp only [List.map_cons,List.sum_cons,List.length_cons,Nat.mul_succ]
  refine ⟨by omega,fun e x hx=>?_⟩
  rcases List.mem_cons.1 hx with rfl | hx
  ·omega
  ·exact h2 (by omega) x hx
theorem sum_all {α:Type} (h:α→Nat) (m:Nat):∀ l:List α,(∀ a∈l,h a=m)→(l.map h).sum=m * l.length
 | [],_=>by simp
 | a :: l,hb=>by
  have:=sum_all h m l fun x hx=>hb x (by simp [hx])
  have:=hb a (by simp)
  simp only [List.map_cons,List.sum_cons,List.length_cons,Nat.mul_succ]; omega
/-- Letters are at most n. -/
def Ltn (step:Nat→Int→Option Nat) (lst:List Nat) (n:Int):Prop:=∀ u∈lst,∀ x v,step u x=some v→-n≤x∧x≤n
def lets (n:Nat):List Int:=(List.range n).flatMap fun i:Nat=>[(i:Int) + 1,-((i:Int) + 1)]
theorem lets_len (n:Nat):(lets n).length=2 * n:=by
 unfold lets
 rw [flat_len,sum_all (fun i:Nat=>[(i:Int) + 1,-((i:Int) + 1)].length) 2 _ fun a _=>rfl,List.length_range]
theorem mem_lets {n:Nat} {x:Int} : x∈lets n↔x ≠ 0∧-(n:Int)≤x∧x≤n:=by
 unfold lets
 rw [List.mem_flatMap]
 constructor
 ·rintro ⟨i,hi,h⟩
  have:=List.mem_range.1 hi
  simp only [List.mem_cons,List.not_mem_nil,or_false] at h
  omega
 ·rintro ⟨h1,h2,h3⟩
  refine ⟨(x.natAbs - 1),List.mem_range.2 (by omega),?_⟩
  simp only [List.mem_cons,List.not_mem_nil,or_false]; omega
theorem lets_nd (n:Nat):(lets n).Nodup:=
 nodup_flat List.nodup_range (fun i _=>by simp; omega) fun i _ j _ z h1 h2=>by
  simp only [List.mem_cons,List.not_mem_nil,or_false] at h1 h2
  omega
theorem GT.deg_le (g:GT step lst f) {n:Nat} (h:Ltn step lst n) {u:Nat} (hu:u∈lst):(ltS step u).length≤2 * n:=by
 rw [← lets_len n]
 refine nd_le (ltS_nd u) fun x hx=>?_
 obtain ⟨v,hv⟩:=Option.isSome_iff_exists.1 (mem_ltS.1 hx).2
 exact mem_lets.2 ⟨g.nz hu hv,h u hu x v hv⟩
/-- All letters up to n lead on from everywhere. -/
def Full (step:Nat→Int→Option Nat) (lst:List Nat) (n:Nat):Prop:=∀ u∈lst,2 * n≤(ltS step u).length
theorem GT.full_iff (g:GT step lst f) {n:Nat} (h:Ltn step lst n):Full step lst n↔(PE step lst).length=n * lst.length:=by
 have h1:=g.deg
 have h2:=sum_bd (fun u=>(ltS step u).length) (2 * n) lst fun u hu=>g.deg_le h hu
 constructor
 ·intro hf
  have:=sum_all (fun u=>(ltS step u).length) (2 * n) lst fun u hu=>Nat.le_antisymm (g.deg_le h hu) (hf u hu)
  rw [this,Nat.mul_assoc] at h1
  omega
 ·intro e u hu
  exact Nat.le_of_eq (h2.2 (by rw [h1,e,Nat.mul_assoc]) u hu).symm
theorem nd_all {α:Type} [DecidableEq α] {a b:List α} (hn:a.Nodup) (hs:∀ x∈a,x∈b) (hb:b.Nodup) (hl:b.length≤a.length):∀ x∈b,x∈a:=fun x hx=>by
 refine Classical.byContradiction fun h=>?_
 have:=nd_le (a:=x :: a) (b:=b) (List.nodup_cons.2 ⟨h,hn⟩) fun y hy=>by
  rcases List.mem_cons.1 hy with rfl | hy
  ·exact hx
  ·exact hs y hy
 simp only [List.length_cons] at this; omega
theorem GT.full_st (g:GT step lst f) {n:Nat} (h:Ltn step lst n):Full step lst n↔∀ u∈lst,∀ x,x ≠ 0→-(n:Int)≤x→x≤n→(step u x).isSome=true:=by
 have sub:∀ u∈lst,∀ x∈ltS step u,x∈lets n:=fun u hu x hx=>by
  obtain ⟨v,hv⟩:=Option.isSome_iff_exists.1 (mem_ltS.1 hx).2
  exact mem_lets.2 ⟨g.nz hu hv,h u hu x v hv⟩
 constructor
 ·intro hf u hu x h1 h2 h3
  have:=nd_all (ltS_nd u) (sub u hu) (lets_nd n) (by rw [lets_len]; exact hf u hu) x (mem_lets.2 ⟨h1,h2,h3⟩)
  exact (mem_ltS.1 this).2
 ·intro hs u hu
  rw [← lets_len n]
  refine nd_le (lets_nd n) fun x hx=>?_
  obtain ⟨h1,h2,h3⟩:=mem_lets.1 hx
  have:=hs u hu x h1 h2 h3
  obtain ⟨v,hv⟩:=Option.isSome_iff_exists.1 this
  exact mem_ltS.2 ⟨(g.lt u hu x v hv).2,this⟩
end

/-! ### Conjugated subgroups -/

section
variable {step:Nat→Int→Option Nat} {lst:List Nat} {f:Wy}
/-- What a graph's words are made of. -/
def Lang (step:Nat→Int→Option Nat) (S:List (List Int)):Prop:=∀ l,runW step 0 l=some 0↔Mem S l
theorem conj_mem {S S' : List (List Int)} {w:List Int} (hw:Nz w) (hS:∀ s∈S,Nz s) (h:∀ s∈S,short (back w++s++w)∈S') {l:List Int} (hm:MemT S (w++l++back w)):MemT S' l:=fun X T x0 hi hc=>by
 have h1:∀ s∈S,s.foldl T ((back w).foldl T x0)=(back w).foldl T x0:=fun s hs=>by
  have h2:=hc _ (h s hs)
  rw [runT_short hi ((hw.back.app (hS s hs)).app hw),List.foldl_append,List.foldl_append] at h2
  have h3:=runT_back hi hw (s.foldl T ((back w).foldl T x0))
  rw [h2] at h3
  exact h3.symm
 have h2:=hm X T _ hi h1
 rw [List.foldl_append,List.foldl_append,runT_back2 hi hw] at h2
 have h3:=runT_back2 hi hw (l.foldl T x0)
 rw [h2,runT_back2 hi hw] at h3
 exact h3.symm
theorem conj_mem' {S S' : List (List Int)} {w:List Int} (hw:Nz w) (hS:∀ s∈S,Nz s) (h:∀ s'∈S',∃ s∈S,s' = short (back w++s++w)) {l:List Int} (hm:MemT S' l):MemT S (w++l++back w):=fun X T x0 hi hc=>by
 have h1:∀ s∈S',s.foldl T (w.foldl T x0)=w.foldl T x0:=fun s hs=>by
  obtain ⟨t,ht,rfl⟩:=h s hs
  rw [runT_short hi ((hw.back.app (hS t ht)).app hw),List.foldl_append,List.foldl_append,runT_back hi hw,hc t ht]
 rw [List.foldl_append,List.foldl_append,hm X T _ hi h1,runT_back hi hw]
theorem Lang.memT {S:List (List Int)} (h:Lang step S) {l:List Int} (hl:MemT S l) (hr:Red l):runW step 0 l=some 0:=(h l).2 (memT_mem hl hr)
/-- A letter, again and again, leads back. -/
theorem cyc {X:Type} {T:X→Int→X} (hi:InvT T) {y:Int} (hy:y ≠ 0) {c:X} {lst:List Nat} (e:Nat→X) (hin:∀ n,∃ u∈lst,(List.replicate n y).foldl T c=e u):∃ k,0 < k∧(List.replicate k y).foldl T c=c:=by
 have bk:∀ n m,(List.replicate (n + m) y).foldl T c=(List.replicate n y).foldl T c→(List.replicate m y).foldl T c=c:=by
  intro n
  induction n with
  | zero=>intro m h; rw [Nat.zero_add] at h; exact h
  | succ n ih =>
   intro m h
   refine ih m ?_
   rw [show n + 1 + m=(n + m) + 1 by omega,List.replicate_succ',List.replicate_succ',List.foldl_append,List.foldl_append] at h
   have:=congrArg (fun z=>T z (-y)) h
   simp only [List.foldl_cons,List.foldl_nil,hi _ _ hy] at this
   exact this
 obtain ⟨p,hp⟩:∃ p:Nat→Nat,∀ n,p n∈lst∧(List.replicate n y).foldl T c=e (p n):=
  ⟨fun n=>(hin n).choose,fun n=>(hin n).choose_spec⟩
 by_cases hinj:∀ i j,i≤lst.length→j≤lst.length→p i=p j→i=j
 ·have:=nd_le (a:=(List.range (lst.length + 1)).map p) (b:=lst) (nodup_mapF List.nodup_range fun i hi j hj h=>hinj i j (by have:=List.mem_range.1 hi; omega) (by have:=List.mem_range.1 hj; omega) h) fun x hx=>by
   obtain ⟨i,_,rfl⟩:=List.mem_map.1 hx
   exact (hp i).1
  simp at this
  omega
 ·have:∃ i j,p i=p j∧i < j:=by
   refine Classical.byContradiction fun hno=>hinj fun i j _ _ h=>?_
   rcases Nat.lt_trichotomy i j with h1 | h1 | h1
   ·exact absurd ⟨i,j,h,h1⟩ hno
   ·exact h1
   ·exact absurd ⟨j,i,h.symm,h1⟩ hno
  obtain ⟨i,j,h,hij⟩:=this
  refine ⟨j - i,by omega,bk i (j - i) ?_⟩
  rw [show i + (j - i)=j by omega,(hp i).2,(hp j).2,h]
theorem red_rep (n:Nat) {y:Int} (hy:y ≠ 0):Red (List.replicate n y):=fun i hi=>by
 rw [List.length_replicate] at hi
 rw [List.getD_eq_getElem?_getD,List.getD_eq_getElem?_getD,List.getElem?_replicate,List.getElem?_replicate,if_pos (by omega),if_pos (by omega)]
 simp only [Option.getD_some]; omega
theorem inC_inj {X:Type} {step:X→Int→Option X} {c d:X} (h:inC step c=inC step d):c=d:=congrArg (fun p:Cp step=>p.1.1) h
theorem stC_in {X:Type} {step:X→Int→Option X} {c d:X} {x:Int} (e:step c x=some d):stC step (inC step c) x=inC step d:=Subtype.ext (stC_some (p:=inC step c) rfl e)
/-- At a hair that starts with a great letter less letters only write. -/
theorem hair_fold {X:Type} {step:X→Int→Option X} {a:Int} : ∀ (w:List Int) (p:Cp step) (l:List Int),p.1.2=a :: l→(∀ x∈w,x ≠ -a)→(w.foldl (stC step) p).1=(p.1.1,w.foldl push p.1.2)
 | [],p,l,h,_=>rfl
 | x :: w,p,l,h,hx=>by
  have h1:=stC_push (p:=p) (x:=x) (by rw [h]; simp)
  have hne:∃ l',push p.1.2 x=a :: l':=by
   rw [h]
   unfold push
   split
   ·rename_i hc
    cases l with
    | nil =>
     have:=hc.2
     simp at this
     exact absurd (by omega) (hx x (by simp))
    | cons b l=>exact ⟨(b :: l).take l.length,rfl⟩
   ·exact ⟨_,rfl⟩
  obtain ⟨l',hl'⟩:=hne
  rw [List.foldl_cons,hair_fold w _ l' (by rw [h1]; exact hl') fun y hy=>hx y (by simp [hy]),h1]
  rfl
variable {step' : Nat→Int→Option Nat} {lst' : List Nat} {f' : Wy}
theorem conj_full (g:GT step lst f) (g' : GT step' lst' f') {S S' : List (List Int)} (hS:∀ s∈S,Nz s) {w:List Int} (hw:Nz w) (h1:∀ s∈S,short (back w++s++w)∈S') (h2:∀ s'∈S',∃ s∈S,s' = short (back w++s++w))
  (hL:Lang step S) (hL' : Lang step' S') {n:Nat} (hn:0 < n) (hb:Ltn step lst n) (hb' : Ltn step' lst' n) (hf:Full step lst n):Full step' lst' n∧lst'.length≤lst.length:=by
 have hst:=(g.full_st hb).1 hf
 have hi:=stC_inv g.inv
 have hi':=stC_inv g'.inv
 
 have stay:∀ u∈lst,∀ x,x ≠ 0→-(n:Int)≤x→x≤n→∃ v∈lst,stC step (inC step u) x=inC step v:=fun u hu x a1 a2 a3=>by
  obtain ⟨v,hv⟩:=Option.isSome_iff_exists.1 (hst u hu x a1 a2 a3)
  exact ⟨v,g.cl u hu x v hv,stC_in hv⟩
 have stayW:∀ (l:List Int) (u:Nat),u∈lst→(∀ x∈l,x ≠ 0∧-(n:Int)≤x∧x≤n)→∃ v∈lst,l.foldl (stC step) (inC step u)=inC step v:=by
  intro l
  induction l with
  | nil=>intro u hu _; exact ⟨u,hu,rfl⟩
  | cons x l ih =>
   intro u hu hx
   obtain ⟨a1,a2,a3⟩:=hx x (by simp)
   obtain ⟨v,hv,e⟩:=stay u hu x a1 a2 a3
   rw [List.foldl_cons,e]
   exact ih v hv fun y hy=>hx y (by simp [hy])
 have cycl:∀ u∈lst,∀ y:Int,y ≠ 0→-(n:Int)≤y→y≤n→∃ k,0 < k∧(List.replicate k y).foldl (stC step) (inC step u)=inC step u:=fun u hu y a1 a2 a3 =>
  cyc (lst:=lst) hi a1 (inC step) fun m=>by
   obtain ⟨v,hv,e⟩:=stayW (List.replicate m y) u hu fun x hx=>by rw [(List.mem_replicate.1 hx).2]; exact ⟨a1,a2,a3⟩
   exact ⟨v,hv,e⟩
 obtain ⟨x0,hx0⟩:∃ x0,w.foldl (stC step) (inC step 0)=x0:=⟨_,rfl⟩
 have hcS:∀ s∈S,s.foldl (stC step) (inC step 0)=inC step 0:=fun s hs=>runC_in ((hL s).2 fun X st y0 _ hc=>hc s hs)
 have hcS' : ∀ s∈S',s.foldl (stC step) x0=x0:=fun s hs=>by
  obtain ⟨t,ht,rfl⟩:=h2 s hs
  rw [runT_short hi ((hw.back.app (hS t ht)).app hw),List.foldl_append,List.foldl_append,← hx0,runT_back hi hw,hcS t ht]
 have hcT:∀ {l},MemT S' l→l.foldl (stC step) x0=x0:=fun h=>h _ _ _ hi hcS'
 
 have letW:∀ (l:List Int) (u v:Nat),u∈lst'→runW step' u l=some v→∀ x∈l,x ≠ 0∧-(n:Int)≤x∧x≤n:=by
  intro l
  induction l with
  | nil=>intro u v _ _ x hx; cases hx
  | cons y l ih =>
   intro u v hu h x hx
   unfold runW at h
   cases e:step' u y with
   | none=>rw [e] at h; cases h
   | some m =>
    rw [e] at h
    rcases List.mem_cons.1 hx with rfl | hx
    ·exact ⟨g'.nz hu e,hb' u hu _ _ e⟩
    ·exact ih m v (g'.cl u hu y m e) h x hx
 have toS' : ∀ {l:List Int},Nz l→l.foldl (stC step) x0=x0→MemT S' l:=fun {l} hz h=>by
  have hz2:Nz (w++l++back w):=(hw.app hz).app hw.back
  refine conj_mem hw hS h1 (MemT.unshort hz2 (mem_memT ((hL _).1 (runC_out (red_short _) ?_))))
  rw [runT_short hi hz2,List.foldl_append,List.foldl_append,hx0,h,← hx0,runT_back hi hw]
 
 obtain ⟨u0,hu0,hxu⟩:∃ u0∈lst,x0=inC step u0:=by
  have hc0:x0.1.1∈lst:=by
   have go:∀ (l:List Int) (p:Cp step),p.1.1∈lst→(l.foldl (stC step) p).1.1∈lst:=by
    intro l
    induction l with
    | nil=>intro p h; exact h
    | cons x l ih =>
     intro p h
     rw [List.foldl_cons]
     refine ih _ ?_
     by_cases hp:p.1.2=[]
     ·cases e:step p.1.1 x with
      | some d=>rw [stC_some hp e]; exact g.cl _ h x d e
      | none=>rw [stC_none hp e]; exact h
     ·rw [stC_push hp]; exact h
   rw [← hx0]; exact go w _ g.mem0
  refine ⟨x0.1.1,hc0,Subtype.ext ?_⟩
  cases hp:x0.1.2 with
  | nil=>exact Prod.ext rfl hp
  | cons a l =>
   exfalso
   have ha:=x0.2.2 a l hp
   have hal:¬ (a ≠ 0∧-(n:Int)≤a∧a≤n):=fun ⟨a1,a2,a3⟩=>by
    have:=hst _ hc0 a a1 a2 a3
    rw [ha] at this; cases this
   obtain ⟨k,hk,hkc⟩:=cycl 0 g.mem0 1 (by decide) (by omega) (by omega)
   obtain ⟨z,hz⟩:∃ z,List.replicate k (1:Int)=z:=⟨_,rfl⟩
   rw [hz] at hkc
   have hzn:Nz z:=fun x hx=>by rw [← hz] at hx; rw [(List.mem_replicate.1 hx).2]; decide
   have hzr:Red z:=hz ▸ red_rep k (by decide)
   obtain ⟨z',hz'⟩:∃ z',short (back w++z++w)=z':=⟨_,rfl⟩
   have hn3:Nz (back w++z++w):=(hw.back.app hzn).app hw
   have hcl:z'.foldl (stC step) x0=x0:=by
    rw [← hz',runT_short hi hn3,List.foldl_append,List.foldl_append,← hx0,runT_back hi hw,hkc]
   have hm:=toS' (hz' ▸ hn3.short) hcl
   have hr:=hL'.memT hm (hz' ▸ red_short _)
   have hlet:=letW z' 0 0 g'.mem0 hr
   have h3:=hair_fold z' x0 l hp fun x hx e=>hal (by have:=hlet x hx; omega)
   rw [hcl] at h3
   have h4:=congrArg Prod.snd h3
   simp only at h4
   have h5:short (x0.1.2++z')=x0.1.2:=by rw [short_app,short_red x0.2.1]; exact h4.symm
   have h6:short (back x0.1.2++(x0.1.2++z'))=[]:=by rw [← short_right,h5,short_inv']
   rw [← List.append_assoc,← short_left,short_inv',List.nil_append,← hz',short_short] at h6
   have h7:short (w++(back w++z++w)++back w)=[]:=by
    rw [← short_mid,h6,List.append_nil,short_inv]
   have h8:w++(back w++z++w)++back w=(w++back w)++z++(w++back w):=by simp [List.append_assoc]
   rw [h8,← short_right,short_inv,List.append_nil,← short_left,short_inv,List.nil_append,short_red hzr,← hz] at h7
   have:=congrArg List.length h7
   simp at this; omega
 have hbas:∀ s∈basS step' lst' f',s.foldl (stC step) x0=x0:=fun s hs=>hcT (mem_memT ((hL' s).1 (g'.bas_run hs)))
 have letY:∀ a∈lst',∀ x∈wy f' a,x ≠ 0∧-(n:Int)≤x∧x≤n:=fun a ha=>letW _ 0 a g'.mem0 (g'.run a ha)
 obtain ⟨p,hp⟩:∃ p:Nat→Nat,∀ a∈lst',p a∈lst∧(wy f' a).foldl (stC step) x0=inC step (p a):=by
  have:=fun a (ha:a∈lst')=>stayW (wy f' a) u0 hu0 (letY a ha)
  rw [← hxu] at this
  classical
  exact ⟨fun a=>if ha:a∈lst' then (this a ha).choose else 0,fun a ha=>by simp only [dif_pos ha]; exact (this a ha).choose_spec⟩
 have hcl' : ∀ {l},MemT S' l→l.foldl (stC step') (inC step' 0)=inC step' 0:=fun h=>h _ _ _ hi' fun s hs=>runC_in ((hL' s).2 fun X st y0 _ hc=>hc s hs)
 have hin' : ∀ a∈lst',(wy f' a).foldl (stC step') (inC step' 0)=inC step' a:=fun a ha=>runC_in (g'.run a ha)
 have inj:∀ a∈lst',∀ b∈lst',p a=p b→a=b:=fun a ha b hb e=>by
  have za:=(g'.ok a ha).nz
  have zb:=(g'.ok b hb).nz
  have hm:MemT S' (wy f' a++back (wy f' b)):=toS' (za.app zb.back) (by
   rw [List.foldl_append,(hp a ha).2,e,← (hp b hb).2,runT_back hi zb])
  have h3:=hcl' hm
  rw [List.foldl_append,hin' a ha] at h3
  have h4:=runT_back2 hi' zb (inC step' a)
  rw [h3,hin' b hb] at h4
  exact (inC_inj h4).symm
 refine ⟨(g'.full_st hb').2 fun a ha y y1 y2 y3=>?_,?_⟩
 ·have za:=(g'.ok a ha).nz
  obtain ⟨k,hk,hkc⟩:=cycl (p a) (hp a ha).1 y y1 y2 y3
  have hm:MemT S' (wy f' a++List.replicate k y++back (wy f' a)):=toS' ((za.app fun x hx=>by rw [(List.mem_replicate.1 hx).2]; exact y1).app za.back) (by
   rw [List.foldl_append,List.foldl_append,(hp a ha).2,hkc,← (hp a ha).2,runT_back hi za])
  have h3:=hcl' hm
  rw [List.foldl_append,List.foldl_append,hin' a ha] at h3
  have h4:=runT_back2 hi' za ((List.replicate k y).foldl (stC step') (inC step' a))
  rw [h3,hin' a ha] at h4
  have h5:=runC_out (red_rep k y1) h4.symm
  obtain ⟨k',rfl⟩:∃ k',k=k' + 1:=⟨k - 1,by omega⟩
  rw [List.replicate_succ] at h5
  unfold runW at h5
  cases e:step' a y with
  | none=>rw [e] at h5; cases h5
  | some m=>rfl
 ·have h3:(lst'.map p).length=lst'.length:=List.length_map ..
  rw [← h3]
  exact nd_le (nodup_mapF g'.nd inj) fun x hx=>by
   obtain ⟨a,ha,rfl⟩:=List.mem_map.1 hx
   exact (hp a ha).1
/-- Conjugated subgroups have the same rank. -/
theorem conj_rank (g:GT step lst f) (g' : GT step' lst' f') {S S' : List (List Int)} (hS:∀ s∈S,Nz s) {w:List Int} (hw:Nz w) (h1:∀ s∈S,short (back w++s++w)∈S') (h2:∀ s'∈S',∃ s∈S,s' = short (back w++s++w))
  (hL:Lang step S) (hL' : Lang step' S'):(basS step lst f).length≤(basS step' lst' f').length:=by
 obtain ⟨B,hB⟩:∃ B,(basS step' lst' f').map (fun b=>short (w++b++back w))=B:=⟨_,rfl⟩
 have hl:(basS step' lst' f').length=B.length:=by rw [← hB,List.length_map]
 rw [hl]
 have hbz:∀ b∈basS step' lst' f',Nz b:=fun b hb=>(g'.bas_ok hb).nz
 refine rank_le g (fun s hs=>?_) fun e he=>?_
 ·rw [← hB] at hs
  obtain ⟨b,hb,rfl⟩:=List.mem_map.1 hs
  exact hL.memT (MemT.short ((hw.app (hbz b hb)).app hw.back) (conj_mem' hw hS h2 (mem_memT ((hL' b).1 (g'.bas_run hb))))) (red_short _)
 ·have hm:=(hL _).1 (g.run_bw (List.mem_filter.1 he).1)
  refine memT_mem ((mem_memT hm).trans fun s hs=>?_) (by unfold bw; exact red_short _)
  
  have hs':=h1 s hs
  obtain ⟨s',hs2⟩:∃ s',short (back w++s++w)=s':=⟨_,rfl⟩
  rw [hs2] at hs'
  have h3:MemT (basS step' lst' f') s':=g'.gen ((hL' s').2 fun X st y0 _ hc=>hc s' hs')
  intro X T x0 hi hc
  have h4:∀ b∈basS step' lst' f',b.foldl T (w.foldl T x0)=w.foldl T x0:=fun b hb=>by
   have h5:=hc _ (by rw [← hB]; exact List.mem_map.2 ⟨b,hb,rfl⟩)
   rw [runT_short hi ((hw.app (hbz b hb)).app hw.back),List.foldl_append,List.foldl_append] at h5
   have h6:=runT_back2 hi hw (b.foldl T (w.foldl T x0))
   rw [h5] at h6
   exact h6.symm
  have h5:=h3 X T _ hi h4
  rw [← hs2,runT_short hi ((hw.back.app (hS s hs)).app hw),List.foldl_append,List.foldl_append,runT_back hi hw] at h5
  have h6:=runT_back hi hw (s.foldl T x0)
  rw [h5,runT_back hi hw] at h6
  exact h6.symm
end
end Go.Proofs.Ytneglephfhiamaa

/-
  The library's sort by a comparison, over a row of the caller's own: what it leaves. Conditions: none; a library text.
-/
set_option linter.all false
namespace Go.Pv
open Go.RowKit

section
variable {P:Program} {ρ:Go.Shelf.Ren}

end
end Go.Pv

/-
  The library's sort of numbers, over a row of the caller's own: what it leaves. Conditions: none; a library text.
-/
set_option linter.all false
namespace Go.Pv
open Go.RowKit

section
variable {P:Program} {ρ:Go.Shelf.Ren}
def srt (l:List Int):List Int:=l.mergeSort fun x y=>decide (x≤y)

/-- slices.Sort of numbers: behind it the row holds them in order. -/
theorem sortI_m (L:Go.Proofs.Lays.n189 P ρ) (zs:List Int) (hlen:zs.length < 4611686018427387904) :
  FnM P (ρ.f 189) [.sl 0 0 zs.length] [.own (opl (il zs))] (.p (.tup [])) [.own (opl (il (srt zs)))]:=by
 refine ⟨⟨_,L.f189,by kernel_rfl,rfl⟩,fun C m w vals R=>?_⟩
 have hsz:vals.size=1:=R.size
 have s0:=R.slot 0
 simp only [St.get,entA,lk,BEq.rfl,cond_true] at s0
 generalize hv0:vals.getD 0 undef=v0 at s0
 have hvals:vals = #[v0]:=by
  apply Array.ext
  ·simpa using hsz
  ·intro i h1 h2
   simp only [Array.getD_eq_getD_getElem?] at hv0
   match i,h2 with
   | 0,_=>rw [Array.getElem?_eq_getElem h1] at hv0; simpa using hv0
 subst hvals
 cases s0 with
 | sl _ _ _ _ hk0 h0 =>
 by_cases hne:zs=[]
 ·subst hne
  have hcall:∃ p cp,v0 = .slice p 0 cp:=by
   rcases h0 with ⟨_,a,h0⟩ | ⟨l,cp,hm,rfl,hle,hlo⟩
   ·exact ⟨a,_,h0⟩
   ·exact ⟨_,_,rfl⟩
  obtain ⟨p,cp,rfl⟩:=hcall
  refine (Go.Proofs.Any.slices_Sort_int_none L p cp w).mono fun e2 w2 ⟨he,hw⟩=>?_
  subst he hw
  rw [show srt ([]:List Int)=[] from by simp [srt]]
  exact ⟨.tuple #[],m,rfl,R.laid,R.below,R.base,rfl,R.inj,R.blk,R.fro,fun t=>by
   cases t with
   | zero=>exact .p _ _ (.tup [] #[] rfl fun c h=>absurd h (by simp))
   | succ t=>exact .dead _,R.mp⟩
 have hpos:0 < zs.length:=List.length_pos_iff.2 hne
 rcases h0 with ⟨h0,_⟩ | ⟨l,cp,hm,rfl,hle,hlo⟩
 ·omega
 rcases R.blk 0 (opl (il zs)) rfl with ⟨hx,_⟩ | ⟨l',cur,e,hm',hB,hg,hcs,hmx,hol,hcell⟩
 ·exact absurd (show zs=[] by simpa [opl,il] using hx) hne
 rw [hm] at hm'; cases hm'
 rw [opl_length,il_length] at hol
 have hblk:l.g < w.heap.size:=(Array.getElem?_eq_some_iff.1 hg).1
 have hrd:∀ j (h:j < zs.length),cur.getD (l.o + j) undef = .int .i64 zs[j]:=fun j h=>by
  have:=hcell j (by rw [opl_length,il_length]; exact h)
  simp only [opl,il,List.getElem_map] at this
  have h2:=this.p_inv
  generalize cur.getD (l.o + j) undef=v at h2 ⊢
  cases h2
  rfl
 have hH:Go.Sort.Holds (Value.int .i64) w l.g (l.o + 0) zs.toArray:=fun j hj=>by
  have hj' : j < zs.length:=by simpa using hj
  have hjc:l.o + j < cur.size:=by omega
  refine ⟨?_,?_⟩
  ·rw [getElem!_pos zs.toArray j hj]
   have:=hrd j hj'
   simp only [World.cell?,hg,Nat.add_zero]
   simpa [Array.getD_eq_getD_getElem?,Array.getElem?_eq_getElem hjc] using this
  ·simp [World.frozen?,hg]
 have hcall:=Go.Proofs.Any.slices_Sort_int L l.g (l.o + 0) cp zs w hH hblk hlen
 refine hcall.mono fun e2 w2 ⟨he,n,os,hw⟩=>?_
 subst he
 refine ⟨.tuple #[],m,rfl,?_⟩
 have hyl:(srt zs).length=zs.length:=(List.mergeSort_perm zs _).length_eq
 have hd' : (zs.mergeSort fun x y=>decide (x≤y)).toArray.size=zs.length:=by simpa using hyl
 have R1:Rel C m ⟨1,entA 0 [.sl 0 0 zs.length],hset ([.own (opl (il zs))]++ancs 0 [Blk.own (opl (il zs))].length) 0 (.own (opl (il (srt zs))))⟩ #[.slice (some ⟨l.g,l.o + 0,none⟩) zs.length cp] (Go.Sort.putRow (Value.int .i64) (Go.Sort.ahead w n) l.g (l.o + 0) (zs.mergeSort fun x y=>decide (x≤y)).toArray):=by
  refine R.setBlk (a:={ tmps:=#[.slice (some ⟨l.g,l.o + 0,none⟩) zs.length cp],defers:=[] }) (c:=opl (il zs)) rfl hm ⟨rfl,rfl,rfl,by simp,fun k hk=>?_,by simp⟩ (fun b hb=>?_) (cur:=Go.Sort.putCells (Value.int .i64) (l.o + 0) (zs.mergeSort fun x y=>decide (x≤y)).toArray cur) (e:=e) ?_ (by simp [Go.Sort.putCells,hcs]) (by rw [opl_length,il_length]; omega) fun j hj=>?_
  ·simp only [Go.Sort.putRow,Go.Sort.mapBlock,Array.getElem?_modify]
   rw [if_neg (fun e=>hk (by rw [← e]; exact hB))]; rfl
  ·simp only [Go.Sort.putRow,Go.Sort.mapBlock,Array.getElem?_modify]
   rw [if_neg (Ne.symm hb)]; rfl
  ·simp only [Go.Sort.putRow,Go.Sort.mapBlock,Array.getElem?_modify]
   rw [if_pos trivial]
   show Option.map _ (w.heap[l.g]?)=_
   rw [hg]; rfl
  ·rw [opl_length,il_length] at hj
   have hjc:l.o + j < cur.size:=by omega
   have hjd:j < (zs.mergeSort fun x y=>decide (x≤y)).toArray.size:=by omega
   have e3:(Go.Sort.putCells (Value.int .i64) (l.o + 0) (zs.mergeSort fun x y=>decide (x≤y)).toArray cur).getD (l.o + j) undef = .int .i64 ((srt zs)[j]'hj):=by
    simp only [Go.Sort.putCells,Array.getD_eq_getD_getElem?,Array.getElem?_mapIdx,Array.getElem?_eq_getElem hjc,Option.map_some,Option.getD_some]
    rw [if_pos ⟨by omega,by omega⟩,show l.o + j - (l.o + 0)=j by omega,getElem!_pos _ j hjd]
    rfl
   rw [e3]
   have e5:(opl (il (srt zs)))[j]'(by rw [opl_length,il_length]; exact hj) = .p (.int .i64 ((srt zs)[j]'hj)):=by simp [opl,il]
   rw [e5]
   exact .p _ _ (.int _ _)
 have R2:=R1.later (w':=w2) (by
  rw [hw]
  refine ⟨rfl,rfl,rfl,by simp,fun k hk=>?_,Nat.le_refl _⟩
  exact Go.Sort.heap_grow_old _ _ hk)
 exact ⟨R2.laid,R2.below,R2.base,rfl,R2.inj,R2.blk,R2.fro,fun t=>by
  cases t with
  | zero=>exact .p _ _ (.tup [] #[] rfl fun c h=>absurd h (by simp))
  | succ t=>exact .dead _,R2.mp⟩
end
end Go.Pv

/-
  Graphs of words: letters at a place, in order. Conditions: none.
-/
set_option linter.all false
namespace Go.Proofs.Ytneglephfhiamaa
open Go.Pv

theorem pw_ext:∀ {l m:List Int},l.Pairwise (· < ·)→m.Pairwise (· < ·)→(∀ x,x∈l↔x∈m)→l=m
 | [],[],_,_,_=>rfl
 | [],y :: m,_,_,h=>absurd ((h y).2 (by simp)) (by simp)
 | x :: l,[],_,_,h=>absurd ((h x).1 (by simp)) (by simp)
 | x :: l,y :: m,h1,h2,h=>by
  rw [List.pairwise_cons] at h1 h2
  have hxy:x=y:=by
   rcases List.mem_cons.1 ((h x).1 (by simp)) with e | e
   ·exact e
   ·rcases List.mem_cons.1 ((h y).2 (by simp)) with e2 | e2
    ·exact e2.symm
    ·have:=h2.1 x e
     have:=h1.1 y e2
     omega
  subst hxy
  congr 1
  refine pw_ext h1.2 h2.2 fun z=>?_
  constructor
  ·intro hz
   rcases List.mem_cons.1 ((h z).1 (by simp [hz])) with e | e
   ·have:=h1.1 z hz; omega
   ·exact e
  ·intro hz
   rcases List.mem_cons.1 ((h z).2 (by simp [hz])) with e | e
   ·have:=h2.1 z hz; omega
   ·exact e
/-- The letters of a place, in order. -/
def lts (f:Mp):List Int:=((List.range 53).map fun i:Nat=>(i:Int) - 26).filter fun x=>(f x).isSome
theorem mem_lts {f:Mp} {x:Int} : x∈lts f↔(-26≤x∧x≤26)∧(f x).isSome=true:=by
 unfold lts
 rw [List.mem_filter,List.mem_map]
 constructor
 ·rintro ⟨⟨i,hi,rfl⟩,h⟩
  have:=List.mem_range.1 hi
  exact ⟨by omega,h⟩
 ·rintro ⟨h1,h2⟩
  exact ⟨⟨(x + 26).toNat,List.mem_range.2 (by omega),by omega⟩,h2⟩
theorem lts_pw (f:Mp):(lts f).Pairwise (· < ·):=by
 unfold lts
 refine List.Pairwise.filter _ ?_
 rw [List.pairwise_map]
 exact List.pairwise_lt_range.imp fun h=>by omega
theorem srt_pw {l:List Int} (h:l.Nodup):(srt l).Pairwise (· < ·):=by
 have h1:(srt l).Pairwise fun x y=>decide (x≤y)=true:=List.pairwise_mergeSort (fun a b c h1 h2=>by simp at *; omega) (fun a b=>by simp; omega) l
 have h2:(srt l).Nodup:=(List.mergeSort_perm l _).nodup_iff.2 h
 rw [List.nodup_iff_pairwise_ne] at h2
 exact (h1.and h2).imp fun ⟨a,b⟩=>by simp at a; omega
theorem srt_mem {l:List Int} {x:Int} : x∈srt l↔x∈l:=(List.mergeSort_perm l _).mem_iff
theorem srt_lts {f:Mp} {l:List Int} (h:l.Nodup) (hm:∀ z,(f z).isSome=true↔z∈l) (hb:∀ z∈l,-26≤z∧z≤26):srt l=lts f:=by
 refine pw_ext (srt_pw h) (lts_pw f) fun x=>?_
 rw [srt_mem,mem_lts,hm]
 exact ⟨fun hx=>⟨hb x hx,hx⟩,fun hx=>hx.2⟩
theorem lts_len (f:Mp):(lts f).length≤53:=by
 unfold lts
 refine Nat.le_trans (List.length_filter_le _ _) ?_
 simp

end Go.Proofs.Ytneglephfhiamaa

/-
  Places in the order in which they are reached: roads are as short as can be. Conditions: none.
-/
set_option linter.all false
namespace Go.Proofs.Ytneglephfhiamaa
open Go.Pv

/-- Places ahead of the i-th have been looked at. -/
structure BQ (G:List Mp) (U:List Int) (lst:List Nat) (f:Wy) (i:Nat):Prop where
 srt:∀ j k,j≤k→k < lst.length→(wy f (lst.getD j 0)).length≤(wy f (lst.getD k 0)).length
 cap:i < lst.length→∀ j,j < lst.length→(wy f (lst.getD j 0)).length≤(wy f (lst.getD i 0)).length + 1
 dn:∀ j,j < i→∀ x v,v < G.length→rV U v=v→Ed G U (lst.getD j 0) x v→v∈lst∧(wy f v).length≤(wy f (lst.getD j 0)).length + 1
/-- And so have some letters of the i-th. -/
def BL (G:List Mp) (U:List Int) (lst:List Nat) (f:Wy) (i:Nat) (xs:List Int):Prop:=
 ∀ x∈xs,∀ v,v < G.length→rV U v=v→Ed G U (lst.getD i 0) x v→v∈lst∧(wy f v).length≤(wy f (lst.getD i 0)).length + 1

section
variable {G:List Mp} {U:List Int} {lst:List Nat} {f:Wy} {i:Nat}
theorem bq_zero:BQ G U [0] (updW (fun _=>none) 0 []) 0:=by
 refine ⟨fun j k h1 h2=>?_,fun _ j hj=>?_,fun j h=>absurd h (Nat.not_lt_zero _)⟩
 ·simp only [List.length_singleton] at h2
  obtain rfl:k=0:=by omega
  obtain rfl:j=0:=by omega
  exact Nat.le_refl _
 ·simp only [List.length_singleton] at hj
  obtain rfl:j=0:=by omega
  omega
theorem updW_other {z:Int} {l:List Int} {v:Nat} (h:(v:Int) ≠ z):wy (updW f z l) v=wy f v:=by
 unfold wy updW; rw [if_neg h]
theorem updW_self {u:Nat} {l:List Int} : wy (updW f (u:Int) l) u=l:=by
 unfold wy updW; rw [if_pos rfl]; rfl
theorem snoc_getD {u j:Nat} (h:j < lst.length):(lst++[u]).getD j 0=lst.getD j 0:=by
 rw [List.getD_eq_getElem?_getD,List.getElem?_append_left h,← List.getD_eq_getElem?_getD]
theorem BI.notin (h:BI G U lst f) {u:Nat} (hn:f (u:Int)=none):u ∉ lst:=fun hm=>by
 have:=(h.dom u).2 ⟨u,hm,rfl⟩
 rw [hn] at this; cases this
theorem BI.other (h:BI G U lst f) {u v:Nat} {l:List Int} (hn:f (u:Int)=none) (hv:v∈lst):wy (updW f (u:Int) l) v=wy f v:=
 updW_other fun e=>h.notin hn (by
  have:v=u:=by omega
  exact this ▸ hv)
theorem BQ.snoc (h:BI G U lst f) (q:BQ G U lst f i) (hi:i < lst.length) {u:Nat} {x:Int} (hn:f (u:Int)=none):BQ G U (lst++[u]) (updW f u (wy f (lst.getD i 0)++[x])) i:=by
 have old:∀ j,j < lst.length→wy (updW f u (wy f (lst.getD i 0)++[x])) ((lst++[u]).getD j 0)=wy f (lst.getD j 0):=fun j hj=>by
  rw [snoc_getD hj]; exact h.other hn (mem_ix hj)
 have new:wy (updW f u (wy f (lst.getD i 0)++[x])) ((lst++[u]).getD lst.length 0)=wy f (lst.getD i 0)++[x]:=by
  have:(lst++[u]).getD lst.length 0=u:=by simp
  rw [this]; exact updW_self
 have hl:(lst++[u]).length=lst.length + 1:=by simp
 refine ⟨fun j k h1 h2=>?_,fun _ j hj=>?_,fun j hj y v hv hr he=>?_⟩
 ·rw [hl] at h2
  by_cases e:k < lst.length
  ·rw [old j (by omega),old k e]; exact q.srt j k h1 e
  ·obtain rfl:k=lst.length:=by omega
   rw [new,List.length_append,List.length_singleton]
   by_cases e2:j < lst.length
   ·rw [old j e2]; exact q.cap hi j e2
   ·obtain rfl:j=lst.length:=by omega
    rw [new]; simp
 ·rw [hl] at hj
  rw [old i hi]
  by_cases e:j < lst.length
  ·rw [old j e]; exact q.cap hi j e
  ·obtain rfl:j=lst.length:=by omega
   rw [new]; simp
 ·rw [snoc_getD (by omega)] at he
  obtain ⟨h1,h2⟩:=q.dn j hj y v hv hr he
  rw [old j (by omega),h.other hn h1]
  exact ⟨List.mem_append_left _ h1,h2⟩
theorem BL.snoc {xs:List Int} (h:BI G U lst f) (b:BL G U lst f i xs) (hi:i < lst.length) {u:Nat} {x:Int} (hn:f (u:Int)=none):BL G U (lst++[u]) (updW f u (wy f (lst.getD i 0)++[x])) i xs:=fun y hy v hv hr he=>by
 rw [snoc_getD hi] at he ⊢
 obtain ⟨h1,h2⟩:=b y hy v hv hr he
 rw [h.other hn (mem_ix hi),h.other hn h1]
 exact ⟨List.mem_append_left _ h1,h2⟩
/-- A letter more: it leads to a place that there is. -/
theorem BL.more {xs:List Int} (b:BL G U lst f i xs) {x:Int} {u:Nat} (hu:u∈lst) (hl:(wy f u).length≤(wy f (lst.getD i 0)).length + 1) (hx:∀ v,v < G.length→rV U v=v→Ed G U (lst.getD i 0) x v→v=u):BL G U lst f i (xs++[x]):=fun y hy v hv hr he=>by
 rcases List.mem_append.1 hy with hy | hy
 ·exact b y hy v hv hr he
 ·rw [List.mem_singleton] at hy
  subst hy
  rw [hx v hv hr he]
  exact ⟨hu,hl⟩
theorem BQ.next (q:BQ G U lst f i) {xs:List Int} (b:BL G U lst f i xs) (hx:∀ x v,v < G.length→rV U v=v→Ed G U (lst.getD i 0) x v→x∈xs):BQ G U lst f (i + 1):=by
 refine ⟨q.srt,fun h j hj=>?_,fun j hj x v hv hr he=>?_⟩
 ·have h1:=q.cap (by omega) j hj
  have h2:=q.srt i (i + 1) (by omega) h
  omega
 ·by_cases e:j < i
  ·exact q.dn j e x v hv hr he
  ·obtain rfl:j=i:=by omega
   exact b x (hx x v hv hr he) v hv hr he
theorem BQ.up {U' : List Int} (q:BQ G U lst f i) (h:BI G U lst f) (w:WG G U) (hr:∀ u,u < G.length→rV U' u=rV U u) (hi:i≤lst.length):BQ G U' lst f i:=
 ⟨q.srt,q.cap,fun j hj x v hv hrv he=>q.dn j hj x v hv (by rw [← hr v hv]; exact hrv) ((Ed.rv w hr (h.rt _ (mem_ix (by omega))).1 hv).1 he)⟩
theorem BL.up {U' : List Int} {xs:List Int} (b:BL G U lst f i xs) (h:BI G U lst f) (w:WG G U) (hr:∀ u,u < G.length→rV U' u=rV U u) (hi:i < lst.length):BL G U' lst f i xs:=fun x hx v hv hrv he =>
 b x hx v hv (by rw [← hr v hv]; exact hrv) ((Ed.rv w hr (h.rt _ (mem_ix hi)).1 hv).1 he)

/-- All places are reached, by roads that are as short as can be. -/
theorem bq_gt (w0:WG G U) (hp:0 < G.length) (hs:SymW G U []) (h:BI G U lst f) (q:BQ G U lst f lst.length):GT (stR G U) lst f∧∀ u∈lst,∀ w,runW (stR G U) 0 w=some u→(wy f u).length≤w.length:=by
 have hst:∀ {u v:Nat} {x:Int},stR G U u x=some v→u < G.length∧rV U u=u∧v < G.length∧rV U v=v∧Ed G U u x v:=fun {u v x} hsx=>by
  obtain ⟨h1,h2⟩:=stR_root w0 hsx
  rw [stR_of h1] at hsx
  exact ⟨h1.1,h1.2,h2.1,h2.2,(stp_ed w0 h1 h2.2).1 hsx⟩
 have dn:∀ u∈lst,∀ x v,stR G U u x=some v→v∈lst∧(wy f v).length≤(wy f u).length + 1:=fun u hu x v hsx=>by
  obtain ⟨_,_,a3,a4,a5⟩:=hst hsx
  obtain ⟨j,hj,rfl⟩:=ix_of hu
  exact q.dn j hj x v a3 a4 a5
 refine ⟨⟨stR_inv w0 hs,h.nd,h.hd,h.dom,h.zero,fun j hj h0=>?_,fun u hu x v hsx=>(dn u hu x v hsx).1,fun u hu x v hsx=>?_⟩,?_⟩
 ·obtain ⟨i,x,l,a1,a2,a3,a4⟩:=h.tree j hj h0
  have m1:=h.rt _ (mem_ix (l:=lst) (i:=i) (by omega))
  have m2:=h.rt _ (mem_ix (l:=lst) hj)
  exact ⟨i,x,l,a1,a2,a3,by rw [stR_of m1]; exact (stp_ed w0 m1 m2.2).2 a4⟩
 ·obtain ⟨a1,a2,a3,a4,d,a5,a6⟩:=hst hsx
  rw [a2] at a5
  exact (w0.ent u x d a1 a5).2.2
 ·have go:∀ (w:List Int) (u v:Nat),u∈lst→runW (stR G U) u w=some v→v∈lst∧(wy f v).length≤(wy f u).length + w.length:=by
   intro w
   induction w with
   | nil=>intro u v hu h; obtain rfl:=Option.some.inj h; exact ⟨hu,by simp⟩
   | cons x w ih =>
    intro u v hu h
    unfold runW at h
    cases e:stR G U u x with
    | none=>rw [e] at h; cases h
    | some m =>
     rw [e] at h
     obtain ⟨h1,h2⟩:=dn u hu x m e
     obtain ⟨h3,h4⟩:=ih m v h1 h
     refine ⟨h3,?_⟩
     simp only [List.length_cons]; omega
  intro u hu w hw
  have h0:(0:Nat)∈lst:=List.mem_of_mem_head? (by rw [h.hd]; rfl)
  have:=(go w 0 u h0 hw).2
  have hw0:wy f 0=[]:=by unfold wy; rw [show ((0:Nat):Int)=0 from rfl,h.zero]; rfl
  rw [hw0] at this
  simpa using this
theorem stR_eq {U' : List Int} (w:WG G U) (hr:∀ u,u < G.length→rV U' u=rV U u):stR G U' = stR G U:=by
 funext u x
 unfold stR
 by_cases hu:u < G.length
 ·rw [hr u hu]
  by_cases h:rV U u=u
  ·rw [if_pos ⟨hu,h⟩,if_pos ⟨hu,h⟩]
   unfold stp
   cases e:gm G u x with
   | none=>rfl
   | some d =>
    have:=(w.ent u x d hu e).2.1
    simp only [Option.map_some,hr _ this]
  ·rw [if_neg fun e=>h e.2,if_neg fun e=>h e.2]
 ·rw [if_neg fun e=>hu e.1,if_neg fun e=>hu e.1]
/-- The letters that the program lists are those of the steps. -/
theorem lts_ltS {u:Nat} (h:u < G.length∧rV U u=u):lts (gm G u)=ltS (stR G U) u:=by
 unfold lts ltS
 refine List.filter_congr fun x _=>?_
 rw [stR_of h]
 unfold stp
 cases gm G u x<;>rfl
end
end Go.Proofs.Ytneglephfhiamaa

/-
  What makes a folded graph makes it once: how many places and edges it has. Conditions: none.
-/
set_option linter.all false
namespace Go.Proofs.Ytneglephfhiamaa
open Go.Pv

/-- Places that are all reached. -/
structure CG (step:Nat→Int→Option Nat) (lst:List Nat):Prop where
 inv:InvS step
 nd:lst.Nodup
 m0:0∈lst
 cl:∀ u∈lst,∀ x v,step u x=some v→v∈lst
 lt:∀ u∈lst,∀ x v,step u x=some v→x ≠ 0∧-26≤x∧x≤26
 con:∀ u∈lst,∃ w,runW step 0 w=some u
/-- Edges are asked by the words alone. -/
def UniG (step:Nat→Int→Option Nat) (lst:List Nat) (S:List (List Int)):Prop:=
 ∀ (X:Type) (st:X→Int→Option X) (x0:X),InvS st→(∀ w∈S,runW st x0 w=some x0)→∃ κ:Nat→X,κ 0=x0∧∀ u∈lst,∀ x v,step u x=some v→st (κ u) x=some (κ v)

section
variable {step step' : Nat→Int→Option Nat} {lst lst' : List Nat} {f f' : Wy} {S:List (List Int)}
theorem GT.cg (g:GT step lst f):CG step lst:=⟨g.inv,g.nd,g.mem0,g.cl,g.lt,fun u hu=>⟨_,g.run u hu⟩⟩
theorem mem_PE0 (hlt:∀ u∈lst,∀ x v,step u x=some v→x ≠ 0∧-26≤x∧x≤26) {u:Nat} {x:Int} : (u,x)∈PE step lst↔u∈lst∧0 < x∧(step u x).isSome=true:=by
 unfold PE
 rw [List.mem_flatMap]
 constructor
 ·rintro ⟨v,hv,h⟩
  obtain ⟨y,hy,e⟩:=List.mem_map.1 h
  injection e with e1 e2
  subst e1; subst e2
  have:=List.mem_filter.1 hy
  exact ⟨hv,by simpa using this.2,(mem_ltS.1 this.1).2⟩
 ·rintro ⟨hu,hx,hs⟩
  refine ⟨u,hu,List.mem_map.2 ⟨x,List.mem_filter.2 ⟨mem_ltS.2 ⟨?_,hs⟩,by simpa using hx⟩,rfl⟩⟩
  obtain ⟨v,hv⟩:=Option.isSome_iff_exists.1 hs
  exact (hlt u hu x v hv).2
theorem CG.inL (c:CG step lst):∀ {w:List Int} {u v:Nat},u∈lst→runW step u w=some v→v∈lst
 | [],u,v,hu,h=>by obtain rfl:=Option.some.inj h; exact hu
 | x :: w,u,v,hu,h=>by
  unfold runW at h
  cases e:step u x with
  | none=>rw [e] at h; cases h
  | some m=>rw [e] at h; exact c.inL (c.cl u hu x m e) h
theorem run_hom {X:Type} {st:X→Int→Option X} {κ:Nat→X} (c:CG step lst) (h:∀ u∈lst,∀ x v,step u x=some v→st (κ u) x=some (κ v)):∀ {w:List Int} {u v:Nat},u∈lst→runW step u w=some v→runW st (κ u) w=some (κ v)
 | [],u,v,hu,e=>by obtain rfl:=Option.some.inj e; rfl
 | x :: w,u,v,hu,e=>by
  unfold runW at e ⊢
  cases e1:step u x with
  | none=>rw [e1] at e; cases e
  | some m =>
   rw [e1] at e
   rw [h u hu x m e1]
   exact run_hom c h (c.cl u hu x m e1) e
theorem lang_of (c:CG step lst) (u:UniG step lst S) (h:∀ s∈S,runW step 0 s=some 0):Lang step S:=fun l=>by
 constructor
 ·intro hr X st x0 hi hc
  obtain ⟨κ,k1,k2⟩:=u X st x0 hi hc
  have:=run_hom c k2 c.m0 hr
  rwa [k1] at this
 ·intro hm
  exact hm Nat step 0 c.inv h
theorem cg_half (c:CG step lst) (c' : CG step' lst') (u:UniG step lst S) (u' : UniG step' lst' S) (h:∀ s∈S,runW step 0 s=some 0) (h' : ∀ s∈S,runW step' 0 s=some 0) :
  lst.length≤lst'.length∧(PE step lst).length≤(PE step' lst').length:=by
 obtain ⟨κ,k1,k2⟩:=u Nat step' 0 c'.inv h'
 obtain ⟨μ,m1,m2⟩:=u' Nat step 0 c.inv h
 have hκ:∀ a∈lst,κ a∈lst'∧μ (κ a)=a:=fun a ha=>by
  obtain ⟨w,hw⟩:=c.con a ha
  have h1:=run_hom c k2 c.m0 hw
  rw [k1] at h1
  have h2:=run_hom c' m2 c'.m0 h1
  rw [m1,hw] at h2
  exact ⟨c'.inL c'.m0 h1,(Option.some.inj h2).symm⟩
 have inj:∀ a∈lst,∀ b∈lst,κ a=κ b→a=b:=fun a ha b hb e=>by rw [← (hκ a ha).2,e,(hκ b hb).2]
 constructor
 ·have e:(lst.map κ).length=lst.length:=List.length_map ..
  rw [← e]
  exact nd_le (nodup_mapF c.nd inj) fun x hx=>by
   obtain ⟨a,ha,rfl⟩:=List.mem_map.1 hx
   exact (hκ a ha).1
 ·have e:((PE step lst).map fun p=>(κ p.1,p.2)).length=(PE step lst).length:=List.length_map ..
  rw [← e]
  refine nd_le (nodup_mapF (PE_nd c.nd) fun a ha b hb e=>?_) fun x hx=>?_
  ·injection e with e1 e2
   exact Prod.ext (inj _ ((mem_PE0 c.lt).1 ha).1 _ ((mem_PE0 c.lt).1 hb).1 e1) e2
  ·obtain ⟨⟨a,y⟩,ha,rfl⟩:=List.mem_map.1 hx
   obtain ⟨h1,h2,h3⟩:=(mem_PE0 c.lt).1 ha
   obtain ⟨v,hv⟩:=Option.isSome_iff_exists.1 h3
   exact (mem_PE0 c'.lt).2 ⟨(hκ a h1).1,h2,by rw [k2 a h1 y v hv]; rfl⟩
theorem cg_iso (c:CG step lst) (c' : CG step' lst') (u:UniG step lst S) (u' : UniG step' lst' S) (h:∀ s∈S,runW step 0 s=some 0) (h' : ∀ s∈S,runW step' 0 s=some 0) :
  lst.length=lst'.length∧(PE step lst).length=(PE step' lst').length:=
 ⟨Nat.le_antisymm (cg_half c c' u u' h h').1 (cg_half c' c u' u h' h).1,Nat.le_antisymm (cg_half c c' u u' h h').2 (cg_half c' c u' u h' h).2⟩

/-- A folded graph of words. -/
structure IsG (S:List (List Int)) (step:Nat→Int→Option Nat) (lst:List Nat) (f:Wy):Prop where
 gt:GT step lst f
 uni:UniG step lst S
 cl:∀ s∈S,runW step 0 s=some 0
 far:∀ u∈lst,∀ w,runW step 0 w=some u→(wy f u).length≤w.length
/-- The same, with no tree. -/
structure IsC (S:List (List Int)) (step:Nat→Int→Option Nat) (lst:List Nat):Prop where
 cg:CG step lst
 uni:UniG step lst S
 cl:∀ s∈S,runW step 0 s=some 0
theorem IsG.isC (h:IsG S step lst f):IsC S step lst:=⟨h.gt.cg,h.uni,h.cl⟩
open Classical in
noncomputable def vS (S:List (List Int)):Nat:=if h:∃ p:(Nat→Int→Option Nat) × List Nat,IsC S p.1 p.2 then h.choose.2.length else 0
open Classical in
noncomputable def eS (S:List (List Int)):Nat:=if h:∃ p:(Nat→Int→Option Nat) × List Nat,IsC S p.1 p.2 then (PE h.choose.1 h.choose.2).length else 0
theorem IsC.cnt (h:IsC S step lst):lst.length=vS S∧(PE step lst).length=eS S:=by
 have hx:∃ p:(Nat→Int→Option Nat) × List Nat,IsC S p.1 p.2:=⟨(step,lst),h⟩
 have h2:=hx.choose_spec
 have:=cg_iso h.cg h2.cg h.uni h2.uni h.cl h2.cl
 unfold vS eS
 rw [dif_pos hx,dif_pos hx]
 exact this
theorem IsG.cnt (h:IsG S step lst f):lst.length=vS S∧(PE step lst).length=eS S:=h.isC.cnt
theorem IsG.rank (h:IsG S step lst f):(basS step lst f).length + vS S=eS S + 1:=by
 have:=basS_len h.gt
 rw [← h.cnt.1,← h.cnt.2]; exact this
/-- Letters of words are letters of the graph. -/
theorem uni_ltn (c:CG step lst) (u:UniG step lst S) {n:Int} (hS:∀ s∈S,∀ x∈s,-n≤x∧x≤n):Ltn step lst n:=by
 obtain ⟨κ,_,k2⟩:=u Unit (fun _ x=>if -n≤x∧x≤n then some () else none) () (fun c d x _ h=>by
  cases c; cases d
  dsimp only at h ⊢
  by_cases h2 : -n≤x∧x≤n
  ·rw [if_pos (by omega)]
  ·rw [if_neg h2] at h; cases h) fun s hs=>by
  have:∀ w:List Int,(∀ x∈w,-n≤x∧x≤n)→runW (fun (_:Unit) x=>if -n≤x∧x≤n then some () else none) () w=some ():=by
   intro w
   induction w with
   | nil=>intro _; rfl
   | cons x w ih =>
    intro h
    unfold runW
    rw [if_pos (h x (by simp))]
    exact ih fun y hy=>h y (by simp [hy])
  exact this s (hS s hs)
 intro a ha x v h
 have:=k2 a ha x v h
 by_cases h2 : -n≤x∧x≤n
 ·exact h2
 ·rw [if_neg h2] at this; cases this
theorem IsG.full (h:IsG S step lst f) {n:Nat} (hS:∀ s∈S,∀ x∈s,-(n:Int)≤x∧x≤n):Full step lst n↔eS S=n * vS S:=by
 rw [h.gt.full_iff (uni_ltn h.gt.cg h.uni hS),h.cnt.1,h.cnt.2]
end

/-- The program's graph is one. -/
theorem fi_isG {G:List Mp} {U:List Int} {S:List (List Int)} {lst:List Nat} {f:Wy} (fi:FI S G U S 0 []) (g:GT (stR G U) lst f) (hrt:∀ u∈lst,u < G.length∧rV U u=u) (hf:∀ u∈lst,∀ w,runW (stR G U) 0 w=some u→(wy f u).length≤w.length):IsG S (stR G U) lst f:=by
 have hz:rV U 0=0:=rV_zero fi.wg.fo (by rw [fi.wg.len]; exact fi.pos)
 refine ⟨g,fun X st x0 hi hc=>?_,fun s hs=>?_,hf⟩
 ·obtain ⟨κ,k1,k2,_⟩:=fi.uni X st x0 hi hc
  refine ⟨κ,k1,fun u hu x v hs=>?_⟩
  obtain ⟨h1,h2⟩:=stR_root fi.wg hs
  rw [stR_of h1] at hs
  exact k2.2 u x v h1.1 h2.1 (pe_nil.2 ((stp_ed fi.wg h1 h2.2).1 hs))
 ·have:=pth_run fi.wg s 0 0 fi.pos fi.pos (fi.cl s hs)
  rwa [hz] at this
end Go.Proofs.Ytneglephfhiamaa

/-
  The reference's folding: what it answers is folded. Conditions: none.
-/
set_option linter.all false
namespace Go.Proofs.Ytneglephfhiamaa
open Go.Pv

def e3d:E3:=(0,0,0)
/-- What two edges ask to be one. -/
def cl2 (s t:E3):Option (Nat × Nat):=if s.2.1 ≠ t.2.1 then none else if s.1=t.1∧s.2.2 ≠ t.2.2 then some (s.2.2,t.2.2) else if s.2.2=t.2.2∧s.1 ≠ t.1 then some (s.1,t.1) else none
def clashS (e:List E3):Option (Nat × Nat):=(List.range e.length).findSome? fun i=>(List.range i).findSome? fun k=>cl2 (e.getD i e3d) (e.getD k e3d)
def dd:List E3→List E3→List E3
 | f,[]=>f
 | f,x :: r=>if x∈f then dd f r else dd (f++[x]) r
def onceS (e:List E3) (a b:Nat):List E3:=dd [] (e.map (rhoE a b))
def foldF:Nat→List E3→List E3
 | 0,e=>e
 | n + 1,e=>match clashS e with
  | none=>e
  | some (a,b)=>foldF n (onceS e (min a b) (max a b))
def edE (at_:Nat) (x:Int) (to:Nat):E3:=if 0 < x then (at_,x,to) else (to,-x,at_)
def bqW:List Int→Nat→Nat→List E3→Nat × List E3
 | [],_,n,e=>(n,e)
 | x :: r,at_,n,e=>match r with
  | []=>(n,e++[edE at_ x 0])
  | _ :: _=>bqW r n (n + 1) (e++[edE at_ x n])
def bqL:List (List Int)→Nat→List E3→Nat × List E3
 | [],n,e=>(n,e)
 | w :: r,n,e=>bqL r (bqW w 0 n e).1 (bqW w 0 n e).2

theorem mem_dd:∀ (r f:List E3) (t:E3),t∈dd f r↔t∈f∨t∈r
 | [],f,t=>by simp [dd]
 | x :: r,f,t=>by
  unfold dd
  split
  ·rename_i h
   rw [mem_dd r f t]
   constructor
   ·rintro (h1 | h1)
    ·exact .inl h1
    ·exact .inr (List.mem_cons_of_mem _ h1)
   ·rintro (h1 | h1)
    ·exact .inl h1
    ·rcases List.mem_cons.1 h1 with rfl | h1
     ·exact .inl h
     ·exact .inr h1
  ·rw [mem_dd r _ t]
   simp only [List.mem_append,List.mem_cons,List.not_mem_nil,or_false]
   constructor
   ·rintro ((h1 | h1) | h1)
    ·exact .inl h1
    ·exact .inr (.inl h1)
    ·exact .inr (.inr h1)
   ·rintro (h1 | h1 | h1)
    ·exact .inl (.inl h1)
    ·exact .inl (.inr h1)
    ·exact .inr h1
theorem dd_nd:∀ (r f:List E3),f.Nodup→(dd f r).Nodup
 | [],f,h=>h
 | x :: r,f,h=>by
  unfold dd
  split
  ·exact dd_nd r f h
  ·rename_i hx
   refine dd_nd r _ ?_
   rw [List.nodup_append]
   exact ⟨h,by simp,fun a ha b hb=>by rw [List.mem_singleton] at hb; subst hb; exact fun e=>hx (e ▸ ha)⟩
theorem dd_len:∀ (r f:List E3),(dd f r).length≤f.length + r.length
 | [],f=>Nat.le_refl _
 | x :: r,f=>by
  unfold dd
  split
  ·have:=dd_len r f; simp only [List.length_cons]; omega
  ·have:=dd_len r (f++[x]); simp only [List.length_append,List.length_cons,List.length_nil] at this ⊢; omega
theorem mem_once {e:List E3} {a b:Nat} {t:E3} : t∈onceS e a b↔∃ s∈e,rhoE a b s=t:=by
 unfold onceS
 rw [mem_dd,List.mem_map]
 simp
theorem once_nd (e:List E3) (a b:Nat):(onceS e a b).Nodup:=dd_nd _ _ List.nodup_nil
theorem once_len (e:List E3) (a b:Nat):(onceS e a b).length≤e.length:=by
 have:=dd_len (e.map (rhoE a b)) []
 simpa [onceS] using this
theorem rho_id (u:Nat):rho 0 0 u=u:=by
 unfold rho; split
 ·rename_i h; exact h.symm
 ·rfl
theorem once_zero {e:List E3} {t:E3} : t∈onceS e 0 0↔t∈e:=by
 rw [mem_once]
 have hr:∀ s:E3,rhoE 0 0 s=s:=fun s=>by unfold rhoE; rw [rho_id,rho_id]
 constructor
 ·rintro ⟨s,hs,rfl⟩; rw [hr]; exact hs
 ·intro h; exact ⟨t,h,hr t⟩

theorem find_some {α:Type} {f:Nat→Option α} {n:Nat} {p:α} (h:(List.range n).findSome? f=some p):∃ i,i < n∧f i=some p:=by
 obtain ⟨i,hi,hf⟩:=List.exists_of_findSome?_eq_some h
 exact ⟨i,List.mem_range.1 hi,hf⟩
theorem mem_e3 {e:List E3} {i:Nat} (h:i < e.length):e.getD i e3d∈e:=by
 rw [List.getD_eq_getElem?_getD,List.getElem?_eq_getElem h]; exact List.getElem_mem h
theorem cl2_some {s t:E3} {a b:Nat} (h:cl2 s t=some (a,b)):s.2.1=t.2.1∧a ≠ b∧((s.1=t.1∧s.2.2=a∧t.2.2=b)∨(s.2.2=t.2.2∧s.1=a∧t.1=b)):=by
 unfold cl2 at h
 split at h
 ·cases h
 ·rename_i h1
  split at h
  ·rename_i h2
   have:=Option.some.inj h
   injection this with e1 e2
   exact ⟨by simpa using h1,by rw [← e1,← e2]; exact h2.2,.inl ⟨h2.1,e1,e2⟩⟩
  ·split at h
   ·rename_i h2
    have:=Option.some.inj h
    injection this with e1 e2
    exact ⟨by simpa using h1,by rw [← e1,← e2]; exact h2.2,.inr ⟨h2.1,e1,e2⟩⟩
   ·cases h
theorem clash_some {e:List E3} {a b:Nat} (h:clashS e=some (a,b)):Clash e a b∧a ≠ b:=by
 obtain ⟨i,hi,h1⟩:=find_some h
 obtain ⟨k,hk,h2⟩:=find_some h1
 obtain ⟨c1,c2,c3⟩:=cl2_some h2
 exact ⟨⟨_,mem_e3 hi,_,mem_e3 (by omega),c1,c3⟩,c2⟩
theorem clash_none {e:List E3} (h:clashS e=none):Det e:=by
 have hn:∀ i k,i < e.length→k < i→cl2 (e.getD i e3d) (e.getD k e3d)=none:=fun i k hi hk=>by
  have h1:=(List.findSome?_eq_none_iff.1 h) i (List.mem_range.2 hi)
  exact (List.findSome?_eq_none_iff.1 h1) k (List.mem_range.2 hk)
 have key:∀ i k,i < e.length→k < i→(e.getD i e3d).2.1=(e.getD k e3d).2.1→((e.getD i e3d).1=(e.getD k e3d).1↔(e.getD i e3d).2.2=(e.getD k e3d).2.2):=fun i k hi hk hx=>by
  have h1:=hn i k hi hk
  unfold cl2 at h1
  rw [if_neg (by simpa using hx)] at h1
  split at h1
  ·cases h1
  ·rename_i h2
   split at h1
   ·cases h1
   ·rename_i h3
    constructor
    ·intro h4; exact Classical.byContradiction fun h5=>h2 ⟨h4,h5⟩
    ·intro h4; exact Classical.byContradiction fun h5=>h3 ⟨h4,h5⟩
 have key2:∀ s∈e,∀ t∈e,s.2.1=t.2.1→(s.1=t.1↔s.2.2=t.2.2):=fun s hs t ht hx=>by
  obtain ⟨i,hi,rfl⟩:=List.getElem_of_mem hs
  obtain ⟨k,hk,rfl⟩:=List.getElem_of_mem ht
  have ei:e[i]=e.getD i e3d:=by rw [List.getD_eq_getElem?_getD,List.getElem?_eq_getElem hi]; rfl
  have ek:e[k]=e.getD k e3d:=by rw [List.getD_eq_getElem?_getD,List.getElem?_eq_getElem hk]; rfl
  rw [ei,ek] at hx ⊢
  rcases Nat.lt_trichotomy i k with h | h | h
  ·have:=key k i hk h hx.symm
   exact ⟨fun h=>(this.1 h.symm).symm,fun h=>(this.2 h.symm).symm⟩
  ·subst h; exact ⟨fun _=>rfl,fun _=>rfl⟩
  ·exact key i k hi h hx
 refine det_of fun a b ⟨s,hs,t,ht,hx,hc⟩=>?_
 rcases hc with ⟨h1,rfl,rfl⟩ | ⟨h1,rfl,rfl⟩
 ·exact (key2 s hs t ht hx).1 h1
 ·exact (key2 s hs t ht hx).2 h1

/-! ### Edges that are connected -/

structure FC (S:List (List Int)) (e:List E3):Prop where
 fe:FE S e
 let26:∀ t∈e,t.2.1≤26
 con:∀ t∈e,∃ w,PthE e 0 w t.1
theorem PthE.app {e:List E3} : ∀ {w v:List Int} {a b c:Nat},PthE e a w b→PthE e b v c→PthE e a (w++v) c
 | [],v,a,b,c,h,h2=>by rw [PthE] at h; subst h; exact h2
 | x :: w,v,a,b,c,⟨m,h1,h3⟩,h2=>⟨m,h1,PthE.app h3 h2⟩
theorem FE.congr {S:List (List Int)} {e f:List E3} (h:FE S e) (hm:∀ t,t∈f↔t∈e):FE S f:=by
 refine ⟨fun t ht=>h.pos t ((hm t).1 ht),fun w hw=>(h.cl w hw).mono fun t ht=>(hm t).2 ht,fun X step x0 hi hc=>?_⟩
 obtain ⟨κ,k1,k2⟩:=h.uni X step x0 hi hc
 exact ⟨κ,k1,fun t ht=>k2 t ((hm t).1 ht)⟩
theorem FC.congr {S:List (List Int)} {e f:List E3} (h:FC S e) (hm:∀ t,t∈f↔t∈e):FC S f:=
 ⟨h.fe.congr hm,fun t ht=>h.let26 t ((hm t).1 ht),fun t ht=>(h.con t ((hm t).1 ht)).imp fun w hw=>hw.mono fun t ht=>(hm t).2 ht⟩
theorem FC.join {S:List (List Int)} {e:List E3} {a b:Nat} (h:FC S e) (hc:Clash e a b∨Clash e b a) (hb:b ≠ 0):FC S (onceS e a b):=by
 refine ⟨h.fe.join hc hb (fun t ht=>mem_once.1 ht) fun t ht=>mem_once.2 ⟨t,ht,rfl⟩,fun t ht=>?_,fun t ht=>?_⟩
 ·obtain ⟨s,hs,rfl⟩:=mem_once.1 ht
  exact h.let26 s hs
 ·obtain ⟨s,hs,rfl⟩:=mem_once.1 ht
  obtain ⟨w,hw⟩:=h.con s hs
  have:=hw.map (a:=a) (b:=b) (f:=onceS e a b) fun t ht=>mem_once.2 ⟨t,ht,rfl⟩
  have h0:rho a b 0=0:=if_neg (fun e=>hb e.symm)
  rw [h0] at this
  exact ⟨w,this⟩

/-! ### How often places are put together -/

/-- How many places less than N edges have. -/
def occ (N:Nat) (e:List E3):Nat:=(List.range N).countP fun v=>decide (∃ t∈e,t.1=v∨t.2.2=v)
theorem occ_le (N:Nat) (e:List E3):occ N e≤N:=by
 have:=List.countP_le_length (p:=fun v=>decide (∃ t∈e,t.1=v∨t.2.2=v)) (l:=List.range N)
 simpa [occ] using this
theorem clash_mem {e:List E3} {a b:Nat} (h:Clash e a b):(∃ t∈e,t.1=a∨t.2.2=a)∧∃ t∈e,t.1=b∨t.2.2=b:=by
 obtain ⟨s,hs,t,ht,_,⟨_,h1,h2⟩ | ⟨_,h1,h2⟩⟩:=h
 ·exact ⟨⟨s,hs,.inr h1⟩,t,ht,.inr h2⟩
 ·exact ⟨⟨s,hs,.inl h1⟩,t,ht,.inl h2⟩
def Lt (N:Nat) (e:List E3):Prop:=∀ t∈e,t.1 < N∧t.2.2 < N
theorem lt_clash {N:Nat} {e:List E3} {a b:Nat} (hl:Lt N e) (h:Clash e a b):a < N∧b < N:=by
 obtain ⟨⟨s,hs,h1⟩,t,ht,h2⟩:=clash_mem h
 have:=hl s hs
 have:=hl t ht
 omega
theorem lt_once {N:Nat} {e:List E3} {a b:Nat} (hl:Lt N e) (ha:a < N):Lt N (onceS e a b):=fun t ht=>by
 obtain ⟨s,hs,rfl⟩:=mem_once.1 ht
 have:=hl s hs
 unfold rhoE rho
 simp only
 constructor<;>split<;>omega
theorem occ_once {N:Nat} {e:List E3} {a b:Nat} (hl:Lt N e) (h:Clash e a b∨Clash e b a) (hne:a ≠ b):occ N (onceS e a b) < occ N e:=by
 have hab:(∃ t∈e,t.1=a∨t.2.2=a)∧(∃ t∈e,t.1=b∨t.2.2=b)∧b < N:=by
  rcases h with h | h
  ·exact ⟨(clash_mem h).1,(clash_mem h).2,(lt_clash hl h).2⟩
  ·exact ⟨(clash_mem h).2,(clash_mem h).1,(lt_clash hl h).1⟩
 obtain ⟨h1,h2,h3⟩:=hab
 unfold occ
 refine countP_lt _ b (List.mem_range.2 h3) (by simpa using h2) ?_ fun x hx hx2=>?_
 ·simp only [decide_eq_false_iff_not,not_exists,not_and]
  intro t ht
  obtain ⟨s,hs,rfl⟩:=mem_once.1 ht
  unfold rhoE rho
  simp only
  intro hh
  rcases hh with hh | hh<;>split at hh<;>omega
 ·simp only [decide_eq_true_eq] at hx2 ⊢
  obtain ⟨t,ht,hh⟩:=hx2
  obtain ⟨s,hs,rfl⟩:=mem_once.1 ht
  unfold rhoE rho at hh
  simp only at hh
  rcases hh with hh | hh
  ·split at hh
   ·rw [← hh]; exact h1
   ·exact ⟨s,hs,.inl hh⟩
  ·split at hh
   ·rw [← hh]; exact h1
   ·exact ⟨s,hs,.inr hh⟩
theorem foldF_spec {S:List (List Int)} {N:Nat} : ∀ (n:Nat) (e:List E3),FC S e→Lt N e→occ N e≤n→FC S (foldF n e)∧Det (foldF n e)∧(e.Nodup→(foldF n e).Nodup)∧(foldF n e).length≤e.length
 | 0,e,h,hl,hn=>by
  refine ⟨h,?_,id,Nat.le_refl _⟩
  cases hc:clashS e with
  | none=>exact clash_none hc
  | some p =>
   obtain ⟨a,b⟩:=p
   obtain ⟨h1,h2⟩:=clash_some hc
   have:=occ_once hl (.inl h1) h2
   omega
 | n + 1,e,h,hl,hn=>by
  unfold foldF
  cases hc:clashS e with
  | none=>exact ⟨h,clash_none hc,id,Nat.le_refl _⟩
  | some p =>
   obtain ⟨a,b⟩:=p
   obtain ⟨h1,h2⟩:=clash_some hc
   have hcl:Clash e (min a b) (max a b)∨Clash e (max a b) (min a b):=by
    rcases Nat.le_total a b with h3 | h3
    ·rw [Nat.min_eq_left h3,Nat.max_eq_right h3]; exact .inl h1
    ·rw [Nat.min_eq_right h3,Nat.max_eq_left h3]; exact .inr h1
   have hab:=lt_clash hl h1
   have hlt:=occ_once hl hcl (by omega)
   have:=foldF_spec n (onceS e (min a b) (max a b)) (h.join hcl (by omega)) (lt_once hl (by omega)) (by omega)
   exact ⟨this.1,this.2.1,fun _=>this.2.2.1 (once_nd _ _ _),Nat.le_trans this.2.2.2 (once_len _ _ _)⟩

/-! ### The bouquet -/

/-- Words that are laid, and a part of one more. -/
structure BqI (S done:List (List Int)) (e:List E3) (n at_:Nat) (p:List Int):Prop where
 pos:0 < n
 al:at_ < n
 lt:∀ t∈e,t.1 < n∧t.2.2 < n∧0 < t.2.1∧t.2.1≤26
 cl:∀ w∈done,PthE e 0 w 0
 con:∀ u,u < n→∃ w,PthE e 0 w u
 pth:PthE e 0 p at_
 uni:∀ (X:Type) (step:X→Int→Option X) (x0:X),InvS step→(∀ w∈S,runW step x0 w=some x0)→∃ κ:Nat→X,κ 0=x0∧CmpE step κ e∧runW step x0 p=some (κ at_)
theorem bqI_zero (S:List (List Int)):BqI S [] [] 1 0 []:=by
 refine ⟨Nat.one_pos,Nat.one_pos,fun t ht=>?_,fun w hw=>?_,fun u hu=>⟨[],?_⟩,rfl,fun X step x0 _ _=>⟨fun _=>x0,rfl,fun t ht=>?_,rfl⟩⟩
 ·cases ht
 ·cases hw
 ·show 0=u; omega
 ·cases ht
theorem re_edE {e:List E3} {a b:Nat} {x:Int} (hx:x ≠ 0):Re (e++[edE a x b]) a x b:=by
 unfold edE
 by_cases h:0 < x
 ·rw [if_pos h]; exact .inl ⟨h,by simp⟩
 ·rw [if_neg h]; exact .inr ⟨by omega,by simp⟩
theorem PthE.snoc {e:List E3} {a b c:Nat} {w:List Int} {x:Int} (h:PthE e a w b) (h2:Re e b x c):PthE e a (w++[x]) c:=h.app ⟨c,h2,rfl⟩
theorem cmp_edE {X:Type} {step:X→Int→Option X} {κ:Nat→X} {e:List E3} {a b:Nat} {x:Int} (hi:InvS step) (hx:x ≠ 0) (h:CmpE step κ e) (hs:step (κ a) x=some (κ b)):CmpE step κ (e++[edE a x b]):=fun t ht=>by
 rcases List.mem_append.1 ht with ht | ht
 ·exact h t ht
 ·rw [List.mem_singleton] at ht
  subst ht
  unfold edE
  split
  ·exact hs
  ·exact hi _ _ _ hx hs
theorem runW_pre {X:Type} {step:X→Int→Option X} {c:X} {p r:List Int} {x:Int} {d z:X} (h:runW step c p=some d) (h2:runW step c (p++x :: r)=some z):∃ y,step d x=some y∧runW step y r=some z:=by
 rw [runW_app,h] at h2
 have h2:runW step d (x :: r)=some z:=h2
 unfold runW at h2
 cases e:step d x with
 | none=>rw [e] at h2; cases h2
 | some y=>rw [e] at h2; exact ⟨y,rfl,h2⟩
theorem BqI.put {S done:List (List Int)} {e:List E3} {n at_:Nat} {p:List Int} (h:BqI S done e n at_ p) {x:Int} (hx:x ≠ 0∧-26≤x∧x≤26) {r:List Int} (hm:p++x :: r∈S):BqI S done (e++[edE at_ x n]) (n + 1) n (p++[x]):=by
 have hmono:∀ t∈e,t∈e++[edE at_ x n]:=fun t ht=>List.mem_append_left _ ht
 have hp:PthE (e++[edE at_ x n]) 0 (p++[x]) n:=(h.pth.mono hmono).snoc (re_edE hx.1)
 refine ⟨by omega,by omega,fun t ht=>?_,fun w hw=>(h.cl w hw).mono hmono,fun u hu=>?_,hp,fun X step x0 hi hc=>?_⟩
 ·rcases List.mem_append.1 ht with ht | ht
  ·obtain ⟨a1,a2,a3⟩:=h.lt t ht; exact ⟨by omega,by omega,a3⟩
  ·rw [List.mem_singleton] at ht
   subst ht
   have:=h.al
   unfold edE
   split
   ·exact ⟨by simp only; omega,by simp only; omega,by simp only; omega,by simp only; omega⟩
   ·exact ⟨by simp only; omega,by simp only; omega,by simp only; omega,by simp only; omega⟩
 ·by_cases hu2:u < n
  ·exact (h.con u hu2).imp fun w hw=>hw.mono hmono
  ·obtain rfl:u=n:=by omega
   exact ⟨_,hp⟩
 ·obtain ⟨κ,k1,k2,k3⟩:=h.uni X step x0 hi hc
  obtain ⟨y,y1,y2⟩:=runW_pre k3 (hc _ hm)
  have old:∀ u,u < n→(if u=n then y else κ u)=κ u:=fun u hu=>if_neg (by omega)
  refine ⟨fun u=>if u=n then y else κ u,?_,cmp_edE hi hx.1 (fun t ht=>?_) ?_,?_⟩
  ·show (if 0=n then y else κ 0)=x0
   rw [old 0 h.pos,k1]
  ·show step (if t.1=n then y else κ t.1) t.2.1=some (if t.2.2=n then y else κ t.2.2)
   rw [old _ (h.lt t ht).1,old _ (h.lt t ht).2.1]
   exact k2 t ht
  ·show step (if at_=n then y else κ at_) x=some (if n=n then y else κ n)
   rw [old _ h.al,if_pos rfl]; exact y1
  ·show runW step x0 (p++[x])=some (if n=n then y else κ n)
   rw [if_pos rfl,runW_app,k3]
   show runW step (κ at_) [x]=some y
   unfold runW; rw [y1]; rfl
theorem BqI.back {S done:List (List Int)} {e:List E3} {n at_:Nat} {p:List Int} (h:BqI S done e n at_ p) {x:Int} (hx:x ≠ 0∧-26≤x∧x≤26) (hm:p++[x]∈S):BqI S (done++[p++[x]]) (e++[edE at_ x 0]) n 0 []:=by
 have hmono:∀ t∈e,t∈e++[edE at_ x 0]:=fun t ht=>List.mem_append_left _ ht
 have hp:PthE (e++[edE at_ x 0]) 0 (p++[x]) 0:=(h.pth.mono hmono).snoc (re_edE hx.1)
 refine ⟨h.pos,h.pos,fun t ht=>?_,fun w hw=>?_,fun u hu=>(h.con u hu).imp fun w hw=>hw.mono hmono,rfl,fun X step x0 hi hc=>?_⟩
 ·rcases List.mem_append.1 ht with ht | ht
  ·exact h.lt t ht
  ·rw [List.mem_singleton] at ht
   subst ht
   have:=h.al
   have:=h.pos
   unfold edE
   split
   ·exact ⟨by simp only; omega,by simp only; omega,by simp only; omega,by simp only; omega⟩
   ·exact ⟨by simp only; omega,by simp only; omega,by simp only; omega,by simp only; omega⟩
 ·rcases List.mem_append.1 hw with hw | hw
  ·exact (h.cl w hw).mono hmono
  ·rw [List.mem_singleton] at hw; subst hw; exact hp
 ·obtain ⟨κ,k1,k2,k3⟩:=h.uni X step x0 hi hc
  obtain ⟨y,y1,y2⟩:=runW_pre k3 (hc _ hm)
  have y2:some y=some x0:=y2
  refine ⟨κ,k1,cmp_edE hi hx.1 k2 ?_,by rw [k1]; rfl⟩
  rw [k1,y1,y2]
theorem bqW_spec {S done:List (List Int)} : ∀ (r:List Int) (p:List Int) (e:List E3) (n at_:Nat),BqI S done e n at_ p→(∀ x∈r,x ≠ 0∧-26≤x∧x≤26)→p++r∈S→r ≠ []→BqI S (done++[p++r]) (bqW r at_ n e).2 (bqW r at_ n e).1 0 []
 | [],p,e,n,at_,h,hx,hm,hr=>absurd rfl hr
 | [x],p,e,n,at_,h,hx,hm,_=>h.back (hx x (by simp)) hm
 | x :: y :: r,p,e,n,at_,h,hx,hm,_=>by
  have h1:=h.put (hx x (by simp)) hm
  have:=bqW_spec (y :: r) (p++[x]) (e++[edE at_ x n]) (n + 1) n h1 (fun z hz=>hx z (by simp only [List.mem_cons] at hz ⊢; exact .inr hz)) (by rw [List.append_assoc]; exact hm) (by simp)
  rw [List.append_assoc] at this
  unfold bqW
  exact this
theorem bqL_spec {S:List (List Int)} : ∀ (r done:List (List Int)) (e:List E3) (n:Nat),BqI S done e n 0 []→(∀ w∈r,w∈S∧∀ x∈w,x ≠ 0∧-26≤x∧x≤26)→BqI S (done++r) (bqL r n e).2 (bqL r n e).1 0 []
 | [],done,e,n,h,_=>by rw [List.append_nil]; exact h
 | w :: r,done,e,n,h,hr=>by
  have hw:=hr w (by simp)
  have h1:BqI S (done++[w]) (bqW w 0 n e).2 (bqW w 0 n e).1 0 []:=by
   cases w with
   | nil =>
    refine ⟨h.pos,h.al,h.lt,fun v hv=>?_,h.con,h.pth,h.uni⟩
    rcases List.mem_append.1 hv with hv | hv
    ·exact h.cl v hv
    ·rw [List.mem_singleton] at hv; subst hv; rfl
   | cons x t=>exact bqW_spec (x :: t) [] e n 0 h hw.2 hw.1 (by simp)
  have:=bqL_spec r (done++[w]) _ _ h1 fun v hv=>hr v (by simp [hv])
  rw [List.append_assoc] at this
  exact this
/-- What the reference answers. -/
def folded (L:List (List Int)):List E3:=foldF (bqL (L.map short) 1 []).1 (onceS (bqL (L.map short) 1 []).2 0 0)
theorem folded_spec {L:List (List Int)} (hL:∀ w∈L,Ok w):FC (L.map short) (folded L)∧Det (folded L)∧(folded L).Nodup:=by
 have h:=bqL_spec (S:=L.map short) (L.map short) [] [] 1 (bqI_zero _) fun w hw=>⟨hw,by
  obtain ⟨v,hv,rfl⟩:=List.mem_map.1 hw
  exact (hL v hv).short⟩
 rw [List.nil_append] at h
 have hfc:FC (L.map short) (bqL (L.map short) 1 []).2:=by
  refine ⟨⟨fun t ht=>(h.lt t ht).2.2.1,h.cl,fun X step x0 hi hc=>?_⟩,fun t ht=>(h.lt t ht).2.2.2,fun t ht=>h.con _ (h.lt t ht).1⟩
  obtain ⟨κ,k1,k2,_⟩:=h.uni X step x0 hi hc
  exact ⟨κ,k1,k2⟩
 have:=foldF_spec (N:=(bqL (L.map short) 1 []).1) (bqL (L.map short) 1 []).1 (onceS (bqL (L.map short) 1 []).2 0 0) (hfc.congr fun t=>once_zero) (fun t ht=>by
  have:=h.lt t (once_zero.1 ht)
  exact ⟨this.1,this.2.1⟩) (occ_le _ _)
 exact ⟨this.1,this.2.1,this.2.2.1 (once_nd _ _ _)⟩
end Go.Proofs.Ytneglephfhiamaa

/-
  Slices of structs in regions that draw their order. Conditions: none; a library text.
-/
set_option linter.all false
namespace Go.Pv
open Go.RowKit
section
variable {P:Program} {T:TypeId→Option TI} {s:St}
end
end Go.Pv

/-
  A row of elements of many cells that is written no more. Conditions: none; a library text.
-/
set_option linter.all false
namespace Go.Pv
open Go.RowKit
section
variable {P:Program} {C:Ctx} {m:Map} {s:St} {tmps:Array Value} {w:World}

end
end Go.Pv

/-
  The reference's graphs: the walk of once. Conditions: none.
-/
set_option linter.all false
namespace Go.Proofs.Ytneglephfhiamaa
open Go.Pv

end Go.Proofs.Ytneglephfhiamaa

/-
  The reference's graphs: the walk of clash. Conditions: none.
-/
set_option linter.all false
namespace Go.Proofs.Ytneglephfhiamaa
open Go.Pv

end Go.Proofs.Ytneglephfhiamaa

/-
  The reference's graphs: the walks of Walk and Within. Conditions: none.
-/
set_option linter.all false
namespace Go.Proofs.Ytneglephfhiamaa
open Go.Pv

end Go.Proofs.Ytneglephfhiamaa

/-
  The reference's graphs: the walk of Folded. Conditions: none.
-/
set_option linter.all false
namespace Go.Proofs.Ytneglephfhiamaa
open Go.Pv

theorem tot_cons (w:List Int) (L:List (List Int)):tot (w :: L)=w.length + tot L:=by simp [tot]
end Go.Proofs.Ytneglephfhiamaa

/-
  Walks: the check of words of a subgroup. Conditions: none.
-/
set_option linter.all false
namespace Go.Proofs.Ytneglephfhiamaa
open Go.Pv

def ckG:List (List Int)→Nat→Nat→Int × Int
 | [],_,_=>(0,0)
 | w :: r,i,n=>if (check w).1 ≠ 0 then ((check w).1,(i:Int)) else if 2000 < n + w.length then (2,(i:Int)) else ckG r (i + 1) (n + w.length)
def ckL (L:List (List Int)):Int × Int:=if 20 < L.length then (2,0) else ckG L 0 0

theorem ffault_c (c at_:Int):FnC Try.prog 53 [.int .i64 c,.int .i64 at_] (fl (c,at_)):=by
 refine fnc_of tab_ok Try.func53 rfl (by kernel_rfl) (by rw [Try.ntmps53]; exact Nat.le_add_left 2 _) ?_; rw [Try.ntmps53]
 refine qm ?_
 refine hk_region fun K hK=>runs_eval tab_ok ?_
 simp only [ev0,evA,evB,evP,fl,gp,tab,simprocAttr,reduceCtorEq,reduceIte]
 refine fin_run ?_ (hK _ ?_)<;>clear hK<;>clear K
 ·(first|exact trivial|omega|(simp only [In64] at *; omega)|(simp [In64] at *; omega)|(simp_all; done)|skip)
 refine qa (qm ?_)
 refine hk_region fun K hK=>runs_eval tab_ok ?_
 simp only [ev0,evA,evB,evP,fl,gp,tab,simprocAttr,reduceCtorEq,reduceIte]
 refine fin_run ?_ (hK _ ?_)<;>clear hK<;>clear K
 ·(first|exact trivial|omega|(simp only [In64] at *; omega)|(simp [In64] at *; omega)|(simp_all; done)|skip)
 refine qa (qk ?_)
 simp only [Try.results53,enA,ev0,evA,evB,evP,fl,gp,tab,simprocAttr,reduceCtorEq,reduceIte]
 all_goals ((first|exact rfl|exact ⟨rfl,rfl⟩|exact ⟨rfl,rfl,rfl⟩|exact ⟨trivial,rfl⟩|exact ⟨Nat.le_refl _,rfl⟩|trivial|(simp; done)))

set_option maxHeartbeats 4000000 in
theorem checkL_c (L:List (List Int)) (hl:L.length≤1000000000) (hw:∀ w∈L,w.length≤1000000000):FnC Try.prog 34 [.list (ll L)] (fl (ckL L)):=by
 refine fnc_of tab_ok Try.func34 rfl (by kernel_rfl) (by rw [Try.ntmps34]; exact Nat.le_add_left 1 _) ?_; rw [Try.ntmps34]
 refine qm ?_
 refine hk_region fun K hK=>runs_eval tab_ok ?_
 simp only [ev0,evA,evB,evP,fl,gp,tab,simprocAttr,reduceCtorEq,reduceIte]
 refine fin_run ?_ (hK _ ?_)<;>clear hK<;>clear K
 ·(first|exact trivial|omega|(simp only [In64] at *; omega)|(simp [In64] at *; omega)|(simp_all; done)|skip)
 refine qa (qm (qm ?_))
 refine hk_region fun K hK=>runs_eval tab_ok ?_
 simp only [ev0,evA,evB,evP,fl,gp,tab,simprocAttr,reduceCtorEq,reduceIte,ll_length]
 refine fin_run trivial (hK _ ?_)<;>clear hK<;>clear K
 refine qa ?_
 refine hk_cond rfl (fun hC1=>?_) (fun hC1=>?_)
 ·(try simp only [nhs] at hC1)
  have h20:20 < L.length:=by omega
  refine qm ?_
  refine hk_region fun K hK=>runs_eval tab_ok ?_
  simp only [ev0,evA,evB,evP,fl,gp,tab,simprocAttr,reduceCtorEq,reduceIte]
  refine fin_stop trivial (runs_call (ffault_c 2 0) rfl rfl rfl (by simp only [dstOk,Nat.reduceLT]) (by repeat (first|exact trivial|constructor)) (runs_eval tab_ok ?_))
  simp only [ev0,evA,evB,evP,fl,gp,tab,simprocAttr,reduceCtorEq,reduceIte]
  refine fin_run ?_ (hK _ ?_)<;>clear hK<;>clear K
  ·(first|exact trivial|omega|(simp only [In64] at *; omega)|(simp [In64] at *; omega)|(simp_all; done)|skip)
  refine qa (qk (qb ?_))
  simp only [Try.results34,enA,ev0,evA,evB,evP,fl,gp,tab,simprocAttr,reduceCtorEq,reduceIte]
  have e:ckL L=(2,0):=by unfold ckL; rw [if_pos (by omega)]
  rw [e]
  exact ⟨rfl,rfl⟩
 ·(try simp only [nhs] at hC1)
  have h20:¬ 20 < L.length:=by omega
  refine qh (qa (qm ?_))
  refine hk_region fun K hK=>runs_eval tab_ok ?_
  simp only [ev0,evA,evB,evP,fl,gp,tab,simprocAttr,reduceCtorEq,reduceIte]
  refine fin_run trivial (hK _ ?_)<;>clear hK<;>clear K
  refine qa (qm (qm ?_))
  refine hk_region fun K hK=>runs_eval tab_ok ?_
  simp only [ev0,evA,evB,evP,fl,gp,tab,simprocAttr,reduceCtorEq,reduceIte,ll_length]
  refine fin_run trivial (hK _ ?_)<;>clear hK<;>clear K
  refine qa (ql ?_)
  refine hk_loop (ι:=Nat × Nat) (fun q=>⟨37,[(2,.ptr 0 0),(3,.p (.int .i64 (q.2:Nat))),(11,.p (.list (ll L))),(12,.p (.int .i64 L.length)),(13,.p (.int .i64 (q.1:Nat)))],[.own [.p (.int .i64 0),.p (.int .i64 0)]]⟩) (fun q=>q.1≤L.length∧q.2≤2000∧ckL L=ckG (L.drop q.1) q.1 q.2) (fun q=>L.length - q.1) (0,0) ⟨Nat.zero_le _,Nat.zero_le _,by unfold ckL; rw [if_neg h20]; rfl⟩ [0] (by simp only [leq,leA,ev0,evA,evB,evP,fl,gp,tab,simprocAttr,reduceCtorEq,reduceIte]<;>trivial) fun q hq=>?_
  obtain ⟨i,n⟩:=q
  obtain ⟨q1,q2,q3⟩:=hq
  simp only at q1 q2 q3 ⊢
  refine qm ?_
  refine hk_region fun K hK=>runs_eval tab_ok ?_
  simp only [ev0,evA,evB,evP,fl,gp,tab,simprocAttr,reduceCtorEq,reduceIte]
  refine fin_run trivial (hK _ ?_)<;>clear hK<;>clear K
  refine qa (qm ?_)
  refine hk_cond rfl (fun hC2=>?_) (fun hC2=>?_)
  ·(try simp only [nhs] at hC2)
   have hi:i < L.length:=by omega
   have hdr:L.drop i=L.getD i [] :: L.drop (i + 1):=by
    rw [List.drop_eq_getElem_cons hi,List.getD_eq_getElem?_getD,List.getElem?_eq_getElem hi]; rfl
   obtain ⟨w,hwd⟩:∃ w,L.getD i []=w:=⟨_,rfl⟩
   have hwl:w.length≤1000000000:=hw w (by rw [← hwd,List.getD_eq_getElem?_getD,List.getElem?_eq_getElem hi]; exact List.getElem_mem hi)
   rw [hdr,hwd,ckG] at q3
   refine qh (qa (qm (ql (qm ?_))))
   refine hk_region fun K hK=>runs_eval tab_ok ?_
   simp only [ev0,evA,evB,evP,fl,gp,tab,simprocAttr,reduceCtorEq,reduceIte,ll_length,ll_get hi,hwd]
   refine fin_run ?_ (hK _ ?_)<;>clear hK<;>clear K
   ·omega
   refine qa (qm (qm ?_))
   refine hk_region fun K hK=>runs_eval tab_ok ?_
   simp only [ev0,evA,evB,evP,fl,gp,tab,simprocAttr,reduceCtorEq,reduceIte]
   refine fin_stop trivial (runs_call (check_c w) rfl rfl rfl (by simp only [dstOk,Nat.reduceLT]) (by repeat (first|exact trivial|constructor)) (runs_eval tab_ok ?_))
   simp only [ev0,evA,evB,evP,fl,gp,tab,simprocAttr,reduceCtorEq,reduceIte]
   refine fin_run ?_ (hK _ ?_)<;>clear hK<;>clear K
   ·(first|exact trivial|omega|(simp only [In64] at *; omega)|(simp [In64] at *; omega)|(simp_all; done)|skip)
   refine qa (qm ?_)
   refine hk_region fun K hK=>runs_eval tab_ok ?_
   simp only [ev0,evA,evB,evP,fl,gp,tab,simprocAttr,reduceCtorEq,reduceIte]
   refine fin_run ?_ (hK _ ?_)<;>clear hK<;>clear K
   ·(first|exact trivial|omega|(simp only [In64] at *; omega)|(simp [In64] at *; omega)|(simp_all; done)|skip)
   refine qa ?_
   refine hk_cond rfl (fun hC3=>?_) (fun hC3=>?_)
   ·(try simp only [nhs] at hC3)
    have h0:(check w).1 ≠ 0:=hC3
    rw [if_pos h0] at q3
    refine qm ?_
    refine hk_region fun K hK=>runs_eval tab_ok ?_
    simp only [ev0,evA,evB,evP,fl,gp,tab,simprocAttr,reduceCtorEq,reduceIte]
    refine fin_stop trivial (runs_call (ffault_c (check w).1 i) rfl rfl rfl (by simp only [dstOk,Nat.reduceLT]) (by repeat (first|exact trivial|constructor)) (runs_eval tab_ok ?_))
    simp only [ev0,evA,evB,evP,fl,gp,tab,simprocAttr,reduceCtorEq,reduceIte]
    refine fin_run ?_ (hK _ ?_)<;>clear hK<;>clear K
    ·(first|exact trivial|omega|(simp only [In64] at *; omega)|(simp [In64] at *; omega)|(simp_all; done)|skip)
    refine qa (qk (qb (qe (qb (qb (qe (qb ?_)))))))
    simp only [Try.results34,enA,ev0,evA,evB,evP,fl,gp,tab,simprocAttr,reduceCtorEq,reduceIte]
    all_goals (rw [q3]; exact ⟨rfl,rfl⟩)
   ·(try simp only [nhs] at hC3)
    have h0:¬ (check w).1 ≠ 0:=fun h=>h hC3
    rw [if_neg h0] at q3
    refine qh (qa (qm ?_))
    refine hk_region fun K hK=>runs_eval tab_ok ?_
    simp only [ev0,evA,evB,evP,fl,gp,tab,simprocAttr,reduceCtorEq,reduceIte,il_length]
    refine fin_run ?_ (hK _ ?_)<;>clear hK<;>clear K
    ·(first|exact trivial|omega|(simp only [In64] at *; omega)|(simp [In64] at *; omega)|(simp_all; done)|skip)
    refine qa (qm ?_)
    refine hk_region fun K hK=>runs_eval tab_ok ?_
    simp only [ev0,evA,evB,evP,fl,gp,tab,simprocAttr,reduceCtorEq,reduceIte]
    refine fin_run trivial (hK _ ?_)<;>clear hK<;>clear K
    refine qa ?_
    refine hk_cond rfl (fun hC4=>?_) (fun hC4=>?_)
    ·(try simp only [nhs] at hC4)
     have h1:2000 < n + w.length:=by omega
     rw [if_pos h1] at q3
     refine qm ?_
     refine hk_region fun K hK=>runs_eval tab_ok ?_
     simp only [ev0,evA,evB,evP,fl,gp,tab,simprocAttr,reduceCtorEq,reduceIte]
     refine fin_stop trivial (runs_call (ffault_c 2 i) rfl rfl rfl (by simp only [dstOk,Nat.reduceLT]) (by repeat (first|exact trivial|constructor)) (runs_eval tab_ok ?_))
     simp only [ev0,evA,evB,evP,fl,gp,tab,simprocAttr,reduceCtorEq,reduceIte]
     refine fin_run ?_ (hK _ ?_)<;>clear hK<;>clear K
     ·(first|exact trivial|omega|(simp only [In64] at *; omega)|(simp [In64] at *; omega)|(simp_all; done)|skip)
     refine qa (qk (qe (qb (qb (qe (qb ?_))))))
     simp only [Try.results34,enA,ev0,evA,evB,evP,fl,gp,tab,simprocAttr,reduceCtorEq,reduceIte]
     all_goals (rw [q3]; exact ⟨rfl,rfl⟩)
    ·(try simp only [nhs] at hC4)
     have h1:¬ 2000 < n + w.length:=by omega
     rw [if_neg h1] at q3
     refine qh (qd (qa ?_))
     refine hk_region fun K hK=>runs_eval tab_ok ?_
     simp only [ev0,evA,evB,evP,fl,gp,tab,simprocAttr,reduceCtorEq,reduceIte]
     refine fin_run ?_ (hK _ ?_)<;>clear hK<;>clear K
     ·(first|exact trivial|omega|(simp only [In64] at *; omega)|(simp [In64] at *; omega)|(simp_all; done)|skip)
     refine qa ?_
     refine ⟨(i + 1,n + w.length),[0],⟨by simp only; omega,by simp only; omega,q3⟩,by simp only; omega,?_⟩
     simp only [leq,leA,ev0,evA,evB,evP,fl,gp,tab,simprocAttr,reduceCtorEq,reduceIte]<;>first|trivial|trace_state
  ·(try simp only [nhs] at hC2)
   refine qj (qc (qc (qf (qa (qm ?_)))))
   refine hk_region fun K hK=>runs_eval tab_ok ?_
   simp only [ev0,evA,evB,evP,fl,gp,tab,simprocAttr,reduceCtorEq,reduceIte]
   refine fin_run ?_ (hK _ ?_)<;>clear hK<;>clear K
   ·(first|exact trivial|omega|(simp only [In64] at *; omega)|(simp [In64] at *; omega)|(simp_all; done)|skip)
   refine qa (qk ?_)
   simp only [Try.results34,enA,ev0,evA,evB,evP,fl,gp,tab,simprocAttr,reduceCtorEq,reduceIte]
   have hie:i=L.length:=by omega
   rw [hie,List.drop_length,ckG] at q3
   rw [q3]
   exact ⟨rfl,rfl⟩
end Go.Proofs.Ytneglephfhiamaa

/-
  Graphs of words: a folded graph behind other blocks; following in a region. Conditions: none.
-/
set_option linter.all false
namespace Go.Pv
open Go.RowKit Go.Proofs.Ytneglephfhiamaa

theorem ren1_agree {π σ:List Nat} {L:Nat} (h:∀ i,i < L→π.getD i 0=σ.getD i 0) {x:AV} (hx:sc1 L x=true):ren1 π x=ren1 σ x:=by
 cases x<;>simp only [ren1,sc1,decide_eq_true_eq] at hx ⊢
 all_goals rw [h _ hx]
theorem ren_agree {π σ:List Nat} {L:Nat} (h:∀ i,i < L→π.getD i 0=σ.getD i 0) {x:AV} (hx:scA L x=true):Go.Pv.ren π x=Go.Pv.ren σ x:=by
 have hm:∀ l:List AV,l.all (sc1 L)=true→l.map (ren1 π)=l.map (ren1 σ):=fun l hl=>List.map_congr_left fun x hx=>ren1_agree h ((List.all_eq_true.1 hl) x hx)
 cases x with
 | agg l=>simp only [Go.Pv.ren]; rw [hm l hx]
 | tup l=>simp only [Go.Pv.ren]; rw [hm l hx]
 | cl f l=>simp only [Go.Pv.ren]; rw [hm l hx]
 | yv k l vs =>
  simp only [scA,Bool.and_eq_true,decide_eq_true_eq] at hx
  simp only [Go.Pv.ren]; rw [hm l hx.2,h _ hx.1]
 | _=>simp only [Go.Pv.ren]; exact ren1_agree h (by simpa only [scA] using hx)

/-- What a call has put behind other blocks comes to the front; one block stays behind it. -/
theorem le_swap1 {S s:St} {P H1:Heap} {c:List PV} (hn:S.n=s.n) (hs:s.H=P++H1.map (Blk.ren (List.range' P.length H1.length))) (h1:∀ b∈H1,hsc H1.length b=true) (h2:H1.all notAnc=true) (h0:hget P 0 = .own (opl c)) (hS:S.H=H1++[.own (opl c)])
  (hsl:LeS (List.range' P.length H1.length++[0]) S.sl s):Le (List.range' P.length H1.length++[0]) S s:=by
 obtain ⟨π,hπ⟩:∃ π,List.range' P.length H1.length++[0]=π:=⟨_,rfl⟩
 have hpl:π.length=H1.length + 1:=by rw [← hπ]; simp
 have hag:∀ i,i < H1.length→π.getD i 0=(List.range' P.length H1.length).getD i 0:=fun i hi=>by
  rw [← hπ,List.getD_eq_getElem?_getD,List.getElem?_append_left (by simpa using hi),← List.getD_eq_getElem?_getD]
 have hp0:0 < P.length:=by
  cases P with
  | nil=>cases h0
  | cons _ _=>exact Nat.succ_pos _
 rw [hπ] at hsl ⊢
 refine ⟨hn,?_,?_,hsl⟩
 ·rw [← hπ,List.nodup_append]
  refine ⟨List.nodup_range' ..,by simp,fun x hx y hy=>?_⟩
  rw [List.mem_range'_1] at hx
  rw [List.mem_singleton] at hy
  omega
 ·rw [hS]
  conv=>arg 3; rw [← hπ]
  refine leH_app ?_ ⟨?_,trivial⟩
  ·refine leH_at (by simp) fun i hi=>?_
   have e:(List.range' P.length H1.length).getD i 0=P.length + i:=by simp [List.getD,List.getElem?_range' hi]
   have eb:hget s.H (P.length + i)=Blk.ren (List.range' P.length H1.length) (hget H1 i):=by
    rw [hs,hget_app2 (by omega),Nat.add_sub_cancel_left,hget_eq,List.getD_eq_getElem?_getD,List.getElem?_map,hget_eq,List.getD_eq_getElem?_getD,List.getElem?_eq_getElem hi]; rfl
   have hm:hget H1 i∈H1:=by rw [hget_eq,List.getD_eq_getElem?_getD,List.getElem?_eq_getElem hi]; exact List.getElem_mem hi
   have hb:=h1 _ hm
   have hna:=(List.all_eq_true.1 h2) _ hm
   rw [e]
   revert eb hb hna
   generalize hget H1 i=b
   intro eb hb hna
   cases b with
   | own d =>
    simp only [Blk.ren] at eb
    simp only [LeB,eb]
    refine ⟨?_,List.all_eq_true.2 fun x hx=>scA_mn (by omega) ((List.all_eq_true.1 hb) x hx)⟩
    rw [List.take_of_length_le (by simp)]
    exact List.map_congr_left fun x hx=>ren_agree hag ((List.all_eq_true.1 hb) x hx)
   | anc i j=>cases hna
   | dead=>trivial
   | _=>simp only [Blk.ren] at eb; simp only [LeB,eb]
  ·have e:hget s.H 0 = .own (opl c):=by rw [hs,hget_app1 hp0]; exact h0
   simp only [LeB,e]
   exact ⟨by rw [opl_ren,List.take_of_length_le (Nat.le_refl _)],opl_sc _ _⟩
end Go.Pv
namespace Go.Proofs.Ytneglephfhiamaa
open Go.Pv

section
variable {G:List Mp} {U:List Int}
theorem runs_follow {s:St} {all:Array Oper} {rest:List Oper} {K:St→Prop} {dst:Option Tmp} {ty:TypeId} {pos:String} {aft:Array Edge} {gd:Option (Nat × Bool)} {fo:Operand} {args:Array Operand} {ts:Array TypeId} {X:Heap}
  (w:WG G U) (hk:G.length≤100000000) {v:Nat} (hv:v < G.length) (wd:List Int) (hw:wd.length≤1000000000) (hfo:s.ev fo = .p (.fn 62 [])) (hg:guardA all s { dst:=dst,op:=.call { callee:=.value fo,args:=args,argTypes:=ts },type:=ty,pos:=pos,after:=aft,guard:=gd } = some true)
  (hH:s.H=GB G U++X) (hargs:args.toList.map s.ev++([]:List PV).map .p=[.ptr 0 0,.p (.int .i64 v),.p (.list (il wd))]) (hd:dstOk s dst)
  (h:Runs Try.prog false all rest K (({ s with H:=GB G (folS G wd (ofU U v) (rV U v)).2++X } : St).put dst (.p (.int .i64 (intO (folS G wd (ofU U v) (rV U v)).1))))) :
  Runs Try.prog false all ({ dst:=dst,op:=.call { callee:=.value fo,args:=args,argTypes:=ts },type:=ty,pos:=pos,after:=aft,guard:=gd } :: rest) K s:=
 runs_callP (follow_c w hk hv wd hw) hfo hg hH hargs (by rw [GB_len]; simp [scA,sc1]) GB_all GB_na (GB_scP rfl) hd h

/-- Folding in a region of its own: the graph lies behind. -/
theorem fold_E {s:St} {o:Oper} {fo:Operand} {args:Array Operand} {ts:Array TypeId} (ho:o.op = .call { callee:=.value fo,args:=args,argTypes:=ts }) (hfo:s.ev fo = .p (.fn 48 []))
  (L:List (List Int)) (hL:∀ w∈L,w.length≤1000000000∧Lt26 w) (hn:L.length≤1000000) (hb:tot (L.map short)≤10000000) (hargs:args.toList.map s.ev++([]:List PV).map .p=[.p (.list (ll L))]) :
  DoesE Try.prog o s (fun av H'=>∃ G U,av = .ptr s.H.length 0∧H' = s.H++(GB G U).map (Blk.ren (List.range' s.H.length (GB G U).length))∧G.length≤10000001∧FI (L.map short) G U (L.map short) 0 []):=by
 have:=call_doesE (ks:=[]) ho hfo (fold_c L hL hn hb) (by rw [hargs]; exact ⟨⟨trivial,rfl⟩,trivial⟩) trivial List.nodup_nil (fun k hk=>by cases hk) rfl (by
  rintro r H1 ⟨rfl,G,U,rfl,h2,h3⟩
  unfold scM
  simp only [Bool.and_eq_true,decide_eq_true_eq]
  refine ⟨⟨⟨⟨?_,?_⟩,Nat.zero_le _⟩,rfl⟩,rfl⟩
  ·rw [GB_len]; simp [scA,sc1]
  ·rw [List.all_eq_true]
   intro b hb
   have h1:=(List.all_eq_true.1 GB_all) b hb
   have h2:=(List.all_eq_true.1 GB_na) b hb
   cases b with
   | own c=>exact h1
   | anc i j=>cases h2
   | _=>rfl)
 intro C m a w K Q R hK
 refine this C m a w K Q R fun v m' w' av H' ⟨r,H1,⟨e0,G,U,e1,e2,e3⟩,e4,e5⟩ R2 hv=>hK v m' w' av H' ⟨G,U,?_,?_,e2,e3⟩ R2 hv
 ·rw [e4,e0,e1]
  simp only [Go.Pv.ren,ren1,List.nil_append,List.length_nil,Nat.sub_zero]
  rw [List.getD_eq_getElem?_getD,List.getElem?_range' (by rw [GB_len]; omega)]; simp
 ·rw [e5,e1]
  simp only [putM,List.nil_append,List.length_nil,Nat.sub_zero]
end
end Go.Proofs.Ytneglephfhiamaa

/-
  Graphs of words: the walk of Member. Conditions: none.
-/
set_option linter.all false
namespace Go.Proofs.Ytneglephfhiamaa
open Go.Pv

open Classical in
/-- Is a word in the subgroup? -/
noncomputable def memB (L:List (List Int)) (w:List Int):Bool:=decide (Mem (L.map short) (short w))

noncomputable def memberS (L:List (List Int)) (w:List Int):Bool × (Int × Int):=if (ckL L).1 ≠ 0 then (false,ckL L) else if (check w).1 ≠ 0 then (false,check w) else (memB L w,(0,0))

set_option maxHeartbeats 4000000 in
set_option maxRecDepth 20000 in
theorem member_c (L:List (List Int)) (w:List Int) (hl:L.length≤1000000000) (hw:∀ w∈L,w.length≤1000000000) (hwl:w.length≤1000000000)
  (hgood:(ckL L).1=0→(∀ w∈L,w.length≤1000000000∧Lt26 w)∧L.length≤1000000∧tot (L.map short)≤10000000) (hgw:(check w).1=0→Lt26 w) :
  FnC Try.prog 35 [.list (ll L),.list (il w)] (.tup [.bool (memberS L w).1,fl (memberS L w).2]):=by
 refine fnc_of tab_ok Try.func35 rfl (by kernel_rfl) (by rw [Try.ntmps35]; exact Nat.le_add_left 2 _) ?_; rw [Try.ntmps35]
 refine qm ?_
 refine hk_region fun K hK=>runs_eval tab_ok ?_
 simp only [ev0,evA,evB,evP,fl,gp,tab,simprocAttr,reduceCtorEq,reduceIte]
 refine fin_run ?_ (hK _ ?_)<;>clear hK<;>clear K
 ·(first|exact trivial|omega|(simp only [In64] at *; omega)|(simp [In64] at *; omega)|(simp_all; done)|skip)
 refine qa (qm (qm ?_))
 refine hk_region fun K hK=>runs_eval tab_ok ?_
 simp only [ev0,evA,evB,evP,fl,gp,tab,simprocAttr,reduceCtorEq,reduceIte]
 refine fin_stop trivial (runs_call (checkL_c L hl hw) rfl rfl rfl (by simp only [dstOk,Nat.reduceLT]) (by repeat (first|exact trivial|constructor)) (runs_eval tab_ok ?_))
 simp only [ev0,evA,evB,evP,fl,gp,tab,simprocAttr,reduceCtorEq,reduceIte]
 refine fin_run ?_ (hK _ ?_)<;>clear hK<;>clear K
 ·(first|exact trivial|omega|(simp only [In64] at *; omega)|(simp [In64] at *; omega)|(simp_all; done)|skip)
 refine qa (qm ?_)
 refine hk_region fun K hK=>runs_eval tab_ok ?_
 simp only [ev0,evA,evB,evP,fl,gp,tab,simprocAttr,reduceCtorEq,reduceIte]
 refine fin_run ?_ (hK _ ?_)<;>clear hK<;>clear K
 ·(first|exact trivial|omega|(simp only [In64] at *; omega)|(simp [In64] at *; omega)|(simp_all; done)|skip)
 refine qa ?_
 refine hk_cond rfl (fun hC1=>?_) (fun hC1=>?_)
 ·(try simp only [nhs] at hC1)
  have h1:(ckL L).1 ≠ 0:=hC1
  refine qm ?_
  refine hk_draw mixed (by kernel_rfl) fun K hK=>runs_eval tab_ok ?_
  simp only [ev0,evA,evB,evP,fl,gp,tab,simprocAttr,reduceCtorEq,reduceIte]
  refine fin_run ?_ (hK _ ?_)<;>clear hK<;>clear K
  ·(first|exact trivial|omega|(simp only [In64] at *; omega)|(simp [In64] at *; omega)|(simp_all; done)|skip)
  refine qa (qk (qb ?_))
  simp only [Try.results35,enA,ev0,evA,evB,evP,fl,gp,tab,simprocAttr,reduceCtorEq,reduceIte]
  unfold memberS
  rw [if_pos h1]; exact ⟨rfl,rfl,rfl⟩
 ·(try simp only [nhs] at hC1)
  have h1:(ckL L).1=0:=by simpa using hC1
  obtain ⟨g1,g2,g3⟩:=hgood h1
  refine qh (qa (qm (qm ?_)))
  refine hk_region fun K hK=>runs_eval tab_ok ?_
  simp only [ev0,evA,evB,evP,fl,gp,tab,simprocAttr,reduceCtorEq,reduceIte]
  refine fin_stop trivial (runs_call (check_c w) rfl rfl rfl (by simp only [dstOk,Nat.reduceLT]) (by repeat (first|exact trivial|constructor)) (runs_eval tab_ok ?_))
  simp only [ev0,evA,evB,evP,fl,gp,tab,simprocAttr,reduceCtorEq,reduceIte]
  refine fin_run ?_ (hK _ ?_)<;>clear hK<;>clear K
  ·(first|exact trivial|omega|(simp only [In64] at *; omega)|(simp [In64] at *; omega)|(simp_all; done)|skip)
  refine qa (qm ?_)
  refine hk_region fun K hK=>runs_eval tab_ok ?_
  simp only [ev0,evA,evB,evP,fl,gp,tab,simprocAttr,reduceCtorEq,reduceIte]
  refine fin_run ?_ (hK _ ?_)<;>clear hK<;>clear K
  ·(first|exact trivial|omega|(simp only [In64] at *; omega)|(simp [In64] at *; omega)|(simp_all; done)|skip)
  refine qa ?_
  refine hk_cond rfl (fun hC2=>?_) (fun hC2=>?_)
  ·(try simp only [nhs] at hC2)
   have h2:(check w).1 ≠ 0:=hC2
   refine qm ?_
   refine hk_draw mixed (by kernel_rfl) fun K hK=>runs_eval tab_ok ?_
   simp only [ev0,evA,evB,evP,fl,gp,tab,simprocAttr,reduceCtorEq,reduceIte]
   refine fin_run ?_ (hK _ ?_)<;>clear hK<;>clear K
   ·(first|exact trivial|omega|(simp only [In64] at *; omega)|(simp [In64] at *; omega)|(simp_all; done)|skip)
   refine qa (qk (qb ?_))
   simp only [Try.results35,enA,ev0,evA,evB,evP,fl,gp,tab,simprocAttr,reduceCtorEq,reduceIte]
   unfold memberS
   rw [if_neg (fun h=>h h1),if_pos h2]; exact ⟨rfl,rfl,rfl⟩
  ·(try simp only [nhs] at hC2)
   have h2:(check w).1=0:=by simpa using hC2
   refine qh (qa (qm ?_))
   refine hk_regE 1 (runs_cut fun K hK=>?_)
   simp only [List.take_succ_cons,List.take_zero]
   refine runs_eval tab_ok ?_
   simp only [ev0,evA,evB,evP,fl,gp,tab,simprocAttr,reduceCtorEq,reduceIte]
   refine fin_run trivial (hK _ ?_)<;>clear hK<;>clear K
   refine ⟨_,_,rfl,rfl,by simp only [dstOk,Nat.reduceLT],fold_E rfl rfl L g1 g2 g3 rfl,fun av H' hO=>?_⟩
   obtain ⟨G,U,rfl,rfl,hG,fi⟩:=hO
   refine runs_cut fun K hK=>?_
   simp only [List.drop_succ_cons,List.drop_zero]
   refine runs_eval tab_ok ?_
   simp only [ev0,evA,evB,evP,fl,gp,tab,simprocAttr,reduceCtorEq,reduceIte]
   refine fin_run trivial (hK _ ?_)<;>clear hK<;>clear K
   refine qa (qm ?_)
   have hπ0:(List.range' 3 (GB G U).length++[0]).getD 0 0=3:=by
    rw [List.getD_eq_getElem?_getD,List.getElem?_append_left (by rw [List.length_range',GB_len]; omega),List.getElem?_range' (by rw [GB_len]; omega)]; rfl
   have hπk:(List.range' 3 (GB G U).length++[0]).getD (G.length + 3) 0=0:=by
    rw [List.getD_eq_getElem?_getD,List.getElem?_append_right (by rw [List.length_range',GB_len]; omega),List.length_range',GB_len,Nat.sub_self]; rfl
   refine hk_le (s1:=⟨31,[(1,.p (.list (il w))),(5,.ptr (G.length + 3) 0),(8,.ptr 0 0)],GB G U++[.own (opl [.int .i64 0,.int .i64 0])]⟩) _ (le_swap1 (P:=[_,_,_]) (H1:=GB G U) (c:=[.int .i64 0,.int .i64 0]) rfl rfl (fun b hb=>(List.all_eq_true.1 GB_all) b hb) GB_na rfl rfl ?_) ?_
   ·refine ⟨rfl,rfl,?_,?_,?_,?_,trivial⟩
    ·show AV.ptr 0 0=Go.Pv.ren (List.range' 3 (GB G U).length++[0]) _
     simp only [Go.Pv.ren,ren1,hπk]
    ·simp [scA,sc1,GB_len]
    ·show AV.ptr 3 0=Go.Pv.ren (List.range' 3 (GB G U).length++[0]) _
     simp only [Go.Pv.ren,ren1,hπ0]
    ·simp [scA,sc1,GB_len]
   have hgk:∀ (U2:List Int) (b:Blk),hget (GB G U2++[b]) (G.length + 3)=b:=fun U2 b=>by
    rw [hget_app2 (by rw [GB_len]; exact Nat.le_refl _),GB_len,Nat.sub_self]; rfl
   have hsk:∀ (U2:List Int) (b c:Blk),hset (GB G U2++[b]) (G.length + 3) c=GB G U2++[c]:=fun U2 b c=>by
    rw [hset_eq,List.set_append_right _ _ (by rw [GB_len]; exact Nat.le_refl _),GB_len,Nat.sub_self]; rfl
   have hwS:Sm w:=fun x hx=>(hgw h2 x hx).2
   have hsl:(short w).length≤1000000000:=Nat.le_trans (short_len w) hwl
   obtain ⟨f1,f2,f3⟩:=folS_run (U0:=U) (short w) (ofU U 0) (rV U 0) (fi.wg.of fi.pos) (fi.wg.ofr fi.pos) (fi.wg.rlt fi.pos)
   have ff:=fi_fol fi (short w)
   obtain ⟨r,hr⟩:∃ r,(folS G (short w) (ofU U 0) (rV U 0)).1=r:=⟨_,rfl⟩
   obtain ⟨U2,hU2⟩:∃ U2,(folS G (short w) (ofU U 0) (rV U 0)).2=U2:=⟨_,rfl⟩
   rw [hU2] at f2 f3
   rw [hr] at ff
   have hz2:=f3 0 fi.pos
   have hval:decide (intO r=(rV U2 0:Nat))=memB L w:=by
    unfold memB
    refine decide_eq_decide.2 ?_
    rw [← ff,hz2]
    cases r with
    | none=>(simp only [intO,reduceCtorEq,iff_false])<;>omega
    | some a=>(simp only [intO,Option.some.injEq])<;>omega
   refine hk_region fun K hK=>runs_eval tab_ok ?_
   simp only [ev0,evA,evB,evP,fl,gp,tab,simprocAttr,reduceCtorEq,reduceIte]
   refine fin_stop trivial (runs_call (short_c w hwl hwS) rfl rfl rfl (by simp only [dstOk,Nat.reduceLT]) (by repeat (first|exact trivial|constructor)) (runs_eval tab_ok ?_))
   simp only [ev0,evA,evB,evP,fl,gp,tab,simprocAttr,reduceCtorEq,reduceIte]
   refine fin_stop ?_ (runs_follow (U:=U) (X:=[.own (opl [.int .i64 0,.int .i64 0])]) fi.wg (by omega) (v:=0) fi.pos (short w) hsl rfl rfl rfl rfl (by simp only [dstOk,Nat.reduceLT]) (runs_eval tab_ok ?_))
   ·exact trivial
   simp only [hr,hU2,ev0,evA,evB,evP,fl,gp,tab,simprocAttr,reduceCtorEq,reduceIte]
   refine fin_stop ?_ (runs_of (U:=U2) (X:=[.own (opl [.int .i64 0,.int .i64 0])]) f2 (by omega) (v:=0) fi.pos rfl rfl rfl rfl (by simp only [dstOk,Nat.reduceLT]) (runs_eval tab_ok ?_))
   ·exact trivial
   simp only [ev0,evA,evB,evP,fl,gp,tab,simprocAttr,reduceCtorEq,reduceIte,hgk,hsk]
   refine fin_run trivial (hK _ ?_)<;>clear hK<;>clear K
   refine qa (qk ?_)
   simp only [Try.results35,enA,ev0,evA,evB,evP,fl,gp,tab,simprocAttr,reduceCtorEq,reduceIte]
   simp only [hgk,enA,ev0,evA,evB,evP,fl,gp,tab,simprocAttr,reduceCtorEq,reduceIte]
   unfold memberS
   rw [if_neg (fun h=>h h1),if_neg (fun h=>h h2)]
   exact ⟨hval,rfl,rfl⟩
end Go.Proofs.Ytneglephfhiamaa

/-
  The reference's walk; how many places and edges it has. Conditions: none.
-/
set_option linter.all false
namespace Go.Proofs.Ytneglephfhiamaa
open Go.Pv

theorem Re.cons {e:List E3} {t:E3} {u v:Nat} {x:Int} : Re (t :: e) u x v↔Re [t] u x v∨Re e u x v:=by
 unfold Re
 simp only [List.mem_cons,List.not_mem_nil,or_false]
 constructor
 ·rintro (⟨h,h1 | h1⟩ | ⟨h,h1 | h1⟩)
  ·exact .inl (.inl ⟨h,h1⟩)
  ·exact .inr (.inl ⟨h,h1⟩)
  ·exact .inl (.inr ⟨h,h1⟩)
  ·exact .inr (.inr ⟨h,h1⟩)
 ·rintro ((⟨h,h1⟩ | ⟨h,h1⟩) | (⟨h,h1⟩ | ⟨h,h1⟩))
  ·exact .inl ⟨h,.inl h1⟩
  ·exact .inr ⟨h,.inl h1⟩
  ·exact .inl ⟨h,.inr h1⟩
  ·exact .inr ⟨h,.inr h1⟩
/-! ### Places -/

def plA (out:List Nat) (v:Nat):List Nat:=if v∈out then out else out++[v]
def plS (e:List E3):List Nat:=e.foldl (fun out t=>plA (plA out t.1) t.2.2) [0]
theorem mem_plA {out:List Nat} {u v:Nat} : u∈plA out v↔u∈out∨u=v:=by
 unfold plA
 split
 ·rename_i h
  exact ⟨.inl,fun h2=>h2.elim id fun h3=>h3 ▸ h⟩
 ·simp
theorem plA_nd {out:List Nat} {v:Nat} (h:out.Nodup):(plA out v).Nodup:=by
 unfold plA
 split
 ·exact h
 ·rename_i hv
  rw [List.nodup_append]
  exact ⟨h,by simp,fun a ha b hb=>by rw [List.mem_singleton] at hb; subst hb; exact fun e=>hv (e ▸ ha)⟩
theorem plF_spec:∀ (e:List E3) (out:List Nat),out.Nodup→(e.foldl (fun out t=>plA (plA out t.1) t.2.2) out).Nodup∧(∀ u,u∈e.foldl (fun out t=>plA (plA out t.1) t.2.2) out↔u∈out∨∃ t∈e,t.1=u∨t.2.2=u)
 | [],out,h=>⟨h,fun u=>by simp⟩
 | t :: e,out,h=>by
  obtain ⟨h1,h2⟩:=plF_spec e _ (plA_nd (plA_nd h):(plA (plA out t.1) t.2.2).Nodup)
  refine ⟨h1,fun u=>?_⟩
  rw [List.foldl_cons,h2 u,mem_plA,mem_plA]
  constructor
  ·rintro (((h3 | h3) | h3) | ⟨s,hs,h3⟩)
   ·exact .inl h3
   ·exact .inr ⟨t,by simp,.inl h3.symm⟩
   ·exact .inr ⟨t,by simp,.inr h3.symm⟩
   ·exact .inr ⟨s,by simp [hs],h3⟩
  ·rintro (h3 | ⟨s,hs,h3⟩)
   ·exact .inl (.inl (.inl h3))
   ·rcases List.mem_cons.1 hs with rfl | hs
    ·rcases h3 with h3 | h3
     ·exact .inl (.inl (.inr h3.symm))
     ·exact .inl (.inr h3.symm)
    ·exact .inr ⟨s,hs,h3⟩
theorem plS_nd (e:List E3):(plS e).Nodup:=(plF_spec e [0] (by simp)).1
theorem mem_plS {e:List E3} {u:Nat} : u∈plS e↔u=0∨∃ t∈e,t.1=u∨t.2.2=u:=by
 have:=(plF_spec e [0] (by simp)).2 u
 simpa [plS] using this
/-- The reference's graph is folded, too. -/
theorem fc_cg {S:List (List Int)} {e:List E3} (h:FC S e) (hd:Det e) (hn:e.Nodup):CG (stE e) (plS e)∧UniG (stE e) (plS e) S∧(∀ s∈S,runW (stE e) 0 s=some 0)∧(PE (stE e) (plS e)).length=e.length:=by
 have hre:∀ {u v:Nat} {x:Int},Re e u x v→u∈plS e∧v∈plS e∧x ≠ 0∧-26≤x∧x≤26:=fun {u v x} hr=>by
  rcases hr with ⟨p,q⟩ | ⟨p,q⟩
  ·have:=h.let26 _ q
   simp only at this
   exact ⟨mem_plS.2 (.inr ⟨_,q,.inl rfl⟩),mem_plS.2 (.inr ⟨_,q,.inr rfl⟩),by omega,by omega,this⟩
  ·have:=h.let26 _ q
   simp only at this
   exact ⟨mem_plS.2 (.inr ⟨_,q,.inr rfl⟩),mem_plS.2 (.inr ⟨_,q,.inl rfl⟩),by omega,by omega,by omega⟩
 have c:CG (stE e) (plS e):=by
  refine ⟨stE_inv hd,plS_nd e,mem_plS.2 (.inl rfl),fun u hu x v hs=>(hre ((stE_iff hd).1 hs)).2.1,fun u hu x v hs=>(hre ((stE_iff hd).1 hs)).2.2,fun u hu=>?_⟩
  rcases mem_plS.1 hu with rfl | ⟨t,ht,rfl | rfl⟩
  ·exact ⟨[],rfl⟩
  ·obtain ⟨w,hw⟩:=h.con t ht
   exact ⟨w,(runE hd w 0 _).2 hw⟩
  ·obtain ⟨w,hw⟩:=h.con t ht
   exact ⟨w++[t.2.1],(runE hd _ 0 _).2 (hw.app ⟨t.2.2,.inl ⟨h.fe.pos t ht,ht⟩,rfl⟩)⟩
 refine ⟨c,fun X st x0 hi hc=>?_,fun s hs=>(runE hd s 0 0).2 (h.fe.cl s hs),?_⟩
 ·obtain ⟨κ,k1,k2⟩:=h.fe.uni X st x0 hi hc
  refine ⟨κ,k1,fun u hu x v hs=>?_⟩
  rcases (stE_iff hd).1 hs with ⟨p,q⟩ | ⟨p,q⟩
  ·exact k2 _ q
  ·have:=hi _ _ _ (by simp only; omega) (k2 _ q)
   simpa using this
 ·have e1:(e.map fun t=>(t.1,t.2.1)).length=e.length:=List.length_map ..
  rw [← e1]
  refine nd_eq (PE_nd c.nd) (nodup_mapF hn fun a ha b hb e0=>?_) fun p=>?_
  ·injection e0 with e2 e3
   obtain ⟨a1,a2,a3⟩:=a
   obtain ⟨b1,b2,b3⟩:=b
   simp only at e2 e3
   subst e2; subst e3
   have:=hd a1 a2 a3 b3 (.inl ⟨h.fe.pos _ ha,ha⟩) (.inl ⟨h.fe.pos _ ha,hb⟩)
   rw [this]
  ·obtain ⟨u,x⟩:=p
   rw [mem_PE0 c.lt,List.mem_map]
   constructor
   ·rintro ⟨h1,h2,h3⟩
    obtain ⟨v,hv⟩:=Option.isSome_iff_exists.1 h3
    rcases (stE_iff hd).1 hv with ⟨p,q⟩ | ⟨p,q⟩
    ·exact ⟨_,q,rfl⟩
    ·omega
   ·rintro ⟨t,ht,e0⟩
    injection e0 with e2 e3
    subst e2; subst e3
    have hr:Re e t.1 t.2.1 t.2.2:=.inl ⟨h.fe.pos t ht,ht⟩
    exact ⟨(hre hr).1,h.fe.pos t ht,by rw [(stE_iff hd).2 hr]; rfl⟩
end Go.Proofs.Ytneglephfhiamaa

/-
  Drawn regions whose footprints are laid apart by hand; graphs whose roads are shortened. Conditions: none.
-/
set_option linter.all false
namespace Go.Pv
open Go.RowKit

def isF:Cls→Bool
 | .f=>true
 | _=>false
def isLd:Cls→Bool
 | .ld _=>true
 | _=>false
theorem confl_f1 {c d:Cls} (h:isF c=true):confl c d=false:=by cases c<;>simp_all [isF,confl]
theorem confl_f2 {c d:Cls} (h:isF d=true):confl c d=false:=by
 cases d<;>simp [isF] at h
 cases c<;>simp [confl,Cls.tch]
theorem confl_ld {c d:Cls} (h:isLd c=true) (h2:isLd d=true):confl c d=false:=by
 cases c<;>simp [isLd] at h
 cases d<;>simp [isLd] at h2
 rfl
/-- The check, with pairs that are known to lie apart. -/
def draw2OKc (sp : Nat → Nat → Bool) (ops : Array Oper) (xs : List I2) : Bool :=
  (List.range ops.size).all fun j =>
    ((opAt ops j).after.toList.all fun e => !Region.binds .any e || e.on < j) &&
    ((List.range j).all fun i => ((anc ops).getD j 0).testBit i || ((opAt ops i).apart ops (opAt ops j) && (sp i j || isF (xs.getD i default).c || isF (xs.getD j default).c || (isLd (xs.getD i default).c && isLd (xs.getD j default).c)))) &&
    (match (xs.getD j default).c.mk with
     | some κ => (List.range ops.size).all fun i => i == j || ((anc ops).getD i 0).testBit j || (nrA κ (xs.getD i default).av && ((xs.getD i default).pu || (xs.getD i default).blks.all (blkNr κ)))
     | none => true) && (xs.getD j default).na
theorem draw2_cf {ops:Array Oper} {xs:List I2} (sp:Nat→Nat→Bool) (hsp:∀ i j,sp i j=true→confl (xs.getD i default).c (xs.getD j default).c=false) (h:draw2OKc sp ops xs=true):draw2OK ops xs=true:=by
 unfold draw2OKc at h
 unfold draw2OK
 rw [List.all_eq_true] at h ⊢
 intro j hj
 have hj2:=h j hj
 simp only [Bool.and_eq_true] at hj2 ⊢
 obtain ⟨⟨⟨h1,h2⟩,h3⟩,h4⟩:=hj2
 refine ⟨⟨⟨h1,?_⟩,h3⟩,h4⟩
 rw [List.all_eq_true] at h2 ⊢
 intro i hi
 have:=h2 i hi
 rw [Bool.or_eq_true] at this ⊢
 rcases this with h | h
 ·exact .inr h
 ·left
  rw [Bool.and_eq_true] at h
  unfold apart2
  rw [Bool.and_eq_true]
  refine ⟨h.1,?_⟩
  have hc:confl (xs.getD i default).c (xs.getD j default).c=false:=by
   have h2:=h.2
   simp only [Bool.or_eq_true,Bool.and_eq_true] at h2
   rcases h2 with ((h2 | h2) | h2) | ⟨h2,h3⟩
   ·exact hsp i j h2
   ·exact confl_f1 h2
   ·exact confl_f2 h2
   ·exact confl_ld h2 h3
  simp only [hc,Bool.not_false]
theorem ms_ld {n q:Nat} {H1:Heap} (h:n≤q):confl (.ms ((List.range n).zip H1)) (.ld q)=false:=by
 simp only [confl,Cls.tch]
 rw [List.any_eq_false]
 intro p hp
 have:=List.mem_range.1 (List.of_mem_zip (a:=p.1) (b:=p.2) hp).1
 simp; omega
end Go.Pv
namespace Go.Proofs.Ytneglephfhiamaa
open Go.Pv
section
variable {G:List Mp} {U U' : List Int}
theorem Pth.rv (w:WG G U) (hr:∀ u,u < G.length→rV U' u=rV U u):∀ {l:List Int} {u v:Nat},u < G.length→v < G.length→Pth G U u l v→Pth G U' u l v
 | [],u,v,hu,hv,h=>by rw [Pth] at h ⊢; rw [hr u hu,hr v hv]; exact h
 | x :: l,u,v,hu,hv,⟨m,a,b,c⟩=>⟨m,a,(Ed.rv w hr hu a).2 b,Pth.rv w hr a hv c⟩
theorem FI.up {L done:List (List Int)} {v:Nat} {p:List Int} (h:FI L G U done v p) (w' : WG G U') (hr:∀ u,u < G.length→rV U' u=rV U u):FI L G U' done v p:=by
 have hw:=h.wg
 refine ⟨w',h.pos,h.lt,fun u x v hu hv e=>?_,fun w hw'=>Pth.rv hw hr h.pos h.pos (h.cl w hw'),Pth.rv hw hr h.pos h.lt h.pth,fun u hu=>(h.con u hu).imp fun q hq=>Pth.rv hw hr h.pos hu hq,fun X step x0 hi hc=>?_⟩
 ·rw [pe_nil,Ed.rv hw hr hu hv] at e
  rw [pe_nil,Ed.rv hw hr hv hu]
  exact pe_nil.1 (h.sym u x v hu hv (pe_nil.2 e))
 ·obtain ⟨κ,k1,k2,k3⟩:=h.uni X step x0 hi hc
  refine ⟨κ,k1,⟨fun u hu=>by rw [hr u hu]; exact k2.1 u hu,fun u x v hu hv e=>?_⟩,k3⟩
  rw [pe_nil,Ed.rv hw hr hu hv] at e
  exact k2.2 u x v hu hv (pe_nil.2 e)
end

section
variable {G:List Mp} {U:List Int}
open Classical in
/-- Do the words lead elsewhere? -/
noncomputable def outB (S:List (List Int)) (w:List Int):Bool:=decide (¬ Mem S (short w))
theorem fi_out {S:List (List Int)} (fi:FI S G U S 0 []) (w:List Int):decide (¬ intO (folS G (short w) (ofU U 0) (rV U 0)).1=(rV (folS G (short w) (ofU U 0) (rV U 0)).2 0:Nat))=outB S w:=by
 obtain ⟨f1,f2,f3⟩:=folS_run (U0:=U) (short w) (ofU U 0) (rV U 0) (fi.wg.of fi.pos) (fi.wg.ofr fi.pos) (fi.wg.rlt fi.pos)
 unfold outB
 refine decide_eq_decide.2 (not_congr ?_)
 rw [← fi_fol fi (short w),f3 0 fi.pos]
 generalize (folS G (short w) (ofU U 0) (rV U 0)).1=r
 cases r with
 | none=>(simp only [intO,reduceCtorEq,iff_false])<;>omega
 | some a=>(simp only [intO,Option.some.injEq])<;>omega
theorem runs2_follow {s:St} {all:Array Oper} {rest:List Oper} {K:St→List I2→Prop} {acc:List I2} {dst:Option Tmp} {ty:TypeId} {pos:String} {aft:Array Edge} {gd:Option (Nat × Bool)} {fo:Operand} {args:Array Operand} {ts:Array TypeId} {X:Heap}
  (w:WG G U) (hk:G.length≤100000000) {v:Nat} (hv:v < G.length) (wd:List Int) (hw:wd.length≤1000000000) (hfo:s.ev fo = .p (.fn 62 [])) (hg:guardA all s { dst:=dst,op:=.call { callee:=.value fo,args:=args,argTypes:=ts },type:=ty,pos:=pos,after:=aft,guard:=gd } = some true)
  (hH:s.H=GB G U++X) (hargs:args.toList.map s.ev++([]:List PV).map .p=[.ptr 0 0,.p (.int .i64 v),.p (.list (il wd))]) (hd:dstOk s dst)
  (h:Runs2 Try.prog all rest K (({ s with H:=GB G (folS G wd (ofU U v) (rV U v)).2++X } : St).put dst (.p (.int .i64 (intO (folS G wd (ofU U v) (rV U v)).1)))) (acc++[⟨.ms ((List.range (GB G U).length).zip (GB G (folS G wd (ofU U v) (rV U v)).2)),.p (.int .i64 (intO (folS G wd (ofU U v) (rV U v)).1)),.dead,false⟩])) :
  Runs2 Try.prog all ({ dst:=dst,op:=.call { callee:=.value fo,args:=args,argTypes:=ts },type:=ty,pos:=pos,after:=aft,guard:=gd } :: rest) K s acc:=
 runs2_callP (follow_c w hk hv wd hw) hfo hg hH hargs (by rw [GB_len]; simp [scA,sc1]) GB_all GB_na (GB_scP rfl) hd h
end
end Go.Proofs.Ytneglephfhiamaa

/-
  Graphs of words: the walk of Same's test. Conditions: none.
-/
set_option linter.all false
namespace Go.Proofs.Ytneglephfhiamaa
open Go.Pv

section
variable {G:List Mp} {U:List Int}

set_option maxHeartbeats 4000000 in
set_option maxRecDepth 20000 in
theorem outw_c {S:List (List Int)} (fi:FI S G U S 0 []) (hk:G.length≤100000000) (wd:List Int) (hw:wd.length≤1000000000) (hs:Sm wd) :
  FnM Try.prog 65 [.p (.list (il wd)),.ptr (G.length + 3) 0] (GB G U++[.own [.ptr 0 0]]) (.p (.bool (outB S wd))) (GB G (ofU (folS G (short wd) (ofU U 0) (rV U 0)).2 0)++[.own [.ptr 0 0]]):=by
 refine fnm_of tab_ok Try.func65 rfl (by kernel_rfl) (by rw [Try.ntmps65]; exact Nat.le_add_left 2 _) ?_; rw [Try.ntmps65]; simp only [ancs,entA,List.length_cons,List.length_nil,List.cons_append,List.nil_append,Nat.reduceAdd,Nat.zero_add]
 have hlen:(GB G U++[Blk.own [.ptr 0 0]]).length=G.length + 4:=by rw [List.length_append,GB_len]; rfl
 have hYl:(ancs 0 (G.length + 4)).length=G.length + 4:=ancs_length _ _
 have hYs:∀ L,G.length + 4≤L→∀ b∈ancs 0 (G.length + 4),hsc L b=true:=fun L hL b hb=>ancs_hsc (by omega) b hb
 rw [hlen]
 generalize ancs 0 (G.length + 4)=Y at hYl hYs ⊢
 simp only [List.append_assoc,List.cons_append,List.nil_append]
 have hgk:∀ (U2:List Int),hget (GB G U2++(Blk.own [.ptr 0 0] :: Y)) (G.length + 3) = .own [.ptr 0 0]:=fun U2=>by
  rw [hget_app2 (by rw [GB_len]; exact Nat.le_refl _),GB_len,Nat.sub_self]; rfl
 have hsl:(short wd).length≤1000000000:=Nat.le_trans (short_len wd) hw
 obtain ⟨f1,f2,f3⟩:=folS_run (U0:=U) (short wd) (ofU U 0) (rV U 0) (fi.wg.of fi.pos) (fi.wg.ofr fi.pos) (fi.wg.rlt fi.pos)
 have hval:=fi_out fi wd
 obtain ⟨r,hr⟩:∃ r,(folS G (short wd) (ofU U 0) (rV U 0)).1=r:=⟨_,rfl⟩
 obtain ⟨U2,hU2⟩:∃ U2,(folS G (short wd) (ofU U 0) (rV U 0)).2=U2:=⟨_,rfl⟩
 rw [hU2] at f2 f3 hval ⊢
 rw [hr] at hval
 obtain ⟨U3,hU3⟩:∃ U3,ofU U2 0=U3:=⟨_,rfl⟩
 rw [hU3]
 refine qm ?_
 refine hk_region fun K hK=>runs_eval tab_ok ?_
 simp only [ev0,evA,evB,evP,fl,gp,tab,simprocAttr,reduceCtorEq,reduceIte]
 refine fin_run trivial (hK _ ?_)<;>clear hK<;>clear K
 refine qa (qm ?_)
 refine hk_draw2 mixed fun K hK=>runs2_eval tab_ok ?_
 simp only [evD,ev0,evA,evB,evP,fl,gp,tab,simprocAttr,reduceCtorEq,reduceIte,hgk]
 refine fin2_stop trivial (runs2_call (short_c wd hw hs) rfl rfl rfl rfl (by simp only [dstOk,Nat.reduceLT]) (by repeat (first|exact trivial|constructor)) (runs2_eval tab_ok ?_))
 simp only [evD,ev0,evA,evB,evP,fl,gp,tab,simprocAttr,reduceCtorEq,reduceIte,hgk]
 refine fin2_stop ?_ (runs2_follow (U:=U) (X:=.own [.ptr 0 0] :: Y) fi.wg hk (v:=0) fi.pos (short wd) hsl rfl rfl rfl rfl (by simp only [dstOk,Nat.reduceLT]) (runs2_eval tab_ok ?_))
 ·exact trivial
 simp only [hr,hU2]
 simp only [evD,ev0,evA,evB,evP,fl,gp,tab,simprocAttr,reduceCtorEq,reduceIte,hgk]
 refine fin2_stop ?_ (runs2_of (U:=U2) (X:=.own [.ptr 0 0] :: Y) f2 hk (v:=0) fi.pos rfl rfl rfl rfl (by simp only [dstOk,Nat.reduceLT]) (runs2_eval tab_ok ?_))
 ·exact trivial
 simp only [hU3]
 simp only [evD,ev0,evA,evB,evP,fl,gp,tab,simprocAttr,reduceCtorEq,reduceIte,hgk]
 refine fin2_run ?_ (hK _ _ (draw2_cf (fun i j=>i == 3 && j == 4) ?_ (by kernel_rfl)) ?_)<;>clear hK<;>clear K
 ·exact trivial
 ·intro i j h
  simp only [Bool.and_eq_true,beq_iff_eq] at h
  obtain ⟨rfl,rfl⟩:=h
  exact ms_ld (by rw [GB_len]; exact Nat.le_refl _)
 refine qa (qk ?_)
 simp only [Try.results65,PostG,endG,rvsA,rvA,mkTup,ev0,evA,evB,evP,fl,gp,tab,simprocAttr,reduceCtorEq,reduceIte]
 have hv2:(!decide (intO r=(rV U2 0:Nat)))=outB S wd:=by rw [← hval,decide_not]
 have hBl:(GB G U3++Blk.own [.ptr 0 0] :: Y).length=G.length + 3 + (G.length + 4 + 1):=by rw [List.length_append,GB_len,List.length_cons,hYl]
 refine ⟨List.range (G.length + 3 + (G.length + 4 + 1)),by rw [hv2]; rfl,rfl,le_stay (B:=GB G U3++Blk.own [.ptr 0 0] :: Y) rfl hBl rfl (fun b hb=>?_) (fun _ _=>rfl) trivial⟩
 rcases List.mem_append.1 hb with hb | hb
 ·exact GB_hsc (by omega) b hb
 ·rcases List.mem_cons.1 hb with rfl | hb
  ·simp [hsc,scA,sc1]; omega
  ·exact hYs _ (by omega) b hb
end
end Go.Proofs.Ytneglephfhiamaa

/-
  Graphs of words: the walks of a search with a test that writes the graph. Conditions: none.
-/
set_option linter.all false
namespace Go.Pv
open Go.RowKit

/-- A closure's call that is lent all blocks ahead. -/
theorem runs_callPc {P:Program} {s:St} {all:Array Oper} {rest:List Oper} {K:St→Prop} {dst:Option Tmp} {ty:TypeId} {pos:String} {aft:Array Edge} {gd:Option (Nat × Bool)} {fo:Operand} {args:Array Operand} {ts:Array TypeId} {g:FuncId} {avs:List AV} {H0 H1 X:Heap} {r:AV}
  (hc:FnM P g avs H0 r H1) {cap:List AV} (hfo:s.ev fo = .cl g cap) (hg:guardA all s { dst:=dst,op:=.call { callee:=.value fo,args:=args,argTypes:=ts },type:=ty,pos:=pos,after:=aft,guard:=gd } = some true)
  (hH:s.H=H0++X) (hargs:args.toList.map s.ev++cap=avs) (ha:avs.all (scA H0.length)=true) (hs:H0.all (hsc H0.length)=true) (h0:H0.all notAnc=true) (hsc:scP H0.length r H0 H1=true) (hd:dstOk s dst)
  (h:Runs P false all rest K (({ s with H:=H1++X } : St).put dst r)) :
  Runs P false all ({ dst:=dst,op:=.call { callee:=.value fo,args:=args,argTypes:=ts },type:=ty,pos:=pos,after:=aft,guard:=gd } :: rest) K s:=by
 obtain ⟨g1,g2,g3,g4⟩:=scP_M h0 rfl hsc
 have hargN:∀ (l:List AV),l.all (scA H0.length)=true→argsN (List.range H0.length) l l:=by
  intro l
  induction l with
  | nil=>intro _; trivial
  | cons x r ih =>
   intro hl
   rw [List.all_cons,Bool.and_eq_true] at hl
   refine ⟨?_,ih hl.2⟩
   cases x with
   | p v=>rfl
   | _=>exact ⟨(ren_id hl.1).symm,by rw [List.length_range]; exact hl.1⟩
 refine runs_callMc (List.range H0.length) hc hfo hg (by rw [hargs]; exact argsN_M (hargN _ ha)) (by rw [hH]; exact leH_pre fun b hb=>(List.all_eq_true.1 hs) b hb) List.nodup_range (List.all_eq_true.2 fun k hk=>by rw [hH,List.length_append]; have:=List.mem_range.1 hk; simp; omega) g1 hd ?_
 rw [List.length_range,g2,Nat.sub_self,List.range'_zero,List.append_nil,ren_id g3]
 have hm:H1.map (Blk.ren (List.range H0.length))=H1:=by
  have:=List.map_congr_left (f:=Blk.ren (List.range H0.length)) (g:=id) fun x hx=>blkren_id (g4 x hx)
  rw [this,List.map_id]
 rw [hm,putM_zip _ _ _ List.nodup_range (by rw [List.length_range,g2]),hH,setL_pre g2]
 exact h
end Go.Pv
namespace Go.Proofs.Ytneglephfhiamaa
open Go.Pv

section
variable {G:List Mp} {U:List Int}
theorem GBx_len (G:List Mp) (U:List Int):(GB G U++[Blk.own [.ptr 0 0]]).length=G.length + 4:=by rw [List.length_append,GB_len]; rfl
theorem GBx_hsc:∀ b∈(GB G U++[Blk.own [.ptr 0 0]]),hsc (G.length + 4) b=true:=fun b hb=>by
 rcases List.mem_append.1 hb with hb | hb
 ·exact GB_hsc (by omega) b hb
 ·rw [List.mem_singleton] at hb
  subst hb
  simp [hsc,scA,sc1]
theorem GBx_na:(GB G U++[Blk.own [.ptr 0 0]]).all notAnc=true:=by
 rw [List.all_append,GB_na]; rfl
theorem mpKeep_ap2:∀ {H H1 R R1:Heap},H.length=H1.length→mpKeep H H1=true→mpKeep R R1=true→mpKeep (H++R) (H1++R1)=true
 | [],[],_,_,_,_,h=>h
 | [],_ :: _,_,_,h,_,_=>by simp at h
 | _ :: _,[],_,_,h,_,_=>by simp at h
 | b :: r,c :: t,R,R1,hl,h,h2=>by
  have hl' : r.length=t.length:=by simpa using hl
  cases b<;>cases c<;>simp only [mpKeep,List.cons_append,Bool.false_eq_true] at h ⊢<;>exact mpKeep_ap2 hl' h h2
theorem GBx_scP {U' : List Int} {v:PV} : scP (GB G U++[Blk.own [.ptr 0 0]]).length (.p v) (GB G U++[Blk.own [.ptr 0 0]]) (GB G U'++[Blk.own [.ptr 0 0]])=true:=by
 unfold scP
 rw [GBx_len,GBx_len,GBx_na]
 have h1:(GB G U'++[Blk.own [.ptr 0 0]]).all (hsc (G.length + 4))=true:=by
  rw [List.all_eq_true]; exact GBx_hsc
 have h2:mpKeep (GB G U++[Blk.own [.ptr 0 0]]) (GB G U'++[Blk.own [.ptr 0 0]])=true:=mpKeep_ap2 (by rw [GB_len,GB_len]) (mpKeep_GB rfl) rfl
 rw [h1,h2]
 simp [scA,sc1]

set_option maxHeartbeats 4000000 in
set_option maxRecDepth 20000 in
theorem indexF_e {S:List (List Int)} (fi:FI S G U S 0 []) (hk:G.length≤100000000) (l:List (List Int)) (hl:l.length≤1000000000) (hw:∀ w∈l,w.length≤1000000000∧Sm w) :
  FnE Try.prog 83 [.p (.list (ll l)),.cl 65 [.ptr (G.length + 3) 0]] (GB G U++[.own [.ptr 0 0]]) (fun r H'=>(∃ i:Int,r = .p (.int .i64 i)∧(0≤i↔∃ w∈l,outB S w=true))∧∃ U',H' = GB G U'++[.own [.ptr 0 0]]):=by
 obtain ⟨Post,hP⟩:∃ Post:AV→Heap→Prop,Post=(fun r H'=>(∃ i:Int,r = .p (.int .i64 i)∧(0≤i↔∃ w∈l,outB S w=true))∧∃ U',H' = GB G U'++[.own [.ptr 0 0]]):=⟨_,rfl⟩
 rw [← hP]
 refine fne_of tab_ok Try.func83 rfl (by kernel_rfl) (by rw [Try.ntmps83]; exact Nat.le_add_left 2 _) ?_; rw [Try.ntmps83]; simp only [ancs,entA,List.length_cons,List.length_nil,List.cons_append,List.nil_append,Nat.reduceAdd,Nat.zero_add]
 have hYl:(ancs 0 (G.length + 4)).length=G.length + 4:=ancs_length _ _
 have hYs:∀ L,G.length + 4≤L→∀ b∈ancs 0 (G.length + 4),hsc L b=true:=fun L hL b hb=>ancs_hsc (by omega) b hb
 rw [GBx_len]
 generalize ancs 0 (G.length + 4)=Y at hYl hYs ⊢
 have hBl:∀ U1,(GB G U1++[Blk.own [.ptr 0 0]]++Y).length=G.length + 4 + (G.length + 4):=fun U1=>by rw [List.length_append,GBx_len,hYl]
 have hBs:∀ U1,∀ b∈(GB G U1++[Blk.own [.ptr 0 0]]++Y),hsc (G.length + 4 + (G.length + 4)) b=true:=fun U1 b hb=>by
  rcases List.mem_append.1 hb with hb | hb
  ·have h:=GBx_hsc b hb
   cases b with
   | own c=>exact List.all_eq_true.2 fun x hx=>scA_mn (by omega) ((List.all_eq_true.1 h) x hx)
   | anc i j=>simp only [hsc,decide_eq_true_eq] at h ⊢; omega
   | _=>rfl
  ·exact hYs _ (by omega) b hb
 refine qm ?_
 refine hk_region fun K hK=>runs_eval tab_ok ?_
 simp only [ev0,evA,evB,evP,fl,gp,tab,simprocAttr,reduceCtorEq,reduceIte]
 refine fin_run trivial (hK _ ?_)<;>clear hK<;>clear K
 refine qa (qm (qm ?_))
 refine hk_region fun K hK=>runs_eval tab_ok ?_
 simp only [ev0,evA,evB,evP,fl,gp,tab,simprocAttr,reduceCtorEq,reduceIte,ll_length]
 refine fin_run trivial (hK _ ?_)<;>clear hK<;>clear K
 refine qa (ql ?_)
 refine hk_loop (ι:=Nat × List Int) (fun q=>⟨19,[(0,.p (.list (ll l))),(1,.cl 65 [.ptr (G.length + 3) 0]),(7,.p (.int .i64 l.length)),(8,.p (.int .i64 (q.1:Nat)))],GB G q.2++[.own [.ptr 0 0]]++Y⟩) (fun q=>q.1≤l.length∧FI S G q.2 S 0 []∧∀ w∈l.take q.1,outB S w=false) (fun q=>l.length - q.1) (0,U) ⟨Nat.zero_le _,fi,fun w hw=>by simp at hw⟩ (List.range (GB G U++[Blk.own [.ptr 0 0]]++Y).length) (le_same rfl rfl (fun b hb=>by rw [hBl]; exact hBs U b hb) (by
  rw [hBl]
  simp [St.get,lk,scA,sc1]; omega)) fun q hq=>?_
 obtain ⟨i,U1⟩:=q
 obtain ⟨q1,q2,q3⟩:=hq
 simp only at q1 q2 q3 ⊢
 refine qm ?_
 refine hk_region fun K hK=>runs_eval tab_ok ?_
 simp only [ev0,evA,evB,evP,fl,gp,tab,simprocAttr,reduceCtorEq,reduceIte]
 refine fin_run trivial (hK _ ?_)<;>clear hK<;>clear K
 refine qa (qm ?_)
 refine hk_cond rfl (fun hC1=>?_) (fun hC1=>?_)
 ·(try simp only [nhs] at hC1)
  have hi:i < l.length:=by omega
  obtain ⟨w,hwd⟩:∃ w,l.getD i []=w:=⟨_,rfl⟩
  have hmem:w∈l:=by rw [← hwd,List.getD_eq_getElem?_getD,List.getElem?_eq_getElem hi]; exact List.getElem_mem hi
  obtain ⟨hw1,hw2⟩:=hw w hmem
  have htk:l.take (i + 1)=l.take i++[w]:=by rw [take_snoc (d:=[]) hi,hwd]
  obtain ⟨f1,f2,f3⟩:=folS_run (U0:=U1) (short w) (ofU U1 0) (rV U1 0) (q2.wg.of q2.pos) (q2.wg.ofr q2.pos) (q2.wg.rlt q2.pos)
  have hcall:=outw_c q2 hk w hw1 hw2
  obtain ⟨U2,hU2⟩:∃ U2,ofU (folS G (short w) (ofU U1 0) (rV U1 0)).2 0=U2:=⟨_,rfl⟩
  have fi2:FI S G U2 S 0 []:=by
   rw [← hU2]
   exact q2.up (f2.of q2.pos) fun u hu=>by rw [f2.ofr q2.pos u hu]; exact f3 u hu
  rw [hU2] at hcall
  refine qh (qa (qm (ql (qm ?_))))
  refine hk_region fun K hK=>runs_eval tab_ok ?_
  simp only [ev0,evA,evB,evP,fl,gp,tab,simprocAttr,reduceCtorEq,reduceIte]
  refine fin_run trivial (hK _ ?_)<;>clear hK<;>clear K
  refine qa (qm ?_)
  refine hk_region fun K hK=>runs_eval tab_ok ?_
  simp only [ev0,evA,evB,evP,fl,gp,tab,simprocAttr,reduceCtorEq,reduceIte,ll_length,ll_get hi,hwd,Int.toNat_natCast]
  refine fin_stop ?_ (runs_callPc (avs:=[.p (.list (il w)),.ptr (G.length + 3) 0]) (H0:=GB G U1++[.own [.ptr 0 0]]) (X:=Y) hcall rfl rfl (by simp) rfl (by rw [GBx_len]; simp [scA,sc1]) (by rw [List.all_eq_true,GBx_len]; exact GBx_hsc) GBx_na GBx_scP (by simp only [dstOk,Nat.reduceLT]) (runs_eval tab_ok ?_))
  ·(first|exact trivial|omega|exact ⟨by omega,by omega⟩|trace_state)
  simp only [ev0,evA,evB,evP,fl,gp,tab,simprocAttr,reduceCtorEq,reduceIte]
  refine fin_run trivial (hK _ ?_)<;>clear hK<;>clear K
  refine qa ?_
  refine hk_cond rfl (fun hC2=>?_) (fun hC2=>?_)
  ·(try simp only [nhs] at hC2)
   refine qm ?_
   refine hk_region fun K hK=>runs_eval tab_ok ?_
   simp only [ev0,evA,evB,evP,fl,gp,tab,simprocAttr,reduceCtorEq,reduceIte]
   refine fin_run trivial (hK _ ?_)<;>clear hK<;>clear K
   refine qa (qk (qe (qb (qb (qe (qb ?_))))))
   simp only [Try.results83,PostG,endG,rvsA,rvA,mkTup,ev0,evA,evB,evP,fl,gp,tab,simprocAttr,reduceCtorEq,reduceIte]
   refine ⟨.p (.int .i64 i),GB G U2++[.own [.ptr 0 0]],?_,List.range (G.length + 4 + (G.length + 4)),rfl,rfl,le_stay (B:=GB G U2++[.own [.ptr 0 0]]++Y) rfl (hBl U2) rfl (hBs U2) (fun j hj=>by simp) trivial⟩
   rw [hP]
   exact ⟨⟨i,rfl,fun _=>⟨w,hmem,by simpa using hC2⟩,fun _=>Int.natCast_nonneg _⟩,U2,rfl⟩
  ·(try simp only [nhs] at hC2)
   refine qh (qd (qa ?_))
   refine hk_region fun K hK=>runs_eval tab_ok ?_
   simp only [ev0,evA,evB,evP,fl,gp,tab,simprocAttr,reduceCtorEq,reduceIte]
   refine fin_run ?_ (hK _ ?_)<;>clear hK<;>clear K
   ·(first|exact trivial|omega|(simp only [In64] at *; omega)|(simp [In64] at *; omega)|(simp_all; done)|skip)
   refine qa ?_
   refine ⟨(i + 1,U2),List.range (GB G U2++[Blk.own [.ptr 0 0]]++Y).length,⟨by simp only; omega,fi2,fun v hv=>?_⟩,by simp only; omega,?_⟩
   ·simp only at hv
    rw [htk] at hv
    rcases List.mem_append.1 hv with hv | hv
    ·exact q3 v hv
    ·rw [List.mem_singleton] at hv
     subst hv
     simpa using hC2
   ·refine le_same rfl rfl (fun b hb=>(hBl U2).symm ▸ hBs U2 b hb) ?_
    show ∀ p:Nat × AV,p∈_→_∧scA (GB G U2++[Blk.own [.ptr 0 0]]++Y).length p.2=true
    rw [hBl]
    simp [St.get,lk,scA,sc1]; omega
 ·(try simp only [nhs] at hC1)
  refine qj (qc (qc (qf (qa (qm ?_)))))
  refine hk_region fun K hK=>runs_eval tab_ok ?_
  simp only [ev0,evA,evB,evP,fl,gp,tab,simprocAttr,reduceCtorEq,reduceIte]
  refine fin_run trivial (hK _ ?_)<;>clear hK<;>clear K
  refine qa (qk ?_)
  simp only [Try.results83,PostG,endG,rvsA,rvA,mkTup,ev0,evA,evB,evP,fl,gp,tab,simprocAttr,reduceCtorEq,reduceIte]
  have hie:i=l.length:=by omega
  rw [hie,List.take_length] at q3
  refine ⟨.p (.int .i64 (-1)),GB G U1++[.own [.ptr 0 0]],?_,List.range (G.length + 4 + (G.length + 4)),rfl,rfl,le_stay (B:=GB G U1++[.own [.ptr 0 0]]++Y) rfl (hBl U1) rfl (hBs U1) (fun j hj=>by simp) trivial⟩
  rw [hP]
  exact ⟨⟨-1,rfl,fun h=>absurd h (by decide),fun ⟨w,hw1,hw2⟩=>by rw [q3 w hw1] at hw2; cases hw2⟩,U1,rfl⟩
end
end Go.Proofs.Ytneglephfhiamaa

/-
  Graphs of words: the walks of Same's halves. Conditions: none.
-/
set_option linter.all false
namespace Go.Pv
open Go.RowKit
/-- A closure with captured blocks of the call's own. -/
theorem makeCl2_does {P:Program} {s:St} {o:Oper} {f:FuncId} {first:Array Operand} {caps:Array Operand} (ho:o.op = .makeFunc (.func f) first caps) (hf:first.isEmpty=true):DoesW P o s (.cl f (caps.toList.map s.ev)) s.H:=by
 intro C m a w K Q R hK
 have hfe:first = #[]:=by simpa using hf
 have hrun:(execOp a.eval o).run P w = .ok (.value (.func (.func f) #[] (caps.map a.eval))) w:=by
  simp [execOp,ho,hfe,Instr.makeFunc]
 refine opR_of_wp (by first|rfl|(rw [ho]; rfl)) ?_
 unfold Oper.wp
 rw [hrun]
 refine hK _ m w R (.cl _ _ _ (by simp) fun c hc=>?_)
 have hc' : c < caps.size:=by simpa using hc
 have e1:(caps.map a.eval).getD c undef=a.eval caps[c]:=by simp [Array.getD_eq_getD_getElem?,hc']
 have e2:(caps.toList.map s.ev)[c]=s.ev caps[c]:=by simp
 rw [e1,e2]
 exact R.ev _
end Go.Pv
namespace Go.Proofs.Ytneglephfhiamaa
open Go.Pv

section
variable {G:List Mp} {U:List Int}
open Classical in
noncomputable def anyOut (S l:List (List Int)):Bool:=decide (∃ w∈l,outB S w=true)

set_option maxHeartbeats 4000000 in
set_option maxRecDepth 20000 in
theorem containsF_e {S:List (List Int)} (fi:FI S G U S 0 []) (hk:G.length≤100000000) (l:List (List Int)) (hl:l.length≤1000000000) (hw:∀ w∈l,w.length≤1000000000∧Sm w) :
  FnE Try.prog 64 [.p (.list (ll l)),.cl 65 [.ptr (G.length + 3) 0]] (GB G U++[.own [.ptr 0 0]]) (fun r H'=>r = .p (.bool (anyOut S l))∧∃ U',H' = GB G U'++[.own [.ptr 0 0]]):=by
 obtain ⟨Post,hP⟩:∃ Post:AV→Heap→Prop,Post=(fun r H'=>r = .p (.bool (anyOut S l))∧∃ U',H' = GB G U'++[.own [.ptr 0 0]]):=⟨_,rfl⟩
 rw [← hP]
 refine fne_of tab_ok Try.func64 rfl (by kernel_rfl) (by rw [Try.ntmps64]; exact Nat.le_add_left 2 _) ?_; rw [Try.ntmps64]; simp only [ancs,entA,List.length_cons,List.length_nil,List.cons_append,List.nil_append,Nat.reduceAdd,Nat.zero_add]
 have hYl:(ancs 0 (G.length + 4)).length=G.length + 4:=ancs_length _ _
 have hYs:∀ L,G.length + 4≤L→∀ b∈ancs 0 (G.length + 4),hsc L b=true:=fun L hL b hb=>ancs_hsc (by omega) b hb
 rw [GBx_len]
 generalize ancs 0 (G.length + 4)=Y at hYl hYs ⊢
 have hBl:∀ U1,(GB G U1++[Blk.own [.ptr 0 0]]++Y).length=G.length + 4 + (G.length + 4):=fun U1=>by rw [List.length_append,GBx_len,hYl]
 have hBs:∀ U1,∀ b∈(GB G U1++[Blk.own [.ptr 0 0]]++Y),hsc (G.length + 4 + (G.length + 4)) b=true:=fun U1 b hb=>by
  rcases List.mem_append.1 hb with hb | hb
  ·have h:=GBx_hsc b hb
   cases b with
   | own c=>exact List.all_eq_true.2 fun x hx=>scA_mn (by omega) ((List.all_eq_true.1 h) x hx)
   | anc i j=>simp only [hsc,decide_eq_true_eq] at h ⊢; omega
   | _=>rfl
  ·exact hYs _ (by omega) b hb
 refine qm ?_
 refine hk_region fun K hK=>runs_eval tab_ok ?_
 simp only [ev0,evA,evB,evP,fl,gp,tab,simprocAttr,reduceCtorEq,reduceIte]
 refine fin_run trivial (hK _ ?_)<;>clear hK<;>clear K
 refine qa (qm ?_)
 refine hk_regE 2 (runs_cut fun K hK=>?_)
 simp only [List.take_succ_cons,List.take_zero]
 refine runs_eval tab_ok ?_
 simp only [ev0,evA,evB,evP,fl,gp,tab,simprocAttr,reduceCtorEq,reduceIte]
 refine fin_run trivial (hK _ ?_)<;>clear hK<;>clear K
 refine ⟨_,_,rfl,rfl,by simp only [dstOk,Nat.reduceLT],call_doesEP (cap:=[]) (avs:=[.p (.list (ll l)),.cl 65 [.ptr (G.length + 3) 0]]) (H0:=GB G U++[.own [.ptr 0 0]]) (X:=Y) rfl rfl (indexF_e fi hk l hl hw) (by simp) rfl (by rw [GBx_len]; simp [scA,sc1]) (by rw [List.all_eq_true,GBx_len]; exact GBx_hsc) GBx_na (by
  rintro r H1 ⟨⟨i,rfl,_⟩,U',rfl⟩
  exact GBx_scP),fun av H' hO=>?_⟩
 obtain ⟨H1,⟨⟨i,rfl,hi⟩,U',rfl⟩,rfl⟩:=hO
 refine runs_cut fun K hK=>?_
 simp only [List.drop_succ_cons,List.drop_zero]
 refine runs_eval tab_ok ?_
 simp only [ev0,evA,evB,evP,fl,gp,tab,simprocAttr,reduceCtorEq,reduceIte]
 refine fin_run trivial (hK _ ?_)<;>clear hK<;>clear K
 refine qa (qk ?_)
 simp only [Try.results64,PostG,endG,rvsA,rvA,mkTup,ev0,evA,evB,evP,fl,gp,tab,simprocAttr,reduceCtorEq,reduceIte]
 have hv:decide (i ≥ 0)=anyOut S l:=by
  unfold anyOut
  exact decide_eq_decide.2 hi
 refine ⟨.p (.bool (anyOut S l)),GB G U'++[.own [.ptr 0 0]],by rw [hP]; exact ⟨rfl,U',rfl⟩,List.range (G.length + 4 + (G.length + 4)),?_,rfl,le_stay (B:=GB G U'++[.own [.ptr 0 0]]++Y) rfl (hBl U') rfl (hBs U') (fun j hj=>by simp) trivial⟩
 rw [← hv]; rfl
end
end Go.Proofs.Ytneglephfhiamaa

/-
  Graphs of words: the walk of Same's function. Conditions: none.
-/
set_option linter.all false
namespace Go.Proofs.Ytneglephfhiamaa
open Go.Pv

/-- Words that may be folded. -/
def Good (L:List (List Int)):Prop:=(∀ w∈L,w.length≤1000000000∧Lt26 w)∧L.length≤1000000∧tot (L.map short)≤10000000
open Classical in
/-- Are all words of the first in the subgroup of the second? -/
noncomputable def inB (L M:List (List Int)):Bool:=decide (∀ w∈L,Mem (M.map short) (short w))
theorem inB_any (L M:List (List Int)):(!anyOut (M.map short) L)=inB L M:=by
 unfold anyOut inB
 rw [← decide_not]
 refine decide_eq_decide.2 ?_
 simp only [outB,decide_eq_true_eq,not_exists,not_and,Classical.not_not]

set_option maxHeartbeats 4000000 in
set_option maxRecDepth 20000 in
theorem sameH_c (L M:List (List Int)) (hL:Good L) (hM:Good M):FnC Try.prog 63 [.list (ll L),.list (ll M)] (.bool (inB L M)):=by
 refine fnc_of tab_ok Try.func63 rfl (by kernel_rfl) (by rw [Try.ntmps63]; exact Nat.le_add_left 2 _) ?_; rw [Try.ntmps63]
 refine qm ?_
 refine hk_region fun K hK=>runs_eval tab_ok ?_
 simp only [ev0,evA,evB,evP,fl,gp,tab,simprocAttr,reduceCtorEq,reduceIte]
 refine fin_run trivial (hK _ ?_)<;>clear hK<;>clear K
 refine qa (qm ?_)
 refine hk_regE 1 (runs_cut fun K hK=>?_)
 simp only [List.take_succ_cons,List.take_zero]
 refine runs_eval tab_ok ?_
 simp only [ev0,evA,evB,evP,fl,gp,tab,simprocAttr,reduceCtorEq,reduceIte]
 refine fin_run trivial (hK _ ?_)<;>clear hK<;>clear K
 refine ⟨_,_,rfl,rfl,by simp only [dstOk,Nat.reduceLT],fold_E rfl rfl M hM.1 hM.2.1 hM.2.2 rfl,fun av H' hO=>?_⟩
 obtain ⟨G,U,rfl,rfl,hG,fi⟩:=hO
 have hren:(GB G U).map (Blk.ren (List.range' 0 (GB G U).length))=GB G U:=by
  rw [← List.range_eq_range']
  have:=List.map_congr_left (f:=Blk.ren (List.range (GB G U).length)) (g:=id) fun x hx=>blkren_id ((List.all_eq_true.1 GB_all) x hx)
  rw [this,List.map_id]
 have hgk:∀ (b:Blk),hget (GB G U++[b]) (G.length + 3)=b:=fun b=>by
  rw [hget_app2 (by rw [GB_len]; exact Nat.le_refl _),GB_len,Nat.sub_self]; rfl
 have hsk:∀ (b c:Blk),hset (GB G U++[b]) (G.length + 3) c=GB G U++[c]:=fun b c=>by
  rw [hset_eq,List.set_append_right _ _ (by rw [GB_len]; exact Nat.le_refl _),GB_len,Nat.sub_self]; rfl
 refine runs_cut fun K hK=>?_
 simp only [List.drop_succ_cons,List.drop_zero,List.length_nil,hren,List.nil_append]
 refine runs_eval tab_ok ?_
 simp only [ev0,evA,evB,evP,fl,gp,tab,simprocAttr,reduceCtorEq,reduceIte,GB_len,hgk,hsk]
 refine fin_run ?_ (hK _ ?_)<;>clear hK<;>clear K
 ·(first|exact trivial|trace_state)
 refine qa (qm ?_)
 refine hk_regE 2 (runs_cut fun K hK=>?_)
 simp only [List.take_succ_cons,List.take_zero]
 refine runs_eval tab_ok ?_
 simp only [ev0,evA,evB,evP,fl,gp,tab,simprocAttr,reduceCtorEq,reduceIte,hgk]
 refine fin_stop trivial (runs_op (makeCl2_does rfl rfl) rfl (by simp only [dstOk,Nat.reduceLT]) (runs_eval tab_ok ?_))
 simp only [ev0,evA,evB,evP,fl,gp,tab,simprocAttr,reduceCtorEq,reduceIte]
 refine fin_run trivial (hK _ ?_)<;>clear hK<;>clear K
 refine ⟨_,_,rfl,rfl,by simp only [dstOk,Nat.reduceLT],call_doesEP (cap:=[]) (avs:=[.p (.list (ll L)),.cl 65 [.ptr (G.length + 3) 0]]) (H0:=GB G U++[.own [.ptr 0 0]]) (X:=[]) rfl rfl (containsF_e fi (by omega) L (by have:=hL.2.1; omega) (fun w hw=>⟨(hL.1 w hw).1,fun x hx=>((hL.1 w hw).2 x hx).2⟩)) (by simp) rfl (by rw [GBx_len]; simp [scA,sc1]) (by rw [List.all_eq_true,GBx_len]; exact GBx_hsc) GBx_na (by
  rintro r H1 ⟨rfl,U',rfl⟩
  exact GBx_scP),fun av H' hO=>?_⟩
 obtain ⟨H1,⟨rfl,U',rfl⟩,rfl⟩:=hO
 refine runs_cut fun K hK=>?_
 simp only [List.drop_succ_cons,List.drop_zero]
 refine runs_eval tab_ok ?_
 simp only [ev0,evA,evB,evP,fl,gp,tab,simprocAttr,reduceCtorEq,reduceIte,inB_any]
 refine fin_run trivial (hK _ ?_)<;>clear hK<;>clear K
 refine qa (qk ?_)
 simp only [Try.results63,enA,ev0,evA,evB,evP,fl,gp,tab,simprocAttr,reduceCtorEq,reduceIte]
 all_goals ((first|exact rfl|exact ⟨rfl,rfl⟩|exact ⟨rfl,rfl,rfl⟩|exact ⟨trivial,rfl⟩|exact ⟨Nat.le_refl _,rfl⟩|trivial|(simp; done)))

noncomputable def sameS (L M:List (List Int)):Bool × (Int × Int):=if (ckL L).1 ≠ 0 then (false,ckL L) else if (ckL M).1 ≠ 0 then (false,ckL M) else (inB L M && inB M L,(0,0))
set_option maxHeartbeats 4000000 in
set_option maxRecDepth 20000 in
theorem same_c (L M:List (List Int)) (hl:L.length≤1000000000) (hw:∀ w∈L,w.length≤1000000000) (hl2:M.length≤1000000000) (hw2:∀ w∈M,w.length≤1000000000) (hgL:(ckL L).1=0→Good L) (hgM:(ckL M).1=0→Good M) :
  FnC Try.prog 37 [.list (ll L),.list (ll M)] (.tup [.bool (sameS L M).1,fl (sameS L M).2]):=by
 refine fnc_of tab_ok Try.func37 rfl (by kernel_rfl) (by rw [Try.ntmps37]; exact Nat.le_add_left 2 _) ?_; rw [Try.ntmps37]
 refine qm ?_
 refine hk_region fun K hK=>runs_eval tab_ok ?_
 simp only [ev0,evA,evB,evP,fl,gp,tab,simprocAttr,reduceCtorEq,reduceIte]
 refine fin_run ?_ (hK _ ?_)<;>clear hK<;>clear K
 ·(first|exact trivial|omega|(simp only [In64] at *; omega)|(simp [In64] at *; omega)|(simp_all; done)|skip)
 refine qa (qm (qm ?_))
 refine hk_region fun K hK=>runs_eval tab_ok ?_
 simp only [ev0,evA,evB,evP,fl,gp,tab,simprocAttr,reduceCtorEq,reduceIte]
 refine fin_run ?_ (hK _ ?_)<;>clear hK<;>clear K
 ·(first|exact trivial|omega|(simp only [In64] at *; omega)|(simp [In64] at *; omega)|(simp_all; done)|skip)
 refine qa (ql ?_)
 refine hk_loop (ι:=Nat) (fun i=>⟨36,[(0,.p (.list (ll L))),(1,.p (.list (ll M))),(5,.ptr 0 0),(12,.p (.nn [.list (ll L),.list (ll M)])),(13,.p (.int .i64 2)),(14,.p (.int .i64 (i:Nat)))],[.own [.p (.int .i64 0),.p (.int .i64 0)]]⟩) (fun i=>i≤2∧(1≤i→(ckL L).1=0)∧(2≤i→(ckL M).1=0)) (fun i=>2 - i) 0 ⟨by omega,fun h=>by omega,fun h=>by omega⟩ [0] (by simp only [leq,leA,ev0,evA,evB,evP,fl,gp,tab,simprocAttr,reduceCtorEq,reduceIte]<;>trivial) fun i hi=>?_
 obtain ⟨q1,q2,q3⟩:=hi
 refine qm ?_
 refine hk_region fun K hK=>runs_eval tab_ok ?_
 simp only [ev0,evA,evB,evP,fl,gp,tab,simprocAttr,reduceCtorEq,reduceIte]
 refine fin_run trivial (hK _ ?_)<;>clear hK<;>clear K
 refine qa (qm ?_)
 refine hk_cond rfl (fun hC1=>?_) (fun hC1=>?_)
 ·(try simp only [nhs] at hC1)
  have hi:i < 2:=by omega
  obtain ⟨A,hA⟩:∃ A,(if i=0 then L else M)=A:=⟨_,rfl⟩
  have hx:([PV.list (ll L),PV.list (ll M)]:List PV).getD i default = .list (ll A):=by
   rw [← hA]
   match i,hi with
   | 0,_=>rfl
   | 1,_=>rfl
  have hAl:A.length≤1000000000:=by rw [← hA]; split<;>assumption
  have hAw:∀ w∈A,w.length≤1000000000:=by rw [← hA]; split<;>assumption
  refine qh (qa (qm (ql (qm ?_))))
  refine hk_region fun K hK=>runs_eval tab_ok ?_
  simp only [ev0,evA,evB,evP,fl,gp,tab,simprocAttr,reduceCtorEq,reduceIte,hx]
  refine fin_run ?_ (hK _ ?_)<;>clear hK<;>clear K
  ·exact ⟨by omega,by omega⟩
  refine qa (qm ?_)
  refine hk_region fun K hK=>runs_eval tab_ok ?_
  simp only [ev0,evA,evB,evP,fl,gp,tab,simprocAttr,reduceCtorEq,reduceIte]
  refine fin_stop trivial (runs_call (checkL_c A hAl hAw) rfl rfl rfl (by simp only [dstOk,Nat.reduceLT]) (by repeat (first|exact trivial|constructor)) (runs_eval tab_ok ?_))
  simp only [ev0,evA,evB,evP,fl,gp,tab,simprocAttr,reduceCtorEq,reduceIte]
  refine fin_run ?_ (hK _ ?_)<;>clear hK<;>clear K
  ·(first|exact trivial|omega|(simp only [In64] at *; omega)|(simp [In64] at *; omega)|(simp_all; done)|skip)
  refine qa (qm ?_)
  refine hk_region fun K hK=>runs_eval tab_ok ?_
  simp only [ev0,evA,evB,evP,fl,gp,tab,simprocAttr,reduceCtorEq,reduceIte]
  refine fin_run ?_ (hK _ ?_)<;>clear hK<;>clear K
  ·(first|exact trivial|omega|(simp only [In64] at *; omega)|(simp [In64] at *; omega)|(simp_all; done)|skip)
  refine qa ?_
  refine hk_cond rfl (fun hC2=>?_) (fun hC2=>?_)
  ·(try simp only [nhs] at hC2)
   have h1:(ckL A).1 ≠ 0:=hC2
   refine qm ?_
   refine hk_draw mixed (by kernel_rfl) fun K hK=>runs_eval tab_ok ?_
   simp only [ev0,evA,evB,evP,fl,gp,tab,simprocAttr,reduceCtorEq,reduceIte]
   refine fin_run ?_ (hK _ ?_)<;>clear hK<;>clear K
   ·(first|exact trivial|omega|(simp only [In64] at *; omega)|(simp [In64] at *; omega)|(simp_all; done)|skip)
   refine qa (qk (qe (qb (qb (qe (qb ?_))))))
   simp only [Try.results37,enA,ev0,evA,evB,evP,fl,gp,tab,simprocAttr,reduceCtorEq,reduceIte]
   have e:sameS L M=(false,ckL A):=by
    unfold sameS
    by_cases h:i=0
    ·rw [if_pos h] at hA
     rw [hA,if_pos h1]
    ·rw [if_neg h] at hA
     rw [if_neg (fun h=>h (q2 (by omega))),hA,if_pos h1]
   rw [e]
   exact ⟨rfl,rfl,rfl⟩
  ·(try simp only [nhs] at hC2)
   have h1:(ckL A).1=0:=by simpa using hC2
   refine qh (qd (qa ?_))
   refine hk_region fun K hK=>runs_eval tab_ok ?_
   simp only [ev0,evA,evB,evP,fl,gp,tab,simprocAttr,reduceCtorEq,reduceIte]
   refine fin_run ?_ (hK _ ?_)<;>clear hK<;>clear K
   ·(first|exact trivial|omega|(simp only [In64] at *; omega)|(simp [In64] at *; omega)|(simp_all; done)|skip)
   refine qa ?_
   refine ⟨i + 1,[0],⟨by omega,fun _=>?_,fun h=>?_⟩,by omega,by simp only [leq,leA,ev0,evA,evB,evP,fl,gp,tab,simprocAttr,reduceCtorEq,reduceIte]<;>first|trivial|trace_state⟩
   ·by_cases h:i=0
    ·rw [if_pos h] at hA; rw [hA]; exact h1
    ·exact q2 (by omega)
   ·rw [if_neg (by omega)] at hA; rw [hA]; exact h1
 ·(try simp only [nhs] at hC1)
  have hi2:i=2:=by omega
  have hgl:=hgL (q2 (by omega))
  have hgm:=hgM (q3 (by omega))
  have hs:sameS L M=(inB L M && inB M L,(0,0)):=by
   unfold sameS
   rw [if_neg (fun h=>h (q2 (by omega))),if_neg (fun h=>h (q3 (by omega)))]
  have hc:=sameH_c L M hgl hgm
  refine qj (qc (qc (qf (qa (qm ?_)))))
  refine hk_region fun K hK=>runs_eval tab_ok ?_
  simp only [ev0,evA,evB,evP,fl,gp,tab,simprocAttr,reduceCtorEq,reduceIte]
  refine fin_run trivial (hK _ ?_)<;>clear hK<;>clear K
  refine qa (qm ?_)
  cases hb:inB L M
  ·refine hk_region fun K hK=>runs_eval tab_ok ?_
   simp only [ev0,evA,evB,evP,fl,gp,tab,simprocAttr,reduceCtorEq,reduceIte]
   refine fin_stop trivial (runs_call ((hb ▸ hc)) rfl rfl rfl (by simp only [dstOk,Nat.reduceLT]) (by repeat (first|exact trivial|constructor)) (runs_eval tab_ok ?_))
   simp only [ev0,evA,evB,evP,fl,gp,tab,simprocAttr,reduceCtorEq,reduceIte]
   refine fin_run ?_ (hK _ ?_)<;>clear hK<;>clear K
   ·(first|exact trivial|omega|(simp only [In64] at *; omega)|(simp [In64] at *; omega)|(simp_all; done)|skip)
   refine qa (qk ?_)
   simp only [Try.results37,enA,ev0,evA,evB,evP,fl,gp,tab,simprocAttr,reduceCtorEq,reduceIte]
   all_goals (rw [hs,hb]; exact ⟨rfl,rfl,rfl⟩)
  ·refine hk_region fun K hK=>runs_eval tab_ok ?_
   simp only [ev0,evA,evB,evP,fl,gp,tab,simprocAttr,reduceCtorEq,reduceIte]
   refine fin_stop trivial (runs_call ((hb ▸ hc)) rfl rfl rfl (by simp only [dstOk,Nat.reduceLT]) (by repeat (first|exact trivial|constructor)) (runs_eval tab_ok ?_))
   simp only [ev0,evA,evB,evP,fl,gp,tab,simprocAttr,reduceCtorEq,reduceIte]
   refine fin_stop trivial (runs_call (sameH_c M L hgm hgl) rfl rfl rfl (by simp only [dstOk,Nat.reduceLT]) (by repeat (first|exact trivial|constructor)) (runs_eval tab_ok ?_))
   simp only [ev0,evA,evB,evP,fl,gp,tab,simprocAttr,reduceCtorEq,reduceIte]
   refine fin_run ?_ (hK _ ?_)<;>clear hK<;>clear K
   ·(first|exact trivial|omega|(simp only [In64] at *; omega)|(simp [In64] at *; omega)|(simp_all; done)|skip)
   refine qa (qk ?_)
   simp only [Try.results37,enA,ev0,evA,evB,evP,fl,gp,tab,simprocAttr,reduceCtorEq,reduceIte]
   all_goals (rw [hs,hb]; exact ⟨rfl,rfl,rfl⟩)
end Go.Proofs.Ytneglephfhiamaa

/-
  The reference's graphs: the walks of Has, Places and Sides. Conditions: none.
-/
set_option linter.all false
namespace Go.Proofs.Ytneglephfhiamaa
open Go.Pv

theorem memB_iff {M:List (List Int)} {w:List Int} : memB M w=true↔Mem (M.map short) (short w):=by
 classical
 unfold memB; exact decide_eq_true_iff
theorem inB_iff {L M:List (List Int)} : inB L M=true↔∀ w∈L,Mem (M.map short) (short w):=by
 classical
 unfold inB; exact decide_eq_true_iff
end Go.Proofs.Ytneglephfhiamaa

/-
  A slice that is cut to its own length. Conditions: none; a library text.
-/
set_option linter.all false
namespace Go.Pv
open Go.RowKit
section
variable {P:Program} {T:TypeId→Option TI} {s:St}

end
end Go.Pv

/-
  Walks: Clip. Conditions: none.
-/
set_option linter.all false
namespace Go.Proofs.Ytneglephfhiamaa
open Go.Pv

end Go.Proofs.Ytneglephfhiamaa

/-
  Lists of numbers that are not nil where they are empty: cut to their own length, with nothing put behind. Conditions: none; a library text.
-/
set_option linter.all false
namespace Go.Pv
open Go.RowKit

/-- A list of numbers; the empty one is not nil. -/
def nl:List Int→PV
 | []=>.nn []
 | x :: r=>.list (il (x :: r))
theorem nl_cons (l:List Int) (x:Int):nl (l++[x]) = .list (il (l++[x])):=by
 cases l<;>rfl
theorem nl_list {ok:Nat→Prop} {w:World} {l:List Int} {x:Value} (h:Reads ok w (nl l) x):Reads ok w (.list (il l)) x:=by
 cases l with
 | nil=>exact Reads.nn_list h
 | cons=>exact h
section
variable {P:Program} {T:TypeId→Option TI} {s:St}
theorem clipN_does (hT:∀ t ti,T t=some ti→tiOf P t=some ti) {o:Oper} {t:TypeId} {x y z:Operand} (ho:o.op = .slice t x none (some y) (some z)) {ti te:TI} (ht:T t=some ti) {e:TypeId} (hk:ti.kind = .slice e) (hte:T e=some te)
  {l:List Int} (hx:s.ev x = .p (nl l)) {k1 k2:IntKind} (hy:s.ev y = .p (.int k1 l.length)) (hz:s.ev z = .p (.int k2 l.length)):DoesW P o s (.p (.nn (il l))) s.H:=by
 intro C m a w K Q R hK
 have hu:=ti_slice (hT _ _ ht) hk
 have hss:=ti_size (hT _ _ hte) w
 have ey:a.eval y = .int k1 l.length:=eval_int R hy
 have ez:a.eval z = .int k2 l.length:=eval_int R hz
 have hv:=R.ev x
 rw [hx] at hv
 have hv:=hv.p_inv
 obtain ⟨ad,cap,hev,hcap⟩:∃ ad cap,a.eval x = .slice ad l.length cap∧l.length≤cap:=by
  generalize a.eval x=v at hv
  cases l with
  | nil =>
   rcases hv.nn_inv with ⟨_,ad,rfl⟩ | ⟨b,off,sz,vs,rfl,_⟩
   ·exact ⟨_,_,rfl,Nat.le_refl _⟩
   ·exact ⟨_,_,rfl,Nat.le_refl _⟩
  | cons c r =>
   have hil:(il (c :: r)).length=(c :: r).length:=il_length _
   have hv:Reads _ w (.list (il (c :: r))) v:=hv
   generalize hL:il (c :: r)=L at hv hil
   cases hv with
   | list0 a cap h=>cases hil
   | list l b off cap sz vs hb hsz hcap hc hr=>rw [hil] at hcap ⊢; exact ⟨_,_,rfl,hcap⟩
 have hbd:(Instr.sliceBounds true l.length cap none (some (a.eval y)) (some (a.eval z))).run P w = .ok (0,l.length,l.length) w:=by
  simp [Instr.sliceBounds,ey,ez,run_sliceBound _ k2 (l.length:Int) cap _ (Int.natCast_nonneg _) (by omega),run_sliceBound _ k1 (l.length:Int) l.length _ (Int.natCast_nonneg _) (Int.le_refl _)]
 have hrun:(execOp a.eval o).run P w = .ok (.value (.slice (if l.length=0 then ad else ad.map (·.add (0 * te.size))) (l.length - 0) (l.length - 0))) w:=by
  simp [execOp,ho,hev,Instr.sliceAt,Instr.slice,run_underlying hu,hbd,hss]
 refine opR_of_wp (by first|rfl|(rw [ho]; rfl)) ?_
 unfold Oper.wp
 rw [hrun]
 refine hK _ _ _ R (.p _ _ ?_)
 rw [hev] at hv
 cases l with
 | nil =>
  rcases hv.nn_inv with ⟨_,ad2,h⟩ | ⟨b,off,sz,vs,h,_⟩
  ·injection h with h
   subst h
   exact .nn0 _
  ·injection h with h
   subst h
   exact .nn0 _
 | cons c r =>
  have hil:(il (c :: r)).length=(c :: r).length:=il_length _
  have hv:Reads _ w (.list (il (c :: r))) (.slice ad (c :: r).length cap):=hv
  rw [← hil] at hv ⊢
  generalize hL:il (c :: r)=L at hv hil
  have hne:¬ L.length=0:=by rw [hil]; simp
  cases hv with
  | list0 _ _ h=>exact absurd rfl hne
  | list _ b off _ sz vs hb hsz hcap hc hr =>
   rw [if_neg hne,Nat.sub_zero]
   have e:(some (⟨b,off,none⟩:Addr)).map (·.add (0 * te.size))=some ⟨b,off,none⟩:=by simp [Addr.add]
   rw [e]
   exact .nn L b off sz vs hb hsz hc hr
theorem appendNn00_does (hT:∀ t ti,T t=some ti→tiOf P t=some ti) {o:Oper} {t:TypeId} {x y:Operand} (ho:o.op = .call { callee:=.builtin .append,args:=#[x,y],argTypes:=#[t,t] }) {ti te:TI} (ht:T t=some ti) {e:TypeId} (hk:ti.kind = .slice e) (hte:T e=some te) (hsz:te.size=1)
  {l:List PV} (hx:s.ev x = .p (.nn l)) (hy:s.ev y = .p (.nn [])):DoesW P o s (.p (.nn l)) s.H:=by
 intro C m a w K Q R hK
 obtain ⟨dst,op,type,pos,after,guard⟩:=o
 simp only at ho
 subst ho
 have hu:=ti_slice (hT _ _ ht) hk
 obtain ⟨i,d,z,h1,h2,h3,h4,h5,h6,h7,h8⟩:=tiOf_parts (hT _ _ hte)
 have h:=R.ev x
 rw [hx] at h
 have hl:=h.p_inv
 obtain ⟨ad,hv⟩:∃ ad,a.eval x = .slice (some ad) l.length l.length:=by
  generalize a.eval x=v at hl
  rcases hl.nn_inv with ⟨rfl,ad,rfl⟩ | ⟨b,off,sz,vs,rfl,_⟩
  ·exact ⟨ad,rfl⟩
  ·exact ⟨_,rfl⟩
 have hy':=R.ev y
 rw [hy] at hy'
 have hy':=hy'.p_inv
 obtain ⟨ad2,cap2,hv2⟩:∃ ad2 cap2,a.eval y = .slice ad2 0 cap2:=by
  generalize a.eval y=v at hy'
  rcases hy'.nn_inv with ⟨_,ad,rfl⟩ | ⟨b,off,sz,vs,rfl,_⟩
  ·exact ⟨_,_,rfl⟩
  ·exact ⟨_,_,rfl⟩
 have hr:=append_nothing (P:=P) (w:=w) type hu h1 (by rw [h4,hsz]) (ad:=some ad) (n:=l.length) (cap:=l.length) (x:=.slice ad2 0 cap2) src_nil (Nat.le_refl _)
 have hrun:(execOp a.eval { dst:=dst,op:=.call { callee:=.builtin .append,args:=#[x,y],argTypes:=#[t,t] },type:=type,pos:=pos,after:=after,guard:=guard }).run P w = .ok (.value (.slice (some ad) l.length l.length)) w:=by
  simp only [BigFrame.execOp_builtin,BigFrame.builtin_append,List.map_toArray,List.map_cons,List.map_nil,hv,hv2,Sem.run_bind,hr,Result.andThen_ok,Sem.run_pure]
 refine opR_of_wp (by first|rfl|(rw [ho]; rfl)) ?_
 unfold Oper.wp
 rw [hrun]
 rw [hv] at hl
 exact hK _ m w R (.p _ _ hl)
end
end Go.Pv

/-
  Walks: Clone and Clip of lists that are not nil. Conditions: none.
-/
set_option linter.all false
namespace Go.Proofs.Ytneglephfhiamaa
open Go.Pv

theorem FnG_pure {P:Program} {f:FuncId} {args:List PV} {r:PV} (h:FnG P f args (.p r) []):FnC P f args r:=
 ⟨h.1,fun okA w vals h1 h2 h3=>(h.2 okA w vals h1 h2 h3).mono fun e w' ⟨v,m',he,hbl,ho⟩=>⟨v,he,hbl,ho.val.p_inv.mono fun b hb=>⟨hb.1,hb.2.1⟩⟩⟩
theorem clip_nil:FnG Try.prog 80 [.nn []] (.p (.nn [])) []:=by
 refine fng_of tab_ok Try.func80 rfl (by kernel_rfl) (by rw [Try.ntmps80]; exact Nat.le_add_left 1 _) ?_; rw [Try.ntmps80]
 refine qm ?_
 refine hk_region fun K hK=>runs_eval tab_ok ?_
 simp only [ev0,evA,evB,evP,fl,gp,tab,simprocAttr,reduceCtorEq,reduceIte]
 refine fin_run trivial (hK _ ?_)<;>clear hK<;>clear K
 refine qa (qm ?_)
 refine hk_region fun K hK=>runs_eval tab_ok ?_
 simp only [ev0,evA,evB,evP,fl,gp,tab,simprocAttr,reduceCtorEq,reduceIte]
 refine fin_stop ?_ (runs_op (clipN_does (l:=[]) (k1:=.i64) (k2:=.i64) tab_ok rfl rfl rfl rfl rfl rfl rfl) rfl (by simp only [dstOk,Nat.reduceLT]) (runs_eval tab_ok ?_))
 ·(first|exact trivial|omega|(simp only [In64] at *; omega)|(simp [In64] at *; omega)|(simp_all; done)|skip)
 simp only [ev0,evA,evB,evP,fl,gp,tab,simprocAttr,reduceCtorEq,reduceIte]
 refine fin_run ?_ (hK _ ?_)<;>clear hK<;>clear K
 ·(first|exact trivial|omega|(simp only [In64] at *; omega)|(simp [In64] at *; omega)|(simp_all; done)|skip)
 refine qa (qk ?_)
 simp only [Try.results80,PostG,endG,rvsA,rvA,mkTup,ev0,evA,evB,evP,fl,gp,tab,simprocAttr,reduceCtorEq,reduceIte]
 all_goals (exact ⟨[],rfl,rfl,by simp only [leq,leA,ev0,evA,evB,evP,fl,gp,tab,simprocAttr,reduceCtorEq,reduceIte]<;>trivial⟩)
theorem clip_cons (w:List Int) (hw:nl w = .list (il w)):FnG Try.prog 80 [.list (il w)] (.p (.nn (il w))) []:=by
 refine fng_of tab_ok Try.func80 rfl (by kernel_rfl) (by rw [Try.ntmps80]; exact Nat.le_add_left 1 _) ?_; rw [Try.ntmps80]
 refine qm ?_
 refine hk_region fun K hK=>runs_eval tab_ok ?_
 simp only [ev0,evA,evB,evP,fl,gp,tab,simprocAttr,reduceCtorEq,reduceIte]
 refine fin_run trivial (hK _ ?_)<;>clear hK<;>clear K
 refine qa (qm ?_)
 refine hk_region fun K hK=>runs_eval tab_ok ?_
 simp only [ev0,evA,evB,evP,fl,gp,tab,simprocAttr,reduceCtorEq,reduceIte]
 refine fin_stop ?_ (runs_op (clipN_does (l:=w) (k1:=.i64) (k2:=.i64) tab_ok rfl rfl rfl rfl (by rw [hw]; rfl) rfl rfl) rfl (by simp only [dstOk,Nat.reduceLT]) (runs_eval tab_ok ?_))
 ·(first|exact trivial|omega|(simp only [In64] at *; omega)|(simp [In64] at *; omega)|(simp_all; done)|skip)
 simp only [ev0,evA,evB,evP,fl,gp,tab,simprocAttr,reduceCtorEq,reduceIte]
 refine fin_run ?_ (hK _ ?_)<;>clear hK<;>clear K
 ·(first|exact trivial|omega|(simp only [In64] at *; omega)|(simp [In64] at *; omega)|(simp_all; done)|skip)
 refine qa (qk ?_)
 simp only [Try.results80,PostG,endG,rvsA,rvA,mkTup,ev0,evA,evB,evP,fl,gp,tab,simprocAttr,reduceCtorEq,reduceIte]
 all_goals (exact ⟨[],rfl,rfl,by simp only [leq,leA,ev0,evA,evB,evP,fl,gp,tab,simprocAttr,reduceCtorEq,reduceIte]<;>trivial⟩)
theorem clip_n (w:List Int):FnC Try.prog 80 [nl w] (.nn (il w)):=by
 cases w with
 | nil=>exact FnG_pure clip_nil
 | cons c r=>exact FnG_pure (clip_cons (c :: r) rfl)
theorem clone_nil:FnG Try.prog 77 [.nn []] (.p (.nn [])) []:=by
 refine fng_of tab_ok Try.func77 rfl (by kernel_rfl) (by rw [Try.ntmps77]; exact Nat.le_add_left 1 _) ?_; rw [Try.ntmps77]
 refine qm ?_
 refine hk_region fun K hK=>runs_eval tab_ok ?_
 simp only [ev0,evA,evB,evP,fl,gp,tab,simprocAttr,reduceCtorEq,reduceIte]
 refine fin_run trivial (hK _ ?_)<;>clear hK<;>clear K
 refine qa (qm (qm ?_))
 refine hk_region fun K hK=>runs_eval tab_ok ?_
 simp only [ev0,evA,evB,evP,fl,gp,tab,simprocAttr,reduceCtorEq,reduceIte]
 refine fin_run trivial (hK _ ?_)<;>clear hK<;>clear K
 refine qa ?_
 refine hk_cond rfl (fun hC1=>?_) (fun hC1=>?_)
 ·(try simp only [nhs] at hC1)
  cases hC1
 ·(try simp only [nhs] at hC1)
  refine qh (qa (qm ?_))
  refine hk_region fun K hK=>runs_at 2 (runs_eval tab_ok ?_)
  simp only [List.take_succ_cons,List.take_zero]
  simp only [ev0,evA,evB,evP,fl,gp,tab,simprocAttr,reduceCtorEq,reduceIte]
  refine fin_run trivial ?_
  refine runs_op (appendNn00_does tab_ok rfl rfl rfl rfl rfl rfl rfl) rfl (by simp only [dstOk]; decide) (runs_eval tab_ok ?_)
  simp only [ev0,evA,evB,evP,fl,gp,tab,simprocAttr,reduceCtorEq,reduceIte]
  refine fin_run trivial (hK _ ?_)<;>clear hK<;>clear K
  refine qa (qk ?_)
  simp only [Try.results77,PostG,endG,rvsA,rvA,mkTup,ev0,evA,evB,evP,fl,gp,tab,simprocAttr,reduceCtorEq,reduceIte]
  all_goals (exact ⟨[],rfl,rfl,by simp only [leq,leA,ev0,evA,evB,evP,fl,gp,tab,simprocAttr,reduceCtorEq,reduceIte]<;>trivial⟩)
theorem clone_n (w:List Int) (hl:w.length≤1000000000):FnC Try.prog 77 [nl w] (nl w):=by
 cases w with
 | nil=>exact FnG_pure clone_nil
 | cons c r=>exact clone_c (c :: r) hl
end Go.Proofs.Ytneglephfhiamaa
