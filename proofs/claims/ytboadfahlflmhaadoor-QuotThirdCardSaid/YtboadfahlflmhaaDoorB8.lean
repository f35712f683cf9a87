/-
  Texts of this proof, one behind the other: what each says stands at its head. Conditions: none.
-/
import Derived.Test.YtboadfahlflmhaaDoorB7
import Derived.Test.YtboadfahlflmhaaDoorB6
import Derived.Test.YtboadfahlflmhaaDoorRows
import Derived.Test.YtboadfahlflmhaaDoorB4
import Derived.ProofKit
import Derived.LaidMore
import Derived.OpenShut
import Derived.Stop.Joined

/-
  Walks: all homomorphisms, handed out one by one to who keeps no list. Conditions: none.
-/
set_option linter.all false
namespace Go.Pv
open Go.RowKit
variable {σ : Type}
/-- The blocks of who loops and keeps no list. -/
def HV (p : Prot σ) (i : σ) (b : Blk) : Heap := [.own [.p (p.c4 i)], .own [.p (p.c51 i), .p (p.c52 i)], b]
def RoundsV (P : Program) (p : Prot σ) (rec : Loop) (l : List AV) : Prop := ∀ i x, p.ok i → p.okx x → YldQ P 3 2 rec l x (HV p i (.lp rec)) (.p (.bool (p.go i x))) (HV p (p.nx i x) (.lp (recB (p.go i x) rec)))
theorem fixV1 {x : AV} {π : List Nat} (h : sc1 3 x = true) (hπ : π.take 6 = [0, 1, 2, 3, 4, 5]) : sc1 6 (ren1 [3, 4, 5] x) = true ∧ ren1 π (ren1 [3, 4, 5] x) = ren1 [3, 4, 5] x := by
  have hg : ∀ k, k < 3 → [3, 4, 5].getD k 0 < 6 ∧ π.getD ([3, 4, 5].getD k 0) 0 = [3, 4, 5].getD k 0 := fun k hk => by
    have e : ∀ j, j < 6 → π.getD j 0 = j := fun j hj => by
      have := congrArg (fun l => l.getD j 0) hπ
      simp only [List.getD_eq_getElem?_getD, List.getElem?_take, hj, if_true] at this ⊢
      rw [this]
      exact (show ∀ j, j < 6 → ([0, 1, 2, 3, 4, 5] : List Nat)[j]?.getD 0 = j by decide) j hj
    have : ∀ k, k < 3 → [3, 4, 5].getD k 0 < 6 := by decide
    exact ⟨this k hk, e _ (this k hk)⟩
  cases x <;> simp only [sc1, decide_eq_true_eq] at h <;> first | (cases h; done) | (simp only [ren1, sc1, decide_eq_true_eq, (hg _ h).2]; exact ⟨(hg _ h).1, trivial⟩) | exact ⟨rfl, rfl⟩
theorem fixV {l lN : List AV} (hl : l.all (sc1 3) = true) (hlN : l.map (ren1 [3, 4, 5]) = lN) : lN.all (sc1 6) = true ∧ ∀ π : List Nat, π.take 6 = [0, 1, 2, 3, 4, 5] → lN.map (ren1 π) = lN := by
  rw [List.all_eq_true] at hl
  subst hlN
  refine ⟨?_, fun π hπ => ?_⟩
  · rw [List.all_eq_true]
    intro y hy
    obtain ⟨x, hx, rfl⟩ := List.mem_map.1 hy
    exact (fixV1 (π := [0, 1, 2, 3, 4, 5]) (hl x hx) rfl).1
  · rw [List.map_map]
    exact List.map_congr_left fun x hx => (fixV1 (hl x hx) hπ).2
theorem backV {ks : List Nat} (h0 : ks.getD 3 0 = 0) (h1 : ks.getD 4 0 = 1) (h2 : ks.getD 5 0 = 2) {l : List AV} (h : l.all (sc1 3) = true) : (l.map (ren1 [3, 4, 5])).map (ren1 ks) = l := by
  have hg : ∀ k, k < 3 → ks.getD ([3, 4, 5].getD k 0) 0 = k := fun k hk => by
    match k, hk with
    | 0, _ => exact h0
    | 1, _ => exact h1
    | 2, _ => exact h2
  have h1 : ∀ x, sc1 3 x = true → ren1 ks (ren1 [3, 4, 5] x) = x := fun x h => by
    cases x <;> simp only [sc1, decide_eq_true_eq] at h <;> first | (cases h; done) | (simp only [ren1, hg _ h]; done) | rfl
  rw [List.all_eq_true] at h
  rw [List.map_map]
  exact (List.map_congr_left fun x hx => h1 x (h x hx)).trans (List.map_id _)
end Go.Pv
namespace Go.Proofs.YtboadfahlflmhaaDoor
open Go.Pv
section
variable {n e N d : Nat} {m M : List Int} {σ : Type}
/-- The blocks of who searches. -/
def HNV (p : Prot σ) (n : Nat) (m : List Int) (N : Nat) (M : List Int) (L : List Nat) (lN : List AV) (vs : Array Value) (t : List Nat) (i : σ) (b : Blk) : Heap :=
  [.own [.sl 6 0 L.length], .own [.yv 5 lN vs], .own [.cl 129 [.p (.ptr [.list (il (nl L))]), .p (.ptr [.int .i64 n, .list (il m)]), .p (.ptr [.int .i64 N, .list (il M)]), .ptr 0 0, .ptr 1 0, .ptr 2 0]],
   .own [.p (p.c4 i)], .own [.p (p.c51 i), .p (p.c52 i)], b, .own (rwd t L.length)]

def NextV (p : Prot σ) (n : Nat) (m : List Int) (e N : Nat) (M : List Int) (d : Nat) (L : List Nat) (rec : Loop) (lN : List AV) (r t : List Nat) (i : σ) : Prop :=
  FnQ Tryd.prog 7 129 [.p (.int .i64 t.length), .p (.ptr [.list (il (nl L))]), .p (.ptr [.int .i64 n, .list (il m)]), .p (.ptr [.int .i64 N, .list (il M)]), .ptr 0 0, .ptr 1 0, .ptr 2 0]
    (HNV p n m N M L lN rec.tmps t i (.lp rec)) (.p (.bool (foldS p i (pls (hsq n (op m n) e N (op M N) d L r t))).2)) (HNV p n m N M L lN rec.tmps t (foldS p i (pls (hsq n (op m n) e N (op M N) d L r t))).1 (.lp (recB (foldS p i (pls (hsq n (op m n) e N (op M N) d L r t))).2 rec)))

set_option maxHeartbeats 8000000 in
set_option maxRecDepth 20000 in
theorem vleaf1 (p:Prot σ) (h:GT n m n e) (h' : GT N M N d) (L:List Nat) (hL:L=gl n (op m n) e n) {rec:Loop} (hrp:rec.params.size=1) {l lN:List AV} (hY:RoundsV Tryd.prog p rec l) (hokx:∀ φ,Hmo n (op m n) N (op M N) φ→p.okx (.list (il (tbm n φ))))
  (hl:l.all (sc1 3)=true) (hlN:l.map (ren1 [3,4,5])=lN) (t:List Nat) (i:σ) (htl:t.length=L.length) (hty:∀ y∈t,y < N) (hi:p.ok i) (hex:∃ φ,Ext n (op m n) N (op M N) L t φ):NextV p n m e N M d L rec lN [] t i:=by
 have hn:=h.2.1.big
 have hpos:0 < n:=h.2.1.pos
 have hll:=gl_len n (op m n) e n
 rw [← hL] at hll
 have hLlt:=gl_lt n (op m n) e n
 have hLg:=gl_gen n (op m n) e h.2.2
 rw [← hL] at hLlt hLg
 have hF:∀ i,i < L.length→L.getD i 0 < n:=fun i hi=>hLlt _ (by simp [List.getD,List.getElem?_eq_getElem hi])
 have hT:∀ i,i < L.length→t.getD i 0 < N:=fun i hi=>hty _ (by simp [List.getD,List.getElem?_eq_getElem (show i < t.length by omega)])
 have hnt:=nl_len t
 have hnL:=nl_len L
 have hone:=p.ones i hi
 have hnn:(nl L).length=(nl t).length:=by omega
 have hlS:=fixV hl hlN
 unfold NextV
 have hs:hsq n (op m n) e N (op M N) d L [] t=[tbm n (Classical.choose hex)]:=by unfold hsq hlf; rw [dif_pos hex]
 have hφ:=Classical.choose_spec hex
 generalize Classical.choose hex=φ at hs hφ
 have hsp:=spread_yes h h' L t htl.symm (by omega) hF hT hLg hφ
 have hpl:pls (hsq n (op m n) e N (op M N) d L [] t)=[.list (il (tbm n φ))]:=by rw [hs]; rfl
 have hY1:=hY i _ hi (hokx φ hφ.1)
 have htb:=tbm_len n φ
 have hne:il (tbm n φ) ≠ []:=by intro hh; have:=congrArg List.length hh; rw [il_length,htb] at this; simp at this; omega
 rw [hpl]
 have hf1:foldS p i [PV.list (il (tbm n φ))]=(p.nx i (.list (il (tbm n φ))),p.go i (.list (il (tbm n φ)))):=by
  simp only [foldS]
  split<;>simp_all
 rw [hf1]
 unfold HV at hY1
 simp only
 refine fnq_of (q:=7) tab_ok Tryd.func129 rfl (by kernel_rfl) (by rw [Tryd.ntmps129]; exact Nat.le_add_left 7 _) ?_; rw [Tryd.ntmps129]; simp only [ancs,entA,List.length_cons,List.length_nil,List.cons_append,List.nil_append,Nat.reduceAdd,Nat.zero_add]
 simp only [HNV,rwd_full htl,List.append_nil,List.cons_append,List.nil_append]
 rw [show L.length=(nl t).length by omega]
 refine qm ?_
 refine hk_region fun K hK=>runs_eval tab_ok ?_
 simp only [ev0,evA,evB,evP,fl,gp,tab,simprocAttr,reduceCtorEq,reduceIte]
 refine fin_run trivial (hK _ ?_)<;>clear hK<;>clear K
 refine qa (qm (qm ?_))
 refine hk_region fun K hK=>runs_eval tab_ok ?_
 simp only [ev0,evA,evB,evP,fl,gp,tab,simprocAttr,reduceCtorEq,reduceIte,il_length,hnn]
 refine fin_run ?_ (hK _ ?_)<;>clear hK<;>clear K
 ·(first|exact trivial|omega|(simp only [In64] at *; omega)|(simp [In64] at *; omega)|(simp_all; done)|skip)
 refine qa ?_
 refine hk_cond rfl (fun hC1=>?_) (fun hC1=>?_)
 ·(try simp only [nhs] at hC1)
  refine qm ?_
  refine hk_region fun K hK=>runs_eval tab_ok ?_
  simp only [ev0,evA,evB,evP,fl,gp,tab,simprocAttr,reduceCtorEq,reduceIte]
  refine fin_stop ?_ (runs_callF (FnG_fnf hsp (by simp [il,PV.sc])) rfl (by simp only [callA,peekList,peekG,peekS,List.map_cons,List.map_nil,List.append_nil,enA,ev0,evA,evB,evP,fl,gp,tab,simprocAttr,reduceCtorEq,reduceIte,List.drop_zero,ol_drop,ol_take,take_len,ol_allP,il_all,il_length]; rfl) (by simp only [dstOk,Nat.reduceLT]) ?_ (runs_eval tab_ok ?_))
  ·(first|exact trivial|omega|(simp only [In64] at *; omega)|(simp [In64] at *; omega)|(simp_all; done)|skip)
  ·(first|exact trivial|omega|(simp only [In64] at *; omega)|(simp [In64] at *; omega)|(simp_all; done)|skip)
  simp only [ev0,evA,evB,evP,fl,gp,tab,simprocAttr,reduceCtorEq,reduceIte]
  refine fin_run ?_ (hK _ ?_)<;>clear hK<;>clear K
  ·(first|exact trivial|omega|(simp only [In64] at *; omega)|(simp [In64] at *; omega)|(simp_all; done)|skip)
  refine qa (qm ?_)
  refine hk_region fun K hK=>runs_eval tab_ok ?_
  simp only [ev0,evA,evB,evP,fl,gp,tab,simprocAttr,reduceCtorEq,reduceIte,binA.eq_def,Option.map_some]
  refine fin_stop ?_ (runs_yield [3,4,5] (hY1) hrp rfl rfl rfl ?_ (by simp only [leA,ev0,evA,evB,evP,fl,gp,tab,simprocAttr,reduceCtorEq,reduceIte]; first|trivial|(simp only [ll_takeL]; first|trivial|(repeat constructor; done))|(repeat constructor)) (by decide) (by first|rfl|(simp only [List.length_cons,List.length_nil,List.length_append]; decide)) (by first|rfl|(simp [scQ,scA,sc1,mpKeep,notAnc,Blk.spc,opl_sc]; done)) (by simp only [dstOk,Nat.reduceLT]) (runs_eval tab_ok ?_))
  ·(first|exact trivial|omega|(simp only [In64] at *; omega)|(simp [In64] at *; omega)|(simp_all; done)|skip)
  ·(simp only [argsM,argM1,peekG,peekS,scA,sc1,ren,ren1,List.map_cons,List.map_nil,List.append_nil,List.cons_append,List.nil_append,enA,ev0,evA,evB,evP,fl,gp,tab,simprocAttr,reduceCtorEq,reduceIte]; try trivial)
   exact ⟨by rw [hlN],all_up (by decide) hl⟩
  simp only [putM,kills,hset,List.take_succ_cons,List.take_zero,List.drop_succ_cons,List.drop_zero,List.range',Blk.ren,ren,ren1,List.map_cons,List.map_nil,List.cons_append,List.nil_append,List.append_nil,List.length_cons,List.length_nil,ev0,evA,evB,evP,fl,gp,tab,simprocAttr,reduceCtorEq,reduceIte,binA.eq_def,Option.map_some]
  refine fin_run ?_ (hK _ ?_)<;>clear hK<;>clear K
  ·(first|exact trivial|omega|(simp only [In64] at *; omega)|(simp [In64] at *; omega)|(simp_all; done)|skip)
  refine qa (qk (qb ?_))
  simp only [Tryd.results129,PostG,endG,rvsA,rvA,mkTup,ev0,evA,evB,evP,fl,gp,tab,simprocAttr,reduceCtorEq,reduceIte]
  all_goals (exact ⟨[0,1,2,3,4,5,6,7,8,9,10,11,12,13],rfl,rfl,by simp only [leq,leA,ev0,evA,evB,evP,fl,gp,tab,simprocAttr,reduceCtorEq,reduceIte]<;>first|trivial|exact ⟨by rw [hlS.2 _ rfl],all_up (by decide) hlS.1⟩|trace_state⟩)
 ·(try simp only [nhs] at hC1)
  omega
set_option maxHeartbeats 8000000 in
set_option maxRecDepth 20000 in
theorem vleaf2 (p:Prot σ) (h:GT n m n e) (h' : GT N M N d) (L:List Nat) (hL:L=gl n (op m n) e n) {rec:Loop} (hrp:rec.params.size=1) {l lN:List AV} (hY:RoundsV Tryd.prog p rec l) (hokx:∀ φ,Hmo n (op m n) N (op M N) φ→p.okx (.list (il (tbm n φ))))
  (hl:l.all (sc1 3)=true) (hlN:l.map (ren1 [3,4,5])=lN) (t:List Nat) (i:σ) (htl:t.length=L.length) (hty:∀ y∈t,y < N) (hi:p.ok i) (hex:¬ ∃ φ,Ext n (op m n) N (op M N) L t φ):NextV p n m e N M d L rec lN [] t i:=by
 have hn:=h.2.1.big
 have hpos:0 < n:=h.2.1.pos
 have hll:=gl_len n (op m n) e n
 rw [← hL] at hll
 have hLlt:=gl_lt n (op m n) e n
 have hLg:=gl_gen n (op m n) e h.2.2
 rw [← hL] at hLlt hLg
 have hF:∀ i,i < L.length→L.getD i 0 < n:=fun i hi=>hLlt _ (by simp [List.getD,List.getElem?_eq_getElem hi])
 have hT:∀ i,i < L.length→t.getD i 0 < N:=fun i hi=>hty _ (by simp [List.getD,List.getElem?_eq_getElem (show i < t.length by omega)])
 have hnt:=nl_len t
 have hnL:=nl_len L
 have hone:=p.ones i hi
 have hnn:(nl L).length=(nl t).length:=by omega
 have hlS:=fixV hl hlN
 unfold NextV
 have hs:hsq n (op m n) e N (op M N) d L [] t=[]:=by unfold hsq hlf; rw [dif_neg hex]
 have hsp:=fnc_of_p (spread_no h h' L t htl.symm (by omega) hF hT hLg fun φ hφ=>hex ⟨φ,hφ⟩) rfl
 have hpl:pls (hsq n (op m n) e N (op M N) d L [] t)=[]:=by rw [hs]; rfl
 rw [hpl]
 simp only [foldS]
 refine fnq_of (q:=7) tab_ok Tryd.func129 rfl (by kernel_rfl) (by rw [Tryd.ntmps129]; exact Nat.le_add_left 7 _) ?_; rw [Tryd.ntmps129]; simp only [ancs,entA,List.length_cons,List.length_nil,List.cons_append,List.nil_append,Nat.reduceAdd,Nat.zero_add]
 simp only [HNV,rwd_full htl,List.append_nil,List.cons_append,List.nil_append]
 rw [show L.length=(nl t).length by omega]
 refine qm ?_
 refine hk_region fun K hK=>runs_eval tab_ok ?_
 simp only [ev0,evA,evB,evP,fl,gp,tab,simprocAttr,reduceCtorEq,reduceIte]
 refine fin_run trivial (hK _ ?_)<;>clear hK<;>clear K
 refine qa (qm (qm ?_))
 refine hk_region fun K hK=>runs_eval tab_ok ?_
 simp only [ev0,evA,evB,evP,fl,gp,tab,simprocAttr,reduceCtorEq,reduceIte,il_length,hnn]
 refine fin_run ?_ (hK _ ?_)<;>clear hK<;>clear K
 ·(first|exact trivial|omega|(simp only [In64] at *; omega)|(simp [In64] at *; omega)|(simp_all; done)|skip)
 refine qa ?_
 refine hk_cond rfl (fun hC1=>?_) (fun hC1=>?_)
 ·(try simp only [nhs] at hC1)
  refine qm ?_
  refine hk_region fun K hK=>runs_eval tab_ok ?_
  simp only [ev0,evA,evB,evP,fl,gp,tab,simprocAttr,reduceCtorEq,reduceIte]
  refine fin_stop ?_ (runs_call (b:=false) (hsp) rfl (by simp only [callA,peekList,peekG,peekS,List.map_cons,List.map_nil,List.append_nil,enA,ev0,evA,evB,evP,fl,gp,tab,simprocAttr,reduceCtorEq,reduceIte,List.drop_zero,ol_drop,ol_take,take_len,ol_allP,il_all,il_length,List.length_replicate,List.take_replicate,Nat.min_self]; rfl) rfl (by simp only [dstOk,Nat.reduceLT]) ?_ (runs_eval tab_ok ?_))
  ·(first|exact trivial|omega|(simp only [In64] at *; omega)|(simp [In64] at *; omega)|(simp_all; done)|skip)
  ·(first|exact trivial|omega|(simp only [In64] at *; omega)|(simp [In64] at *; omega)|(simp_all; done)|skip)
  simp only [ev0,evA,evB,evP,fl,gp,tab,simprocAttr,reduceCtorEq,reduceIte]
  refine fin_run ?_ (hK _ ?_)<;>clear hK<;>clear K
  ·(first|exact trivial|omega|(simp only [In64] at *; omega)|(simp [In64] at *; omega)|(simp_all; done)|skip)
  refine qa (qm ?_)
  refine hk_region fun K hK=>runs_eval tab_ok ?_
  simp only [ev0,evA,evB,evP,fl,gp,tab,simprocAttr,reduceCtorEq,reduceIte,binA.eq_def,Option.map_some]
  refine fin_run trivial (hK _ ?_)<;>clear hK<;>clear K
  refine qa (qk (qb ?_))
  simp only [Tryd.results129,PostG,endG,rvsA,rvA,mkTup,ev0,evA,evB,evP,fl,gp,tab,simprocAttr,reduceCtorEq,reduceIte]
  all_goals (exact ⟨[0,1,2,3,4,5,6,7,8,9,10,11,12,13],rfl,rfl,by simp only [leq,leA,ev0,evA,evB,evP,fl,gp,tab,simprocAttr,reduceCtorEq,reduceIte]<;>first|trivial|exact ⟨⟨by rw [hlS.2 _ rfl],all_up (by decide) hlS.1⟩,rfl⟩|trace_state⟩)
 ·(try simp only [nhs] at hC1)
  omega
set_option maxHeartbeats 8000000 in
set_option maxRecDepth 20000 in
theorem vstep (p:Prot σ) (h:GT n m n e) (h' : GT N M N d) (L:List Nat) (hL:L=gl n (op m n) e n) {rec:Loop} {lN:List AV} (hlS:lN.all (sc1 6)=true∧∀ π:List Nat,π.take 6=[0,1,2,3,4,5]→lN.map (ren1 π)=lN) (hokx:∀ φ,Hmo n (op m n) N (op M N) φ→p.okx (.list (il (tbm n φ))))
  (x:Nat) (r t:List Nat) (i:σ) (hx:L.getD t.length 0=x) (htl:t.length < L.length) (hi:p.ok i)
  (IH:∀ y,y < N→∀ i,p.ok i→NextV p n m e N M d L rec lN r (t++[y]) i):NextV p n m e N M d L rec lN (x :: r) t i:=by
 have hn:=h.2.1.big
 have hN:=h'.2.1.big
 have hpos:0 < n:=h.2.1.pos
 have hll:=gl_len n (op m n) e n
 rw [← hL] at hll
 have hLlt:=gl_lt n (op m n) e n
 rw [← hL] at hLlt
 have hxn:x < n:=by rw [← hx]; exact hLlt _ (by simp [List.getD,List.getElem?_eq_getElem htl])
 have hnt:=nl_len t
 have hnL:=nl_len L
 have hone:=p.ones i hi
 have hox:∀ y,∀ v∈pls (hsu n (op m n) e N (op M N) d L r t x y),p.okx v:=fun y v hv=>by
  obtain ⟨w,hw,rfl⟩:=List.mem_map.1 hv
  obtain ⟨φ,hφ,rfl⟩:=hsu_mem w hw
  exact hokx φ hφ
 have hrl:=rwd_len (Nat.le_of_lt htl)
 have h00:foldS p i (pls (hsu n (op m n) e N (op M N) d L r t x 0))=(i,true):=rfl
 have hL17:=hlS.2 [0,1,2,3,4,5,6,7,8,9,10,11,12,13] rfl
 have hlS17:lN.all (sc1 14)=true:=all_up (by decide) hlS.1
 have hL9:=hlS.2 [0,1,2,3,4,5,6] rfl
 have hL9':=hlS.2 [0,1,2,3,4,5,6] rfl
 have hL17':=hlS.2 [0,1,2,3,4,5,6,7,8,9,10,11,12,13] rfl
 have hlS9:lN.all (sc1 7)=true:=all_up (by decide) hlS.1
 unfold NextV
 refine fnq_of (q:=7) tab_ok Tryd.func129 rfl (by kernel_rfl) (by rw [Tryd.ntmps129]; exact Nat.le_add_left 7 _) ?_; rw [Tryd.ntmps129]; simp only [ancs,entA,List.length_cons,List.length_nil,List.cons_append,List.nil_append,Nat.reduceAdd,Nat.zero_add]
 simp only [HNV,List.append_nil,List.cons_append,List.nil_append]
 refine qm ?_
 refine hk_region fun K hK=>runs_eval tab_ok ?_
 simp only [ev0,evA,evB,evP,fl,gp,tab,simprocAttr,reduceCtorEq,reduceIte]
 refine fin_run trivial (hK _ ?_)<;>clear hK<;>clear K
 refine qa (qm (qm ?_))
 refine hk_region fun K hK=>runs_eval tab_ok ?_
 simp only [ev0,evA,evB,evP,fl,gp,tab,simprocAttr,reduceCtorEq,reduceIte,il_length,hnL]
 refine fin_run ?_ (hK _ ?_)<;>clear hK<;>clear K
 ·(first|exact trivial|omega|(simp only [In64] at *; omega)|(simp [In64] at *; omega)|(simp_all; done)|skip)
 refine qa ?_
 refine hk_cond rfl (fun hC1=>?_) (fun hC1=>?_)
 ·(try simp only [nhs] at hC1)
  omega
 ·(try simp only [nhs] at hC1)
  refine qh (qa (qm ?_))
  refine hk_draw mixed (by kernel_rfl) fun K hK=>runs_eval tab_ok ?_
  simp only [ev0,evA,evB,evP,fl,gp,tab,simprocAttr,reduceCtorEq,reduceIte,il_get (show t.length < (nl L).length by omega),nl_get htl,hx]
  refine fin_stop ?_ (runs_call (orderOf_c h hxn) rfl rfl rfl (by simp only [dstOk,Nat.reduceLT]) (by repeat (first|exact trivial|constructor)) (runs_eval tab_ok ?_))
  ·exact ⟨by omega,by omega⟩
  simp only [ev0,evA,evB,evP,fl,gp,tab,simprocAttr,reduceCtorEq,reduceIte,il_get (show t.length < (nl L).length by omega),nl_get htl,hx]
  refine fin_run ?_ (hK _ ?_)<;>clear hK<;>clear K
  ·(first|exact trivial|omega|(simp only [In64] at *; omega)|(simp [In64] at *; omega)|(simp_all; done)|skip)
  refine qa (qm (qm ?_))
  refine hk_region fun K hK=>runs_eval tab_ok ?_
  simp only [ev0,evA,evB,evP,fl,gp,tab,simprocAttr,reduceCtorEq,reduceIte]
  refine fin_run ?_ (hK _ ?_)<;>clear hK<;>clear K
  ·(first|exact trivial|omega|(simp only [In64] at *; omega)|(simp [In64] at *; omega)|(simp_all; done)|skip)
  refine qa (ql ?_)
  refine hk_loop (ι:=Nat) (fun y=>⟨55,[(0,.p (.int .i64 t.length)),(3,.p (.ptr [.int .i64 N,.list (il M)])),(4,.ptr 0 0),(6,.ptr 2 0),(10,.p (.int .i64 (ord n (op m n) e x:Nat))),(35,.p (.int .i64 N)),(36,.p (.int .i64 y))],[.own [.sl 6 0 L.length],.own [.yv 5 lN rec.tmps],.own [.cl 129 [.p (.ptr [.list (il (nl L))]),.p (.ptr [.int .i64 n,.list (il m)]),.p (.ptr [.int .i64 N,.list (il M)]),.ptr 0 0,.ptr 1 0,.ptr 2 0]],.own [.p (p.c4 (foldS p i (pls (hsu n (op m n) e N (op M N) d L r t x y))).1)],.own [.p (p.c51 (foldS p i (pls (hsu n (op m n) e N (op M N) d L r t x y))).1),.p (p.c52 (foldS p i (pls (hsu n (op m n) e N (op M N) d L r t x y))).1)],.lp rec,.own (rwd t L.length),.anc 0 0,.anc 1 1,.anc 2 2,.anc 3 3,.anc 4 4,.anc 5 5,.anc 6 6]⟩) (fun y=>y≤N∧(foldS p i (pls (hsu n (op m n) e N (op M N) d L r t x y))).2=true) (fun y=>N - y) 0 ⟨Nat.zero_le _,rfl⟩ [0,1,2,3,4,5,6,7,8,9,10,11,12,13] (by simp only [leq,leA,ev0,evA,evB,evP,fl,gp,tab,simprocAttr,reduceCtorEq,reduceIte,h00,hL17,rwd_ren,rwd_sc,hlS17]<;>first|trivial|trace_state) fun y hy=>?_
  obtain ⟨hy1,hy2⟩:=hy
  have hok:=foldS_ok p i _ hi (hox y) hy2
  have hsc:=@hsu_succ n e N d (op m n) (op M N) L r t x y
  obtain ⟨j,hj⟩:∃ j,(foldS p i (pls (hsu n (op m n) e N (op M N) d L r t x y))).1=j:=⟨_,rfl⟩
  rw [hj] at hok ⊢
  refine qm ?_
  refine hk_region fun K hK=>runs_eval tab_ok ?_
  simp only [ev0,evA,evB,evP,fl,gp,tab,simprocAttr,reduceCtorEq,reduceIte]
  refine fin_run trivial (hK _ ?_)<;>clear hK<;>clear K
  refine qa (qm ?_)
  refine hk_cond rfl (fun hC2=>?_) (fun hC2=>?_)
  ·(try simp only [nhs] at hC2)
   have hyN:y < N:=by omega
   have hoy:=h'.2.2.ord_pos hyN
   refine qh (qa (qm (ql (qm ?_))))
   refine hk_region fun K hK=>runs_eval tab_ok ?_
   simp only [ev0,evA,evB,evP,fl,gp,tab,simprocAttr,reduceCtorEq,reduceIte]
   refine fin_run trivial (hK _ ?_)<;>clear hK<;>clear K
   refine qa (qm ?_)
   refine hk_region fun K hK=>runs_eval tab_ok ?_
   simp only [ev0,evA,evB,evP,fl,gp,tab,simprocAttr,reduceCtorEq,reduceIte]
   refine fin_stop trivial (runs_call (orderOf_c h' hyN) rfl rfl rfl (by simp only [dstOk,Nat.reduceLT]) (by repeat (first|exact trivial|constructor)) (runs_eval tab_ok ?_))
   simp only [ev0,evA,evB,evP,fl,gp,tab,simprocAttr,reduceCtorEq,reduceIte]
   refine fin_run ?_ (hK _ ?_)<;>clear hK<;>clear K
   ·(first|exact trivial|omega|(simp only [In64] at *; omega)|(simp [In64] at *; omega)|(simp_all; done)|skip)
   refine qa ?_
   refine hk_cond rfl (fun hC3=>?_) (fun hC3=>?_)
   ·(try simp only [nhs] at hC3)
    have hIH:=IH y hyN j hok
    have hto:=foldS_on p (b:=pls (hsq n (op m n) e N (op M N) d L r (t++[y]))) hy2
    rw [hj] at hto
    unfold NextV at hIH
    obtain ⟨B,hB⟩:∃ B,(foldS p j (pls (hsq n (op m n) e N (op M N) d L r (t++[y])))).2=B:=⟨_,rfl⟩
    obtain ⟨j2,hj2⟩:∃ j2,(foldS p j (pls (hsq n (op m n) e N (op M N) d L r (t++[y])))).1=j2:=⟨_,rfl⟩
    rw [hB,hj2] at hIH
    have hcn:((t++[y]).length:Int)=(t.length:Int) + 1:=by simp
    rw [hcn] at hIH
    simp only [HNV] at hIH
    refine qm ?_
    refine hk_region fun K hK=>runs_eval tab_ok ?_
    simp only [ev0,evA,evB,evP,fl,gp,tab,simprocAttr,reduceCtorEq,reduceIte,rwd_set htl,hrl]
    refine fin_run ?_ (hK _ ?_)<;>clear hK<;>clear K
    ·(first|exact trivial|omega|(simp only [In64] at *; omega)|(simp [In64] at *; omega)|(simp_all; done)|skip)
    refine qa (qm ?_)
    refine hk_region fun K hK=>runs_eval tab_ok ?_
    simp only [ev0,evA,evB,evP,fl,gp,tab,simprocAttr,reduceCtorEq,reduceIte]
    refine fin_stop ?_ (runs_callQ [0,1,2,3,4,5,6] (hIH) rfl rfl ?_ (by simp only [leA,ev0,evA,evB,evP,fl,gp,tab,simprocAttr,reduceCtorEq,reduceIte,hL9,hL9',rwd_ren,rwd_sc,hlS9]; first|trivial|(simp only [ll_takeL]; first|trivial|(repeat constructor; done))|(repeat constructor)) (by decide) (by first|rfl|(simp only [List.length_cons,List.length_nil,List.length_append]; decide)) (by first|rfl|(simp [scQ,scA,sc1,mpKeep,notAnc,Blk.spc,opl_sc,hL9,hL9',rwd_ren,rwd_sc,hlS9]; done)) (by simp only [dstOk,Nat.reduceLT]) (runs_eval tab_ok ?_))
    ·(first|exact trivial|omega|(simp only [In64] at *; omega)|(simp [In64] at *; omega)|(simp_all; done)|skip)
    ·(simp only [argsM,argM1,peekG,peekS,scA,sc1,ren,ren1,List.map_cons,List.map_nil,List.append_nil,List.cons_append,List.nil_append,enA,ev0,evA,evB,evP,fl,gp,tab,simprocAttr,reduceCtorEq,reduceIte]; try trivial)
    simp only [putM,kills,hset,List.take_succ_cons,List.take_zero,List.drop_succ_cons,List.drop_zero,List.range',Blk.ren,ren,ren1,List.map_cons,List.map_nil,List.cons_append,List.nil_append,List.append_nil,List.length_cons,List.length_nil,ev0,evA,evB,evP,fl,gp,tab,simprocAttr,reduceCtorEq,reduceIte,recB_true,hL9,hL9',rwd_ren,rwd_sc,hlS9]
    refine fin_run ?_ (hK _ ?_)<;>clear hK<;>clear K
    ·(first|exact trivial|omega|(simp only [In64] at *; omega)|(simp [In64] at *; omega)|(simp_all; done)|skip)
    refine qa ?_
    refine hk_back 6 rfl htl ?_
    refine hk_cond rfl (fun hC4=>?_) (fun hC4=>?_)
    ·(try simp only [nhs] at hC4)
     subst hC4
     have hm:ord n (op m n) e x % ord N (op M N) d y=0:=by omega
     rw [if_pos hm] at hsc
     obtain ⟨z,hz⟩:=@hsu_pre n e N d (op m n) (op M N) L r t x (y + 1) (by omega)
     have hfin:foldS p i (pls (hsq n (op m n) e N (op M N) d L (x :: r) t))=(j2,false):=by
      have e1:foldS p i (pls (hsu n (op m n) e N (op M N) d L r t x (y + 1)))=(j2,false):=by
       rw [hsc,pls_app,hto,← hj2,← hB]
      rw [hz,pls_app,foldS_pre p (by rw [e1]),e1]
     rw [hfin]
     refine qm ?_
     refine hk_region fun K hK=>runs_eval tab_ok ?_
     simp only [ev0,evA,evB,evP,fl,gp,tab,simprocAttr,reduceCtorEq,reduceIte]
     refine fin_run trivial (hK _ ?_)<;>clear hK<;>clear K
     refine qa (qk (qe (qb (qb (qe (qb ?_))))))
     simp only [Tryd.results129,PostG,endG,rvsA,rvA,mkTup,ev0,evA,evB,evP,fl,gp,tab,simprocAttr,reduceCtorEq,reduceIte]
     all_goals (exact ⟨[0,1,2,3,4,5,6,7,8,9,10,11,12,13],rfl,rfl,by simp only [leq,leA,ev0,evA,evB,evP,fl,gp,tab,simprocAttr,reduceCtorEq,reduceIte,hL17,hL17',rwd_ren,rwd_sc,hlS17]<;>first|trivial|trace_state⟩)
    ·(try simp only [nhs] at hC4)
     obtain rfl:B=true:=by simpa using hC4
     rw [recB_true]
     have hm:ord n (op m n) e x % ord N (op M N) d y=0:=by omega
     rw [if_pos hm] at hsc
     have e1:foldS p i (pls (hsu n (op m n) e N (op M N) d L r t x (y + 1)))=(j2,true):=by
      rw [hsc,pls_app,hto,← hj2,← hB]
     refine qh (qd (qa ?_))
     refine hk_region fun K hK=>runs_eval tab_ok ?_
     simp only [ev0,evA,evB,evP,fl,gp,tab,simprocAttr,reduceCtorEq,reduceIte]
     refine fin_run ?_ (hK _ ?_)<;>clear hK<;>clear K
     ·(first|exact trivial|omega|(simp only [In64] at *; omega)|(simp [In64] at *; omega)|(simp_all; done)|skip)
     refine qa ?_
     refine ⟨y + 1,[0,1,2,3,4,5,6,7,8,9,10,11,12,13],⟨by omega,by rw [e1]⟩,by omega,?_⟩
     simp only [leq,leA,ev0,evA,evB,evP,fl,gp,tab,simprocAttr,reduceCtorEq,reduceIte,e1,hL17,hL17',rwd_ren,rwd_sc,hlS17]<;>first|trivial|omega|trace_state
   ·(try simp only [nhs] at hC3)
    have hm:¬ ord n (op m n) e x % ord N (op M N) d y=0:=by omega
    rw [if_neg hm] at hsc
    have e1:foldS p i (pls (hsu n (op m n) e N (op M N) d L r t x (y + 1)))=(j,true):=by
     rw [hsc,← hj,← hy2]
    refine qh (qd (qa ?_))
    refine hk_region fun K hK=>runs_eval tab_ok ?_
    simp only [ev0,evA,evB,evP,fl,gp,tab,simprocAttr,reduceCtorEq,reduceIte]
    refine fin_run ?_ (hK _ ?_)<;>clear hK<;>clear K
    ·(first|exact trivial|omega|(simp only [In64] at *; omega)|(simp [In64] at *; omega)|(simp_all; done)|skip)
    refine qa ?_
    refine ⟨y + 1,[0,1,2,3,4,5,6,7,8,9,10,11,12,13],⟨by omega,by rw [e1]⟩,by omega,?_⟩
    simp only [leq,leA,ev0,evA,evB,evP,fl,gp,tab,simprocAttr,reduceCtorEq,reduceIte,e1,hL17,hL17',rwd_ren,rwd_sc,hlS17]<;>first|trivial|omega|trace_state
  ·(try simp only [nhs] at hC2)
   obtain rfl:y=N:=by omega
   have hfin:foldS p i (pls (hsq n (op m n) e y (op M y) d L (x :: r) t))=(j,true):=by
    rw [hsu_end,← hj,← hy2]
   rw [hfin]
   refine qj (qc (qc (qf (qa (qm ?_)))))
   refine hk_region fun K hK=>runs_eval tab_ok ?_
   simp only [ev0,evA,evB,evP,fl,gp,tab,simprocAttr,reduceCtorEq,reduceIte]
   refine fin_run trivial (hK _ ?_)<;>clear hK<;>clear K
   refine qa (qk ?_)
   simp only [Tryd.results129,PostG,endG,rvsA,rvA,mkTup,ev0,evA,evB,evP,fl,gp,tab,simprocAttr,reduceCtorEq,reduceIte]
   all_goals (exact ⟨[0,1,2,3,4,5,6,7,8,9,10,11,12,13],rfl,rfl,by simp only [leq,leA,ev0,evA,evB,evP,fl,gp,tab,simprocAttr,reduceCtorEq,reduceIte,hL17,hL17',rwd_ren,rwd_sc,hlS17]<;>first|trivial|trace_state⟩)
theorem vnext_c (p : Prot σ) (h : GT n m n e) (h' : GT N M N d) (L : List Nat) (hL : L = gl n (op m n) e n) {rec : Loop} (hrp : rec.params.size = 1) {l lN : List AV} (hY : RoundsV Tryd.prog p rec l) (hokx : ∀ φ, Hmo n (op m n) N (op M N) φ → p.okx (.list (il (tbm n φ))))
    (hl : l.all (sc1 3) = true) (hlN : l.map (ren1 [3, 4, 5]) = lN) : ∀ (r t : List Nat) (i : σ), t.length ≤ L.length → L.drop t.length = r → (∀ y ∈ t, y < N) → p.ok i → NextV p n m e N M d L rec lN r t i
  | [], t, i, h1, h2, h3, hi => by
    have htl : t.length = L.length := by
      have := congrArg List.length h2
      simp at this; omega
    by_cases hex : ∃ φ, Ext n (op m n) N (op M N) L t φ
    · exact vleaf1 p h h' L hL hrp hY hokx hl hlN t i htl h3 hi hex
    · exact vleaf2 p h h' L hL hrp hY hokx hl hlN t i htl h3 hi hex
  | x :: r, t, i, h1, h2, h3, hi => by
    have htl : t.length < L.length := by
      have := congrArg List.length h2
      simp at this; omega
    have hd : L.drop t.length = L[t.length] :: L.drop (t.length + 1) := List.drop_eq_getElem_cons htl
    rw [h2] at hd
    obtain ⟨e1, e2⟩ := List.cons.inj hd
    refine vstep p h h' L hL (fixV hl hlN) hokx x r t i (by simp [List.getD, List.getElem?_eq_getElem htl, e1]) htl hi fun y hy j hj => ?_
    exact vnext_c p h h' L hL hrp hY hokx hl hlN r (t ++ [y]) j (by simp; omega) (by rw [List.length_append]; exact e2.symm) (fun z hz => by
      rcases List.mem_append.1 hz with hz | hz
      · exact h3 z hz
      · have : z = y := by simpa using hz
        omega) hj

set_option maxHeartbeats 8000000 in
set_option maxRecDepth 20000 in
theorem veach_c (p:Prot σ) (h:GT n m n e) (h' : GT N M N d) (L:List Nat) (hL:L=gl n (op m n) e n) {rec:Loop} (hrp:rec.params.size=1) {l:List AV} (hY:RoundsV Tryd.prog p rec l) (hokx:∀ φ,Hmo n (op m n) N (op M N) φ→p.okx (.list (il (tbm n φ))))
  (hl:l.all (sc1 3)=true) (i:σ) (hi:p.ok i) {j:σ} {b:Bool} (hf:foldS p i (pls (hsq n (op m n) e N (op M N) d L L []))=(j,b)) :
  FnQ Tryd.prog 3 79 [.p (gp n m),.p (gp N M),.yv 2 l rec.tmps] (HV p i (.lp rec)) (.p (.tup [])) (HV p j (.lp (recB b rec))):=by
 have hlN:l.map (ren1 [3,4,5])=l.map (ren1 [3,4,5]):=rfl
 have hNx:=vnext_c p h h' L hL hrp hY hokx hl hlN L [] i (Nat.zero_le _) rfl (fun y hy=>by simp at hy) hi
 unfold NextV at hNx
 rw [hf] at hNx
 have hc0:((([]:List Nat).length:Nat):Int)=0:=rfl
 rw [hc0] at hNx
 have hbk:∀ ks:List Nat,ks.getD 3 0=0→ks.getD 4 0=1→ks.getD 5 0=2→(l.map (ren1 [3,4,5])).map (ren1 ks)=l:=fun ks h0 h1 h2=>backV h0 h1 h2 hl
 have hlS:=fixV hl hlN
 generalize l.map (ren1 [3,4,5])=lN at hNx hbk hlS
 simp only [HNV] at hNx
 have hL9:=hbk [11,8,12,0,1,2,10] rfl rfl rfl
 have hlS9:lN.all (sc1 7)=true:=all_up (by decide) hlS.1
 have hll:=gl_len n (op m n) e n
 have hn:=h.2.1.big
 rw [← hL] at hll
 have hrw:List.replicate (List.replicate L.length (AV.p (.int .i64 0))).length AV.dead=rwd [] L.length:=by simp [rwd,nl,il,opl]
 have hnL:=nl_len L
 have hgn:=gens_c h
 rw [← hL] at hgn
 have hone:=p.ones i hi
 refine fnq_of (q:=3) tab_ok Tryd.func79 rfl (by kernel_rfl) (by rw [Tryd.ntmps79]; exact Nat.le_add_left 3 _) ?_; rw [Tryd.ntmps79]; simp only [ancs,entA,List.length_cons,List.length_nil,List.cons_append,List.nil_append,Nat.reduceAdd,Nat.zero_add]
 simp only [HV,List.append_nil,List.cons_append,List.nil_append]
 refine qm ?_
 refine hk_region fun K hK=>runs_eval tab_ok ?_
 simp only [ev0,evA,evB,evP,fl,gp,tab,simprocAttr,reduceCtorEq,reduceIte]
 refine fin_run ?_ (hK _ ?_)<;>clear hK<;>clear K
 ·(first|exact trivial|omega|(simp only [In64] at *; omega)|(simp [In64] at *; omega)|(simp_all; done)|skip)
 refine qa (qm ?_)
 refine hk_region fun K hK=>runs_eval tab_ok ?_
 simp only [ev0,evA,evB,evP,fl,gp,tab,simprocAttr,reduceCtorEq,reduceIte]
 refine fin_stop trivial (runs_call (hgn) rfl rfl rfl (by simp only [dstOk,Nat.reduceLT]) (by repeat (first|exact trivial|constructor)) (runs_eval tab_ok ?_))
 simp only [ev0,evA,evB,evP,fl,gp,tab,simprocAttr,reduceCtorEq,reduceIte]
 refine fin_run ?_ (hK _ ?_)<;>clear hK<;>clear K
 ·(first|exact trivial|omega|(simp only [In64] at *; omega)|(simp [In64] at *; omega)|(simp_all; done)|skip)
 refine qa (qm ?_)
 refine hk_region fun K hK=>runs_eval tab_ok ?_
 simp only [ev0,evA,evB,evP,fl,gp,tab,simprocAttr,reduceCtorEq,reduceIte]
 refine fin_run ?_ (hK _ ?_)<;>clear hK<;>clear K
 ·rw [hnL]; exact ⟨by omega,by omega,by omega,by omega⟩
 refine qa (qm ?_)
 refine hk_region fun K hK=>runs_eval tab_ok ?_
 simp only [ev0,evA,evB,evP,fl,gp,tab,simprocAttr,reduceCtorEq,reduceIte]
 refine fin_run ?_ (hK _ ?_)<;>clear hK<;>clear K
 ·(first|exact trivial|omega|(simp only [In64] at *; omega)|(simp [In64] at *; omega)|(simp_all; done)|skip)
 refine qa (qm ?_)
 refine hk_freeze 9 rfl rfl ?_
 refine hk_freeze 6 rfl rfl ?_
 refine hk_freeze 7 rfl rfl ?_
 refine hk_forget 10 rfl ?_
 simp only [hset,hrw,hnL]
 refine hk_pure 6 rfl (Nat.zero_le _) ?_
 refine hk_pure 3 rfl (Nat.zero_le _) ?_
 refine hk_pure 4 rfl (Nat.zero_le _) ?_
 refine hk_region fun K hK=>runs_eval tab_ok ?_
 simp only [ev0,evA,evB,evP,fl,gp,tab,simprocAttr,reduceCtorEq,reduceIte]
 refine fin_stop ?_ (runs_op (makeCl_does rfl rfl) rfl (by simp only [dstOk,Nat.reduceLT]) (runs_eval tab_ok ?_))
 ·(first|exact trivial|omega|(simp only [In64] at *; omega)|(simp [In64] at *; omega)|(simp_all; done)|skip)
 simp only [ev0,evA,evB,evP,fl,gp,tab,simprocAttr,reduceCtorEq,reduceIte]
 refine fin_run ?_ (hK _ ?_)<;>clear hK<;>clear K
 ·(first|exact trivial|omega|(simp only [In64] at *; omega)|(simp [In64] at *; omega)|(simp_all; done)|skip)
 refine qa ?_
 refine hk_region fun K hK=>runs_eval tab_ok ?_
 simp only [ev0,evA,evB,evP,fl,gp,tab,simprocAttr,reduceCtorEq,reduceIte]
 refine fin_stop ?_ (runs_callQ [11,8,12,0,1,2,10] (hNx) rfl rfl ?_ (by simp only [leA,ev0,evA,evB,evP,fl,gp,tab,simprocAttr,reduceCtorEq,reduceIte,hL9,rwd_ren,rwd_sc,hlS9]; first|trivial|(simp only [ll_takeL]; first|trivial|(repeat constructor; done))|(repeat constructor)) (by decide) (by first|rfl|(simp only [List.length_cons,List.length_nil,List.length_append]; decide)) (by first|rfl|(simp [scQ,scA,sc1,mpKeep,notAnc,Blk.spc,opl_sc,hL9,rwd_ren,rwd_sc,hlS9]; done)) (by simp only [dstOk,Nat.reduceLT]) (runs_eval tab_ok ?_))
 ·(first|exact trivial|omega|(simp only [In64] at *; omega)|(simp [In64] at *; omega)|(simp_all; done)|skip)
 ·(simp only [argsM,argM1,peekG,peekS,scA,sc1,ren,ren1,List.map_cons,List.map_nil,List.append_nil,List.cons_append,List.nil_append,enA,ev0,evA,evB,evP,fl,gp,tab,simprocAttr,reduceCtorEq,reduceIte]; try trivial)
 simp only [putM,kills,hset,List.take_succ_cons,List.take_zero,List.drop_succ_cons,List.drop_zero,List.range',Blk.ren,ren,ren1,List.map_cons,List.map_nil,List.cons_append,List.nil_append,List.append_nil,List.length_cons,List.length_nil,ev0,evA,evB,evP,fl,gp,tab,simprocAttr,reduceCtorEq,reduceIte,hL9,rwd_ren,rwd_sc,hlS9]
 refine fin_run ?_ (hK _ ?_)<;>clear hK<;>clear K
 ·(first|exact trivial|omega|(simp only [In64] at *; omega)|(simp [In64] at *; omega)|(simp_all; done)|skip)
 simp only [Tryd.results79,PostG,endG,rvsA,rvA,mkTup,ev0,evA,evB,evP,fl,gp,tab,simprocAttr,reduceCtorEq,reduceIte]
 all_goals (exact ⟨[0,1,2,3,4,5],rfl,rfl,by simp only [leq,leA,ev0,evA,evB,evP,fl,gp,tab,simprocAttr,reduceCtorEq,reduceIte]<;>first|trivial|trace_state⟩)
end
end Go.Proofs.YtboadfahlflmhaaDoor

/-
  Walks: the search for an isomorphism. Conditions: none.
-/
set_option linter.all false
namespace Go.Pv
open Go.RowKit
/-- The first that is asked. -/
def prI (f : PV → Bool) (ox : List Int → Prop) : Prot (Option (List Int)) where
  c4 i := match i with
    | none => .nil
    | some v => .list (il v)
  c51 _ := .int .i64 0
  c52 _ := .int .i64 0
  R _ := []
  go _ x := !f x
  nx i x := if f x then (match x with | .list l => some (l.map Go.Proofs.YtboadfahlflmhaaDoor.pvi) | _ => none) else i
  ok i := i = none
  okx x := ∃ v, x = .list (il v) ∧ ox v
  ok_nx i x h _ hg := by
    have hf : f x = false := by simpa using hg
    simp only [hf]; exact h
  ones _ _ := rfl
end Go.Pv
namespace Go.Proofs.YtboadfahlflmhaaDoor
open Go.Pv

section
variable {n e N d : Nat} {m M : List Int} {σ : Type}
theorem prI_nx {f : PV → Bool} {ox : List Int → Prop} {v : List Int} (h : f (.list (il v)) = true) (i : Option (List Int)) : (prI f ox).nx i (.list (il v)) = some v := by
  show (if f (.list (il v)) = true then _ else _) = _
  rw [if_pos h]
  show some ((il v).map pvi) = _
  rw [pvi_il]
theorem prI_nn {f : PV → Bool} {ox : List Int → Prop} {x : PV} (h : f x = false) (i : Option (List Int)) : (prI f ox).nx i x = i := by
  show (if f x = true then _ else _) = _
  rw [h]; rfl
theorem foldI_yes (n : Nat) (ox : List Int → Prop) : ∀ W : List (List Int), (∃ w ∈ W, onto1 w n) → ∃ w ∈ W, onto1 w n ∧ foldS (prI (fA n) ox) none (pls W) = (some w, false)
  | [], h => by obtain ⟨w, hw, _⟩ := h; cases hw
  | w :: W, h => by
    by_cases ho : onto1 w n
    · refine ⟨w, List.mem_cons_self .., ho, ?_⟩
      have hw : fA n (.list (il w)) = true := by rw [fA_il]; exact decide_eq_true ho
      show foldS _ _ (.list (il w) :: pls W) = _
      unfold foldS
      have hg : (prI (fA n) ox).go none (.list (il w)) = false := by show (!fA n _) = false; rw [hw]; rfl
      rw [hg, prI_nx hw]; rfl
    · obtain ⟨w', hw', ho'⟩ := h
      have hm : w' ∈ W := by
        rcases List.mem_cons.1 hw' with rfl | h
        · exact absurd ho' ho
        · exact h
      obtain ⟨u, hu, hu2, hu3⟩ := foldI_yes n ox W ⟨w', hm, ho'⟩
      refine ⟨u, List.mem_cons_of_mem _ hu, hu2, ?_⟩
      have hw : fA n (.list (il w)) = false := by rw [fA_il]; exact decide_eq_false ho
      show foldS _ _ (.list (il w) :: pls W) = _
      unfold foldS
      have hg : (prI (fA n) ox).go none (.list (il w)) = true := by show (!fA n _) = true; rw [hw]; rfl
      rw [hg, if_pos rfl, prI_nn hw]
      exact hu3

/-- How many things have each order. -/
def cnt1 (n : Nat) (f : Nat → Nat → Nat) (e j k : Nat) : Int := ((mem j fun b => decide (ord n f e b = k)).length : Nat)
theorem cnt1_succ (f : Nat → Nat → Nat) (j k : Nat) : cnt1 n f e (j + 1) k = if k = ord n f e j then cnt1 n f e j (ord n f e j) + 1 else cnt1 n f e j k := by
  unfold cnt1 mem
  rw [List.range_succ, List.filter_append]
  by_cases hk : k = ord n f e j
  · subst hk
    simp
  · have : ¬ ord n f e j = k := fun h => hk h.symm
    simp [hk, this]
theorem Isom.cnt {f g : Nat → Nat → Nat} {φ : Nat → Nat} (G : Grp n f e) (K : Grp N g d) (h : Isom n f N g φ) (k : Nat) : cnt1 n f e n k = cnt1 N g d N k := by
  obtain ⟨h1, h2, h3⟩ := isom_iff.1 h
  subst h2
  unfold cnt1
  have ho : ∀ a, a < n → ord n g d (φ a) = ord n f e a := fun a ha => by
    refine Nat.dvd_antisymm (h1.ord G K ha) ?_
    -- the order of a divides that of its image
    rw [← G.pw_eq_one ha]
    refine h.inj (G.pw_lt ha _) G.el ?_
    rw [h1.pw G K ha, K.pw_ord (h1.lt a ha), h1.one G K]
  refine congrArg _ (mem_bij φ (fun x hx hp => ⟨h1.lt x hx, ?_⟩) (fun x y hx hy _ _ e => h.inj hx hy e) fun y hy hp => ?_)
  · simp only [decide_eq_true_eq] at hp ⊢
    rw [ho x hx, hp]
  · obtain ⟨x, hx, rfl⟩ := h3 y hy
    simp only [decide_eq_true_eq] at hp ⊢
    exact ⟨x, hx, by rw [← ho x hx, hp], rfl⟩
theorem isoc_c (h:GT n m n e):FnC Tryd.prog 93 [gp n m] (.list (il (rgz (n + 1) (cnt1 n (op m n) e n)))):=by
 have hn:=h.2.1.big
 have h0:(rgz (n + 1) fun _=>(0:Int))=rgz (n + 1) (cnt1 n (op m n) e 0):=rfl
 have hc:((n:Nat):Int) + 1=((n + 1:Nat):Int):=rfl
 refine fnc_of tab_ok Tryd.func93 rfl (by kernel_rfl) (by rw [Tryd.ntmps93]; exact Nat.le_add_left 1 _) ?_; rw [Tryd.ntmps93]
 refine qm ?_
 refine hk_region fun K hK=>runs_eval tab_ok ?_
 simp only [ev0,evA,evB,evP,fl,gp,tab,simprocAttr,reduceCtorEq,reduceIte]
 refine fin_run ?_ (hK _ ?_)<;>clear hK<;>clear K
 ·(first|exact trivial|omega|(simp only [In64] at *; omega)|(simp [In64] at *; omega)|(simp_all; done)|skip)
 refine qa (qm ?_)
 refine hk_region fun K hK=>runs_eval tab_ok ?_
 simp only [ev0,evA,evB,evP,fl,gp,tab,simprocAttr,reduceCtorEq,reduceIte,hc,makeSliceA.eq_def,rgz_new]
 refine fin_run ?_ (hK _ ?_)<;>clear hK<;>clear K
 ·skip
  exact ⟨⟨by omega,by omega⟩,by omega,by omega,by omega,by omega⟩
 refine qa (qm (qm ?_))
 refine hk_region fun K hK=>runs_eval tab_ok ?_
 simp only [ev0,evA,evB,evP,fl,gp,tab,simprocAttr,reduceCtorEq,reduceIte]
 refine fin_run ?_ (hK _ ?_)<;>clear hK<;>clear K
 ·(first|exact trivial|omega|(simp only [In64] at *; omega)|(simp [In64] at *; omega)|(simp_all; done)|skip)
 refine qa (ql ?_)
 refine hk_loop (ι:=Nat) (fun a=>⟨24,[(1,.ptr 0 0),(3,.sl 1 0 (n + 1)),(10,.p (.int .i64 n)),(11,.p (.int .i64 a))],[.own [.p (.int .i64 n),.p (.list (il m))],.own (ol (rgz (n + 1) (cnt1 n (op m n) e a)))]⟩) (fun a=>a≤n) (fun a=>n - a) 0 (Nat.zero_le _) [0,1] (by simp only [leq,leA,ev0,evA,evB,evP,fl,gp,tab,simprocAttr,reduceCtorEq,reduceIte]<;>first|trivial|exact ⟨rfl,rfl⟩|(rw [h0,List.take_length]; done)|trace_state) fun a ha=>?_
 have hrl:=rgz_len (n + 1) (cnt1 n (op m n) e a)
 refine qm ?_
 refine hk_region fun K hK=>runs_eval tab_ok ?_
 simp only [ev0,evA,evB,evP,fl,gp,tab,simprocAttr,reduceCtorEq,reduceIte]
 refine fin_run trivial (hK _ ?_)<;>clear hK<;>clear K
 refine qa (qm ?_)
 refine hk_cond rfl (fun hC1=>?_) (fun hC1=>?_)
 ·(try simp only [nhs] at hC1)
  have hal:a < n:=by omega
  have hol:ord n (op m n) e a < n + 1:=by have:=(h.2.2.ord_spec hal).2.1; omega
  have hg:=rgz_get (g:=cnt1 n (op m n) e a) hol
  have hse:(rgz (n + 1) (cnt1 n (op m n) e a)).set (ord n (op m n) e a) (cnt1 n (op m n) e a (ord n (op m n) e a) + 1)=rgz (n + 1) (cnt1 n (op m n) e (a + 1)):=by
   rw [rgz_set]
   exact rgz_congr fun k hk=>(cnt1_succ (op m n) a k).symm
  have hcb:cnt1 n (op m n) e a (ord n (op m n) e a)≤n:=by
   unfold cnt1 mem
   have h1:=List.length_filter_le (fun b=>decide (ord n (op m n) e b=ord n (op m n) e a)) (List.range a)
   rw [List.length_range] at h1
   omega
  have hc0:0≤cnt1 n (op m n) e a (ord n (op m n) e a):=Int.natCast_nonneg _
  refine qh (qa (qm (ql (qm ?_))))
  refine hk_region fun K hK=>runs_eval tab_ok ?_
  simp only [ev0,evA,evB,evP,fl,gp,tab,simprocAttr,reduceCtorEq,reduceIte]
  refine fin_run trivial (hK _ ?_)<;>clear hK<;>clear K
  refine qa ?_
  refine hk_region fun K hK=>runs_eval tab_ok ?_
  simp only [ev0,evA,evB,evP,fl,gp,tab,simprocAttr,reduceCtorEq,reduceIte,ol_length,hrl,ol_get (show ord n (op m n) e a < (rgz (n + 1) (cnt1 n (op m n) e a)).length by omega),hg,ol_set,hse]
  refine fin_stop ?_ (runs_call (orderOf_c h hal) rfl rfl rfl (by simp only [dstOk,Nat.reduceLT]) (by repeat (first|exact trivial|constructor)) (runs_eval tab_ok ?_))
  ·(first|exact trivial|omega|(simp only [In64] at *; omega)|(simp [In64] at *; omega)|(simp_all; done)|skip)
  simp only [ev0,evA,evB,evP,fl,gp,tab,simprocAttr,reduceCtorEq,reduceIte,ol_length,hrl,ol_get (show ord n (op m n) e a < (rgz (n + 1) (cnt1 n (op m n) e a)).length by omega),hg,ol_set,hse]
  refine fin_run ?_ (hK _ ?_)<;>clear hK<;>clear K
  ·(first|exact trivial|omega|(simp only [In64] at *; omega)|(simp [In64] at *; omega)|(simp_all; done)|skip)
  refine qd (qa ?_)
  refine hk_region fun K hK=>runs_eval tab_ok ?_
  simp only [ev0,evA,evB,evP,fl,gp,tab,simprocAttr,reduceCtorEq,reduceIte]
  refine fin_run ?_ (hK _ ?_)<;>clear hK<;>clear K
  ·(first|exact trivial|omega|(simp only [In64] at *; omega)|(simp [In64] at *; omega)|(simp_all; done)|skip)
  refine qa ?_
  refine ⟨a + 1,[0,1],by omega,by omega,?_⟩
  simp only [leq,leA,ev0,evA,evB,evP,fl,gp,tab,simprocAttr,reduceCtorEq,reduceIte]<;>first|trivial|omega|trace_state
 ·(try simp only [nhs] at hC1)
  obtain rfl:a=n:=by omega
  refine hk_seal 3 1 (w:=rgz (a + 1) (cnt1 a (op m a) e a)) (by rw [hrl]; rfl) rfl ?_
  refine qj (qc (qc (qf (qa (qm ?_)))))
  refine hk_region fun K hK=>runs_eval tab_ok ?_
  simp only [ev0,evA,evB,evP,fl,gp,tab,simprocAttr,reduceCtorEq,reduceIte]
  refine fin_run trivial (hK _ ?_)<;>clear hK<;>clear K
  refine qa (qk ?_)
  simp only [Tryd.results93,enA,ev0,evA,evB,evP,fl,gp,tab,simprocAttr,reduceCtorEq,reduceIte]
  all_goals (rfl)

set_option maxHeartbeats 8000000 in
set_option maxRecDepth 20000 in
theorem iso2_c (p:Prot σ) (h:GT n m n e) (h' : GT N M N d) (L:List Nat) (hL:L=gl n (op m n) e n) {rec:Loop} (hrp:rec.params.size=1) {l:List AV} (hY:RoundsV Tryd.prog p rec l) (hokx:∀ φ,Hmo n (op m n) N (op M N) φ→p.okx (.list (il (tbm n φ))))
  (hl:l.all (sc1 3)=true) (i:σ) (hi:p.ok i) {j:σ} {b:Bool} (hf:foldS p i (pls (hsq n (op m n) e N (op M N) d L L []))=(j,b)) :
  FnQ Tryd.prog 3 95 [.yv 2 l rec.tmps,.p (.ptr [.int .i64 n,.list (il m)]),.p (.ptr [.int .i64 N,.list (il M)])] (HV p i (.lp rec)) (.p (.tup [])) (HV p j (.lp (recB b rec))):=by
 have hE:=veach_c p h h' L hL hrp hY hokx hl i hi hf
 have hl3:l.map (ren1 [0,1,2])=l:=(List.map_congr_left fun x hx=>ren1_range (n:=3) (List.all_eq_true.1 hl x hx)).trans (List.map_id _)
 unfold HV at hE ⊢
 refine fnq_of (q:=3) tab_ok Tryd.func95 rfl (by kernel_rfl) (by rw [Tryd.ntmps95]; exact Nat.le_add_left 3 _) ?_; rw [Tryd.ntmps95]; simp only [ancs,entA,List.length_cons,List.length_nil,List.cons_append,List.nil_append,Nat.reduceAdd,Nat.zero_add]
 refine hk_region fun K hK=>runs_eval tab_ok ?_
 simp only [ev0,evA,evB,evP,fl,gp,tab,simprocAttr,reduceCtorEq,reduceIte]
 refine fin_stop ?_ (runs_callQ [0,1,2] (hE) rfl rfl ?_ (by simp only [leA,ev0,evA,evB,evP,fl,gp,tab,simprocAttr,reduceCtorEq,reduceIte]; first|trivial|(simp only [ll_takeL]; first|trivial|(repeat constructor; done))|(repeat constructor)) (by decide) (by first|rfl|(simp only [List.length_cons,List.length_nil,List.length_append]; decide)) (by first|rfl|(simp [scQ,scA,sc1,mpKeep,notAnc,Blk.spc,opl_sc]; done)) (by simp only [dstOk,Nat.reduceLT]) (runs_eval tab_ok ?_))
 ·(first|exact trivial|omega|(simp only [In64] at *; omega)|(simp [In64] at *; omega)|(simp_all; done)|skip)
 ·(simp only [argsM,argM1,peekG,peekS,scA,sc1,ren,ren1,List.map_cons,List.map_nil,List.append_nil,List.cons_append,List.nil_append,enA,ev0,evA,evB,evP,fl,gp,tab,simprocAttr,reduceCtorEq,reduceIte]; try trivial)
  exact ⟨by rw [hl3],all_up (by decide) hl⟩
 simp only [putM,kills,hset,List.take_succ_cons,List.take_zero,List.drop_succ_cons,List.drop_zero,List.range',Blk.ren,ren,ren1,List.map_cons,List.map_nil,List.cons_append,List.nil_append,List.append_nil,List.length_cons,List.length_nil,ev0,evA,evB,evP,fl,gp,tab,simprocAttr,reduceCtorEq,reduceIte]
 refine fin_run ?_ (hK _ ?_)<;>clear hK<;>clear K
 ·(first|exact trivial|omega|(simp only [In64] at *; omega)|(simp [In64] at *; omega)|(simp_all; done)|skip)
 simp only [Tryd.results95,PostG,endG,rvsA,rvA,mkTup,ev0,evA,evB,evP,fl,gp,tab,simprocAttr,reduceCtorEq,reduceIte]
 all_goals (exact ⟨[0,1,2,3,4,5],rfl,rfl,by simp only [leq,leA,ev0,evA,evB,evP,fl,gp,tab,simprocAttr,reduceCtorEq,reduceIte]<;>first|trivial|trace_state⟩)
end
end Go.Proofs.YtboadfahlflmhaaDoor

/-
  Walks: an isomorphism is found just where there is one. Conditions: none.
-/
set_option linter.all false
namespace Go.Proofs.YtboadfahlflmhaaDoor
open Go.Pv

section
variable {n e N d : Nat} {m M : List Int}
set_option maxHeartbeats 8000000 in
set_option maxRecDepth 20000 in
theorem iso_run (h:GT n m n e) (h' : GT n M n d) (hm:m.length≤1000000000000000) (hM:M.length≤1000000000000000) (hcn:rgz (n + 1) (cnt1 n (op m n) e n)=rgz (n + 1) (cnt1 n (op M n) d n)) {j:Option (List Int)} {b:Bool}
  (hf:foldS (prI (fA n) (oA n)) none (pls (hmW n m e n M d))=(j,b)) (hj:(j=none∧b=true)∨(∃ v,j=some v∧b=false)) :
  FnC Tryd.prog 29 [gp n m,gp n M] (.tup [.list (il (j.getD [])),fl (if b then 6 else 0,0)]):=by
 have hb:=homBoth_c n m n M hm hM
 rw [tg_ok h h'] at hb
 have hn:=h.2.1.big
 have hl1:=rgz_len (n + 1) (cnt1 n (op m n) e n)
 have hl2:=rgz_len (n + 1) (cnt1 n (op M n) d n)
 refine fnc_ofR tab_ok Tryd.func29 rfl (by kernel_rfl) (by rw [Tryd.ntmps29]; exact Nat.le_add_left 2 _) ?_; rw [Tryd.ntmps29]
 refine hr_seqH ?_
 refine hk_region fun K hK=>runs_eval tab_ok ?_
 simp only [ev0,evA,evB,evP,fl,gp,tab,simprocAttr,reduceCtorEq,reduceIte]
 refine fin_run ?_ (hK _ ?_)<;>clear hK<;>clear K
 ·(first|exact trivial|omega|(simp only [In64] at *; omega)|(simp [In64] at *; omega)|(simp_all; done)|skip)
 refine qa (hr_seqH (qm ?_))
 refine hk_region fun K hK=>runs_eval tab_ok ?_
 simp only [ev0,evA,evB,evP,fl,gp,tab,simprocAttr,reduceCtorEq,reduceIte]
 refine fin_stop trivial (runs_call (hb) rfl rfl rfl (by simp only [dstOk,Nat.reduceLT]) (by repeat (first|exact trivial|constructor)) (runs_eval tab_ok ?_))
 simp only [ev0,evA,evB,evP,fl,gp,tab,simprocAttr,reduceCtorEq,reduceIte]
 refine fin_run ?_ (hK _ ?_)<;>clear hK<;>clear K
 ·(first|exact trivial|omega|(simp only [In64] at *; omega)|(simp [In64] at *; omega)|(simp_all; done)|skip)
 refine qa (qm ?_)
 refine hk_region fun K hK=>runs_eval tab_ok ?_
 simp only [ev0,evA,evB,evP,fl,gp,tab,simprocAttr,reduceCtorEq,reduceIte]
 refine fin_run ?_ (hK _ ?_)<;>clear hK<;>clear K
 ·(first|exact trivial|omega|(simp only [In64] at *; omega)|(simp [In64] at *; omega)|(simp_all; done)|skip)
 refine qa ?_
 refine hk_cond rfl (fun hC1=>?_) (fun hC1=>?_)
 ·(try simp only [nhs] at hC1)
  simp at hC1
 ·(try simp only [nhs] at hC1)
  refine qh (qa (hr_seq (hr_seqH ?_)))
  refine hk_region fun K hK=>runs_eval tab_ok ?_
  simp only [ev0,evA,evB,evP,fl,gp,tab,simprocAttr,reduceCtorEq,reduceIte]
  refine fin_run ?_ (hK _ ?_)<;>clear hK<;>clear K
  ·(first|exact trivial|omega|(simp only [In64] at *; omega)|(simp [In64] at *; omega)|(simp_all; done)|skip)
  refine qa ?_
  refine hr_cond rfl (fun hC2=>?_) (fun hC2=>?_)
  ·(try simp only [nhs] at hC2)
   refine hr_seqH ?_
   refine hk_region fun K hK=>runs_eval tab_ok ?_
   simp only [ev0,evA,evB,evP,fl,gp,tab,simprocAttr,reduceCtorEq,reduceIte]
   refine fin_run trivial (hK _ ?_)<;>clear hK<;>clear K
   refine qa (hr_seqH ?_)
   refine hk_draw2 mixed fun K hK=>runs2_eval tab_ok ?_
   simp only [evD,ev0,evA,evB,evP,fl,gp,tab,simprocAttr,reduceCtorEq,reduceIte]
   refine fin2_stop trivial (runs2_call (isoc_c h) rfl rfl rfl rfl (by simp only [dstOk,Nat.reduceLT]) (by repeat (first|exact trivial|constructor)) (runs2_eval tab_ok ?_))
   simp only [evD,ev0,evA,evB,evP,fl,gp,tab,simprocAttr,reduceCtorEq,reduceIte]
   refine fin2_stop trivial (runs2_call (isoc_c h') rfl rfl rfl rfl (by simp only [dstOk,Nat.reduceLT]) (by repeat (first|exact trivial|constructor)) (runs2_eval tab_ok ?_))
   simp only [evD,ev0,evA,evB,evP,fl,gp,tab,simprocAttr,reduceCtorEq,reduceIte]
   refine fin2_stop trivial (runs2_call (equal_c (rgz (n + 1) (cnt1 n (op m n) e n)) (rgz (n + 1) (cnt1 n (op M n) d n)) (by omega) (by omega)) rfl rfl rfl rfl (by simp only [dstOk,Nat.reduceLT]) (by repeat (first|exact trivial|constructor)) (runs2_eval tab_ok ?_))
   simp only [evD,ev0,evA,evB,evP,fl,gp,tab,simprocAttr,reduceCtorEq,reduceIte]
   refine fin2_run ?_ (hK _ _ (by first|kernel_rfl|rfl) ?_)<;>clear hK<;>clear K
   ·(first|exact trivial|omega|(simp only [In64] at *; omega)|(simp [In64] at *; omega)|(simp_all; done)|skip)
   refine qa ?_
   refine hr_cond rfl (fun hC3=>?_) (fun hC3=>?_)
   ·(try simp only [nhs] at hC3)
    refine hr_seqH ?_
    refine hk_freeze 0 rfl rfl ?_
    refine hk_freeze 1 rfl rfl ?_
    refine hk_pure 2 rfl (Nat.zero_le _) ?_
    refine hk_pure 3 rfl (Nat.zero_le _) ?_
    simp only [hset,List.drop_zero]
    refine hk_region fun K hK=>runs_eval tab_ok ?_
    simp only [ev0,evA,evB,evP,fl,gp,tab,simprocAttr,reduceCtorEq,reduceIte]
    refine fin_run ?_ (hK _ ?_)<;>clear hK<;>clear K
    ·(first|exact trivial|omega|(simp only [In64] at *; omega)|(simp [In64] at *; omega)|(simp_all; done)|skip)
    refine qa (hr_block ?_)
    refine hr_cl 31 rfl ?_
    refine hr_range (gs:=31) (pp:=32) (κ:=2) (q:=3) (n:=52) (sl:=[(2,.p (.ptr [.int .i64 n,.list (il m)])),(3,.p (.ptr [.int .i64 n,.list (il M)])),(4,.ptr 0 0),(5,.ptr 1 0)]) (Hs0:=HV (prI (fA n) (oA n)) none) (Hf:=HV (prI (fA n) (oA n)) j) (b:=b) (gf:=95) (cap:=[.p (.ptr [.int .i64 n,.list (il m)]),.p (.ptr [.int .i64 n,.list (il M)])]) (rv:=.p (.tup [])) [2,3,5] rfl rfl
     (fun r0=>by simp only [HV,prI]; simp only [leq,leA,ev0,evA,evB,evP,fl,gp,tab,simprocAttr,reduceCtorEq,reduceIte]<;>first|trivial|trace_state) rfl (by decide) ⟨fun _=>rfl,fun _ _=>rfl⟩ ⟨fun _=>rfl,fun _ _=>rfl⟩ (fun r0=>rfl) rfl rfl (fun r0 r1=>by rcases hj with ⟨rfl,rfl⟩|⟨v,rfl,rfl⟩<;>(simp only [HV,prI]; exact (by first|rfl|(simp [scQ,scA,sc1,mpKeep,notAnc,Blk.spc,opl_sc]; done))))
     (fun rec hr=>iso2_c (prI (fA n) (oA n)) h h' _ rfl (by rw [hr.params]; rfl) (fun i x hi hx=>yld_of hr (by decide) rfl (by decide) (sl1:=(8,.p x) :: [(2,.p (.ptr [.int .i64 n,.list (il m)])),(3,.p (.ptr [.int .i64 n,.list (il M)])),(4,.ptr 0 0),(5,.ptr 1 0)]) (H0:=HV (prI (fA n) (oA n)) i) (H1:=HV (prI (fA n) (oA n)) (Prot.nx (prI (fA n) (oA n)) i x)) ⟨fun _=>rfl,fun _ _=>rfl⟩ ⟨fun _=>rfl,fun _ _=>rfl⟩ (fun r0=>?_) (fun r0=>?_)) (fun φ hφ=>⟨_,rfl,tbm_len n φ,fun k hk=>⟨φ k,hφ.lt k hk,tbm_get hk⟩⟩) rfl none rfl hf) ?_ ?_
    ·simp only [HV,prI,ancs,List.cons_append,List.nil_append,Nat.reduceAdd,Nat.zero_add]
     refine hk_region fun K hK=>runs_eval tab_ok ?_
     simp only [ev0,evA,evB,evP,fl,gp,tab,simprocAttr,reduceCtorEq,reduceIte]
     refine fin_run trivial (hK _ ?_)<;>clear hK<;>clear K
     refine ⟨rfl,[0,1,2,3,4,5],?_⟩
     simp only [leq,leA,ev0,evA,evB,evP,fl,gp,tab,simprocAttr,reduceCtorEq,reduceIte]<;>first|trivial|trace_state
    ·obtain ⟨v,rfl,hvl,hvn⟩:=hx
     have hi:i=none:=hi
     subst hi
     have hfv:fA n (.list (il v))=decide (onto1 v n):=fA_il n v
     have hgo:(prI (fA n) (oA n)).go none (.list (il v)) = !decide (onto1 v n):=by show (!fA n _)=_; rw [hfv]
     rw [hgo]
     have hnx:(prI (fA n) (oA n)).nx none (.list (il v))=if onto1 v n then some v else none:=by
      by_cases ho:onto1 v n
      ·rw [if_pos ho]; exact prI_nx (by rw [hfv]; exact decide_eq_true ho) none
      ·rw [if_neg ho]; exact prI_nn (by rw [hfv]; exact decide_eq_false ho) none
     rw [hnx]
     simp only [HV,prI,ancs,List.cons_append,List.nil_append,Nat.reduceAdd,Nat.zero_add]
     refine ql (qm ?_)
     refine hk_region fun K hK=>runs_eval tab_ok ?_
     simp only [ev0,evA,evB,evP,fl,gp,tab,simprocAttr,reduceCtorEq,reduceIte,makeSliceA.eq_def,hbl_new]
     refine fin_run ?_ (hK _ ?_)<;>clear hK<;>clear K
     ·omega
     refine qa (qm (qm ?_))
     refine hk_region fun K hK=>runs_eval tab_ok ?_
     simp only [ev0,evA,evB,evP,fl,gp,tab,simprocAttr,reduceCtorEq,reduceIte,il_length,hvl]
     refine fin_run trivial (hK _ ?_)<;>clear hK<;>clear K
     refine qa (ql ?_)
     refine hk_loop (ι:=Nat) (fun k=>⟨52,[(4,.ptr 0 0),(5,.ptr 1 0),(8,.p (.list (il v))),(9,.sl 6 0 n),(36,.p (.list (il v))),(37,.p (.int .i64 n)),(38,.p (.int .i64 k))],[.own [.p .nil],.own [.p (.int .i64 0),.p (.int .i64 0)],.lp r0,.anc 0 0,.anc 1 1,.anc 2 2,.own (opl (hbl n (hits v k)))]⟩) (fun k=>k≤n) (fun k=>n - k) 0 (Nat.zero_le _) [0,1,2,3,4,5,6] (by simp only [show hits v 0=fun _=>false from funext (hits_zero _)]; simp only [leq,leA,ev0,evA,evB,evP,fl,gp,tab,simprocAttr,reduceCtorEq,reduceIte]<;>first|trivial|trace_state) fun k hk=>?_
     refine qm ?_
     refine hk_region fun K hK=>runs_eval tab_ok ?_
     simp only [ev0,evA,evB,evP,fl,gp,tab,simprocAttr,reduceCtorEq,reduceIte]
     refine fin_run trivial (hK _ ?_)<;>clear hK<;>clear K
     refine qa (qm ?_)
     refine hk_cond rfl (fun hC4=>?_) (fun hC4=>?_)
     ·(try simp only [nhs] at hC4)
      have hkl:k < n:=by omega
      obtain ⟨y,lv,ev⟩:=hvn k hkl
      refine qh (qa (qm (ql (qm ?_))))
      refine hk_region fun K hK=>runs_eval tab_ok ?_
      simp only [ev0,evA,evB,evP,fl,gp,tab,simprocAttr,reduceCtorEq,reduceIte,il_get (show k < v.length by omega),ev]
      refine fin_run ?_ (hK _ ?_)<;>clear hK<;>clear K
      ·(first|exact trivial|omega|(simp only [In64] at *; omega)|(simp [In64] at *; omega)|(simp_all; done)|skip)
      refine qa ?_
      refine hk_region fun K hK=>runs_eval tab_ok ?_
      simp only [ev0,evA,evB,evP,fl,gp,tab,simprocAttr,reduceCtorEq,reduceIte]
      refine fin_run ?_ (hK _ ?_)<;>clear hK<;>clear K
      ·rw [hbl_len]; omega
      refine qd (qa ?_)
      rw [hbl_set]
      refine hk_region fun K hK=>runs_eval tab_ok ?_
      simp only [ev0,evA,evB,evP,fl,gp,tab,simprocAttr,reduceCtorEq,reduceIte]
      refine fin_run ?_ (hK _ ?_)<;>clear hK<;>clear K
      ·(first|exact trivial|omega|(simp only [In64] at *; omega)|(simp [In64] at *; omega)|(simp_all; done)|skip)
      refine qa ?_
      refine ⟨k + 1,[0,1,2,3,4,5,6],by omega,by omega,?_⟩
      rw [hbl_congr (fun i' _=>hits_succ (l:=v) (by omega) ev i')]
      simp only [leq,leA,ev0,evA,evB,evP,fl,gp,tab,simprocAttr,reduceCtorEq,reduceIte]<;>first|trivial|omega
     ·(try simp only [nhs] at hC4)
      have hkn:k=n:=by omega
      rw [hkn]
      have hon:decide (ixb n (hits v n) ≥ 0)=decide (¬ onto1 v n):=decide_eq_decide.2 (by
       rw [ixb_iff]
       unfold hits onto1
       rw [List.take_of_length_le (by omega)]
       constructor
       ·rintro ⟨z,v1,v2⟩ ho
        exact (of_decide_eq_false v2) (ho.1 z v1)
       ·intro ho
        by_cases hh:∃ z,z < n∧¬ ((z:Nat):Int)∈v
        ·obtain ⟨z,v1,v2⟩:=hh
         exact ⟨z,v1,decide_eq_false v2⟩
        ·exact absurd ⟨fun z hz=>Classical.byContradiction fun h'=>hh ⟨z,hz,h'⟩,hvl⟩ ho)
      refine hk_sealp 9 6 (hbl_all n (hits v n)) (by show AV.sl 6 0 n=AV.sl 6 0 _; rw [hbl_len]) rfl ?_
      refine qj (qc (qc (qf (qa (qm ?_)))))
      refine hk_region fun K hK=>runs_eval tab_ok ?_
      simp only [ev0,evA,evB,evP,fl,gp,tab,simprocAttr,reduceCtorEq,reduceIte]
      refine fin_stop trivial (runs_call (containsB_c n (hits v n) (by omega)) rfl rfl rfl (by simp only [dstOk,Nat.reduceLT]) (by repeat (first|exact trivial|constructor)) (runs_eval tab_ok ?_))
      simp only [ev0,evA,evB,evP,fl,gp,tab,simprocAttr,reduceCtorEq,reduceIte,hon]
      refine fin_run trivial (hK _ ?_)<;>clear hK<;>clear K
      refine qa ?_
      refine hk_cond rfl (fun hC5=>?_) (fun hC5=>?_)
      ·(try simp only [nhs] at hC5)
       have ho:onto1 v n:=by simpa using hC5
       simp only [ho,decide_true,Bool.not_true,if_true,Bool.false_eq_true,if_false]
       refine qm ?_
       refine hk_region fun K hK=>runs_eval tab_ok ?_
       simp only [ev0,evA,evB,evP,fl,gp,tab,simprocAttr,reduceCtorEq,reduceIte]
       refine fin_run ?_ (hK _ ?_)<;>clear hK<;>clear K
       ·(first|exact trivial|omega|(simp only [In64] at *; omega)|(simp [In64] at *; omega)|(simp_all; done)|skip)
       refine qa (qk (qe ?_))
       refine ⟨rfl,[0,1,2,3,4,5],?_⟩
       simp only [leq,leA,ev0,evA,evB,evP,fl,gp,tab,simprocAttr,reduceCtorEq,reduceIte]<;>first|trivial|(simp; done)|trace_state
      ·(try simp only [nhs] at hC5)
       have ho:¬ onto1 v n:=by simpa using hC5
       simp only [ho,decide_false,Bool.not_false,if_true,Bool.false_eq_true,if_false]
       refine qh (qd ?_)
       refine ⟨rfl,[0,1,2,3,4,5],?_⟩
       simp only [leq,leA,ev0,evA,evB,evP,fl,gp,tab,simprocAttr,reduceCtorEq,reduceIte]<;>first|trivial|(simp; done)|trace_state
    ·intro hbt
     obtain ⟨rfl,_⟩:j=none∧b=true:=by
      rcases hj with h1 | ⟨v,_,h2⟩
      ·exact h1
      ·rw [h2] at hbt; cases hbt
     subst hbt
     simp only [HV,prI,ancs,List.cons_append,List.nil_append,Nat.reduceAdd,Nat.zero_add]
     refine qd (qa (hr_seqH ?_))
     refine hk_region fun K hK=>runs_eval tab_ok ?_
     simp only [ev0,evA,evB,evP,fl,gp,tab,simprocAttr,reduceCtorEq,reduceIte]
     refine fin_stop trivial (runs_call (homFlt_c 6 0) rfl rfl rfl (by simp only [dstOk,Nat.reduceLT]) (by repeat (first|exact trivial|constructor)) (runs_eval tab_ok ?_))
     simp only [ev0,evA,evB,evP,fl,gp,tab,simprocAttr,reduceCtorEq,reduceIte]
     refine fin_run ?_ (hK _ ?_)<;>clear hK<;>clear K
     ·(first|exact trivial|omega|(simp only [In64] at *; omega)|(simp [In64] at *; omega)|(simp_all; done)|skip)
     refine qa (hr_of_hk (qk ?_))
     simp only [Tryd.results29,enA,ev0,evA,evB,evP,fl,gp,tab,simprocAttr,reduceCtorEq,reduceIte]
     all_goals (rfl)
    ·intro hbf
     obtain ⟨v,rfl,_⟩:∃ v,j=some v∧b=false:=by
      rcases hj with ⟨_,h1⟩ | h2
      ·rw [h1] at hbf; cases hbf
      ·exact h2
     subst hbf
     simp only [HV,prI,ancs,List.cons_append,List.nil_append,Nat.reduceAdd,Nat.zero_add]
     refine qe (qb ?_)
     simp only [Tryd.results29,enA,ev0,evA,evB,evP,fl,gp,tab,simprocAttr,reduceCtorEq,reduceIte]
     all_goals (rfl)
   ·(try simp only [nhs] at hC3)
    exact absurd hcn (by simpa using hC3)
  ·(try simp only [nhs] at hC2)
   simp at hC2

/-- There is one just where groups are alike. -/
theorem iso_yes (h : GT n m n e) (h' : GT N M N d) (hm : m.length ≤ 1000000000000000) (hM : M.length ≤ 1000000000000000) (hex : ∃ φ, Isom n (op m n) N (op M N) φ) : ∃ φ, Isom n (op m n) N (op M N) φ ∧ FnC Tryd.prog 29 [gp n m, gp N M] (.tup [.list (il (tbm n φ)), fl (0, 0)]) := by
  obtain ⟨χ, hχ⟩ := hex
  obtain ⟨_, h2, _⟩ := isom_iff.1 hχ
  subst h2
  have hcn : rgz (n + 1) (cnt1 n (op m n) e n) = rgz (n + 1) (cnt1 n (op M n) d n) := rgz_congr fun k _ => hχ.cnt h.2.2 h'.2.2 k
  obtain ⟨w, hw, ho, hf⟩ := foldI_yes n (oA n) (hmW n m e n M d) ⟨tbm n χ, (hmW_mem h h' _).2 ⟨χ, hχ.1, rfl⟩, hχ.2⟩
  obtain ⟨φ, hφ, rfl⟩ := (hmW_mem h h' w).1 hw
  exact ⟨φ, ⟨hφ, ho⟩, iso_run h h' hm hM hcn hf (.inr ⟨_, rfl, rfl⟩)⟩
end
end Go.Proofs.YtboadfahlflmhaaDoor

/-
  The law QuotThird. Conditions: none.
-/
set_option linter.all false
namespace Go.Proofs.YtboadfahlflmhaaDoor
open Go.Pv

theorem mem3 {n : Nat} {p : Nat → Bool} {a : Nat} (ha : a < n) : decide (((a : Nat) : Int) ∈ thl n p) = p a := by
  rw [Bool.eq_iff_iff, decide_eq_true_eq, mem_thl_n ha]
theorem qth1_c {n:Nat} (hn:n≤60) (p q:Nat→Bool) {a:Nat} (ha:a < n):FnC Tryd.prog 56 [.int .i64 a,.ptr [.list (il (thl n p))],.ptr [.list (il (thl n q))]] (.bool (p a || q a)):=by
 have hp:=thl_le n p
 have hq:=thl_le n q
 have e1:=mem3 (p:=p) ha
 have e2:=mem3 (p:=q) ha
 refine fnc_of tab_ok Tryd.func56 rfl (by kernel_rfl) (by rw [Tryd.ntmps56]; exact Nat.le_add_left 3 _) ?_; rw [Tryd.ntmps56]
 refine qm ?_
 refine hk_region fun K hK=>runs_eval tab_ok ?_
 simp only [ev0,evA,evB,evP,fl,gp,tab,simprocAttr,reduceCtorEq,reduceIte]
 refine fin_run trivial (hK _ ?_)<;>clear hK<;>clear K
 refine qa (qm ?_)
 cases hpa:p a
 ·refine hk_region fun K hK=>runs_eval tab_ok ?_
  simp only [ev0,evA,evB,evP,fl,gp,tab,simprocAttr,reduceCtorEq,reduceIte,e1,e2,hpa]
  refine fin_stop trivial (runs_call (has_r (thl n p) a (by omega)) rfl rfl rfl (by simp only [dstOk,Nat.reduceLT]) (by repeat (first|exact trivial|constructor)) (runs_eval tab_ok ?_))
  simp only [ev0,evA,evB,evP,fl,gp,tab,simprocAttr,reduceCtorEq,reduceIte,e1,e2,hpa]
  refine fin_stop trivial (runs_call (has_r (thl n q) a (by omega)) rfl rfl rfl (by simp only [dstOk,Nat.reduceLT]) (by repeat (first|exact trivial|constructor)) (runs_eval tab_ok ?_))
  simp only [ev0,evA,evB,evP,fl,gp,tab,simprocAttr,reduceCtorEq,reduceIte,e1,e2,hpa]
  refine fin_run ?_ (hK _ ?_)<;>clear hK<;>clear K
  ·(first|exact trivial|omega|(simp only [In64] at *; omega)|(simp [In64] at *; omega)|(simp_all; done)|skip)
  refine qa (qk ?_)
  simp only [Tryd.results56,enA,ev0,evA,evB,evP,fl,gp,tab,simprocAttr,reduceCtorEq,reduceIte]
  all_goals (first|rfl|(simp [e1,e2,hpa]; done)|trace_state)
 ·refine hk_region fun K hK=>runs_eval tab_ok ?_
  simp only [ev0,evA,evB,evP,fl,gp,tab,simprocAttr,reduceCtorEq,reduceIte,e1,e2,hpa]
  refine fin_stop trivial (runs_call (has_r (thl n p) a (by omega)) rfl rfl rfl (by simp only [dstOk,Nat.reduceLT]) (by repeat (first|exact trivial|constructor)) (runs_eval tab_ok ?_))
  simp only [ev0,evA,evB,evP,fl,gp,tab,simprocAttr,reduceCtorEq,reduceIte,e1,e2,hpa]
  refine fin_run ?_ (hK _ ?_)<;>clear hK<;>clear K
  ·(first|exact trivial|omega|(simp only [In64] at *; omega)|(simp [In64] at *; omega)|(simp_all; done)|skip)
  refine qa (qk ?_)
  simp only [Tryd.results56,enA,ev0,evA,evB,evP,fl,gp,tab,simprocAttr,reduceCtorEq,reduceIte]
  all_goals (first|rfl|(simp [e1,e2,hpa]; done)|trace_state)
def kim (n : Nat) (K : Nat → Bool) (cl : Nat → Nat) (c : Nat) : Bool := (List.range n).any fun a => K a && cl a == c
theorem kim_iff {n : Nat} {K : Nat → Bool} {cl : Nat → Nat} {c : Nat} : kim n K cl c = true ↔ ∃ a, a < n ∧ K a = true ∧ cl a = c := by
  simp [kim, List.any_eq_true]
theorem qth2_c {n:Nat} (hn:n≤60) {r:Nat→Nat→Bool} (E:Eqv n r) (K:Nat→Bool) {c:Nat} (hc:c < n):FnC Tryd.prog 57 [.int .i64 c,.ptr [.list (il (thl n K))],.ptr [.list (il (whl n r))]] (.bool (kim n K (clq n r) c)):=by
 have hK:=thl_le n K
 have hw:=whl_len n r
 refine fnc_of tab_ok Tryd.func57 rfl (by kernel_rfl) (by rw [Tryd.ntmps57]; exact Nat.le_add_left 3 _) ?_; rw [Tryd.ntmps57]
 refine qm ?_
 refine hk_region fun K hK=>runs_eval tab_ok ?_
 simp only [ev0,evA,evB,evP,fl,gp,tab,simprocAttr,reduceCtorEq,reduceIte]
 refine fin_run trivial (hK _ ?_)<;>clear hK<;>clear K
 refine qa (qm (qm ?_))
 refine hk_region fun K hK=>runs_eval tab_ok ?_
 simp only [ev0,evA,evB,evP,fl,gp,tab,simprocAttr,reduceCtorEq,reduceIte]
 refine fin_run trivial (hK _ ?_)<;>clear hK<;>clear K
 refine qa (ql ?_)
 refine hk_loop (ι:=Nat) (fun i=>⟨21,[(0,.p (.int .i64 c)),(1,.p (.ptr [.list (il (thl n K))])),(2,.p (.ptr [.list (il (whl n r))])),(5,.p (.int .i64 i))],[]⟩) (fun i=>i≤(thl n K).length∧∀ j,j < i→∀ a:Nat,(thl n K).getD j 0=a→¬ clq n r a=c) (fun i=>(thl n K).length - i) 0 ⟨Nat.zero_le _,fun j hj=>absurd hj (Nat.not_lt_zero _)⟩ [] (by simp only [leq,leA,ev0,evA,evB,evP,fl,gp,tab,simprocAttr,reduceCtorEq,reduceIte]<;>first|trivial|trace_state) fun i hi=>?_
 obtain ⟨hi1,hi2⟩:=hi
 refine qm (qm ?_)
 refine hk_region fun K hK=>runs_eval tab_ok ?_
 simp only [ev0,evA,evB,evP,fl,gp,tab,simprocAttr,reduceCtorEq,reduceIte,il_length]
 refine fin_run ?_ (hK _ ?_)<;>clear hK<;>clear K
 ·(first|exact trivial|omega|(simp only [In64] at *; omega)|(simp [In64] at *; omega)|(simp_all; done)|skip)
 refine qa ?_
 refine hk_cond rfl (fun hC1=>?_) (fun hC1=>?_)
 ·(try simp only [nhs] at hC1)
  have hil' : i < (thl n K).length:=by omega
  obtain ⟨a,ha,hKa,hga⟩:=thl_get hil'
  have hwa:=whl_get E ha
  refine qh (qa (qm (ql (qm ?_))))
  refine hk_draw mixed (by kernel_rfl) fun K hK=>runs_eval tab_ok ?_
  simp only [ev0,evA,evB,evP,fl,gp,tab,simprocAttr,reduceCtorEq,reduceIte,il_length,il_get hil',hga,il_get (show a < (whl n r).length by omega),hwa]
  refine fin_run ?_ (hK _ ?_)<;>clear hK<;>clear K
  ·exact ⟨⟨by omega,by omega⟩,by omega,by omega⟩
  refine qa ?_
  refine hk_cond rfl (fun hC2=>?_) (fun hC2=>?_)
  ·(try simp only [nhs] at hC2)
   have hac:clq n r a=c:=by omega
   have hres:kim n K (clq n r) c=true:=kim_iff.2 ⟨a,ha,hKa,hac⟩
   rw [hres]
   refine qm ?_
   refine hk_region fun K hK=>runs_eval tab_ok ?_
   simp only [ev0,evA,evB,evP,fl,gp,tab,simprocAttr,reduceCtorEq,reduceIte]
   refine fin_run trivial (hK _ ?_)<;>clear hK<;>clear K
   refine qa (qk (qe (qb (qb (qe (qb ?_))))))
   simp only [Tryd.results57,enA,ev0,evA,evB,evP,fl,gp,tab,simprocAttr,reduceCtorEq,reduceIte]
   all_goals (rfl)
  ·(try simp only [nhs] at hC2)
   have hac:¬ clq n r a=c:=by omega
   refine qh (qd (qa ?_))
   refine hk_region fun K hK=>runs_eval tab_ok ?_
   simp only [ev0,evA,evB,evP,fl,gp,tab,simprocAttr,reduceCtorEq,reduceIte]
   refine fin_run ?_ (hK _ ?_)<;>clear hK<;>clear K
   ·(first|exact trivial|omega|(simp only [In64] at *; omega)|(simp [In64] at *; omega)|(simp_all; done)|skip)
   refine qa ?_
   refine ⟨i + 1,[],⟨by omega,fun j hj b hb=>?_⟩,by omega,?_⟩
   ·by_cases hji:j=i
    ·rw [hji,hga] at hb
     obtain rfl:a=b:=by omega
     exact hac
    ·exact hi2 j (by omega) b hb
   ·simp only [leq,leA,ev0,evA,evB,evP,fl,gp,tab,simprocAttr,reduceCtorEq,reduceIte]<;>first|trivial|omega
 ·(try simp only [nhs] at hC1)
  have hres:kim n K (clq n r) c=false:=Bool.eq_false_iff.2 fun h=>by
   obtain ⟨a,ha,hKa,hac⟩:=kim_iff.1 h
   obtain ⟨j,hj,hg⟩:=thl_at ha hKa
   exact hi2 j (by omega) a hg hac
  rw [hres]
  refine qj (qc (qc (qf (qa (qm ?_)))))
  refine hk_region fun K hK=>runs_eval tab_ok ?_
  simp only [ev0,evA,evB,evP,fl,gp,tab,simprocAttr,reduceCtorEq,reduceIte]
  refine fin_run trivial (hK _ ?_)<;>clear hK<;>clear K
  refine qa (qk ?_)
  simp only [Tryd.results57,enA,ev0,evA,evB,evP,fl,gp,tab,simprocAttr,reduceCtorEq,reduceIte]
  all_goals (rfl)

theorem qtb_le {n : Nat} {f : Nat → Nat → Nat} {r : Nat → Nat → Bool} (h : (cst n r).length ≤ 60) : (qtb n f r).length ≤ 1000000000000000 := by
  unfold qtb
  rw [tbl_len]
  have := sq_le h
  omega
theorem cnt_take {L : List Nat} {p : Nat → Bool} {i : Nat} (hi : i < L.length) : ((L.take (i + 1)).filter p).length = ((L.take i).filter p).length + if p (L.getD i 0) then 1 else 0 := by
  rw [List.take_succ_eq_append_getElem hi, List.filter_append, List.length_append]
  rw [show L.getD i 0 = L[i] by simp [List.getD, List.getElem?_eq_getElem hi]]
  by_cases h : p L[i] = true <;> simp [h]
set_option maxRecDepth 20000 in
set_option maxHeartbeats 16000000 in
theorem quotThird_c (N:Int) (m l l2:List Int) (hm:m.length≤17592186043904) (hl:l.length≤17592186043904) (hl2:l2.length≤17592186043904):FnC Tryd.prog 9 [gp N m,.list (il l),.list (il l2)] (.bool true):=by
 have hS2:=setFault_c N m l2 (by omega) (by omega)
 have key:¬ (sf N m l).1=0∨((sf N m l).1=0∧¬ (sf N m l2).1=0)∨((sf N m l).1=0∧(sf N m l2).1=0∧¬ N≤24)∨((sf N m l).1=0∧(sf N m l2).1=0∧N≤24):=by
  by_cases h1:(sf N m l).1=0
  ·by_cases h2:(sf N m l2).1=0
   ·by_cases h3:N≤24
    ·exact .inr (.inr (.inr ⟨h1,h2,h3⟩))
    ·exact .inr (.inr (.inl ⟨h1,h2,h3⟩))
   ·exact .inr (.inl ⟨h1,h2⟩)
  ·exact .inl h1
 refine fnc_of tab_ok Tryd.func9 rfl (by kernel_rfl) (by rw [Tryd.ntmps9]; exact Nat.le_add_left 3 _) ?_; rw [Tryd.ntmps9]
 refine qm ?_
 refine hk_region fun K hK=>runs_eval tab_ok ?_
 simp only [ev0,evA,evB,evP,fl,gp,tab,simprocAttr,reduceCtorEq,reduceIte]
 refine fin_run ?_ (hK _ ?_)<;>clear hK<;>clear K
 ·(first|exact trivial|omega|(simp only [In64] at *; omega)|(simp [In64] at *; omega)|(simp_all; done)|skip)
 refine qa (qm (qm ?_))
 refine hk_region fun K hK=>runs_eval tab_ok ?_
 simp only [ev0,evA,evB,evP,fl,gp,tab,simprocAttr,reduceCtorEq,reduceIte]
 refine fin_stop trivial (runs_call (quotBegun_c) rfl rfl rfl (by simp only [dstOk,Nat.reduceLT]) (by repeat (first|exact trivial|constructor)) (runs_eval tab_ok ?_))
 simp only [ev0,evA,evB,evP,fl,gp,tab,simprocAttr,reduceCtorEq,reduceIte]
 refine fin_run trivial (hK _ ?_)<;>clear hK<;>clear K
 refine qa ?_
 refine hk_cond rfl (fun hC1=>?_) (fun hC1=>?_)
 ·cases hC1
 ·(try simp only [nhs] at hC1)
  refine qh (qa (qm ?_))
  rcases key with hf | ⟨hf,hf2⟩ | ⟨hf,hf2,h24⟩ | ⟨hf,hf2,h24⟩
  ·have cC:=closure_no N m l (by omega) (by omega) hf
   refine hk_region fun K hK=>runs_eval tab_ok ?_
   simp only [ev0,evA,evB,evP,fl,gp,tab,simprocAttr,reduceCtorEq,reduceIte]
   refine fin_stop trivial (runs_call (cC) rfl rfl rfl (by simp only [dstOk,Nat.reduceLT]) (by repeat (first|exact trivial|constructor)) (runs_eval tab_ok ?_))
   simp only [ev0,evA,evB,evP,fl,gp,tab,simprocAttr,reduceCtorEq,reduceIte]
   refine fin_run ?_ (hK _ ?_)<;>clear hK<;>clear K
   ·(first|exact trivial|omega|(simp only [In64] at *; omega)|(simp [In64] at *; omega)|(simp_all; done)|skip)
   refine qa (qm (qm ?_))
   refine hk_region fun K hK=>runs_eval tab_ok ?_
   simp only [ev0,evA,evB,evP,fl,gp,tab,simprocAttr,reduceCtorEq,reduceIte,decide_eq_false hf]
   refine fin_run ?_ (hK _ ?_)<;>clear hK<;>clear K
   ·(first|exact trivial|omega|(simp only [In64] at *; omega)|(simp [In64] at *; omega)|(simp_all; done)|skip)
   refine qa ?_
   refine hk_cond rfl (fun hC2=>?_) (fun hC2=>?_)
   ·refine qm ?_
    refine hk_region fun K hK=>runs_eval tab_ok ?_
    simp only [ev0,evA,evB,evP,fl,gp,tab,simprocAttr,reduceCtorEq,reduceIte]
    refine fin_run trivial (hK _ ?_)<;>clear hK<;>clear K
    refine qa (qk (qb ?_))
    simp only [Tryd.results9,enA,ev0,evA,evB,evP,fl,gp,tab,simprocAttr,reduceCtorEq,reduceIte]
    all_goals (first|rfl|(simp; done)|trace_state)
   ·cases hC2
  ·obtain ⟨n,e,h,rfl,hla,hsa⟩:=sf_ok hf
   obtain ⟨q,hq⟩:=gen_ex n (op m n) e (cup n (op m n) e (tst l))
   have cC:=closure_ok h (tst l) q hq
   rw [← hla] at cC
   refine hk_region fun K hK=>runs_eval tab_ok ?_
   simp only [ev0,evA,evB,evP,fl,gp,tab,simprocAttr,reduceCtorEq,reduceIte]
   refine fin_stop trivial (runs_call (cC) rfl rfl rfl (by simp only [dstOk,Nat.reduceLT]) (by repeat (first|exact trivial|constructor)) (runs_eval tab_ok ?_))
   simp only [ev0,evA,evB,evP,fl,gp,tab,simprocAttr,reduceCtorEq,reduceIte]
   refine fin_run ?_ (hK _ ?_)<;>clear hK<;>clear K
   ·(first|exact trivial|omega|(simp only [In64] at *; omega)|(simp [In64] at *; omega)|(simp_all; done)|skip)
   refine qa (qm (qm ?_))
   refine hk_region fun K hK=>runs_eval tab_ok ?_
   simp only [ev0,evA,evB,evP,fl,gp,tab,simprocAttr,reduceCtorEq,reduceIte,decide_eq_false hf2]
   refine fin_stop trivial (runs_call (hS2) rfl rfl rfl (by simp only [dstOk,Nat.reduceLT]) (by repeat (first|exact trivial|constructor)) (runs_eval tab_ok ?_))
   simp only [ev0,evA,evB,evP,fl,gp,tab,simprocAttr,reduceCtorEq,reduceIte,decide_eq_false hf2]
   refine fin_run ?_ (hK _ ?_)<;>clear hK<;>clear K
   ·(first|exact trivial|omega|(simp only [In64] at *; omega)|(simp [In64] at *; omega)|(simp_all; done)|skip)
   refine qa ?_
   refine hk_cond rfl (fun hC2=>?_) (fun hC2=>?_)
   ·refine qm ?_
    refine hk_region fun K hK=>runs_eval tab_ok ?_
    simp only [ev0,evA,evB,evP,fl,gp,tab,simprocAttr,reduceCtorEq,reduceIte]
    refine fin_run trivial (hK _ ?_)<;>clear hK<;>clear K
    refine qa (qk (qb ?_))
    simp only [Tryd.results9,enA,ev0,evA,evB,evP,fl,gp,tab,simprocAttr,reduceCtorEq,reduceIte]
    all_goals (first|rfl|(simp; done)|trace_state)
   ·cases hC2
  ·obtain ⟨n,e,h,rfl,hla,hsa⟩:=sf_ok hf
   obtain ⟨hlb,hsb⟩:=sf_two h hf2
   rw [hsb] at hS2
   have G:=h.2.2
   have hb:=h.2.1.big
   generalize tst l=p0 at hla
   generalize tst l2=q0 at hlb
   subst hla
   subst hlb
   obtain ⟨q,hq⟩:=gen_ex n (op m n) e (cup n (op m n) e p0)
   have qs:=gen_sub G hq
   have qn:=G.gen_nml (G.cup_nml p0) hq
   obtain ⟨K,hK⟩:=gen_ex n (op m n) e (cup n (op m n) e fun a=>q a || q0 a)
   have Ks:=gen_sub G hK
   have Kn:=G.gen_nml (G.cup_nml fun a=>q a || q0 a) hK
   have hqK:∀ a,a < n→q a=true→K a=true:=fun a ha h1=>(hK a ha).2 (Gen.mem G ha (G.cup_in ha (by simp [h1])))
   have cC:=closure_ok h p0 q hq
   have hlq:=thl_le n q
   have hlK:=thl_le n K
   have hLq:=listFault_c n m (thl n q) (by omega)
   have hLK:=listFault_c n m (thl n K) (by omega)
   rw [lf_thl] at hLq hLK
   have cT:=those_c n m _ _ (fun a=>q a || q0 a) (by omega) (fun a ha=>qth1_c hb q q0 ha)
   have cK:=closure_ok h (fun a=>q a || q0 a) K hK
   have cQ:=quotient_ok h q qs qn
   have cR:=quotient_ok h K Ks Kn
   have hwl:=whl_len n (dco n (op m n) q (onp e))
   have hE:=G.dco_eqv qs G.onp_sub
   have hkn:(cst n (dco n (op m n) q (onp e))).length≤n:=cstp_len _ _ _
   obtain ⟨h1,s1,n1,φ,hI⟩:=third_iso h qs qn Ks Kn hqK rfl rfl rfl (K1:=kim n K (clq n (dco n (op m n) q (onp e)))) (fun c hc=>kim_iff)
   have cG:=gf_c ((cst n (dco n (op m n) q (onp e))).length:Nat) (qtb n (op m n) (dco n (op m n) q (onp e))) (by unfold qtb; rw [tbl_len]; have:=sq_le h1.2.1.big; omega)
   rw [gf_of h1] at cG
   have cT2:=those_c (cst n (dco n (op m n) q (onp e))).length (qtb n (op m n) (dco n (op m n) q (onp e))) _ _ (kim n K (clq n (dco n (op m n) q (onp e)))) (by have:=h1.2.1.big; omega) (fun a ha=>qth2_c hb hE K (show a < n by omega))
   have cS:=quotient_ok h1 _ s1 n1
   have hnn:=(isom_iff.1 hI).2.1
   obtain ⟨χ,_,cIso⟩:=iso_yes (qtb_GT h1 s1 n1) (qtb_GT h Ks Kn) (qtb_le (qtb_GT h1 s1 n1).2.1.big) (qtb_le (qtb_GT h Ks Kn).2.1.big) ⟨φ,hI⟩
   have cA:=subAll_big h (by omega)
   obtain ⟨LB,wB,cB⟩:∃ (L:List (List Int)) (w:Int × Int),FnC Tryd.prog 58 [gp ((cst n (dco n (op m n) q (onp e))).length:Nat) (qtb n (op m n) (dco n (op m n) q (onp e)))] (.tup [.list (ll L),fl w]):=by
    by_cases h25:(cst n (dco n (op m n) q (onp e))).length≤24
    ·obtain ⟨SL,hS⟩:=alls_ex h1.2.2 (by omega)
     exact ⟨_,_,subAll_ok h1 h25 hS (hS.len h25)⟩
    ·exact ⟨_,_,subAll_big h1 h25⟩
   refine hk_region fun K hK=>runs_eval tab_ok ?_
   simp only [ev0,evA,evB,evP,fl,gp,tab,simprocAttr,reduceCtorEq,reduceIte]
   refine fin_stop trivial (runs_call (cC) rfl rfl rfl (by simp only [dstOk,Nat.reduceLT]) (by repeat (first|exact trivial|constructor)) (runs_eval tab_ok ?_))
   simp only [ev0,evA,evB,evP,fl,gp,tab,simprocAttr,reduceCtorEq,reduceIte]
   refine fin_run ?_ (hK _ ?_)<;>clear hK<;>clear K
   ·(first|exact trivial|omega|(simp only [In64] at *; omega)|(simp [In64] at *; omega)|(simp_all; done)|skip)
   refine qa (qm (qm ?_))
   refine hk_region fun K hK=>runs_eval tab_ok ?_
   simp only [ev0,evA,evB,evP,fl,gp,tab,simprocAttr,reduceCtorEq,reduceIte]
   refine fin_stop trivial (runs_call (hS2) rfl rfl rfl (by simp only [dstOk,Nat.reduceLT]) (by repeat (first|exact trivial|constructor)) (runs_eval tab_ok ?_))
   simp only [ev0,evA,evB,evP,fl,gp,tab,simprocAttr,reduceCtorEq,reduceIte]
   refine fin_stop trivial (runs_call (hLq) rfl rfl rfl (by simp only [dstOk,Nat.reduceLT]) (by repeat (first|exact trivial|constructor)) (runs_eval tab_ok ?_))
   simp only [ev0,evA,evB,evP,fl,gp,tab,simprocAttr,reduceCtorEq,reduceIte]
   refine fin_run ?_ (hK _ ?_)<;>clear hK<;>clear K
   ·(first|exact trivial|omega|(simp only [In64] at *; omega)|(simp [In64] at *; omega)|(simp_all; done)|skip)
   refine qa ?_
   refine hk_cond rfl (fun hC2=>?_) (fun hC2=>?_)
   ·cases hC2
   ·(try simp only [nhs] at hC2)
    refine qh (qa (qm ?_))
    refine hk_freeze 1 rfl rfl ?_
    refine hk_freeze 2 rfl rfl ?_
    refine hk_pure 5 rfl (Nat.zero_le _) ?_
    refine hk_pure 7 rfl (Nat.zero_le _) ?_
    simp only [hset,List.drop_zero]
    refine hk_draw2 mixed fun K hK=>runs2_eval tab_ok ?_
    simp only [evD,ev0,evA,evB,evP,fl,gp,tab,simprocAttr,reduceCtorEq,reduceIte]
    refine fin2_stop trivial (runs2_call (cT) rfl rfl rfl rfl (by simp only [dstOk,Nat.reduceLT]) (by repeat (first|exact trivial|constructor)) (runs2_eval tab_ok ?_))
    simp only [evD,ev0,evA,evB,evP,fl,gp,tab,simprocAttr,reduceCtorEq,reduceIte]
    refine fin2_stop trivial (runs2_call (cK) rfl rfl rfl rfl (by simp only [dstOk,Nat.reduceLT]) (by repeat (first|exact trivial|constructor)) (runs2_eval tab_ok ?_))
    simp only [evD,ev0,evA,evB,evP,fl,gp,tab,simprocAttr,reduceCtorEq,reduceIte]
    refine fin2_run ?_ (hK _ _ (by first|kernel_rfl|rfl) ?_)<;>clear hK<;>clear K
    ·(first|exact trivial|omega|(simp only [In64] at *; omega)|(simp [In64] at *; omega)|(simp_all; done)|skip)
    refine qa (qm (qm ?_))
    refine hk_region fun K hK=>runs_eval tab_ok ?_
    simp only [ev0,evA,evB,evP,fl,gp,tab,simprocAttr,reduceCtorEq,reduceIte]
    refine fin_stop trivial (runs_call (hLK) rfl rfl rfl (by simp only [dstOk,Nat.reduceLT]) (by repeat (first|exact trivial|constructor)) (runs_eval tab_ok ?_))
    simp only [ev0,evA,evB,evP,fl,gp,tab,simprocAttr,reduceCtorEq,reduceIte]
    refine fin_run ?_ (hK _ ?_)<;>clear hK<;>clear K
    ·(first|exact trivial|omega|(simp only [In64] at *; omega)|(simp [In64] at *; omega)|(simp_all; done)|skip)
    refine qa ?_
    refine hk_cond rfl (fun hC3=>?_) (fun hC3=>?_)
    ·cases hC3
    ·(try simp only [nhs] at hC3)
     refine qh (qa (qm ?_))
     refine hk_region fun K hK=>runs_eval tab_ok ?_
     simp only [ev0,evA,evB,evP,fl,gp,tab,simprocAttr,reduceCtorEq,reduceIte]
     refine fin_stop trivial (runs_call (cQ) rfl rfl rfl (by simp only [dstOk,Nat.reduceLT]) (by repeat (first|exact trivial|constructor)) (runs_eval tab_ok ?_))
     simp only [ev0,evA,evB,evP,fl,gp,tab,simprocAttr,reduceCtorEq,reduceIte]
     refine fin_run ?_ (hK _ ?_)<;>clear hK<;>clear K
     ·(first|exact trivial|omega|(simp only [In64] at *; omega)|(simp [In64] at *; omega)|(simp_all; done)|skip)
     refine qa (qm ?_)
     refine hk_region fun K hK=>runs_eval tab_ok ?_
     simp only [ev0,evA,evB,evP,fl,gp,tab,simprocAttr,reduceCtorEq,reduceIte]
     refine fin_stop trivial (runs_call (cR) rfl rfl rfl (by simp only [dstOk,Nat.reduceLT]) (by repeat (first|exact trivial|constructor)) (runs_eval tab_ok ?_))
     simp only [ev0,evA,evB,evP,fl,gp,tab,simprocAttr,reduceCtorEq,reduceIte]
     refine fin_run ?_ (hK _ ?_)<;>clear hK<;>clear K
     ·(first|exact trivial|omega|(simp only [In64] at *; omega)|(simp [In64] at *; omega)|(simp_all; done)|skip)
     refine qa (qm (qm ?_))
     refine hk_region fun K hK=>runs_eval tab_ok ?_
     simp only [ev0,evA,evB,evP,fl,gp,tab,simprocAttr,reduceCtorEq,reduceIte,il_length,hwl]
     refine fin_stop trivial (runs_call (cG) rfl rfl rfl (by simp only [dstOk,Nat.reduceLT]) (by repeat (first|exact trivial|constructor)) (runs_eval tab_ok ?_))
     simp only [ev0,evA,evB,evP,fl,gp,tab,simprocAttr,reduceCtorEq,reduceIte,il_length,hwl]
     refine fin_run ?_ (hK _ ?_)<;>clear hK<;>clear K
     ·(first|exact trivial|omega|(simp only [In64] at *; omega)|(simp [In64] at *; omega)|(simp_all; done)|skip)
     refine qa ?_
     refine hk_cond rfl (fun hC4=>?_) (fun hC4=>?_)
     ·cases hC4
     ·(try simp only [nhs] at hC4)
      refine qh (qa (qm ?_))
      refine hk_freeze 4 rfl rfl ?_
      refine hk_freeze 7 rfl rfl ?_
      refine hk_pure 9 rfl (Nat.zero_le _) ?_
      refine hk_pure 12 rfl (Nat.zero_le _) ?_
      simp only [hset,List.drop_zero]
      refine hk_draw2 mixed fun K hK=>runs2_eval tab_ok ?_
      simp only [evD,ev0,evA,evB,evP,fl,gp,tab,simprocAttr,reduceCtorEq,reduceIte]
      refine fin2_stop trivial (runs2_call (cT2) rfl rfl rfl rfl (by simp only [dstOk,Nat.reduceLT]) (by repeat (first|exact trivial|constructor)) (runs2_eval tab_ok ?_))
      simp only [evD,ev0,evA,evB,evP,fl,gp,tab,simprocAttr,reduceCtorEq,reduceIte]
      refine fin2_stop trivial (runs2_call (cS) rfl rfl rfl rfl (by simp only [dstOk,Nat.reduceLT]) (by repeat (first|exact trivial|constructor)) (runs2_eval tab_ok ?_))
      simp only [evD,ev0,evA,evB,evP,fl,gp,tab,simprocAttr,reduceCtorEq,reduceIte]
      refine fin2_run ?_ (hK _ _ (by first|kernel_rfl|rfl) ?_)<;>clear hK<;>clear K
      ·(first|exact trivial|omega|(simp only [In64] at *; omega)|(simp [In64] at *; omega)|(simp_all; done)|skip)
      refine qa (qm (qm ?_))
      refine hk_region fun K hK=>runs_eval tab_ok ?_
      simp only [ev0,evA,evB,evP,fl,gp,tab,simprocAttr,reduceCtorEq,reduceIte]
      refine fin_run ?_ (hK _ ?_)<;>clear hK<;>clear K
      ·(first|exact trivial|omega|(simp only [In64] at *; omega)|(simp [In64] at *; omega)|(simp_all; done)|skip)
      refine qa ?_
      refine hk_cond rfl (fun hC5=>?_) (fun hC5=>?_)
      ·(try simp only [nhs] at hC5)
       exfalso; omega
      ·(try simp only [nhs] at hC5)
       refine qh (qa (qm ?_))
       refine hk_region fun K hK=>runs_eval tab_ok ?_
       simp only [ev0,evA,evB,evP,fl,gp,tab,simprocAttr,reduceCtorEq,reduceIte]
       refine fin_stop trivial (runs_call (cIso) rfl rfl rfl (by simp only [dstOk,Nat.reduceLT]) (by repeat (first|exact trivial|constructor)) (runs_eval tab_ok ?_))
       simp only [ev0,evA,evB,evP,fl,gp,tab,simprocAttr,reduceCtorEq,reduceIte]
       refine fin_run ?_ (hK _ ?_)<;>clear hK<;>clear K
       ·(first|exact trivial|omega|(simp only [In64] at *; omega)|(simp [In64] at *; omega)|(simp_all; done)|skip)
       refine qa (qm (qm ?_))
       refine hk_region fun K hK=>runs_eval tab_ok ?_
       simp only [ev0,evA,evB,evP,fl,gp,tab,simprocAttr,reduceCtorEq,reduceIte]
       refine fin_run ?_ (hK _ ?_)<;>clear hK<;>clear K
       ·(first|exact trivial|omega|(simp only [In64] at *; omega)|(simp [In64] at *; omega)|(simp_all; done)|skip)
       refine qa ?_
       refine hk_cond rfl (fun hC6=>?_) (fun hC6=>?_)
       ·cases hC6
       ·(try simp only [nhs] at hC6)
        refine qh (qa (qm ?_))
        refine hk_region fun K hK=>runs_eval tab_ok ?_
        simp only [ev0,evA,evB,evP,fl,gp,tab,simprocAttr,reduceCtorEq,reduceIte]
        refine fin_stop trivial (runs_call (cA) rfl rfl rfl (by simp only [dstOk,Nat.reduceLT]) (by repeat (first|exact trivial|constructor)) (runs_eval tab_ok ?_))
        simp only [ev0,evA,evB,evP,fl,gp,tab,simprocAttr,reduceCtorEq,reduceIte]
        refine fin_run ?_ (hK _ ?_)<;>clear hK<;>clear K
        ·(first|exact trivial|omega|(simp only [In64] at *; omega)|(simp [In64] at *; omega)|(simp_all; done)|skip)
        refine qa (qm ?_)
        refine hk_region fun K hK=>runs_eval tab_ok ?_
        simp only [ev0,evA,evB,evP,fl,gp,tab,simprocAttr,reduceCtorEq,reduceIte]
        refine fin_stop trivial (runs_call (cB) rfl rfl rfl (by simp only [dstOk,Nat.reduceLT]) (by repeat (first|exact trivial|constructor)) (runs_eval tab_ok ?_))
        simp only [ev0,evA,evB,evP,fl,gp,tab,simprocAttr,reduceCtorEq,reduceIte]
        refine fin_run ?_ (hK _ ?_)<;>clear hK<;>clear K
        ·(first|exact trivial|omega|(simp only [In64] at *; omega)|(simp [In64] at *; omega)|(simp_all; done)|skip)
        refine qa (qm (qm ?_))
        refine hk_region fun K hK=>runs_eval tab_ok ?_
        simp only [ev0,evA,evB,evP,fl,gp,tab,simprocAttr,reduceCtorEq,reduceIte]
        refine fin_run ?_ (hK _ ?_)<;>clear hK<;>clear K
        ·(first|exact trivial|omega|(simp only [In64] at *; omega)|(simp [In64] at *; omega)|(simp_all; done)|skip)
        refine qa ?_
        refine hk_cond rfl (fun hC7=>?_) (fun hC7=>?_)
        ·refine qm ?_
         refine hk_region fun K hK=>runs_eval tab_ok ?_
         simp only [ev0,evA,evB,evP,fl,gp,tab,simprocAttr,reduceCtorEq,reduceIte,decide_eq_true (show ((n:Nat):Int) > 24 by omega)]
         refine fin_run ?_ (hK _ ?_)<;>clear hK<;>clear K
         ·(first|exact trivial|omega|(simp only [In64] at *; omega)|(simp [In64] at *; omega)|(simp_all; done)|skip)
         refine qa (qk (qb ?_))
         simp only [Tryd.results9,enA,ev0,evA,evB,evP,fl,gp,tab,simprocAttr,reduceCtorEq,reduceIte]
         all_goals (first|rfl|(simp; done)|trace_state)
        ·cases hC7
  ·obtain ⟨n,e,h,rfl,hla,hsa⟩:=sf_ok hf
   obtain ⟨hlb,hsb⟩:=sf_two h hf2
   rw [hsb] at hS2
   have G:=h.2.2
   have hb:=h.2.1.big
   generalize tst l=p0 at hla
   generalize tst l2=q0 at hlb
   subst hla
   subst hlb
   obtain ⟨q,hq⟩:=gen_ex n (op m n) e (cup n (op m n) e p0)
   have qs:=gen_sub G hq
   have qn:=G.gen_nml (G.cup_nml p0) hq
   obtain ⟨K,hK⟩:=gen_ex n (op m n) e (cup n (op m n) e fun a=>q a || q0 a)
   have Ks:=gen_sub G hK
   have Kn:=G.gen_nml (G.cup_nml fun a=>q a || q0 a) hK
   have hqK:∀ a,a < n→q a=true→K a=true:=fun a ha h1=>(hK a ha).2 (Gen.mem G ha (G.cup_in ha (by simp [h1])))
   have cC:=closure_ok h p0 q hq
   have hlq:=thl_le n q
   have hlK:=thl_le n K
   have hLq:=listFault_c n m (thl n q) (by omega)
   have hLK:=listFault_c n m (thl n K) (by omega)
   rw [lf_thl] at hLq hLK
   have cT:=those_c n m _ _ (fun a=>q a || q0 a) (by omega) (fun a ha=>qth1_c hb q q0 ha)
   have cK:=closure_ok h (fun a=>q a || q0 a) K hK
   have cQ:=quotient_ok h q qs qn
   have cR:=quotient_ok h K Ks Kn
   have hwl:=whl_len n (dco n (op m n) q (onp e))
   have hE:=G.dco_eqv qs G.onp_sub
   have hkn:(cst n (dco n (op m n) q (onp e))).length≤n:=cstp_len _ _ _
   obtain ⟨h1,s1,n1,φ,hI⟩:=third_iso h qs qn Ks Kn hqK rfl rfl rfl (K1:=kim n K (clq n (dco n (op m n) q (onp e)))) (fun c hc=>kim_iff)
   have cG:=gf_c ((cst n (dco n (op m n) q (onp e))).length:Nat) (qtb n (op m n) (dco n (op m n) q (onp e))) (by unfold qtb; rw [tbl_len]; have:=sq_le h1.2.1.big; omega)
   rw [gf_of h1] at cG
   have cT2:=those_c (cst n (dco n (op m n) q (onp e))).length (qtb n (op m n) (dco n (op m n) q (onp e))) _ _ (kim n K (clq n (dco n (op m n) q (onp e)))) (by have:=h1.2.1.big; omega) (fun a ha=>qth2_c hb hE K (show a < n by omega))
   have cS:=quotient_ok h1 _ s1 n1
   have hnn:=(isom_iff.1 hI).2.1
   obtain ⟨χ,_,cIso⟩:=iso_yes (qtb_GT h1 s1 n1) (qtb_GT h Ks Kn) (qtb_le (qtb_GT h1 s1 n1).2.1.big) (qtb_le (qtb_GT h Ks Kn).2.1.big) ⟨φ,hI⟩
   obtain ⟨SL,hS⟩:=alls_ex G hb
   have hSl:=hS.len (by omega)
   have hsl:=sll_len SL
   obtain ⟨SL1,hS1⟩:=alls_ex h1.2.2 (by omega)
   have hSl1:=hS1.len (by omega)
   have hsl1:=sll_len SL1
   have cA:=subAll_ok h (by omega) hS hSl
   have cB:=subAll_ok h1 (by omega) hS1 hSl1
   have hAN:=above_num h qs qn rfl rfl rfl hS hS1
   refine hk_region fun K hK=>runs_eval tab_ok ?_
   simp only [ev0,evA,evB,evP,fl,gp,tab,simprocAttr,reduceCtorEq,reduceIte]
   refine fin_stop trivial (runs_call (cC) rfl rfl rfl (by simp only [dstOk,Nat.reduceLT]) (by repeat (first|exact trivial|constructor)) (runs_eval tab_ok ?_))
   simp only [ev0,evA,evB,evP,fl,gp,tab,simprocAttr,reduceCtorEq,reduceIte]
   refine fin_run ?_ (hK _ ?_)<;>clear hK<;>clear K
   ·(first|exact trivial|omega|(simp only [In64] at *; omega)|(simp [In64] at *; omega)|(simp_all; done)|skip)
   refine qa (qm (qm ?_))
   refine hk_region fun K hK=>runs_eval tab_ok ?_
   simp only [ev0,evA,evB,evP,fl,gp,tab,simprocAttr,reduceCtorEq,reduceIte]
   refine fin_stop trivial (runs_call (hS2) rfl rfl rfl (by simp only [dstOk,Nat.reduceLT]) (by repeat (first|exact trivial|constructor)) (runs_eval tab_ok ?_))
   simp only [ev0,evA,evB,evP,fl,gp,tab,simprocAttr,reduceCtorEq,reduceIte]
   refine fin_stop trivial (runs_call (hLq) rfl rfl rfl (by simp only [dstOk,Nat.reduceLT]) (by repeat (first|exact trivial|constructor)) (runs_eval tab_ok ?_))
   simp only [ev0,evA,evB,evP,fl,gp,tab,simprocAttr,reduceCtorEq,reduceIte]
   refine fin_run ?_ (hK _ ?_)<;>clear hK<;>clear K
   ·(first|exact trivial|omega|(simp only [In64] at *; omega)|(simp [In64] at *; omega)|(simp_all; done)|skip)
   refine qa ?_
   refine hk_cond rfl (fun hC2=>?_) (fun hC2=>?_)
   ·cases hC2
   ·(try simp only [nhs] at hC2)
    refine qh (qa (qm ?_))
    refine hk_freeze 1 rfl rfl ?_
    refine hk_freeze 2 rfl rfl ?_
    refine hk_pure 5 rfl (Nat.zero_le _) ?_
    refine hk_pure 7 rfl (Nat.zero_le _) ?_
    simp only [hset,List.drop_zero]
    refine hk_draw2 mixed fun K hK=>runs2_eval tab_ok ?_
    simp only [evD,ev0,evA,evB,evP,fl,gp,tab,simprocAttr,reduceCtorEq,reduceIte]
    refine fin2_stop trivial (runs2_call (cT) rfl rfl rfl rfl (by simp only [dstOk,Nat.reduceLT]) (by repeat (first|exact trivial|constructor)) (runs2_eval tab_ok ?_))
    simp only [evD,ev0,evA,evB,evP,fl,gp,tab,simprocAttr,reduceCtorEq,reduceIte]
    refine fin2_stop trivial (runs2_call (cK) rfl rfl rfl rfl (by simp only [dstOk,Nat.reduceLT]) (by repeat (first|exact trivial|constructor)) (runs2_eval tab_ok ?_))
    simp only [evD,ev0,evA,evB,evP,fl,gp,tab,simprocAttr,reduceCtorEq,reduceIte]
    refine fin2_run ?_ (hK _ _ (by first|kernel_rfl|rfl) ?_)<;>clear hK<;>clear K
    ·(first|exact trivial|omega|(simp only [In64] at *; omega)|(simp [In64] at *; omega)|(simp_all; done)|skip)
    refine qa (qm (qm ?_))
    refine hk_region fun K hK=>runs_eval tab_ok ?_
    simp only [ev0,evA,evB,evP,fl,gp,tab,simprocAttr,reduceCtorEq,reduceIte]
    refine fin_stop trivial (runs_call (hLK) rfl rfl rfl (by simp only [dstOk,Nat.reduceLT]) (by repeat (first|exact trivial|constructor)) (runs_eval tab_ok ?_))
    simp only [ev0,evA,evB,evP,fl,gp,tab,simprocAttr,reduceCtorEq,reduceIte]
    refine fin_run ?_ (hK _ ?_)<;>clear hK<;>clear K
    ·(first|exact trivial|omega|(simp only [In64] at *; omega)|(simp [In64] at *; omega)|(simp_all; done)|skip)
    refine qa ?_
    refine hk_cond rfl (fun hC3=>?_) (fun hC3=>?_)
    ·cases hC3
    ·(try simp only [nhs] at hC3)
     refine qh (qa (qm ?_))
     refine hk_region fun K hK=>runs_eval tab_ok ?_
     simp only [ev0,evA,evB,evP,fl,gp,tab,simprocAttr,reduceCtorEq,reduceIte]
     refine fin_stop trivial (runs_call (cQ) rfl rfl rfl (by simp only [dstOk,Nat.reduceLT]) (by repeat (first|exact trivial|constructor)) (runs_eval tab_ok ?_))
     simp only [ev0,evA,evB,evP,fl,gp,tab,simprocAttr,reduceCtorEq,reduceIte]
     refine fin_run ?_ (hK _ ?_)<;>clear hK<;>clear K
     ·(first|exact trivial|omega|(simp only [In64] at *; omega)|(simp [In64] at *; omega)|(simp_all; done)|skip)
     refine qa (qm ?_)
     refine hk_region fun K hK=>runs_eval tab_ok ?_
     simp only [ev0,evA,evB,evP,fl,gp,tab,simprocAttr,reduceCtorEq,reduceIte]
     refine fin_stop trivial (runs_call (cR) rfl rfl rfl (by simp only [dstOk,Nat.reduceLT]) (by repeat (first|exact trivial|constructor)) (runs_eval tab_ok ?_))
     simp only [ev0,evA,evB,evP,fl,gp,tab,simprocAttr,reduceCtorEq,reduceIte]
     refine fin_run ?_ (hK _ ?_)<;>clear hK<;>clear K
     ·(first|exact trivial|omega|(simp only [In64] at *; omega)|(simp [In64] at *; omega)|(simp_all; done)|skip)
     refine qa (qm (qm ?_))
     refine hk_region fun K hK=>runs_eval tab_ok ?_
     simp only [ev0,evA,evB,evP,fl,gp,tab,simprocAttr,reduceCtorEq,reduceIte,il_length,hwl]
     refine fin_stop trivial (runs_call (cG) rfl rfl rfl (by simp only [dstOk,Nat.reduceLT]) (by repeat (first|exact trivial|constructor)) (runs_eval tab_ok ?_))
     simp only [ev0,evA,evB,evP,fl,gp,tab,simprocAttr,reduceCtorEq,reduceIte,il_length,hwl]
     refine fin_run ?_ (hK _ ?_)<;>clear hK<;>clear K
     ·(first|exact trivial|omega|(simp only [In64] at *; omega)|(simp [In64] at *; omega)|(simp_all; done)|skip)
     refine qa ?_
     refine hk_cond rfl (fun hC4=>?_) (fun hC4=>?_)
     ·cases hC4
     ·(try simp only [nhs] at hC4)
      refine qh (qa (qm ?_))
      refine hk_freeze 4 rfl rfl ?_
      refine hk_freeze 7 rfl rfl ?_
      refine hk_pure 9 rfl (Nat.zero_le _) ?_
      refine hk_pure 12 rfl (Nat.zero_le _) ?_
      simp only [hset,List.drop_zero]
      refine hk_draw2 mixed fun K hK=>runs2_eval tab_ok ?_
      simp only [evD,ev0,evA,evB,evP,fl,gp,tab,simprocAttr,reduceCtorEq,reduceIte]
      refine fin2_stop trivial (runs2_call (cT2) rfl rfl rfl rfl (by simp only [dstOk,Nat.reduceLT]) (by repeat (first|exact trivial|constructor)) (runs2_eval tab_ok ?_))
      simp only [evD,ev0,evA,evB,evP,fl,gp,tab,simprocAttr,reduceCtorEq,reduceIte]
      refine fin2_stop trivial (runs2_call (cS) rfl rfl rfl rfl (by simp only [dstOk,Nat.reduceLT]) (by repeat (first|exact trivial|constructor)) (runs2_eval tab_ok ?_))
      simp only [evD,ev0,evA,evB,evP,fl,gp,tab,simprocAttr,reduceCtorEq,reduceIte]
      refine fin2_run ?_ (hK _ _ (by first|kernel_rfl|rfl) ?_)<;>clear hK<;>clear K
      ·(first|exact trivial|omega|(simp only [In64] at *; omega)|(simp [In64] at *; omega)|(simp_all; done)|skip)
      refine qa (qm (qm ?_))
      refine hk_region fun K hK=>runs_eval tab_ok ?_
      simp only [ev0,evA,evB,evP,fl,gp,tab,simprocAttr,reduceCtorEq,reduceIte]
      refine fin_run ?_ (hK _ ?_)<;>clear hK<;>clear K
      ·(first|exact trivial|omega|(simp only [In64] at *; omega)|(simp [In64] at *; omega)|(simp_all; done)|skip)
      refine qa ?_
      refine hk_cond rfl (fun hC5=>?_) (fun hC5=>?_)
      ·(try simp only [nhs] at hC5)
       exfalso; omega
      ·(try simp only [nhs] at hC5)
       refine qh (qa (qm ?_))
       refine hk_region fun K hK=>runs_eval tab_ok ?_
       simp only [ev0,evA,evB,evP,fl,gp,tab,simprocAttr,reduceCtorEq,reduceIte]
       refine fin_stop trivial (runs_call (cIso) rfl rfl rfl (by simp only [dstOk,Nat.reduceLT]) (by repeat (first|exact trivial|constructor)) (runs_eval tab_ok ?_))
       simp only [ev0,evA,evB,evP,fl,gp,tab,simprocAttr,reduceCtorEq,reduceIte]
       refine fin_run ?_ (hK _ ?_)<;>clear hK<;>clear K
       ·(first|exact trivial|omega|(simp only [In64] at *; omega)|(simp [In64] at *; omega)|(simp_all; done)|skip)
       refine qa (qm (qm ?_))
       refine hk_region fun K hK=>runs_eval tab_ok ?_
       simp only [ev0,evA,evB,evP,fl,gp,tab,simprocAttr,reduceCtorEq,reduceIte]
       refine fin_run ?_ (hK _ ?_)<;>clear hK<;>clear K
       ·(first|exact trivial|omega|(simp only [In64] at *; omega)|(simp [In64] at *; omega)|(simp_all; done)|skip)
       refine qa ?_
       refine hk_cond rfl (fun hC6=>?_) (fun hC6=>?_)
       ·cases hC6
       ·(try simp only [nhs] at hC6)
        refine qh (qa (qm ?_))
        refine hk_region fun K hK=>runs_eval tab_ok ?_
        simp only [ev0,evA,evB,evP,fl,gp,tab,simprocAttr,reduceCtorEq,reduceIte]
        refine fin_stop trivial (runs_call (cA) rfl rfl rfl (by simp only [dstOk,Nat.reduceLT]) (by repeat (first|exact trivial|constructor)) (runs_eval tab_ok ?_))
        simp only [ev0,evA,evB,evP,fl,gp,tab,simprocAttr,reduceCtorEq,reduceIte]
        refine fin_run ?_ (hK _ ?_)<;>clear hK<;>clear K
        ·(first|exact trivial|omega|(simp only [In64] at *; omega)|(simp [In64] at *; omega)|(simp_all; done)|skip)
        refine qa (qm ?_)
        refine hk_region fun K hK=>runs_eval tab_ok ?_
        simp only [ev0,evA,evB,evP,fl,gp,tab,simprocAttr,reduceCtorEq,reduceIte]
        refine fin_stop trivial (runs_call (cB) rfl rfl rfl (by simp only [dstOk,Nat.reduceLT]) (by repeat (first|exact trivial|constructor)) (runs_eval tab_ok ?_))
        simp only [ev0,evA,evB,evP,fl,gp,tab,simprocAttr,reduceCtorEq,reduceIte]
        refine fin_run ?_ (hK _ ?_)<;>clear hK<;>clear K
        ·(first|exact trivial|omega|(simp only [In64] at *; omega)|(simp [In64] at *; omega)|(simp_all; done)|skip)
        refine qa (qm (qm ?_))
        refine hk_region fun K hK=>runs_eval tab_ok ?_
        simp only [ev0,evA,evB,evP,fl,gp,tab,simprocAttr,reduceCtorEq,reduceIte]
        refine fin_run ?_ (hK _ ?_)<;>clear hK<;>clear K
        ·(first|exact trivial|omega|(simp only [In64] at *; omega)|(simp [In64] at *; omega)|(simp_all; done)|skip)
        refine qa ?_
        refine hk_cond rfl (fun hC7=>?_) (fun hC7=>?_)
        ·cases hC7
        ·(try simp only [nhs] at hC7)
         refine qh (qa (qm ?_))
         refine hk_region fun K hK=>runs_eval tab_ok ?_
         simp only [ev0,evA,evB,evP,fl,gp,tab,simprocAttr,reduceCtorEq,reduceIte]
         refine fin_run trivial (hK _ ?_)<;>clear hK<;>clear K
         refine qa (qm (qm ?_))
         refine hk_region fun K hK=>runs_eval tab_ok ?_
         simp only [ev0,evA,evB,evP,fl,gp,tab,simprocAttr,reduceCtorEq,reduceIte]
         refine fin_run trivial (hK _ ?_)<;>clear hK<;>clear K
         refine qa (ql ?_)
         refine hk_loop (ι:=Nat) (fun i=>⟨167,[(7,.p (.ptr [.list (il (thl n q))])),(18,.p (.list (ll (sll SL)))),(19,.p (.list (ll (sll SL1)))),(20,.p (.int .i64 (((SL.take i).filter fun z=>decide (∀ a,a < n→q a=true→z.testBit a=true)).length:Nat))),(21,.p (.int .i64 i))],[]⟩) (fun i=>i≤SL.length) (fun i=>SL.length - i) 0 (Nat.zero_le _) [] (by simp only [leq,leA,ev0,evA,evB,evP,fl,gp,tab,simprocAttr,reduceCtorEq,reduceIte]<;>first|trivial|(simp; done)|trace_state) fun i hi=>?_
         refine qm (qm ?_)
         refine hk_region fun K hK=>runs_eval tab_ok ?_
         simp only [ev0,evA,evB,evP,fl,gp,tab,simprocAttr,reduceCtorEq,reduceIte,ll_length,hsl]
         refine fin_run trivial (hK _ ?_)<;>clear hK<;>clear K
         refine qa ?_
         refine hk_cond rfl (fun hC8=>?_) (fun hC8=>?_)
         ·(try simp only [nhs] at hC8)
          have hil' : i < SL.length:=by omega
          have hgi:=ll_get (ls:=sll SL) (i:=i) (by omega)
          have hct:=cnt_take (p:=fun z=>decide (∀ a,a < n→q a=true→z.testBit a=true)) hil'
          have hcl:((SL.take i).filter fun z=>decide (∀ a,a < n→q a=true→z.testBit a=true)).length≤i:=by
           have h1:=List.length_filter_le (fun z=>decide (∀ a,a < n→q a=true→Nat.testBit z a=true)) (SL.take i)
           rw [List.length_take] at h1
           omega
          obtain ⟨p,hp,hpe⟩:=hS.subs (SL.getD i 0) (by simp [List.getD,List.getElem?_eq_getElem hil'])
          have hrow:(sll SL).getD i []=thl n p:=by
           rw [← stl_bo (by omega) p,← hpe]
           simp [sll,List.getD,List.getElem?_eq_getElem hil']
          rw [hrow] at hgi
          rw [hpe] at hct
          have hbt:(∀ a,a < n→q a=true→(bo n p).testBit a=true)↔∀ a,a < n→q a=true→p a=true:=by
           constructor
           ·intro h a ha hqa
            have:=h a ha hqa
            rw [bo_bit] at this
            simpa [ha] using this
           ·intro h a ha hqa
            rw [bo_bit]
            simpa [ha] using h a ha hqa
          refine qh (qa (qm (ql (qm ?_))))
          refine hk_draw mixed (by kernel_rfl) fun K hK=>runs_eval tab_ok ?_
          simp only [ev0,evA,evB,evP,fl,gp,tab,simprocAttr,reduceCtorEq,reduceIte,hgi,ll_length,hsl]
          refine fin_stop ?_ (runs_call (parted_r n q p (by omega) (decide (∀ a,a < n→q a=true→p a=true)) (by rw [decide_eq_true_eq])) rfl rfl rfl (by simp only [dstOk,Nat.reduceLT]) (by repeat (first|exact trivial|constructor)) (runs_eval tab_ok ?_))
          ·exact ⟨by omega,by omega⟩
          simp only [ev0,evA,evB,evP,fl,gp,tab,simprocAttr,reduceCtorEq,reduceIte,hgi,ll_length,hsl]
          refine fin_run ?_ (hK _ ?_)<;>clear hK<;>clear K
          ·(first|exact trivial|omega|(simp only [In64] at *; omega)|(simp [In64] at *; omega)|(simp_all; done)|skip)
          refine qa ?_
          refine hk_cond rfl (fun hC9=>?_) (fun hC9=>?_)
          ·(try simp only [nhs] at hC9)
           have hy:∀ a,a < n→q a=true→p a=true:=by simpa using hC9
           rw [if_pos (by simpa using hbt.2 hy)] at hct
           refine hk_region fun K hK=>runs_eval tab_ok ?_
           simp only [ev0,evA,evB,evP,fl,gp,tab,simprocAttr,reduceCtorEq,reduceIte]
           refine fin_run ?_ (hK _ ?_)<;>clear hK<;>clear K
           ·(first|exact trivial|omega|(simp only [In64] at *; omega)|(simp [In64] at *; omega)|(simp_all; done)|skip)
           refine qd (qa ?_)
           refine hk_region fun K hK=>runs_eval tab_ok ?_
           simp only [ev0,evA,evB,evP,fl,gp,tab,simprocAttr,reduceCtorEq,reduceIte]
           refine fin_run ?_ (hK _ ?_)<;>clear hK<;>clear K
           ·(first|exact trivial|omega|(simp only [In64] at *; omega)|(simp [In64] at *; omega)|(simp_all; done)|skip)
           refine qa ?_
           refine ⟨i + 1,[],by omega,by omega,?_⟩
           rw [hct]
           simp only [leq,leA,ev0,evA,evB,evP,fl,gp,tab,simprocAttr,reduceCtorEq,reduceIte]<;>first|trivial|omega|trace_state
          ·(try simp only [nhs] at hC9)
           have hy:¬ ∀ a,a < n→q a=true→p a=true:=fun hy=>hC9 (by simpa using hy)
           rw [if_neg (by simpa using fun h=>hy (hbt.1 h))] at hct
           refine qh (qd (qa ?_))
           refine hk_region fun K hK=>runs_eval tab_ok ?_
           simp only [ev0,evA,evB,evP,fl,gp,tab,simprocAttr,reduceCtorEq,reduceIte]
           refine fin_run ?_ (hK _ ?_)<;>clear hK<;>clear K
           ·(first|exact trivial|omega|(simp only [In64] at *; omega)|(simp [In64] at *; omega)|(simp_all; done)|skip)
           refine qa ?_
           refine ⟨i + 1,[],by omega,by omega,?_⟩
           rw [hct]
           simp only [leq,leA,ev0,evA,evB,evP,fl,gp,tab,simprocAttr,reduceCtorEq,reduceIte]<;>first|trivial|omega|trace_state
         ·(try simp only [nhs] at hC8)
          have hie:i=SL.length:=by omega
          rw [hie,List.take_length,hAN]
          refine qj (qc (qc (qf (qa (qm ?_)))))
          refine hk_region fun K hK=>runs_eval tab_ok ?_
          simp only [ev0,evA,evB,evP,fl,gp,tab,simprocAttr,reduceCtorEq,reduceIte,ll_length,hsl1]
          refine fin_run trivial (hK _ ?_)<;>clear hK<;>clear K
          refine qa (qk ?_)
          simp only [Tryd.results9,enA,ev0,evA,evB,evP,fl,gp,tab,simprocAttr,reduceCtorEq,reduceIte]
          all_goals (first|rfl|(simp; done)|trace_state)
end Go.Proofs.YtboadfahlflmhaaDoor

/-
  What the listed package-level variable gives a walk: a table of numbers. Conditions: none; written by a program of this repo.
-/
set_option linter.all false
namespace Go.Proofs.YtboadfahlflmhaaDoor
open Go.Pv Go.ChangeShapes Go.WideShapes Go.ChangeAt Go.WideElems Go.RowKit

theorem own : ownKnob Tryd.prog.godebug = none := by kernel_rfl
theorem laidOut : laidOutB Tryd.prog = true := by kernel_rfl
theorem gG : Tryd.prog.globalNamed "math/bits.deBruijn64tab" = some 0 := by kernel_rfl
theorem tG : (Tryd.prog.globals[0]?).map (·.type) = some 135 := by kernel_rfl
theorem cG : Tryd.prog.cellsOf 5 = 1 := by kernel_rfl
theorem cT : Tryd.prog.cellsOf 135 = 64 := by kernel_rfl

/-- The door's own heap meets the condition. -/
theorem door_met (os : Os) (args : Array Value) : laidMetH Tryd.prog [("math/bits.deBruijn64tab", Rows.laid_math_bits_deBruijn64tab)] ((World.doorLaid Tryd.prog 4000 os).forCall (fun _ _ => 0) ⟨#[], args, []⟩).memory :=
  laidMetH_of_parts3 (fuel := 8) (laidMet_of_run' 8 (by kernel_rfl) (by kernel_rfl)) (by kernel_rfl) (by kernel_rfl)

def convD : DataW Unit → PV
  | .lit (.int k n) => .int k n
  | _ => .nil
def datum : List (DataW Unit) → List PV := List.map convD
theorem glob_datum : (match (Rows.laid_math_bits_deBruijn64tab : DataW Unit) with | .agg l => datum l | _ => []) = glob0 := rfl

theorem laid_ok {W : World} (h : laidMetH Tryd.prog [("math/bits.deBruijn64tab", Rows.laid_math_bits_deBruijn64tab)] W) : LaidW (fun b => b < W.heap.size) W := by
  refine ⟨fun b h => h, fun g l hg => ?_⟩
  have hg2 : g = 0 ∧ l = glob0 := by
    unfold gv at hg
    by_cases e : g = 0
    · subst e; exact ⟨rfl, (Option.some.inj hg).symm⟩
    · have : (g == 0) = false := by simpa using e
      rw [this] at hg; simp at hg
  obtain ⟨rfl, rfl⟩ := hg2
  rw [MakeChecks.laidMetH_plain _ _ _ (by kernel_rfl)] at h
  obtain ⟨ps, ⟨g0, t0, cs0, f0, p0, q0, hg0, ht0, hv0, hd0, _, _⟩, _, _⟩ := h
  obtain rfl := Option.some.inj (gG.symm.trans hg0)
  obtain rfl := Option.some.inj (tG.symm.trans ht0)
  obtain ⟨xs, m1, rfl, hx1, hlen, hn3, hel⟩ := DataW.trod_array Tryd.underlying135 hd0
  have hd1 : Rows.laid_math_bits_deBruijn64tab = DataW.agg (xs.map (·.1)) := congrArg Prod.fst hx1
  have hgl : glob0 = datum (xs.map (·.1)) := by
    rw [← glob_datum, hd1]
  have key : ∀ c (h : c < glob0.length), W.cell? ⟨0, 0 + c, none⟩ = some ((cs0[c]?).getD undef) ∧ Reads (fun b => b < W.heap.size) W glob0[c] ((cs0[c]?).getD undef) := by
    intro c hc
    have hc2 : c < 64 := Nat.lt_of_lt_of_le hc (by decide)
    have hcx : c < xs.length := by omega
    have h1 := hel c hc2
    rw [List.getElem?_eq_getElem hcx] at h1
    obtain ⟨k, e1, e2, _⟩ := DataW.trod_int Tryd.underlying5 h1
    rw [cG] at e1
    have e3 : cs0.toList[c]? = some (.int .u8 k) := by
      have := congrArg (fun l => l[0]?) e1
      simpa [List.getElem?_take, List.getElem?_drop] using this
    have e4 : cs0[c]? = some (.int .u8 k) := by simpa using e3
    have e5 : glob0[c] = .int .u8 k := by
      have : glob0[c]? = (datum (xs.map (·.1)))[c]? := by rw [hgl]
      rw [List.getElem?_eq_getElem hc] at this
      simp only [datum, List.getElem?_map, List.getElem?_eq_getElem hcx, Option.map_some, Option.some.injEq] at this
      exact this.trans (by rw [e2]; rfl)
    refine ⟨?_, ?_⟩
    · rw [e4, Nat.zero_add, World.var?_cell gG hv0 c, e4]; rfl
    · rw [e4]
      exact e5 ▸ (Reads.int .u8 k)
  refine .ptr _ _ _ (fun c => (cs0[c]?).getD undef) ?_ (fun c hc => (key c hc).1) fun c hc => (key c hc).2
  have := (key 0 (by decide)).1
  unfold World.cell? at this
  rcases Nat.lt_or_ge 0 W.heap.size with h | h
  · exact h
  · exfalso
    rw [Array.getElem?_eq_none h] at this
    simp at this
end Go.Proofs.YtboadfahlflmhaaDoor
