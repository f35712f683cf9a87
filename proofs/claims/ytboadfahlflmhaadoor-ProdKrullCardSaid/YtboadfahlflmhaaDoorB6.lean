/-
  Texts of this proof, one behind the other: what each says stands at its head. Conditions: none.
-/
import Derived.Test.YtboadfahlflmhaaDoorB5
import Derived.Test.YtboadfahlflmhaaDoorB4
import Derived.Test.YtboadfahlflmhaaDoorB3
import Derived.Shelf.Sort.Plain
import Derived.Shelf.Slices.In.SortNone
import Derived.Test.YtboadfahlflmhaaDoorProg
import Derived.Shelf.Lays

/-
  Loops over a function: a round out of its body's walk; the statement. Conditions: none; a library text.
-/
set_option linter.all false
namespace Go.Pv
open Go.RowKit

section
variable {P:Program} {T:TypeId→Option TI} {C:Ctx} {m:Map} {s:St} {tmps:Array Value} {w:World}

theorem Rel.reslot {n n' : Nat} {sl sl' : List (Nat × AV)} {H:Heap} {tmps' : Array Value} (R:Rel C m ⟨n,sl,H⟩ tmps w) (h1:tmps'.size=n') (h2:∀ t,AVal (Reads (OK C m H w) w) m H (lk sl' t) (tmps'.getD t undef)):Rel C m ⟨n',sl',H⟩ tmps' w:=
 ⟨R.laid,R.below,R.base,h1,R.inj,R.blk,R.fro,h2,R.mp⟩

theorem hset_app {A B:Heap} {κ:Nat} {b:Blk} (h:κ < A.length):hset (A++B) κ b=hset A κ b++B:=by
 refine List.ext_getElem? fun j=>?_
 have h2:κ < (A++B).length:=by simp; omega
 by_cases hj:j < A.length
 ·have e1:(hset A κ b++B)[j]? = (hset A κ b)[j]?:=List.getElem?_append_left (by rw [hset_length]; exact hj)
  have e2:(A++B)[j]? = A[j]?:=List.getElem?_append_left hj
  rw [e1,hset_get,hset_get,e2]
  by_cases e:j=κ
  ·rw [if_pos ⟨e,h2⟩,if_pos ⟨e,h⟩]
  ·rw [if_neg (by simp [e]),if_neg (by simp [e])]
 ·have e1:(hset A κ b++B)[j]? = B[j - A.length]?:=by rw [List.getElem?_append_right (by rw [hset_length]; omega),hset_length]
  have e2:(A++B)[j]? = B[j - A.length]?:=List.getElem?_append_right (by omega)
  rw [e1,hset_get,e2,if_neg (by omega)]

/-- What is known of a frame, slot by slot. -/
def envA (n:Nat) (sl:List (Nat × AV)):List AV:=(List.range n).map (lk sl)
theorem envA_len (n:Nat) (sl:List (Nat × AV)):(envA n sl).length=n:=by simp [envA]
theorem envA_get {n:Nat} {sl:List (Nat × AV)} {c:Nat} (h:c < (envA n sl).length):(envA n sl)[c]=lk sl c:=by simp [envA]
def keysLt (n:Nat) (sl:List (Nat × AV)):Bool:=sl.all fun e=>decide (e.1 < n)
theorem keysLt_lk:∀ {n:Nat} {sl:List (Nat × AV)},keysLt n sl=true→∀ t,n≤t→lk sl t = .dead
 | n,[],_,t,_=>rfl
 | n,(i,a) :: r,h,t,ht=>by
  simp only [keysLt,List.all_cons,Bool.and_eq_true,decide_eq_true_eq] at h
  simp only [lk]
  rw [show (i == t)=false by simp; omega]
  exact keysLt_lk h.2 t ht

/-- A hole for a loop's record. -/
structure HoleQ (κ:Nat) (Hf:Blk→Heap):Prop where
 at_:∀ b,(Hf b)[κ]? = some b
 set_:∀ b b',hset (Hf b) κ b' = Hf b'

theorem HoleQ.lt {κ:Nat} {Hf:Blk→Heap} (h:HoleQ κ Hf) (b:Blk):κ < (Hf b).length:=(List.getElem?_eq_some_iff.1 (h.at_ b)).1
theorem HoleQ.app {κ:Nat} {Hf:Blk→Heap} (h:HoleQ κ Hf) (B:Heap):HoleQ κ fun b=>Hf b++B:=
 ⟨fun b=>by rw [List.getElem?_append_left (h.lt b)]; exact h.at_ b,fun b b'=>by show hset (Hf b++B) κ b' = Hf b'++B; rw [hset_app (h.lt b),h.set_]⟩

/-- The record behind a round. -/
def recB (b:Bool) (rec:Loop):Loop:=if b then rec else { rec with state:=.done,pending:=some .ret }

structure RecOk (rec:Loop) (n pp:Nat) (assign body:Code):Prop where
 params:rec.params = #[pp]
 assign:rec.assign=assign
 body:rec.body=body
 state:rec.state = .ready
 pending:rec.pending=none
 size:rec.tmps.size=n

theorem anc_at {q:Nat} {H:Heap} {κ:Nat} (hκ:κ < q):(H++ancs 0 q)[H.length + κ]? = some (.anc κ κ):=by
 rw [List.getElem?_append_right (by omega),Nat.add_sub_cancel_left,ancs_at _ _ _ hκ,Nat.zero_add]

/-- A ROUND'S CONTRACT, out of its body's walk. -/
theorem yld_of {q κ n pp:Nat} {rec:Loop} {assign body:Code} {sl sl1:List (Nat × AV)} {x:PV} {H0 H1:Blk→Heap} {b:Bool} (hr:RecOk rec n pp assign body) (hpp:pp < n) (hsl:keysLt n sl=true) (hκ:κ < q) (h0:HoleQ κ H0) (h1:HoleQ κ H1)
  (hA:∀ r0,Holds P assign (fun e s'=>e = .normal∧∃ π,Le π ⟨n,sl1,H0 (.lp r0)++ancs 0 q⟩ s') ⟨n,(pp,.p x) :: sl,H0 (.lp r0)++ancs 0 q⟩)
  (hB:∀ r0,Holds P body (fun e s'=>e=(if b then .normal else .ret)∧∃ π,Le π ⟨n,[],H1 (.lp r0)++ancs 0 q⟩ s') ⟨n,sl1,H0 (.lp r0)++ancs 0 q⟩) :
  YldQ P q κ rec (envA n sl) x (H0 (.lp rec)) (.p (.bool b)) (H1 (.lp (recB b rec))):=by
 intro C m w fv v g R hfv hg
 have hs0:AVal _ m (H0 (.lp rec)++ancs 0 q) (.yv κ (envA n sl) rec.tmps) fv:=R.slot 0
 have hs1:AVal _ m (H0 (.lp rec)++ancs 0 q) (.p x) v:=R.slot 1
 have hloc:∃ lc,m κ=some lc∧fv = .func (.yield lc.g) #[] #[]:=by
  cases hs0 with
  | yv _ _ _ _ _ h _ _=>exact h
 have henv:∀ c (h:c < (envA n sl).length),AVal (Reads (OK C m (H0 (.lp rec)++ancs 0 q) w) w) m (H0 (.lp rec)++ancs 0 q) (envA n sl)[c] (rec.tmps.getD c undef):=by
  cases hs0 with
  | yv _ _ _ _ _ _ _ h=>exact h
 obtain ⟨lc,hm,hfe⟩:=hloc
 rw [hfv] at hfe
 obtain rfl:g=lc.g:=by cases hfe; rfl
 have hanc:m κ=C.anc κ:=(R.mp.2.2.1 _ κ κ (anc_at hκ)).2
 have htm:(rec.params.zip #[v]).foldl (fun tmps (t,a)=>tmps.setIfInBounds t a) rec.tmps=rec.tmps.setIfInBounds pp v:=by rw [hr.params]; simp [Array.zip]
 rw [htm,hr.assign,hr.body]
 have R1:Rel C m ⟨n,(pp,.p x) :: sl,H0 (.lp rec)++ancs 0 q⟩ (rec.tmps.setIfInBounds pp v) w:=R.reslot (by rw [Array.size_setIfInBounds]; exact hr.size) fun t=>by
  simp only [lk]
  by_cases e:pp=t
  ·subst e
   rw [show (pp == pp)=true by simp,cond_true]
   have:(rec.tmps.setIfInBounds pp v).getD pp undef=v:=by simp [Array.getD_eq_getD_getElem?,hr.size,hpp]
   rw [this]; exact hs1
  ·rw [show (pp == t)=false by simpa using e,cond_false]
   have e2:(rec.tmps.setIfInBounds pp v).getD t undef=rec.tmps.getD t undef:=by
    simp only [Array.getD_eq_getD_getElem?]
    rw [Array.getElem?_setIfInBounds_ne e]
   rw [e2]
   by_cases ht:t < n
   ·have:=henv t (by rw [envA_len]; exact ht)
    rwa [envA_get] at this
   ·rw [keysLt_lk hsl t (by omega)]; exact .dead _
 refine roundIn_of_wpIn (F:=Fence.wide) trivial ?_
 refine wpR_mono (r:=some lc.g) (hA rec (some lc.g) [] C m { tmps:=rec.tmps.setIfInBounds pp v,defers:=[] } w R1 rfl) fun e a1 w1 ⟨s1,m1,⟨he,π,hle⟩,R2,hd⟩=>?_
 subst he
 have R3:=R2.weaken hle
 have g0:=h0.app (ancs 0 q)
 obtain ⟨l1,c1,c2,c3⟩:=R3.mp.2.2.2.1 κ rec (g0.at_ _)
 have hl1:l1.g=lc.g:=by
  have:=(R3.mp.2.2.1 _ κ κ (anc_at hκ)).2
  rw [c1,← hanc,hm] at this
  rw [Option.some.inj this]
 rw [hl1] at c3
 refine ⟨_,run_beginRound c3 hr.state,?_⟩
 have R4:=R3.setLp (r':={ rec with state:=.busy }) (g0.at_ _) c1
 rw [hl1] at R4
 simp only at R4
 rw [show hset (H0 (.lp rec)++ancs 0 q) κ (.lp { rec with state:=.busy })=H0 (.lp { rec with state:=.busy })++ancs 0 q from g0.set_ _ _] at R4
 refine wpR_mono (r:=some lc.g) (hB _ (some lc.g) [] C _ a1 _ R4 hd) fun e a2 w3 ⟨s2,m2,⟨he,π2,hle2⟩,R5,hd2⟩=>?_
 have R6:=R5.weaken hle2
 have g1:=h1.app (ancs 0 q)
 obtain ⟨l2,d1,d2,d3⟩:=R6.mp.2.2.2.1 κ _ (g1.at_ _)
 have hl2:l2.g=lc.g:=by
  have:=(R6.mp.2.2.1 _ κ κ (anc_at hκ)).2
  rw [d1,← hanc,hm] at this
  rw [Option.some.inj this]
 rw [hl2] at d3
 have fin:∀ (jump:Option Code) (b' : Bool),jump.isNone=b'→({ rec with state:=if b' then .ready else .done,pending:=jump } : Loop)=recB b rec→b' = b→∃ v w',(Instr.endRound lc.g jump).run P w3 = .ok v w' ∧
   ∃ v' m',Ending.returned v = .returned v'∧Rel C m' ⟨1,[(0,.p (.bool b))],H1 (.lp (recB b rec))++ancs 0 q⟩ #[v'] w':=fun jump b' hj hrec hb=>by
  have hrun:=run_endRound (P:=P) jump d3
  rw [hj] at hrun
  refine ⟨_,_,hrun,_,mren m2 π2,rfl,?_⟩
  have R7:=R6.setLp (r':=recB b rec) (g1.at_ _) d1
  rw [hl2] at R7
  simp only at R7
  rw [show hset (H1 (.lp { rec with state:=.busy })++ancs 0 q) κ (.lp (recB b rec))=H1 (.lp (recB b rec))++ancs 0 q from g1.set_ _ _] at R7
  rw [← hrec] at R7 ⊢
  simp only at R7 ⊢
  refine R7.reslot rfl fun t=>?_
  cases t with
  | zero=>rw [hb]; exact .p _ _ (.bool b)
  | succ t=>exact .dead _
 subst he
 cases b with
 | true =>
  refine fin none true rfl ?_ rfl
  have:=hr.state
  have:=hr.pending
  cases rec
  simp only at *
  subst_vars
  rfl
 | false=>exact fin (some .ret) false rfl rfl rfl

/-! ### Code with a loop over a function -/

/-- The marks among the deferred calls. -/
def Dfr (C0 C:Ctx) (ds:List Deferred):Prop:=ds.Nodup∧∀ d∈ds,∃ D,d = { target:=.collected D,args:=#[] }∧C0.B D∧¬ C.B D∧C.w0.heap[D]? = some (.deferred (some []))

def SubX (C C0:Ctx):Prop:=∀ m s tmps w,Rel C m s tmps w→Rel C0 m s tmps w

def HoldsR (P:Program) (c:Code) (Q:Exit→St→Prop) (s:St):Prop:=
 ∀ C0 C m (a:Act) w,SubX C C0→Rel C m s a.tmps w→Dfr C0 C a.defers→wpR none P c (fun e a' w'=>∃ C' s' m',SubX C' C0∧Q e s'∧Rel C' m' s' a'.tmps w'∧Dfr C0 C' a'.defers) a w

variable {Q:Exit→St→Prop}

theorem hr_of_hk {c:Code} (h:Holds P c Q s):HoldsR P c Q s:=fun C0 C m a w hS R hd =>
 wpR_mono (h none a.defers C m a w R rfl) fun e a' w' ⟨s',m',h1,h2,h3⟩=>⟨C,s',m',hS,h1,h2,by rw [h3]; exact hd⟩
theorem hr_seq {x y:Code} (h:HoldsR P x (Thn (HoldsR P y Q) Q) s):HoldsR P (.seq x y) Q s:=by
 intro C0 C m a w hS R hd
 refine wpR_seq (wpR_mono (h C0 C m a w hS R hd) fun e a' w' ⟨C',s',m',h0,h1,h2,h3⟩=>?_)
 cases e with
 | normal=>exact h1 C0 C' m' a' w' h0 h2 h3
 | _=>exact ⟨C',s',m',h0,h1,h2,h3⟩
theorem hr_seqH {x y:Code} (h:Holds P x (Thn (HoldsR P y Q) Q) s):HoldsR P (.seq x y) Q s:=hr_seq (hr_of_hk h)
theorem hr_block {id:Nat} {c:Code} (h:HoldsR P c (InB id Q) s):HoldsR P (.block id c) Q s:=by
 intro C0 C m a w hS R hd
 refine wpR_block (wpR_mono (h C0 C m a w hS R hd) fun e a' w' ⟨C',s',m',h0,h1,h2,h3⟩=>?_)
 cases e with
 | exit j =>
  simp only [InB,Exit.inBlock] at h1 ⊢
  by_cases e:j=id
  ·rw [if_pos e] at h1 ⊢; exact ⟨C',s',m',h0,h1,h2,h3⟩
  ·rw [if_neg e] at h1 ⊢; exact ⟨C',s',m',h0,h1,h2,h3⟩
 | _=>exact ⟨C',s',m',h0,h1,h2,h3⟩
theorem hr_cond {c:Operand} {x y:Code} {b:Bool} (hc:testA s c=some b) (hx:b=true→HoldsR P x Q s) (hy:b=false→HoldsR P y Q s):HoldsR P (.cond c x y) Q s:=by
 intro C0 C m a w hS R hd
 have he:a.eval c = .bool b:=by
  have:=R.ev c
  unfold testA at hc
  split at hc<;>simp only [Option.some.injEq,reduceCtorEq] at hc
  rename_i b' hb
  rw [hb] at this
  rw [← hc]
  exact this.p_inv.bool_inv
 exact wpR_cond_split he (fun h=>hx h C0 C m a w hS R hd) (fun h=>hy h C0 C m a w hS R hd)
theorem ren1_range {n:Nat} {x:AV} (h:sc1 n x=true):ren1 (List.range n) x=x:=by
 have g:∀ k,k < n→(List.range n).getD k 0=k:=fun k hk=>by simp [List.getD,hk]
 cases x<;>simp only [ren1]<;>simp only [sc1,decide_eq_true_eq] at h<;>first|rfl|rw [g _ h]|cases h
theorem ren_range {n:Nat} {x:AV} (h:scA n x=true):Go.Pv.ren (List.range n) x=x:=by
 have gl:∀ l:List AV,l.all (sc1 n)=true→l.map (ren1 (List.range n))=l:=fun l hl=>by
  refine (List.map_congr_left fun y hy=>ren1_range ((List.all_eq_true.1 hl) y hy)).trans (List.map_id _)
 cases x with
 | agg l=>simp only [Go.Pv.ren]; rw [gl l h]
 | tup l=>simp only [Go.Pv.ren]; rw [gl l h]
 | cl f l=>simp only [Go.Pv.ren]; rw [gl l h]
 | yv k l vs =>
  simp only [scA,Bool.and_eq_true,decide_eq_true_eq] at h
  simp only [Go.Pv.ren]
  rw [gl l h.2]
  simp [List.getD,h.1]
 | dead=>exact ren1_range (n:=n) (x:=.dead) h
 | p v=>exact ren1_range (n:=n) (x:=.p v) h
 | sl k lo len=>exact ren1_range (n:=n) (x:=.sl k lo len) h
 | ptr k i=>exact ren1_range (n:=n) (x:=.ptr k i) h
 | mptr k=>exact ren1_range (n:=n) (x:=.mptr k) h
 | itv r=>exact ren1_range (n:=n) (x:=.itv r) h

def scH (H:Heap):Bool:=H.all fun | .own c=>c.all (scA H.length) | .anc _ _=>false | _=>true
theorem scH_get {H:Heap} (h:scH H=true) {k:Nat} {b:Blk} (hk:H[k]? = some b):(match b with | .own c=>c.all (scA H.length) | .anc _ _=>false | _=>true)=true:=by
 have:=(List.all_eq_true.1 h) _ (List.mem_of_getElem? hk)
 cases b<;>exact this

theorem LeH_of {π:List Nat} {H:Heap} : ∀ (H1:Heap) (ks:List Nat),ks.length=H1.length→(∀ (j:Nat) (b:Blk) (k:Nat),H1[j]? = some b→ks[j]? = some k→LeB π H k b)→LeH π H ks H1
 | [],[],_,_=>trivial
 | b :: r,k :: ks,hl,h=>⟨h 0 b k rfl rfl,LeH_of r ks (by simpa using hl) fun j b' k' h1 h2=>h (j + 1) b' k' (by simpa using h1) (by simpa using h2)⟩
 | [],_ :: _,hl,_=>by simp at hl
 | _ :: _,[],hl,_=>by simp at hl

theorem hget_of:∀ {H:Heap} {k:Nat} {b:Blk},H[k]? = some b→hget H k=b
 | [],k,b,h=>by simp at h
 | x :: r,0,b,h=>by simp at h; simp [hget,h]
 | x :: r,k + 1,b,h=>by
  have:=hget_of (H:=r) (k:=k) (b:=b) (by simpa using h)
  simpa [hget] using this

theorem LeH_id {H:Heap} (h:scH H=true):LeH (List.range H.length) H (List.range H.length) H:=by
 refine LeH_of H _ (by simp) fun j b k hj hk=>?_
 have hjl:=(List.getElem?_eq_some_iff.1 hj).1
 obtain rfl:k=j:=by simpa [hjl] using hk.symm
 have hg:=hget_of hj
 have hs:=scH_get h hj
 cases b with
 | own c =>
  simp only [LeB,hg]
  refine ⟨?_,by simpa using hs⟩
  rw [List.take_length]
  exact (List.map_congr_left fun y hy=>ren_range ((List.all_eq_true.1 hs) y hy)).trans (List.map_id _)
 | fro c=>exact hg
 | mp kk d v=>exact hg
 | lp r=>exact hg
 | dead=>trivial
 | anc i j=>cases hs

theorem putM_other:∀ (ks:List Nat) (bs H:Heap) (k:Nat),k ∉ ks→k < H.length→(putM H ks bs)[k]? = H[k]?
 | [],bs,H,k,_,hk=>by simp only [putM]; rw [List.getElem?_append_left hk]
 | k0 :: ks,[],H,k,_,_=>rfl
 | k0 :: ks,b0 :: bs,H,k,hn,hk=>by
  simp only [putM]
  rw [putM_other ks bs _ k (fun h=>hn (by simp [h])) (by rw [hset_length]; exact hk),hset_get,if_neg (fun h=>hn (by simp [h.1]))]
theorem putM_at:∀ (ks:List Nat) (bs H:Heap),ks.Nodup→(∀ k∈ks,k < H.length)→ks.length≤bs.length→∀ (j:Nat) {b:Blk} {k:Nat},bs[j]? = some b→(ks++List.range' H.length (bs.length - ks.length))[j]? = some k→(putM H ks bs)[k]? = some b
 | [],bs,H,_,_,_,j,b,k,h1,h2=>by
  have hj:=(List.getElem?_eq_some_iff.1 h1).1
  simp only [List.nil_append,List.length_nil,Nat.sub_zero] at h2
  rw [List.getElem?_range' hj] at h2
  simp only [Option.some.injEq,Nat.one_mul] at h2
  subst h2
  simp only [putM]
  rw [List.getElem?_append_right (by omega),Nat.add_sub_cancel_left]; exact h1
 | k0 :: ks,[],H,_,_,hl,j,b,k,h1,h2=>by simp at hl
 | k0 :: ks,b0 :: bs,H,hnd,hk,hl,0,b,k,h1,h2=>by
  simp at h1 h2
  subst h1 h2
  simp only [putM]
  rw [putM_other ks bs _ k0 (List.nodup_cons.1 hnd).1 (by rw [hset_length]; exact hk k0 (by simp)),hset_get,if_pos ⟨rfl,hk k0 (by simp)⟩]
 | k0 :: ks,b0 :: bs,H,hnd,hk,hl,j + 1,b,k,h1,h2=>by
  simp only [putM]
  refine putM_at ks bs _ (List.nodup_cons.1 hnd).2 (fun k hk'=>by rw [hset_length]; exact hk k (by simp [hk'])) (by simpa using hl) j (by simpa using h1) ?_
  rw [hset_length]
  simpa using h2

/-- THE STATEMENT 'for x := range f': a loop over a function with captured values. -/
theorem hr_range {go:Operand} {gs pp κ q n:Nat} {assign body:Code} {sl:List (Nat × AV)} {Hs0 Hf:Blk→Heap} {b:Bool} {gf:FuncId} {cap:List AV} {rv:AV} (π:List Nat) (hgo:go = .tmp gs) (hn:s.n=n)
  (h0:∀ r0,Le π ⟨n,(gs,.cl gf cap) :: sl,Hs0 (.lp r0)⟩ { s with H:=s.H++[.lp r0] }) (hπ:π.getD κ 0=s.H.length) (hκ:κ < q) (hs0:HoleQ κ Hs0) (hf:HoleQ κ Hf)
  (hcs:∀ r0,(scH (Hs0 (.lp r0)) && cap.all (scA (Hs0 (.lp r0)).length) && (envA n sl).all (sc1 q))=true) (hkl:keysLt n sl=true) (hgs:lk sl gs = .dead)
  (hsc:∀ r0 r1,scQ q rv (Hs0 (.lp r0)) (Hf (.lp r1))=true)
  (hit:∀ rec,RecOk rec n pp assign body→FnQ P q gf (.yv κ (envA n sl) rec.tmps :: cap) (Hs0 (.lp rec)) rv (Hf (.lp (recB b rec))))
  (h1:b=true→Q .normal ⟨n,sl,Hf .dead⟩) (h2:b=false→Q .ret ⟨n,sl,Hf .dead⟩):HoldsR P (.rangeFunc go #[pp] assign body) Q s:=by
 intro C0 C m a w hS R hd
 subst hgo
 refine wpIn_rangeFunc (F:=WF none) (n:=0) fun fn _=>?_
 obtain ⟨rec,hrec⟩:∃ rec:Loop,rec = { state:=.ready,pending:=none,fn,tmps:=a.tmps,params:=#[pp],assign,body,defers:=w.heap.size }:=⟨_,rfl⟩
 have hok:RecOk rec n pp assign body:=by rw [hrec]; exact ⟨rfl,rfl,rfl,rfl,rfl,by rw [← hn]; exact R.size⟩
 obtain ⟨W1,hW1⟩:∃ W1,(w.alloc (.deferred (some []))).alloc (.loop rec)=W1:=⟨_,rfl⟩
 have hsz1:W1.heap.size=w.heap.size + 2:=by rw [← hW1,World.size_alloc,World.size_alloc]
 have hL1:W1.heap[w.heap.size + 1]? = some (.loop rec):=by
  rw [← hW1]; have:=World.alloc_heap_new (w.alloc (.deferred (some []))) (.loop rec); rwa [World.size_alloc] at this
 have hK1:W1.heap[w.heap.size]? = some (.deferred (some [])):=by
  rw [← hW1]
  have h1:=(MapKept.heap_alloc (w.alloc (.deferred (some []))) (.loop rec)).2 w.heap.size (by rw [World.size_alloc]; omega)
  rw [h1]; exact World.alloc_heap_new w _
 have hbel:Below w.heap.size w W1:=by
  rw [← hW1]; exact (((Below.refl _ w).alloc (Nat.le_refl _) _).alloc (by rw [World.size_alloc]; omega) _)
 have R1:=R.later hbel
 have R2:=R1.addLp (g:=w.heap.size + 1) (r:=rec) (R.base _ (by omega)) hL1 fun k rr l hk hl e=>by
  obtain ⟨l',a1,a2,a3⟩:=R.mp.2.2.2.1 k rr hk
  rw [hl] at a1; cases a1
  have:=(Array.getElem?_eq_some_iff.1 a3).1
  omega
 have R3:=R2.weaken (h0 rec)
 generalize hm3:mren (mput m s.H.length (some ⟨w.heap.size + 1,0,0⟩)) π=m3 at R3
 have hmκ:m3 κ=some ⟨w.heap.size + 1,0,0⟩:=by
  have hl:κ < π.length:=by
   have:=((h0 rec).2.2.1.get).1
   have h2:=hs0.lt (.lp rec)
   simp only at this
   omega
  rw [← hm3]
  have e:π[κ]=s.H.length:=by simpa [List.getD,List.getElem?_eq_getElem hl] using hπ
  simp [mren,List.getElem?_eq_getElem hl,e,mput]
 have hc3:=hcs rec
 rw [Bool.and_eq_true,Bool.and_eq_true] at hc3
 obtain ⟨⟨hsc0,hcap⟩,henv⟩:=hc3
 obtain ⟨hq1,hq0,hna⟩:=scQ_parts (hsc rec (recB b rec))
 
 have hgv:∃ vs:Array Value,a.eval (.tmp gs) = .func (.func gf) #[] vs∧vs.size=cap.length∧∀ c (h:c < cap.length),AVal (Reads (OK C m3 (Hs0 (.lp rec)) W1) W1) m3 (Hs0 (.lp rec)) cap[c] (vs.getD c undef):=by
  have hv:AVal _ m3 (Hs0 (.lp rec)) (lk ((gs,.cl gf cap) :: sl) gs) (a.tmps.getD gs undef):=R3.slot gs
  simp only [lk,BEq.rfl,cond_true] at hv
  show ∃ vs:Array Value,a.tmps.getD gs undef=_∧_
  generalize a.tmps.getD gs undef=v at hv
  cases hv with
  | cl _ _ vs hl hr=>exact ⟨vs,rfl,hl,hr⟩
 obtain ⟨vs,hfe,hvl,hvr⟩:=hgv
 have hLe:=LeH_id hsc0
 have hlenv:(envA n sl).length=n:=envA_len n sl
 have hlk:∀ t,lk sl t = .dead∨(t < n∧sc1 q (lk sl t)=true):=fun t=>by
  by_cases ht:t < n
  ·refine .inr ⟨ht,?_⟩
   have:=(List.all_eq_true.1 henv) _ (List.getElem_mem (show t < (envA n sl).length by omega))
   rwa [envA_get] at this
  ·exact .inl (keysLt_lk hkl t (by omega))
 have hslot:∀ t,AVal (Reads (OK C m3 (Hs0 (.lp rec)) W1) W1) m3 (Hs0 (.lp rec)) (lk sl t) (a.tmps.getD t undef):=fun t=>by
  by_cases e:t=gs
  ·rw [e,hgs]; exact .dead _
  ·have hv:AVal _ m3 (Hs0 (.lp rec)) (lk ((gs,.cl gf cap) :: sl) t) (a.tmps.getD t undef):=R3.slot t
   simp only [lk] at hv
   rwa [show (gs == t)=false by simpa using Ne.symm e,cond_false] at hv
 have hscm:∀ {k k' : Nat} {x:AV},k≤k'→sc1 k x=true→sc1 k' x=true:=fun {k k' x} hkk h=>by
  cases x<;>simp only [sc1,decide_eq_true_eq] at h ⊢<;>first|omega|cases h
 have hscA:∀ {k:Nat} {x:AV},sc1 k x=true→scA k x=true:=fun {k x} h=>by
  cases x<;>first|exact h|(simp [sc1] at h)
 have hLl:(Hs0 (.lp rec)).length=(List.range (Hs0 (.lp rec)).length).length:=by simp
 have hrd:∀ p v,Reads (OK C m3 (Hs0 (.lp rec)) W1) W1 p v→Reads (OK (subC C m3 (Hs0 (.lp rec)) (List.range (Hs0 (.lp rec)).length) (Hs0 (.lp rec)) W1) (mren m3 (List.range (Hs0 (.lp rec)).length)) (Hs0 (.lp rec)) W1) W1 p v:=
  fun p v h=>h.mono (lend_ok (s:=⟨n,(gs,.cl gf cap) :: sl,Hs0 (.lp rec)⟩) hLe)
 have hun:∀ {x:AV} {v:Value},AVal (Reads (OK C m3 (Hs0 (.lp rec)) W1) W1) m3 (Hs0 (.lp rec)) x v→scA (Hs0 (.lp rec)).length x=true →
   AVal (Reads (OK (subC C m3 (Hs0 (.lp rec)) (List.range (Hs0 (.lp rec)).length) (Hs0 (.lp rec)) W1) (mren m3 (List.range (Hs0 (.lp rec)).length)) (Hs0 (.lp rec)) W1) W1) (mren m3 (List.range (Hs0 (.lp rec)).length)) (Hs0 (.lp rec)) x v:=fun {x v} hv hx=>by
  refine AVal.unren (π:=List.range (Hs0 (.lp rec)).length) (H:=Hs0 (.lp rec)) (m:=m3) hrd hLl ?_ (by rw [← hLl]; exact hx)
  rw [ren_range hx]; exact hv
 have hR0:=R3.lend (q:=q) (ks:=List.range (Hs0 (.lp rec)).length) (avs:=.yv κ (envA n sl) rec.tmps :: cap) (vals:=#[.func (.yield (w.heap.size + 1)) #[] #[]]++vs) hLe (List.nodup_range) hq0 hna (by simp [hvl]; omega) fun t ht=>by
  cases t with
  | zero =>
   have e1:((#[.func (.yield (w.heap.size + 1)) #[] #[]]++vs:Array Value)).getD 0 undef = .func (.yield (w.heap.size + 1)) #[] #[]:=by
    simp only [Array.getD_eq_getD_getElem?]
    rw [Array.getElem?_append_left (by simp)]; rfl
   rw [e1]
   refine hun (.yv _ _ _ _ (hs0.lt _) ⟨_,hmκ,rfl⟩ (by rw [hlenv]; exact hok.size) fun c hc=>?_) ?_
   ·rw [envA_get]
    have e2:rec.tmps=a.tmps:=by rw [hrec]
    rw [e2]; exact hslot c
   ·show (decide (κ < (Hs0 (.lp rec)).length) && (envA n sl).all (sc1 (Hs0 (.lp rec)).length))=true
    rw [Bool.and_eq_true,decide_eq_true_eq]
    exact ⟨hs0.lt _,List.all_eq_true.2 fun x hx=>hscm hq0 ((List.all_eq_true.1 henv) x hx)⟩
  | succ t =>
   have e1:((#[.func (.yield (w.heap.size + 1)) #[] #[]]++vs:Array Value)).getD (t + 1) undef=vs.getD t undef:=by
    simp only [Array.getD_eq_getD_getElem?]
    rw [Array.getElem?_append_right (by simp)]
    simp
   rw [e1]
   have ht2:t < cap.length:=by simpa using ht
   rw [List.getElem_cons_succ]
   exact hun (hvr t ht2) ((List.all_eq_true.1 hcap) _ (List.getElem_mem ht2))
 obtain ⟨⟨fn',hfn',hnm',hbd'⟩,hcalls⟩:=hit rec hok
 refine ⟨w.heap.size + 1,[{ target:=.collected w.heap.size,args:=#[] }],W1,{ target:=.fn (.func gf) vs,args:=#[.func (.yield (w.heap.size + 1)) #[] #[]] },W1,gf,
  #[.func (.yield (w.heap.size + 1)) #[] #[]]++vs,W1,?_,?_,fun _ _=>trivial,?_,(fun h=>by cases h),?_⟩
 ·rw [← hW1,hrec]; exact run_enterLoop_outer _ _ _ _ _
 ·simp only [resolve,hfe]
  simp [go_sem]
 ·have hnm2:¬ fn'.name = "runtime.NumGoroutine":=by simpa using hnm'
  have hbd2:¬ fn'.body=none:=by intro e; rw [e] at hbd'; simp at hbd'
  simp [invoke,callFunc,hfn',hnm2,hbd2]
 refine (callsIn_wide (n:=0)).2 ((hcalls _ _ W1 _ hR0).mono fun e w' ⟨v,m',he,R5⟩=>?_)
 subst he
 have hks' : ∀ k∈List.range (Hs0 (.lp rec)).length,k < (Hs0 (.lp rec)).length:=fun k hk=>by simpa using hk
 obtain ⟨m2,R6,_,hm2⟩:=R3.joinQ hLe hks' R5 (hsc rec (recB b rec))
 have hD:¬ (subC C m3 (Hs0 (.lp rec)) (List.range (Hs0 (.lp rec)).length) (Hs0 (.lp rec)) W1).B w.heap.size:=by
  rintro (h | ⟨j,b0,l,a1,a2,a3,a4⟩)
  ·omega
  ·have hj:=(List.getElem?_eq_some_iff.1 a1).1
   have a3:m3 j=some l:=by simpa [mren,hj] using a3
   rw [← a4] at hK1
   cases b0 with
   | own c =>
    rcases R3.blk j c a1 with ⟨_,hn⟩ | ⟨l',cur,e,c1,_,c2,_⟩
    ·rw [a3] at hn; cases hn
    ·rw [a3] at c1; cases c1
     rw [c2] at hK1; cases hK1
   | mp kk d v =>
    obtain ⟨l',ar,clk,vs,c1,_,c2,_⟩:=R3.mp.1 j kk d v a1
    rw [a3] at c1; cases c1
    rw [c2] at hK1; cases hK1
   | lp rr =>
    obtain ⟨l',c1,_,c2⟩:=R3.mp.2.2.2.1 j rr a1
    rw [a3] at c1; cases c1
    rw [c2] at hK1; cases hK1
   | _=>cases a2
 have hK5:w'.heap[w.heap.size]? = some (.deferred (some [])):=(R5.below.block _ hD).trans hK1
 
 generalize hσ:(List.range (Hs0 (.lp rec)).length).take q++List.range' (Hs0 (.lp rec)).length ((Hf (.lp (recB b rec))).length - q)=σ at R6
 have htk:(List.range (Hs0 (.lp rec)).length).take q=List.range q:=by rw [List.take_range,Nat.min_eq_left hq0]
 have hσl:σ.length=(Hf (.lp (recB b rec))).length:=by rw [← hσ,htk]; simp; omega
 have hσk:∀ k,k < q→σ.getD k 0=k:=fun k hk=>by
  rw [← hσ,htk]
  simp only [List.getD_eq_getElem?_getD]
  rw [List.getElem?_append_left (by simpa using hk)]
  simp [hk]
 have hσnd:σ.Nodup:=by
  rw [← hσ,htk]
  refine List.nodup_append.2 ⟨List.nodup_range,List.nodup_range',fun x hx y hy e=>?_⟩
  rw [List.mem_range] at hx
  rw [List.mem_range'_1] at hy
  omega
 have hσren:∀ {x:AV},sc1 q x=true→Go.Pv.ren σ x=x:=fun {x} hx=>by
  cases x<;>first|rfl|(simp only [sc1,decide_eq_true_eq] at hx; simp only [Go.Pv.ren,ren1]; rw [hσk _ hx])|(simp [sc1] at hx)
 have hput:∀ (j:Nat) (bb:Blk) (k:Nat),(Hf (.lp (recB b rec)))[j]? = some bb→σ[j]? = some k→(putM (kills (Hs0 (.lp rec)) ((List.range (Hs0 (.lp rec)).length).drop q)) ((List.range (Hs0 (.lp rec)).length).take q) ((Hf (.lp (recB b rec))).map (Blk.ren σ)))[k]? = some (Blk.ren σ bb):=by
  intro j bb k hj hk
  refine putM_at _ _ _ (by rw [htk]; exact List.nodup_range) (fun k hk=>by rw [kills_length]; rw [htk,List.mem_range] at hk; omega) (by rw [htk]; simp; omega) j (by rw [List.getElem?_map,hj]; rfl) ?_
  rw [kills_length,List.length_map,htk,List.length_range,← htk,hσ]
  exact hk
 have hsH:=hsc rec (recB b rec)
 unfold scQ at hsH
 rw [Bool.and_eq_true,Bool.and_eq_true,Bool.and_eq_true,Bool.and_eq_true,Bool.and_eq_true,Bool.and_eq_true] at hsH
 have hs2:=hsH.1.1.1.1.1.2
 have hLe2:LeH σ (putM (kills (Hs0 (.lp rec)) ((List.range (Hs0 (.lp rec)).length).drop q)) ((List.range (Hs0 (.lp rec)).length).take q) ((Hf (.lp (recB b rec))).map (Blk.ren σ))) σ (Hf (.lp (recB b rec))):=by
  refine LeH_of _ _ hσl fun j bb k hj hk=>?_
  have hg:=hget_of (hput j bb k hj hk)
  have hs:=(List.all_eq_true.1 hs2) _ (List.mem_of_getElem? hj)
  cases bb with
  | own c =>
   simp only [LeB,hg,Blk.ren]
   refine ⟨?_,by rw [hσl]; exact hs⟩
   rw [← List.length_map (f:=Go.Pv.ren σ),List.take_length]
  | fro c=>exact hg
  | mp kk d v=>exact hg
  | lp r=>exact hg
  | dead=>trivial
  | anc i j=>cases hs
 have R7:Rel C (mren m2 σ) ⟨n,[],Hf (.lp (recB b rec))⟩ a.tmps w':=R6.weaken (s1:=⟨n,[],Hf (.lp (recB b rec))⟩) ⟨rfl,hσnd,hLe2,trivial⟩
 have hlen7:(Hf (.lp (recB b rec))).length=σ.length:=hσl.symm
 have hoW:=OK.weaken (C:=C) (m:=m2) (w:=w') hLe2
 have R8:Rel C (mren m2 σ) ⟨n,sl,Hf (.lp (recB b rec))⟩ a.tmps w':=R7.reslot R7.size fun t=>by
  rcases hlk t with e | ⟨ht,hx⟩
  ·rw [e]; exact .dead _
  ·have hv:AVal _ m2 _ (lk ((gs,.cl gf cap) :: sl) t) (a.tmps.getD t undef):=R6.slot t
   by_cases e:t=gs
   ·rw [e,hgs]; exact .dead _
   ·simp only [lk] at hv
    rw [show (gs == t)=false by simpa using Ne.symm e,cond_false,← hσren hx] at hv
    exact hv.unren (fun p v h=>h.mono hoW) hlen7 (by rw [hσl]; exact hscA (hscm hq1 hx))
 
 have hm8:mren m2 σ κ=some ⟨w.heap.size + 1,0,0⟩:=by
  have h1:κ < σ.length:=by omega
  have h2:σ[κ]=κ:=by have:=hσk κ hκ; simpa [List.getD,List.getElem?_eq_getElem h1] using this
  simp only [mren,List.getElem?_eq_getElem h1,h2,Option.bind_some]
  rw [hm2 κ (hs0.lt _)]; exact hmκ
 obtain ⟨l8,e1,e2,e3⟩:=R8.mp.2.2.2.1 κ _ (hf.at_ _)
 rw [hm8] at e1; cases e1
 simp only at e3
 have hend:=run_endLoop (P:=P) e3 (by unfold recB; split<;>simp [hok.state])
 refine ⟨_,_,hend,?_⟩
 have R9:=(R8.setLp (r':={ recB b rec with state:=.exhausted }) (hf.at_ _) hm8)
 simp only [hf.set_] at R9
 have hkill:=Rel.kill (a:=a) R9 κ
 simp only [hf.set_] at hkill
 generalize hw4:w'.putObj (w.heap.size + 1) (.loop { recB b rec with state:=.exhausted })=w4 at R9 hkill ⊢
 have hK6:w4.heap[w.heap.size]? = some (.deferred (some [])):=by rw [← hw4]; exact (World.putObj_heap_other (by omega)).trans hK5
 have R10:=hkill.hold (fun x=>x=w.heap.size) (fun x hx=>by
  rw [hx]; exact ⟨(Array.getElem?_eq_some_iff.1 hK6).1,fun _ _ _ h=>by rw [hK6] at h; cases h⟩) (fun k kk d v l h hl hx=>by
  obtain ⟨l',ar,clk,vs,c1,_,c2,_⟩:=hkill.mp.1 k kk d v h
  rw [hl] at c1; cases c1
  rw [hx,hK6] at c2; cases c2) (fun x hx rr h=>by rw [hx,hK6] at h; cases h)
 have hS' : SubX (holdC C (fun x=>x=w.heap.size) w4) C0:=fun m s tmps w R=>hS _ _ _ _ (R.unhold hkill.below)
 have hC0B:C0.B w.heap.size:=(hS _ _ _ _ R).base _ (Nat.le_refl _)
 have hdfr:Dfr C0 (holdC C (fun x=>x=w.heap.size) w4) ({ target:=.collected w.heap.size,args:=#[] } :: a.defers):=by
  obtain ⟨d1,d2⟩:=hd
  refine ⟨List.nodup_cons.2 ⟨fun hmem=>?_,d1⟩,fun d hdm=>?_⟩
  ·obtain ⟨D,q1,_,_,q4⟩:=d2 _ hmem
   have:D=w.heap.size:=by cases q1; rfl
   have h1:=(Array.getElem?_eq_some_iff.1 q4).1
   have h2:=R.below.size
   omega
  ·rcases List.mem_cons.1 hdm with rfl | hdm
   ·exact ⟨_,rfl,hC0B,fun h=>h.2 rfl,hK6⟩
   ·obtain ⟨D,q1,q2,q3,q4⟩:=d2 _ hdm
    exact ⟨D,q1,q2,fun h=>q3 h.1,(hkill.below.block _ q3).trans q4⟩
 cases b with
 | true =>
  have hp:(recB true rec).pending=none:=hok.pending
  rw [hp]
  exact ⟨_,_,_,hS',h1 rfl,R10,hdfr⟩
 | false =>
  have hp:(recB false rec).pending=some .ret:=rfl
  rw [hp]
  exact wpR_ret ⟨_,_,_,hS',h2 rfl,R10,hdfr⟩

/-- On the way out: the marks are taken. -/
theorem leaves_marks {fn:Func} {s' : St} {m' : Map} {tmps:Array Value} {C0:Ctx} {R:Ending→World→Prop} : ∀ (ds:List Deferred) (w:World),Rel C0 m' s' tmps w→ds.Nodup→(∀ d∈ds,∃ D,d = { target:=.collected D,args:=#[] }∧C0.B D∧w.heap[D]? = some (.deferred (some []))) →
  (∀ w',Rel C0 m' s' tmps w'→∃ v,(results fn tmps).run P w' = .ok v w'∧R (.returned v) w')→LeavesInM Fence.wide 0 P fn tmps R ds .returning w
 | [],w,RR,_,_,hfin=>hfin w RR
 | d :: ds,w,RR,hnd,hds,hfin=>by
  obtain ⟨D,e1,e2,e3⟩:=hds d (by simp)
  refine ⟨by simp,.inl ⟨D,w.putObj D (.deferred none),by rw [e1],run_takeDeferred e3,?_⟩⟩
  refine leaves_marks ds _ (RR.setDef e2 e3) (List.nodup_cons.1 hnd).2 (fun d' hd'=>?_) hfin
  obtain ⟨D',f1,f2,f3⟩:=hds d' (by simp [hd'])
  refine ⟨D',f1,f2,?_⟩
  have hne:D' ≠ D:=fun e=>(List.nodup_cons.1 hnd).1 (by rw [e1,← e,← f1]; exact hd')
  rw [World.putObj_heap_other hne]; exact f3

theorem fnc_ofR (hT:∀ t ti,T t=some ti→tiOf P t=some ti) {f:FuncId} {fn:Func} {c:Code} {args:List PV} {r:PV} (hf:P.funcs[f]? = some fn) (hb:fn.body=some c) (hnm:(fn.name == "runtime.NumGoroutine")=false) (hn:args.length≤fn.ntmps)
  (h:HoldsR P c (Post T fn.results.toList r) (entry fn.ntmps args)):FnC P f args r:=by
 refine ⟨⟨fn,hf,hnm,by rw [hb]; rfl⟩,fun okA w vals hok hsz hrd=>(callsIn_wide (n:=0)).1 (callsIn_of_wp_marks hf hb trivial ?_)⟩
 have hslot:∀ t,(vals++Array.replicate (fn.ntmps - vals.size) undef).getD t undef=if t < vals.size then vals.getD t undef else undef:=by
  intro t
  simp only [Array.getD_eq_getD_getElem?]
  by_cases ht:t < vals.size
  ·rw [if_pos ht,Array.getElem?_append_left ht]
  ·rw [if_neg ht,Array.getElem?_append_right (by omega),Array.getElem?_replicate]
   split<;>rfl
 have R:Rel (fresh okA w) (fun _=>none) (entry fn.ntmps args) (vals++Array.replicate (fn.ntmps - vals.size) undef) w:=by
  have hOK:∀ b,okA b→OK (fresh okA w) (fun _=>none) [] w b:=fun b hb=>⟨.inl hb,hok.1 b hb,fun k c l h=>by simp at h⟩
  refine ⟨fun g l hg=>(hok.2 g l hg).mono hOK,BelowP.refl _ _,fun _ h=>h,by simp [entry]; omega,fun k k' c c' l l' h=>by simp [entry] at h,fun k c h=>by simp [entry] at h,fun k c h=>by simp [entry] at h,fun t=>?_,fun k kk d v h=>by simp [entry] at h,fun k k' kk d v kk' d' v' l l' h=>by simp [entry] at h,fun k i j h=>by simp [entry] at h,fun k r h=>by simp [entry] at h,fun k k' r r' l l' h=>by simp [entry] at h⟩
  rw [hslot]
  unfold St.get entry
  simp only
  rw [ent_lk]
  simp only [Nat.zero_le,if_true,Nat.sub_zero]
  by_cases ht:t < args.length
  ·rw [List.getElem?_eq_getElem ht,if_pos (by omega)]
   exact .p _ _ ((hrd t ht).mono hOK)
  ·rw [List.getElem?_eq_none (by omega)]
   exact .dead _
 refine wpR_mono (r:=none) (h _ _ _ { tmps:=vals++Array.replicate (fn.ntmps - vals.size) undef,defers:=[] } w (fun _ _ _ _ R=>R) R ⟨List.nodup_nil,fun d h=>by cases h⟩) fun e a' w' ⟨C',s',m',hS,h1,h2,h3⟩=>?_
 have R0:=hS _ _ _ _ h2
 have key:endA T fn.results.toList r s'→LeavesInM Fence.wide 0 P fn a'.tmps (fun e w'=>∃ v,e = .returned v∧Below w.heap.size w w'∧Reads (okN okA w w') w' r v) a'.defers .returning w':=fun he=>by
  refine leaves_marks (s':=s') (m':=m') a'.defers w' R0 h3.1 (fun d hd=>?_) fun w2 R2=>?_
  ·obtain ⟨D,q1,q2,q3,q4⟩:=h3.2 d hd
   exact ⟨D,q1,q2,(h2.below.block _ q3).trans q4⟩
  ·unfold endA at he
   split at he
   ·rename_i p l hl
    split at he
    ·rename_i q pv b hpk
     obtain ⟨hp,hq,rfl⟩:=he
     obtain ⟨vs,e1,e2,e3⟩:=rvsA_run hT R2 fn.results.toList hl hp
     have hv:=mkTup_val (w:=w2) e2 e3
     have hpv:=peekA_val R2 hv hpk hq
     refine ⟨_,?_,_,rfl,R2.below.below (fun _ h=>h),norm_reads hpv.1⟩
     rw [results_eq,Array.mapM_eq_mapM_toList]
     simp only [Sem.run_bind,Sem.run_map]
     rw [e1]
     simp only [Result.andThen_ok]
     rfl
    ·exact he.elim
   ·exact he.elim
 cases e with
 | normal=>exact key h1
 | ret=>exact key h1
 | _=>exact h1.elim
end
end Go.Pv

/-
  Calls that hand out fresh rows of plain values; functions with captured rows of the call's own. Conditions: none.
-/
set_option linter.all false
namespace Go.Pv
open Go.RowKit

section
variable {P:Program} {s:St}

/-- A contract whose result lies in memory that is new: whatever the arguments may be. -/
def FnF (P:Program) (f:FuncId) (args:List PV) (r:PV):Prop:=
 Fun P f∧∀ (okA:Nat→Prop) (w:World) (vals:Array Value),LaidW okA w→vals.size=args.length→(∀ i (h:i < args.length),Reads okA w args[i] (vals.getD i undef)) →
  Calls P f vals w fun e w'=>∃ v,e = .returned v∧Go.Pv.Below w.heap.size w w'∧Reads (fun b=>w.heap.size≤b∧b < w'.heap.size) w' r v

/-- Plain data: no memory. -/
def PV.sc:PV→Bool
 | .int _ _=>true
 | .bool _=>true
 | .str _=>true
 | _=>false

theorem sc_reads {ok ok' : Nat→Prop} {w:World} {p:PV} {v:Value} (h:Reads ok w p v) (hs:p.sc=true):Reads ok' w p v:=by
 cases h<;>simp [PV.sc] at hs
 ·exact .int _ _
 ·exact .bool _
 ·exact .str _

theorem FnG_fnf {f:FuncId} {args l:List PV} (h:FnG P f args (.sl 0 0 l.length) [.own (opl l)]) (hsc:l.all PV.sc=true):FnF P f args (.list l):=by
 have hone:l.all PV.one=true:=List.all_eq_true.2 fun x hx=>by
  have:=(List.all_eq_true.1 hsc) x hx
  cases x<;>simp [PV.sc] at this<;>rfl
 refine ⟨h.1,fun okA w vals h1 h2 h3=>(h.2 okA w vals h1 h2 h3).mono fun e w' ⟨v,m',he,hbl,ho⟩=>⟨v,he,hbl,?_⟩⟩
 cases ho.val with
 | sl _ _ _ _ hk hs =>
  rcases hs with ⟨h0,ad,rfl⟩ | ⟨lc,cap,hm,rfl,hc1,hc2⟩
  ·have:l=[]:=List.eq_nil_of_length_eq_zero h0
   subst this
   exact .list0 _ _ fun _=>rfl
  ·rcases ho.blk 0 (opl l) rfl with ⟨hn,_⟩ | ⟨l',cur,e',hm2,hB,hh,hs1,hs3,hs2,hcells⟩
   ·have:l=[]:=List.map_eq_nil_iff.1 hn
    subst this
    exact .list0 _ _ fun h=>by cases h
   ·rw [hm] at hm2; cases hm2
    rw [opl_length] at hs2
    refine row_reads rfl hone ⟨hB,(Array.getElem?_eq_some_iff.1 hh).1⟩ hc1 (fun j=>cur.getD (lc.o + j) undef) (fun j hj=>?_) fun j hj=>?_
    ·have:lc.o + 0 + j=lc.o + j:=by omega
     rw [this]; exact cell_of hh (by omega)
    ·have:=hcells j (by rw [opl_length]; exact hj)
     have e2:(opl l)[j]'(by rw [opl_length]; exact hj) = .p l[j]:=by simp [opl]
     rw [e2] at this
     exact sc_reads this.p_inv ((List.all_eq_true.1 hsc) _ (List.getElem_mem hj))

theorem call_doesF {o:Oper} {fo:Operand} {args:Array Operand} {ts:Array TypeId} (ho:o.op = .call { callee:=.value fo,args:=args,argTypes:=ts }) {g:FuncId} {avs:List PV} {p:Prop} {b:Bool} {r:PV}
  (hc:FnF P g avs r) (hcall:callA s fo args=some (g,avs,p,b)) (hp:p):DoesW P o s (.p r) s.H:=by
 intro C m a w K Q R hK
 unfold callA at hcall
 split at hcall
 ·rename_i g' cap hf
  split at hcall<;>simp only [Option.some.injEq,Prod.mk.injEq,reduceCtorEq] at hcall
  rename_i p' pvs b' hpl
  obtain ⟨rfl,rfl,rfl,rfl⟩:=hcall
  have hfv:=R.ev fo
  rw [hf] at hfv
  generalize hfe:a.eval fo=fv at hfv
  have hfv:=hfv.p_inv
  cases hfv with
  | fn _ _ vs hcl hcr =>
   obtain ⟨⟨fn,hfn,hnm,hbd⟩,hcalls⟩:=hc
   obtain ⟨e1,e2,e3⟩:=peekList_val (C:=C) (m:=m) (w:=w) (H:=s.H) (fun {x v p pv b} (hx:AVal (Reads (OK C m s.H w) w) m s.H x v) h hp=>peekG_val R hx h hp) (args.toList.map s.ev) (fun c=>(args.toList.map a.eval).getD c undef) (fun c hc=>by
    simp only [List.length_map] at hc
    have:=R.ev (args.toList[c])
    simpa [List.getD,List.getElem?_map,List.getElem?_eq_getElem hc] using this) hpl hp
   simp only [List.length_map] at e1
   have hvals:∀ i (h:i < (pvs++cap).length),(args.map a.eval++vs).getD i undef=if i < pvs.length then (args.toList.map a.eval).getD i undef else vs.getD (i - pvs.length) undef:=by
    intro i hi
    simp only [Array.getD_eq_getD_getElem?]
    by_cases hip:i < pvs.length
    ·rw [if_pos hip,Array.getElem?_append_left (by simp at e1 ⊢; omega)]
     simp [List.getD]
    ·rw [if_neg hip,Array.getElem?_append_right (by simp at e1 ⊢; omega)]
     congr 2
     simp at e1 ⊢; omega
   have hrun:(execOp a.eval o).run P w = .ok (.enter g' (args.map a.eval++vs)) w:=by
    have hnm' : ¬ fn.name = "runtime.NumGoroutine":=by simpa using hnm
    have hbd' : ¬ fn.body=none:=by intro e; rw [e] at hbd; simp at hbd
    simp [execOp,ho,resolve,hfe,Deferred.ofValue,invoke,callFunc,hfn,hnm',hbd']
   refine opR_of_wp (by first|rfl|(rw [ho]; rfl)) ?_
   unfold Oper.wp
   rw [hrun]
   simp only [Oper.upon]
   have hsz:(args.map a.eval++vs).size=(pvs++cap).length:=by simp at e1 ⊢; omega
   refine (hcalls (fun b=>b < w.heap.size) w _ R.laidLt hsz fun i hi=>?_).mono fun e w' ⟨v,he,hbl,hv⟩=>?_
   ·rw [hvals i hi]
    by_cases hip:i < pvs.length
    ·rw [if_pos hip,List.getElem_append_left hip]; exact (e2 i hip).mono fun b hb=>hb.2
    ·rw [if_neg hip,List.getElem_append_right (by omega)]; exact (hcr _ (by simp at hi; omega)).mono fun b hb=>hb.2.1
   ·subst he
    refine hK v m w' (R.later hbl) (.p _ _ (hv.mono fun b hb=>⟨.inr (R.base _ hb.1),hb.2,fun k c l hk hl e'=>?_⟩))
    have:=(R.wrLt hk rfl hl).2
    have:=hb.1
    omega
 ·cases hcall

theorem call_locF {o:Oper} {fo:Operand} {args:Array Operand} {ts:Array TypeId} (ho:o.op = .call { callee:=.value fo,args:=args,argTypes:=ts }) {g:FuncId} {avs:List PV} {p:Prop} {b:Bool} {r:PV}
  (hc:FnF P g avs r) (hcall:callA s fo args=some (g,avs,p,b)) (hp:p):Loc1 P o s (.p r) s.H:=by
 refine ⟨fun s2 hn ha hH=>?_,fun hf=>?_,fun _=>rfl⟩
 ·have:=callA_congr (ts:=ts) (s:=s) (s2:=s2) (fo:=fo) (args:=args) (by rw [← ho]; exact ha) hH
  rw [hcall] at this
  rw [← hH]
  exact call_doesF ho hc this hp
 ·rw [ho] at hf; simp [isT] at hf

theorem runs_callF {draw:Bool} {all:Array Oper} {rest:List Oper} {K:St→Prop} {dst:Option Tmp} {ty:TypeId} {pos:String} {aft:Array Edge} {gd:Option (Nat × Bool)} {fo:Operand} {args:Array Operand} {ts:Array TypeId} {g:FuncId} {avs:List PV} {p:Prop} {b:Bool} {r:PV}
  (hc:FnF P g avs r) (hg:guardA all s { dst:=dst,op:=.call { callee:=.value fo,args:=args,argTypes:=ts },type:=ty,pos:=pos,after:=aft,guard:=gd } = some true)
  (hcall:callA s fo args=some (g,avs,p,b)) (hd:dstOk s dst) (hp:p) (h:Runs P draw all rest K (s.put dst (.p r))) :
  Runs P draw all ({ dst:=dst,op:=.call { callee:=.value fo,args:=args,argTypes:=ts },type:=ty,pos:=pos,after:=aft,guard:=gd } :: rest) K s:=by
 obtain ⟨s',hr,hK⟩:=h
 exact ⟨s',.cons (.op s (.p r) s.H hg (dstOk_spec hd) (call_doesF rfl hc hcall hp) fun _=>call_locF rfl hc hcall hp) hr,hK⟩

end

/-- A function with captured values, of whatever make. -/
theorem makeCl_does {P:Program} {s:St} {o:Oper} {f:FuncId} {first:Array Operand} {caps:Array Operand} (ho:o.op = .makeFunc (.func f) first caps) (hf:first.isEmpty=true):DoesW P o s (.cl f (caps.toList.map s.ev)) s.H:=by
 intro C m a w K Q R hK
 have hfe:first = #[]:=by simpa using hf
 have hrun:(execOp a.eval o).run P w = .ok (.value (.func (.func f) #[] (caps.map a.eval))) w:=by
  simp [execOp,ho,hfe,Instr.makeFunc]
 refine opR_of_wp (by first|rfl|(rw [ho]; rfl)) ?_
 unfold Oper.wp
 rw [hrun]
 refine hK _ m w R (.cl _ _ _ (by simp) fun c hc=>?_)
 have hc' : c < caps.size:=by simpa using hc
 have e1:(caps.map a.eval).getD c undef=a.eval caps[c]:=by simp [Array.getD_eq_getD_getElem?,hc']
 have e2:(caps.toList.map s.ev)[c]=s.ev caps[c]:=by simp
 rw [e1,e2]
 exact R.ev _
end Go.Pv
namespace Go.Proofs.YtboadfahlflmhaaDoor
open Go.Pv

end Go.Proofs.YtboadfahlflmhaaDoor

/-
  Walks: all homomorphisms, handed out one by one. Conditions: none.
-/
set_option linter.all false
namespace Go.Pv
open Go.RowKit

theorem fnc_of_p {P:Program} {f:FuncId} {args:List PV} {pv:PV} (h:FnG P f args (.p pv) []) (hf:pv.flatOnly=true):FnC P f args pv:=
 ⟨h.1,fun okA w vals h1 h2 h3=>(h.2 okA w vals h1 h2 h3).mono fun e w' ⟨v,m',he,hbl,ho⟩=>⟨v,he,hbl,flatOnly_reads ho.val.p_inv hf⟩⟩

/-- What a loop over a function does, round by round: what its blocks hold; whether it goes on; how it goes on. -/
structure Prot (σ:Type) where
 c4:σ→PV
 c51:σ→PV
 c52:σ→PV
 R:σ→List PV
 go:σ→PV→Bool
 nx:σ→PV→σ
 ok:σ→Prop
 okx:PV→Prop
 ok_nx:∀ i x,ok i→okx x→go i x=true→ok (nx i x)
 ones:∀ i,ok i→(R i).all PV.one=true

variable {σ:Type}
def foldS (p:Prot σ):σ→List PV→σ × Bool
 | i,[]=>(i,true)
 | i,x :: xs=>if p.go i x then foldS p (p.nx i x) xs else (p.nx i x,false)
theorem foldS_app (p:Prot σ):∀ (i:σ) (xs ys:List PV),foldS p i (xs++ys)=if (foldS p i xs).2 then foldS p (foldS p i xs).1 ys else foldS p i xs
 | i,[],ys=>by simp [foldS]
 | i,x :: xs,ys=>by
  simp only [List.cons_append,foldS]
  split
  ·exact foldS_app p _ xs ys
  ·rfl
theorem foldS_ok (p:Prot σ):∀ (i:σ) (xs:List PV),p.ok i→(∀ x∈xs,p.okx x)→(foldS p i xs).2=true→p.ok (foldS p i xs).1
 | i,[],h,_,_=>h
 | i,x :: xs,h,hx,hb=>by
  simp only [foldS] at hb ⊢
  split at hb
  ·rename_i hg
   rw [if_pos hg]
   exact foldS_ok p _ xs (p.ok_nx i x h (hx x (by simp)) hg) (fun y hy=>hx y (by simp [hy])) hb
  ·cases hb

end Go.Pv
namespace Go.Proofs.YtboadfahlflmhaaDoor
open Go.Pv

section
variable {n e N d:Nat} {m M:List Int}
open Classical in
/-- Where things that make the group go so: the homomorphism, if there is one. -/
noncomputable def hlf (n:Nat) (f:Nat→Nat→Nat) (N:Nat) (g:Nat→Nat→Nat) (L T:List Nat):List (List Int):=if h:∃ φ,Ext n f N g L T φ then [tbm n (Classical.choose h)] else []
/-- All that come, where some places are chosen. -/
noncomputable def hsq (n:Nat) (f:Nat→Nat→Nat) (e N:Nat) (g:Nat→Nat→Nat) (d:Nat) (L:List Nat):List Nat→List Nat→List (List Int)
 | [],t=>hlf n f N g L t
 | x :: r,t=>((List.range N).filter fun y=>decide (ord n f e x % ord N g d y=0)).flatMap fun y=>hsq n f e N g d L r (t++[y])
/-- Up to a place. -/
noncomputable def hsu (n:Nat) (f:Nat→Nat→Nat) (e N:Nat) (g:Nat→Nat→Nat) (d:Nat) (L r t:List Nat) (x y:Nat):List (List Int):=
 ((List.range y).filter fun y=>decide (ord n f e x % ord N g d y=0)).flatMap fun y=>hsq n f e N g d L r (t++[y])
def pls (l:List (List Int)):List PV:=l.map fun w=>.list (il w)
theorem pls_app (a b:List (List Int)):pls (a++b)=pls a++pls b:=by simp [pls]
theorem hsu_succ {f g:Nat→Nat→Nat} {L r t:List Nat} {x y:Nat} : hsu n f e N g d L r t x (y + 1)=if ord n f e x % ord N g d y=0 then hsu n f e N g d L r t x y++hsq n f e N g d L r (t++[y]) else hsu n f e N g d L r t x y:=by
 unfold hsu
 rw [List.range_succ,List.filter_append,List.flatMap_append]
 by_cases h:ord n f e x % ord N g d y=0
 ·rw [if_pos h]; simp [h]
 ·rw [if_neg h]; simp [h]

/-- A row that is filled so far. -/
def rwd (t:List Nat) (n:Nat):List AV:=opl (il (nl t))++List.replicate (n - t.length) .dead
theorem rwd_len {t:List Nat} {n:Nat} (h:t.length≤n):(rwd t n).length=n:=by
 simp [rwd,opl_length,il_length,nl_len]; omega
theorem rwd_full {t:List Nat} {n:Nat} (h:t.length=n):rwd t n=opl (il (nl t)):=by simp [rwd,h]
theorem rwd_ren (t:List Nat) (n:Nat) (π:List Nat):(rwd t n).map (Go.Pv.ren π)=rwd t n:=by
 rw [rwd,List.map_append,opl_ren,List.map_replicate]; rfl
theorem rwd_sc (t:List Nat) (n k:Nat):(rwd t n).all (scA k)=true:=by
 rw [rwd,List.all_append,opl_sc,List.all_replicate]; simp [scA,sc1]
theorem rwd_set {t:List Nat} {n y:Nat} (h:t.length < n):(rwd t n).set t.length (.p (.int .i64 ((y:Nat):Int)))=rwd (t++[y]) n:=by
 have e1:(opl (il (nl t))).length=t.length:=by simp [opl_length,il_length,nl_len]
 obtain ⟨k,rfl⟩:∃ k,n=t.length + 1 + k:=⟨n - (t.length + 1),by omega⟩
 rw [rwd,rwd,List.set_append_right _ _ (by omega),e1,Nat.sub_self,show t.length + 1 + k - t.length=k + 1 by omega,List.replicate_succ,List.set_cons_zero,
  List.length_append,List.length_cons,List.length_nil,show t.length + 1 + k - (t.length + (0 + 1))=k by omega,nl_snoc]
 simp [opl,il]
theorem rwd_get {t:List Nat} {n j:Nat} (h:j < t.length):(rwd t n)[j]? = some (.p (.int .i64 ((t.getD j 0:Nat):Int))):=by
 rw [rwd,List.getElem?_append_left (by rw [opl_length,il_length,nl_len]; exact h)]
 simp [opl,il,nl,List.getElem?_eq_getElem h]
theorem rwd_dead {t:List Nat} {n j:Nat} (h:t.length≤j) (hn:j < n):(rwd t n)[j]? = some .dead:=by
 rw [rwd,List.getElem?_append_right (by rw [opl_length,il_length,nl_len]; exact h),opl_length,il_length,nl_len,List.getElem?_replicate,if_pos (by omega)]
/-- Back to what stood. -/
theorem hk_back {P:Program} {Q:Exit→St→Prop} {s:St} {c:Code} (k:Nat) {t:List Nat} {y n:Nat} (hk:hget s.H k = .own (rwd (t++[y]) n)) (hl:t.length < n) (h:Holds P c Q { s with H:=hset s.H k (.own (rwd t n)) }):Holds P c Q s:=by
 have hl1:(t++[y]).length≤n:=by simp; omega
 refine hk_cells k hk (by rw [rwd_len (by omega),rwd_len hl1]) (fun C m tmps w R j h1 h2 v hv=>?_) h
 by_cases hj:j < t.length
 ·have e:(rwd (t++[y]) n)[j]=(rwd t n)[j]:=Option.some.inj (by
   rw [← List.getElem?_eq_getElem h1,← List.getElem?_eq_getElem h2,rwd_get hj,rwd_get (by simp; omega)]
   simp [List.getElem?_append_left hj])
  rw [← e]; exact hv
 ·have e:(rwd t n)[j] = .dead:=Option.some.inj (by rw [← List.getElem?_eq_getElem h2,rwd_dead (by omega) (by rw [rwd_len (by omega)] at h2; exact h2)])
  rw [e]; exact .dead _

variable {σ:Type}
theorem sc1_up {a b:Nat} {x:AV} (h:a≤b) (hx:sc1 a x=true):sc1 b x=true:=by
 cases x<;>simp [sc1] at hx ⊢<;>omega
theorem all_up {a b:Nat} {l:List AV} (h:a≤b) (hx:l.all (sc1 a)=true):l.all (sc1 b)=true:=by
 rw [List.all_eq_true] at hx ⊢
 exact fun x hm=>sc1_up h (hx x hm)
theorem recB_true (rec:Loop):recB true rec=rec:=rfl

theorem hsq_mem {f g:Nat→Nat→Nat} {L:List Nat} : ∀ (r t:List Nat) (w:List Int),w∈hsq n f e N g d L r t→∃ φ,Hmo n f N g φ∧w=tbm n φ
 | [],t,w,h=>by
  unfold hsq hlf at h
  split at h
  ·rename_i hex
   exact ⟨_,(Classical.choose_spec hex).1,by simpa using h⟩
  ·simp at h
 | x :: r,t,w,h=>by
  unfold hsq at h
  obtain ⟨y,_,h⟩:=List.mem_flatMap.1 h
  exact hsq_mem r _ w h
theorem hsu_mem {f g:Nat→Nat→Nat} {L r t:List Nat} {x y:Nat} (w:List Int) (h:w∈hsu n f e N g d L r t x y):∃ φ,Hmo n f N g φ∧w=tbm n φ:=by
 unfold hsu at h
 obtain ⟨y,_,h⟩:=List.mem_flatMap.1 h
 exact hsq_mem r _ w h
theorem hsu_end {f g:Nat→Nat→Nat} {L r t:List Nat} {x:Nat} : hsq n f e N g d L (x :: r) t=hsu n f e N g d L r t x N:=by
 rw [hsq]; rfl
theorem hsu_pre {f g:Nat→Nat→Nat} {L r t:List Nat} {x y:Nat} (h:y≤N):∃ z,hsq n f e N g d L (x :: r) t=hsu n f e N g d L r t x y++z:=by
 rw [hsu_end]
 have:∀ k,∃ z,hsu n f e N g d L r t x (y + k)=hsu n f e N g d L r t x y++z:=by
  intro k
  induction k with
  | zero=>exact ⟨[],by simp⟩
  | succ k ih =>
   obtain ⟨z,hz⟩:=ih
   rw [← Nat.add_assoc,hsu_succ,hz]
   split
   ·exact ⟨_,List.append_assoc _ _ _⟩
   ·exact ⟨z,rfl⟩
 obtain ⟨k,hk⟩:∃ k,N=y + k:=⟨N - y,by omega⟩
 have:=this k
 rwa [← hk] at this
theorem foldS_pre (p:Prot σ) {i:σ} {a b:List PV} (h:(foldS p i a).2=false):foldS p i (a++b)=foldS p i a:=by
 rw [foldS_app,h]; rfl
theorem foldS_on (p:Prot σ) {i:σ} {a b:List PV} (h:(foldS p i a).2=true):foldS p i (a++b)=foldS p (foldS p i a).1 b:=by
 rw [foldS_app,h]; rfl

end
end Go.Proofs.YtboadfahlflmhaaDoor

/-
  Walks: the search begun; loops over all homomorphisms. Conditions: none.
-/
set_option linter.all false
namespace Go.Pv
open Go.RowKit
theorem hk_forget {P:Program} {Q:Exit→St→Prop} {s:St} {c:Code} (k:Nat) {b:List AV} (hk:hget s.H k = .own b) (h:Holds P c Q { s with H:=hset s.H k (.own (List.replicate b.length .dead)) }):Holds P c Q s:=
 hk_cells k hk (by simp) (fun C m tmps w R j h1 h2 v hv=>by rw [List.getElem_replicate]; exact .dead _) h
end Go.Pv
namespace Go.Proofs.YtboadfahlflmhaaDoor
open Go.Pv
section
variable {n e N d:Nat} {m M:List Int} {σ:Type}
end
end Go.Proofs.YtboadfahlflmhaaDoor

/-
  Walks: all homomorphisms of two groups. Conditions: none.
-/
set_option linter.all false
namespace Go.Pv
open Go.RowKit
section
variable {P:Program} {Q:Exit→St→Prop} {s:St} {C:Ctx} {m:Map} {tmps:Array Value} {w:World}
/-- A function that has pure things with it, as one with blocks. -/
theorem Rel.toCl (R:Rel C m s tmps w) {t:Nat} {f:FuncId} {ps:List PV} (h:s.get t = .p (.fn f ps)):Rel C m { s with sl:=(t,.cl f (ps.map AV.p)) :: s.sl } tmps w:=by
 refine ⟨R.laid,R.below,R.base,R.size,R.inj,R.blk,R.fro,fun t'=>?_,R.mp⟩
 by_cases e:t=t'
 ·subst e
  have e2:({ s with sl:=(t,.cl f (ps.map AV.p)) :: s.sl } : St).get t = .cl f (ps.map AV.p):=by simp [St.get,lk]
  rw [e2]
  have hv:=R.slot t
  rw [h] at hv
  have hv:=hv.p_inv
  generalize tmps.getD t undef=v at hv
  cases hv with
  | fn _ _ vs hl hr =>
   refine .cl _ _ vs (by simpa using hl) fun c hc=>?_
   rw [List.getElem_map]
   exact .p _ _ (hr c (by simpa using hc))
 ·have e2:({ s with sl:=(t,.cl f (ps.map AV.p)) :: s.sl } : St).get t' = s.get t':=by simp [St.get,lk,show (t == t')=false by simpa using e]
  rw [e2]
  exact R.slot t'
theorem hr_cl {c:Code} (t:Nat) {f:FuncId} {ps:List PV} (h:s.get t = .p (.fn f ps)) (h' : HoldsR P c Q { s with sl:=(t,.cl f (ps.map AV.p)) :: s.sl }):HoldsR P c Q s:=
 fun C0 C m a w hS R hd=>h' C0 C m a w hS (R.toCl h) hd
end
end Go.Pv
namespace Go.Proofs.YtboadfahlflmhaaDoor
open Go.Pv
section
variable {n e N d:Nat} {m M:List Int} {σ:Type}
theorem tg_ok (h:GT n m n e) (h' : GT N M N d):tg n m N M=(0,0):=by
 unfold tg
 rw [gf_of h,gf_of h']; rfl
end
end Go.Proofs.YtboadfahlflmhaaDoor

/-
  Walks: all automorphisms of a group. Conditions: none.
-/
set_option linter.all false
namespace Go.Proofs.YtboadfahlflmhaaDoor
open Go.Pv
section
variable {n e N d:Nat} {m M:List Int} {σ:Type}
def fA (n:Nat):PV→Bool
 | .list l=>decide (onto1 (l.map pvi) n)
 | _=>false
def oA (n:Nat) (v:List Int):Prop:=v.length=n∧∀ k,k < n→∃ y:Nat,y < n∧v.getD k 0=((y:Nat):Int)
theorem fA_il (n:Nat) (v:List Int):fA n (.list (il v))=decide (onto1 v n):=by
 show decide (onto1 ((il v).map pvi) n)=_
 rw [pvi_il]
end
end Go.Proofs.YtboadfahlflmhaaDoor

/-
  Walks: inner automorphisms. Conditions: none.
-/
set_option linter.all false
namespace Go.Proofs.YtboadfahlflmhaaDoor
open Go.Pv

section
variable {n e:Nat} {m:List Int}
/-- What a thing does to all. -/
def inr (n:Nat) (f:Nat→Nat→Nat) (e b:Nat):List Int:=tbm n fun x=>cjr n f e x b
theorem tbm_succ (φ:Nat→Nat) (k:Nat):tbm (k + 1) φ=tbm k φ++[((φ k:Nat):Int)]:=by
 unfold tbm; rw [List.range_succ,List.map_append]; rfl

end
end Go.Proofs.YtboadfahlflmhaaDoor

/-
  All homomorphisms are what the search hands out; the laws of maps have begun. Conditions: none.
-/
set_option linter.all false
namespace Go.Proofs.YtboadfahlflmhaaDoor
open Go.Pv

section
variable {n e N d:Nat} {f g:Nat→Nat→Nat}
theorem Hmo.pw (G:Grp n f e) (K:Grp N g d) {φ:Nat→Nat} (h:Hmo n f N g φ) {a:Nat} (ha:a < n):∀ k,φ (pw f e a k)=pw g d (φ a) k
 | 0=>h.one G K
 | k + 1=>by
  show φ (f (Go.Proofs.YtboadfahlflmhaaDoor.pw f e a k) a)=g _ _
  rw [h.mul _ _ (G.pw_lt ha k) ha,Hmo.pw G K h ha k]
theorem Hmo.ord (G:Grp n f e) (K:Grp N g d) {φ:Nat→Nat} (h:Hmo n f N g φ) {a:Nat} (ha:a < n):ord N g d (φ a) ∣ ord n f e a:=by
 rw [← K.pw_eq_one (h.lt a ha),← h.pw G K ha,G.pw_ord ha,h.one G K]
theorem Hmo.same (G:Grp n f e) (K:Grp N g d) {L:List Nat} (hgen:∀ a,a < n→Gen n f e (fun x=>decide (x∈L)) a) {φ ψ:Nat→Nat} (h:Hmo n f N g φ) (h' : Hmo n f N g ψ) (heq:∀ x∈L,φ x=ψ x):∀ a,a < n→φ a=ψ a:=fun a ha=>by
 have key:a < n∧φ a=ψ a:=Gen.least (H:=fun a=>a < n∧φ a=ψ a) ⟨G.el,by rw [h.one G K,h'.one G K]⟩ (fun c b hc hb hp ih=>⟨G.cl _ _ ih.1 hb,by
  rw [h.mul _ _ ih.1 hb,h'.mul _ _ ih.1 hb,ih.2,heq b (by simpa using hp)]⟩) (hgen a ha)
 exact key.2
theorem tbm_congr {φ ψ:Nat→Nat} (h:∀ a,a < n→φ a=ψ a):tbm n φ=tbm n ψ:=List.map_congr_left fun a ha=>by rw [h a (List.mem_range.1 ha)]
theorem Hmo.congr (G:Grp n f e) {φ ψ:Nat→Nat} (h:Hmo n f N g φ) (he:∀ a,a < n→φ a=ψ a):Hmo n f N g ψ:=
 ⟨fun a ha=>by rw [← he a ha]; exact h.lt a ha,fun a b ha hb=>by rw [← he _ (G.cl _ _ ha hb),← he a ha,← he b hb]; exact h.mul a b ha hb⟩

/-- What the search hands out: the maps that start so. -/
theorem hsq_iff (G:Grp n f e) (K:Grp N g d) {L:List Nat} (hL:∀ x∈L,x < n) (hgen:∀ a,a < n→Gen n f e (fun x=>decide (x∈L)) a) (w:List Int):∀ (r t:List Nat),t.length≤L.length→L.drop t.length=r →
  (w∈hsq n f e N g d L r t↔∃ φ,Hmo n f N g φ∧w=tbm n φ∧∀ i,i < t.length→φ (L.getD i 0)=t.getD i 0)
 | [],t,h1,h2=>by
  have htl:t.length=L.length:=by
   have:=congrArg List.length h2
   simp at this; omega
  unfold hsq hlf
  constructor
  ·intro h
   split at h
   ·rename_i hex
    have hs:=Classical.choose_spec hex
    exact ⟨_,hs.1,by simpa using h,fun i hi=>hs.2 i (by omega)⟩
   ·simp at h
  ·rintro ⟨φ,k1,rfl,k2⟩
   have hex:∃ φ,Ext n f N g L t φ:=⟨φ,k1,fun i hi=>k2 i (by omega)⟩
   rw [dif_pos hex]
   have hs:=Classical.choose_spec hex
   rw [List.mem_singleton]
   refine tbm_congr (Hmo.same G K hgen k1 hs.1 fun x hx=>?_)
   obtain ⟨i,hi,rfl⟩:=List.getElem_of_mem hx
   have e1:L.getD i 0=L[i]:=by simp [List.getD,List.getElem?_eq_getElem hi]
   rw [← e1,k2 i (by omega),hs.2 i hi]
 | x :: r,t,h1,h2=>by
  have htl:t.length < L.length:=by
   have:=congrArg List.length h2
   simp at this; omega
  have hd:L.drop t.length=L[t.length] :: L.drop (t.length + 1):=List.drop_eq_getElem_cons htl
  rw [h2] at hd
  obtain ⟨e1,e2⟩:=List.cons.inj hd
  have ex:L.getD t.length 0=x:=by simp [List.getD,List.getElem?_eq_getElem htl,e1]
  have hxn:x < n:=by rw [e1]; exact hL _ (List.getElem_mem htl)
  unfold hsq
  rw [List.mem_flatMap]
  constructor
  ·rintro ⟨y,hy,hw⟩
   obtain ⟨φ,k1,k2,k3⟩:=(hsq_iff G K hL hgen w r (t++[y]) (by simp; omega) (by rw [List.length_append]; exact e2.symm)).1 hw
   refine ⟨φ,k1,k2,fun i hi=>?_⟩
   have:=k3 i (by simp; omega)
   rw [this]
   simp [List.getD,List.getElem?_append_left hi]
  ·rintro ⟨φ,k1,k2,k3⟩
   refine ⟨φ x,List.mem_filter.2 ⟨List.mem_range.2 (k1.lt x hxn),by simpa using Nat.mod_eq_zero_of_dvd (k1.ord G K hxn)⟩,?_⟩
   refine (hsq_iff G K hL hgen w r (t++[φ x]) (by simp; omega) (by rw [List.length_append]; exact e2.symm)).2 ⟨φ,k1,k2,fun i hi=>?_⟩
   by_cases hit:i < t.length
   ·rw [k3 i hit]; simp [List.getD,List.getElem?_append_left hit]
   ·obtain rfl:i=t.length:=by simp at hi; omega
    rw [ex]; simp [List.getD]
end

section
variable {n e N d:Nat} {m M:List Int}
/-- All homomorphisms, in some order. -/
noncomputable def hmW (n:Nat) (m:List Int) (e N:Nat) (M:List Int) (d:Nat):List (List Int):=hsq n (op m n) e N (op M N) d (gl n (op m n) e n) (gl n (op m n) e n) []
theorem hmW_mem (h:GT n m n e) (h' : GT N M N d) (w:List Int):w∈hmW n m e N M d↔∃ φ,Hmo n (op m n) N (op M N) φ∧w=tbm n φ:=by
 unfold hmW
 refine (hsq_iff h.2.2 h'.2.2 (fun x hx=>gl_lt n (op m n) e n x hx) (gl_gen n (op m n) e h.2.2) w _ [] (Nat.zero_le _) rfl).trans ?_
 exact ⟨fun ⟨φ,a,b,_⟩=>⟨φ,a,b⟩,fun ⟨φ,a,b⟩=>⟨φ,a,b,fun i hi=>absurd hi (Nat.not_lt_zero _)⟩⟩
end

/-! ### The laws of maps have begun -/

end Go.Proofs.YtboadfahlflmhaaDoor

/-
  Walks: the law SeriesComposes. Conditions: none.
-/
set_option linter.all false

namespace Go.Proofs.YtboadfahlflmhaaDoor
open Go.Pv

section
variable {n e:Nat} {m:List Int}

end
end Go.Proofs.YtboadfahlflmhaaDoor

/-
  The library's sort of numbers, over a row of the caller's own: what it leaves. Conditions: none; a library text.
-/
set_option linter.all false
namespace Go.Pv
open Go.RowKit

section
variable {P:Program} {ρ:Go.Shelf.Ren}
end
end Go.Pv

/-
  Plain: what the factors of a list of sets are; sorted lists. Conditions: none.
-/
set_option linter.all false
namespace Go.Proofs.YtboadfahlflmhaaDoor

open Go.Pv
section
variable {n e:Nat} {f:Nat→Nat→Nat}
noncomputable def okR (n:Nat) (f:Nat→Nat→Nat) (e:Nat) (l:List Int):Bool:=@decide (∃ p,l=thl n p∧Sub n f e p) (Classical.propDecidable _)
variable {l:List (List Int)}
/-- As many sets as can be. -/
structure Fw (n:Nat) (l:List (List Int)):Prop where
 lo:1≤l.length
 hi:l.length≤10
structure Fz (n:Nat) (l:List (List Int)):Prop extends Fw n l where
 first:(l.getD 0 []).length=n
 last:(l.getD (l.length - 1) []).length=1
/-- All in their form. -/
structure Fo (n:Nat) (f:Nat→Nat→Nat) (e:Nat) (l:List (List Int)):Prop extends Fz n l where
 ok:∀ i,i < l.length→okR n f e (l.getD i [])=true
end
end Go.Proofs.YtboadfahlflmhaaDoor

/-
  Walks: the law QuotMakes. Conditions: none.
-/
set_option linter.all false
namespace Go.Proofs.YtboadfahlflmhaaDoor
open Go.Pv

end Go.Proofs.YtboadfahlflmhaaDoor

/-
  Walks: the law QuotSimple. Conditions: none.
-/
set_option linter.all false
namespace Go.Proofs.YtboadfahlflmhaaDoor
open Go.Pv

end Go.Proofs.YtboadfahlflmhaaDoor

/-
  Contracts of the library, laid at this dump: numbers, and that each body is the same. Conditions: none; written by a program of this repo out of the kit's own tool.
-/
set_option linter.all false
namespace Go.Proofs
open Go.Shelf
end Go.Proofs

/-
  The program's Factors. Conditions: none.
-/
set_option linter.all false
namespace Go.Proofs.YtboadfahlflmhaaDoor
open Go.Pv

section
variable {n e k d:Nat} {f g:Nat→Nat→Nat} {p q:Nat→Bool}
end

section
variable {n e:Nat} {m:List Int} {p q:Nat→Bool}
end
end Go.Proofs.YtboadfahlflmhaaDoor

/-
  Rows of equations modulo a prime, reduced as they come: what is reckoned. Conditions: none.
-/
set_option linter.all false
namespace Go.Proofs.YtboadfahlflmhaaDoor
open Go.Pv

/-- The primes that are let in. -/
def pr (p:Nat):Prop:=p=2∨p=3∨p=5∨p=7
instance (p:Nat):Decidable (pr p):=by unfold pr; infer_instance
theorem pr.le {p:Nat} (h:pr p):2≤p∧p≤7:=by unfold pr at h; omega

/-- All that is in a row is between 0 and p. -/
def rng (p:Nat) (u:List Int):Prop:=∀ t,t < u.length→0≤u.getD t 0∧u.getD t 0 < p

/-- The least number that makes 1 of another. -/
def inv (p:Nat) (x:Int):Nat:=((List.range p).find? fun k=>decide ((k * x.toNat) % p=1)).getD 0

/-- Rows that are as they should be. -/
structure Ech (p n:Nat) (L:List (Nat × List Int)):Prop where
 keys:(L.map (·.1)).Nodup
 lt:∀ e∈L,e.1 < n
 len:∀ e∈L,e.2.length=n
 rg:∀ e∈L,rng p e.2
 one:∀ e∈L,e.2.getD e.1 0=1
 zero:∀ e∈L,∀ j,j < e.1→e.2.getD j 0=0

end Go.Proofs.YtboadfahlflmhaaDoor

/-
  Walks: rows of equations: a new one; a row is added. Conditions: none.
-/
set_option linter.all false
namespace Go.Proofs.YtboadfahlflmhaaDoor
open Go.Pv

end Go.Proofs.YtboadfahlflmhaaDoor

/-
  Walks: kernels and images. Conditions: none.
-/
set_option linter.all false
namespace Go.Proofs.YtboadfahlflmhaaDoor
open Go.Pv

section
variable {α:Type} [DecidableEq α]
end
section
variable {n e n' e' : Nat} {m m' l:List Int}
end
end Go.Proofs.YtboadfahlflmhaaDoor

/-
  The law HomComposes. Conditions: none.
-/
set_option linter.all false
namespace Go.Proofs.YtboadfahlflmhaaDoor
open Go.Pv

section
variable {n e n' e' : Nat} {m m' l k:List Int}
theorem Hom.hmo (hH:Hom m m' l n n'):Hmo n (op m n) n' (op m' n') (hv l):=⟨fun a ha=>(hH.2.1 a ha).2,fun a b ha hb=>(hH.2.2 a ha b hb).symm⟩
theorem Hom.rng (hH:Hom m m' l n n'):∀ x∈l,0≤x∧x < (n' : Int):=fun x hx=>by
 obtain ⟨i,hi,rfl⟩:=List.getElem_of_mem hx
 obtain ⟨h1,h2⟩:=hH.2.1 i (by rw [← hH.1]; exact hi)
 rw [show l.getD i 0=l[i] by simp [List.getD,List.getElem?_eq_getElem hi]] at h1
 rw [h1]; omega
end
end Go.Proofs.YtboadfahlflmhaaDoor

/-
  The law HomTheorem. Conditions: none.
-/
set_option linter.all false
namespace Go.Proofs.YtboadfahlflmhaaDoor
open Go.Pv

section
variable {n e N d:Nat} {f g:Nat→Nat→Nat} {φ:Nat→Nat}
theorem Hmo.iv (G:Grp n f e) (K:Grp N g d) (h:Hmo n f N g φ) {a:Nat} (ha:a < n):φ (iv n f e a)=iv N g d (φ a):=by
 have h1:=h.lt a ha
 have h2:=h.lt _ (G.iv_lt ha)
 have h3:=h.mul a _ ha (G.iv_lt ha)
 rw [G.mul_iv ha,h.one G K] at h3
 refine K.cancel_l h1 h2 (K.iv_lt h1) ?_
 rw [← h3,K.mul_iv h1]
end
end Go.Proofs.YtboadfahlflmhaaDoor

/-
  Isomorphisms; Noether's first theorem. Conditions: none.
-/
set_option linter.all false
namespace Go.Proofs.YtboadfahlflmhaaDoor
open Go.Pv

/-- An isomorphism. -/
def Isom (n:Nat) (f:Nat→Nat→Nat) (N:Nat) (g:Nat→Nat→Nat) (φ:Nat→Nat):Prop:=Hmo n f N g φ∧onto1 (tbm n φ) N
theorem isom_iff {n N:Nat} {f g:Nat→Nat→Nat} {φ:Nat→Nat} : Isom n f N g φ↔Hmo n f N g φ∧n=N∧∀ y,y < N→∃ x,x < n∧φ x=y:=by
 unfold Isom onto1
 rw [tbm_len]
 constructor
 ·rintro ⟨h1,h2,h3⟩
  refine ⟨h1,h3,fun y hy=>?_⟩
  obtain ⟨x,hx,e⟩:=List.mem_map.1 (h2 y hy)
  exact ⟨x,List.mem_range.1 hx,by omega⟩
 ·rintro ⟨h1,h2,h3⟩
  refine ⟨h1,fun y hy=>?_,h2⟩
  obtain ⟨x,hx,rfl⟩:=h3 y hy
  exact List.mem_map.2 ⟨x,List.mem_range.2 hx,rfl⟩
theorem lat_pixI {n x:Nat} {p:Nat→Bool} (hx:x < n) (hp:p x=true):lat n p (pix p x)=x:=by
 unfold lat
 rw [(pix_at hx hp).2]; rfl
theorem ptb_opI {n:Nat} {f:Nat→Nat→Nat} {p:Nat→Bool} {i j:Nat} (hi:i < (thl n p).length) (hj:j < (thl n p).length):op (ptb n f p) (thl n p).length i j=pop n f p i j:=tbl_op' _ hi hj

section
variable {n e N d:Nat} {m M:List Int} {φ:Nat→Nat}
end
section
variable {n e N d:Nat} {f g:Nat→Nat→Nat} {φ:Nat→Nat}
theorem Isom.inj (h:Isom n f N g φ) {a b:Nat} (ha:a < n) (hb:b < n) (hab:φ a=φ b):a=b:=by
 obtain ⟨h1,h2,h3⟩:=isom_iff.1 h
 subst h2
 have hc:∀ y,∃ x,y < n→x < n∧φ x=y:=fun y=>by
  by_cases hy:y < n
  ·obtain ⟨x,hx⟩:=h3 y hy
   exact ⟨x,fun _=>hx⟩
  ·exact ⟨0,fun h=>absurd h hy⟩
 obtain ⟨ψ,hψ⟩:∃ ψ:Nat→Nat,∀ y,y < n→ψ y < n∧φ (ψ y)=y:=⟨fun y=>Classical.choose (hc y),fun y hy=>Classical.choose_spec (hc y) hy⟩
 have hnd:((List.range n).map ψ).Nodup:=nodup_map List.nodup_range fun y hy z hz hyz=>by
  rw [← (hψ y (List.mem_range.1 hy)).2,← (hψ z (List.mem_range.1 hz)).2,hyz]
 have hall:∀ a,a < n→∃ y,y < n∧ψ y=a:=fun a ha=>Classical.byContradiction fun hne=>by
  have hn2:(a :: (List.range n).map ψ).Nodup:=List.nodup_cons.2 ⟨fun hm=>by
   obtain ⟨y,hy,e⟩:=List.mem_map.1 hm
   exact hne ⟨y,List.mem_range.1 hy,e⟩,hnd⟩
  have:=nodup_lt (n:=n) hn2 fun x hx=>by
   rcases List.mem_cons.1 hx with rfl | hx
   ·exact ha
   ·obtain ⟨y,hy,rfl⟩:=List.mem_map.1 hx
    exact (hψ y (List.mem_range.1 hy)).1
  simp at this
  omega
 obtain ⟨y,hy,rfl⟩:=hall a ha
 obtain ⟨z,hz,rfl⟩:=hall b hb
 rw [(hψ y hy).2,(hψ z hz).2] at hab
 rw [hab]
open Classical in
theorem Isom.symm (G:Grp n f e) (h:Isom n f N g φ):∃ ψ,Isom N g n f ψ:=by
 obtain ⟨h1,h2,h3⟩:=isom_iff.1 h
 have hc:∀ y,∃ x,y < N→x < n∧φ x=y:=fun y=>by
  by_cases hy:y < N
  ·obtain ⟨x,hx⟩:=h3 y hy
   exact ⟨x,fun _=>hx⟩
  ·exact ⟨0,fun h=>absurd h hy⟩
 refine ⟨fun y=>Classical.choose (hc y),isom_iff.2 ⟨⟨fun y hy=>(Classical.choose_spec (hc y) hy).1,fun y z hy hz=>?_⟩,h2.symm,fun x hx=>?_⟩⟩
 ·obtain ⟨a1,a2⟩:=Classical.choose_spec (hc y) hy
  obtain ⟨b1,b2⟩:=Classical.choose_spec (hc z) hz
  have hgl:g y z < N:=by
   have:=h1.lt _ (G.cl _ _ a1 b1)
   rwa [h1.mul _ _ a1 b1,a2,b2] at this
  obtain ⟨c1,c2⟩:=Classical.choose_spec (hc (g y z)) hgl
  refine h.inj c1 (G.cl _ _ a1 b1) ?_
  rw [c2,h1.mul _ _ a1 b1,a2,b2]
 ·obtain ⟨c1,c2⟩:=Classical.choose_spec (hc (φ x)) (h1.lt x hx)
  exact ⟨φ x,h1.lt x hx,h.inj c1 hx c2⟩
end
end Go.Proofs.YtboadfahlflmhaaDoor

/-
  The law HomOrders. Conditions: none.
-/
set_option linter.all false
namespace Go.Proofs.YtboadfahlflmhaaDoor
open Go.Pv

section
variable {n e N d n' e' : Nat} {f g:Nat→Nat→Nat} {φ:Nat→Nat} {m m' l:List Int}
theorem pre_sub (G:Grp n f e) (K:Grp N g d) (h:Hmo n f N g φ) {r:Nat→Bool} (hr:Sub N g d r):Sub n f e fun x=>r (φ x):=by
 refine sub_of G (by simp only [h.one G K]; exact hr.one) fun a b ha hb h1 h2=>?_
 show r (φ (f a b))=true
 rw [h.mul a b ha hb]
 exact hr.mul _ _ (h.lt a ha) (h.lt b hb) h1 h2
end
end Go.Proofs.YtboadfahlflmhaaDoor

/-
  Noether's second and third theorems; subgroups above a normal one. Conditions: none.
-/
set_option linter.all false
namespace Go.Proofs.YtboadfahlflmhaaDoor
open Go.Pv

section
variable {n e N d k:Nat} {f g:Nat→Nat→Nat} {m:List Int} {φ ψ:Nat→Nat} {p q P:Nat→Bool}
theorem Hmo.comp {h:Nat→Nat→Nat} (a:Hmo n f N g φ) (b:Hmo N g k h ψ):Hmo n f k h fun x=>ψ (φ x):=
 ⟨fun x hx=>b.lt _ (a.lt x hx),fun x y hx hy=>by rw [a.mul x y hx hy,b.mul _ _ (a.lt x hx) (a.lt y hy)]⟩
theorem lat_hmo (h:GT n m n e) (hP:Sub n (op m n) e P):Hmo (thl n P).length (op (ptb n (op m n) P) (thl n P).length) n (op m n) (lat n P):=
 ⟨fun i hi=>(lat_at hi).1,fun i j hi hj=>by rw [ptb_opI hi hj]; exact (pop_at h.2.2 hP hi hj).2⟩
end
end Go.Proofs.YtboadfahlflmhaaDoor

/-
  Walks: the parts of a group. Conditions: none.
-/
set_option linter.all false
namespace Go.Proofs.YtboadfahlflmhaaDoor
open Go.Pv

theorem ix_at {l:List Int} {x:Int} {i:Nat} (hi:i < l.length) (he:l.getD i 0=x) (hj:∀ j,j < i→¬ l.getD j 0=x):ix l x=i:=by
 unfold ix
 rw [fst_some hi (decide_eq_true he) fun j hj'=>decide_eq_false (hj j hj')]
theorem ix_thl {n:Nat} {P:Nat→Bool} {x:Nat} (hx:x < n) (hP:P x=true):ix (thl n P) x=(pix P x:Nat):=by
 obtain ⟨h1,h2⟩:=pix_at hx hP
 refine ix_at h1 h2 fun j hj he=>?_
 have:=thl_get_asc (p:=P) (n:=n) hj h1
 rw [he,h2] at this
 omega
theorem pw_uniq2 {α:Type} {R:α→α→Prop} (anti:∀ a b,R a b→R b a→a=b):∀ (xs ys:List α),xs.Perm ys→xs.Pairwise R→ys.Pairwise R→xs=ys
 | [],ys,h,_,_=>h.symm.eq_nil.symm
 | x :: r,[],h,_,_=>h.eq_nil
 | x :: r,y :: s,h,h1,h2=>by
  have hxy:x=y:=by
   have m1:x∈y :: s:=h.mem_iff.1 (by simp)
   have m2:y∈x :: r:=h.mem_iff.2 (by simp)
   rcases List.mem_cons.1 m1 with h3 | h3
   ·exact h3
   ·rcases List.mem_cons.1 m2 with h4 | h4
    ·exact h4.symm
    ·exact anti _ _ ((List.pairwise_cons.1 h1).1 y h4) ((List.pairwise_cons.1 h2).1 x h3)
  subst hxy
  rw [pw_uniq2 anti r s (List.Perm.cons_inv h) (List.pairwise_cons.1 h1).2 (List.pairwise_cons.1 h2).2]
/-- Numbers of things in a list. -/
def atl (P:Nat→Bool) (v:List Int):List Int:=v.map fun x=>((pix P x.toNat:Nat):Int)
theorem atl_thl {n:Nat} {P p:Nat→Bool} (hpP:∀ a,a < n→p a=true→P a=true):atl P (thl n p)=thl (thl n P).length fun i=>p (lat n P i):=by
 have hasc:(atl P (thl n p)).Pairwise (· < ·):=by
  unfold atl
  rw [List.pairwise_map]
  refine List.Pairwise.imp_of_mem (fun {x y} hx hy hxy=>?_) (thl_asc n p)
  obtain ⟨a,ha,hpa,rfl⟩:=mem_thl.1 hx
  obtain ⟨b,hb,hpb,rfl⟩:=mem_thl.1 hy
  have hab:a < b:=by omega
  show ((pix P a:Nat):Int) < ((pix P b:Nat):Int)
  have h1:=pix_at ha (hpP a ha hpa)
  have h2:=pix_at hb (hpP b hb hpb)
  rcases Nat.lt_trichotomy (pix P a) (pix P b) with h | h | h
  ·omega
  ·rw [h] at h1
   rw [h2.2] at h1
   omega
  ·have:=thl_get_asc (p:=P) (n:=n) h h1.1
   rw [h1.2,h2.2] at this
   omega
 refine pw_uniq2 (R:=(· < ·)) (fun a b h1 h2=>by omega) _ _ ((List.perm_ext_iff_of_nodup (hasc.imp fun h=>by omega) ((thl_asc _ _).imp fun h=>by omega)).2 fun y=>?_) hasc (thl_asc _ _)
 unfold atl
 rw [List.mem_map,mem_thl]
 constructor
 ·rintro ⟨x,hx,rfl⟩
  obtain ⟨a,ha,hpa,rfl⟩:=mem_thl.1 hx
  have h1:=pix_at ha (hpP a ha hpa)
  exact ⟨pix P a,h1.1,by rw [lat_pixI ha (hpP a ha hpa)]; exact hpa,rfl⟩
 ·rintro ⟨i,hi,hp,rfl⟩
  obtain ⟨a1,a2,a3,a4⟩:=lat_at hi
  exact ⟨((lat n P i:Nat):Int),mem_thl.2 ⟨_,a1,hp,rfl⟩,by show ((pix P (lat n P i):Nat):Int)=i; rw [a4]⟩
theorem lat_len {n:Nat} {P p:Nat→Bool} (hpP:∀ a,a < n→p a=true→P a=true):(mem (thl n P).length fun i=>p (lat n P i)).length=(thl n p).length:=by
 have:=congrArg List.length (atl_thl hpP)
 rw [thl_len (thl n P).length] at this
 unfold atl at this
 rw [List.length_map] at this
 exact this.symm

theorem atc_c {n:Nat} (hn:n≤60) {P p:Nat→Bool} (hpP:∀ a,a < n→p a=true→P a=true):FnC Tryd.prog 121 [.list (il (thl n p)),.ptr [.list (il (thl n P))]] (.list (il (thl (thl n P).length fun i=>p (lat n P i)))):=by
 have lp:=thl_le n p
 have lP:=thl_le n P
 refine fnc_of tab_ok Tryd.func121 rfl (by kernel_rfl) (by rw [Tryd.ntmps121]; exact Nat.le_add_left 2 _) ?_; rw [Tryd.ntmps121]
 refine qm ?_
 refine hk_region fun K hK=>runs_eval tab_ok ?_
 simp only [ev0,evA,evB,evP,fl,gp,tab,simprocAttr,reduceCtorEq,reduceIte]
 refine fin_run trivial (hK _ ?_)<;>clear hK<;>clear K
 refine qa (qm ?_)
 refine hk_region fun K hK=>runs_eval tab_ok ?_
 simp only [ev0,evA,evB,evP,fl,gp,tab,simprocAttr,reduceCtorEq,reduceIte]
 refine fin_run trivial (hK _ ?_)<;>clear hK<;>clear K
 refine qa (qm (qm ?_))
 refine hk_own0 4 rfl ?_
 refine hk_region fun K hK=>runs_eval tab_ok ?_
 simp only [ev0,evA,evB,evP,fl,gp,tab,simprocAttr,reduceCtorEq,reduceIte,il_length]
 refine fin_run trivial (hK _ ?_)<;>clear hK<;>clear K
 refine qa (ql ?_)
 refine hk_loop (ι:=Nat) (fun i=>⟨21,[(1,.p (.ptr [.list (il (thl n P))])),(4,.sl 0 0 (atl P ((thl n p).take i)).length),(7,.p (.list (il (thl n p)))),(8,.p (.int .i64 (thl n p).length)),(9,.p (.int .i64 i))],[.own (ol (atl P ((thl n p).take i)))]⟩) (fun i=>i≤(thl n p).length) (fun i=>(thl n p).length - i) 0 (Nat.zero_le _) [0] (by simp only [leq,leA,ev0,evA,evB,evP,fl,gp,tab,simprocAttr,reduceCtorEq,reduceIte]<;>simp [atl,ol_nil]) fun i hi=>?_
 have hrl:(atl P ((thl n p).take i)).length=i:=by simp [atl]; omega
 refine qm ?_
 refine hk_region fun K hK=>runs_eval tab_ok ?_
 simp only [ev0,evA,evB,evP,fl,gp,tab,simprocAttr,reduceCtorEq,reduceIte]
 refine fin_run trivial (hK _ ?_)<;>clear hK<;>clear K
 refine qa (qm ?_)
 refine hk_cond rfl (fun hC1=>?_) (fun hC1=>?_)
 ·(try simp only [nhs] at hC1)
  have hlt:i < (thl n p).length:=by omega
  obtain ⟨a,ha,hpa,hga⟩:=thl_get hlt
  have hix:=ix_thl ha (hpP a ha hpa)
  have hst:atl P ((thl n p).take (i + 1))=atl P ((thl n p).take i)++[((pix P a:Nat):Int)]:=by
   unfold atl
   rw [List.take_succ_eq_append_getElem hlt,List.map_append]
   rw [show (thl n p)[i]=(thl n p).getD i 0 by simp [List.getD,List.getElem?_eq_getElem hlt],hga]
   rfl
  refine qh (qa (qm (ql (qm ?_))))
  refine hk_region fun K hK=>runs_eval tab_ok ?_
  simp only [ev0,evA,evB,evP,fl,gp,tab,simprocAttr,reduceCtorEq,reduceIte,il_get hlt,hga]
  refine fin_run ?_ (hK _ ?_)<;>clear hK<;>clear K
  ·(first|exact trivial|omega|(simp only [In64] at *; omega)|(simp [In64] at *; omega)|(simp_all; done)|skip)
  refine qa ?_
  refine hk_region fun K hK=>runs_eval tab_ok ?_
  simp only [ev0,evA,evB,evP,fl,gp,tab,simprocAttr,reduceCtorEq,reduceIte]
  refine fin_stop trivial (runs_call (index_c (thl n P) a (by omega)) rfl rfl rfl (by simp only [dstOk,Nat.reduceLT]) (by repeat (first|exact trivial|constructor)) (runs_eval tab_ok ?_))
  simp only [ev0,evA,evB,evP,fl,gp,tab,simprocAttr,reduceCtorEq,reduceIte,hix]
  refine fin_run ?_ (hK _ ?_)<;>clear hK<;>clear K
  ·(first|exact trivial|omega|(simp only [In64] at *; omega)|(simp [In64] at *; omega)|(simp_all; done)|skip)
  refine qd (qa ?_)
  refine hk_region fun K hK=>runs_eval tab_ok ?_
  simp only [ev0,evA,evB,evP,fl,gp,tab,simprocAttr,reduceCtorEq,reduceIte]
  refine fin_run ?_ (hK _ ?_)<;>clear hK<;>clear K
  ·(first|exact trivial|omega|(simp only [In64] at *; omega)|(simp [In64] at *; omega)|(simp_all; done)|skip)
  refine qa ?_
  refine ⟨i + 1,[1],by omega,by omega,?_⟩
  rw [hst]
  simp only [leq,leA,ev0,evA,evB,evP,fl,gp,tab,simprocAttr,reduceCtorEq,reduceIte]<;>first|trivial|omega|trace_state
 ·(try simp only [nhs] at hC1)
  have hin:i=(thl n p).length:=by omega
  rw [hin,List.take_length,atl_thl hpP]
  rw [hin,List.take_length,atl_thl hpP] at hrl
  refine hk_seal 4 0 rfl rfl ?_
  refine qj (qc (qc (qf (qa (qm ?_)))))
  refine hk_region fun K hK=>runs_eval tab_ok ?_
  simp only [ev0,evA,evB,evP,fl,gp,tab,simprocAttr,reduceCtorEq,reduceIte]
  refine fin_run trivial (hK _ ?_)<;>clear hK<;>clear K
  refine qa (qk ?_)
  simp only [Tryd.results121,enA,ev0,evA,evB,evP,fl,gp,tab,simprocAttr,reduceCtorEq,reduceIte]
  all_goals (rfl)

section
variable {n e:Nat} {m:List Int}
open Classical in
theorem spl_some {f:Nat→Nat→Nat} {SL:List Nat} {P:Nat→Bool} {k i j:Nat} (hi:i < SL.length) (hj:j < SL.length) (hb:∀ t,t < i * SL.length + j→gd n f e SL P t=false) (hg:gdp n f e P (ts SL i) (ts SL j)):spl n f e SL (k + 1) P=spl n f e SL k (ts SL i)++spl n f e SL k (ts SL j):=by
 have hij:i * SL.length + j < SL.length * SL.length:=by
  have:(i + 1) * SL.length≤SL.length * SL.length:=Nat.mul_le_mul_right _ hi
  rw [Nat.add_mul,Nat.one_mul] at this
  omega
 have hL:0 < SL.length:=by omega
 have e1:(i * SL.length + j) / SL.length=i:=by rw [Nat.mul_comm i,Nat.mul_add_div hL,Nat.div_eq_of_lt hj,Nat.add_zero]
 have e2:(i * SL.length + j) % SL.length=j:=by rw [Nat.mul_comm i,Nat.mul_add_mod,Nat.mod_eq_of_lt hj]
 have hgd:gd n f e SL P (i * SL.length + j)=true:=by
  unfold gd
  rw [e1,e2]
  exact decide_eq_true hg
 conv=>lhs; unfold spl
 rw [fst_some hij hgd hb]
 simp only [e1,e2]
theorem spl_none {f:Nat→Nat→Nat} {SL:List Nat} {P:Nat→Bool} {k:Nat} (hb:∀ t,t < SL.length * SL.length→gd n f e SL P t=false):spl n f e SL (k + 1) P=[thl n P]:=by
 unfold spl
 rw [fst_none hb]
open Classical in
theorem gd_no {f:Nat→Nat→Nat} {SL:List Nat} {P:Nat→Bool} {i j:Nat} (hj:j < SL.length) (h:¬ gdp n f e P (ts SL i) (ts SL j)):gd n f e SL P (i * SL.length + j)=false:=by
 have hL:0 < SL.length:=by omega
 have e1:(i * SL.length + j) / SL.length=i:=by rw [Nat.mul_comm i,Nat.mul_add_div hL,Nat.div_eq_of_lt hj,Nat.add_zero]
 have e2:(i * SL.length + j) % SL.length=j:=by rw [Nat.mul_comm i,Nat.mul_add_mod,Nat.mod_eq_of_lt hj]
 unfold gd
 rw [e1,e2]
 exact decide_eq_false h
theorem gd_row {f:Nat→Nat→Nat} {SL:List Nat} {P:Nat→Bool} {i:Nat} (hb:∀ t,t < i * SL.length→gd n f e SL P t=false) (h:∀ j,j < SL.length→¬ gdp n f e P (ts SL i) (ts SL j)):∀ t,t < (i + 1) * SL.length→gd n f e SL P t=false:=fun t ht=>by
 rw [Nat.add_mul,Nat.one_mul] at ht
 by_cases h1:t < i * SL.length
 ·exact hb t h1
 ·have:=gd_no (i:=i) (f:=f) (SL:=SL) (P:=P) (j:=t - i * SL.length) (by omega) (h _ (by omega))
  rwa [show i * SL.length + (t - i * SL.length)=t by omega] at this
theorem andn_sub {SL:List Nat} {P p:Nat→Bool} {x:Nat} (hn:n≤60) (hx:x=bo n p):decide (((andn x (bo n P):Nat):Int)=0)=decide (∀ a,a < n→p a=true→P a=true):=by
 refine decide_eq_decide.2 ?_
 have h0:((andn x (bo n P):Nat):Int)=0↔andn x (bo n P)=0:=by omega
 rw [h0,hx,andn_zero (bo_lt64 hn p) (bo_lt64 hn P)]
 constructor
 ·intro h a ha hp
  have:=h a (by rw [bo_bit]; simp [ha,hp])
  rw [bo_bit] at this
  simpa [ha] using this
 ·intro h i hi
  rw [bo_bit] at hi ⊢
  simp only [Bool.and_eq_true,decide_eq_true_eq] at hi ⊢
  exact ⟨hi.1,h i hi.1 hi.2⟩

theorem em5 (A B C D:Prop):¬ A∨(A∧¬ B)∨(A∧B∧¬ C)∨(A∧B∧C∧¬ D)∨(A∧B∧C∧D):=by
 by_cases a:A<;>by_cases b:B<;>by_cases c:C<;>by_cases d:D<;>simp [a,b,c,d]
theorem em4 (A B C:Prop):¬ A∨(A∧¬ B)∨(A∧B∧¬ C)∨(A∧B∧C):=by
 by_cases a:A<;>by_cases b:B<;>by_cases c:C<;>simp [a,b,c]
set_option maxRecDepth 20000 in
set_option maxHeartbeats 16000000 in
theorem parts_step (h:GT n m n e) (hn:n≤24) {SL:List Nat} (hS:AllS n (op m n) e SL) (k:Nat) {X0:PV} (IH:∀ P,Sub n (op m n) e P→(thl n P).length≤k→FnG Tryd.prog 120 [.list (il (thl n P)),.ptr [.list (ul SL)],.ptr [.int .i64 n,.list (il m)],X0] (.sl 0 0 (spl n (op m n) e SL k P).length) [.own (opl (ll (spl n (op m n) e SL k P)))])
  (hlen:∀ P,Sub n (op m n) e P→(thl n P).length≤k→(spl n (op m n) e SL k P).length≤24) {P:Nat→Bool} (hP:Sub n (op m n) e P) (hk:(thl n P).length≤k + 1) :
  FnG Tryd.prog 120 [.list (il (thl n P)),.ptr [.list (ul SL)],.ptr [.int .i64 n,.list (il m)],.ptr [.fn 120 [.ptr [.list (ul SL)],.ptr [.int .i64 n,.list (il m)],X0]]] (.sl 0 0 (spl n (op m n) e SL (k + 1) P).length) [.own (opl (ll (spl n (op m n) e SL (k + 1) P)))]:=by
 have G:=h.2.2
 have hb:=h.2.1.big
 have hSl:=hS.len hn
 have lP:=thl_le n P
 have hP64:=bo_lt64 hb P
 refine fng_of tab_ok Tryd.func120 rfl (by kernel_rfl) (by rw [Tryd.ntmps120]; exact Nat.le_add_left 4 _) ?_; rw [Tryd.ntmps120]
 refine qm ?_
 refine hk_region fun K hK=>runs_eval tab_ok ?_
 simp only [ev0,evA,evB,evP,fl,gp,tab,simprocAttr,reduceCtorEq,reduceIte]
 refine fin_run ?_ (hK _ ?_)<;>clear hK<;>clear K
 ·(first|exact trivial|omega|(simp only [In64] at *; omega)|(simp [In64] at *; omega)|(simp_all; done)|skip)
 refine qa (qm (qm ?_))
 refine hk_freeze 0 rfl rfl ?_
 refine hk_pure 4 rfl (Nat.zero_le _) ?_
 simp only [hset,List.drop_zero]
 refine hk_region fun K hK=>runs_eval tab_ok ?_
 simp only [ev0,evA,evB,evP,fl,gp,tab,simprocAttr,reduceCtorEq,reduceIte,ul_length]
 refine fin_run ?_ (hK _ ?_)<;>clear hK<;>clear K
 ·(first|exact trivial|omega|(simp only [In64] at *; omega)|(simp [In64] at *; omega)|(simp_all; done)|skip)
 refine qa (ql ?_)
 refine hk_loop (ι:=Nat) (fun i=>⟨111,[(1,.p (.ptr [.list (ul SL)])),(2,.p (.ptr [.int .i64 n,.list (il m)])),(3,.p (.ptr [.fn 120 [.ptr [.list (ul SL)],.ptr [.int .i64 n,.list (il m)],X0]])),(4,.p (.ptr [.list (il (thl n P))])),(17,.p (.list (ul SL))),(18,.p (.int .i64 SL.length)),(19,.p (.int .i64 i))],[]⟩) (fun i=>i≤SL.length∧∀ t,t < i * SL.length→gd n (op m n) e SL P t=false) (fun i=>SL.length - i) 0 ⟨Nat.zero_le _,fun t ht=>absurd ht (by simp)⟩ [] (by simp only [leq,leA,ev0,evA,evB,evP,fl,gp,tab,simprocAttr,reduceCtorEq,reduceIte]<;>first|trivial|trace_state) fun i hi=>?_
 obtain ⟨hi1,hi2⟩:=hi
 refine qm ?_
 refine hk_region fun K hK=>runs_eval tab_ok ?_
 simp only [ev0,evA,evB,evP,fl,gp,tab,simprocAttr,reduceCtorEq,reduceIte]
 refine fin_run trivial (hK _ ?_)<;>clear hK<;>clear K
 refine qa (qm ?_)
 refine hk_cond rfl (fun hC1=>?_) (fun hC1=>?_)
 ·(try simp only [nhs] at hC1)
  have hlt:i < SL.length:=by omega
  obtain ⟨sp,ep⟩:=ts_at G hS hlt
  have hst:=stl_bo hb (ts SL i)
  have lp:=thl_le n (ts SL i)
  have l1:=len_pos G sp
  have hx64:=bo_lt64 hb (ts SL i)
  refine qh (qa (qm (ql (qm ?_))))
  refine hk_region fun K hK=>runs_eval tab_ok ?_
  simp only [ev0,evA,evB,evP,fl,gp,tab,simprocAttr,reduceCtorEq,reduceIte,ul_length,ul_get hlt,ep]
  refine fin_run ?_ (hK _ ?_)<;>clear hK<;>clear K
  ·exact ⟨by omega,by omega⟩
  refine qa (qm ?_)
  refine hk_region fun K hK=>runs_eval tab_ok ?_
  simp only [ev0,evA,evB,evP,fl,gp,tab,simprocAttr,reduceCtorEq,reduceIte]
  refine fin_stop trivial (runs_call (list_s (bo n (ts SL i)) hx64) rfl rfl rfl (by simp only [dstOk,Nat.reduceLT]) (by repeat (first|exact trivial|constructor)) (runs_eval tab_ok ?_))
  simp only [ev0,evA,evB,evP,fl,gp,tab,simprocAttr,reduceCtorEq,reduceIte,hst]
  refine fin_run trivial (hK _ ?_)<;>clear hK<;>clear K
  refine qa (qm (qm ?_))
  rcases em5 (¬ (thl n (ts SL i)).length=1) (¬ (thl n (ts SL i)).length=(thl n P).length) (∀ a,a < n→ts SL i a=true→P a=true) ((thl n P).length % (thl n (ts SL i)).length=0) with c1 | ⟨c1,c2⟩ | ⟨c1,c2,c3⟩ | ⟨c1,c2,c3,c4⟩ | ⟨c1,c2,c3,c4⟩
  ·have hbad:∀ j,¬ gdp n (op m n) e P (ts SL i) (ts SL j):=fun j hg=>c1 hg.1.1
   refine hk_region fun K hK=>runs_eval tab_ok ?_
   simp only [ev0,evA,evB,evP,fl,gp,tab,simprocAttr,reduceCtorEq,reduceIte,il_length,decide_eq_true (show (((thl n (ts SL i)).length:Nat):Int)=1 by omega)]
   refine fin_run trivial (hK _ ?_)<;>clear hK<;>clear K
   refine qa ?_
   refine hk_cond rfl (fun hC2=>?_) (fun hC2=>?_)
   ·refine qj (qc (qf (qa ?_)))
    refine hk_region fun K hK=>runs_eval tab_ok ?_
    simp only [ev0,evA,evB,evP,fl,gp,tab,simprocAttr,reduceCtorEq,reduceIte]
    refine fin_run ?_ (hK _ ?_)<;>clear hK<;>clear K
    ·(first|exact trivial|omega|(simp only [In64] at *; omega)|(simp [In64] at *; omega)|(simp_all; done)|skip)
    refine qa ?_
    refine ⟨i + 1,[],⟨by omega,gd_row hi2 fun j _=>hbad j⟩,by omega,?_⟩
    simp only [leq,leA,ev0,evA,evB,evP,fl,gp,tab,simprocAttr,reduceCtorEq,reduceIte]<;>first|trivial|omega|trace_state
   ·cases hC2
  ·have hbad:∀ j,¬ gdp n (op m n) e P (ts SL i) (ts SL j):=fun j hg=>c2 hg.1.2.1
   refine hk_region fun K hK=>runs_eval tab_ok ?_
   simp only [ev0,evA,evB,evP,fl,gp,tab,simprocAttr,reduceCtorEq,reduceIte,il_length,decide_eq_false (show ¬ (((thl n (ts SL i)).length:Nat):Int)=1 by omega),decide_eq_true (show (((thl n (ts SL i)).length:Nat):Int)=((thl n P).length:Nat) by omega)]
   refine fin_run ?_ (hK _ ?_)<;>clear hK<;>clear K
   ·(first|exact trivial|omega|(simp only [In64] at *; omega)|(simp [In64] at *; omega)|(simp_all; done)|skip)
   refine qa ?_
   refine hk_cond rfl (fun hC2=>?_) (fun hC2=>?_)
   ·refine qj (qc (qf (qa ?_)))
    refine hk_region fun K hK=>runs_eval tab_ok ?_
    simp only [ev0,evA,evB,evP,fl,gp,tab,simprocAttr,reduceCtorEq,reduceIte]
    refine fin_run ?_ (hK _ ?_)<;>clear hK<;>clear K
    ·(first|exact trivial|omega|(simp only [In64] at *; omega)|(simp [In64] at *; omega)|(simp_all; done)|skip)
    refine qa ?_
    refine ⟨i + 1,[],⟨by omega,gd_row hi2 fun j _=>hbad j⟩,by omega,?_⟩
    simp only [leq,leA,ev0,evA,evB,evP,fl,gp,tab,simprocAttr,reduceCtorEq,reduceIte]<;>first|trivial|omega|trace_state
   ·cases hC2
  ·have hbad:∀ j,¬ gdp n (op m n) e P (ts SL i) (ts SL j):=fun j hg=>c3 hg.1.2.2.1
   have hsub:=andn_sub (SL:=SL) (P:=P) hb ep
   rw [ep,decide_eq_false c3] at hsub
   refine hk_region fun K hK=>runs_eval tab_ok ?_
   simp only [ev0,evA,evB,evP,fl,gp,tab,simprocAttr,reduceCtorEq,reduceIte,il_length,decide_eq_false (show ¬ (((thl n (ts SL i)).length:Nat):Int)=1 by omega),decide_eq_false (show ¬ (((thl n (ts SL i)).length:Nat):Int)=((thl n P).length:Nat) by omega),msk_thl,bv_andn,hsub]
   refine fin_stop trivial (runs_call (of_s (thl n P) (by omega) (thl_rng hb P)) rfl rfl rfl (by simp only [dstOk,Nat.reduceLT]) (by repeat (first|exact trivial|constructor)) (runs_eval tab_ok ?_))
   simp only [ev0,evA,evB,evP,fl,gp,tab,simprocAttr,reduceCtorEq,reduceIte,il_length,decide_eq_false (show ¬ (((thl n (ts SL i)).length:Nat):Int)=1 by omega),decide_eq_false (show ¬ (((thl n (ts SL i)).length:Nat):Int)=((thl n P).length:Nat) by omega),msk_thl,bv_andn,hsub]
   refine fin_run ?_ (hK _ ?_)<;>clear hK<;>clear K
   ·(first|exact trivial|omega|(simp only [In64] at *; omega)|(simp [In64] at *; omega)|(simp_all; done)|skip)
   refine qa ?_
   refine hk_cond rfl (fun hC2=>?_) (fun hC2=>?_)
   ·refine qj (qc (qf (qa ?_)))
    refine hk_region fun K hK=>runs_eval tab_ok ?_
    simp only [ev0,evA,evB,evP,fl,gp,tab,simprocAttr,reduceCtorEq,reduceIte]
    refine fin_run ?_ (hK _ ?_)<;>clear hK<;>clear K
    ·(first|exact trivial|omega|(simp only [In64] at *; omega)|(simp [In64] at *; omega)|(simp_all; done)|skip)
    refine qa ?_
    refine ⟨i + 1,[],⟨by omega,gd_row hi2 fun j _=>hbad j⟩,by omega,?_⟩
    simp only [leq,leA,ev0,evA,evB,evP,fl,gp,tab,simprocAttr,reduceCtorEq,reduceIte]<;>first|trivial|omega|trace_state
   ·cases hC2
  ·have hbad:∀ j,¬ gdp n (op m n) e P (ts SL i) (ts SL j):=fun j hg=>c4 hg.1.2.2.2
   have hsub:=andn_sub (SL:=SL) (P:=P) hb ep
   rw [ep,decide_eq_true c3] at hsub
   refine hk_region fun K hK=>runs_eval tab_ok ?_
   simp only [ev0,evA,evB,evP,fl,gp,tab,simprocAttr,reduceCtorEq,reduceIte,il_length,decide_eq_false (show ¬ (((thl n (ts SL i)).length:Nat):Int)=1 by omega),decide_eq_false (show ¬ (((thl n (ts SL i)).length:Nat):Int)=((thl n P).length:Nat) by omega),msk_thl,bv_andn,hsub,tm_nat]
   refine fin_stop trivial (runs_call (of_s (thl n P) (by omega) (thl_rng hb P)) rfl rfl rfl (by simp only [dstOk,Nat.reduceLT]) (by repeat (first|exact trivial|constructor)) (runs_eval tab_ok ?_))
   simp only [ev0,evA,evB,evP,fl,gp,tab,simprocAttr,reduceCtorEq,reduceIte,il_length,decide_eq_false (show ¬ (((thl n (ts SL i)).length:Nat):Int)=1 by omega),decide_eq_false (show ¬ (((thl n (ts SL i)).length:Nat):Int)=((thl n P).length:Nat) by omega),msk_thl,bv_andn,hsub,tm_nat]
   refine fin_run ?_ (hK _ ?_)<;>clear hK<;>clear K
   ·(first|exact trivial|omega|(simp only [In64] at *; omega)|(simp [In64] at *; omega)|(simp_all; done)|skip)
   refine qa ?_
   refine hk_cond rfl (fun hC2=>?_) (fun hC2=>?_)
   ·(try simp only [nhs] at hC2)
    refine qj (qc (qf (qa ?_)))
    refine hk_region fun K hK=>runs_eval tab_ok ?_
    simp only [ev0,evA,evB,evP,fl,gp,tab,simprocAttr,reduceCtorEq,reduceIte]
    refine fin_run ?_ (hK _ ?_)<;>clear hK<;>clear K
    ·(first|exact trivial|omega|(simp only [In64] at *; omega)|(simp [In64] at *; omega)|(simp_all; done)|skip)
    refine qa ?_
    refine ⟨i + 1,[],⟨by omega,gd_row hi2 fun j _=>hbad j⟩,by omega,?_⟩
    simp only [leq,leA,ev0,evA,evB,evP,fl,gp,tab,simprocAttr,reduceCtorEq,reduceIte]<;>first|trivial|omega|trace_state
   ·(try simp only [nhs] at hC2)
    omega
  ·have hsub:=andn_sub (SL:=SL) (P:=P) hb ep
   rw [ep,decide_eq_true c3] at hsub
   refine hk_region fun K hK=>runs_eval tab_ok ?_
   simp only [ev0,evA,evB,evP,fl,gp,tab,simprocAttr,reduceCtorEq,reduceIte,il_length,decide_eq_false (show ¬ (((thl n (ts SL i)).length:Nat):Int)=1 by omega),decide_eq_false (show ¬ (((thl n (ts SL i)).length:Nat):Int)=((thl n P).length:Nat) by omega),msk_thl,bv_andn,hsub,tm_nat]
   refine fin_stop trivial (runs_call (of_s (thl n P) (by omega) (thl_rng hb P)) rfl rfl rfl (by simp only [dstOk,Nat.reduceLT]) (by repeat (first|exact trivial|constructor)) (runs_eval tab_ok ?_))
   simp only [ev0,evA,evB,evP,fl,gp,tab,simprocAttr,reduceCtorEq,reduceIte,il_length,decide_eq_false (show ¬ (((thl n (ts SL i)).length:Nat):Int)=1 by omega),decide_eq_false (show ¬ (((thl n (ts SL i)).length:Nat):Int)=((thl n P).length:Nat) by omega),msk_thl,bv_andn,hsub,tm_nat]
   refine fin_run ?_ (hK _ ?_)<;>clear hK<;>clear K
   ·(first|exact trivial|omega|(simp only [In64] at *; omega)|(simp [In64] at *; omega)|(simp_all; done)|skip)
   refine qa ?_
   refine hk_cond rfl (fun hC2=>?_) (fun hC2=>?_)
   ·(try simp only [nhs] at hC2)
    omega
   ·(try simp only [nhs] at hC2)
    refine qh (qa (qm ?_))
    refine hk_region fun K hK=>runs_eval tab_ok ?_
    simp only [ev0,evA,evB,evP,fl,gp,tab,simprocAttr,reduceCtorEq,reduceIte,ul_length]
    refine fin_run ?_ (hK _ ?_)<;>clear hK<;>clear K
    ·(first|exact trivial|omega|(simp only [In64] at *; omega)|(simp [In64] at *; omega)|(simp_all; done)|skip)
    refine qa (ql ?_)
    refine hk_loop (ι:=Nat) (fun j=>⟨111,[(1,.p (.ptr [.list (ul SL)])),(2,.p (.ptr [.int .i64 n,.list (il m)])),(3,.p (.ptr [.fn 120 [.ptr [.list (ul SL)],.ptr [.int .i64 n,.list (il m)],X0]])),(4,.p (.ptr [.list (il (thl n P))])),(7,.p (.int .u64 (bo n (ts SL i):Nat))),(8,.p (.list (il (thl n (ts SL i))))),(17,.p (.list (ul SL))),(18,.p (.int .i64 SL.length)),(19,.p (.int .i64 i)),(50,.p (.list (ul SL))),(51,.p (.int .i64 SL.length)),(52,.p (.int .i64 j))],[]⟩) (fun j=>j≤SL.length∧∀ t,t < i * SL.length + j→gd n (op m n) e SL P t=false) (fun j=>SL.length - j) 0 ⟨Nat.zero_le _,hi2⟩ [] (by simp only [leq,leA,ev0,evA,evB,evP,fl,gp,tab,simprocAttr,reduceCtorEq,reduceIte]<;>first|trivial|trace_state) fun j hj=>?_
    obtain ⟨hj1,hj2⟩:=hj
    refine qm ?_
    refine hk_region fun K hK=>runs_eval tab_ok ?_
    simp only [ev0,evA,evB,evP,fl,gp,tab,simprocAttr,reduceCtorEq,reduceIte]
    refine fin_run trivial (hK _ ?_)<;>clear hK<;>clear K
    refine qa (qm ?_)
    refine hk_cond rfl (fun hC3=>?_) (fun hC3=>?_)
    ·(try simp only [nhs] at hC3)
     have hlj:j < SL.length:=by omega
     obtain ⟨sq,eq⟩:=ts_at G hS hlj
     have hsq:=stl_bo hb (ts SL j)
     have lq:=thl_le n (ts SL j)
     have hy64:=bo_lt64 hb (ts SL j)
     have hsub2:=andn_sub (SL:=SL) (P:=P) hb eq
     rw [eq] at hsub2
     have hmul:(thl n (ts SL i)).length * (thl n (ts SL j)).length≤60 * 60:=Nat.mul_le_mul (by omega) (by omega)
     have hmi:(((thl n (ts SL i)).length:Nat):Int) * (((thl n (ts SL j)).length:Nat):Int)=(((thl n (ts SL i)).length * (thl n (ts SL j)).length:Nat):Int):=by rw [Int.natCast_mul]
     have hmt:bo n (fun y=>ts SL i y && ts SL j y)=bo n (onp e)↔∀ a,a < n→ts SL i a=true→ts SL j a=true→a=e:=by
      rw [← G.meet_one sp sq,G.meet_len sp sq]
     refine qh (qa (qm (ql (qm ?_))))
     refine hk_region fun K hK=>runs_eval tab_ok ?_
     simp only [ev0,evA,evB,evP,fl,gp,tab,simprocAttr,reduceCtorEq,reduceIte,ul_length,ul_get hlj,eq]
     refine fin_run ?_ (hK _ ?_)<;>clear hK<;>clear K
     ·exact ⟨by omega,by omega⟩
     refine qa (qm ?_)
     refine hk_region fun K hK=>runs_eval tab_ok ?_
     simp only [ev0,evA,evB,evP,fl,gp,tab,simprocAttr,reduceCtorEq,reduceIte]
     refine fin_stop trivial (runs_call (list_s (bo n (ts SL j)) hy64) rfl rfl rfl (by simp only [dstOk,Nat.reduceLT]) (by repeat (first|exact trivial|constructor)) (runs_eval tab_ok ?_))
     simp only [ev0,evA,evB,evP,fl,gp,tab,simprocAttr,reduceCtorEq,reduceIte,hsq]
     refine fin_run trivial (hK _ ?_)<;>clear hK<;>clear K
     refine qa (qm (qm ?_))
     rcases em4 ((thl n (ts SL i)).length * (thl n (ts SL j)).length=(thl n P).length) (∀ a,a < n→ts SL j a=true→P a=true) (∀ a,a < n→ts SL i a=true→ts SL j a=true→a=e) with d1 | ⟨d1,d2⟩ | ⟨d1,d2,d3⟩ | ⟨d1,d2,d3⟩
     ·have hno:¬ gdp n (op m n) e P (ts SL i) (ts SL j):=fun hg=>d1 hg.2.1.1
      refine hk_region fun K hK=>runs_eval tab_ok ?_
      simp only [ev0,evA,evB,evP,fl,gp,tab,simprocAttr,reduceCtorEq,reduceIte,il_length,hmi,decide_eq_false (show ¬ (((thl n (ts SL i)).length * (thl n (ts SL j)).length:Nat):Int)=((thl n P).length:Nat) by omega)]
      refine fin_run ?_ (hK _ ?_)<;>clear hK<;>clear K
      ·(first|exact trivial|omega|(simp only [In64] at *; omega)|(simp [In64] at *; omega)|(simp_all; done)|skip)
      refine qa ?_
      refine hk_cond rfl (fun hC4=>?_) (fun hC4=>?_)
      ·refine qj (qc (qf (qa ?_)))
       refine hk_region fun K hK=>runs_eval tab_ok ?_
       simp only [ev0,evA,evB,evP,fl,gp,tab,simprocAttr,reduceCtorEq,reduceIte]
       refine fin_run ?_ (hK _ ?_)<;>clear hK<;>clear K
       ·(first|exact trivial|omega|(simp only [In64] at *; omega)|(simp [In64] at *; omega)|(simp_all; done)|skip)
       refine qa ?_
       refine ⟨j + 1,[],⟨by omega,fun t ht=>?_⟩,by omega,?_⟩
       ·by_cases htj:t < i * SL.length + j
        ·exact hj2 t htj
        ·have e1:t=i * SL.length + j:=by omega
         rw [e1]
         exact gd_no hlj hno
       ·simp only [leq,leA,ev0,evA,evB,evP,fl,gp,tab,simprocAttr,reduceCtorEq,reduceIte]<;>first|trivial|omega|trace_state
      ·cases hC4
     ·have hno:¬ gdp n (op m n) e P (ts SL i) (ts SL j):=fun hg=>d2 hg.2.1.2.1
      rw [decide_eq_false d2] at hsub2
      refine hk_region fun K hK=>runs_eval tab_ok ?_
      simp only [ev0,evA,evB,evP,fl,gp,tab,simprocAttr,reduceCtorEq,reduceIte,il_length,hmi,decide_eq_true (show (((thl n (ts SL i)).length * (thl n (ts SL j)).length:Nat):Int)=((thl n P).length:Nat) by omega),msk_thl,bv_andn,hsub2]
      refine fin_stop ?_ (runs_call (of_s (thl n P) (by omega) (thl_rng hb P)) rfl rfl rfl (by simp only [dstOk,Nat.reduceLT]) (by repeat (first|exact trivial|constructor)) (runs_eval tab_ok ?_))
      ·first|exact trivial|(simp only [In64]; omega)
      simp only [ev0,evA,evB,evP,fl,gp,tab,simprocAttr,reduceCtorEq,reduceIte,il_length,hmi,decide_eq_true (show (((thl n (ts SL i)).length * (thl n (ts SL j)).length:Nat):Int)=((thl n P).length:Nat) by omega),msk_thl,bv_andn,hsub2]
      refine fin_run ?_ (hK _ ?_)<;>clear hK<;>clear K
      ·(first|exact trivial|omega|(simp only [In64] at *; omega)|(simp [In64] at *; omega)|(simp_all; done)|skip)
      refine qa ?_
      refine hk_cond rfl (fun hC4=>?_) (fun hC4=>?_)
      ·refine qj (qc (qf (qa ?_)))
       refine hk_region fun K hK=>runs_eval tab_ok ?_
       simp only [ev0,evA,evB,evP,fl,gp,tab,simprocAttr,reduceCtorEq,reduceIte]
       refine fin_run ?_ (hK _ ?_)<;>clear hK<;>clear K
       ·(first|exact trivial|omega|(simp only [In64] at *; omega)|(simp [In64] at *; omega)|(simp_all; done)|skip)
       refine qa ?_
       refine ⟨j + 1,[],⟨by omega,fun t ht=>?_⟩,by omega,?_⟩
       ·by_cases htj:t < i * SL.length + j
        ·exact hj2 t htj
        ·have e1:t=i * SL.length + j:=by omega
         rw [e1]
         exact gd_no hlj hno
       ·simp only [leq,leA,ev0,evA,evB,evP,fl,gp,tab,simprocAttr,reduceCtorEq,reduceIte]<;>first|trivial|omega|trace_state
      ·cases hC4
     ·have hno:¬ gdp n (op m n) e P (ts SL i) (ts SL j):=fun hg=>d3 hg.2.1.2.2
      rw [decide_eq_true d2] at hsub2
      have hmf:¬ ((bo n (fun y=>ts SL i y && ts SL j y):Nat):Int)=(bo n (onp e):Nat):=fun hh=>d3 (hmt.1 (by omega))
      refine hk_region fun K hK=>runs_eval tab_ok ?_
      simp only [ev0,evA,evB,evP,fl,gp,tab,simprocAttr,reduceCtorEq,reduceIte,il_length,hmi,decide_eq_true (show (((thl n (ts SL i)).length * (thl n (ts SL j)).length:Nat):Int)=((thl n P).length:Nat) by omega),msk_thl,bv_andn,hsub2,bv_and hx64 hy64,bo_and,decide_eq_false hmf]
      refine fin_stop ?_ (runs_call (of_s (thl n P) (by omega) (thl_rng hb P)) rfl rfl rfl (by simp only [dstOk,Nat.reduceLT]) (by repeat (first|exact trivial|constructor)) (runs_eval tab_ok ?_))
      ·first|exact trivial|(simp only [In64]; omega)
      simp only [ev0,evA,evB,evP,fl,gp,tab,simprocAttr,reduceCtorEq,reduceIte,il_length,hmi,decide_eq_true (show (((thl n (ts SL i)).length * (thl n (ts SL j)).length:Nat):Int)=((thl n P).length:Nat) by omega),msk_thl,bv_andn,hsub2,bv_and hx64 hy64,bo_and,decide_eq_false hmf]
      refine fin_stop trivial (runs_call (grow_c h 0 (Nat.pow_pos (by omega)) (onp e) onp_gen) rfl rfl rfl (by simp only [dstOk,Nat.reduceLT]) (by repeat (first|exact trivial|constructor)) (runs_eval tab_ok ?_))
      simp only [ev0,evA,evB,evP,fl,gp,tab,simprocAttr,reduceCtorEq,reduceIte,il_length,hmi,decide_eq_true (show (((thl n (ts SL i)).length * (thl n (ts SL j)).length:Nat):Int)=((thl n P).length:Nat) by omega),msk_thl,bv_andn,hsub2,bv_and hx64 hy64,bo_and,decide_eq_false hmf]
      refine fin_run ?_ (hK _ ?_)<;>clear hK<;>clear K
      ·(first|exact trivial|omega|(simp only [In64] at *; omega)|(simp [In64] at *; omega)|(simp_all; done)|skip)
      refine qa ?_
      refine hk_cond rfl (fun hC4=>?_) (fun hC4=>?_)
      ·(try simp only [nhs] at hC4)
       refine qj (qc (qf (qa ?_)))
       refine hk_region fun K hK=>runs_eval tab_ok ?_
       simp only [ev0,evA,evB,evP,fl,gp,tab,simprocAttr,reduceCtorEq,reduceIte]
       refine fin_run ?_ (hK _ ?_)<;>clear hK<;>clear K
       ·(first|exact trivial|omega|(simp only [In64] at *; omega)|(simp [In64] at *; omega)|(simp_all; done)|skip)
       refine qa ?_
       refine ⟨j + 1,[],⟨by omega,fun t ht=>?_⟩,by omega,?_⟩
       ·by_cases htj:t < i * SL.length + j
        ·exact hj2 t htj
        ·have e1:t=i * SL.length + j:=by omega
         rw [e1]
         exact gd_no hlj hno
       ·simp only [leq,leA,ev0,evA,evB,evP,fl,gp,tab,simprocAttr,reduceCtorEq,reduceIte]<;>first|trivial|omega|trace_state
      ·cases hC4
     ·rw [decide_eq_true d2] at hsub2
      have hmf:((bo n (fun y=>ts SL i y && ts SL j y):Nat):Int)=(bo n (onp e):Nat):=by rw [hmt.2 d3]
      refine hk_region fun K hK=>runs_eval tab_ok ?_
      simp only [ev0,evA,evB,evP,fl,gp,tab,simprocAttr,reduceCtorEq,reduceIte,il_length,hmi,decide_eq_true (show (((thl n (ts SL i)).length * (thl n (ts SL j)).length:Nat):Int)=((thl n P).length:Nat) by omega),msk_thl,bv_andn,hsub2,bv_and hx64 hy64,bo_and,decide_eq_true hmf]
      refine fin_stop ?_ (runs_call (of_s (thl n P) (by omega) (thl_rng hb P)) rfl rfl rfl (by simp only [dstOk,Nat.reduceLT]) (by repeat (first|exact trivial|constructor)) (runs_eval tab_ok ?_))
      ·first|exact trivial|(simp only [In64]; omega)
      simp only [ev0,evA,evB,evP,fl,gp,tab,simprocAttr,reduceCtorEq,reduceIte,il_length,hmi,decide_eq_true (show (((thl n (ts SL i)).length * (thl n (ts SL j)).length:Nat):Int)=((thl n P).length:Nat) by omega),msk_thl,bv_andn,hsub2,bv_and hx64 hy64,bo_and,decide_eq_true hmf]
      refine fin_stop trivial (runs_call (grow_c h 0 (Nat.pow_pos (by omega)) (onp e) onp_gen) rfl rfl rfl (by simp only [dstOk,Nat.reduceLT]) (by repeat (first|exact trivial|constructor)) (runs_eval tab_ok ?_))
      simp only [ev0,evA,evB,evP,fl,gp,tab,simprocAttr,reduceCtorEq,reduceIte,il_length,hmi,decide_eq_true (show (((thl n (ts SL i)).length * (thl n (ts SL j)).length:Nat):Int)=((thl n P).length:Nat) by omega),msk_thl,bv_andn,hsub2,bv_and hx64 hy64,bo_and,decide_eq_true hmf]
      refine fin_run ?_ (hK _ ?_)<;>clear hK<;>clear K
      ·(first|exact trivial|omega|(simp only [In64] at *; omega)|(simp [In64] at *; omega)|(simp_all; done)|skip)
      refine qa ?_
      refine hk_cond rfl (fun hC4=>?_) (fun hC4=>?_)
      ·cases hC4
      ·(try simp only [nhs] at hC4)
       refine qh (qa (qm ?_))
       refine hk_region fun K hK=>runs_eval tab_ok ?_
       simp only [ev0,evA,evB,evP,fl,gp,tab,simprocAttr,reduceCtorEq,reduceIte]
       refine fin_stop trivial (runs_call (part_ok h P hP) rfl rfl rfl (by simp only [dstOk,Nat.reduceLT]) (by repeat (first|exact trivial|constructor)) (runs_eval tab_ok ?_))
       simp only [ev0,evA,evB,evP,fl,gp,tab,simprocAttr,reduceCtorEq,reduceIte]
       refine fin_run ?_ (hK _ ?_)<;>clear hK<;>clear K
       ·(first|exact trivial|omega|(simp only [In64] at *; omega)|(simp [In64] at *; omega)|(simp_all; done)|skip)
       refine qa (qm ?_)
       refine hk_region fun K hK=>runs_eval tab_ok ?_
       simp only [ev0,evA,evB,evP,fl,gp,tab,simprocAttr,reduceCtorEq,reduceIte]
       refine fin_run ?_ (hK _ ?_)<;>clear hK<;>clear K
       ·(first|exact trivial|omega|(simp only [In64] at *; omega)|(simp [In64] at *; omega)|(simp_all; done)|skip)
       refine qa (qm ?_)
       have hPt:=ptb_GT h hP
       have lh:=lat_hmo h hP
       have sp':=pre_sub hPt.2.2 G lh sp
       have sq':=pre_sub hPt.2.2 G lh sq
       obtain ⟨b,hbb⟩:=truth (∀ a c,a < n→c < n→ts SL i a=true→ts SL j c=true→op m n a c=op m n c a)
       have cD:=direct_ok hPt sp' sq' b (by
        rw [hbb,lat_len c3,lat_len d2,(hPt.2.2.meet_len sp' sq').2 fun i' hi' h1 h2=>by
         rw [← d3 _ (lat_at hi').1 h1 h2,(lat_at hi').2.2.2]]
        refine ⟨fun hc=>⟨d1,rfl,fun x y hx hy h1 h2=>?_⟩,fun hc a c ha hc' h1 h2=>?_⟩
        ·have e1:lat n P (op (ptb n (op m n) P) (thl n P).length x y)=lat n P (op (ptb n (op m n) P) (thl n P).length y x):=by
          rw [lh.mul x y hx hy,lh.mul y x hy hx]
          exact hc _ _ (lat_at hx).1 (lat_at hy).1 h1 h2
         rw [← (lat_at (hPt.2.2.cl _ _ hx hy)).2.2.2,e1,(lat_at (hPt.2.2.cl _ _ hy hx)).2.2.2]
        ·have pa:=pix_at ha (c3 a ha h1)
         have pc:=pix_at hc' (d2 c hc' h2)
         have h5:=hc.2.2 _ _ pa.1 pc.1 (show ts SL i (lat n P (pix P a))=true by rw [lat_pixI ha (c3 a ha h1)]; exact h1) (show ts SL j (lat n P (pix P c))=true by rw [lat_pixI hc' (d2 c hc' h2)]; exact h2)
         have h6:=congrArg (lat n P) h5
         rwa [lh.mul _ _ pa.1 pc.1,lh.mul _ _ pc.1 pa.1,lat_pixI ha (c3 a ha h1),lat_pixI hc' (d2 c hc' h2)] at h6)
       refine hk_draw2 mixed fun K hK=>runs2_eval tab_ok ?_
       simp only [evD,ev0,evA,evB,evP,fl,gp,tab,simprocAttr,reduceCtorEq,reduceIte]
       refine fin2_stop trivial (runs2_call (atc_c hb c3) rfl rfl rfl rfl (by simp only [dstOk,Nat.reduceLT]) (by repeat (first|exact trivial|constructor)) (runs2_eval tab_ok ?_))
       simp only [evD,ev0,evA,evB,evP,fl,gp,tab,simprocAttr,reduceCtorEq,reduceIte]
       refine fin2_stop trivial (runs2_call (atc_c hb d2) rfl rfl rfl rfl (by simp only [dstOk,Nat.reduceLT]) (by repeat (first|exact trivial|constructor)) (runs2_eval tab_ok ?_))
       simp only [evD,ev0,evA,evB,evP,fl,gp,tab,simprocAttr,reduceCtorEq,reduceIte]
       refine fin2_stop trivial (runs2_call (cD) rfl rfl rfl rfl (by simp only [dstOk,Nat.reduceLT]) (by repeat (first|exact trivial|constructor)) (runs2_eval tab_ok ?_))
       simp only [evD,ev0,evA,evB,evP,fl,gp,tab,simprocAttr,reduceCtorEq,reduceIte]
       refine fin2_run ?_ (hK _ _ (by first|kernel_rfl|rfl) ?_)<;>clear hK<;>clear K
       ·(first|exact trivial|omega|(simp only [In64] at *; omega)|(simp [In64] at *; omega)|(simp_all; done)|skip)
       refine qa (qm ?_)
       refine hk_region fun K hK=>runs_eval tab_ok ?_
       simp only [ev0,evA,evB,evP,fl,gp,tab,simprocAttr,reduceCtorEq,reduceIte]
       refine fin_run trivial (hK _ ?_)<;>clear hK<;>clear K
       refine qa ?_
       refine hk_cond rfl (fun hC5=>?_) (fun hC5=>?_)
       ·(try simp only [nhs] at hC5)
        have hg:gdp n (op m n) e P (ts SL i) (ts SL j):=⟨⟨c1,c2,c3,c4⟩,⟨d1,d2,d3⟩,hbb.1 (by simpa using hC5)⟩
        have hspl:=spl_some (k:=k) hlt hlj hj2 hg
        obtain ⟨_,_,_,z1,z2⟩:=gdp_dpt G hP sp sq hg
        have IA:=IH _ sp (by omega)
        have IB:=IH _ sq (by omega)
        have lA:=hlen _ sp (by omega)
        have lB:=hlen _ sq (by omega)
        rw [hspl]
        generalize spl n (op m n) e SL k (ts SL i)=RA at *
        generalize spl n (op m n) e SL k (ts SL j)=RB at *
        refine qm ?_
        refine hk_draw2 mixed fun K hK=>runs2_eval tab_ok ?_
        simp only [evD,ev0,evA,evB,evP,fl,gp,tab,simprocAttr,reduceCtorEq,reduceIte]
        refine fin2_stop ?_ (runs2_callG (IA) rfl rfl rfl (by simp only [dstOk,Nat.reduceLT]) (by repeat (first|exact trivial|constructor)) (runs2_eval tab_ok ?_))
        ·(first|exact trivial|omega|(simp only [In64] at *; omega)|(simp [In64] at *; omega)|(simp_all; done)|skip)
        simp only [evD,ev0,evA,evB,evP,fl,gp,tab,simprocAttr,reduceCtorEq,reduceIte]
        refine fin2_stop trivial (runs2_call (FnG_fnc (l:=ll RB) (by rw [ll_length]; exact IB) (ll_all _)) rfl rfl rfl rfl (by simp only [dstOk,Nat.reduceLT]) (by repeat (first|exact trivial|constructor)) (runs2_eval tab_ok ?_))
        simp only [evD,ev0,evA,evB,evP,fl,gp,tab,simprocAttr,reduceCtorEq,reduceIte]
        refine fin2_run ?_ (hK _ _ (by first|kernel_rfl|rfl) ?_)<;>clear hK<;>clear K
        ·have e1:(List.map AV.p (ll RB)).length=RB.length:=by rw [List.length_map,ll_length]
         exact ⟨oll_ok RB,by rw [ll_takeL]; exact oll_ok RA,Nat.le_refl _,by rw [e1]; omega,by rw [e1]; omega⟩
        refine qa (qk (qe (qb (qb (qe (qe (qb (qb (qe (qb ?_))))))))))
        simp only [Tryd.results120,PostG,endG,rvsA,rvA,mkTup,ev0,evA,evB,evP,fl,gp,tab,simprocAttr,reduceCtorEq,reduceIte]
        exact ⟨[4],by show AV.sl 4 0 _=AV.sl 4 0 _; rw [List.length_map,ll_length,List.length_append],rfl,by
         have e1:opl (ll RA)++List.map AV.p (ll RB)=opl (ll (RA++RB)):=by simp [opl,ll]
         simp only [leq,leA,ev0,evA,evB,evP,fl,gp,tab,simprocAttr,reduceCtorEq,reduceIte,ll_takeL,e1]<;>first|trivial|(rw [List.take_of_length_le (by rw [ll_length,List.length_append]; omega)]; done)|trace_state⟩
       ·(try simp only [nhs] at hC5)
        have hno:¬ gdp n (op m n) e P (ts SL i) (ts SL j):=fun hg=>by have h9:=hbb.2 hg.2.2; simp [h9] at hC5
        refine qh (qd (qa ?_))
        refine hk_region fun K hK=>runs_eval tab_ok ?_
        simp only [ev0,evA,evB,evP,fl,gp,tab,simprocAttr,reduceCtorEq,reduceIte]
        refine fin_run ?_ (hK _ ?_)<;>clear hK<;>clear K
        ·(first|exact trivial|omega|(simp only [In64] at *; omega)|(simp [In64] at *; omega)|(simp_all; done)|skip)
        refine qa ?_
        refine ⟨j + 1,[],⟨by omega,fun t ht=>?_⟩,by omega,?_⟩
        ·by_cases htj:t < i * SL.length + j
         ·exact hj2 t htj
         ·have e1:t=i * SL.length + j:=by omega
          rw [e1]
          exact gd_no hlj hno
        ·simp only [leq,leA,ev0,evA,evB,evP,fl,gp,tab,simprocAttr,reduceCtorEq,reduceIte]<;>first|trivial|omega|trace_state
    ·(try simp only [nhs] at hC3)
     have hje:j=SL.length:=by omega
     refine qj (qc (qc (qf (qd (qa ?_)))))
     refine hk_region fun K hK=>runs_eval tab_ok ?_
     simp only [ev0,evA,evB,evP,fl,gp,tab,simprocAttr,reduceCtorEq,reduceIte]
     refine fin_run ?_ (hK _ ?_)<;>clear hK<;>clear K
     ·(first|exact trivial|omega|(simp only [In64] at *; omega)|(simp [In64] at *; omega)|(simp_all; done)|skip)
     refine qa ?_
     refine ⟨i + 1,[],⟨by omega,fun t ht=>hj2 t (by rw [hje]; rw [Nat.add_mul,Nat.one_mul] at ht; exact ht)⟩,by omega,?_⟩
     simp only [leq,leA,ev0,evA,evB,evP,fl,gp,tab,simprocAttr,reduceCtorEq,reduceIte]<;>first|trivial|omega|trace_state
 ·(try simp only [nhs] at hC1)
  have hie:i=SL.length:=by omega
  rw [hie] at hi2
  rw [spl_none hi2]
  refine qj (qc (qc (qf (qa (qm ?_)))))
  refine hk_region fun K hK=>runs_at 1 ?_
  simp only [List.take_succ_cons,List.take_zero,List.drop_succ_cons,List.drop_zero]
  refine runs_eval tab_ok ?_
  simp only [ev0,evA,evB,evP,fl,gp,tab,simprocAttr,reduceCtorEq,reduceIte]
  refine fin_run trivial ?_
  refine runs_op (buildOwn_does (n:=1) (l:=[.list (il (thl n P))]) tab_ok rfl rfl rfl rfl rfl rfl rfl ⟨⟨rfl,rfl,rfl⟩,trivial⟩ rfl (by decide) rfl) rfl (show (110:Nat) < 111 by decide) (runs_eval tab_ok ?_)
  simp only [ev0,evA,evB,evP,fl,gp,tab,simprocAttr,reduceCtorEq,reduceIte]
  refine fin_run ?_ (hK _ ?_)<;>clear hK<;>clear K
  ·trivial
  refine qa (qk ?_)
  simp only [Tryd.results120,PostG,endG,rvsA,rvA,mkTup,ev0,evA,evB,evP,fl,gp,tab,simprocAttr,reduceCtorEq,reduceIte]
  all_goals (exact ⟨[0],rfl,rfl,by simp only [leq,leA,ev0,evA,evB,evP,fl,gp,tab,simprocAttr,reduceCtorEq,reduceIte]<;>first|trivial|trace_state⟩)
theorem spl_len (h:GT n m n e) (hn:n≤24) {SL:List Nat} (hS:AllS n (op m n) e SL) {k:Nat} {P:Nat→Bool} (hP:Sub n (op m n) e P) (hk:(thl n P).length≤k):(spl n (op m n) e SL k P).length≤24:=by
 have D:=spl_dec h.2.2 hS k P hP hk
 have lP:=thl_le n P
 by_cases h1:(thl n P).length=1
 ·rw [D.one_ h.2.2 hP h1]; simp
 ·have h2:=D.pow h.2.2 hP h1
  have h3:=Nat.lt_two_pow_self (n:=(spl n (op m n) e SL k P).length)
  omega
theorem parts_c (h:GT n m n e) (hn:n≤24) {SL:List Nat} (hS:AllS n (op m n) e SL):∀ (k:Nat) (P:Nat→Bool),Sub n (op m n) e P→(thl n P).length≤k →
  FnG Tryd.prog 120 [.list (il (thl n P)),.ptr [.list (ul SL)],.ptr [.int .i64 n,.list (il m)],fxp 120 [.ptr [.list (ul SL)],.ptr [.int .i64 n,.list (il m)]] k] (.sl 0 0 (spl n (op m n) e SL k P).length) [.own (opl (ll (spl n (op m n) e SL k P)))]
 | 0,P,hP,hk=>by have:=len_pos h.2.2 hP; omega
 | k + 1,P,hP,hk=>parts_step h hn hS k (fun Q hQ hq=>parts_c h hn hS k Q hQ hq) (fun Q hQ hq=>spl_len h hn hS hQ hq) hP hk

/-! ### Put in order -/
def cmpP (v w:List Int):Int:=if (v.length:Int)=w.length then cmpL v w else (v.length:Int) - w.length
theorem cmpP_iff {v w:List Int} : cmpP v w < 0↔v.length < w.length∨(v.length=w.length∧cmpL v w < 0):=by
 unfold cmpP
 split
 ·constructor
  ·intro h; exact .inr ⟨by omega,h⟩
  ·rintro (h | ⟨_,h⟩)
   ·omega
   ·exact h
 ·constructor
  ·intro h; exact .inl (by omega)
  ·rintro (h | ⟨h,_⟩)<;>omega
theorem cmpP_self (v:List Int):¬ cmpP v v < 0:=by
 rw [cmpP_iff,cmpL_self]; omega
theorem cmpP_trans {u v w:List Int} (h1:cmpP u v < 0) (h2:cmpP v w < 0):cmpP u w < 0:=by
 rw [cmpP_iff] at *
 rcases h1 with h1 | ⟨h1,h3⟩<;>rcases h2 with h2 | ⟨h2,h4⟩
 ·exact .inl (by omega)
 ·exact .inl (by omega)
 ·exact .inl (by omega)
 ·exact .inr ⟨by omega,cmpL_trans _ _ _ h3 h4⟩
theorem cmpP_ntrans {u v w:List Int} (h1:¬ cmpP u v < 0) (h2:¬ cmpP v w < 0):¬ cmpP u w < 0:=by
 rw [cmpP_iff] at *
 rintro (h | ⟨h,h'⟩)
 ·by_cases a:u.length < v.length
  ·exact h1 (.inl a)
  ·exact h2 (.inl (by omega))
 ·by_cases a:u.length < v.length
  ·exact h1 (.inl a)
  ·by_cases b:v.length < w.length
   ·exact h2 (.inl b)
   ·exact cmpL_ntrans u v w (fun h3=>h1 (.inr ⟨by omega,h3⟩)) (fun h3=>h2 (.inr ⟨by omega,h3⟩)) h'
theorem cmpP_tot {v w:List Int} (h1:¬ cmpP v w < 0) (h2:¬ cmpP w v < 0):v=w:=by
 rw [cmpP_iff] at *
 have hl:v.length=w.length:=by
  rcases Nat.lt_trichotomy v.length w.length with h | h | h
  ·exact absurd (.inl h) h1
  ·exact h
  ·exact absurd (.inl h) h2
 exact cmpL_tot v w (fun h=>h1 (.inr ⟨hl,h⟩)) (fun h=>h2 (.inr ⟨hl.symm,h⟩))
theorem spc_c (v w:List Int) (hv:v.length≤1000000) (hw:w.length≤1000000):FnC Tryd.prog 123 [.list (il v),.list (il w)] (.int .i64 (cmpP v w)):=by
 refine fnc_of tab_ok Tryd.func123 rfl (by kernel_rfl) (by rw [Tryd.ntmps123]; exact Nat.le_add_left 2 _) ?_; rw [Tryd.ntmps123]
 refine qm ?_
 refine hk_region fun K hK=>runs_eval tab_ok ?_
 simp only [ev0,evA,evB,evP,fl,gp,tab,simprocAttr,reduceCtorEq,reduceIte]
 refine fin_run trivial (hK _ ?_)<;>clear hK<;>clear K
 refine qa (qm (qm ?_))
 by_cases hl:((v.length:Nat):Int)=(w.length:Nat)
 ·refine hk_region fun K hK=>runs_eval tab_ok ?_
  simp only [ev0,evA,evB,evP,fl,gp,tab,simprocAttr,reduceCtorEq,reduceIte,il_length,decide_eq_true hl]
  refine fin_run trivial (hK _ ?_)<;>clear hK<;>clear K
  refine qa ?_
  refine hk_cond rfl (fun hC1=>?_) (fun hC1=>?_)
  ·cases hC1
  ·(try simp only [nhs] at hC1)
   refine qh (qa (qm ?_))
   refine hk_region fun K hK=>runs_eval tab_ok ?_
   simp only [ev0,evA,evB,evP,fl,gp,tab,simprocAttr,reduceCtorEq,reduceIte]
   refine fin_stop trivial (runs_call (compareL_c v w (by omega) (by omega)) rfl rfl rfl (by simp only [dstOk,Nat.reduceLT]) (by repeat (first|exact trivial|constructor)) (runs_eval tab_ok ?_))
   simp only [ev0,evA,evB,evP,fl,gp,tab,simprocAttr,reduceCtorEq,reduceIte]
   refine fin_run trivial (hK _ ?_)<;>clear hK<;>clear K
   refine qa (qk ?_)
   simp only [Tryd.results123,enA,ev0,evA,evB,evP,fl,gp,tab,simprocAttr,reduceCtorEq,reduceIte]
   all_goals (unfold cmpP; rw [if_pos hl])
 ·refine hk_region fun K hK=>runs_eval tab_ok ?_
  simp only [ev0,evA,evB,evP,fl,gp,tab,simprocAttr,reduceCtorEq,reduceIte,il_length,decide_eq_false hl]
  refine fin_run trivial (hK _ ?_)<;>clear hK<;>clear K
  refine qa ?_
  refine hk_cond rfl (fun hC1=>?_) (fun hC1=>?_)
  ·(try simp only [nhs] at hC1)
   refine qm ?_
   refine hk_region fun K hK=>runs_eval tab_ok ?_
   simp only [ev0,evA,evB,evP,fl,gp,tab,simprocAttr,reduceCtorEq,reduceIte,il_length]
   refine fin_run ?_ (hK _ ?_)<;>clear hK<;>clear K
   ·(first|exact trivial|omega|(simp only [In64] at *; omega)|(simp [In64] at *; omega)|(simp_all; done)|skip)
   refine qa (qk (qb ?_))
   simp only [Tryd.results123,enA,ev0,evA,evB,evP,fl,gp,tab,simprocAttr,reduceCtorEq,reduceIte]
   all_goals (unfold cmpP; rw [if_neg hl])
  ·cases hC1
def cfP:PV→PV→Int
 | .list a,.list b=>cmpP (a.map pvi) (b.map pvi)
 | _,_=>0
theorem cfP_il (v w:List Int):cfP (.list (il v)) (.list (il w))=cmpP v w:=by
 show cmpP ((il v).map pvi) ((il w).map pvi)=_
 rw [pvi_il,pvi_il]
def srtP (xs:List (List Int)):List (List Int):=xs.mergeSort fun v w=>decide (¬ cmpP w v < 0)
theorem srtP_perm (xs:List (List Int)):xs.Perm (srtP xs):=(List.mergeSort_perm xs _).symm
theorem srtP_sorted (xs:List (List Int)):(srtP xs).Pairwise fun v w=>¬ cmpP w v < 0:=by
 have:=List.pairwise_mergeSort (le:=fun v w=>decide (¬ cmpP w v < 0)) (fun a b c h1 h2=>by
  simp only [decide_eq_true_eq] at *
  exact cmpP_ntrans h2 h1) (fun a b=>by
  simp only [Bool.or_eq_true,decide_eq_true_eq]
  by_cases h:cmpP b a < 0
  ·right; intro h2
   exact cmpP_self _ (cmpP_trans h h2)
  ·exact .inl h) xs
 exact this.imp fun h=>by simpa using h
theorem sortP_c {xs:List (List Int)} (hne:xs ≠ []) (hl:xs.length≤1000000) (hr:∀ v∈xs,v.length≤1000000) :
  FnM Tryd.prog 81 [.sl 0 0 (ll xs).length,.p (.fn 123 [])] [.own (opl (ll xs))] (.p (.tup [])) [.own (opl (ll (srtP xs)))]:=
 sort_m Go.Proofs.Tryd.sortL (ll xs) (ll (srtP xs)) cfP (fun h=>hne (by cases xs with
   | nil=>rfl
   | cons a r=>cases h)) (fun x hx=>by obtain ⟨v,_,rfl⟩:=mem_ll hx; rfl)
  (fun x hx=>by obtain ⟨v,_,rfl⟩:=mem_ll hx; rw [cfP_il]; exact cmpP_self v)
  (fun x hx y hy z hz h1 h2=>by
   obtain ⟨u,_,rfl⟩:=mem_ll hx; obtain ⟨v,_,rfl⟩:=mem_ll hy; obtain ⟨w,_,rfl⟩:=mem_ll hz
   rw [cfP_il] at *; exact cmpP_trans h1 h2)
  (fun x hx y hy z hz h1 h2=>by
   obtain ⟨u,_,rfl⟩:=mem_ll hx; obtain ⟨v,_,rfl⟩:=mem_ll hy; obtain ⟨w,_,rfl⟩:=mem_ll hz
   rw [cfP_il] at *; exact cmpP_ntrans h1 h2)
  (fun x hx y hy h1 h2=>by
   obtain ⟨u,_,rfl⟩:=mem_ll hx; obtain ⟨v,_,rfl⟩:=mem_ll hy
   rw [cfP_il] at *; rw [cmpP_tot h1 h2])
  (fun x hx y hy=>by
   obtain ⟨u,hu,rfl⟩:=mem_ll hx; obtain ⟨v,hv,rfl⟩:=mem_ll hy
   rw [cfP_il]; exact spc_c u v (hr u hu) (hr v hv))
  ((srtP_perm xs).map _) (by
   unfold ll
   rw [List.pairwise_map]
   exact (srtP_sorted xs).imp fun {x y} hxy h2=>hxy (by rwa [cfP_il] at h2)) (by rw [ll_length]; omega)

set_option maxRecDepth 20000 in
set_option maxHeartbeats 8000000 in
theorem split_ok (h:GT n m n e) (hn:n≤24) {SL:List Nat} (hS:AllS n (op m n) e SL) (hm:m.length≤1000000000000000):FnC Tryd.prog 69 [gp n m] (.tup [.list (ll (srtP (spl n (op m n) e SL n fun _=>true))),fl (0,0)]):=by
 have hgf:=gf_of h
 have hb:=check_c n m hm
 rw [hgf] at hb
 have G:=h.2.2
 have hb60:=h.2.1.big
 have hSl:=hS.len hn
 have hpos:=hS.pos G
 have hlast:=hS.last G hb60
 have hstl:=stl_bo hb60 fun _=>true
 have hall:Sub n (op m n) e fun _=>true:=⟨rfl,fun _ _ _ _ _ _=>rfl,fun _ _ _=>rfl⟩
 have hal:=thl_le n fun _=>true
 have hPc:=parts_c h hn hS n (fun _=>true) hall hal
 have hlen:=spl_len h hn hS hall hal
 have D:=spl_dec G hS n _ hall hal
 have hlp:=D.pos
 have hrow:∀ v∈spl n (op m n) e SL n fun _=>true,v.length≤60:=fun v hv=>by
  obtain ⟨p,rfl,_⟩:=D.mem G hall v hv
  have:=thl_le n p
  omega
 have hl1:((SL.length:Nat):Int) - 1=((SL.length - 1:Nat):Int):=by omega
 have hone:=ll_length (srtP (spl n (op m n) e SL n fun _=>true))
 have hsl:=(srtP_perm (spl n (op m n) e SL n fun _=>true)).length_eq
 generalize spl n (op m n) e SL n (fun _=>true)=R at *
 refine fnc_of tab_ok Tryd.func69 rfl (by kernel_rfl) (by rw [Tryd.ntmps69]; exact Nat.le_add_left 1 _) ?_; rw [Tryd.ntmps69]
 refine qm ?_
 refine hk_region fun K hK=>runs_eval tab_ok ?_
 simp only [ev0,evA,evB,evP,fl,gp,tab,simprocAttr,reduceCtorEq,reduceIte]
 refine fin_run ?_ (hK _ ?_)<;>clear hK<;>clear K
 ·(first|exact trivial|omega|(simp only [In64] at *; omega)|(simp [In64] at *; omega)|(simp_all; done)|skip)
 refine qa (qm (qm ?_))
 refine hk_region fun K hK=>runs_eval tab_ok ?_
 simp only [ev0,evA,evB,evP,fl,gp,tab,simprocAttr,reduceCtorEq,reduceIte]
 refine fin_stop trivial (runs_call (hb) rfl rfl rfl (by simp only [dstOk,Nat.reduceLT]) (by repeat (first|exact trivial|constructor)) (runs_eval tab_ok ?_))
 simp only [ev0,evA,evB,evP,fl,gp,tab,simprocAttr,reduceCtorEq,reduceIte]
 refine fin_run ?_ (hK _ ?_)<;>clear hK<;>clear K
 ·(first|exact trivial|omega|(simp only [In64] at *; omega)|(simp [In64] at *; omega)|(simp_all; done)|skip)
 refine qa (qm ?_)
 refine hk_region fun K hK=>runs_eval tab_ok ?_
 simp only [ev0,evA,evB,evP,fl,gp,tab,simprocAttr,reduceCtorEq,reduceIte]
 refine fin_run ?_ (hK _ ?_)<;>clear hK<;>clear K
 ·(first|exact trivial|omega|(simp only [In64] at *; omega)|(simp [In64] at *; omega)|(simp_all; done)|skip)
 refine qa ?_
 refine hk_cond rfl (fun hC1=>?_) (fun hC1=>?_)
 ·(try simp only [nhs] at hC1)
  simp at hC1
 ·(try simp only [nhs] at hC1)
  refine qh (qa (qm (qm ?_)))
  refine hk_region fun K hK=>runs_eval tab_ok ?_
  simp only [ev0,evA,evB,evP,fl,gp,tab,simprocAttr,reduceCtorEq,reduceIte]
  refine fin_run ?_ (hK _ ?_)<;>clear hK<;>clear K
  ·(first|exact trivial|omega|(simp only [In64] at *; omega)|(simp [In64] at *; omega)|(simp_all; done)|skip)
  refine qa ?_
  refine hk_cond rfl (fun hC2=>?_) (fun hC2=>?_)
  ·(try simp only [nhs] at hC2)
   omega
  ·(try simp only [nhs] at hC2)
   refine qh (qa (qm ?_))
   refine hk_region fun K hK=>runs_eval tab_ok ?_
   simp only [ev0,evA,evB,evP,fl,gp,tab,simprocAttr,reduceCtorEq,reduceIte]
   refine fin_stop trivial (runs_call (allOf_c h hn hS) rfl rfl rfl (by simp only [dstOk,Nat.reduceLT]) (by repeat (first|exact trivial|constructor)) (runs_eval tab_ok ?_))
   simp only [ev0,evA,evB,evP,fl,gp,tab,simprocAttr,reduceCtorEq,reduceIte]
   refine fin_run ?_ (hK _ ?_)<;>clear hK<;>clear K
   ·(first|exact trivial|omega|(simp only [In64] at *; omega)|(simp [In64] at *; omega)|(simp_all; done)|skip)
   refine qa (qm ?_)
   refine hk_region fun K hK=>runs_eval tab_ok ?_
   simp only [ev0,evA,evB,evP,fl,gp,tab,simprocAttr,reduceCtorEq,reduceIte]
   refine fin_run ?_ (hK _ ?_)<;>clear hK<;>clear K
   ·(first|exact trivial|omega|(simp only [In64] at *; omega)|(simp [In64] at *; omega)|(simp_all; done)|skip)
   refine qa (qm ?_)
   refine hk_freeze 0 rfl rfl ?_
   refine hk_freeze 3 rfl rfl ?_
   refine hk_pure 1 rfl (Nat.zero_le _) ?_
   refine hk_pure 5 rfl (Nat.zero_le _) ?_
   simp only [hset,List.drop_zero]
   refine hk_region fun K hK=>runs_eval tab_ok ?_
   simp only [ev0,evA,evB,evP,fl,gp,tab,simprocAttr,reduceCtorEq,reduceIte]
   refine fin_stop ?_ (runs_op (makeCl_does rfl rfl) rfl (by simp only [dstOk,Nat.reduceLT]) (runs_eval tab_ok ?_))
   ·(first|exact trivial|omega|(simp only [In64] at *; omega)|(simp [In64] at *; omega)|(simp_all; done)|skip)
   simp only [ev0,evA,evB,evP,fl,gp,tab,simprocAttr,reduceCtorEq,reduceIte]
   refine fin_run ?_ (hK _ ?_)<;>clear hK<;>clear K
   ·(first|exact trivial|omega|(simp only [In64] at *; omega)|(simp [In64] at *; omega)|(simp_all; done)|skip)
   refine qa (qm ?_)
   refine hk_fix 4 n (caps:=[.ptr [.list (ul SL)],.ptr [.int .i64 n,.list (il m)]]) rfl ?_
   simp only [hset,List.cons_append,List.nil_append]
   refine hk_draw2 mixed fun K hK=>runs2_eval tab_ok ?_
   simp only [evD,ev0,evA,evB,evP,fl,gp,tab,simprocAttr,reduceCtorEq,reduceIte,ul_length,hl1,ul_get (show SL.length - 1 < SL.length by omega),hlast]
   refine fin2_stop ?_ (runs2_call (list_s (bo n fun _=>true) (bo_lt64 hb60 _)) rfl rfl rfl rfl (by simp only [dstOk,Nat.reduceLT]) (by repeat (first|exact trivial|constructor)) (runs2_eval tab_ok ?_))
   ·(first|exact trivial|omega|(simp only [In64] at *; omega)|(simp [In64] at *; omega)|(simp_all; done)|skip)
   simp only [evD,ev0,evA,evB,evP,fl,gp,tab,simprocAttr,reduceCtorEq,reduceIte,hstl,ul_length,hl1,ul_get (show SL.length - 1 < SL.length by omega),hlast]
   refine fin2_stop ?_ (runs2_callG (hPc) rfl rfl rfl (by simp only [dstOk,Nat.reduceLT]) (by repeat (first|exact trivial|constructor)) (runs2_eval tab_ok ?_))
   ·(first|exact trivial|omega|(simp only [In64] at *; omega)|(simp [In64] at *; omega)|(simp_all; done)|skip)
   simp only [evD,ev0,evA,evB,evP,fl,gp,tab,simprocAttr,reduceCtorEq,reduceIte,ul_length,hl1,ul_get (show SL.length - 1 < SL.length by omega),hlast]
   refine fin2_run ?_ (hK _ _ (by first|kernel_rfl|rfl) ?_)<;>clear hK<;>clear K
   ·(first|exact trivial|omega|(simp only [In64] at *; omega)|(simp [In64] at *; omega)|(simp_all; done)|skip)
   refine qa (qm ?_)
   refine hk_region fun K hK=>runs_eval tab_ok ?_
   simp only [ev0,evA,evB,evP,fl,gp,tab,simprocAttr,reduceCtorEq,reduceIte]
   refine fin_stop ?_ (runs_callM [5] (sortP_c (xs:=R) (by intro h0; rw [h0] at hlp; simp at hlp) (by omega) (fun v hv=>by have:=hrow v hv; omega)) rfl rfl ?_ (by simp only [leA,ev0,evA,evB,evP,fl,gp,tab,simprocAttr,reduceCtorEq,reduceIte]; first|trivial|(simp only [ll_takeL]; first|trivial|(repeat constructor; done))|(repeat constructor)) (by decide) (by first|rfl|(simp only [List.length_cons,List.length_nil,List.length_append]; decide)) (by first|rfl|(simp only [scM,opl_sc,List.all_cons,List.all_nil,List.length_cons,List.length_nil]; first|rfl|decide)|(simp [scM,scA,sc1,mpKeep,notAnc]; done)) (by simp only [dstOk,Nat.reduceLT]) (runs_eval tab_ok ?_))
   ·(first|exact trivial|omega|(simp only [In64] at *; omega)|(simp [In64] at *; omega)|(simp_all; done)|skip)
   ·(simp only [argsM,argM1,peekG,peekS,scA,sc1,ren,ren1,List.map_cons,List.map_nil,List.append_nil,List.cons_append,List.nil_append,enA,ev0,evA,evB,evP,fl,gp,tab,simprocAttr,reduceCtorEq,reduceIte]; try trivial)
   simp only [putM,hset,List.range',Blk.ren,ren,ren1,List.map_cons,List.map_nil,List.cons_append,List.nil_append,List.append_nil,List.length_cons,List.length_nil,ev0,evA,evB,evP,fl,gp,tab,simprocAttr,reduceCtorEq,reduceIte]
   refine fin_run trivial (hK _ ?_)<;>clear hK<;>clear K
   refine qa (qm ?_)
   refine hk_region fun K hK=>runs_eval tab_ok ?_
   simp only [ev0,evA,evB,evP,fl,gp,tab,simprocAttr,reduceCtorEq,reduceIte]
   refine fin_run ?_ (hK _ ?_)<;>clear hK<;>clear K
   ·(first|exact trivial|omega|(simp only [In64] at *; omega)|(simp [In64] at *; omega)|(simp_all; done)|skip)
   refine qa (qk ?_)
   simp only [Tryd.results69,enA,ev0,evA,evB,evP,fl,gp,tab,simprocAttr,reduceCtorEq,reduceIte]
   have e1:List.take R.length (ll (srtP R))=ll (srtP R):=List.take_of_length_le (by rw [ll_length]; omega)
   rw [e1]
   exact ⟨⟨by omega,ll_all _⟩,rfl⟩
end
end Go.Proofs.YtboadfahlflmhaaDoor

/-
  Walks: together. Conditions: none.
-/
set_option linter.all false
namespace Go.Proofs.YtboadfahlflmhaaDoor
open Go.Pv

end Go.Proofs.YtboadfahlflmhaaDoor

/-
  Parts: in whatever order; the others of one; the part as a group, by the document. Conditions: none.
-/
set_option linter.all false
namespace Go.Proofs.YtboadfahlflmhaaDoor
open Go.Pv

section
variable {α:Type} [Mul α] [One α] [Inv α]
theorem DirL.perm (G:Gp α) {L L' : List (α→Prop)} (h:L.Perm L'):∀ {P:α→Prop},DirL P L→DirL P L':=by
 induction h with
 | nil=>intro P h; exact h
 | cons A _ ih=>rintro P ⟨R,D,hR⟩; exact ⟨R,D,ih hR⟩
 | swap A B L =>
  rintro P ⟨R,D,S,E,hS⟩
  obtain ⟨D1,D2⟩:=assoc G D E
  exact ⟨_,D1,S,D2,hS⟩
 | trans _ _ ih1 ih2=>intro P h; exact ih2 (ih1 h)
theorem DirL.least (G:Gp α):∀ {L:List (α→Prop)} {P:α→Prop},DirL P L→∀ {S:α→Prop},Sg S→(∀ A∈L,∀ x,A x→S x)→∀ x,P x→S x
 | [],P,hP,S,hS,_,x,hx=>by rw [(hP x).1 hx]; exact hS.one
 | A :: L,P,⟨R,D,hR⟩,S,hS,hA,x,hx=>by
  obtain ⟨a,b,ha,hb,rfl⟩:=(D.all x).1 hx
  exact hS.mul _ _ (hA A (List.mem_cons_self ..) a ha) (DirL.least G hR hS (fun B hB=>hA B (List.mem_cons_of_mem _ hB)) b hb)
end
section
variable {n e:Nat} {f:Nat→Nat→Nat}
end

end Go.Proofs.YtboadfahlflmhaaDoor

/-
  Inner automorphisms, counted; and conjugated by automorphisms. Conditions: none.
-/
set_option linter.all false
namespace Go.Proofs.YtboadfahlflmhaaDoor
open Go.Pv

section
variable {n e:Nat} {f:Nat→Nat→Nat} {z:Nat→Bool}
end
end Go.Proofs.YtboadfahlflmhaaDoor

/-
  Walks: permutations (for seats whose texts have S4). Conditions: none.
-/
set_option linter.all false
namespace Go.Proofs.YtboadfahlflmhaaDoor
open Go.Pv

structure PermOk (p:List Int):Prop where
 len:p.length≤1000
 rng:∀ i,i < p.length→0≤p.getD i 0∧p.getD i 0 < p.length
 inj:∀ i j,i < p.length→j < p.length→p.getD i 0=p.getD j 0→i=j

theorem phas_c (l:List Int) (x:Int) (hl:l.length≤1000000000000) (hn:∀ j,j < l.length→¬ l.getD j 0=x):FnC Tryd.prog 53 [.list (il l),.int .i64 x] (.bool false):=by
 refine fnc_of tab_ok Tryd.func53 rfl (by kernel_rfl) (by rw [Tryd.ntmps53]; exact Nat.le_add_left 2 _) ?_; rw [Tryd.ntmps53]
 refine qm ?_
 refine hk_region fun K hK=>runs_eval tab_ok ?_
 simp only [ev0,evA,evB,evP,fl,gp,tab,simprocAttr,reduceCtorEq,reduceIte]
 refine fin_run trivial (hK _ ?_)<;>clear hK<;>clear K
 refine qa (qm (qm ?_))
 refine hk_region fun K hK=>runs_eval tab_ok ?_
 simp only [ev0,evA,evB,evP,fl,gp,tab,simprocAttr,reduceCtorEq,reduceIte]
 refine fin_run trivial (hK _ ?_)<;>clear hK<;>clear K
 refine qa (ql ?_)
 refine hk_loop (ι:=Nat) (fun i=>⟨18,[(0,.p (.list (il l))),(1,.p (.int .i64 x)),(5,.p (.int .i64 i))],[]⟩) (fun i=>i≤l.length) (fun i=>l.length - i) 0 (Nat.zero_le _) [] (by simp only [leq,leA,ev0,evA,evB,evP,fl,gp,tab,simprocAttr,reduceCtorEq,reduceIte]<;>trivial) fun i hi=>?_
 refine qm (qm ?_)
 refine hk_region fun K hK=>runs_eval tab_ok ?_
 simp only [ev0,evA,evB,evP,fl,gp,tab,simprocAttr,reduceCtorEq,reduceIte]
 refine fin_run trivial (hK _ ?_)<;>clear hK<;>clear K
 refine qa ?_
 refine hk_cond rfl (fun hC1=>?_) (fun hC1=>?_)
 ·(try simp only [nhs] at hC1)
  have hlt:i < l.length:=by omega
  refine qh (qa (qm (ql (qm ?_))))
  refine hk_region fun K hK=>runs_eval tab_ok ?_
  simp only [ev0,evA,evB,evP,fl,gp,tab,simprocAttr,reduceCtorEq,reduceIte,il_get hlt]
  refine fin_run ?_ (hK _ ?_)<;>clear hK<;>clear K
  ·(first|exact trivial|omega|(simp only [In64] at *; omega)|(simp [In64] at *; omega)|(simp_all; done)|skip)
  refine qa ?_
  refine hk_cond rfl (fun hC2=>?_) (fun hC2=>?_)
  ·(try simp only [nhs] at hC2)
   exact absurd hC2 (hn i hlt)
  ·(try simp only [nhs] at hC2)
   refine qh (qd (qa ?_))
   refine hk_region fun K hK=>runs_eval tab_ok ?_
   simp only [ev0,evA,evB,evP,fl,gp,tab,simprocAttr,reduceCtorEq,reduceIte]
   refine fin_run ?_ (hK _ ?_)<;>clear hK<;>clear K
   ·(first|exact trivial|omega|(simp only [In64] at *; omega)|(simp [In64] at *; omega)|(simp_all; done)|skip)
   refine qa ?_
   refine ⟨i + 1,[],by omega,by omega,?_⟩
   simp only [leq,leA,ev0,evA,evB,evP,fl,gp,tab,simprocAttr,reduceCtorEq,reduceIte]<;>first|trivial|omega
 ·(try simp only [nhs] at hC1)
  refine qj (qc (qc (qf (qa (qm ?_)))))
  refine hk_region fun K hK=>runs_eval tab_ok ?_
  simp only [ev0,evA,evB,evP,fl,gp,tab,simprocAttr,reduceCtorEq,reduceIte]
  refine fin_run trivial (hK _ ?_)<;>clear hK<;>clear K
  refine qa (qk ?_)
  simp only [Tryd.results53,enA,ev0,evA,evB,evP,fl,gp,tab,simprocAttr,reduceCtorEq,reduceIte]
  all_goals ((first|exact rfl|exact ⟨rfl,rfl⟩|exact ⟨rfl,rfl,rfl⟩|exact ⟨trivial,rfl⟩|exact ⟨Nat.le_refl _,rfl⟩|trivial|(simp; done)))

theorem pgetD_take' {o:List Int} {n i:Nat} (h:i < n):(o.take n).getD i 0=o.getD i 0:=by
 simp [List.getD,List.getElem?_take,h]

theorem permFault_c {p:List Int} (h:PermOk p):FnC Tryd.prog 35 [.list (il p)] (fl (0,0)):=by
 have hl:=h.len
 refine fnc_of tab_ok Tryd.func35 rfl (by kernel_rfl) (by rw [Tryd.ntmps35]; exact Nat.le_add_left 1 _) ?_; rw [Tryd.ntmps35]
 refine qm ?_
 refine hk_region fun K hK=>runs_eval tab_ok ?_
 simp only [ev0,evA,evB,evP,fl,gp,tab,simprocAttr,reduceCtorEq,reduceIte]
 refine fin_run ?_ (hK _ ?_)<;>clear hK<;>clear K
 ·(first|exact trivial|omega|(simp only [In64] at *; omega)|(simp [In64] at *; omega)|(simp_all; done)|skip)
 refine qa (qm (qm ?_))
 refine hk_region fun K hK=>runs_eval tab_ok ?_
 simp only [ev0,evA,evB,evP,fl,gp,tab,simprocAttr,reduceCtorEq,reduceIte]
 refine fin_run trivial (hK _ ?_)<;>clear hK<;>clear K
 refine qa ?_
 refine hk_cond rfl (fun hC1=>?_) (fun hC1=>?_)
 ·(try simp only [nhs] at hC1)
  omega
 ·(try simp only [nhs] at hC1)
  refine qh (qa (qm (qm ?_)))
  refine hk_region fun K hK=>runs_eval tab_ok ?_
  simp only [ev0,evA,evB,evP,fl,gp,tab,simprocAttr,reduceCtorEq,reduceIte]
  refine fin_run trivial (hK _ ?_)<;>clear hK<;>clear K
  refine qa (ql ?_)
  refine hk_loop (ι:=Nat) (fun i=>⟨41,[(0,.p (.list (il p))),(2,.ptr 0 0),(3,.p (.int .i64 i))],[.own [.p (.int .i64 0),.p (.int .i64 0)]]⟩) (fun i=>i≤p.length) (fun i=>p.length - i) 0 (Nat.zero_le _) [0] (by simp only [leq,leA,ev0,evA,evB,evP,fl,gp,tab,simprocAttr,reduceCtorEq,reduceIte]<;>trivial) fun i hi=>?_
  refine qm (qm ?_)
  refine hk_region fun K hK=>runs_eval tab_ok ?_
  simp only [ev0,evA,evB,evP,fl,gp,tab,simprocAttr,reduceCtorEq,reduceIte]
  refine fin_run trivial (hK _ ?_)<;>clear hK<;>clear K
  refine qa ?_
  refine hk_cond rfl (fun hC2=>?_) (fun hC2=>?_)
  ·(try simp only [nhs] at hC2)
   have hlt:i < p.length:=by omega
   obtain ⟨r1,r2⟩:=h.rng i hlt
   refine qh (qa (qm (ql (qm (qm ?_)))))
   refine hk_region fun K hK=>runs_eval tab_ok ?_
   simp only [ev0,evA,evB,evP,fl,gp,tab,simprocAttr,reduceCtorEq,reduceIte,il_get hlt,decide_eq_false (show ¬ p.getD i 0 < 0 by omega),decide_eq_false (show ¬ p.getD i 0 ≥ p.length by omega)]
   refine fin_run ?_ (hK _ ?_)<;>clear hK<;>clear K
   ·(first|exact trivial|omega|(simp only [In64] at *; omega)|(simp [In64] at *; omega)|(simp_all; done)|skip)
   refine qa ?_
   refine hk_cond rfl (fun hC3=>?_) (fun hC3=>?_)
   ·cases hC3
   ·(try simp only [nhs] at hC3)
    refine qh (qa (qm ?_))
    refine hk_draw mixed (by kernel_rfl) fun K hK=>runs_eval tab_ok ?_
    simp only [ev0,evA,evB,evP,fl,gp,tab,simprocAttr,reduceCtorEq,reduceIte,il_get hlt]
    refine fin_stop ?_ (runs_call (phas_c (p.take i) (p.getD i 0) (by rw [List.length_take]; omega) (fun j hj he=>by
     rw [List.length_take] at hj
     rw [pgetD_take' (by omega)] at he
     have:=h.inj j i (by omega) hlt he
     omega)) rfl rfl rfl (by simp only [dstOk,Nat.reduceLT]) (by repeat (first|exact trivial|constructor)) (runs_eval tab_ok ?_))
    ·(first|exact trivial|omega|(simp only [In64] at *; omega)|(simp [In64] at *; omega)|(simp_all; done)|skip)
    simp only [ev0,evA,evB,evP,fl,gp,tab,simprocAttr,reduceCtorEq,reduceIte,il_get hlt]
    refine fin_run ?_ (hK _ ?_)<;>clear hK<;>clear K
    ·(first|exact trivial|omega|(simp only [In64] at *; omega)|(simp [In64] at *; omega)|(simp_all; done)|skip)
    refine qa ?_
    refine hk_cond rfl (fun hC4=>?_) (fun hC4=>?_)
    ·cases hC4
    ·(try simp only [nhs] at hC4)
     refine qh (qd (qa ?_))
     refine hk_region fun K hK=>runs_eval tab_ok ?_
     simp only [ev0,evA,evB,evP,fl,gp,tab,simprocAttr,reduceCtorEq,reduceIte]
     refine fin_run ?_ (hK _ ?_)<;>clear hK<;>clear K
     ·(first|exact trivial|omega|(simp only [In64] at *; omega)|(simp [In64] at *; omega)|(simp_all; done)|skip)
     refine qa ?_
     refine ⟨i + 1,[0],by omega,by omega,?_⟩
     simp only [leq,leA,ev0,evA,evB,evP,fl,gp,tab,simprocAttr,reduceCtorEq,reduceIte]<;>first|trivial|omega
  ·(try simp only [nhs] at hC2)
   refine qj (qc (qc (qf (qa (qm ?_)))))
   refine hk_region fun K hK=>runs_eval tab_ok ?_
   simp only [ev0,evA,evB,evP,fl,gp,tab,simprocAttr,reduceCtorEq,reduceIte]
   refine fin_run ?_ (hK _ ?_)<;>clear hK<;>clear K
   ·(first|exact trivial|omega|(simp only [In64] at *; omega)|(simp [In64] at *; omega)|(simp_all; done)|skip)
   refine qa (qk ?_)
   simp only [Tryd.results35,enA,ev0,evA,evB,evP,fl,gp,tab,simprocAttr,reduceCtorEq,reduceIte]
   all_goals ((first|exact rfl|exact ⟨rfl,rfl⟩|exact ⟨rfl,rfl,rfl⟩|exact ⟨trivial,rfl⟩|exact ⟨Nat.le_refl _,rfl⟩|trivial|(simp; done)))

/-- A row of marks. -/
def pbl (f:Nat→Bool) (n:Nat):List AV:=(List.range n).map fun v=>.p (.bool (f v))
theorem pbl_len (f:Nat→Bool) (n:Nat):(pbl f n).length=n:=by simp [pbl]
theorem pbl_get (f:Nat→Bool) {n i:Nat} (h:i < n) (d:AV):(pbl f n).getD i d = .p (.bool (f i)):=by simp [pbl,List.getD,List.getElem?_range h]
theorem pbl_rep (n:Nat):List.replicate n (AV.p (.bool false))=pbl (fun _=>false) n:=by
 apply List.ext_getElem
 ·simp [pbl]
 ·intro i h1 h2; simp [pbl]
theorem pbl_set (f:Nat→Bool) (n i:Nat):(pbl f n).set i (.p (.bool true))=pbl (fun v=>f v || v == i) n:=by
 apply List.ext_getElem
 ·simp [pbl]
 ·intro j h1 h2
  simp only [pbl,List.getElem_set,List.getElem_map,List.getElem_range]
  by_cases e:i=j
  ·subst e; simp
  ·rw [if_neg e,show (j == i)=false by simpa using fun h=>e h.symm,Bool.or_false]
theorem pbl_ren (f:Nat→Bool) (n:Nat) (π:List Nat):(pbl f n).map (Go.Pv.ren π)=pbl f n:=by simp [pbl,Go.Pv.ren,ren1]
theorem pbl_sc (f:Nat→Bool) (n k:Nat):(pbl f n).all (scA k)=true:=by simp [pbl,scA,sc1]
theorem pbl_take (f:Nat→Bool) (n:Nat):(pbl f n).take n=pbl f n:=List.take_of_length_le (by simp [pbl])

end Go.Proofs.YtboadfahlflmhaaDoor

/-
  Walks: the inverse of a permutation; inner automorphisms told of what is no group; automorphisms of great groups. Conjugated inner automorphisms. Conditions: none.
-/
set_option linter.all false
namespace Go.Proofs.YtboadfahlflmhaaDoor
open Go.Pv

section
variable {n e:Nat} {f:Nat→Nat→Nat} {φ ψ:Nat→Nat}
/-- Two ways that undo each other. -/
structure Inv2 (n:Nat) (φ ψ:Nat→Nat):Prop where
 lt:∀ y,y < n→ψ y < n
 r:∀ y,y < n→φ (ψ y)=y
 l:∀ x,x < n→ψ (φ x)=x
theorem Isom.inv2 {N:Nat} {g:Nat→Nat→Nat} (h:Isom n f N g φ):∃ ψ,Inv2 n φ ψ:=by
 obtain ⟨h1,h2,h3⟩:=isom_iff.1 h
 subst h2
 have hc:∀ y,∃ x,y < n→x < n∧φ x=y:=fun y=>by
  by_cases hy:y < n
  ·obtain ⟨x,hx⟩:=h3 y hy
   exact ⟨x,fun _=>hx⟩
  ·exact ⟨0,fun h=>absurd h hy⟩
 refine ⟨fun y=>Classical.choose (hc y),fun y hy=>(Classical.choose_spec (hc y) hy).1,fun y hy=>(Classical.choose_spec (hc y) hy).2,fun x hx=>?_⟩
 have h4:=Classical.choose_spec (hc (φ x)) (h1.lt x hx)
 exact h.inj h4.1 hx h4.2
theorem Hmo.cjr {N d:Nat} {g:Nat→Nat→Nat} (G:Grp n f e) (K:Grp N g d) (h:Hmo n f N g φ) {x a:Nat} (hx:x < n) (ha:a < n):φ (cjr n f e x a)=Go.Proofs.YtboadfahlflmhaaDoor.cjr N g d (φ x) (φ a):=by
 unfold Go.Proofs.YtboadfahlflmhaaDoor.cjr
 rw [h.mul _ _ (G.cl _ _ (G.iv_lt ha) hx) ha,h.mul _ _ (G.iv_lt ha) hx,h.iv G K ha]
end

def upto1 (c:Bool) (x:Nat):List Int:=if c then [((x:Nat):Int)] else []
set_option maxHeartbeats 4000000 in
theorem inverse_c {n:Nat} {φ ψ:Nat→Nat} (hn:n≤1000) (hφ:∀ x,x < n→φ x < n) (hψ:Inv2 n φ ψ):FnC Tryd.prog 36 [.list (il (tbm n φ))] (.list (il (tbm n ψ))):=by
 have hl:=tbm_len n φ
 refine fnc_of tab_ok Tryd.func36 rfl (by kernel_rfl) (by rw [Tryd.ntmps36]; exact Nat.le_add_left 1 _) ?_; rw [Tryd.ntmps36]
 refine qm ?_
 refine hk_region fun K hK=>runs_eval tab_ok ?_
 simp only [ev0,evA,evB,evP,fl,gp,tab,simprocAttr,reduceCtorEq,reduceIte]
 refine fin_run trivial (hK _ ?_)<;>clear hK<;>clear K
 refine qa (qm ?_)
 refine hk_region fun K hK=>runs_eval tab_ok ?_
 simp only [ev0,evA,evB,evP,fl,gp,tab,simprocAttr,reduceCtorEq,reduceIte]
 refine fin_run trivial (hK _ ?_)<;>clear hK<;>clear K
 refine qa (qm (qm ?_))
 refine hk_own0 3 rfl ?_
 refine hk_region fun K hK=>runs_eval tab_ok ?_
 simp only [ev0,evA,evB,evP,fl,gp,tab,simprocAttr,reduceCtorEq,reduceIte]
 refine fin_run trivial (hK _ ?_)<;>clear hK<;>clear K
 refine qa (ql ?_)
 refine hk_loop (ι:=Nat) (fun i=>⟨29,[(0,.p (.list (il (tbm n φ)))),(3,.sl 0 0 (tbm i ψ).length),(4,.p (.int .i64 i))],[.own (ol (tbm i ψ))]⟩) (fun i=>i≤n) (fun i=>n - i) 0 (Nat.zero_le _) [0] (by simp only [leq,leA,ev0,evA,evB,evP,fl,gp,tab,simprocAttr,reduceCtorEq,reduceIte]<;>simp [tbm,ol_nil]) fun i hi=>?_
 have hil:=tbm_len i ψ
 refine qm (qm ?_)
 refine hk_region fun K hK=>runs_eval tab_ok ?_
 simp only [ev0,evA,evB,evP,fl,gp,tab,simprocAttr,reduceCtorEq,reduceIte,il_length,hl]
 refine fin_run trivial (hK _ ?_)<;>clear hK<;>clear K
 refine qa ?_
 refine hk_cond rfl (fun hC1=>?_) (fun hC1=>?_)
 ·(try simp only [nhs] at hC1)
  have hlt:i < n:=by omega
  have hpi:=hψ.lt i hlt
  refine qh (qa (qm (ql (qm ?_))))
  refine hk_region fun K hK=>runs_eval tab_ok ?_
  simp only [ev0,evA,evB,evP,fl,gp,tab,simprocAttr,reduceCtorEq,reduceIte]
  refine fin_run trivial (hK _ ?_)<;>clear hK<;>clear K
  refine qa (ql ?_)
  refine hk_loop (ι:=Nat) (fun k=>⟨29,[(0,.p (.list (il (tbm n φ)))),(3,.sl 0 0 (tbm i ψ++upto1 (decide (ψ i < k)) (ψ i)).length),(4,.p (.int .i64 i)),(5,.p (.int .i64 k))],[.own (ol (tbm i ψ++upto1 (decide (ψ i < k)) (ψ i)))]⟩) (fun k=>k≤n) (fun k=>n - k) 0 (Nat.zero_le _) [0] (by
   rw [show tbm i ψ++upto1 (decide (ψ i < 0)) (ψ i)=tbm i ψ by simp [upto1]]
   simp only [leq,leA,ev0,evA,evB,evP,fl,gp,tab,simprocAttr,reduceCtorEq,reduceIte]<;>first|trivial|trace_state) fun k hk=>?_
  have hol:(tbm i ψ++upto1 (decide (ψ i < k)) (ψ i)).length≤i + 1:=by rw [List.length_append,hil]; unfold upto1; split<;>simp
  refine qm (qm ?_)
  refine hk_region fun K hK=>runs_eval tab_ok ?_
  simp only [ev0,evA,evB,evP,fl,gp,tab,simprocAttr,reduceCtorEq,reduceIte,il_length,hl]
  refine fin_run trivial (hK _ ?_)<;>clear hK<;>clear K
  refine qa ?_
  refine hk_cond rfl (fun hC2=>?_) (fun hC2=>?_)
  ·(try simp only [nhs] at hC2)
   have hkn:k < n:=by omega
   have hg:=tbm_get (φ:=φ) hkn
   refine qh (qa (qm (ql (qm ?_))))
   refine hk_region fun K hK=>runs_eval tab_ok ?_
   simp only [ev0,evA,evB,evP,fl,gp,tab,simprocAttr,reduceCtorEq,reduceIte,il_get (show k < (tbm n φ).length by omega),hg]
   refine fin_run ?_ (hK _ ?_)<;>clear hK<;>clear K
   ·(first|exact trivial|omega|(simp only [In64] at *; omega)|(simp [In64] at *; omega)|(simp_all; done)|skip)
   refine qa ?_
   refine hk_cond rfl (fun hC3=>?_) (fun hC3=>?_)
   ·(try simp only [nhs] at hC3)
    have hki:k=ψ i:=by
     have h1:φ k=i:=by omega
     rw [← h1,hψ.l k hkn]
    have hst:tbm i ψ++upto1 (decide (ψ i < k + 1)) (ψ i)=(tbm i ψ++upto1 (decide (ψ i < k)) (ψ i))++[((k:Nat):Int)]:=by
     rw [hki]; simp [upto1]
    refine hk_region fun K hK=>runs_eval tab_ok ?_
    simp only [ev0,evA,evB,evP,fl,gp,tab,simprocAttr,reduceCtorEq,reduceIte]
    refine fin_run ?_ (hK _ ?_)<;>clear hK<;>clear K
    ·(first|exact trivial|omega|(simp only [In64] at *; omega)|(simp [In64] at *; omega)|(simp_all; done)|skip)
    refine qd (qa ?_)
    refine hk_region fun K hK=>runs_eval tab_ok ?_
    simp only [ev0,evA,evB,evP,fl,gp,tab,simprocAttr,reduceCtorEq,reduceIte]
    refine fin_run ?_ (hK _ ?_)<;>clear hK<;>clear K
    ·(first|exact trivial|omega|(simp only [In64] at *; omega)|(simp [In64] at *; omega)|(simp_all; done)|skip)
    refine qa ?_
    refine ⟨k + 1,[1],by omega,by omega,?_⟩
    rw [hst]
    generalize tbm i ψ++upto1 (decide (ψ i < k)) (ψ i)=T at *
    simp only [leq,leA,ev0,evA,evB,evP,fl,gp,tab,simprocAttr,reduceCtorEq,reduceIte]<;>first|trivial|omega|trace_state
   ·(try simp only [nhs] at hC3)
    have hki:¬ k=ψ i:=fun he=>by
     have h1:φ k=i:=by rw [he]; exact hψ.r i hlt
     omega
    have hst:tbm i ψ++upto1 (decide (ψ i < k + 1)) (ψ i)=tbm i ψ++upto1 (decide (ψ i < k)) (ψ i):=by
     congr 2
     exact decide_eq_decide.2 ⟨fun h=>by omega,fun h=>by omega⟩
    refine qh (qd (qa ?_))
    refine hk_region fun K hK=>runs_eval tab_ok ?_
    simp only [ev0,evA,evB,evP,fl,gp,tab,simprocAttr,reduceCtorEq,reduceIte]
    refine fin_run ?_ (hK _ ?_)<;>clear hK<;>clear K
    ·(first|exact trivial|omega|(simp only [In64] at *; omega)|(simp [In64] at *; omega)|(simp_all; done)|skip)
    refine qa ?_
    refine ⟨k + 1,[0],by omega,by omega,?_⟩
    rw [hst]
    simp only [leq,leA,ev0,evA,evB,evP,fl,gp,tab,simprocAttr,reduceCtorEq,reduceIte]<;>first|trivial|omega
  ·(try simp only [nhs] at hC2)
   have hfin:tbm i ψ++upto1 (decide (ψ i < k)) (ψ i)=tbm (i + 1) ψ:=by
    rw [show decide (ψ i < k)=true from decide_eq_true (by omega),tbm_succ]; rfl
   rw [hfin]
   refine qj (qc (qc (qf (qd (qa ?_)))))
   refine hk_region fun K hK=>runs_eval tab_ok ?_
   simp only [ev0,evA,evB,evP,fl,gp,tab,simprocAttr,reduceCtorEq,reduceIte]
   refine fin_run ?_ (hK _ ?_)<;>clear hK<;>clear K
   ·(first|exact trivial|omega|(simp only [In64] at *; omega)|(simp [In64] at *; omega)|(simp_all; done)|skip)
   refine qa ?_
   refine ⟨i + 1,[0],by omega,by omega,?_⟩
   simp only [leq,leA,ev0,evA,evB,evP,fl,gp,tab,simprocAttr,reduceCtorEq,reduceIte]<;>first|trivial|omega
 ·(try simp only [nhs] at hC1)
  have hin:i=n:=by omega
  rw [hin]
  refine hk_seal 3 0 rfl rfl ?_
  refine qj (qc (qc (qf (qa (qm ?_)))))
  refine hk_region fun K hK=>runs_eval tab_ok ?_
  simp only [ev0,evA,evB,evP,fl,gp,tab,simprocAttr,reduceCtorEq,reduceIte]
  refine fin_run trivial (hK _ ?_)<;>clear hK<;>clear K
  refine qa (qk ?_)
  simp only [Tryd.results36,enA,ev0,evA,evB,evP,fl,gp,tab,simprocAttr,reduceCtorEq,reduceIte]
  all_goals (rfl)
end Go.Proofs.YtboadfahlflmhaaDoor

/-
  Krull and Schmidt, by the documents' tables: parts that are the same, one by one; a group renumbered. Conditions: none.
-/
set_option linter.all false
namespace Go.Proofs.YtboadfahlflmhaaDoor
open Go.Pv

section
variable {α:Type _}
theorem perm_ix {l' l:List α} (h:l'.Perm l):∃ μ:Nat→Nat,(∀ j,j < l.length→μ j < l.length∧l'[j]? = l[μ j]?)∧∀ j k,j < l.length→k < l.length→μ j=μ k→j=k:=by
 induction h with
 | nil=>exact ⟨id,fun j hj=>absurd hj (Nat.not_lt_zero _),fun j k hj=>absurd hj (Nat.not_lt_zero _)⟩
 | @cons a l1 l2 hp ih =>
  obtain ⟨μ,h1,h2⟩:=ih
  refine ⟨fun j=>match j with | 0=>0 | j + 1=>μ j + 1,fun j hj=>?_,fun j k hj hk he=>?_⟩
  ·match j,hj with
   | 0,_=>exact ⟨by simp,rfl⟩
   | j + 1,hj =>
    have:=h1 j (by simpa using hj)
    exact ⟨by simpa using this.1,by simpa using this.2⟩
  ·match j,k,hj,hk,he with
   | 0,0,_,_,_=>rfl
   | 0,k + 1,_,_,he=>simp at he
   | j + 1,0,_,_,he=>simp at he
   | j + 1,k + 1,hj,hk,he=>exact congrArg (· + 1) (h2 j k (by simpa using hj) (by simpa using hk) (by simpa using he))
 | swap a b l =>
  refine ⟨fun j=>match j with | 0=>1 | 1=>0 | j + 2=>j + 2,fun j hj=>?_,fun j k hj hk he=>?_⟩
  ·match j,hj with
   | 0,_=>exact ⟨by simp,rfl⟩
   | 1,_=>exact ⟨by simp,rfl⟩
   | j + 2,hj=>exact ⟨by simpa using hj,rfl⟩
  ·match j,k,hj,hk,he with
   | 0,0,_,_,_=>rfl
   | 0,1,_,_,he=>simp at he
   | 0,k + 2,_,_,he=>simp at he
   | 1,0,_,_,he=>simp at he
   | 1,1,_,_,_=>rfl
   | 1,k + 2,_,_,he=>simp at he
   | j + 2,0,_,_,he=>simp at he
   | j + 2,1,_,_,he=>simp at he
   | j + 2,k + 2,hj,hk,he=>exact he
 | @trans l1 l2 l3 p1 p2 ih1 ih2 =>
  obtain ⟨μ,h1,h2⟩:=ih1
  obtain ⟨ν,h3,h4⟩:=ih2
  have hl:=p2.length_eq
  refine ⟨fun j=>ν (μ j),fun j hj=>?_,fun j k hj hk he=>?_⟩
  ·have a:=h1 j (by omega)
   have b:=h3 (μ j) (by omega)
   exact ⟨b.1,a.2.trans b.2⟩
  ·have a:=h1 j (by omega)
   have b:=h1 k (by omega)
   exact h2 j k (by omega) (by omega) (h4 _ _ (by omega) (by omega) he)
theorem All2.len {β:Type _} {R:α→β→Prop} {l:List α} {m:List β} (h:All2 R l m):l.length=m.length:=by
 induction h with
 | nil=>rfl
 | cons _ _ ih=>simp [ih]
theorem All2.get {β:Type _} {R:α→β→Prop} {l:List α} {m:List β} (h:All2 R l m):∀ {j:Nat} {a:α} {b:β},l[j]? = some a→m[j]? = some b→R a b:=by
 induction h with
 | nil=>intro j a b h; simp at h
 | cons h1 _ ih =>
  intro j a b ha hb
  match j with
  | 0=>simp at ha hb; rw [← ha,← hb]; exact h1
  | j + 1=>exact ih (by simpa using ha) (by simpa using hb)
end

section
variable {n e N d:Nat} {f g:Nat→Nat→Nat} {p q:Nat→Bool} {φ:Nat→Nat} {m:List Int}
open Classical in
noncomputable def rdi (G:Grp n f e) (K:Grp N g d) (p q:Nat→Bool) (φ:El G→El K) (i:Nat):Nat:=if h:lat n p i < n then pix q (φ ⟨lat n p i,h⟩).1 else 0
theorem rdi_at {G:Grp n f e} {K:Grp N g d} {φ:El G→El K} (h:Ism (lfp G p) (lfp K q) φ) {i:Nat} (hi:i < (thl n p).length):rdi G K p q φ i < (thl N q).length∧lat N q (rdi G K p q φ i)=(φ ⟨lat n p i,(lat_at hi).1⟩).1:=by
 obtain ⟨l1,l2,l3,l4⟩:=lat_at hi
 have hq:q (φ ⟨lat n p i,l1⟩).1=true:=h.to ⟨lat n p i,l1⟩ l2
 have e1:rdi G K p q φ i=pix q (φ ⟨lat n p i,l1⟩).1:=by unfold rdi; rw [dif_pos l1]
 rw [e1]
 exact ⟨(pix_at (φ ⟨lat n p i,l1⟩).2 hq).1,lat_pixI (φ ⟨lat n p i,l1⟩).2 hq⟩
theorem rdi_inj {G:Grp n f e} {K:Grp N g d} {φ:El G→El K} (h:Ism (lfp G p) (lfp K q) φ) {i j:Nat} (hi:i < (thl n p).length) (hj:j < (thl n p).length) (he:rdi G K p q φ i=rdi G K p q φ j):i=j:=by
 have a:=rdi_at h hi
 have b:=rdi_at h hj
 obtain ⟨l1,l2,l3,l4⟩:=lat_at hi
 obtain ⟨k1,k2,k3,k4⟩:=lat_at hj
 have e1:(φ ⟨lat n p i,l1⟩)=φ ⟨lat n p j,k1⟩:=el_ext (by rw [← a.2,he,b.2])
 have e2:=h.inj ⟨lat n p i,l1⟩ ⟨lat n p j,k1⟩ l2 k2 e1
 have e3:lat n p i=lat n p j:=congrArg Subtype.val e2
 rw [← l4,e3,k4]
theorem part_le {G:Grp n f e} {K:Grp N g d} {φ:El G→El K} (h:Ism (lfp G p) (lfp K q) φ):(thl n p).length≤(thl N q).length:=by
 have h1:((List.range (thl n p).length).map (rdi G K p q φ)).Nodup:=nodup_map List.nodup_range fun a ha b hb he=>rdi_inj h (List.mem_range.1 ha) (List.mem_range.1 hb) he
 have:=nodup_lt h1 (n:=(thl N q).length) fun x hx=>by
  obtain ⟨a,ha,rfl⟩:=List.mem_map.1 hx
  exact (rdi_at h (List.mem_range.1 ha)).1
 rwa [List.length_map,List.length_range] at this
theorem part_isom (G:Grp n f e) (K:Grp N g d) (hp:Sub n f e p) (hq:Sub N g d q) {φ:El G→El K} (h:Ism (lfp G p) (lfp K q) φ):∃ ψ,Isom (thl n p).length (op (ptb n f p) (thl n p).length) (thl N q).length (op (ptb N g q) (thl N q).length) ψ:=by
 obtain ⟨φ',h'⟩:=h.symm (lfp_sg hp)
 refine ⟨rdi G K p q φ,isom_iff.2 ⟨⟨fun i hi=>(rdi_at h hi).1,fun i j hi hj=>?_⟩,Nat.le_antisymm (part_le h) (part_le h'),fun y hy=>?_⟩⟩
 ·have a:=rdi_at h hi
  have b:=rdi_at h hj
  obtain ⟨c1,c2⟩:=pop_at G hp hi hj
  have c:=rdi_at h c1
  obtain ⟨d1,d2⟩:=pop_at K hq a.1 b.1
  obtain ⟨l1,l2,l3,l4⟩:=lat_at hi
  obtain ⟨k1,k2,k3,k4⟩:=lat_at hj
  rw [ptb_opI hi hj,ptb_opI a.1 b.1]
  have key:∀ x y:El G,lfp G p x→lfp G p y→∀ (z:El G),z.1=f x.1 y.1→(φ z).1=g (φ x).1 (φ y).1:=fun x y hx hy z hz=>by
   have e1:z=x * y:=el_ext hz
   rw [e1,h.mul x y hx hy]; rfl
  have e2:=key ⟨lat n p i,l1⟩ ⟨lat n p j,k1⟩ l2 k2 ⟨lat n p (pop n f p i j),(lat_at c1).1⟩ c2
  have e3:lat N q (rdi G K p q φ (pop n f p i j))=lat N q (pop N g q (rdi G K p q φ i) (rdi G K p q φ j)):=by
   rw [c.2,d2,e2,a.2,b.2]
  rw [← (lat_at c.1).2.2.2,e3,(lat_at d1).2.2.2]
 ·obtain ⟨l1,l2,l3,l4⟩:=lat_at hy
  obtain ⟨x,hx,he⟩:=h.sur ⟨lat N q y,l1⟩ l2
  obtain ⟨i1,_⟩:=pix_at x.2 hx
  refine ⟨pix p x.1,i1,?_⟩
  have a:=rdi_at h i1
  have e1:(⟨lat n p (pix p x.1),(lat_at i1).1⟩:El G)=x:=el_ext (lat_pixI x.2 hx)
  rw [e1,he] at a
  rw [← (lat_at a.1).2.2.2,a.2,l4]

/-- The parts p and q are the same. -/
def Pis (n:Nat) (f:Nat→Nat→Nat) (p:Nat→Bool) (N:Nat) (g:Nat→Nat→Nat) (q:Nat→Bool):Prop:=∃ ψ,Isom (thl n p).length (op (ptb n f p) (thl n p).length) (thl N q).length (op (ptb N g q) (thl N q).length) ψ
theorem ks_ix (G:Grp n f e) (K:Grp N g d) (hφ:Isom n f N g φ) {LX LY:List (List Int)}
  (hX:∀ v∈LX,∃ p,v=thl n p∧IndT n f e p∧(¬ n=1→¬ (thl n p).length=1)) (hY:∀ v∈LY,∃ p,v=thl N p∧IndT N g d p∧(¬ N=1→¬ (thl N p).length=1))
  (dX:DirL (lfp G fun _=>true) (LX.map (rwp G))) (dY:DirL (lfp K fun _=>true) (LY.map (rwp K))) (oX:n=1→LX.length=1) (oY:N=1→LY.length=1) :
  LX.length=LY.length∧∃ μ:Nat→Nat,(∀ j,j < LX.length→μ j < LX.length∧∀ p q,Sub n f e p→Sub N g d q→LX.getD j []=thl n p→LY.getD (μ j) []=thl N q→Pis n f p N g q)∧∀ j k,j < LX.length→k < LX.length→μ j=μ k→j=k:=by
 obtain ⟨h1,h2,h3⟩:=isom_iff.1 hφ
 subst h2
 by_cases hn:n=1
 ·refine ⟨by rw [oX hn,oY hn],id,fun j hj=>⟨hj,fun p q hp hq _ _=>?_⟩,fun j k _ _ h=>h⟩
  have hG:∀ x y:El G,x=y:=fun x y=>el_ext (by have:=x.2; have:=y.2; omega)
  have hK:∀ x y:El K,x=y:=fun x y=>el_ext (by have:=x.2; have:=y.2; omega)
  exact part_isom G K hp hq (φ:=fun _=>1) ⟨fun _ _=>hq.one,fun _ _ _ _=>hK _ _,fun _ _ _ _ _=>hG _ _,fun y _=>⟨1,hp.one,hK _ _⟩⟩
 ·have hall:Sub n f e fun _=>true:=⟨rfl,fun _ _ _ _ _ _=>rfl,fun _ _ _=>rfl⟩
  have hI:Ism (lfp G fun _=>true) (lfp K fun _=>true) fun x:El G=>(⟨φ x.1,h1.lt _ x.2⟩:El K):=
   ⟨fun _ _=>rfl,fun x y _ _=>el_ext (h1.mul _ _ x.2 y.2),fun x y _ _ he=>el_ext (hφ.inj x.2 y.2 (congrArg Subtype.val he)),fun y _=>by
    obtain ⟨x,hx,hxe⟩:=h3 y.1 y.2
    exact ⟨⟨x,hx⟩,rfl,el_ext hxe⟩⟩
  obtain ⟨M',hP,hA⟩:=ks2 (el_gp G) (el_gp K) (el_fin G) (lfp_sg hall) hI dX dY (fun A hA=>by
   obtain ⟨v,hv,rfl⟩:=List.mem_map.1 hA
   obtain ⟨p,rfl,a2,a3⟩:=hX v hv
   rw [rwp_thl]
   exact a2.ind (a3 hn)) (fun A hA=>by
   obtain ⟨v,hv,rfl⟩:=List.mem_map.1 hA
   obtain ⟨p,rfl,a2,a3⟩:=hY v hv
   rw [rwp_thl]
   exact a2.ind (a3 hn))
  have hl1:=hA.len
  have hl2:=hP.length_eq
  simp only [List.length_map] at hl1 hl2
  obtain ⟨μ,m1,m2⟩:=perm_ix hP
  simp only [List.length_map] at m1 m2
  have hll:LX.length=LY.length:=by omega
  refine ⟨hll,μ,fun j hj=>⟨by have:=m1 j (by omega); omega,fun p q hp hq ep eq=>?_⟩,fun j k hj hk=>m2 j k (by omega) (by omega)⟩
  obtain ⟨b1,b2⟩:=m1 j (by omega)
  have e1:LX.getD j []=LX[j]:=by simp [List.getD,List.getElem?_eq_getElem hj]
  have e2:LY.getD (μ j) []=LY[μ j]:=by simp [List.getD,List.getElem?_eq_getElem b1]
  have k1:(LX.map (rwp G))[j]? = some (lfp G p):=by
   rw [List.getElem?_map,List.getElem?_eq_getElem hj,Option.map_some,← e1,ep,rwp_thl]
  have k2:M'[j]? = some (lfp K q):=by
   rw [b2,List.getElem?_map,List.getElem?_eq_getElem b1,Option.map_some,← e2,eq,rwp_thl]
  obtain ⟨ψ,hψ⟩:=hA.get k1 k2
  exact part_isom G K hp hq hψ
theorem Isom.comp {k:Nat} {h:Nat→Nat→Nat} {ψ:Nat→Nat} (a:Isom n f N g φ) (b:Isom N g k h ψ):Isom n f k h fun x=>ψ (φ x):=by
 obtain ⟨a1,a2,a3⟩:=isom_iff.1 a
 obtain ⟨b1,b2,b3⟩:=isom_iff.1 b
 refine isom_iff.2 ⟨a1.comp b1,a2.trans b2,fun y hy=>?_⟩
 obtain ⟨z,hz,rfl⟩:=b3 y hy
 obtain ⟨x,hx,rfl⟩:=a3 z hz
 exact ⟨x,hx,rfl⟩

/-- A group renumbered. -/
def rnu (f:Nat→Nat→Nat) (π ψ:Nat→Nat) (a b:Nat):Nat:=π (f (ψ a) (ψ b))
def rtb (n:Nat) (f:Nat→Nat→Nat) (π ψ:Nat→Nat):List Int:=tbl (fun a b=>((rnu f π ψ a b:Nat):Int)) n
theorem rnu_grp (G:Grp n f e) {π ψ:Nat→Nat} (hπ:∀ x,x < n→π x < n) (hI:Inv2 n π ψ):Grp n (rnu f π ψ) (π e) where
 pos:=G.pos
 cl a b ha hb:=hπ _ (G.cl _ _ (hI.lt a ha) (hI.lt b hb))
 el:=hπ _ G.el
 one_l a ha:=by unfold rnu; rw [hI.l e G.el,G.one_l _ (hI.lt a ha),hI.r a ha]
 one_r a ha:=by unfold rnu; rw [hI.l e G.el,G.one_r _ (hI.lt a ha),hI.r a ha]
 assoc a b c ha hb hc:=by
  have ka:=hI.lt a ha
  have kb:=hI.lt b hb
  have kc:=hI.lt c hc
  unfold rnu
  rw [hI.l _ (G.cl _ _ ka kb),hI.l _ (G.cl _ _ kb kc),G.assoc _ _ _ ka kb kc]
 inv a ha:=by
  have ka:=hI.lt a ha
  obtain ⟨b,hb,h1,h2⟩:=G.inv _ ka
  exact ⟨π b,hπ b hb,by unfold rnu; rw [hI.l b hb,h1],by unfold rnu; rw [hI.l b hb,h2]⟩
theorem rtb_GT (h:GT n m n e) {π ψ:Nat→Nat} (hπ:∀ x,x < n→π x < n) (hI:Inv2 n π ψ):GT n (rtb n (op m n) π ψ) n (π e):=tbl_GT' h.2.1.big (rnu_grp h.2.2 hπ hI)
theorem rtb_isom (h:GT n m n e) {π ψ:Nat→Nat} (hπ:∀ x,x < n→π x < n) (hI:Inv2 n π ψ):Isom n (op m n) n (op (rtb n (op m n) π ψ) n) π:=by
 refine isom_iff.2 ⟨⟨hπ,fun a b ha hb=>?_⟩,rfl,fun y hy=>⟨ψ y,hI.lt y hy,hI.r y hy⟩⟩
 have:op (rtb n (op m n) π ψ) n (π a) (π b)=rnu (op m n) π ψ (π a) (π b):=tbl_op' _ (hπ a ha) (hπ b hb)
 rw [this]
 unfold rnu
 rw [hI.l a ha,hI.l b hb]
theorem perm_fn {w:List Int} (h:PermOk w):∃ π ψ:Nat→Nat,w=tbm w.length π∧(∀ x,x < w.length→π x < w.length)∧Inv2 w.length π ψ:=by
 have hr:∀ x,x < w.length→(w.getD x 0).toNat < w.length∧(((w.getD x 0).toNat:Nat):Int)=w.getD x 0:=fun x hx=>by
  have:=h.rng x hx
  omega
 have hinj:∀ a b,a < w.length→b < w.length→(w.getD a 0).toNat=(w.getD b 0).toNat→a=b:=fun a b ha hb he=>h.inj a b ha hb (by rw [← (hr a ha).2,he,(hr b hb).2])
 have hsur:∀ y,y < w.length→∃ x,x < w.length∧(w.getD x 0).toNat=y:=fun y hy=>by
  refine Classical.byContradiction fun hh=>?_
  have h1:(((List.range w.length).map fun x=>(w.getD x 0).toNat)++[y]).Nodup:=by
   rw [List.nodup_append]
   refine ⟨nodup_map List.nodup_range fun a ha b hb he=>hinj a b (List.mem_range.1 ha) (List.mem_range.1 hb) he,by simp,fun a ha b hb he=>?_⟩
   obtain ⟨x,hx,rfl⟩:=List.mem_map.1 ha
   rw [List.mem_singleton.1 hb] at he
   exact hh ⟨x,List.mem_range.1 hx,he⟩
  have:=nodup_lt h1 (n:=w.length) fun x hx=>by
   rcases List.mem_append.1 hx with k | k
   ·obtain ⟨a,ha,rfl⟩:=List.mem_map.1 k
    exact (hr a (List.mem_range.1 ha)).1
   ·rw [List.mem_singleton.1 k]; exact hy
  simp at this
  omega
 have hc:∀ y,∃ x,y < w.length→x < w.length∧(w.getD x 0).toNat=y:=fun y=>by
  by_cases hy:y < w.length
  ·obtain ⟨x,hx⟩:=hsur y hy
   exact ⟨x,fun _=>hx⟩
  ·exact ⟨0,fun h=>absurd h hy⟩
 refine ⟨fun x=>(w.getD x 0).toNat,fun y=>Classical.choose (hc y),?_,fun x hx=>(hr x hx).1,⟨fun y hy=>(Classical.choose_spec (hc y) hy).1,fun y hy=>(Classical.choose_spec (hc y) hy).2,fun x hx=>?_⟩⟩
 ·refine List.ext_getElem (tbm_len _ _).symm fun i h1 h2=>?_
  have e1:=tbm_get (φ:=fun x=>(w.getD x 0).toNat) h1
  have e2:w.getD i 0=w[i]:=by simp [List.getD,List.getElem?_eq_getElem h1]
  have e3:(tbm w.length fun x=>(w.getD x 0).toNat).getD i 0=(tbm w.length fun x=>(w.getD x 0).toNat)[i]:=by rw [List.getD,List.getElem?_eq_getElem h2]; rfl
  exact (e2.symm.trans (hr i h1).2.symm).trans (e1.symm.trans e3)
 ·obtain ⟨c1,c2⟩:=Classical.choose_spec (hc (w.getD x 0).toNat) (hr x hx).1
  exact hinj _ _ c1 hx c2
end

theorem permFault_big {p:List Int} (hl:¬ p.length≤1000) (hp:p.length≤1000000000000000):FnC Tryd.prog 35 [.list (il p)] (fl (2,0)):=by
 refine fnc_of tab_ok Tryd.func35 rfl (by kernel_rfl) (by rw [Tryd.ntmps35]; exact Nat.le_add_left 1 _) ?_; rw [Tryd.ntmps35]
 refine qm ?_
 refine hk_region fun K hK=>runs_eval tab_ok ?_
 simp only [ev0,evA,evB,evP,fl,gp,tab,simprocAttr,reduceCtorEq,reduceIte]
 refine fin_run ?_ (hK _ ?_)<;>clear hK<;>clear K
 ·(first|exact trivial|omega|(simp only [In64] at *; omega)|(simp [In64] at *; omega)|(simp_all; done)|skip)
 refine qa (qm (qm ?_))
 refine hk_region fun K hK=>runs_eval tab_ok ?_
 simp only [ev0,evA,evB,evP,fl,gp,tab,simprocAttr,reduceCtorEq,reduceIte]
 refine fin_run trivial (hK _ ?_)<;>clear hK<;>clear K
 refine qa ?_
 refine hk_cond rfl (fun hC1=>?_) (fun hC1=>?_)
 ·(try simp only [nhs] at hC1)
  refine qm ?_
  refine hk_region fun K hK=>runs_eval tab_ok ?_
  simp only [ev0,evA,evB,evP,fl,gp,tab,simprocAttr,reduceCtorEq,reduceIte]
  refine fin_stop trivial (runs_call (f_c 2 0) rfl rfl rfl (by simp only [dstOk,Nat.reduceLT]) (by repeat (first|exact trivial|constructor)) (runs_eval tab_ok ?_))
  simp only [ev0,evA,evB,evP,fl,gp,tab,simprocAttr,reduceCtorEq,reduceIte]
  refine fin_run ?_ (hK _ ?_)<;>clear hK<;>clear K
  ·(first|exact trivial|omega|(simp only [In64] at *; omega)|(simp [In64] at *; omega)|(simp_all; done)|skip)
  refine qa (qk (qb ?_))
  simp only [Tryd.results35,enA,ev0,evA,evB,evP,fl,gp,tab,simprocAttr,reduceCtorEq,reduceIte]
  all_goals (rfl)
 ·(try simp only [nhs] at hC1)
  omega
theorem permFault_rng {p:List Int} (hl:p.length≤1000) {k:Nat} (k1:k < p.length) (hr:¬ (0≤p.getD k 0∧p.getD k 0 < p.length)) (k3:∀ j,j < k→(0≤p.getD j 0∧p.getD j 0 < p.length)∧¬ p.getD j 0∈p.take j):FnC Tryd.prog 35 [.list (il p)] (fl (3,k)):=by
 refine fnc_of tab_ok Tryd.func35 rfl (by kernel_rfl) (by rw [Tryd.ntmps35]; exact Nat.le_add_left 1 _) ?_; rw [Tryd.ntmps35]
 refine qm ?_
 refine hk_region fun K hK=>runs_eval tab_ok ?_
 simp only [ev0,evA,evB,evP,fl,gp,tab,simprocAttr,reduceCtorEq,reduceIte]
 refine fin_run ?_ (hK _ ?_)<;>clear hK<;>clear K
 ·(first|exact trivial|omega|(simp only [In64] at *; omega)|(simp [In64] at *; omega)|(simp_all; done)|skip)
 refine qa (qm (qm ?_))
 refine hk_region fun K hK=>runs_eval tab_ok ?_
 simp only [ev0,evA,evB,evP,fl,gp,tab,simprocAttr,reduceCtorEq,reduceIte]
 refine fin_run trivial (hK _ ?_)<;>clear hK<;>clear K
 refine qa ?_
 refine hk_cond rfl (fun hC1=>?_) (fun hC1=>?_)
 ·(try simp only [nhs] at hC1)
  omega
 ·(try simp only [nhs] at hC1)
  refine qh (qa (qm (qm ?_)))
  refine hk_region fun K hK=>runs_eval tab_ok ?_
  simp only [ev0,evA,evB,evP,fl,gp,tab,simprocAttr,reduceCtorEq,reduceIte]
  refine fin_run trivial (hK _ ?_)<;>clear hK<;>clear K
  refine qa (ql ?_)
  refine hk_loop (ι:=Nat) (fun i=>⟨41,[(0,.p (.list (il p))),(2,.ptr 0 0),(3,.p (.int .i64 i))],[.own [.p (.int .i64 0),.p (.int .i64 0)]]⟩) (fun i=>i≤k) (fun i=>p.length - i) 0 (Nat.zero_le _) [0] (by simp only [leq,leA,ev0,evA,evB,evP,fl,gp,tab,simprocAttr,reduceCtorEq,reduceIte]<;>trivial) fun i hi=>?_
  refine qm (qm ?_)
  refine hk_region fun K hK=>runs_eval tab_ok ?_
  simp only [ev0,evA,evB,evP,fl,gp,tab,simprocAttr,reduceCtorEq,reduceIte,il_length]
  refine fin_run trivial (hK _ ?_)<;>clear hK<;>clear K
  refine qa ?_
  refine hk_cond rfl (fun hC2=>?_) (fun hC2=>?_)
  ·(try simp only [nhs] at hC2)
   have hlt:i < p.length:=by omega
   have hcs:(i=k∧p.getD i 0 < 0)∨(i=k∧¬ p.getD i 0 < 0∧p.getD i 0 ≥ p.length)∨¬ i=k:=by
    by_cases h1:i=k
    ·subst h1; omega
    ·exact .inr (.inr h1)
   refine qh (qa (qm (ql (qm (qm ?_)))))
   rcases hcs with ⟨hik,h0⟩ | ⟨hik,h0,h1⟩ | hik
   ·refine hk_region fun K hK=>runs_eval tab_ok ?_
    simp only [ev0,evA,evB,evP,fl,gp,tab,simprocAttr,reduceCtorEq,reduceIte,il_get hlt,il_length,decide_eq_true h0]
    refine fin_run ?_ (hK _ ?_)<;>clear hK<;>clear K
    ·(first|exact trivial|omega|(simp only [In64] at *; omega)|(simp [In64] at *; omega)|(simp_all; done)|skip)
    refine qa ?_
    refine hk_cond rfl (fun hC3=>?_) (fun hC3=>?_)
    ·refine qm ?_
     refine hk_region fun K hK=>runs_eval tab_ok ?_
     simp only [ev0,evA,evB,evP,fl,gp,tab,simprocAttr,reduceCtorEq,reduceIte]
     refine fin_stop trivial (runs_call (f_c 3 i) rfl rfl rfl (by simp only [dstOk,Nat.reduceLT]) (by repeat (first|exact trivial|constructor)) (runs_eval tab_ok ?_))
     simp only [ev0,evA,evB,evP,fl,gp,tab,simprocAttr,reduceCtorEq,reduceIte]
     refine fin_run ?_ (hK _ ?_)<;>clear hK<;>clear K
     ·(first|exact trivial|omega|(simp only [In64] at *; omega)|(simp [In64] at *; omega)|(simp_all; done)|skip)
     refine qa (qk (qb (qe (qb (qb (qe (qb ?_)))))))
     simp only [Tryd.results35,enA,ev0,evA,evB,evP,fl,gp,tab,simprocAttr,reduceCtorEq,reduceIte]
     all_goals (subst hik; rfl)
    ·cases hC3
   ·refine hk_region fun K hK=>runs_eval tab_ok ?_
    simp only [ev0,evA,evB,evP,fl,gp,tab,simprocAttr,reduceCtorEq,reduceIte,il_get hlt,il_length,decide_eq_false h0,decide_eq_true h1]
    refine fin_run ?_ (hK _ ?_)<;>clear hK<;>clear K
    ·(first|exact trivial|omega|(simp only [In64] at *; omega)|(simp [In64] at *; omega)|(simp_all; done)|skip)
    refine qa ?_
    refine hk_cond rfl (fun hC3=>?_) (fun hC3=>?_)
    ·(try simp only [nhs] at hC3)
     refine qm ?_
     refine hk_region fun K hK=>runs_eval tab_ok ?_
     simp only [ev0,evA,evB,evP,fl,gp,tab,simprocAttr,reduceCtorEq,reduceIte]
     refine fin_stop trivial (runs_call (f_c 3 i) rfl rfl rfl (by simp only [dstOk,Nat.reduceLT]) (by repeat (first|exact trivial|constructor)) (runs_eval tab_ok ?_))
     simp only [ev0,evA,evB,evP,fl,gp,tab,simprocAttr,reduceCtorEq,reduceIte]
     refine fin_run ?_ (hK _ ?_)<;>clear hK<;>clear K
     ·(first|exact trivial|omega|(simp only [In64] at *; omega)|(simp [In64] at *; omega)|(simp_all; done)|skip)
     refine qa (qk (qb (qe (qb (qb (qe (qb ?_)))))))
     simp only [Tryd.results35,enA,ev0,evA,evB,evP,fl,gp,tab,simprocAttr,reduceCtorEq,reduceIte]
     all_goals (subst hik; rfl)
    ·cases hC3
   ·obtain ⟨⟨r1,r2⟩,r3⟩:=k3 i (by omega)
    refine hk_region fun K hK=>runs_eval tab_ok ?_
    simp only [ev0,evA,evB,evP,fl,gp,tab,simprocAttr,reduceCtorEq,reduceIte,il_get hlt,il_length,decide_eq_false (show ¬ p.getD i 0 < 0 by omega),decide_eq_false (show ¬ p.getD i 0 ≥ p.length by omega)]
    refine fin_run ?_ (hK _ ?_)<;>clear hK<;>clear K
    ·(first|exact trivial|omega|(simp only [In64] at *; omega)|(simp [In64] at *; omega)|(simp_all; done)|skip)
    refine qa ?_
    refine hk_cond rfl (fun hC3=>?_) (fun hC3=>?_)
    ·cases hC3
    ·(try simp only [nhs] at hC3)
     refine qh (qa (qm ?_))
     refine hk_draw mixed (by kernel_rfl) fun K hK=>runs_eval tab_ok ?_
     simp only [ev0,evA,evB,evP,fl,gp,tab,simprocAttr,reduceCtorEq,reduceIte,il_get hlt]
     refine fin_stop ?_ (runs_call (has_r (p.take i) (p.getD i 0) (by rw [List.length_take]; omega)) rfl rfl rfl (by simp only [dstOk,Nat.reduceLT]) (by repeat (first|exact trivial|constructor)) (runs_eval tab_ok ?_))
     ·(first|exact trivial|omega|(simp only [In64] at *; omega)|(simp [In64] at *; omega)|(simp_all; done)|skip)
     simp only [ev0,evA,evB,evP,fl,gp,tab,simprocAttr,reduceCtorEq,reduceIte,decide_eq_false r3,il_get hlt]
     refine fin_run ?_ (hK _ ?_)<;>clear hK<;>clear K
     ·(first|exact trivial|omega|(simp only [In64] at *; omega)|(simp [In64] at *; omega)|(simp_all; done)|skip)
     refine qa ?_
     refine hk_cond rfl (fun hC4=>?_) (fun hC4=>?_)
     ·cases hC4
     ·(try simp only [nhs] at hC4)
      refine qh (qd (qa ?_))
      refine hk_region fun K hK=>runs_eval tab_ok ?_
      simp only [ev0,evA,evB,evP,fl,gp,tab,simprocAttr,reduceCtorEq,reduceIte]
      refine fin_run ?_ (hK _ ?_)<;>clear hK<;>clear K
      ·(first|exact trivial|omega|(simp only [In64] at *; omega)|(simp [In64] at *; omega)|(simp_all; done)|skip)
      refine qa ?_
      refine ⟨i + 1,[0],by omega,by omega,?_⟩
      simp only [leq,leA,ev0,evA,evB,evP,fl,gp,tab,simprocAttr,reduceCtorEq,reduceIte]<;>first|trivial|omega
  ·(try simp only [nhs] at hC2)
   omega
theorem permFault_dup {p:List Int} (hl:p.length≤1000) {k:Nat} (k1:k < p.length) (hr:0≤p.getD k 0∧p.getD k 0 < p.length) (hm:p.getD k 0∈p.take k) (k3:∀ j,j < k→(0≤p.getD j 0∧p.getD j 0 < p.length)∧¬ p.getD j 0∈p.take j):FnC Tryd.prog 35 [.list (il p)] (fl (10,k)):=by
 refine fnc_of tab_ok Tryd.func35 rfl (by kernel_rfl) (by rw [Tryd.ntmps35]; exact Nat.le_add_left 1 _) ?_; rw [Tryd.ntmps35]
 refine qm ?_
 refine hk_region fun K hK=>runs_eval tab_ok ?_
 simp only [ev0,evA,evB,evP,fl,gp,tab,simprocAttr,reduceCtorEq,reduceIte]
 refine fin_run ?_ (hK _ ?_)<;>clear hK<;>clear K
 ·(first|exact trivial|omega|(simp only [In64] at *; omega)|(simp [In64] at *; omega)|(simp_all; done)|skip)
 refine qa (qm (qm ?_))
 refine hk_region fun K hK=>runs_eval tab_ok ?_
 simp only [ev0,evA,evB,evP,fl,gp,tab,simprocAttr,reduceCtorEq,reduceIte]
 refine fin_run trivial (hK _ ?_)<;>clear hK<;>clear K
 refine qa ?_
 refine hk_cond rfl (fun hC1=>?_) (fun hC1=>?_)
 ·(try simp only [nhs] at hC1)
  omega
 ·(try simp only [nhs] at hC1)
  refine qh (qa (qm (qm ?_)))
  refine hk_region fun K hK=>runs_eval tab_ok ?_
  simp only [ev0,evA,evB,evP,fl,gp,tab,simprocAttr,reduceCtorEq,reduceIte]
  refine fin_run trivial (hK _ ?_)<;>clear hK<;>clear K
  refine qa (ql ?_)
  refine hk_loop (ι:=Nat) (fun i=>⟨41,[(0,.p (.list (il p))),(2,.ptr 0 0),(3,.p (.int .i64 i))],[.own [.p (.int .i64 0),.p (.int .i64 0)]]⟩) (fun i=>i≤k) (fun i=>p.length - i) 0 (Nat.zero_le _) [0] (by simp only [leq,leA,ev0,evA,evB,evP,fl,gp,tab,simprocAttr,reduceCtorEq,reduceIte]<;>trivial) fun i hi=>?_
  refine qm (qm ?_)
  refine hk_region fun K hK=>runs_eval tab_ok ?_
  simp only [ev0,evA,evB,evP,fl,gp,tab,simprocAttr,reduceCtorEq,reduceIte,il_length]
  refine fin_run trivial (hK _ ?_)<;>clear hK<;>clear K
  refine qa ?_
  refine hk_cond rfl (fun hC2=>?_) (fun hC2=>?_)
  ·(try simp only [nhs] at hC2)
   have hlt:i < p.length:=by omega
   have hri:0≤p.getD i 0∧p.getD i 0 < p.length:=by
    by_cases hik:i=k
    ·rw [hik]; exact hr
    ·exact (k3 i (by omega)).1
   obtain ⟨r1,r2⟩:=hri
   refine qh (qa (qm (ql (qm (qm ?_)))))
   refine hk_region fun K hK=>runs_eval tab_ok ?_
   simp only [ev0,evA,evB,evP,fl,gp,tab,simprocAttr,reduceCtorEq,reduceIte,il_get hlt,il_length,decide_eq_false (show ¬ p.getD i 0 < 0 by omega),decide_eq_false (show ¬ p.getD i 0 ≥ p.length by omega)]
   refine fin_run ?_ (hK _ ?_)<;>clear hK<;>clear K
   ·(first|exact trivial|omega|(simp only [In64] at *; omega)|(simp [In64] at *; omega)|(simp_all; done)|skip)
   refine qa ?_
   refine hk_cond rfl (fun hC3=>?_) (fun hC3=>?_)
   ·cases hC3
   ·(try simp only [nhs] at hC3)
    refine qh (qa (qm ?_))
    by_cases hik:i=k
    ·have hdm:decide (p.getD i 0∈p.take i)=true:=decide_eq_true (by rw [hik]; exact hm)
     refine hk_draw mixed (by kernel_rfl) fun K hK=>runs_eval tab_ok ?_
     simp only [ev0,evA,evB,evP,fl,gp,tab,simprocAttr,reduceCtorEq,reduceIte,il_get hlt]
     refine fin_stop ?_ (runs_call (has_r (p.take i) (p.getD i 0) (by rw [List.length_take]; omega)) rfl rfl rfl (by simp only [dstOk,Nat.reduceLT]) (by repeat (first|exact trivial|constructor)) (runs_eval tab_ok ?_))
     ·(first|exact trivial|omega|(simp only [In64] at *; omega)|(simp [In64] at *; omega)|(simp_all; done)|skip)
     simp only [ev0,evA,evB,evP,fl,gp,tab,simprocAttr,reduceCtorEq,reduceIte,hdm,il_get hlt]
     refine fin_run ?_ (hK _ ?_)<;>clear hK<;>clear K
     ·(first|exact trivial|omega|(simp only [In64] at *; omega)|(simp [In64] at *; omega)|(simp_all; done)|skip)
     refine qa ?_
     refine hk_cond rfl (fun hC4=>?_) (fun hC4=>?_)
     ·(try simp only [nhs] at hC4)
      refine qm ?_
      refine hk_region fun K hK=>runs_eval tab_ok ?_
      simp only [ev0,evA,evB,evP,fl,gp,tab,simprocAttr,reduceCtorEq,reduceIte]
      refine fin_stop trivial (runs_call (f_c 10 i) rfl rfl rfl (by simp only [dstOk,Nat.reduceLT]) (by repeat (first|exact trivial|constructor)) (runs_eval tab_ok ?_))
      simp only [ev0,evA,evB,evP,fl,gp,tab,simprocAttr,reduceCtorEq,reduceIte]
      refine fin_run ?_ (hK _ ?_)<;>clear hK<;>clear K
      ·(first|exact trivial|omega|(simp only [In64] at *; omega)|(simp [In64] at *; omega)|(simp_all; done)|skip)
      refine qa (qk (qe (qb (qb (qe (qb ?_))))))
      simp only [Tryd.results35,enA,ev0,evA,evB,evP,fl,gp,tab,simprocAttr,reduceCtorEq,reduceIte]
      all_goals (subst hik; rfl)
     ·cases hC4
    ·have hdm:decide (p.getD i 0∈p.take i)=false:=decide_eq_false (k3 i (by omega)).2
     refine hk_draw mixed (by kernel_rfl) fun K hK=>runs_eval tab_ok ?_
     simp only [ev0,evA,evB,evP,fl,gp,tab,simprocAttr,reduceCtorEq,reduceIte,il_get hlt]
     refine fin_stop ?_ (runs_call (has_r (p.take i) (p.getD i 0) (by rw [List.length_take]; omega)) rfl rfl rfl (by simp only [dstOk,Nat.reduceLT]) (by repeat (first|exact trivial|constructor)) (runs_eval tab_ok ?_))
     ·(first|exact trivial|omega|(simp only [In64] at *; omega)|(simp [In64] at *; omega)|(simp_all; done)|skip)
     simp only [ev0,evA,evB,evP,fl,gp,tab,simprocAttr,reduceCtorEq,reduceIte,hdm,il_get hlt]
     refine fin_run ?_ (hK _ ?_)<;>clear hK<;>clear K
     ·(first|exact trivial|omega|(simp only [In64] at *; omega)|(simp [In64] at *; omega)|(simp_all; done)|skip)
     refine qa ?_
     refine hk_cond rfl (fun hC4=>?_) (fun hC4=>?_)
     ·cases hC4
     ·(try simp only [nhs] at hC4)
      refine qh (qd (qa ?_))
      refine hk_region fun K hK=>runs_eval tab_ok ?_
      simp only [ev0,evA,evB,evP,fl,gp,tab,simprocAttr,reduceCtorEq,reduceIte]
      refine fin_run ?_ (hK _ ?_)<;>clear hK<;>clear K
      ·(first|exact trivial|omega|(simp only [In64] at *; omega)|(simp [In64] at *; omega)|(simp_all; done)|skip)
      refine qa ?_
      refine ⟨i + 1,[0],by omega,by omega,?_⟩
      simp only [leq,leA,ev0,evA,evB,evP,fl,gp,tab,simprocAttr,reduceCtorEq,reduceIte]<;>first|trivial|omega
  ·(try simp only [nhs] at hC2)
   omega
/-- PermFault, whatever the row. -/
theorem permFault_ex {p:List Int} (hp:p.length≤1000000000000000):∃ r:Int × Int,FnC Tryd.prog 35 [.list (il p)] (fl r)∧(r.1=0→PermOk p):=by
 by_cases hl:p.length≤1000
 ·let Good:Nat→Prop:=fun i=>(0≤p.getD i 0∧p.getD i 0 < p.length)∧¬ p.getD i 0∈p.take i
  by_cases hall:∀ i,i < p.length→Good i
  ·have hP:PermOk p:=by
    refine ⟨hl,fun i hi=>(hall i hi).1,?_⟩
    have key:∀ i j,i < j→j < p.length→¬ p.getD i 0=p.getD j 0:=fun i j hij hj he=>by
     refine (hall j hj).2 ?_
     rw [← he]
     rw [List.mem_take_iff_getElem]
     exact ⟨i,by omega,by simp [List.getD,List.getElem?_eq_getElem (show i < p.length by omega)]⟩
    intro i j hi hj he
    rcases Nat.lt_trichotomy i j with h | h | h
    ·exact absurd he (key i j h hj)
    ·exact h
    ·exact absurd he.symm (key j i h hi)
   exact ⟨(0,0),permFault_c hP,fun _=>hP⟩
  ·
   have hex:∃ k,k < p.length∧¬ Good k∧∀ j,j < k→Good j:=by
    refine Classical.byContradiction fun hh=>hall fun i=>?_
    induction i using Nat.strongRecOn with
    | _ i ih =>
     intro hi
     refine Classical.byContradiction fun hg=>hh ⟨i,hi,hg,fun j hj=>ih j hj (by omega)⟩
   obtain ⟨k,k1,k2,k3⟩:=hex
   by_cases hr:0≤p.getD k 0∧p.getD k 0 < p.length
   ·have hm:p.getD k 0∈p.take k:=Classical.byContradiction fun hh=>k2 ⟨hr,hh⟩
    exact ⟨(10,k),permFault_dup hl k1 hr hm k3,fun h=>by simp at h⟩
   ·exact ⟨(3,k),permFault_rng hl k1 hr k3,fun h=>by simp at h⟩
 ·exact ⟨(2,0),permFault_big hl hp,fun h=>by simp at h⟩
end Go.Proofs.YtboadfahlflmhaaDoor

/-
  Walks: all homomorphisms, handed out one by one to who keeps no list. Conditions: none.
-/
set_option linter.all false
namespace Go.Pv
open Go.RowKit
variable {σ:Type}
/-- The blocks of who loops and keeps no list. -/
def HV (p:Prot σ) (i:σ) (b:Blk):Heap:=[.own [.p (p.c4 i)],.own [.p (p.c51 i),.p (p.c52 i)],b]
def RoundsV (P:Program) (p:Prot σ) (rec:Loop) (l:List AV):Prop:=∀ i x,p.ok i→p.okx x→YldQ P 3 2 rec l x (HV p i (.lp rec)) (.p (.bool (p.go i x))) (HV p (p.nx i x) (.lp (recB (p.go i x) rec)))
theorem fixV1 {x:AV} {π:List Nat} (h:sc1 3 x=true) (hπ:π.take 6=[0,1,2,3,4,5]):sc1 6 (ren1 [3,4,5] x)=true∧ren1 π (ren1 [3,4,5] x)=ren1 [3,4,5] x:=by
 have hg:∀ k,k < 3→[3,4,5].getD k 0 < 6∧π.getD ([3,4,5].getD k 0) 0=[3,4,5].getD k 0:=fun k hk=>by
  have e:∀ j,j < 6→π.getD j 0=j:=fun j hj=>by
   have:=congrArg (fun l=>l.getD j 0) hπ
   simp only [List.getD_eq_getElem?_getD,List.getElem?_take,hj,if_true] at this ⊢
   rw [this]
   exact (show ∀ j,j < 6→([0,1,2,3,4,5]:List Nat)[j]?.getD 0=j by decide) j hj
  have:∀ k,k < 3→[3,4,5].getD k 0 < 6:=by decide
  exact ⟨this k hk,e _ (this k hk)⟩
 cases x<;>simp only [sc1,decide_eq_true_eq] at h<;>first|(cases h; done)|(simp only [ren1,sc1,decide_eq_true_eq,(hg _ h).2]; exact ⟨(hg _ h).1,trivial⟩)|exact ⟨rfl,rfl⟩
theorem fixV {l lN:List AV} (hl:l.all (sc1 3)=true) (hlN:l.map (ren1 [3,4,5])=lN):lN.all (sc1 6)=true∧∀ π:List Nat,π.take 6=[0,1,2,3,4,5]→lN.map (ren1 π)=lN:=by
 rw [List.all_eq_true] at hl
 subst hlN
 refine ⟨?_,fun π hπ=>?_⟩
 ·rw [List.all_eq_true]
  intro y hy
  obtain ⟨x,hx,rfl⟩:=List.mem_map.1 hy
  exact (fixV1 (π:=[0,1,2,3,4,5]) (hl x hx) rfl).1
 ·rw [List.map_map]
  exact List.map_congr_left fun x hx=>(fixV1 (hl x hx) hπ).2
theorem backV {ks:List Nat} (h0:ks.getD 3 0=0) (h1:ks.getD 4 0=1) (h2:ks.getD 5 0=2) {l:List AV} (h:l.all (sc1 3)=true):(l.map (ren1 [3,4,5])).map (ren1 ks)=l:=by
 have hg:∀ k,k < 3→ks.getD ([3,4,5].getD k 0) 0=k:=fun k hk=>by
  match k,hk with
  | 0,_=>exact h0
  | 1,_=>exact h1
  | 2,_=>exact h2
 have h1:∀ x,sc1 3 x=true→ren1 ks (ren1 [3,4,5] x)=x:=fun x h=>by
  cases x<;>simp only [sc1,decide_eq_true_eq] at h<;>first|(cases h; done)|(simp only [ren1,hg _ h]; done)|rfl
 rw [List.all_eq_true] at h
 rw [List.map_map]
 exact (List.map_congr_left fun x hx=>h1 x (h x hx)).trans (List.map_id _)
end Go.Pv
namespace Go.Proofs.YtboadfahlflmhaaDoor
open Go.Pv
section
variable {n e N d:Nat} {m M:List Int} {σ:Type}
/-- The blocks of who searches. -/
def HNV (p : Prot σ) (n : Nat) (m : List Int) (N : Nat) (M : List Int) (L : List Nat) (lN : List AV) (vs : Array Value) (t : List Nat) (i : σ) (b : Blk) : Heap :=
  [.own [.sl 6 0 L.length], .own [.yv 5 lN vs], .own [.cl 129 [.p (.ptr [.list (il (nl L))]), .p (.ptr [.int .i64 n, .list (il m)]), .p (.ptr [.int .i64 N, .list (il M)]), .ptr 0 0, .ptr 1 0, .ptr 2 0]],
   .own [.p (p.c4 i)], .own [.p (p.c51 i), .p (p.c52 i)], b, .own (rwd t L.length)]

def NextV (p:Prot σ) (n:Nat) (m:List Int) (e N:Nat) (M:List Int) (d:Nat) (L:List Nat) (rec:Loop) (lN:List AV) (r t:List Nat) (i:σ):Prop:=
 FnQ Tryd.prog 7 129 [.p (.int .i64 t.length),.p (.ptr [.list (il (nl L))]),.p (.ptr [.int .i64 n,.list (il m)]),.p (.ptr [.int .i64 N,.list (il M)]),.ptr 0 0,.ptr 1 0,.ptr 2 0]
  (HNV p n m N M L lN rec.tmps t i (.lp rec)) (.p (.bool (foldS p i (pls (hsq n (op m n) e N (op M N) d L r t))).2)) (HNV p n m N M L lN rec.tmps t (foldS p i (pls (hsq n (op m n) e N (op M N) d L r t))).1 (.lp (recB (foldS p i (pls (hsq n (op m n) e N (op M N) d L r t))).2 rec)))

set_option maxHeartbeats 8000000 in
set_option maxRecDepth 20000 in
theorem vleaf1 (p:Prot σ) (h:GT n m n e) (h' : GT N M N d) (L:List Nat) (hL:L=gl n (op m n) e n) {rec:Loop} (hrp:rec.params.size=1) {l lN:List AV} (hY:RoundsV Tryd.prog p rec l) (hokx:∀ φ,Hmo n (op m n) N (op M N) φ→p.okx (.list (il (tbm n φ))))
  (hl:l.all (sc1 3)=true) (hlN:l.map (ren1 [3,4,5])=lN) (t:List Nat) (i:σ) (htl:t.length=L.length) (hty:∀ y∈t,y < N) (hi:p.ok i) (hex:∃ φ,Ext n (op m n) N (op M N) L t φ):NextV p n m e N M d L rec lN [] t i:=by
 have hn:=h.2.1.big
 have hpos:0 < n:=h.2.1.pos
 have hll:=gl_len n (op m n) e n
 rw [← hL] at hll
 have hLlt:=gl_lt n (op m n) e n
 have hLg:=gl_gen n (op m n) e h.2.2
 rw [← hL] at hLlt hLg
 have hF:∀ i,i < L.length→L.getD i 0 < n:=fun i hi=>hLlt _ (by simp [List.getD,List.getElem?_eq_getElem hi])
 have hT:∀ i,i < L.length→t.getD i 0 < N:=fun i hi=>hty _ (by simp [List.getD,List.getElem?_eq_getElem (show i < t.length by omega)])
 have hnt:=nl_len t
 have hnL:=nl_len L
 have hone:=p.ones i hi
 have hnn:(nl L).length=(nl t).length:=by omega
 have hlS:=fixV hl hlN
 unfold NextV
 have hs:hsq n (op m n) e N (op M N) d L [] t=[tbm n (Classical.choose hex)]:=by unfold hsq hlf; rw [dif_pos hex]
 have hφ:=Classical.choose_spec hex
 generalize Classical.choose hex=φ at hs hφ
 have hsp:=spread_yes h h' L t htl.symm (by omega) hF hT hLg hφ
 have hpl:pls (hsq n (op m n) e N (op M N) d L [] t)=[.list (il (tbm n φ))]:=by rw [hs]; rfl
 have hY1:=hY i _ hi (hokx φ hφ.1)
 have htb:=tbm_len n φ
 have hne:il (tbm n φ) ≠ []:=by intro hh; have:=congrArg List.length hh; rw [il_length,htb] at this; simp at this; omega
 rw [hpl]
 have hf1:foldS p i [PV.list (il (tbm n φ))]=(p.nx i (.list (il (tbm n φ))),p.go i (.list (il (tbm n φ)))):=by
  simp only [foldS]
  split<;>simp_all
 rw [hf1]
 unfold HV at hY1
 simp only
 refine fnq_of (q:=7) tab_ok Tryd.func129 rfl (by kernel_rfl) (by rw [Tryd.ntmps129]; exact Nat.le_add_left 7 _) ?_; rw [Tryd.ntmps129]; simp only [ancs,entA,List.length_cons,List.length_nil,List.cons_append,List.nil_append,Nat.reduceAdd,Nat.zero_add]
 simp only [HNV,rwd_full htl,List.append_nil,List.cons_append,List.nil_append]
 rw [show L.length=(nl t).length by omega]
 refine qm ?_
 refine hk_region fun K hK=>runs_eval tab_ok ?_
 simp only [ev0,evA,evB,evP,fl,gp,tab,simprocAttr,reduceCtorEq,reduceIte]
 refine fin_run trivial (hK _ ?_)<;>clear hK<;>clear K
 refine qa (qm (qm ?_))
 refine hk_region fun K hK=>runs_eval tab_ok ?_
 simp only [ev0,evA,evB,evP,fl,gp,tab,simprocAttr,reduceCtorEq,reduceIte,il_length,hnn]
 refine fin_run ?_ (hK _ ?_)<;>clear hK<;>clear K
 ·(first|exact trivial|omega|(simp only [In64] at *; omega)|(simp [In64] at *; omega)|(simp_all; done)|skip)
 refine qa ?_
 refine hk_cond rfl (fun hC1=>?_) (fun hC1=>?_)
 ·(try simp only [nhs] at hC1)
  refine qm ?_
  refine hk_region fun K hK=>runs_eval tab_ok ?_
  simp only [ev0,evA,evB,evP,fl,gp,tab,simprocAttr,reduceCtorEq,reduceIte]
  refine fin_stop ?_ (runs_callF (FnG_fnf hsp (by simp [il,PV.sc])) rfl (by simp only [callA,peekList,peekG,peekS,List.map_cons,List.map_nil,List.append_nil,enA,ev0,evA,evB,evP,fl,gp,tab,simprocAttr,reduceCtorEq,reduceIte,List.drop_zero,ol_drop,ol_take,take_len,ol_allP,il_all,il_length]; rfl) (by simp only [dstOk,Nat.reduceLT]) ?_ (runs_eval tab_ok ?_))
  ·(first|exact trivial|omega|(simp only [In64] at *; omega)|(simp [In64] at *; omega)|(simp_all; done)|skip)
  ·(first|exact trivial|omega|(simp only [In64] at *; omega)|(simp [In64] at *; omega)|(simp_all; done)|skip)
  simp only [ev0,evA,evB,evP,fl,gp,tab,simprocAttr,reduceCtorEq,reduceIte]
  refine fin_run ?_ (hK _ ?_)<;>clear hK<;>clear K
  ·(first|exact trivial|omega|(simp only [In64] at *; omega)|(simp [In64] at *; omega)|(simp_all; done)|skip)
  refine qa (qm ?_)
  refine hk_region fun K hK=>runs_eval tab_ok ?_
  simp only [ev0,evA,evB,evP,fl,gp,tab,simprocAttr,reduceCtorEq,reduceIte,binA.eq_def,Option.map_some]
  refine fin_stop ?_ (runs_yield [3,4,5] (hY1) hrp rfl rfl rfl ?_ (by simp only [leA,ev0,evA,evB,evP,fl,gp,tab,simprocAttr,reduceCtorEq,reduceIte]; first|trivial|(simp only [ll_takeL]; first|trivial|(repeat constructor; done))|(repeat constructor)) (by decide) (by first|rfl|(simp only [List.length_cons,List.length_nil,List.length_append]; decide)) (by first|rfl|(simp [scQ,scA,sc1,mpKeep,notAnc,Blk.spc,opl_sc]; done)) (by simp only [dstOk,Nat.reduceLT]) (runs_eval tab_ok ?_))
  ·(first|exact trivial|omega|(simp only [In64] at *; omega)|(simp [In64] at *; omega)|(simp_all; done)|skip)
  ·(simp only [argsM,argM1,peekG,peekS,scA,sc1,ren,ren1,List.map_cons,List.map_nil,List.append_nil,List.cons_append,List.nil_append,enA,ev0,evA,evB,evP,fl,gp,tab,simprocAttr,reduceCtorEq,reduceIte]; try trivial)
   exact ⟨by rw [hlN],all_up (by decide) hl⟩
  simp only [putM,kills,hset,List.take_succ_cons,List.take_zero,List.drop_succ_cons,List.drop_zero,List.range',Blk.ren,ren,ren1,List.map_cons,List.map_nil,List.cons_append,List.nil_append,List.append_nil,List.length_cons,List.length_nil,ev0,evA,evB,evP,fl,gp,tab,simprocAttr,reduceCtorEq,reduceIte,binA.eq_def,Option.map_some]
  refine fin_run ?_ (hK _ ?_)<;>clear hK<;>clear K
  ·(first|exact trivial|omega|(simp only [In64] at *; omega)|(simp [In64] at *; omega)|(simp_all; done)|skip)
  refine qa (qk (qb ?_))
  simp only [Tryd.results129,PostG,endG,rvsA,rvA,mkTup,ev0,evA,evB,evP,fl,gp,tab,simprocAttr,reduceCtorEq,reduceIte]
  all_goals (exact ⟨[0,1,2,3,4,5,6,7,8,9,10,11,12,13],rfl,rfl,by simp only [leq,leA,ev0,evA,evB,evP,fl,gp,tab,simprocAttr,reduceCtorEq,reduceIte]<;>first|trivial|exact ⟨by rw [hlS.2 _ rfl],all_up (by decide) hlS.1⟩|trace_state⟩)
 ·(try simp only [nhs] at hC1)
  omega
set_option maxHeartbeats 8000000 in
set_option maxRecDepth 20000 in
theorem vleaf2 (p:Prot σ) (h:GT n m n e) (h' : GT N M N d) (L:List Nat) (hL:L=gl n (op m n) e n) {rec:Loop} (hrp:rec.params.size=1) {l lN:List AV} (hY:RoundsV Tryd.prog p rec l) (hokx:∀ φ,Hmo n (op m n) N (op M N) φ→p.okx (.list (il (tbm n φ))))
  (hl:l.all (sc1 3)=true) (hlN:l.map (ren1 [3,4,5])=lN) (t:List Nat) (i:σ) (htl:t.length=L.length) (hty:∀ y∈t,y < N) (hi:p.ok i) (hex:¬ ∃ φ,Ext n (op m n) N (op M N) L t φ):NextV p n m e N M d L rec lN [] t i:=by
 have hn:=h.2.1.big
 have hpos:0 < n:=h.2.1.pos
 have hll:=gl_len n (op m n) e n
 rw [← hL] at hll
 have hLlt:=gl_lt n (op m n) e n
 have hLg:=gl_gen n (op m n) e h.2.2
 rw [← hL] at hLlt hLg
 have hF:∀ i,i < L.length→L.getD i 0 < n:=fun i hi=>hLlt _ (by simp [List.getD,List.getElem?_eq_getElem hi])
 have hT:∀ i,i < L.length→t.getD i 0 < N:=fun i hi=>hty _ (by simp [List.getD,List.getElem?_eq_getElem (show i < t.length by omega)])
 have hnt:=nl_len t
 have hnL:=nl_len L
 have hone:=p.ones i hi
 have hnn:(nl L).length=(nl t).length:=by omega
 have hlS:=fixV hl hlN
 unfold NextV
 have hs:hsq n (op m n) e N (op M N) d L [] t=[]:=by unfold hsq hlf; rw [dif_neg hex]
 have hsp:=fnc_of_p (spread_no h h' L t htl.symm (by omega) hF hT hLg fun φ hφ=>hex ⟨φ,hφ⟩) rfl
 have hpl:pls (hsq n (op m n) e N (op M N) d L [] t)=[]:=by rw [hs]; rfl
 rw [hpl]
 simp only [foldS]
 refine fnq_of (q:=7) tab_ok Tryd.func129 rfl (by kernel_rfl) (by rw [Tryd.ntmps129]; exact Nat.le_add_left 7 _) ?_; rw [Tryd.ntmps129]; simp only [ancs,entA,List.length_cons,List.length_nil,List.cons_append,List.nil_append,Nat.reduceAdd,Nat.zero_add]
 simp only [HNV,rwd_full htl,List.append_nil,List.cons_append,List.nil_append]
 rw [show L.length=(nl t).length by omega]
 refine qm ?_
 refine hk_region fun K hK=>runs_eval tab_ok ?_
 simp only [ev0,evA,evB,evP,fl,gp,tab,simprocAttr,reduceCtorEq,reduceIte]
 refine fin_run trivial (hK _ ?_)<;>clear hK<;>clear K
 refine qa (qm (qm ?_))
 refine hk_region fun K hK=>runs_eval tab_ok ?_
 simp only [ev0,evA,evB,evP,fl,gp,tab,simprocAttr,reduceCtorEq,reduceIte,il_length,hnn]
 refine fin_run ?_ (hK _ ?_)<;>clear hK<;>clear K
 ·(first|exact trivial|omega|(simp only [In64] at *; omega)|(simp [In64] at *; omega)|(simp_all; done)|skip)
 refine qa ?_
 refine hk_cond rfl (fun hC1=>?_) (fun hC1=>?_)
 ·(try simp only [nhs] at hC1)
  refine qm ?_
  refine hk_region fun K hK=>runs_eval tab_ok ?_
  simp only [ev0,evA,evB,evP,fl,gp,tab,simprocAttr,reduceCtorEq,reduceIte]
  refine fin_stop ?_ (runs_call (b:=false) (hsp) rfl (by simp only [callA,peekList,peekG,peekS,List.map_cons,List.map_nil,List.append_nil,enA,ev0,evA,evB,evP,fl,gp,tab,simprocAttr,reduceCtorEq,reduceIte,List.drop_zero,ol_drop,ol_take,take_len,ol_allP,il_all,il_length,List.length_replicate,List.take_replicate,Nat.min_self]; rfl) rfl (by simp only [dstOk,Nat.reduceLT]) ?_ (runs_eval tab_ok ?_))
  ·(first|exact trivial|omega|(simp only [In64] at *; omega)|(simp [In64] at *; omega)|(simp_all; done)|skip)
  ·(first|exact trivial|omega|(simp only [In64] at *; omega)|(simp [In64] at *; omega)|(simp_all; done)|skip)
  simp only [ev0,evA,evB,evP,fl,gp,tab,simprocAttr,reduceCtorEq,reduceIte]
  refine fin_run ?_ (hK _ ?_)<;>clear hK<;>clear K
  ·(first|exact trivial|omega|(simp only [In64] at *; omega)|(simp [In64] at *; omega)|(simp_all; done)|skip)
  refine qa (qm ?_)
  refine hk_region fun K hK=>runs_eval tab_ok ?_
  simp only [ev0,evA,evB,evP,fl,gp,tab,simprocAttr,reduceCtorEq,reduceIte,binA.eq_def,Option.map_some]
  refine fin_run trivial (hK _ ?_)<;>clear hK<;>clear K
  refine qa (qk (qb ?_))
  simp only [Tryd.results129,PostG,endG,rvsA,rvA,mkTup,ev0,evA,evB,evP,fl,gp,tab,simprocAttr,reduceCtorEq,reduceIte]
  all_goals (exact ⟨[0,1,2,3,4,5,6,7,8,9,10,11,12,13],rfl,rfl,by simp only [leq,leA,ev0,evA,evB,evP,fl,gp,tab,simprocAttr,reduceCtorEq,reduceIte]<;>first|trivial|exact ⟨⟨by rw [hlS.2 _ rfl],all_up (by decide) hlS.1⟩,rfl⟩|trace_state⟩)
 ·(try simp only [nhs] at hC1)
  omega
set_option maxHeartbeats 8000000 in
set_option maxRecDepth 20000 in
theorem vstep (p:Prot σ) (h:GT n m n e) (h' : GT N M N d) (L:List Nat) (hL:L=gl n (op m n) e n) {rec:Loop} {lN:List AV} (hlS:lN.all (sc1 6)=true∧∀ π:List Nat,π.take 6=[0,1,2,3,4,5]→lN.map (ren1 π)=lN) (hokx:∀ φ,Hmo n (op m n) N (op M N) φ→p.okx (.list (il (tbm n φ))))
  (x:Nat) (r t:List Nat) (i:σ) (hx:L.getD t.length 0=x) (htl:t.length < L.length) (hi:p.ok i)
  (IH:∀ y,y < N→∀ i,p.ok i→NextV p n m e N M d L rec lN r (t++[y]) i):NextV p n m e N M d L rec lN (x :: r) t i:=by
 have hn:=h.2.1.big
 have hN:=h'.2.1.big
 have hpos:0 < n:=h.2.1.pos
 have hll:=gl_len n (op m n) e n
 rw [← hL] at hll
 have hLlt:=gl_lt n (op m n) e n
 rw [← hL] at hLlt
 have hxn:x < n:=by rw [← hx]; exact hLlt _ (by simp [List.getD,List.getElem?_eq_getElem htl])
 have hnt:=nl_len t
 have hnL:=nl_len L
 have hone:=p.ones i hi
 have hox:∀ y,∀ v∈pls (hsu n (op m n) e N (op M N) d L r t x y),p.okx v:=fun y v hv=>by
  obtain ⟨w,hw,rfl⟩:=List.mem_map.1 hv
  obtain ⟨φ,hφ,rfl⟩:=hsu_mem w hw
  exact hokx φ hφ
 have hrl:=rwd_len (Nat.le_of_lt htl)
 have h00:foldS p i (pls (hsu n (op m n) e N (op M N) d L r t x 0))=(i,true):=rfl
 have hL17:=hlS.2 [0,1,2,3,4,5,6,7,8,9,10,11,12,13] rfl
 have hlS17:lN.all (sc1 14)=true:=all_up (by decide) hlS.1
 have hL9:=hlS.2 [0,1,2,3,4,5,6] rfl
 have hL9':=hlS.2 [0,1,2,3,4,5,6] rfl
 have hL17':=hlS.2 [0,1,2,3,4,5,6,7,8,9,10,11,12,13] rfl
 have hlS9:lN.all (sc1 7)=true:=all_up (by decide) hlS.1
 unfold NextV
 refine fnq_of (q:=7) tab_ok Tryd.func129 rfl (by kernel_rfl) (by rw [Tryd.ntmps129]; exact Nat.le_add_left 7 _) ?_; rw [Tryd.ntmps129]; simp only [ancs,entA,List.length_cons,List.length_nil,List.cons_append,List.nil_append,Nat.reduceAdd,Nat.zero_add]
 simp only [HNV,List.append_nil,List.cons_append,List.nil_append]
 refine qm ?_
 refine hk_region fun K hK=>runs_eval tab_ok ?_
 simp only [ev0,evA,evB,evP,fl,gp,tab,simprocAttr,reduceCtorEq,reduceIte]
 refine fin_run trivial (hK _ ?_)<;>clear hK<;>clear K
 refine qa (qm (qm ?_))
 refine hk_region fun K hK=>runs_eval tab_ok ?_
 simp only [ev0,evA,evB,evP,fl,gp,tab,simprocAttr,reduceCtorEq,reduceIte,il_length,hnL]
 refine fin_run ?_ (hK _ ?_)<;>clear hK<;>clear K
 ·(first|exact trivial|omega|(simp only [In64] at *; omega)|(simp [In64] at *; omega)|(simp_all; done)|skip)
 refine qa ?_
 refine hk_cond rfl (fun hC1=>?_) (fun hC1=>?_)
 ·(try simp only [nhs] at hC1)
  omega
 ·(try simp only [nhs] at hC1)
  refine qh (qa (qm ?_))
  refine hk_draw mixed (by kernel_rfl) fun K hK=>runs_eval tab_ok ?_
  simp only [ev0,evA,evB,evP,fl,gp,tab,simprocAttr,reduceCtorEq,reduceIte,il_get (show t.length < (nl L).length by omega),nl_get htl,hx]
  refine fin_stop ?_ (runs_call (orderOf_c h hxn) rfl rfl rfl (by simp only [dstOk,Nat.reduceLT]) (by repeat (first|exact trivial|constructor)) (runs_eval tab_ok ?_))
  ·exact ⟨by omega,by omega⟩
  simp only [ev0,evA,evB,evP,fl,gp,tab,simprocAttr,reduceCtorEq,reduceIte,il_get (show t.length < (nl L).length by omega),nl_get htl,hx]
  refine fin_run ?_ (hK _ ?_)<;>clear hK<;>clear K
  ·(first|exact trivial|omega|(simp only [In64] at *; omega)|(simp [In64] at *; omega)|(simp_all; done)|skip)
  refine qa (qm (qm ?_))
  refine hk_region fun K hK=>runs_eval tab_ok ?_
  simp only [ev0,evA,evB,evP,fl,gp,tab,simprocAttr,reduceCtorEq,reduceIte]
  refine fin_run ?_ (hK _ ?_)<;>clear hK<;>clear K
  ·(first|exact trivial|omega|(simp only [In64] at *; omega)|(simp [In64] at *; omega)|(simp_all; done)|skip)
  refine qa (ql ?_)
  refine hk_loop (ι:=Nat) (fun y=>⟨55,[(0,.p (.int .i64 t.length)),(3,.p (.ptr [.int .i64 N,.list (il M)])),(4,.ptr 0 0),(6,.ptr 2 0),(10,.p (.int .i64 (ord n (op m n) e x:Nat))),(35,.p (.int .i64 N)),(36,.p (.int .i64 y))],[.own [.sl 6 0 L.length],.own [.yv 5 lN rec.tmps],.own [.cl 129 [.p (.ptr [.list (il (nl L))]),.p (.ptr [.int .i64 n,.list (il m)]),.p (.ptr [.int .i64 N,.list (il M)]),.ptr 0 0,.ptr 1 0,.ptr 2 0]],.own [.p (p.c4 (foldS p i (pls (hsu n (op m n) e N (op M N) d L r t x y))).1)],.own [.p (p.c51 (foldS p i (pls (hsu n (op m n) e N (op M N) d L r t x y))).1),.p (p.c52 (foldS p i (pls (hsu n (op m n) e N (op M N) d L r t x y))).1)],.lp rec,.own (rwd t L.length),.anc 0 0,.anc 1 1,.anc 2 2,.anc 3 3,.anc 4 4,.anc 5 5,.anc 6 6]⟩) (fun y=>y≤N∧(foldS p i (pls (hsu n (op m n) e N (op M N) d L r t x y))).2=true) (fun y=>N - y) 0 ⟨Nat.zero_le _,rfl⟩ [0,1,2,3,4,5,6,7,8,9,10,11,12,13] (by simp only [leq,leA,ev0,evA,evB,evP,fl,gp,tab,simprocAttr,reduceCtorEq,reduceIte,h00,hL17,rwd_ren,rwd_sc,hlS17]<;>first|trivial|trace_state) fun y hy=>?_
  obtain ⟨hy1,hy2⟩:=hy
  have hok:=foldS_ok p i _ hi (hox y) hy2
  have hsc:=@hsu_succ n e N d (op m n) (op M N) L r t x y
  obtain ⟨j,hj⟩:∃ j,(foldS p i (pls (hsu n (op m n) e N (op M N) d L r t x y))).1=j:=⟨_,rfl⟩
  rw [hj] at hok ⊢
  refine qm ?_
  refine hk_region fun K hK=>runs_eval tab_ok ?_
  simp only [ev0,evA,evB,evP,fl,gp,tab,simprocAttr,reduceCtorEq,reduceIte]
  refine fin_run trivial (hK _ ?_)<;>clear hK<;>clear K
  refine qa (qm ?_)
  refine hk_cond rfl (fun hC2=>?_) (fun hC2=>?_)
  ·(try simp only [nhs] at hC2)
   have hyN:y < N:=by omega
   have hoy:=h'.2.2.ord_pos hyN
   refine qh (qa (qm (ql (qm ?_))))
   refine hk_region fun K hK=>runs_eval tab_ok ?_
   simp only [ev0,evA,evB,evP,fl,gp,tab,simprocAttr,reduceCtorEq,reduceIte]
   refine fin_run trivial (hK _ ?_)<;>clear hK<;>clear K
   refine qa (qm ?_)
   refine hk_region fun K hK=>runs_eval tab_ok ?_
   simp only [ev0,evA,evB,evP,fl,gp,tab,simprocAttr,reduceCtorEq,reduceIte]
   refine fin_stop trivial (runs_call (orderOf_c h' hyN) rfl rfl rfl (by simp only [dstOk,Nat.reduceLT]) (by repeat (first|exact trivial|constructor)) (runs_eval tab_ok ?_))
   simp only [ev0,evA,evB,evP,fl,gp,tab,simprocAttr,reduceCtorEq,reduceIte]
   refine fin_run ?_ (hK _ ?_)<;>clear hK<;>clear K
   ·(first|exact trivial|omega|(simp only [In64] at *; omega)|(simp [In64] at *; omega)|(simp_all; done)|skip)
   refine qa ?_
   refine hk_cond rfl (fun hC3=>?_) (fun hC3=>?_)
   ·(try simp only [nhs] at hC3)
    have hIH:=IH y hyN j hok
    have hto:=foldS_on p (b:=pls (hsq n (op m n) e N (op M N) d L r (t++[y]))) hy2
    rw [hj] at hto
    unfold NextV at hIH
    obtain ⟨B,hB⟩:∃ B,(foldS p j (pls (hsq n (op m n) e N (op M N) d L r (t++[y])))).2=B:=⟨_,rfl⟩
    obtain ⟨j2,hj2⟩:∃ j2,(foldS p j (pls (hsq n (op m n) e N (op M N) d L r (t++[y])))).1=j2:=⟨_,rfl⟩
    rw [hB,hj2] at hIH
    have hcn:((t++[y]).length:Int)=(t.length:Int) + 1:=by simp
    rw [hcn] at hIH
    simp only [HNV] at hIH
    refine qm ?_
    refine hk_region fun K hK=>runs_eval tab_ok ?_
    simp only [ev0,evA,evB,evP,fl,gp,tab,simprocAttr,reduceCtorEq,reduceIte,rwd_set htl,hrl]
    refine fin_run ?_ (hK _ ?_)<;>clear hK<;>clear K
    ·(first|exact trivial|omega|(simp only [In64] at *; omega)|(simp [In64] at *; omega)|(simp_all; done)|skip)
    refine qa (qm ?_)
    refine hk_region fun K hK=>runs_eval tab_ok ?_
    simp only [ev0,evA,evB,evP,fl,gp,tab,simprocAttr,reduceCtorEq,reduceIte]
    refine fin_stop ?_ (runs_callQ [0,1,2,3,4,5,6] (hIH) rfl rfl ?_ (by simp only [leA,ev0,evA,evB,evP,fl,gp,tab,simprocAttr,reduceCtorEq,reduceIte,hL9,hL9',rwd_ren,rwd_sc,hlS9]; first|trivial|(simp only [ll_takeL]; first|trivial|(repeat constructor; done))|(repeat constructor)) (by decide) (by first|rfl|(simp only [List.length_cons,List.length_nil,List.length_append]; decide)) (by first|rfl|(simp [scQ,scA,sc1,mpKeep,notAnc,Blk.spc,opl_sc,hL9,hL9',rwd_ren,rwd_sc,hlS9]; done)) (by simp only [dstOk,Nat.reduceLT]) (runs_eval tab_ok ?_))
    ·(first|exact trivial|omega|(simp only [In64] at *; omega)|(simp [In64] at *; omega)|(simp_all; done)|skip)
    ·(simp only [argsM,argM1,peekG,peekS,scA,sc1,ren,ren1,List.map_cons,List.map_nil,List.append_nil,List.cons_append,List.nil_append,enA,ev0,evA,evB,evP,fl,gp,tab,simprocAttr,reduceCtorEq,reduceIte]; try trivial)
    simp only [putM,kills,hset,List.take_succ_cons,List.take_zero,List.drop_succ_cons,List.drop_zero,List.range',Blk.ren,ren,ren1,List.map_cons,List.map_nil,List.cons_append,List.nil_append,List.append_nil,List.length_cons,List.length_nil,ev0,evA,evB,evP,fl,gp,tab,simprocAttr,reduceCtorEq,reduceIte,recB_true,hL9,hL9',rwd_ren,rwd_sc,hlS9]
    refine fin_run ?_ (hK _ ?_)<;>clear hK<;>clear K
    ·(first|exact trivial|omega|(simp only [In64] at *; omega)|(simp [In64] at *; omega)|(simp_all; done)|skip)
    refine qa ?_
    refine hk_back 6 rfl htl ?_
    refine hk_cond rfl (fun hC4=>?_) (fun hC4=>?_)
    ·(try simp only [nhs] at hC4)
     subst hC4
     have hm:ord n (op m n) e x % ord N (op M N) d y=0:=by omega
     rw [if_pos hm] at hsc
     obtain ⟨z,hz⟩:=@hsu_pre n e N d (op m n) (op M N) L r t x (y + 1) (by omega)
     have hfin:foldS p i (pls (hsq n (op m n) e N (op M N) d L (x :: r) t))=(j2,false):=by
      have e1:foldS p i (pls (hsu n (op m n) e N (op M N) d L r t x (y + 1)))=(j2,false):=by
       rw [hsc,pls_app,hto,← hj2,← hB]
      rw [hz,pls_app,foldS_pre p (by rw [e1]),e1]
     rw [hfin]
     refine qm ?_
     refine hk_region fun K hK=>runs_eval tab_ok ?_
     simp only [ev0,evA,evB,evP,fl,gp,tab,simprocAttr,reduceCtorEq,reduceIte]
     refine fin_run trivial (hK _ ?_)<;>clear hK<;>clear K
     refine qa (qk (qe (qb (qb (qe (qb ?_))))))
     simp only [Tryd.results129,PostG,endG,rvsA,rvA,mkTup,ev0,evA,evB,evP,fl,gp,tab,simprocAttr,reduceCtorEq,reduceIte]
     all_goals (exact ⟨[0,1,2,3,4,5,6,7,8,9,10,11,12,13],rfl,rfl,by simp only [leq,leA,ev0,evA,evB,evP,fl,gp,tab,simprocAttr,reduceCtorEq,reduceIte,hL17,hL17',rwd_ren,rwd_sc,hlS17]<;>first|trivial|trace_state⟩)
    ·(try simp only [nhs] at hC4)
     obtain rfl:B=true:=by simpa using hC4
     rw [recB_true]
     have hm:ord n (op m n) e x % ord N (op M N) d y=0:=by omega
     rw [if_pos hm] at hsc
     have e1:foldS p i (pls (hsu n (op m n) e N (op M N) d L r t x (y + 1)))=(j2,true):=by
      rw [hsc,pls_app,hto,← hj2,← hB]
     refine qh (qd (qa ?_))
     refine hk_region fun K hK=>runs_eval tab_ok ?_
     simp only [ev0,evA,evB,evP,fl,gp,tab,simprocAttr,reduceCtorEq,reduceIte]
     refine fin_run ?_ (hK _ ?_)<;>clear hK<;>clear K
     ·(first|exact trivial|omega|(simp only [In64] at *; omega)|(simp [In64] at *; omega)|(simp_all; done)|skip)
     refine qa ?_
     refine ⟨y + 1,[0,1,2,3,4,5,6,7,8,9,10,11,12,13],⟨by omega,by rw [e1]⟩,by omega,?_⟩
     simp only [leq,leA,ev0,evA,evB,evP,fl,gp,tab,simprocAttr,reduceCtorEq,reduceIte,e1,hL17,hL17',rwd_ren,rwd_sc,hlS17]<;>first|trivial|omega|trace_state
   ·(try simp only [nhs] at hC3)
    have hm:¬ ord n (op m n) e x % ord N (op M N) d y=0:=by omega
    rw [if_neg hm] at hsc
    have e1:foldS p i (pls (hsu n (op m n) e N (op M N) d L r t x (y + 1)))=(j,true):=by
     rw [hsc,← hj,← hy2]
    refine qh (qd (qa ?_))
    refine hk_region fun K hK=>runs_eval tab_ok ?_
    simp only [ev0,evA,evB,evP,fl,gp,tab,simprocAttr,reduceCtorEq,reduceIte]
    refine fin_run ?_ (hK _ ?_)<;>clear hK<;>clear K
    ·(first|exact trivial|omega|(simp only [In64] at *; omega)|(simp [In64] at *; omega)|(simp_all; done)|skip)
    refine qa ?_
    refine ⟨y + 1,[0,1,2,3,4,5,6,7,8,9,10,11,12,13],⟨by omega,by rw [e1]⟩,by omega,?_⟩
    simp only [leq,leA,ev0,evA,evB,evP,fl,gp,tab,simprocAttr,reduceCtorEq,reduceIte,e1,hL17,hL17',rwd_ren,rwd_sc,hlS17]<;>first|trivial|omega|trace_state
  ·(try simp only [nhs] at hC2)
   obtain rfl:y=N:=by omega
   have hfin:foldS p i (pls (hsq n (op m n) e y (op M y) d L (x :: r) t))=(j,true):=by
    rw [hsu_end,← hj,← hy2]
   rw [hfin]
   refine qj (qc (qc (qf (qa (qm ?_)))))
   refine hk_region fun K hK=>runs_eval tab_ok ?_
   simp only [ev0,evA,evB,evP,fl,gp,tab,simprocAttr,reduceCtorEq,reduceIte]
   refine fin_run trivial (hK _ ?_)<;>clear hK<;>clear K
   refine qa (qk ?_)
   simp only [Tryd.results129,PostG,endG,rvsA,rvA,mkTup,ev0,evA,evB,evP,fl,gp,tab,simprocAttr,reduceCtorEq,reduceIte]
   all_goals (exact ⟨[0,1,2,3,4,5,6,7,8,9,10,11,12,13],rfl,rfl,by simp only [leq,leA,ev0,evA,evB,evP,fl,gp,tab,simprocAttr,reduceCtorEq,reduceIte,hL17,hL17',rwd_ren,rwd_sc,hlS17]<;>first|trivial|trace_state⟩)
theorem vnext_c (p:Prot σ) (h:GT n m n e) (h' : GT N M N d) (L:List Nat) (hL:L=gl n (op m n) e n) {rec:Loop} (hrp:rec.params.size=1) {l lN:List AV} (hY:RoundsV Tryd.prog p rec l) (hokx:∀ φ,Hmo n (op m n) N (op M N) φ→p.okx (.list (il (tbm n φ))))
  (hl:l.all (sc1 3)=true) (hlN:l.map (ren1 [3,4,5])=lN):∀ (r t:List Nat) (i:σ),t.length≤L.length→L.drop t.length=r→(∀ y∈t,y < N)→p.ok i→NextV p n m e N M d L rec lN r t i
 | [],t,i,h1,h2,h3,hi=>by
  have htl:t.length=L.length:=by
   have:=congrArg List.length h2
   simp at this; omega
  by_cases hex:∃ φ,Ext n (op m n) N (op M N) L t φ
  ·exact vleaf1 p h h' L hL hrp hY hokx hl hlN t i htl h3 hi hex
  ·exact vleaf2 p h h' L hL hrp hY hokx hl hlN t i htl h3 hi hex
 | x :: r,t,i,h1,h2,h3,hi=>by
  have htl:t.length < L.length:=by
   have:=congrArg List.length h2
   simp at this; omega
  have hd:L.drop t.length=L[t.length] :: L.drop (t.length + 1):=List.drop_eq_getElem_cons htl
  rw [h2] at hd
  obtain ⟨e1,e2⟩:=List.cons.inj hd
  refine vstep p h h' L hL (fixV hl hlN) hokx x r t i (by simp [List.getD,List.getElem?_eq_getElem htl,e1]) htl hi fun y hy j hj=>?_
  exact vnext_c p h h' L hL hrp hY hokx hl hlN r (t++[y]) j (by simp; omega) (by rw [List.length_append]; exact e2.symm) (fun z hz=>by
   rcases List.mem_append.1 hz with hz | hz
   ·exact h3 z hz
   ·have:z=y:=by simpa using hz
    omega) hj

set_option maxHeartbeats 8000000 in
set_option maxRecDepth 20000 in
theorem veach_c (p:Prot σ) (h:GT n m n e) (h' : GT N M N d) (L:List Nat) (hL:L=gl n (op m n) e n) {rec:Loop} (hrp:rec.params.size=1) {l:List AV} (hY:RoundsV Tryd.prog p rec l) (hokx:∀ φ,Hmo n (op m n) N (op M N) φ→p.okx (.list (il (tbm n φ))))
  (hl:l.all (sc1 3)=true) (i:σ) (hi:p.ok i) {j:σ} {b:Bool} (hf:foldS p i (pls (hsq n (op m n) e N (op M N) d L L []))=(j,b)) :
  FnQ Tryd.prog 3 79 [.p (gp n m),.p (gp N M),.yv 2 l rec.tmps] (HV p i (.lp rec)) (.p (.tup [])) (HV p j (.lp (recB b rec))):=by
 have hlN:l.map (ren1 [3,4,5])=l.map (ren1 [3,4,5]):=rfl
 have hNx:=vnext_c p h h' L hL hrp hY hokx hl hlN L [] i (Nat.zero_le _) rfl (fun y hy=>by simp at hy) hi
 unfold NextV at hNx
 rw [hf] at hNx
 have hc0:((([]:List Nat).length:Nat):Int)=0:=rfl
 rw [hc0] at hNx
 have hbk:∀ ks:List Nat,ks.getD 3 0=0→ks.getD 4 0=1→ks.getD 5 0=2→(l.map (ren1 [3,4,5])).map (ren1 ks)=l:=fun ks h0 h1 h2=>backV h0 h1 h2 hl
 have hlS:=fixV hl hlN
 generalize l.map (ren1 [3,4,5])=lN at hNx hbk hlS
 simp only [HNV] at hNx
 have hL9:=hbk [11,8,12,0,1,2,10] rfl rfl rfl
 have hlS9:lN.all (sc1 7)=true:=all_up (by decide) hlS.1
 have hll:=gl_len n (op m n) e n
 have hn:=h.2.1.big
 rw [← hL] at hll
 have hrw:List.replicate (List.replicate L.length (AV.p (.int .i64 0))).length AV.dead=rwd [] L.length:=by simp [rwd,nl,il,opl]
 have hnL:=nl_len L
 have hgn:=gens_c h
 rw [← hL] at hgn
 have hone:=p.ones i hi
 refine fnq_of (q:=3) tab_ok Tryd.func79 rfl (by kernel_rfl) (by rw [Tryd.ntmps79]; exact Nat.le_add_left 3 _) ?_; rw [Tryd.ntmps79]; simp only [ancs,entA,List.length_cons,List.length_nil,List.cons_append,List.nil_append,Nat.reduceAdd,Nat.zero_add]
 simp only [HV,List.append_nil,List.cons_append,List.nil_append]
 refine qm ?_
 refine hk_region fun K hK=>runs_eval tab_ok ?_
 simp only [ev0,evA,evB,evP,fl,gp,tab,simprocAttr,reduceCtorEq,reduceIte]
 refine fin_run ?_ (hK _ ?_)<;>clear hK<;>clear K
 ·(first|exact trivial|omega|(simp only [In64] at *; omega)|(simp [In64] at *; omega)|(simp_all; done)|skip)
 refine qa (qm ?_)
 refine hk_region fun K hK=>runs_eval tab_ok ?_
 simp only [ev0,evA,evB,evP,fl,gp,tab,simprocAttr,reduceCtorEq,reduceIte]
 refine fin_stop trivial (runs_call (hgn) rfl rfl rfl (by simp only [dstOk,Nat.reduceLT]) (by repeat (first|exact trivial|constructor)) (runs_eval tab_ok ?_))
 simp only [ev0,evA,evB,evP,fl,gp,tab,simprocAttr,reduceCtorEq,reduceIte]
 refine fin_run ?_ (hK _ ?_)<;>clear hK<;>clear K
 ·(first|exact trivial|omega|(simp only [In64] at *; omega)|(simp [In64] at *; omega)|(simp_all; done)|skip)
 refine qa (qm ?_)
 refine hk_region fun K hK=>runs_eval tab_ok ?_
 simp only [ev0,evA,evB,evP,fl,gp,tab,simprocAttr,reduceCtorEq,reduceIte]
 refine fin_run ?_ (hK _ ?_)<;>clear hK<;>clear K
 ·rw [hnL]; exact ⟨by omega,by omega,by omega,by omega⟩
 refine qa (qm ?_)
 refine hk_region fun K hK=>runs_eval tab_ok ?_
 simp only [ev0,evA,evB,evP,fl,gp,tab,simprocAttr,reduceCtorEq,reduceIte]
 refine fin_run ?_ (hK _ ?_)<;>clear hK<;>clear K
 ·(first|exact trivial|omega|(simp only [In64] at *; omega)|(simp [In64] at *; omega)|(simp_all; done)|skip)
 refine qa (qm ?_)
 refine hk_freeze 9 rfl rfl ?_
 refine hk_freeze 6 rfl rfl ?_
 refine hk_freeze 7 rfl rfl ?_
 refine hk_forget 10 rfl ?_
 simp only [hset,hrw,hnL]
 refine hk_pure 6 rfl (Nat.zero_le _) ?_
 refine hk_pure 3 rfl (Nat.zero_le _) ?_
 refine hk_pure 4 rfl (Nat.zero_le _) ?_
 refine hk_region fun K hK=>runs_eval tab_ok ?_
 simp only [ev0,evA,evB,evP,fl,gp,tab,simprocAttr,reduceCtorEq,reduceIte]
 refine fin_stop ?_ (runs_op (makeCl_does rfl rfl) rfl (by simp only [dstOk,Nat.reduceLT]) (runs_eval tab_ok ?_))
 ·(first|exact trivial|omega|(simp only [In64] at *; omega)|(simp [In64] at *; omega)|(simp_all; done)|skip)
 simp only [ev0,evA,evB,evP,fl,gp,tab,simprocAttr,reduceCtorEq,reduceIte]
 refine fin_run ?_ (hK _ ?_)<;>clear hK<;>clear K
 ·(first|exact trivial|omega|(simp only [In64] at *; omega)|(simp [In64] at *; omega)|(simp_all; done)|skip)
 refine qa ?_
 refine hk_region fun K hK=>runs_eval tab_ok ?_
 simp only [ev0,evA,evB,evP,fl,gp,tab,simprocAttr,reduceCtorEq,reduceIte]
 refine fin_stop ?_ (runs_callQ [11,8,12,0,1,2,10] (hNx) rfl rfl ?_ (by simp only [leA,ev0,evA,evB,evP,fl,gp,tab,simprocAttr,reduceCtorEq,reduceIte,hL9,rwd_ren,rwd_sc,hlS9]; first|trivial|(simp only [ll_takeL]; first|trivial|(repeat constructor; done))|(repeat constructor)) (by decide) (by first|rfl|(simp only [List.length_cons,List.length_nil,List.length_append]; decide)) (by first|rfl|(simp [scQ,scA,sc1,mpKeep,notAnc,Blk.spc,opl_sc,hL9,rwd_ren,rwd_sc,hlS9]; done)) (by simp only [dstOk,Nat.reduceLT]) (runs_eval tab_ok ?_))
 ·(first|exact trivial|omega|(simp only [In64] at *; omega)|(simp [In64] at *; omega)|(simp_all; done)|skip)
 ·(simp only [argsM,argM1,peekG,peekS,scA,sc1,ren,ren1,List.map_cons,List.map_nil,List.append_nil,List.cons_append,List.nil_append,enA,ev0,evA,evB,evP,fl,gp,tab,simprocAttr,reduceCtorEq,reduceIte]; try trivial)
 simp only [putM,kills,hset,List.take_succ_cons,List.take_zero,List.drop_succ_cons,List.drop_zero,List.range',Blk.ren,ren,ren1,List.map_cons,List.map_nil,List.cons_append,List.nil_append,List.append_nil,List.length_cons,List.length_nil,ev0,evA,evB,evP,fl,gp,tab,simprocAttr,reduceCtorEq,reduceIte,hL9,rwd_ren,rwd_sc,hlS9]
 refine fin_run ?_ (hK _ ?_)<;>clear hK<;>clear K
 ·(first|exact trivial|omega|(simp only [In64] at *; omega)|(simp [In64] at *; omega)|(simp_all; done)|skip)
 simp only [Tryd.results79,PostG,endG,rvsA,rvA,mkTup,ev0,evA,evB,evP,fl,gp,tab,simprocAttr,reduceCtorEq,reduceIte]
 all_goals (exact ⟨[0,1,2,3,4,5],rfl,rfl,by simp only [leq,leA,ev0,evA,evB,evP,fl,gp,tab,simprocAttr,reduceCtorEq,reduceIte]<;>first|trivial|trace_state⟩)
end
end Go.Proofs.YtboadfahlflmhaaDoor

/-
  Walks: the search for an isomorphism. Conditions: none.
-/
set_option linter.all false
namespace Go.Pv
open Go.RowKit
/-- The first that is asked. -/
def prI (f:PV→Bool) (ox:List Int→Prop):Prot (Option (List Int)) where
 c4 i:=match i with
  | none=>.nil
  | some v=>.list (il v)
 c51 _:=.int .i64 0
 c52 _:=.int .i64 0
 R _:=[]
 go _ x:=!f x
 nx i x:=if f x then (match x with | .list l=>some (l.map Go.Proofs.YtboadfahlflmhaaDoor.pvi) | _=>none) else i
 ok i:=i=none
 okx x:=∃ v,x = .list (il v)∧ox v
 ok_nx i x h _ hg:=by
  have hf:f x=false:=by simpa using hg
  simp only [hf]; exact h
 ones _ _:=rfl
end Go.Pv
namespace Go.Proofs.YtboadfahlflmhaaDoor
open Go.Pv

section
variable {n e N d:Nat} {m M:List Int} {σ:Type}
theorem prI_nx {f:PV→Bool} {ox:List Int→Prop} {v:List Int} (h:f (.list (il v))=true) (i:Option (List Int)):(prI f ox).nx i (.list (il v))=some v:=by
 show (if f (.list (il v))=true then _ else _)=_
 rw [if_pos h]
 show some ((il v).map pvi)=_
 rw [pvi_il]
theorem prI_nn {f:PV→Bool} {ox:List Int→Prop} {x:PV} (h:f x=false) (i:Option (List Int)):(prI f ox).nx i x=i:=by
 show (if f x=true then _ else _)=_
 rw [h]; rfl
theorem foldI_no (n:Nat) (ox:List Int→Prop):∀ W:List (List Int),(∀ w∈W,¬ onto1 w n)→foldS (prI (fA n) ox) none (pls W)=(none,true)
 | [],_=>rfl
 | w :: W,h=>by
  have hw:fA n (.list (il w))=false:=by rw [fA_il]; exact decide_eq_false (h w (List.mem_cons_self ..))
  show foldS _ _ (.list (il w) :: pls W)=_
  unfold foldS
  have hg:(prI (fA n) ox).go none (.list (il w))=true:=by show (!fA n _)=true; rw [hw]; rfl
  rw [hg,if_pos rfl,prI_nn hw]
  exact foldI_no n ox W fun w' hw'=>h w' (List.mem_cons_of_mem _ hw')
theorem foldI_yes (n:Nat) (ox:List Int→Prop):∀ W:List (List Int),(∃ w∈W,onto1 w n)→∃ w∈W,onto1 w n∧foldS (prI (fA n) ox) none (pls W)=(some w,false)
 | [],h=>by obtain ⟨w,hw,_⟩:=h; cases hw
 | w :: W,h=>by
  by_cases ho:onto1 w n
  ·refine ⟨w,List.mem_cons_self ..,ho,?_⟩
   have hw:fA n (.list (il w))=true:=by rw [fA_il]; exact decide_eq_true ho
   show foldS _ _ (.list (il w) :: pls W)=_
   unfold foldS
   have hg:(prI (fA n) ox).go none (.list (il w))=false:=by show (!fA n _)=false; rw [hw]; rfl
   rw [hg,prI_nx hw]; rfl
  ·obtain ⟨w',hw',ho'⟩:=h
   have hm:w'∈W:=by
    rcases List.mem_cons.1 hw' with rfl | h
    ·exact absurd ho' ho
    ·exact h
   obtain ⟨u,hu,hu2,hu3⟩:=foldI_yes n ox W ⟨w',hm,ho'⟩
   refine ⟨u,List.mem_cons_of_mem _ hu,hu2,?_⟩
   have hw:fA n (.list (il w))=false:=by rw [fA_il]; exact decide_eq_false ho
   show foldS _ _ (.list (il w) :: pls W)=_
   unfold foldS
   have hg:(prI (fA n) ox).go none (.list (il w))=true:=by show (!fA n _)=true; rw [hw]; rfl
   rw [hg,if_pos rfl,prI_nn hw]
   exact hu3

/-- How many things have each order. -/
def cnt1 (n:Nat) (f:Nat→Nat→Nat) (e j k:Nat):Int:=((mem j fun b=>decide (ord n f e b=k)).length:Nat)
theorem cnt1_succ (f:Nat→Nat→Nat) (j k:Nat):cnt1 n f e (j + 1) k=if k=ord n f e j then cnt1 n f e j (ord n f e j) + 1 else cnt1 n f e j k:=by
 unfold cnt1 mem
 rw [List.range_succ,List.filter_append]
 by_cases hk:k=ord n f e j
 ·subst hk
  simp
 ·have:¬ ord n f e j=k:=fun h=>hk h.symm
  simp [hk,this]
theorem Isom.cnt {f g:Nat→Nat→Nat} {φ:Nat→Nat} (G:Grp n f e) (K:Grp N g d) (h:Isom n f N g φ) (k:Nat):cnt1 n f e n k=cnt1 N g d N k:=by
 obtain ⟨h1,h2,h3⟩:=isom_iff.1 h
 subst h2
 unfold cnt1
 have ho:∀ a,a < n→ord n g d (φ a)=ord n f e a:=fun a ha=>by
  refine Nat.dvd_antisymm (h1.ord G K ha) ?_
  
  rw [← G.pw_eq_one ha]
  refine h.inj (G.pw_lt ha _) G.el ?_
  rw [h1.pw G K ha,K.pw_ord (h1.lt a ha),h1.one G K]
 refine congrArg _ (mem_bij φ (fun x hx hp=>⟨h1.lt x hx,?_⟩) (fun x y hx hy _ _ e=>h.inj hx hy e) fun y hy hp=>?_)
 ·simp only [decide_eq_true_eq] at hp ⊢
  rw [ho x hx,hp]
 ·obtain ⟨x,hx,rfl⟩:=h3 y hy
  simp only [decide_eq_true_eq] at hp ⊢
  exact ⟨x,hx,by rw [← ho x hx,hp],rfl⟩
theorem isoc_c (h:GT n m n e):FnC Tryd.prog 93 [gp n m] (.list (il (rgz (n + 1) (cnt1 n (op m n) e n)))):=by
 have hn:=h.2.1.big
 have h0:(rgz (n + 1) fun _=>(0:Int))=rgz (n + 1) (cnt1 n (op m n) e 0):=rfl
 have hc:((n:Nat):Int) + 1=((n + 1:Nat):Int):=rfl
 refine fnc_of tab_ok Tryd.func93 rfl (by kernel_rfl) (by rw [Tryd.ntmps93]; exact Nat.le_add_left 1 _) ?_; rw [Tryd.ntmps93]
 refine qm ?_
 refine hk_region fun K hK=>runs_eval tab_ok ?_
 simp only [ev0,evA,evB,evP,fl,gp,tab,simprocAttr,reduceCtorEq,reduceIte]
 refine fin_run ?_ (hK _ ?_)<;>clear hK<;>clear K
 ·(first|exact trivial|omega|(simp only [In64] at *; omega)|(simp [In64] at *; omega)|(simp_all; done)|skip)
 refine qa (qm ?_)
 refine hk_region fun K hK=>runs_eval tab_ok ?_
 simp only [ev0,evA,evB,evP,fl,gp,tab,simprocAttr,reduceCtorEq,reduceIte,hc,makeSliceA.eq_def,rgz_new]
 refine fin_run ?_ (hK _ ?_)<;>clear hK<;>clear K
 ·skip
  exact ⟨⟨by omega,by omega⟩,by omega,by omega,by omega,by omega⟩
 refine qa (qm (qm ?_))
 refine hk_region fun K hK=>runs_eval tab_ok ?_
 simp only [ev0,evA,evB,evP,fl,gp,tab,simprocAttr,reduceCtorEq,reduceIte]
 refine fin_run ?_ (hK _ ?_)<;>clear hK<;>clear K
 ·(first|exact trivial|omega|(simp only [In64] at *; omega)|(simp [In64] at *; omega)|(simp_all; done)|skip)
 refine qa (ql ?_)
 refine hk_loop (ι:=Nat) (fun a=>⟨24,[(1,.ptr 0 0),(3,.sl 1 0 (n + 1)),(10,.p (.int .i64 n)),(11,.p (.int .i64 a))],[.own [.p (.int .i64 n),.p (.list (il m))],.own (ol (rgz (n + 1) (cnt1 n (op m n) e a)))]⟩) (fun a=>a≤n) (fun a=>n - a) 0 (Nat.zero_le _) [0,1] (by simp only [leq,leA,ev0,evA,evB,evP,fl,gp,tab,simprocAttr,reduceCtorEq,reduceIte]<;>first|trivial|exact ⟨rfl,rfl⟩|(rw [h0,List.take_length]; done)|trace_state) fun a ha=>?_
 have hrl:=rgz_len (n + 1) (cnt1 n (op m n) e a)
 refine qm ?_
 refine hk_region fun K hK=>runs_eval tab_ok ?_
 simp only [ev0,evA,evB,evP,fl,gp,tab,simprocAttr,reduceCtorEq,reduceIte]
 refine fin_run trivial (hK _ ?_)<;>clear hK<;>clear K
 refine qa (qm ?_)
 refine hk_cond rfl (fun hC1=>?_) (fun hC1=>?_)
 ·(try simp only [nhs] at hC1)
  have hal:a < n:=by omega
  have hol:ord n (op m n) e a < n + 1:=by have:=(h.2.2.ord_spec hal).2.1; omega
  have hg:=rgz_get (g:=cnt1 n (op m n) e a) hol
  have hse:(rgz (n + 1) (cnt1 n (op m n) e a)).set (ord n (op m n) e a) (cnt1 n (op m n) e a (ord n (op m n) e a) + 1)=rgz (n + 1) (cnt1 n (op m n) e (a + 1)):=by
   rw [rgz_set]
   exact rgz_congr fun k hk=>(cnt1_succ (op m n) a k).symm
  have hcb:cnt1 n (op m n) e a (ord n (op m n) e a)≤n:=by
   unfold cnt1 mem
   have h1:=List.length_filter_le (fun b=>decide (ord n (op m n) e b=ord n (op m n) e a)) (List.range a)
   rw [List.length_range] at h1
   omega
  have hc0:0≤cnt1 n (op m n) e a (ord n (op m n) e a):=Int.natCast_nonneg _
  refine qh (qa (qm (ql (qm ?_))))
  refine hk_region fun K hK=>runs_eval tab_ok ?_
  simp only [ev0,evA,evB,evP,fl,gp,tab,simprocAttr,reduceCtorEq,reduceIte]
  refine fin_run trivial (hK _ ?_)<;>clear hK<;>clear K
  refine qa ?_
  refine hk_region fun K hK=>runs_eval tab_ok ?_
  simp only [ev0,evA,evB,evP,fl,gp,tab,simprocAttr,reduceCtorEq,reduceIte,ol_length,hrl,ol_get (show ord n (op m n) e a < (rgz (n + 1) (cnt1 n (op m n) e a)).length by omega),hg,ol_set,hse]
  refine fin_stop ?_ (runs_call (orderOf_c h hal) rfl rfl rfl (by simp only [dstOk,Nat.reduceLT]) (by repeat (first|exact trivial|constructor)) (runs_eval tab_ok ?_))
  ·(first|exact trivial|omega|(simp only [In64] at *; omega)|(simp [In64] at *; omega)|(simp_all; done)|skip)
  simp only [ev0,evA,evB,evP,fl,gp,tab,simprocAttr,reduceCtorEq,reduceIte,ol_length,hrl,ol_get (show ord n (op m n) e a < (rgz (n + 1) (cnt1 n (op m n) e a)).length by omega),hg,ol_set,hse]
  refine fin_run ?_ (hK _ ?_)<;>clear hK<;>clear K
  ·(first|exact trivial|omega|(simp only [In64] at *; omega)|(simp [In64] at *; omega)|(simp_all; done)|skip)
  refine qd (qa ?_)
  refine hk_region fun K hK=>runs_eval tab_ok ?_
  simp only [ev0,evA,evB,evP,fl,gp,tab,simprocAttr,reduceCtorEq,reduceIte]
  refine fin_run ?_ (hK _ ?_)<;>clear hK<;>clear K
  ·(first|exact trivial|omega|(simp only [In64] at *; omega)|(simp [In64] at *; omega)|(simp_all; done)|skip)
  refine qa ?_
  refine ⟨a + 1,[0,1],by omega,by omega,?_⟩
  simp only [leq,leA,ev0,evA,evB,evP,fl,gp,tab,simprocAttr,reduceCtorEq,reduceIte]<;>first|trivial|omega|trace_state
 ·(try simp only [nhs] at hC1)
  obtain rfl:a=n:=by omega
  refine hk_seal 3 1 (w:=rgz (a + 1) (cnt1 a (op m a) e a)) (by rw [hrl]; rfl) rfl ?_
  refine qj (qc (qc (qf (qa (qm ?_)))))
  refine hk_region fun K hK=>runs_eval tab_ok ?_
  simp only [ev0,evA,evB,evP,fl,gp,tab,simprocAttr,reduceCtorEq,reduceIte]
  refine fin_run trivial (hK _ ?_)<;>clear hK<;>clear K
  refine qa (qk ?_)
  simp only [Tryd.results93,enA,ev0,evA,evB,evP,fl,gp,tab,simprocAttr,reduceCtorEq,reduceIte]
  all_goals (rfl)

set_option maxHeartbeats 8000000 in
set_option maxRecDepth 20000 in
theorem iso2_c (p:Prot σ) (h:GT n m n e) (h' : GT N M N d) (L:List Nat) (hL:L=gl n (op m n) e n) {rec:Loop} (hrp:rec.params.size=1) {l:List AV} (hY:RoundsV Tryd.prog p rec l) (hokx:∀ φ,Hmo n (op m n) N (op M N) φ→p.okx (.list (il (tbm n φ))))
  (hl:l.all (sc1 3)=true) (i:σ) (hi:p.ok i) {j:σ} {b:Bool} (hf:foldS p i (pls (hsq n (op m n) e N (op M N) d L L []))=(j,b)) :
  FnQ Tryd.prog 3 95 [.yv 2 l rec.tmps,.p (.ptr [.int .i64 n,.list (il m)]),.p (.ptr [.int .i64 N,.list (il M)])] (HV p i (.lp rec)) (.p (.tup [])) (HV p j (.lp (recB b rec))):=by
 have hE:=veach_c p h h' L hL hrp hY hokx hl i hi hf
 have hl3:l.map (ren1 [0,1,2])=l:=(List.map_congr_left fun x hx=>ren1_range (n:=3) (List.all_eq_true.1 hl x hx)).trans (List.map_id _)
 unfold HV at hE ⊢
 refine fnq_of (q:=3) tab_ok Tryd.func95 rfl (by kernel_rfl) (by rw [Tryd.ntmps95]; exact Nat.le_add_left 3 _) ?_; rw [Tryd.ntmps95]; simp only [ancs,entA,List.length_cons,List.length_nil,List.cons_append,List.nil_append,Nat.reduceAdd,Nat.zero_add]
 refine hk_region fun K hK=>runs_eval tab_ok ?_
 simp only [ev0,evA,evB,evP,fl,gp,tab,simprocAttr,reduceCtorEq,reduceIte]
 refine fin_stop ?_ (runs_callQ [0,1,2] (hE) rfl rfl ?_ (by simp only [leA,ev0,evA,evB,evP,fl,gp,tab,simprocAttr,reduceCtorEq,reduceIte]; first|trivial|(simp only [ll_takeL]; first|trivial|(repeat constructor; done))|(repeat constructor)) (by decide) (by first|rfl|(simp only [List.length_cons,List.length_nil,List.length_append]; decide)) (by first|rfl|(simp [scQ,scA,sc1,mpKeep,notAnc,Blk.spc,opl_sc]; done)) (by simp only [dstOk,Nat.reduceLT]) (runs_eval tab_ok ?_))
 ·(first|exact trivial|omega|(simp only [In64] at *; omega)|(simp [In64] at *; omega)|(simp_all; done)|skip)
 ·(simp only [argsM,argM1,peekG,peekS,scA,sc1,ren,ren1,List.map_cons,List.map_nil,List.append_nil,List.cons_append,List.nil_append,enA,ev0,evA,evB,evP,fl,gp,tab,simprocAttr,reduceCtorEq,reduceIte]; try trivial)
  exact ⟨by rw [hl3],all_up (by decide) hl⟩
 simp only [putM,kills,hset,List.take_succ_cons,List.take_zero,List.drop_succ_cons,List.drop_zero,List.range',Blk.ren,ren,ren1,List.map_cons,List.map_nil,List.cons_append,List.nil_append,List.append_nil,List.length_cons,List.length_nil,ev0,evA,evB,evP,fl,gp,tab,simprocAttr,reduceCtorEq,reduceIte]
 refine fin_run ?_ (hK _ ?_)<;>clear hK<;>clear K
 ·(first|exact trivial|omega|(simp only [In64] at *; omega)|(simp [In64] at *; omega)|(simp_all; done)|skip)
 simp only [Tryd.results95,PostG,endG,rvsA,rvA,mkTup,ev0,evA,evB,evP,fl,gp,tab,simprocAttr,reduceCtorEq,reduceIte]
 all_goals (exact ⟨[0,1,2,3,4,5],rfl,rfl,by simp only [leq,leA,ev0,evA,evB,evP,fl,gp,tab,simprocAttr,reduceCtorEq,reduceIte]<;>first|trivial|trace_state⟩)
end
end Go.Proofs.YtboadfahlflmhaaDoor

/-
  Walks: an isomorphism is found just where there is one. Conditions: none.
-/
set_option linter.all false
namespace Go.Proofs.YtboadfahlflmhaaDoor
open Go.Pv

section
variable {n e N d:Nat} {m M:List Int}
theorem iso_len (h:GT n m n e) (h' : GT N M N d) (hm:m.length≤1000000000000000) (hM:M.length≤1000000000000000) (hne:¬ n=N):FnC Tryd.prog 29 [gp n m,gp N M] (.tup [.list (il []),fl (6,0)]):=by
 have hb:=homBoth_c n m N M hm hM
 rw [tg_ok h h'] at hb
 refine fnc_ofR tab_ok Tryd.func29 rfl (by kernel_rfl) (by rw [Tryd.ntmps29]; exact Nat.le_add_left 2 _) ?_; rw [Tryd.ntmps29]
 refine hr_seqH ?_
 refine hk_region fun K hK=>runs_eval tab_ok ?_
 simp only [ev0,evA,evB,evP,fl,gp,tab,simprocAttr,reduceCtorEq,reduceIte]
 refine fin_run ?_ (hK _ ?_)<;>clear hK<;>clear K
 ·(first|exact trivial|omega|(simp only [In64] at *; omega)|(simp [In64] at *; omega)|(simp_all; done)|skip)
 refine qa (hr_seqH (qm ?_))
 refine hk_region fun K hK=>runs_eval tab_ok ?_
 simp only [ev0,evA,evB,evP,fl,gp,tab,simprocAttr,reduceCtorEq,reduceIte]
 refine fin_stop trivial (runs_call (hb) rfl rfl rfl (by simp only [dstOk,Nat.reduceLT]) (by repeat (first|exact trivial|constructor)) (runs_eval tab_ok ?_))
 simp only [ev0,evA,evB,evP,fl,gp,tab,simprocAttr,reduceCtorEq,reduceIte]
 refine fin_run ?_ (hK _ ?_)<;>clear hK<;>clear K
 ·(first|exact trivial|omega|(simp only [In64] at *; omega)|(simp [In64] at *; omega)|(simp_all; done)|skip)
 refine qa (qm ?_)
 refine hk_region fun K hK=>runs_eval tab_ok ?_
 simp only [ev0,evA,evB,evP,fl,gp,tab,simprocAttr,reduceCtorEq,reduceIte]
 refine fin_run ?_ (hK _ ?_)<;>clear hK<;>clear K
 ·(first|exact trivial|omega|(simp only [In64] at *; omega)|(simp [In64] at *; omega)|(simp_all; done)|skip)
 refine qa ?_
 refine hk_cond rfl (fun hC1=>?_) (fun hC1=>?_)
 ·(try simp only [nhs] at hC1)
  simp at hC1
 ·(try simp only [nhs] at hC1)
  refine qh (qa (hr_seq (hr_seqH ?_)))
  refine hk_region fun K hK=>runs_eval tab_ok ?_
  simp only [ev0,evA,evB,evP,fl,gp,tab,simprocAttr,reduceCtorEq,reduceIte]
  refine fin_run ?_ (hK _ ?_)<;>clear hK<;>clear K
  ·(first|exact trivial|omega|(simp only [In64] at *; omega)|(simp [In64] at *; omega)|(simp_all; done)|skip)
  refine qa ?_
  refine hr_cond rfl (fun hC2=>?_) (fun hC2=>?_)
  ·(try simp only [nhs] at hC2)
   omega
  ·(try simp only [nhs] at hC2)
   refine hr_of_hk (qh (qa (hr_seqH ?_)))
   refine hk_region fun K hK=>runs_eval tab_ok ?_
   simp only [ev0,evA,evB,evP,fl,gp,tab,simprocAttr,reduceCtorEq,reduceIte]
   refine fin_stop trivial (runs_call (homFlt_c 6 0) rfl rfl rfl (by simp only [dstOk,Nat.reduceLT]) (by repeat (first|exact trivial|constructor)) (runs_eval tab_ok ?_))
   simp only [ev0,evA,evB,evP,fl,gp,tab,simprocAttr,reduceCtorEq,reduceIte]
   refine fin_run ?_ (hK _ ?_)<;>clear hK<;>clear K
   ·(first|exact trivial|omega|(simp only [In64] at *; omega)|(simp [In64] at *; omega)|(simp_all; done)|skip)
   refine qa (hr_of_hk (qk ?_))
   simp only [Tryd.results29,enA,ev0,evA,evB,evP,fl,gp,tab,simprocAttr,reduceCtorEq,reduceIte]
   all_goals (rfl)
theorem iso_cnt (h:GT n m n e) (h' : GT n M n d) (hm:m.length≤1000000000000000) (hM:M.length≤1000000000000000) (hne:¬ rgz (n + 1) (cnt1 n (op m n) e n)=rgz (n + 1) (cnt1 n (op M n) d n)):FnC Tryd.prog 29 [gp n m,gp n M] (.tup [.list (il []),fl (6,0)]):=by
 have hb:=homBoth_c n m n M hm hM
 rw [tg_ok h h'] at hb
 have hn:=h.2.1.big
 have hl1:=rgz_len (n + 1) (cnt1 n (op m n) e n)
 have hl2:=rgz_len (n + 1) (cnt1 n (op M n) d n)
 refine fnc_ofR tab_ok Tryd.func29 rfl (by kernel_rfl) (by rw [Tryd.ntmps29]; exact Nat.le_add_left 2 _) ?_; rw [Tryd.ntmps29]
 refine hr_seqH ?_
 refine hk_region fun K hK=>runs_eval tab_ok ?_
 simp only [ev0,evA,evB,evP,fl,gp,tab,simprocAttr,reduceCtorEq,reduceIte]
 refine fin_run ?_ (hK _ ?_)<;>clear hK<;>clear K
 ·(first|exact trivial|omega|(simp only [In64] at *; omega)|(simp [In64] at *; omega)|(simp_all; done)|skip)
 refine qa (hr_seqH (qm ?_))
 refine hk_region fun K hK=>runs_eval tab_ok ?_
 simp only [ev0,evA,evB,evP,fl,gp,tab,simprocAttr,reduceCtorEq,reduceIte]
 refine fin_stop trivial (runs_call (hb) rfl rfl rfl (by simp only [dstOk,Nat.reduceLT]) (by repeat (first|exact trivial|constructor)) (runs_eval tab_ok ?_))
 simp only [ev0,evA,evB,evP,fl,gp,tab,simprocAttr,reduceCtorEq,reduceIte]
 refine fin_run ?_ (hK _ ?_)<;>clear hK<;>clear K
 ·(first|exact trivial|omega|(simp only [In64] at *; omega)|(simp [In64] at *; omega)|(simp_all; done)|skip)
 refine qa (qm ?_)
 refine hk_region fun K hK=>runs_eval tab_ok ?_
 simp only [ev0,evA,evB,evP,fl,gp,tab,simprocAttr,reduceCtorEq,reduceIte]
 refine fin_run ?_ (hK _ ?_)<;>clear hK<;>clear K
 ·(first|exact trivial|omega|(simp only [In64] at *; omega)|(simp [In64] at *; omega)|(simp_all; done)|skip)
 refine qa ?_
 refine hk_cond rfl (fun hC1=>?_) (fun hC1=>?_)
 ·(try simp only [nhs] at hC1)
  simp at hC1
 ·(try simp only [nhs] at hC1)
  refine qh (qa (hr_seq (hr_seqH ?_)))
  refine hk_region fun K hK=>runs_eval tab_ok ?_
  simp only [ev0,evA,evB,evP,fl,gp,tab,simprocAttr,reduceCtorEq,reduceIte]
  refine fin_run ?_ (hK _ ?_)<;>clear hK<;>clear K
  ·(first|exact trivial|omega|(simp only [In64] at *; omega)|(simp [In64] at *; omega)|(simp_all; done)|skip)
  refine qa ?_
  refine hr_cond rfl (fun hC2=>?_) (fun hC2=>?_)
  ·(try simp only [nhs] at hC2)
   refine hr_seqH ?_
   refine hk_region fun K hK=>runs_eval tab_ok ?_
   simp only [ev0,evA,evB,evP,fl,gp,tab,simprocAttr,reduceCtorEq,reduceIte]
   refine fin_run trivial (hK _ ?_)<;>clear hK<;>clear K
   refine qa (hr_seqH ?_)
   refine hk_draw2 mixed fun K hK=>runs2_eval tab_ok ?_
   simp only [evD,ev0,evA,evB,evP,fl,gp,tab,simprocAttr,reduceCtorEq,reduceIte]
   refine fin2_stop trivial (runs2_call (isoc_c h) rfl rfl rfl rfl (by simp only [dstOk,Nat.reduceLT]) (by repeat (first|exact trivial|constructor)) (runs2_eval tab_ok ?_))
   simp only [evD,ev0,evA,evB,evP,fl,gp,tab,simprocAttr,reduceCtorEq,reduceIte]
   refine fin2_stop trivial (runs2_call (isoc_c h') rfl rfl rfl rfl (by simp only [dstOk,Nat.reduceLT]) (by repeat (first|exact trivial|constructor)) (runs2_eval tab_ok ?_))
   simp only [evD,ev0,evA,evB,evP,fl,gp,tab,simprocAttr,reduceCtorEq,reduceIte]
   refine fin2_stop trivial (runs2_call (equal_c (rgz (n + 1) (cnt1 n (op m n) e n)) (rgz (n + 1) (cnt1 n (op M n) d n)) (by omega) (by omega)) rfl rfl rfl rfl (by simp only [dstOk,Nat.reduceLT]) (by repeat (first|exact trivial|constructor)) (runs2_eval tab_ok ?_))
   simp only [evD,ev0,evA,evB,evP,fl,gp,tab,simprocAttr,reduceCtorEq,reduceIte]
   refine fin2_run ?_ (hK _ _ (by first|kernel_rfl|rfl) ?_)<;>clear hK<;>clear K
   ·(first|exact trivial|omega|(simp only [In64] at *; omega)|(simp [In64] at *; omega)|(simp_all; done)|skip)
   refine qa ?_
   refine hr_cond rfl (fun hC3=>?_) (fun hC3=>?_)
   ·(try simp only [nhs] at hC3)
    exact absurd (by simpa using hC3) hne
   ·(try simp only [nhs] at hC3)
    refine hr_of_hk (qh (qa (hr_seqH ?_)))
    refine hk_region fun K hK=>runs_eval tab_ok ?_
    simp only [ev0,evA,evB,evP,fl,gp,tab,simprocAttr,reduceCtorEq,reduceIte]
    refine fin_stop trivial (runs_call (homFlt_c 6 0) rfl rfl rfl (by simp only [dstOk,Nat.reduceLT]) (by repeat (first|exact trivial|constructor)) (runs_eval tab_ok ?_))
    simp only [ev0,evA,evB,evP,fl,gp,tab,simprocAttr,reduceCtorEq,reduceIte]
    refine fin_run ?_ (hK _ ?_)<;>clear hK<;>clear K
    ·(first|exact trivial|omega|(simp only [In64] at *; omega)|(simp [In64] at *; omega)|(simp_all; done)|skip)
    refine qa (hr_of_hk (qk ?_))
    simp only [Tryd.results29,enA,ev0,evA,evB,evP,fl,gp,tab,simprocAttr,reduceCtorEq,reduceIte]
    all_goals (rfl)
  ·(try simp only [nhs] at hC2)
   simp at hC2

set_option maxHeartbeats 8000000 in
set_option maxRecDepth 20000 in
theorem iso_run (h:GT n m n e) (h' : GT n M n d) (hm:m.length≤1000000000000000) (hM:M.length≤1000000000000000) (hcn:rgz (n + 1) (cnt1 n (op m n) e n)=rgz (n + 1) (cnt1 n (op M n) d n)) {j:Option (List Int)} {b:Bool}
  (hf:foldS (prI (fA n) (oA n)) none (pls (hmW n m e n M d))=(j,b)) (hj:(j=none∧b=true)∨(∃ v,j=some v∧b=false)) :
  FnC Tryd.prog 29 [gp n m,gp n M] (.tup [.list (il (j.getD [])),fl (if b then 6 else 0,0)]):=by
 have hb:=homBoth_c n m n M hm hM
 rw [tg_ok h h'] at hb
 have hn:=h.2.1.big
 have hl1:=rgz_len (n + 1) (cnt1 n (op m n) e n)
 have hl2:=rgz_len (n + 1) (cnt1 n (op M n) d n)
 refine fnc_ofR tab_ok Tryd.func29 rfl (by kernel_rfl) (by rw [Tryd.ntmps29]; exact Nat.le_add_left 2 _) ?_; rw [Tryd.ntmps29]
 refine hr_seqH ?_
 refine hk_region fun K hK=>runs_eval tab_ok ?_
 simp only [ev0,evA,evB,evP,fl,gp,tab,simprocAttr,reduceCtorEq,reduceIte]
 refine fin_run ?_ (hK _ ?_)<;>clear hK<;>clear K
 ·(first|exact trivial|omega|(simp only [In64] at *; omega)|(simp [In64] at *; omega)|(simp_all; done)|skip)
 refine qa (hr_seqH (qm ?_))
 refine hk_region fun K hK=>runs_eval tab_ok ?_
 simp only [ev0,evA,evB,evP,fl,gp,tab,simprocAttr,reduceCtorEq,reduceIte]
 refine fin_stop trivial (runs_call (hb) rfl rfl rfl (by simp only [dstOk,Nat.reduceLT]) (by repeat (first|exact trivial|constructor)) (runs_eval tab_ok ?_))
 simp only [ev0,evA,evB,evP,fl,gp,tab,simprocAttr,reduceCtorEq,reduceIte]
 refine fin_run ?_ (hK _ ?_)<;>clear hK<;>clear K
 ·(first|exact trivial|omega|(simp only [In64] at *; omega)|(simp [In64] at *; omega)|(simp_all; done)|skip)
 refine qa (qm ?_)
 refine hk_region fun K hK=>runs_eval tab_ok ?_
 simp only [ev0,evA,evB,evP,fl,gp,tab,simprocAttr,reduceCtorEq,reduceIte]
 refine fin_run ?_ (hK _ ?_)<;>clear hK<;>clear K
 ·(first|exact trivial|omega|(simp only [In64] at *; omega)|(simp [In64] at *; omega)|(simp_all; done)|skip)
 refine qa ?_
 refine hk_cond rfl (fun hC1=>?_) (fun hC1=>?_)
 ·(try simp only [nhs] at hC1)
  simp at hC1
 ·(try simp only [nhs] at hC1)
  refine qh (qa (hr_seq (hr_seqH ?_)))
  refine hk_region fun K hK=>runs_eval tab_ok ?_
  simp only [ev0,evA,evB,evP,fl,gp,tab,simprocAttr,reduceCtorEq,reduceIte]
  refine fin_run ?_ (hK _ ?_)<;>clear hK<;>clear K
  ·(first|exact trivial|omega|(simp only [In64] at *; omega)|(simp [In64] at *; omega)|(simp_all; done)|skip)
  refine qa ?_
  refine hr_cond rfl (fun hC2=>?_) (fun hC2=>?_)
  ·(try simp only [nhs] at hC2)
   refine hr_seqH ?_
   refine hk_region fun K hK=>runs_eval tab_ok ?_
   simp only [ev0,evA,evB,evP,fl,gp,tab,simprocAttr,reduceCtorEq,reduceIte]
   refine fin_run trivial (hK _ ?_)<;>clear hK<;>clear K
   refine qa (hr_seqH ?_)
   refine hk_draw2 mixed fun K hK=>runs2_eval tab_ok ?_
   simp only [evD,ev0,evA,evB,evP,fl,gp,tab,simprocAttr,reduceCtorEq,reduceIte]
   refine fin2_stop trivial (runs2_call (isoc_c h) rfl rfl rfl rfl (by simp only [dstOk,Nat.reduceLT]) (by repeat (first|exact trivial|constructor)) (runs2_eval tab_ok ?_))
   simp only [evD,ev0,evA,evB,evP,fl,gp,tab,simprocAttr,reduceCtorEq,reduceIte]
   refine fin2_stop trivial (runs2_call (isoc_c h') rfl rfl rfl rfl (by simp only [dstOk,Nat.reduceLT]) (by repeat (first|exact trivial|constructor)) (runs2_eval tab_ok ?_))
   simp only [evD,ev0,evA,evB,evP,fl,gp,tab,simprocAttr,reduceCtorEq,reduceIte]
   refine fin2_stop trivial (runs2_call (equal_c (rgz (n + 1) (cnt1 n (op m n) e n)) (rgz (n + 1) (cnt1 n (op M n) d n)) (by omega) (by omega)) rfl rfl rfl rfl (by simp only [dstOk,Nat.reduceLT]) (by repeat (first|exact trivial|constructor)) (runs2_eval tab_ok ?_))
   simp only [evD,ev0,evA,evB,evP,fl,gp,tab,simprocAttr,reduceCtorEq,reduceIte]
   refine fin2_run ?_ (hK _ _ (by first|kernel_rfl|rfl) ?_)<;>clear hK<;>clear K
   ·(first|exact trivial|omega|(simp only [In64] at *; omega)|(simp [In64] at *; omega)|(simp_all; done)|skip)
   refine qa ?_
   refine hr_cond rfl (fun hC3=>?_) (fun hC3=>?_)
   ·(try simp only [nhs] at hC3)
    refine hr_seqH ?_
    refine hk_freeze 0 rfl rfl ?_
    refine hk_freeze 1 rfl rfl ?_
    refine hk_pure 2 rfl (Nat.zero_le _) ?_
    refine hk_pure 3 rfl (Nat.zero_le _) ?_
    simp only [hset,List.drop_zero]
    refine hk_region fun K hK=>runs_eval tab_ok ?_
    simp only [ev0,evA,evB,evP,fl,gp,tab,simprocAttr,reduceCtorEq,reduceIte]
    refine fin_run ?_ (hK _ ?_)<;>clear hK<;>clear K
    ·(first|exact trivial|omega|(simp only [In64] at *; omega)|(simp [In64] at *; omega)|(simp_all; done)|skip)
    refine qa (hr_block ?_)
    refine hr_cl 31 rfl ?_
    refine hr_range (gs:=31) (pp:=32) (κ:=2) (q:=3) (n:=52) (sl:=[(2,.p (.ptr [.int .i64 n,.list (il m)])),(3,.p (.ptr [.int .i64 n,.list (il M)])),(4,.ptr 0 0),(5,.ptr 1 0)]) (Hs0:=HV (prI (fA n) (oA n)) none) (Hf:=HV (prI (fA n) (oA n)) j) (b:=b) (gf:=95) (cap:=[.p (.ptr [.int .i64 n,.list (il m)]),.p (.ptr [.int .i64 n,.list (il M)])]) (rv:=.p (.tup [])) [2,3,5] rfl rfl
     (fun r0=>by simp only [HV,prI]; simp only [leq,leA,ev0,evA,evB,evP,fl,gp,tab,simprocAttr,reduceCtorEq,reduceIte]<;>first|trivial|trace_state) rfl (by decide) ⟨fun _=>rfl,fun _ _=>rfl⟩ ⟨fun _=>rfl,fun _ _=>rfl⟩ (fun r0=>rfl) rfl rfl (fun r0 r1=>by rcases hj with ⟨rfl,rfl⟩|⟨v,rfl,rfl⟩<;>(simp only [HV,prI]; exact (by first|rfl|(simp [scQ,scA,sc1,mpKeep,notAnc,Blk.spc,opl_sc]; done))))
     (fun rec hr=>iso2_c (prI (fA n) (oA n)) h h' _ rfl (by rw [hr.params]; rfl) (fun i x hi hx=>yld_of hr (by decide) rfl (by decide) (sl1:=(8,.p x) :: [(2,.p (.ptr [.int .i64 n,.list (il m)])),(3,.p (.ptr [.int .i64 n,.list (il M)])),(4,.ptr 0 0),(5,.ptr 1 0)]) (H0:=HV (prI (fA n) (oA n)) i) (H1:=HV (prI (fA n) (oA n)) (Prot.nx (prI (fA n) (oA n)) i x)) ⟨fun _=>rfl,fun _ _=>rfl⟩ ⟨fun _=>rfl,fun _ _=>rfl⟩ (fun r0=>?_) (fun r0=>?_)) (fun φ hφ=>⟨_,rfl,tbm_len n φ,fun k hk=>⟨φ k,hφ.lt k hk,tbm_get hk⟩⟩) rfl none rfl hf) ?_ ?_
    ·simp only [HV,prI,ancs,List.cons_append,List.nil_append,Nat.reduceAdd,Nat.zero_add]
     refine hk_region fun K hK=>runs_eval tab_ok ?_
     simp only [ev0,evA,evB,evP,fl,gp,tab,simprocAttr,reduceCtorEq,reduceIte]
     refine fin_run trivial (hK _ ?_)<;>clear hK<;>clear K
     refine ⟨rfl,[0,1,2,3,4,5],?_⟩
     simp only [leq,leA,ev0,evA,evB,evP,fl,gp,tab,simprocAttr,reduceCtorEq,reduceIte]<;>first|trivial|trace_state
    ·obtain ⟨v,rfl,hvl,hvn⟩:=hx
     have hi:i=none:=hi
     subst hi
     have hfv:fA n (.list (il v))=decide (onto1 v n):=fA_il n v
     have hgo:(prI (fA n) (oA n)).go none (.list (il v)) = !decide (onto1 v n):=by show (!fA n _)=_; rw [hfv]
     rw [hgo]
     have hnx:(prI (fA n) (oA n)).nx none (.list (il v))=if onto1 v n then some v else none:=by
      by_cases ho:onto1 v n
      ·rw [if_pos ho]; exact prI_nx (by rw [hfv]; exact decide_eq_true ho) none
      ·rw [if_neg ho]; exact prI_nn (by rw [hfv]; exact decide_eq_false ho) none
     rw [hnx]
     simp only [HV,prI,ancs,List.cons_append,List.nil_append,Nat.reduceAdd,Nat.zero_add]
     refine ql (qm ?_)
     refine hk_region fun K hK=>runs_eval tab_ok ?_
     simp only [ev0,evA,evB,evP,fl,gp,tab,simprocAttr,reduceCtorEq,reduceIte,makeSliceA.eq_def,hbl_new]
     refine fin_run ?_ (hK _ ?_)<;>clear hK<;>clear K
     ·omega
     refine qa (qm (qm ?_))
     refine hk_region fun K hK=>runs_eval tab_ok ?_
     simp only [ev0,evA,evB,evP,fl,gp,tab,simprocAttr,reduceCtorEq,reduceIte,il_length,hvl]
     refine fin_run trivial (hK _ ?_)<;>clear hK<;>clear K
     refine qa (ql ?_)
     refine hk_loop (ι:=Nat) (fun k=>⟨52,[(4,.ptr 0 0),(5,.ptr 1 0),(8,.p (.list (il v))),(9,.sl 6 0 n),(36,.p (.list (il v))),(37,.p (.int .i64 n)),(38,.p (.int .i64 k))],[.own [.p .nil],.own [.p (.int .i64 0),.p (.int .i64 0)],.lp r0,.anc 0 0,.anc 1 1,.anc 2 2,.own (opl (hbl n (hits v k)))]⟩) (fun k=>k≤n) (fun k=>n - k) 0 (Nat.zero_le _) [0,1,2,3,4,5,6] (by simp only [show hits v 0=fun _=>false from funext (hits_zero _)]; simp only [leq,leA,ev0,evA,evB,evP,fl,gp,tab,simprocAttr,reduceCtorEq,reduceIte]<;>first|trivial|trace_state) fun k hk=>?_
     refine qm ?_
     refine hk_region fun K hK=>runs_eval tab_ok ?_
     simp only [ev0,evA,evB,evP,fl,gp,tab,simprocAttr,reduceCtorEq,reduceIte]
     refine fin_run trivial (hK _ ?_)<;>clear hK<;>clear K
     refine qa (qm ?_)
     refine hk_cond rfl (fun hC4=>?_) (fun hC4=>?_)
     ·(try simp only [nhs] at hC4)
      have hkl:k < n:=by omega
      obtain ⟨y,lv,ev⟩:=hvn k hkl
      refine qh (qa (qm (ql (qm ?_))))
      refine hk_region fun K hK=>runs_eval tab_ok ?_
      simp only [ev0,evA,evB,evP,fl,gp,tab,simprocAttr,reduceCtorEq,reduceIte,il_get (show k < v.length by omega),ev]
      refine fin_run ?_ (hK _ ?_)<;>clear hK<;>clear K
      ·(first|exact trivial|omega|(simp only [In64] at *; omega)|(simp [In64] at *; omega)|(simp_all; done)|skip)
      refine qa ?_
      refine hk_region fun K hK=>runs_eval tab_ok ?_
      simp only [ev0,evA,evB,evP,fl,gp,tab,simprocAttr,reduceCtorEq,reduceIte]
      refine fin_run ?_ (hK _ ?_)<;>clear hK<;>clear K
      ·rw [hbl_len]; omega
      refine qd (qa ?_)
      rw [hbl_set]
      refine hk_region fun K hK=>runs_eval tab_ok ?_
      simp only [ev0,evA,evB,evP,fl,gp,tab,simprocAttr,reduceCtorEq,reduceIte]
      refine fin_run ?_ (hK _ ?_)<;>clear hK<;>clear K
      ·(first|exact trivial|omega|(simp only [In64] at *; omega)|(simp [In64] at *; omega)|(simp_all; done)|skip)
      refine qa ?_
      refine ⟨k + 1,[0,1,2,3,4,5,6],by omega,by omega,?_⟩
      rw [hbl_congr (fun i' _=>hits_succ (l:=v) (by omega) ev i')]
      simp only [leq,leA,ev0,evA,evB,evP,fl,gp,tab,simprocAttr,reduceCtorEq,reduceIte]<;>first|trivial|omega
     ·(try simp only [nhs] at hC4)
      have hkn:k=n:=by omega
      rw [hkn]
      have hon:decide (ixb n (hits v n) ≥ 0)=decide (¬ onto1 v n):=decide_eq_decide.2 (by
       rw [ixb_iff]
       unfold hits onto1
       rw [List.take_of_length_le (by omega)]
       constructor
       ·rintro ⟨z,v1,v2⟩ ho
        exact (of_decide_eq_false v2) (ho.1 z v1)
       ·intro ho
        by_cases hh:∃ z,z < n∧¬ ((z:Nat):Int)∈v
        ·obtain ⟨z,v1,v2⟩:=hh
         exact ⟨z,v1,decide_eq_false v2⟩
        ·exact absurd ⟨fun z hz=>Classical.byContradiction fun h'=>hh ⟨z,hz,h'⟩,hvl⟩ ho)
      refine hk_sealp 9 6 (hbl_all n (hits v n)) (by show AV.sl 6 0 n=AV.sl 6 0 _; rw [hbl_len]) rfl ?_
      refine qj (qc (qc (qf (qa (qm ?_)))))
      refine hk_region fun K hK=>runs_eval tab_ok ?_
      simp only [ev0,evA,evB,evP,fl,gp,tab,simprocAttr,reduceCtorEq,reduceIte]
      refine fin_stop trivial (runs_call (containsB_c n (hits v n) (by omega)) rfl rfl rfl (by simp only [dstOk,Nat.reduceLT]) (by repeat (first|exact trivial|constructor)) (runs_eval tab_ok ?_))
      simp only [ev0,evA,evB,evP,fl,gp,tab,simprocAttr,reduceCtorEq,reduceIte,hon]
      refine fin_run trivial (hK _ ?_)<;>clear hK<;>clear K
      refine qa ?_
      refine hk_cond rfl (fun hC5=>?_) (fun hC5=>?_)
      ·(try simp only [nhs] at hC5)
       have ho:onto1 v n:=by simpa using hC5
       simp only [ho,decide_true,Bool.not_true,if_true,Bool.false_eq_true,if_false]
       refine qm ?_
       refine hk_region fun K hK=>runs_eval tab_ok ?_
       simp only [ev0,evA,evB,evP,fl,gp,tab,simprocAttr,reduceCtorEq,reduceIte]
       refine fin_run ?_ (hK _ ?_)<;>clear hK<;>clear K
       ·(first|exact trivial|omega|(simp only [In64] at *; omega)|(simp [In64] at *; omega)|(simp_all; done)|skip)
       refine qa (qk (qe ?_))
       refine ⟨rfl,[0,1,2,3,4,5],?_⟩
       simp only [leq,leA,ev0,evA,evB,evP,fl,gp,tab,simprocAttr,reduceCtorEq,reduceIte]<;>first|trivial|(simp; done)|trace_state
      ·(try simp only [nhs] at hC5)
       have ho:¬ onto1 v n:=by simpa using hC5
       simp only [ho,decide_false,Bool.not_false,if_true,Bool.false_eq_true,if_false]
       refine qh (qd ?_)
       refine ⟨rfl,[0,1,2,3,4,5],?_⟩
       simp only [leq,leA,ev0,evA,evB,evP,fl,gp,tab,simprocAttr,reduceCtorEq,reduceIte]<;>first|trivial|(simp; done)|trace_state
    ·intro hbt
     obtain ⟨rfl,_⟩:j=none∧b=true:=by
      rcases hj with h1 | ⟨v,_,h2⟩
      ·exact h1
      ·rw [h2] at hbt; cases hbt
     subst hbt
     simp only [HV,prI,ancs,List.cons_append,List.nil_append,Nat.reduceAdd,Nat.zero_add]
     refine qd (qa (hr_seqH ?_))
     refine hk_region fun K hK=>runs_eval tab_ok ?_
     simp only [ev0,evA,evB,evP,fl,gp,tab,simprocAttr,reduceCtorEq,reduceIte]
     refine fin_stop trivial (runs_call (homFlt_c 6 0) rfl rfl rfl (by simp only [dstOk,Nat.reduceLT]) (by repeat (first|exact trivial|constructor)) (runs_eval tab_ok ?_))
     simp only [ev0,evA,evB,evP,fl,gp,tab,simprocAttr,reduceCtorEq,reduceIte]
     refine fin_run ?_ (hK _ ?_)<;>clear hK<;>clear K
     ·(first|exact trivial|omega|(simp only [In64] at *; omega)|(simp [In64] at *; omega)|(simp_all; done)|skip)
     refine qa (hr_of_hk (qk ?_))
     simp only [Tryd.results29,enA,ev0,evA,evB,evP,fl,gp,tab,simprocAttr,reduceCtorEq,reduceIte]
     all_goals (rfl)
    ·intro hbf
     obtain ⟨v,rfl,_⟩:∃ v,j=some v∧b=false:=by
      rcases hj with ⟨_,h1⟩ | h2
      ·rw [h1] at hbf; cases hbf
      ·exact h2
     subst hbf
     simp only [HV,prI,ancs,List.cons_append,List.nil_append,Nat.reduceAdd,Nat.zero_add]
     refine qe (qb ?_)
     simp only [Tryd.results29,enA,ev0,evA,evB,evP,fl,gp,tab,simprocAttr,reduceCtorEq,reduceIte]
     all_goals (rfl)
   ·(try simp only [nhs] at hC3)
    exact absurd hcn (by simpa using hC3)
  ·(try simp only [nhs] at hC2)
   simp at hC2

/-- There is one just where groups are alike. -/
theorem iso_yes (h:GT n m n e) (h' : GT N M N d) (hm:m.length≤1000000000000000) (hM:M.length≤1000000000000000) (hex:∃ φ,Isom n (op m n) N (op M N) φ):∃ φ,Isom n (op m n) N (op M N) φ∧FnC Tryd.prog 29 [gp n m,gp N M] (.tup [.list (il (tbm n φ)),fl (0,0)]):=by
 obtain ⟨χ,hχ⟩:=hex
 obtain ⟨_,h2,_⟩:=isom_iff.1 hχ
 subst h2
 have hcn:rgz (n + 1) (cnt1 n (op m n) e n)=rgz (n + 1) (cnt1 n (op M n) d n):=rgz_congr fun k _=>hχ.cnt h.2.2 h'.2.2 k
 obtain ⟨w,hw,ho,hf⟩:=foldI_yes n (oA n) (hmW n m e n M d) ⟨tbm n χ,(hmW_mem h h' _).2 ⟨χ,hχ.1,rfl⟩,hχ.2⟩
 obtain ⟨φ,hφ,rfl⟩:=(hmW_mem h h' w).1 hw
 exact ⟨φ,⟨hφ,ho⟩,iso_run h h' hm hM hcn hf (.inr ⟨_,rfl,rfl⟩)⟩
theorem iso_no (h:GT n m n e) (h' : GT N M N d) (hm:m.length≤1000000000000000) (hM:M.length≤1000000000000000) (hne:¬ ∃ φ,Isom n (op m n) N (op M N) φ):FnC Tryd.prog 29 [gp n m,gp N M] (.tup [.list (il []),fl (6,0)]):=by
 by_cases hnN:n=N
 ·subst hnN
  by_cases hcn:rgz (n + 1) (cnt1 n (op m n) e n)=rgz (n + 1) (cnt1 n (op M n) d n)
  ·have hf:=foldI_no n (oA n) (hmW n m e n M d) fun w hw ho=>by
    obtain ⟨φ,hφ,rfl⟩:=(hmW_mem h h' w).1 hw
    exact hne ⟨φ,hφ,ho⟩
   exact iso_run h h' hm hM hcn hf (.inl ⟨rfl,rfl⟩)
  ·exact iso_cnt h h' hm hM hcn
 ·exact iso_len h h' hm hM hnN
end
end Go.Proofs.YtboadfahlflmhaaDoor

/-
  The law ProdSplit. Conditions: none.
-/
set_option linter.all false
namespace Go.Proofs.YtboadfahlflmhaaDoor
open Go.Pv

section
variable {n e:Nat} {m:List Int}
theorem AllS.two {f:Nat→Nat→Nat} {SL:List Nat} (G:Grp n f e) (hn:n≤60) (hS:AllS n f e SL) {i:Nat} (hi:i < SL.length) (h1:1≤i) {A:Nat→Bool} (hA:Sub n f e A) (he:SL.getD i 0=bo n A):¬ (thl n A).length=1:=fun hl=>by
 have hp:=hS.pair (i:=0) (j:=i) (by omega) hi
 obtain ⟨p,hsp,hpe⟩:=hS.subs (SL.getD 0 0) (by simp [List.getD,List.getElem?_eq_getElem (show 0 < SL.length by omega)])
 rw [hpe,he,stl_bo hn,stl_bo hn,cmpS_lt] at hp
 have l1:=len_pos G hsp
 have h2:(thl n p).length=1:=by omega
 have e1:=(one_len G hA).1 hl
 have e2:=(one_len G hsp).1 h2
 have:thl n p=thl n A:=thl_congr fun a ha=>by
  rw [Bool.eq_iff_iff]
  exact ⟨fun h=>by rw [e2 a ha h]; exact hA.one,fun h=>by rw [e1 a ha h]; exact hsp.one⟩
 rw [this,cmpL_self] at hp
 omega

theorem split_key (h:GT n m n e) (hn:n≤24) (hm:m.length≤1000000000000000):∃ LL:List (List Int),FnC Tryd.prog 69 [gp n m] (.tup [.list (ll LL),fl (0,0)])∧1≤LL.length∧LL.length≤5∧(∀ v∈LL,∃ p,v=thl n p∧IndT n (op m n) e p∧(¬ n=1→¬ (thl n p).length=1)) ∧
  (LL.Pairwise fun v w=>¬ cmpP w v < 0)∧DirL (lfp h.2.2 fun _=>true) (LL.map (rwp h.2.2))∧(n=1→LL.length=1):=by
 have G:=h.2.2
 have hb:=h.2.1.big
 obtain ⟨SL,hS⟩:=alls_ex G hb
 have hall:Sub n (op m n) e fun _=>true:=⟨rfl,fun _ _ _ _ _ _=>rfl,fun _ _ _=>rfl⟩
 have hal:(thl n fun _=>true).length=n:=by
  rw [thl_len]
  exact mem_all.2 fun _ _=>rfl
 have D:=spl_dec G hS n _ hall (by omega)
 have hp:=srtP_perm (spl n (op m n) e SL n fun _=>true)
 have hl:=hp.length_eq
 refine ⟨_,split_ok h hn hS hm,?_,?_,fun v hv=>?_,srtP_sorted _,?_,fun h1=>?_⟩
 ·have:=D.pos; omega
 ·by_cases h1:n=1
  ·rw [← hl,D.one_ G hall (by omega)]; simp
  ·have h2:=D.pow G hall (by omega)
   rw [hal,hl] at h2
   by_cases h3:(srtP (spl n (op m n) e SL n fun _=>true)).length≤5
   ·exact h3
   ·have:2 ^ 5≤2 ^ (srtP (spl n (op m n) e SL n fun _=>true)).length:=Nat.pow_le_pow_right (by omega) (by omega)
    omega
 ·obtain ⟨p,a1,a2,a3,a4⟩:=D.mem G hall v (hp.mem_iff.2 hv)
  exact ⟨p,a1,a2,fun h1=>a4 (by omega)⟩
 ·exact DirL.perm (el_gp G) (hp.map _) (D.dirL G hall)
 ·rw [← hl,D.one_ G hall (by omega)]; rfl
end
end Go.Proofs.YtboadfahlflmhaaDoor
