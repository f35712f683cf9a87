/-
  Texts of this proof, one behind the other: what each says stands at its head. Conditions: none.
-/
import Derived.Test.YtpobnnfkeekiaaaDoorB4
import Derived.Recover
import Derived.Test.YtpobnnfkeekiaaaDoorB3
import Derived.Test.YtpobnnfkeekiaaaDoorB2
set_option linter.all false
namespace Go.Proofs.YtpobnnfkeekiaaaDoor.Pr
open Go.Pv
section
variable {N:List (List Int)} {U:List Int} {most m:Nat}
def TS (n:Nat) (sl:List (Nat × PV)) (m most:Nat) (s:CS):St:=⟨n,(0,.ptr 0 0) :: sl.map (fun p=>(p.1,.p p.2)),CB m most (2 * m) s.1 s.2++[.bf 0 0]⟩
theorem rn {n m most:Nat} {sl:List (Nat × PV)} {t:CS} {s:St} (hn:s.n=n) (hH:s.H=CB m most (2 * m) t.1 t.2++[.bf 0 0]) (g0:s.get 0 = .ptr 0 0) (hsl:∀ p∈sl,s.get p.1 = .p p.2):Le (List.range (t.1.length + 4)) (TS n sl m most t) s:=by
 have hl:(CB m most (2 * m) t.1 t.2++[.bf 0 0]:az).length=t.1.length + 4:=by rw [List.length_append,aK]; rfl
 have h0:(List.range (t.1.length + 4)).getD 0 0=0:=by simp
 refine iO (B:=CB m most (2 * m) t.1 t.2++[.bf 0 0]) hn.symm hl rfl (gZ (by omega) fun b hb=>?_) (fun i hi=>by rw [hH]) ?_
 ·simp only [List.mem_cons,List.not_mem_nil,or_false] at hb
  subst hb
  simp [bD]
 refine ⟨?_,?_,eB hsl⟩
 ·rw [g0]; simp only [Go.Pv.aY,bg,h0]
 simp [bj,bn]
theorem yk {n m most:Nat} {t:CS} {s:St} (hn:s.n=n) (hH:s.H=CB m most (2 * m) t.1 t.2++[.bf 0 0]):Le (List.range (t.1.length + 4)) ⟨n,[],CB m most (2 * m) t.1 t.2++[.bf 0 0]⟩ s:=by
 have hl:(CB m most (2 * m) t.1 t.2++[.bf 0 0]:az).length=t.1.length + 4:=by rw [List.length_append,aK]; rfl
 refine iO (B:=CB m most (2 * m) t.1 t.2++[.bf 0 0]) hn.symm hl rfl (gZ (by omega) fun b hb=>?_) (fun i hi=>by rw [hH]) trivial
 simp only [List.mem_cons,List.not_mem_nil,or_false] at hb
 subst hb
 simp [bD]
theorem GF {n m most:Nat} {sl:List (Nat × PV)} {t t' : CS} {s:St} (hn:s.n=n) (hH:s.H=n8 (CB m most (2 * m) t.1 t.2) [.bf 0 0] (CB m most (2 * m) t'.1 t'.2)) (g0:s.get 0 = .ptr 0 0) (hsl:∀ p∈sl,s.get p.1 = .p p.2):∃ π,Le π (TS n sl m most t') s:=by
 refine ⟨_,EH (H0:=CB m most (2 * m) t.1 t.2) (X:=[.bf 0 0]) (X':=[.bf 0 0]) (by rw [aK]; omega) (show CB m most (2 * m) t'.1 t'.2=qR m t'.1.length t'.2.length most :: (.own (eU (2 * m) t'.1.length) :: .own (ol t'.2) :: t'.1.map bZ) from rfl) hn.symm rfl hH rfl dm eV (fun i hi H hh=>?_) ?_⟩
 ·obtain rfl:i=0:=by simpa using hi
  show aA H _ = .bf 0 _∧_
  refine ⟨hh,?_⟩
  unfold lN; simp
 refine ⟨?_,?_,eB hsl⟩
 ·rw [g0]; rfl
 unfold lN; simp [bj,bn]
theorem Hu {c:Code} {Q:Exit→St→Prop} {n m most:Nat} (sl:List (Nat × PV)) (t t' : CS) {s:St} (hn:s.n=n) (hH:s.H=n8 (CB m most (2 * m) t.1 t.2) [.bf 0 0] (CB m most (2 * m) t'.1 t'.2)) (g0:s.get 0 = .ptr 0 0) (hsl:∀ p∈sl,s.get p.1 = .p p.2) (h:Holds Tryd.prog c Q (TS n sl m most t')):Holds Tryd.prog c Q s:=by
 obtain ⟨π,hπ⟩:=GF hn hH g0 hsl
 exact pH π hπ h
theorem wa {n mo:Int} {w:Nat} {N:List (List Int)} {U:List Int} : (CB n mo w N U).all (fun b=>!b.AX)=true:=by
 rw [List.all_eq_true]
 intro b hb
 unfold CB at hb
 simp only [List.mem_cons] at hb
 rcases hb with rfl | rfl | rfl | hb
 ·rfl
 ·rfl
 ·rfl
 obtain ⟨f,_,rfl⟩:=List.mem_map.1 hb; rfl
theorem sd {n mo:Int} {w:Nat} {N N' : List (List Int)} {U U' : List Int} {v:PV} : xB 1 (.p v) (CB n mo w N U) (CB n mo w N' U')=true:=by
 unfold xB
 rw [Bool.and_eq_true,Bool.and_eq_true,Bool.and_eq_true,Bool.and_eq_true,Bool.and_eq_true,Bool.and_eq_true]
 refine ⟨⟨⟨⟨⟨⟨rfl,List.all_eq_true.2 fun b hb=>?_⟩,by rw [aK]; simp⟩,by rw [aK]; simp⟩,rfl⟩,List.all_eq_true.2 fun b hb=>(List.all_eq_true.1 wa) b (List.mem_of_mem_drop hb)⟩,eV⟩
 have g1:=(List.all_eq_true.1 (dm (n:=n) (most:=mo) (w:=w) (N:=N') (U:=U'))) b hb
 have g2:=(List.all_eq_true.1 (eV (n:=n) (most:=mo) (w:=w) (N:=N') (U:=U'))) b hb
 cases b with
 | own c=>exact g1
 | bf i j=>cases g2
 | _=>rfl
theorem mj {mo:Int} {m:Nat} {N:List (List Int)} {U:List Int} {s:St} {all:Array Oper} {rest:List Oper} {K:St→Prop} {dst:Option Tmp} {ty:TypeId} {pos:String} {aft:Array Edge} {gd:Option (Nat × Bool)} {fo:Operand} {args:Array Operand} {ts:Array TypeId} {X:az}
  (hm:1≤m∧m≤6) (h:WR m N U) (hk:N.length≤100000000) {v:Nat} {x:Int} (hv:v < N.length) (hr:U.getD v 0=(v:Int)) (hx:x ≠ 0∧-(m:Int)≤x∧x≤m) (hfo:s.ev fo = .p (.fn 47 [])) (hg:a8 all s { dst:=dst,op:=.call { callee:=.value fo,args:=args,argTypes:=ts },type:=ty,pos:=pos,after:=aft,guard:=gd } = some true)
  (hH:s.H=CB m mo (2 * m) N U++X) (hargs:args.toList.map s.ev++([]:List PV).map .p=[.ptr 0 0,.p (.int .i64 v),.p (.int .i64 x)]) (hd:ay s dst)
  (hK:dL Tryd.prog false all rest K (({ s with H:=CB m mo (2 * m) N (gi N U v x)++X } : St).put dst (.p (.int .i64 (nk N U v x))))) :
  dL Tryd.prog false all ({ dst:=dst,op:=.call { callee:=.value fo,args:=args,argTypes:=ts },type:=ty,pos:=pos,after:=aft,guard:=gd } :: rest) K s:=
 gI (Jb hm h hk hv hr hx) hfo hg hH hargs (by rw [aK]; simp [bj,bn]) dm eV (lj rfl) hd hK
set_option maxHeartbeats 4000000 in
set_option maxRecDepth 20000 in
theorem xy (hm:1≤m∧m≤6) {s:CS} (h:cw m s) (hmo:most≤100000000) (hl:s.1.length≤most) {v:Nat} (hv:v < s.1.length) {w:List Int} (hw:Lt m w) (hwl:w.length≤1000000) :
  Ji Tryd.prog 1 72 54 [.ptr 0 0,.p (.int .i64 v),.p (.list (il w))] (CB m most (2 * m) s.1 s.2) ((rK m most s v w).map fun t=>(.p (.tup []),CB m most (2 * m) t.1 t.2)):=by
 obtain ⟨N,U⟩:=s
 simp only at hl hv ⊢
 obtain ⟨o,ho⟩:∃ o,rK m most (N,U) v w=o:=⟨_,rfl⟩
 rw [ho]
 refine Hq (q:=1) ae Tryd.func54 rfl (by kernel_rfl) (by rw [Tryd.ntmps54]; exact Nat.le_add_left 3 _) ?_; rw [Tryd.ntmps54]; simp only [aR,cK,List.length_cons,List.length_nil,List.cons_append,List.nil_append,Nat.reduceAdd,Nat.zero_add]
 have hk8:N.length≤100000000:=by omega
 refine qm ?_
 refine ab fun K hK=>aa ae ?_
 simp only [an,fl,gp,ak,simprocAttr]
 refine ao ?_ (dT (N:=N) (U:=U) (X:=[.bf 0 0]) h.wr hk8 (v:=v) hv rfl rfl rfl rfl (by simp only [ay,Nat.reduceLT]) (aa ae ?_))
 ·exact trivial
 simp only [an,fl,gp,ak,simprocAttr]
 refine af trivial (hK _ ?_)<;>clear hK K
 refine qa (qm (qm ?_))
 refine ab fun K hK=>aa ae ?_
 simp only [an,fl,gp,ak,simprocAttr]
 refine af trivial (hK _ ?_)<;>clear hK K
 refine qa ?_
 refine aq rfl (fun hC1=>?_) (fun hC1=>?_)
 ·(try simp only [aE] at hC1)
  have hnil:w=[]:=by
   apply List.eq_nil_of_length_eq_zero
   simpa using hC1
  obtain ⟨tt,htt⟩:∃ tt:CS,tt=(N,aT U v):=⟨_,rfl⟩
  have ho3:o=some tt:=by rw [← ho,htt]; unfold rK; rw [if_pos hnil]
  have hHt:CB m most (2 * m) N (aT U v)=CB m most (2 * m) tt.1 tt.2:=by rw [htt]
  rw [hHt]
  subst ho3
  refine qk (qb ?_)
  skip
  simp only [Option.map_some,uL]
  simp only [Tryd.results54,eR,gq,dk,kR,bY,an,fl,gp,ak,simprocAttr]
  exact ⟨List.range (tt.1.length + 4),rfl,rfl,yk rfl rfl⟩
 (try simp only [aE] at hC1)
 have hne:w ≠ []:=fun e=>by subst e; simp at hC1
 obtain ⟨g1,g2⟩:=cU (by omega) h hv
 have ev:dO U v=rV U v:=bS h.wr.fo (by rw [h.wr.len]; exact hv)
 have hle:=dP h.wr.fo v (by rw [h.wr.len]; exact hv)
 have hi:=dt h.wr.fo (v:=v) (by rw [h.wr.len]; exact hv)
 obtain ⟨v1,hv1⟩:∃ v1,dO U v=v1:=⟨_,rfl⟩
 simp only at g1 g2 hle hi
 have hv1l:v1 < N.length:=by omega
 have hr1:rV (aT U v) v1=v1:=by rw [g2 v1 hv1l]; rw [← hv1,ev]; exact hi
 have ho2:(kT m most (gE N w (aT U v) v1).2.2 (N,(gE N w (aT U v) v1).1) (gE N w (aT U v) v1).2.1).map (fun q=>zA m w v1 q.1 q.2.1 q.2.2)=o:=by
  rw [← ho]; unfold rK; rw [if_neg hne]; simp only [hv1]
 have fs:=jO (m:=m) (by omega) (N:=N) w (aT U v) v1 g1 hv1l hr1 hw
 obtain ⟨F,hF⟩:∃ F,gE N w (aT U v) v1=F:=⟨_,rfl⟩
 rw [hF] at ho2 fs
 rw [hv1]
 refine qh (qa (qm ?_))
 refine ab fun K hK=>aa ae ?_
 simp only [an,fl,gp,ak,simprocAttr]
 refine af trivial (hK _ ?_)<;>clear hK K
 refine qa (qm (ql ?_))
 refine aD (ι:=List Int × Nat × Nat) (fun q=>TS 96 [(1,.int .i64 v1),(2,.list (il w)),(6,.int .i64 q.2.2),(7,.int .i64 q.2.1)] m most (N,q.1)) (fun q=>cw m (N,q.1)∧q.2.1 < N.length∧rV q.1 q.2.1=q.2.1∧q.2.2≤w.length∧gE N (w.drop q.2.2) q.1 q.2.1=F) (fun q=>w.length - q.2.2) (aT U v,v1,0) ⟨g1,hv1l,hr1,Nat.zero_le _,hF⟩ _ (rn rfl rfl rfl (fun p hp=>by
   simp only [List.mem_cons,List.not_mem_nil,or_false] at hp
   rcases hp with rfl | rfl | rfl | rfl<;>rfl)) fun q hq=>?_
 obtain ⟨U1,a,i⟩:=q
 obtain ⟨q1,q2,q3,q4,q5⟩:=hq
 simp only at q1 q2 q3 q4 q5
 have hag:=pf q1 q2 q3
 simp only at hag
 show Holds _ _ _ (TS 96 [(1,.int .i64 v1),(2,.list (il w)),(6,.int .i64 i),(7,.int .i64 a)] m most (N,U1))
 unfold TS
 simp only [List.map_cons,List.map_nil]
 refine qm (qm ?_)
 obtain ⟨x,hxe⟩:∃ x,w.getD i 0=x:=⟨_,rfl⟩
 obtain ⟨cnd,hcnd⟩:∃ b,(decide (i < w.length) && !decide (rg (N.getD a []) x < 0))=b:=⟨_,rfl⟩
 obtain ⟨U2,hU2⟩:∃ U2,(if i < w.length then gi N U1 a x else U1)=U2:=⟨_,rfl⟩
 refine o0 (TS 96 [(1,.int .i64 v1),(2,.list (il w)),(6,.int .i64 i),(7,.int .i64 a),(30,.bool cnd)] m most (N,U2)) ?_ ?_
 ·rcases Nat.lt_or_ge i w.length with hil | hil
  ·have hdec:decide ((i:Int) < (w.length:Int))=true:=by simp; omega
   have hx:=hw (w.getD i 0) (by rw [List.getD_eq_getElem?_getD,List.getElem?_eq_getElem hil]; exact List.getElem_mem hil)
   rw [hxe] at hx
   have hil2:(il w).getD i default = .int .i64 x:=by rw [← hxe]; exact aL hil
   refine ab fun K hK=>aa ae ?_
   simp only [an,fl,gp,ak,simprocAttr,hdec,hil2,Int.toNat_natCast,Int.ofNat_eq_natCast]
   refine ao ?_ (mj (N:=N) (U:=U1) (X:=[.bf 0 0]) hm q1.wr hk8 (v:=a) q2 hag hx rfl rfl rfl rfl (by simp only [ay,Nat.reduceLT]) (aa ae ?_))
   ·first|omega|(simp; omega)
   simp only [an,fl,gp,ak,simprocAttr,hdec]
   refine af trivial (hK _ ?_)<;>clear hK K
   rw [if_pos hil] at hU2
   subst hU2
   have hc:decide (nk N U1 a x ≥ 0)=cnd:=by
    rw [← hcnd]
    by_cases hd:rg (N.getD a []) x < 0
    ·have e:nk N U1 a x = -1:=by unfold nk; rw [if_pos hd]
     rw [e,decide_eq_true hd,decide_eq_true hil]; rfl
    have e:nk N U1 a x=(dO U1 (rg (N.getD a []) x).toNat:Nat):=by unfold nk; rw [if_neg hd]
    rw [e,decide_eq_false hd,decide_eq_true hil]; exact decide_eq_true (by omega)
   exact ⟨rfl,_,rn rfl rfl rfl (fun p hp=>by
    simp only [List.mem_cons,List.not_mem_nil,or_false] at hp
    rcases hp with rfl | rfl | rfl | rfl | rfl
    ·rfl
    ·rfl
    ·rfl
    ·rfl
    rw [← hc]; rfl)⟩
  have hdec:decide ((i:Int) < (w.length:Int))=false:=by simp; omega
  refine ab fun K hK=>aa ae ?_
  simp only [an,fl,gp,ak,simprocAttr,hdec]
  refine af trivial (hK _ ?_)<;>clear hK K
  rw [if_neg (by omega)] at hU2
  subst hU2
  have hc:false=cnd:=by rw [← hcnd]; simp [hil]; omega
  exact ⟨rfl,_,rn rfl rfl rfl (fun p hp=>by
   simp only [List.mem_cons,List.not_mem_nil,or_false] at hp
   rcases hp with rfl | rfl | rfl | rfl | rfl
   ·rfl
   ·rfl
   ·rfl
   ·rfl
   rw [← hc]; rfl)⟩
 unfold TS
 simp only [List.map_cons,List.map_nil]
 refine qa ?_
 refine aq rfl (fun hC2=>?_) (fun hC2=>?_)
 ·(try simp only [aE] at hC2)
  have hcc:cnd=true:=hC2
  rw [hcc] at hcnd
  simp only [Bool.and_eq_true,decide_eq_true_eq,Bool.not_eq_true',decide_eq_false_iff_not] at hcnd
  obtain ⟨hil,hd⟩:=hcnd
  have hx:=hw (w.getD i 0) (by rw [List.getD_eq_getElem?_getD,List.getElem?_eq_getElem hil]; exact List.getElem_mem hil)
  rw [hxe] at hx
  have hil2:(il w).getD i default = .int .i64 x:=by rw [← hxe]; exact aL hil
  rw [if_pos hil] at hU2
  subst hU2
  obtain ⟨b,f1,f2,f3,f4,f5,f6,f7,f8,f9⟩:=uG (by omega) q1 q2 q3 hx hd
  have hag2:=pf f4 q2 f5
  simp only at hag2
  refine qh (qa (ql (qm ?_)))
  refine ab fun K hK=>aa ae ?_
  simp only [an,fl,gp,ak,simprocAttr,hil2,Int.toNat_natCast,Int.ofNat_eq_natCast]
  refine ao ?_ (mj (N:=N) (U:=gi N U1 a x) (X:=[.bf 0 0]) hm f4.wr hk8 (v:=a) q2 hag2 hx rfl rfl rfl rfl (by simp only [ay,Nat.reduceLT]) (aa ae ?_))
  ·first|omega|(simp; omega)
  simp only [an,fl,gp,ak,simprocAttr,f1]
  refine af trivial (hK _ ?_)<;>clear hK K
  refine qa ?_
  refine ab fun K hK=>aa ae ?_
  simp only [an,fl,gp,ak,simprocAttr]
  refine af ?_ (hK _ ?_)<;>clear hK K
  ·first|exact trivial|omega|(simp only [ah] at *; omega)|(simp [ah] at *; omega)|simp_all
  refine qd (qa ?_)
  have hdr:w.drop i=x :: w.drop (i + 1):=by
   rw [List.drop_eq_getElem_cons hil,← hxe,List.getD_eq_getElem?_getD,List.getElem?_eq_getElem hil]; rfl
  have q6:gE N (w.drop (i + 1)) (gi N (gi N U1 a x) a x) b=F:=by
   rw [hdr] at q5
   unfold gE at q5
   rw [if_neg hd,f1,Int.toNat_natCast] at q5
   exact q5
  refine ⟨(gi N (gi N U1 a x) a x,b,i + 1),List.range (N.length + 4),⟨f6,f3,by simp only; rw [f7 b f3]; exact f8,by simp only; omega,q6⟩,by simp only; omega,?_⟩
  show Le _ (TS 96 [(1,.int .i64 v1),(2,.list (il w)),(6,.int .i64 ((i + 1:Nat):Int)),(7,.int .i64 b)] m most (N,gi N (gi N U1 a x) a x)) _
  exact rn rfl rfl rfl (fun p hp=>by
    simp only [List.mem_cons,List.not_mem_nil,or_false] at hp
    rcases hp with rfl | rfl | rfl | rfl<;>rfl)
 (try simp only [aE] at hC2)
 have hcc:cnd=false:=by simpa using hC2
 rw [hcc] at hcnd
 have hF2:F=(U1,a,w.drop i)∧U2=U1:=by
  by_cases hil:i < w.length
  ·have hd:rg (N.getD a []) x < 0:=by simpa [hil] using hcnd
   have hdr:w.drop i=x :: w.drop (i + 1):=by
    rw [List.drop_eq_getElem_cons hil,← hxe,List.getD_eq_getElem?_getD,List.getElem?_eq_getElem hil]; rfl
   refine ⟨?_,?_⟩
   ·rw [← q5,hdr]; unfold gE; rw [if_pos hd]
   rw [← hU2,if_pos hil]; unfold gi; rw [if_pos hd]
  refine ⟨?_,by rw [← hU2,if_neg hil]⟩
  rw [← q5,List.drop_eq_nil_of_le (by omega)]; rfl
 obtain ⟨hFe,hU21⟩:=hF2
 subst hFe hU21
 simp only at ho2 fs
 refine qj (qc (qc (qf (qa (qm (ql ?_))))))
 have hkN:N.length≤most:=hl
 refine aD (ι:=CS × Nat × Nat) (fun q=>TS 96 [(1,.int .i64 v1),(2,.list (il w)),(6,.int .i64 q.2.2),(7,.int .i64 q.2.1)] m most q.1) (fun q=>cw m q.1∧q.1.1.length≤most∧N.length≤q.1.1.length∧q.2.1 < q.1.1.length∧rV q.1.2 q.2.1=q.2.1∧q.2.2≤w.length∧(kT m most (w.drop q.2.2) q.1 q.2.1).map (fun q=>zA m w v1 q.1 q.2.1 q.2.2)=o∧(q.2.2=w.length→q=((N,U2),a,i))) (fun q=>w.length - q.2.2) ((N,U2),a,i) ⟨q1,hl,Nat.le_refl _,q2,q3,q4,ho2,fun _=>rfl⟩ (List.range (N.length + 4)) (rn rfl rfl rfl (fun p hp=>by
   simp only [List.mem_cons,List.not_mem_nil,or_false] at hp
   rcases hp with rfl | rfl | rfl | rfl<;>rfl)) fun q hq=>?_
 obtain ⟨t,b,j⟩:=q
 obtain ⟨t1,t2,t3,t4,t5,t6,t7,t8⟩:=hq
 simp only at t1 t2 t3 t4 t5 t6 t7 t8
 show Holds _ _ _ (TS 96 [(1,.int .i64 v1),(2,.list (il w)),(6,.int .i64 j),(7,.int .i64 b)] m most t)
 unfold TS
 simp only [List.map_cons,List.map_nil]
 refine qm (qm ?_)
 refine ab fun K hK=>aa ae ?_
 simp only [an,fl,gp,ak,simprocAttr]
 refine af ?_ (hK _ ?_)<;>clear hK K
 ·first|exact trivial|omega|(simp only [ah] at *; omega)|(simp [ah] at *; omega)|simp_all
 refine qa ?_
 refine aq rfl (fun hC3=>?_) (fun hC3=>?_)
 ·(try simp only [aE] at hC3)
  have hjl:j + 1 < w.length:=by omega
  obtain ⟨x,y,r,hdr,hxe⟩:∃ x y r,w.drop j=x :: y :: r∧w.getD j 0=x:=by
   refine ⟨w[j],w[j + 1],w.drop (j + 2),?_,?_⟩
   ·rw [List.drop_eq_getElem_cons (by omega),List.drop_eq_getElem_cons hjl]
   rw [List.getD_eq_getElem?_getD,List.getElem?_eq_getElem (by omega)]; rfl
  have hxl:=hw x (by rw [← hxe,List.getD_eq_getElem?_getD,List.getElem?_eq_getElem (show j < w.length by omega)]; exact List.getElem_mem _)
  have hjil:(il w).getD j default = .int .i64 x:=by rw [← hxe]; exact aL (by omega)
  rcases Nat.lt_or_ge t.1.length most with hmx | hmx
  rotate_left
  ·have ho3:o=none:=by
    rw [← t7,hdr]; unfold kT; rw [if_neg (by omega)]; rfl
   subst ho3
   repeat (first|refine qa ?_|refine qb ?_|refine qc ?_|refine qd ?_|refine qe ?_|refine qf ?_|refine qg rfl ?_|refine qh ?_|refine qi ?_|refine qj ?_|refine qk ?_|refine ql ?_|refine qm ?_)
   refine sF (t:=72) 1 (qC fun K hK=>?_)
   simp only [List.take_succ_cons,List.take_zero]
   refine aa ae ?_
   simp only [an,fl,gp,ak,simprocAttr]
   refine af trivial (hK _ ?_)<;>clear hK K
   exact ⟨_,_,rfl,rfl,By (H0:=CB m most (2 * m) t.1 t.2) (X:=[.bf 0 0]) rfl (ve t1.wr.len (by omega) (by omega)) rfl rfl rfl (by rw [aK]; simp [bj,bn]) dm (by rw [aK]; omega) eV wa,fun ch hch=>⟨ch,rfl,hch⟩⟩
  refine qh (qa (qm (ql (qm ?_))))
  refine ab fun K hK=>aa ae ?_
  simp only [an,fl,gp,ak,simprocAttr]
  refine ao ?_ (jB (H0:=CB m most (2 * m) t.1 t.2) (X:=[.bf 0 0]) (pZ hm t1.wr.len (by omega) (by omega)) rfl rfl rfl rfl (by rw [aK]; simp [bj,bn]) dm sd (by simp only [ay,Nat.reduceLT]) (aa ae ?_))
  ·exact trivial
  simp only [an,fl,gp,ak,simprocAttr]
  refine af trivial (hK _ ?_)<;>clear hK K
  refine qa (qm ?_)
  refine Hu [(1,.int .i64 v1),(2,.list (il w)),(6,.int .i64 j),(7,.int .i64 b),(8,.int .i64 (t.1.length:Nat))] t (br m t) rfl rfl rfl (fun p hp=>by
    simp only [List.mem_cons,List.not_mem_nil,or_false] at hp
    rcases hp with rfl | rfl | rfl | rfl | rfl<;>rfl) ?_
  unfold TS
  simp only [List.map_cons,List.map_nil]
  obtain ⟨T,hT⟩:∃ T,T=cJ m (br m t).1 (br m t).2 b x t.1.length:=⟨_,rfl⟩
  obtain ⟨u1,u2,u3,u4,u5,u6,u7,u8,u9⟩:=l9 (by omega) t1 t4 hxl hT
  refine ab fun K hK=>aa ae ?_
  simp only [an,fl,gp,ak,simprocAttr,hjil,Int.toNat_natCast,Int.ofNat_eq_natCast]
  refine ao ?_ (gI (H0:=CB m most (2 * m) (br m t).1 (br m t).2) (X:=[.bf 0 0]) (xp hm u1.wr (by omega) (a:=b) (b:=t.1.length) (x:=x) (by omega) (by omega) hxl) rfl rfl rfl rfl (by rw [aK]; simp [bj,bn]) dm eV (lj (by rw [← hT,u4,u2])) (by simp only [ay,Nat.reduceLT]) (aa ae ?_))
  ·first|omega|(simp; omega)
  rw [← hT]
  simp only [an,fl,gp,ak,simprocAttr]
  refine af trivial (hK _ ?_)<;>clear hK K
  refine qa ?_
  refine ab fun K hK=>aa ae ?_
  simp only [an,fl,gp,ak,simprocAttr]
  refine ao ?_ (dT (N:=T.1) (U:=T.2) (X:=[.bf 0 0]) u3.wr (by omega) (v:=t.1.length) (by omega) rfl rfl rfl rfl (by simp only [ay,Nat.reduceLT]) (aa ae ?_))
  ·exact trivial
  simp only [an,fl,gp,ak,simprocAttr]
  refine af trivial (hK _ ?_)<;>clear hK K
  refine qd (qa ?_)
  refine ab fun K hK=>aa ae ?_
  simp only [an,fl,gp,ak,simprocAttr]
  refine af ?_ (hK _ ?_)<;>clear hK K
  ·first|exact trivial|omega|(simp only [ah] at *; omega)|(simp [ah] at *; omega)|simp_all
  refine qa ?_
  have hdr1:w.drop (j + 1)=y :: r:=by
   have:=congrArg (List.drop 1) hdr
   simpa [List.drop_drop] using this
  have t9:(kT m most (w.drop (j + 1)) (T.1,aT T.2 t.1.length) (dO T.2 t.1.length)).map (fun q=>zA m w v1 q.1 q.2.1 q.2.2)=o:=by
   rw [hdr] at t7
   unfold kT at t7
   rw [if_pos hmx,← hT] at t7
   rw [hdr1]; exact t7
  refine ⟨((T.1,aT T.2 t.1.length),dO T.2 t.1.length,j + 1),List.range (T.1.length + 4),⟨u7,by simp only; omega,by simp only; omega,u5,u6,by simp only; omega,t9,fun e=>by simp only at e; omega⟩,by simp only; omega,?_⟩
  show Le _ (TS 96 [(1,.int .i64 v1),(2,.list (il w)),(6,.int .i64 ((j + 1:Nat):Int)),(7,.int .i64 (dO T.2 t.1.length:Nat))] m most (T.1,aT T.2 t.1.length)) _
  exact rn rfl rfl rfl (fun p hp=>by
    simp only [List.mem_cons,List.not_mem_nil,or_false] at hp
    rcases hp with rfl | rfl | rfl | rfl<;>rfl)
 (try simp only [aE] at hC3)
 have hjw:w.length≤j + 1:=by omega
 have hwl0:0 < w.length:=List.length_pos_iff.2 hne
 refine qj (qc (qc (qf (qa (qm (qm ?_))))))
 refine ab fun K hK=>aa ae ?_
 simp only [an,fl,gp,ak,simprocAttr]
 refine af ?_ (hK _ ?_)<;>clear hK K
 ·first|exact trivial|omega|(simp only [ah] at *; omega)|(simp [ah] at *; omega)|simp_all
 refine qa ?_
 refine aq rfl (fun hC4=>?_) (fun hC4=>?_)
 ·(try simp only [aE] at hC4)
  have hj1:j + 1=w.length:=by omega
  obtain ⟨x,hxe⟩:∃ x,w.getD j 0=x:=⟨_,rfl⟩
  have hdr:w.drop j=[x]:=by
   rw [List.drop_eq_getElem_cons (by omega),List.drop_eq_nil_of_le (by omega),← hxe,List.getD_eq_getElem?_getD,List.getElem?_eq_getElem (by omega)]; rfl
  have hxl:=hw x (by rw [← hxe,List.getD_eq_getElem?_getD,List.getElem?_eq_getElem (show j < w.length by omega)]; exact List.getElem_mem _)
  have hjil:(il w).getD j default = .int .i64 x:=by rw [← hxe]; exact aL (by omega)
  obtain ⟨tt,htt⟩:∃ tt:CS,tt=cJ m t.1 t.2 b x v1:=⟨_,rfl⟩
  have ho3:o=some tt:=by
   rw [← t7,hdr,htt]; rfl
  subst ho3
  refine qm ?_
  refine ab fun K hK=>aa ae ?_
  simp only [an,fl,gp,ak,simprocAttr,hjil,Int.toNat_natCast,Int.ofNat_eq_natCast]
  refine ao ?_ (gI (H0:=CB m most (2 * m) t.1 t.2) (X:=[.bf 0 0]) (xp hm t1.wr (by omega) (a:=b) (b:=v1) (x:=x) t4 (by omega) hxl) rfl rfl rfl rfl (by rw [aK]; simp [bj,bn]) dm eV (lj (ec (by omega) t1 t4 (by omega) hxl).2.1) (by simp only [ay,Nat.reduceLT]) (aa ae ?_))
  ·first|omega|(simp; omega)
  rw [← htt]
  simp only [an,fl,gp,ak,simprocAttr]
  refine af trivial (hK _ ?_)<;>clear hK K
  refine qa (qk (qb ?_))
  skip
  simp only [Option.map_some,uL]
  simp only [Tryd.results54,eR,gq,dk,kR,bY,an,fl,gp,ak,simprocAttr]
  exact ⟨List.range (tt.1.length + 4),rfl,rfl,yk rfl rfl⟩
 (try simp only [aE] at hC4)
 have hj1:j=w.length:=by omega
 obtain ⟨e1,e2⟩:=Prod.mk.inj (t8 hj1)
 obtain ⟨e3,e4⟩:=Prod.mk.inj e2
 subst e1 e3 e4
 obtain ⟨fs1,fs2,fs3,fs4,p,fs5,fs6⟩:=fs
 have hdn:w.drop j=[]:=List.drop_eq_nil_of_le (by omega)
 rw [hdn] at fs5 t7
 rw [List.append_nil] at fs5
 subst fs5
 have pq:=(eA (N:=N) g1.wr (by omega) (U':=U2) fs2).oo (w:=w) (u:=v1) (v:=b) hv1l t4 fs6
 obtain ⟨c1,c2,c3,c4,c5,c6,c7,c8,z,c9,c10,c11,c12,_⟩:=s8 (by omega) t1 hw hne (v:=v1) hv1l t4 t5 pq
 simp only at c1 c2 c3 c4 c5 c6 c8 c9 c10 c11 c12
 have ho4:o=some (zA m w v1 (N,U2) b []):=by rw [← t7]; rfl
 refine qh (qa (qm ?_))
 refine ab fun K hK=>aa ae ?_
 simp only [an,fl,gp,ak,simprocAttr]
 refine ao ?_ (dT (N:=N) (U:=U2) (X:=[.bf 0 0]) t1.wr hk8 (v:=b) t4 rfl rfl rfl rfl (by simp only [ay,Nat.reduceLT]) (aa ae ?_))
 ·exact trivial
 rw [c1]
 simp only [an,fl,gp,ak,simprocAttr]
 refine af trivial (hK _ ?_)<;>clear hK K
 refine qa (qm ?_)
 refine ab fun K hK=>aa ae ?_
 simp only [an,fl,gp,ak,simprocAttr]
 refine ao ?_ (dT (N:=N) (U:=aT U2 b) (X:=[.bf 0 0]) c2.wr hk8 (v:=v1) hv1l rfl rfl rfl rfl (by simp only [ay,Nat.reduceLT]) (aa ae ?_))
 ·exact trivial
 simp only [an,fl,gp,ak,simprocAttr]
 refine af trivial (hK _ ?_)<;>clear hK K
 refine qa ?_
 refine aq rfl (fun hC5=>?_) (fun hC5=>?_)
 ·(try simp only [aE] at hC5)
  have hne2:¬ b=dO (aT U2 b) v1:=by
   intro e; rw [← e] at hC5; simp at hC5
  obtain ⟨x,hx⟩:∃ x,w.getLastD 0=x:=⟨_,rfl⟩
  obtain ⟨tt,htt⟩:∃ tt:CS,tt=cJ m N (gi N (aT (aT U2 b) v1) b (-x)) z x v1:=⟨_,rfl⟩
  have ho5:o=some tt:=by
   rw [ho4]
   unfold zA
   simp only [c1]
   rw [if_neg hne2,hx]
   rw [hx] at c9
   rw [c9,Int.toNat_natCast,htt]
  subst ho5
  rw [hx] at c7 c8 c9 c11
  obtain ⟨l1,hl1⟩:∃ l,w.length=l + 1:=⟨w.length - 1,by omega⟩
  have hlen:(w.length:Int) - 1=(l1:Int):=by omega
  have hll:(il w).getD l1 default = .int .i64 x:=by
   rw [aL (by omega),← hx]
   congr 1
   rw [List.getLastD_eq_getLast?,List.getLast?_eq_getElem?,hl1,Nat.add_sub_cancel,List.getD_eq_getElem?_getD]
  have hag3:=pf c3 t4 c5
  simp only at hag3
  have hwI:w.length≤1000000:=hwl
  refine qm ?_
  refine ab fun K hK=>aa ae ?_
  simp only [an,fl,gp,ak,simprocAttr,hlen,hll,Int.toNat_natCast,Int.ofNat_eq_natCast]
  refine af ?_ (hK _ ?_)<;>clear hK K
  ·first|omega|(simp; omega)|(simp only [ah]; simp; omega)
  refine qa ?_
  refine ab fun K hK=>aa ae ?_
  simp only [an,fl,gp,ak,simprocAttr]
  refine ao ?_ (mj (N:=N) (U:=aT (aT U2 b) v1) (X:=[.bf 0 0]) hm c3.wr hk8 (v:=b) t4 hag3 (x:=-x) ⟨by omega,by omega,by omega⟩ rfl rfl rfl rfl (by simp only [ay,Nat.reduceLT]) (aa ae ?_))
  ·first|omega|(simp only [ah]; omega)
  rw [c9]
  simp only [an,fl,gp,ak,simprocAttr]
  refine ao ?_ (gI (H0:=CB m most (2 * m) N (gi N (aT (aT U2 b) v1) b (-x))) (X:=[.bf 0 0]) (xp hm c11.wr hk8 (a:=z) (b:=v1) (x:=x) c10 hv1l c7) rfl rfl rfl rfl (by rw [aK]; simp [bj,bn]) dm eV (lj (ec (by omega) c11 c10 hv1l c7).2.1) (by simp only [ay,Nat.reduceLT]) (aa ae ?_))
  ·exact trivial
  rw [← htt]
  simp only [an,fl,gp,ak,simprocAttr]
  refine af trivial (hK _ ?_)<;>clear hK K
  skip
  simp only [Option.map_some,uL]
  simp only [Tryd.results54,eR,gq,dk,kR,bY,an,fl,gp,ak,simprocAttr]
  exact ⟨List.range (tt.1.length + 4),rfl,rfl,yk rfl rfl⟩
 (try simp only [aE] at hC5)
 have he2:b=dO (aT U2 b) v1:=by omega
 obtain ⟨tt,htt⟩:∃ tt:CS,tt=(N,aT (aT U2 b) v1):=⟨_,rfl⟩
 have ho5:o=some tt:=by
  rw [ho4]
  unfold zA
  simp only [c1]
  rw [if_pos he2,htt]
 subst ho5
 have hHt:CB m most (2 * m) N (aT (aT U2 b) v1)=CB m most (2 * m) tt.1 tt.2:=by rw [htt]
 rw [hHt]
 refine qh ?_
 skip
 simp only [Option.map_some,uL]
 simp only [Tryd.results54,eR,gq,dk,kR,bY,an,fl,gp,ak,simprocAttr]
 exact ⟨List.range (tt.1.length + 4),rfl,rfl,yk rfl rfl⟩
end
end Go.Proofs.YtpobnnfkeekiaaaDoor.Pr
namespace Go.Pv
open Go.RowKit
section
variable {P:Program} {T:TypeId→Option TI} {C:Ctx} {m:Map} {s:St} {tmps:Array Value} {w:World} {t:TypeId}
theorem Rel.Ey (R:Rel C m s tmps w) (h:∀ (k i j:Nat),s.H[k]? ≠ some (.bf i j)) (f:Nat→Option Loc):Rel ⟨C.okA,C.B,C.w0,f⟩ m s tmps w:=
 ⟨R.laid,R.below,R.base,R.size,R.inj,R.blk,R.fro,R.slot,R.mp.1,R.mp.2.1,fun k i j hk=>absurd hk (h k i j),R.mp.2.2.2⟩
theorem Rel.frame (R:Rel C m s tmps w) {n:Nat} {sl:List (Nat × AV)} {tmps' : Array Value} (hn:tmps'.size=n) (h:∀ t,aG (Reads (OK C m s.H w) w) m s.H (lk sl t) (tmps'.getD t undef)):Rel C m ⟨n,sl,s.H⟩ tmps' w:=
 ⟨R.laid,R.below,R.base,hn,R.inj,R.blk,R.fro,h,R.mp⟩
def An (t:TypeId) (cell:Nat) (c0:AV):Option az→Exit→St→Prop
 | some Hf=>fun e s=>(e = .normal∨e = .ret)∧∃ π,Le π ⟨s.n,[(cell,.ptr 0 0)],Hf++aR 0 1⟩ s
 | none=>fun e s=>∃ ch,e = .panic ch∧eZ t ch∧∃ π,Le π ⟨s.n,[(cell,.ptr 0 0)],[.own [.dead]]++aR 0 1⟩ s
theorem sP {H:az} : (H++aR 0 1)[H.length]? = some (.bf 0 0):=by
 rw [List.getElem?_append_right (Nat.le_refl _),Nat.sub_self]; rfl
theorem Rel.after {m' : Map} {n cell:Nat} {H H' : az} {tmps' : Array Value} {w' : World} {s' : St} (R:Rel C m ⟨n,[(cell,.ptr 0 0)],H++aR 0 1⟩ tmps w) (R' : Rel C m' s' tmps' w') (hs:s'.H=H'++aR 0 1) (hH:0 < H'.length) :
  Rel C m' ⟨n,[(cell,.ptr 0 0)],H'++aR 0 1⟩ tmps w':=by
 rw [← hs]
 refine R'.frame R.size fun t=>?_
 by_cases h:cell=t
 ·subst h
  have h1:=R.slot cell
  have e:lk [(cell,AV.ptr 0 0)] cell = .ptr 0 0:=by simp [lk]
  unfold St.get at h1
  simp only at h1
  rw [e] at h1 ⊢
  cases h1 with
  | ptr _ _ _ hk hp =>
   obtain ⟨l,h2,h3⟩:=hp
   have a1:=(R.mp.2.2.1 _ 0 0 (by simpa using sP (H:=H))).2
   have a2:=(R'.mp.2.2.1 _ 0 0 (by rw [hs]; exact sP)).2
   exact .ptr 0 0 _ (by rw [hs]; simp; omega) ⟨l,by rw [a2,← a1,h2],h3⟩
 have e:lk [(cell,AV.ptr 0 0)] t = .dead:=by simp [lk,show (cell == t)=false by simpa using h]
 rw [e]
 exact .dead _
theorem Rel.Bi {n:Nat} {sl:List (Nat × AV)} {H:az} (f:Nat→Option Loc) (R:Rel ⟨C.okA,C.B,C.w0,f⟩ m ⟨n,sl,H++aR 0 1⟩ tmps w) (hH:H.all (bD H.length)=true) (hna:H.all cf=true) (r:AV) (hr:bj H.length r=true) (v:Value)
  (hv:aG (Reads (OK C m (H++aR 0 1) w) w) m (H++aR 0 1) r v):∃ m',Rel C m' ⟨1,[(0,r)],H⟩ #[v] w:=by
 have R1:Rel ⟨C.okA,C.B,C.w0,f⟩ m ⟨1,[(0,r)],H++aR 0 1⟩ #[v] w:=R.frame rfl fun t=>by
  cases t with
  | zero=>exact hv
  | succ t=>exact .dead _
 have hle:Le (List.range H.length) ⟨1,[(0,r)],H⟩ ⟨1,[(0,r)],H++aR 0 1⟩:=⟨rfl,List.nodup_range,kM (fun b hb=>(List.all_eq_true.1 hH) b hb),⟨(fO hr).symm,by rw [List.length_range]; exact hr,trivial⟩⟩
 have R2:=R1.weaken hle
 have R3:=R2.Ey (fun k i j h=>absurd rfl (fB ((List.all_eq_true.1 hna) _ (List.mem_of_getElem? h)) i j)) C.bf
 exact ⟨_,R3⟩
theorem G3 (hT:∀ t ti,T t=some ti→bk P t=some ti) {f g:FuncId} {fn gn:Func} {cell x ty ty1 ty2 id:Nat} {p1 p2:String} {e1 e2:Array Edge} {R0 rest:Code} {args:List AV} {c0 nilv r:AV} {o:Option az} {Hr:az}
  (hf:P.funcs[f]? = some fn) (hb:fn.body=some (.seq R0 (.seq (.region id #[{ dst:=some x,op:=.makeFunc (.func g) #[] #[.tmp cell],type:=ty1,pos:=p1,after:=e1,guard:=.none },{ dst:=.none,op:=.defer { callee:=.value (.tmp x),args:=#[],argTypes:=#[] },type:=ty2,pos:=p2,after:=e2,guard:=.none }] false) rest)))
  (hres:fn.results = #[.cell cell ty]) (hnm:(fn.name == "runtime.NumGoroutine")=false) (hn:args.length≤fn.ntmps) (hx:x < fn.ntmps) (hc:cell < fn.ntmps) (hxc:x ≠ cell)
  (hgn:P.funcs[g]? = some gn) (hgm:(gn.name == "runtime.NumGoroutine")=false) (hgb:gn.body.isNone=false)
  (h0:Holds P R0 (fun e s'=>e = .normal∧s' = ⟨fn.ntmps,(cell,.ptr 0 0) :: cK 0 args,[.own [c0]]⟩) ⟨fn.ntmps,cK 0 args,[]⟩)
  (h2:Holds P rest (An t cell c0 o) ⟨fn.ntmps,(x,.dead) :: (cell,.ptr 0 0) :: cK 0 args,[.own [c0],.bf 0 0]⟩)
  (hHr:Hr=o.getD [.own [nilv]]) (hd1:∀ Hf,o=some Hf→∀ (C:Ctx) (m:Map) (w:World) (v:Value),Rel C m ⟨1,[(0,.ptr 0 0)],Hf++aR 0 1⟩ #[v] w →
   CallsD P g #[v] .returning w fun e u' w'=>∃ vv m' s' tm,e = .returned vv∧u' = .returning∧s'.H=Hf++aR 0 1∧Rel C m' s' tm w')
  (hd2:∀ (C:Ctx) (m:Map) (w:World) (v:Value) ch,eZ t ch→Rel C m ⟨1,[(0,.ptr 0 0)],[.own [.dead]]++aR 0 1⟩ #[v] w →
   CallsD P g #[v] (.panicking ch) w fun e u' w'=>∃ vv m' s' tm,e = .returned vv∧settle u' = .returning∧s'.H=[.own [nilv]]++aR 0 1∧Rel C m' s' tm w')
  (hrv:∀ n,∃ p,dk T ⟨n,[(cell,.ptr 0 0)],Hr++aR 0 1⟩ [.cell cell ty]=some (p,[r])∧p)
  (hH1:Hr.all (bD Hr.length)=true) (hH2:Hr.all cf=true) (hH3:0 < Hr.length) (hr:bj Hr.length r=true):Ee P 0 f args [] r Hr:=by
 refine ⟨⟨fn,hf,hnm,by rw [hb]; rfl⟩,fun C m w vals R0'=>calls_of_wp_defers hf hb ?_⟩
 have hsz:vals.size=args.length:=R0'.size
 have RA:Rel C m ⟨fn.ntmps,cK 0 args,[]⟩ (vals++Array.replicate (fn.ntmps - vals.size) undef) w:=by
  refine ⟨R0'.laid,R0'.below,R0'.base,by simp; omega,R0'.inj,R0'.blk,R0'.fro,fun t=>?_,R0'.mp⟩
  have hs:=R0'.slot t
  by_cases ht:t < vals.size
  ·rw [Array.getD_eq_getD_getElem?,Array.getElem?_append_left ht,← Array.getD_eq_getD_getElem?]
   exact hs
  have e:lk (cK 0 args) t = .dead:=by
   rw [gR,if_pos (Nat.zero_le _),List.getD_eq_getElem?_getD,List.getElem?_eq_none (by omega)]; rfl
  unfold St.get
  simp only
  rw [e]
  exact .dead _
 refine wp_seq (wp_mono (fq.1 (h0 Option.none [] _ _ { tmps:=vals++Array.replicate (fn.ntmps - vals.size) undef,defers:=[] } w RA rfl)) fun e a1 w1 ⟨s1,m1,⟨he,hs1⟩,R1,hd0⟩=>?_)
 subst he hs1
 refine wp_seq (wp_region_lit (l:=[_,_]) ?_)
 have hcl:(lk ((cell,AV.ptr 0 0) :: cK 0 args) cell) = .ptr 0 0:=by simp [lk]
 have hv:=R1.slot cell
 unfold St.get at hv
 simp only at hv
 rw [hcl] at hv
 obtain ⟨l,hl1,hl2⟩:∃ l,m1 0=some l∧a1.tmps.getD cell undef = .pointer (some ⟨l.g,l.o + 0,Option.none⟩):=by
  cases hv with
  | ptr _ _ _ hk hp=>exact hp
 generalize hvd:a1.tmps.getD cell undef=v at hl2 hv
 have hev:a1.eval (.tmp cell)=v:=hvd
 have hm1:(execOp a1.eval { dst:=some x,op:=.makeFunc (.func g) #[] #[.tmp cell],type:=ty1,pos:=p1,after:=e1,guard:=.none }).run P w1 = .ok (.value (.func (.func g) #[] #[v])) w1:=by
  simp [execOp,Instr.makeFunc,hev]
 refine wpList_plain rfl fun K hK=>?_
 unfold Oper.wp
 rw [hm1]
 simp only [Oper.upon]
 refine hK _ _ ?_
 have hsz1:a1.tmps.size=fn.ntmps:=R1.size
 have hev2:(a1.put (some x) (.func (.func g) #[] #[v])).eval (.tmp x) = .func (.func g) #[] #[v]:=bI (by omega)
 have hm2:(execOp (a1.put (some x) (.func (.func g) #[] #[v])).eval { dst:=.none,op:=.defer { callee:=.value (.tmp x),args:=#[],argTypes:=#[] },type:=ty2,pos:=p2,after:=e2,guard:=.none }).run P w1 = .ok (.defer { target:=.fn (.func g) #[v],args:=#[] }) w1:=by
  simp [execOp,resolve,hev2,Deferred.ofValue]
 refine wpList_plain rfl fun K hK=>?_
 unfold Oper.wp
 rw [hm2]
 simp only [Oper.upon]
 refine hK _ _ (wpList_nil ?_)
 have hdf:(a1.put (some x) (.func (.func g) #[] #[v])).defers=[]:=by rw [put_defers]; exact hd0
 have RB:Rel ⟨C.okA,C.B,C.w0,fun _=>m1 0⟩ m1 ⟨fn.ntmps,(x,.dead) :: (cell,.ptr 0 0) :: cK 0 args,[.own [c0],.bf 0 0]⟩ (a1.put (some x) (.func (.func g) #[] #[v])).tmps w1:=by
  have h1:=(R1.put (d:=some x) (v:=.func (.func g) #[] #[v]) (x:=.dead) (fun t h=>by cases h; exact hx) (.dead _)).Ey (fun k i j h=>by
   cases k with
   | zero=>simp [St.put] at h
   | succ k=>simp [St.put] at h) (fun _=>m1 0)
  exact h1.tx (n:=1) (by simp [St.put]) fun i hi=>by
   obtain rfl:i=0:=by omega
   rfl
 have hrest:=fq.1 (h2 Option.none [{ target:=.fn (.func g) #[v],args:=#[] }] _ _ { (a1.put (some x) (.func (.func g) #[] #[v])) with defers:={ target:=.fn (.func g) #[v],args:=#[] } :: (a1.put (some x) (.func (.func g) #[] #[v])).defers } w1 RB (by rw [hdf]))
 refine wp_mono hrest fun e a2 w2 ⟨s2,m2,hP,R2,hd2'⟩=>?_
 have hinv:∀ w:World,(invoke (.fn (.func g) #[v]) #[]).run P w = .ok (.enter g #[v]) w:=by
  intro w
  have hnm' : ¬ gn.name = "runtime.NumGoroutine":=by simpa using hgm
  have hbd' : ¬ gn.body = .none:=by intro e; rw [e] at hgb; simp at hgb
  simp [invoke,callFunc,hgn,hnm',hbd']
 have fini:∀ (m3:Map) (n:Nat) (tm:Array Value) (w3:World),Rel ⟨C.okA,C.B,C.w0,fun _=>m1 0⟩ m3 ⟨n,[(cell,.ptr 0 0)],Hr++aR 0 1⟩ tm w3→Leaves P fn tm (fun e w'=>∃ v m',e = .returned v∧Rel C m' ⟨1,[(0,r)],Hr++aR 0 0⟩ #[v] w') [] .returning w3:=by
  intro m3 n tm w3 R3
  obtain ⟨p,hp1,hp2⟩:=hrv n
  obtain ⟨vs,k1,k2,k3⟩:=iK hT (a:=⟨tm,[]⟩) R3 [.cell cell ty] hp1 hp2
  have hv1:=k3 0 (by simp)
  obtain ⟨vv,rfl⟩:∃ vv,vs=[vv]:=by
   cases vs with
   | nil=>simp at k2
   | cons a b =>
    cases b with
    | nil=>exact ⟨a,rfl⟩
    | cons _ _=>simp at k2
  refine ⟨vv,?_,vv,?_⟩
  ·rw [eh,hres,Array.mapM_eq_mapM_toList]
   simp only [Sem.run_bind,Sem.run_map]
   rw [k1]
   simp only [Result.andThen_ok]
   rfl
  obtain ⟨m',R4⟩:=R3.Bi _ hH1 hH2 r hr vv hv1
  refine ⟨m',rfl,?_⟩
  have:Hr++aR 0 0=Hr:=by simp [aR]
  rw [this]
  exact R4
 have A3:∀ (m3:Map) (n:Nat) (H:az) (tm:Array Value) (w3:World),0 < H.length→Rel ⟨C.okA,C.B,C.w0,fun _=>m1 0⟩ m3 ⟨n,[(cell,.ptr 0 0)],H++aR 0 1⟩ tm w3→Rel ⟨C.okA,C.B,C.w0,fun _=>m1 0⟩ m3 ⟨1,[(0,.ptr 0 0)],H++aR 0 1⟩ #[v] w3:=by
  intro m3 n H tm w3 hH R3
  refine R3.frame rfl fun t=>?_
  cases t with
  | zero =>
   have a1:=(R3.mp.2.2.1 _ 0 0 sP).2
   exact .ptr 0 0 _ (by simp; omega) ⟨l,by rw [a1]; exact hl1,hl2⟩
  | succ t=>exact .dead _
 cases ho:o with
 | some Hf =>
  rw [ho] at hP hHr
  simp only [Option.getD_some] at hHr
  subst hHr
  obtain ⟨he,π,hle⟩:=hP
  have R3:=R2.weaken hle
  have goal:Leaves P fn a2.tmps (fun e w'=>∃ v m',e = .returned v∧Rel C m' ⟨1,[(0,r)],Hr++aR 0 0⟩ #[v] w') a2.defers .returning w2:=by
   rw [hd2']
   refine leaves_cons (by simp) (hinv w2) ((hd1 _ ho _ _ _ v (A3 _ _ _ _ _ hH3 R3)).mono fun e u' w' ⟨vv,m',s',tm,h1,h3,h4,R4⟩=>?_)
   subst h1 h3
   exact fini _ _ _ _ (R3.after R4 h4 hH3)
  rcases he with rfl | rfl
  ·exact goal
  exact goal
 | none =>
  rw [ho] at hP hHr
  simp only [Option.getD_none] at hHr
  subst hHr
  obtain ⟨ch,he,hch,π,hle⟩:=hP
  subst he
  have R3:=R2.weaken hle
  show Leaves P fn a2.tmps _ a2.defers (.panicking ch) w2
  rw [hd2']
  refine leaves_cons (by simp) (hinv w2) ((hd2 _ _ _ v ch hch (A3 _ _ _ _ _ (by simp) R3)).mono fun e u' w' ⟨vv,m',s',tm,h1,h3,h4,R4⟩=>?_)
  subst h1
  simp only [h3]
  exact fini _ _ _ _ (R3.after R4 h4 hH3)
end
end Go.Pv
namespace Go.Proofs.YtpobnnfkeekiaaaDoor.Pr
open Go.Pv
theorem Ew:∃ ms,Tryd.prog.underlying 20=some (.interface ms):=by
 have h:(match Tryd.prog.underlying 20 with | some (.interface _)=>true | _=>false)=true:=by kernel_rfl
 split at h
 ·rename_i ms e; exact ⟨ms,e⟩
 cases h
theorem GJ:∃ fs,Tryd.prog.underlying 72=some (.struct fs):=by
 have h:(match Tryd.prog.underlying 72 with | some (.struct _)=>true | _=>false)=true:=by kernel_rfl
 split at h
 ·rename_i ms e; exact ⟨ms,e⟩
 cases h
theorem I1 (d:Nat) (w:World):(Op.equalIn (d + 1) 20 .nilIface .nilIface).run Tryd.prog w = .ok true w:=by
 obtain ⟨ms,h⟩:=Ew
 simp [Op.equalIn,run_underlying h]
theorem IX (d:Nat) (w:World) (v:Value):(Op.equalIn (d + 1) 20 (.iface 72 v) .nilIface).run Tryd.prog w = .ok false w:=by
 obtain ⟨ms,h⟩:=Ew
 simp [Op.equalIn,run_underlying h]
theorem I7 (w:World):(do eqGuard BinOp.eql 20 (.tmp 4) (.const .nilIface) .nilIface .nilIface; binOp BinOp.eql 20 .nilIface .nilIface:Sem Value).run Tryd.prog w = .ok (.bool true) w:=by
 have h:(Op.equal 20 .nilIface .nilIface).run Tryd.prog w = .ok true w:=I1 9999 w
 simp [eqGuard,binOp,h]
theorem I8 (w:World) (v:Value):(do eqGuard BinOp.eql 20 (.tmp 4) (.const .nilIface) (.iface 72 v) .nilIface; binOp BinOp.eql 20 (.iface 72 v) .nilIface:Sem Value).run Tryd.prog w = .ok (.bool false) w:=by
 have h:(Op.equal 20 (.iface 72 v) .nilIface).run Tryd.prog w = .ok false w:=IX 9999 w v
 simp [eqGuard,binOp,h]
theorem Jd (w:World) (v:Value):(Instr.typeAssert (.iface 72 v) 20 72 true).run Tryd.prog w = .ok (.tuple #[v,.bool true]) w:=by
 obtain ⟨fs,h⟩:=GJ
 simp [Instr.typeAssert,run_underlying h]
theorem nZ {P:Program} {Q:Exit→Act→List Frame→World→Prop} {a:Act} {cs:List Frame} {w:World} {id:Nat} {o:Oper} (hg:o.guard=none) (hr:(execOp a.eval o).run P w = .ok .recover w)
  (h:match recoverD cs with | some (v,cs')=>Q .normal (a.put o.dst v) cs' w | none=>Q .normal (a.put o.dst .nilIface) cs w):(Code.region id #[o] false).wpS P Q a cs w:=by
 refine wpS_region ?_
 show wpOpsS P #[o] Q [0] a cs w
 unfold wpOpsS
 simp only [Region.wanted,hg,if_true,List.getElem?_toArray,List.getElem?_cons_zero,hr]
 cases hc:recoverD cs with
 | none=>rw [hc] at h; exact h
 | some x=>rw [hc] at h; exact h
set_option maxRecDepth 20000 in
theorem Es {H:az} (C:Ctx) (m:Map) (w:World) (v:Value) (R:Rel C m ⟨1,[(0,.ptr 0 0)],H++aR 0 1⟩ #[v] w) :
  CallsD Tryd.prog 52 #[v] .returning w fun e u' w'=>∃ vv m' s' tm,e = .returned vv∧u' = .returning∧s'.H=H++aR 0 1∧Rel C m' s' tm w':=by
 refine callsD_of_wpS Tryd.func52 rfl fun c₀ cs hu=>?_
 refine wpS_seq (nZ rfl (by rfl) ?_)
 have hrd:recoverD (c₀ :: cs)=none:=by simp [recoverD,hu]
 rw [hrd]
 change Code.wpS Tryd.prog _ _ _ _ _
 rw [Tryd.ntmps52]
 generalize ha1:Act.put _ (some 4) Value.nilIface=a1
 refine wpS_of_wp (wp_block (wp_seq (wp_region_lit (l:=[_]) (wpList_plain rfl fun K hK=>?_))))
 have he:a1.eval (.tmp 4) = .nilIface:=by rw [← ha1]; exact bI (by simp)
 have hsz:a1.tmps.size=10:=by rw [← ha1]; simp [Act.put]
 have hdf:a1.defers=[]:=by rw [← ha1]; rfl
 have h1:(execOp a1.eval { dst:=some 6,op:=Op.binOp BinOp.eql 20 (Operand.tmp 4) (Operand.const Value.nilIface) 20,type:=4,pos:="pres.go:139",after:=#[],guard:=none }).run Tryd.prog w = .ok (.value (.bool true)) w:=by
  have:=I7 w
  simp only [execOp,he]
  show ((do eqGuard BinOp.eql 20 (.tmp 4) (.const .nilIface) .nilIface .nilIface; binOp BinOp.eql 20 .nilIface .nilIface:Sem Value) >>= fun x=>(pure (Next.value x):Sem Next)).run Tryd.prog w=_
  rw [Sem.run_bind,this]
  rfl
 unfold Oper.wp
 rw [h1]
 simp only [Oper.upon]
 refine hK _ _ (wpList_nil ?_)
 refine wp_cond_true (bI (by omega)) (wp_region_lit (l:=[_]) (wpList_plain rfl fun K2 hK2=>?_))
 have h2:∀ a:Act,(execOp a.eval { dst:=some 1,op:=Op.assign (Operand.tmp 4),type:=20,pos:="pres.go:139",after:=#[],guard:=none }).run Tryd.prog w = .ok (.value (a.eval (.tmp 4))) w:=fun a=>rfl
 unfold Oper.wp
 rw [h2]
 simp only [Oper.upon]
 refine hK2 _ _ (wpList_nil ?_)
 refine ⟨by rw [put_defers,put_defers]; exact hdf,.returning,by rw [← hu],.tuple #[],?_,.tuple #[],m,⟨1,[(0,.ptr 0 0)],H++aR 0 1⟩,#[v],rfl,rfl,rfl,R⟩
 rw [eh,Array.mapM_eq_mapM_toList,Tryd.results52]
 rfl
set_option maxRecDepth 20000 in
theorem B1 : Holds Tryd.prog (.seq (.region 6 #[{ dst := some 2, op := Op.alloc 72, type := 0, pos := "pres.go:139", after := #[], guard := none }, { dst := none, op := Op.store 72 (Operand.tmp 2) (Operand.tmp 9), type := 0, pos := "pres.go:139", after := #[{ on := 0, ground := Ground.data }, { on := 0, ground := Ground.phase }], guard := none }] false)
      (.region 7 #[{ dst := none, op := Op.store 65 (Operand.tmp 0) (Operand.const (Value.pointer none)), type := 0, pos := "pres.go:142", after := #[], guard := none }] false))
    (fun e s' => e = .normal ∧ s'.H = [.own [.p .np], .bf 0 0, .own []]) ⟨10, [(0, .ptr 0 0), (9, .p (.agg []))], [.own [.dead], .bf 0 0]⟩ := by
  repeat (first | refine qa ?_ | refine qb ?_ | refine qc ?_ | refine qd ?_ | refine qe ?_ | refine qf ?_ | refine qg rfl ?_ | refine qh ?_ | refine qi ?_ | refine qj ?_ | refine qk ?_ | refine ql ?_ | refine qm ?_)
  refine ab fun K hK => aa ae ?_
  simp only [an, fl, gp, ak, simprocAttr]
  refine af ?_ (hK _ ?_) <;> clear hK <;> clear K
  · trivial
  repeat (first | refine qa ?_ | refine qb ?_ | refine qc ?_ | refine qd ?_ | refine qe ?_ | refine qf ?_ | refine qg rfl ?_ | refine qh ?_ | refine qi ?_ | refine qj ?_ | refine qk ?_ | refine ql ?_ | refine qm ?_)
  refine ab fun K hK => aa ae ?_
  simp only [an, fl, gp, ak, simprocAttr]
  refine af ?_ (hK _ ?_) <;> clear hK <;> clear K
  · trivial
  exact ⟨rfl, rfl⟩
set_option maxRecDepth 20000 in
theorem CL (C:Ctx) (m:Map) (w:World) (v:Value) (ch:List PanicEntry) (hch:eZ 72 ch) (R:Rel C m ⟨1,[(0,.ptr 0 0)],[.own [.dead]]++aR 0 1⟩ #[v] w) :
  CallsD Tryd.prog 52 #[v] (.panicking ch) w fun e u' w'=>∃ vv m' s' tm,e = .returned vv∧settle u' = .returning∧s'.H=[.own [.p .np]]++aR 0 1∧Rel C m' s' tm w':=by
 unfold eZ at hch
 subst hch
 refine callsD_of_wpS Tryd.func52 rfl fun c₀ cs hu=>?_
 refine wpS_seq (nZ rfl (by rfl) ?_)
 have hrd:recoverD (c₀ :: cs)=some (.iface 72 (.agg #[]),{ c₀ with mode:=.panicking [{ v:=.iface 72 (.agg #[]),recovered:=true }] } :: cs):=by simp [recoverD,hu]
 rw [hrd]
 change Code.wpS Tryd.prog _ _ _ _ _
 rw [Tryd.ntmps52]
 generalize ha1:Act.put _ (some 4) _=a1
 refine wpS_of_wp (wp_block (wp_seq (wp_region_lit (l:=[_]) (wpList_plain rfl fun K hK=>?_))))
 have he:a1.eval (.tmp 4) = .iface 72 (.agg #[]):=by rw [← ha1]; exact bI (by simp)
 have hsz:a1.tmps.size=10:=by rw [← ha1]; simp [Act.put]
 have hdf:a1.defers=[]:=by rw [← ha1]; rfl
 have h0:a1.tmps.getD 0 undef=v:=by rw [← ha1]; simp [Act.put,Array.getD_eq_getD_getElem?]
 have h1:(execOp a1.eval { dst:=some 6,op:=Op.binOp BinOp.eql 20 (Operand.tmp 4) (Operand.const Value.nilIface) 20,type:=4,pos:="pres.go:139",after:=#[],guard:=none }).run Tryd.prog w = .ok (.value (.bool false)) w:=by
  have:=I8 w (.agg #[])
  simp only [execOp,he]
  show ((do eqGuard BinOp.eql 20 (.tmp 4) (.const .nilIface) (.iface 72 (.agg #[])) .nilIface; binOp BinOp.eql 20 (.iface 72 (.agg #[])) .nilIface:Sem Value) >>= fun x=>(pure (Next.value x):Sem Next)).run Tryd.prog w=_
  rw [Sem.run_bind,this]
  rfl
 unfold Oper.wp
 rw [h1]
 simp only [Oper.upon]
 refine hK _ _ (wpList_nil ?_)
 refine wp_cond_false (bI (by omega)) ?_
 have e0:∀ (a:Act) (d:Nat) (x:Value),d ≠ 0→(a.put (some d) x).tmps.getD 0 undef=a.tmps.getD 0 undef:=fun a d x hd=>by
  simp [Act.put,Array.getD_eq_getD_getElem?,Array.getElem?_setIfInBounds_ne hd]
 refine wp_seq (wp_region_lit (l:=[_,_,_]) (wpList_plain rfl fun K2 hK2=>?_))
 have h2:(execOp (a1.put (some 6) (.bool false)).eval { dst:=some 7,op:=Op.typeAssert (Operand.tmp 4) 20 72 true,type:=0,pos:="pres.go:139",after:=#[],guard:=none }).run Tryd.prog w = .ok (.value (.tuple #[.agg #[],.bool true])) w:=by
  simp only [execOp]
  rw [Act.eval_put (by intro d hd; cases hd; simp),he]
  simp only [Sem.run_bind,Jd,Result.andThen_ok]
  rfl
 unfold Oper.wp
 rw [h2]
 simp only [Oper.upon]
 refine hK2 _ _ (wpList_plain rfl fun K3 hK3=>?_)
 obtain ⟨a2,ha2⟩:∃ a2,(a1.put (some 6) (.bool false)).put (some 7) (.tuple #[.agg #[],.bool true])=a2:=⟨_,rfl⟩
 rw [ha2]
 have hs2:a2.tmps.size=10:=by rw [← ha2]; simp [Act.put,hsz]
 have hd2:a2.defers=[]:=by rw [← ha2,put_defers,put_defers]; exact hdf
 have h02:a2.tmps.getD 0 undef=v:=by rw [← ha2,e0 _ _ _ (by decide),e0 _ _ _ (by decide)]; exact h0
 have he2:a2.eval (.tmp 7) = .tuple #[.agg #[],.bool true]:=by rw [← ha2]; exact bI (by simp [Act.put,hsz])
 have h3:(execOp a2.eval { dst:=some 8,op:=Op.extract (Operand.tmp 7) 1,type:=4,pos:="pres.go:139",after:=#[{ on:=0,ground:=Ground.data }],guard:=none }).run Tryd.prog w = .ok (.value (.bool true)) w:=by
  simp only [execOp,he2]
  rfl
 unfold Oper.wp
 rw [h3]
 simp only [Oper.upon]
 refine hK3 _ _ (wpList_plain rfl fun K4 hK4=>?_)
 have he3:(a2.put (some 8) (.bool true)).eval (.tmp 7) = .tuple #[.agg #[],.bool true]:=by rw [Act.eval_put (by intro d hd; cases hd; simp)]; exact he2
 have h4:(execOp (a2.put (some 8) (.bool true)).eval { dst:=some 9,op:=Op.extract (Operand.tmp 7) 0,type:=72,pos:="pres.go:139",after:=#[{ on:=0,ground:=Ground.data }],guard:=none }).run Tryd.prog w = .ok (.value (.agg #[])) w:=by
  simp only [execOp,he3]
  rfl
 unfold Oper.wp
 rw [h4]
 simp only [Oper.upon]
 refine hK4 _ _ (wpList_nil ?_)
 obtain ⟨a3,ha3⟩:∃ a3,(a2.put (some 8) (.bool true)).put (some 9) (.agg #[])=a3:=⟨_,rfl⟩
 rw [ha3]
 have hs3:a3.tmps.size=10:=by rw [← ha3]; simp [Act.put,hs2]
 have hd3:a3.defers=[]:=by rw [← ha3,put_defers,put_defers]; exact hd2
 have h03:a3.tmps.getD 0 undef=v:=by rw [← ha3,e0 _ _ _ (by decide),e0 _ _ _ (by decide)]; exact h02
 have h83:a3.eval (.tmp 8) = .bool true:=by rw [← ha3,Act.eval_put (by intro d hd; cases hd; simp)]; exact bI (by omega)
 have h93:a3.tmps.getD 9 undef = .agg #[]:=by rw [← ha3]; exact bI (d:=9) (by simp [Act.put,hs2])
 have R3:Rel C m ⟨10,[(0,.ptr 0 0),(9,.p (.agg []))],[.own [.dead],.bf 0 0]⟩ a3.tmps w:=by
  refine R.frame hs3 fun t=>?_
  by_cases t0:t=0
  ·subst t0
   rw [h03]
   exact R.slot 0
  by_cases t9:t=9
  ·subst t9
   rw [h93]
   exact .p _ _ (.agg [] #[] rfl fun c h=>absurd h (Nat.not_lt_zero c))
  have e:lk [(0,AV.ptr 0 0),(9,.p (.agg []))] t = .dead:=by
   simp [lk,show ((0:Nat) == t)=false by simp; omega,show ((9:Nat) == t)=false by simp; omega]
  rw [e]; exact .dead _
 refine wp_cond_true h83 (wp_mono (fq.1 (B1 none [] C m a3 w R3 hd3)) fun e a' w' ⟨s',m',⟨he',hH'⟩,R',hd'⟩=>?_)
 subst he'
 have hle:Le [0,1] ⟨s'.n,[],[.own [.p .np]]++aR 0 1⟩ s':=⟨rfl,by decide,by rw [hH']; exact ⟨⟨rfl,rfl⟩,⟨rfl,by decide⟩,trivial⟩,trivial⟩
 refine ⟨hd',.panicking [{ v:=.iface 72 (.agg #[]),recovered:=true }],rfl,.tuple #[],?_,.tuple #[],_,⟨s'.n,[],[.own [.p .np]]++aR 0 1⟩,a'.tmps,rfl,rfl,rfl,R'.weaken hle⟩
 rw [eh,Array.mapM_eq_mapM_toList,Tryd.results52]
 rfl
end Go.Proofs.YtpobnnfkeekiaaaDoor.Pr
namespace Go.Pv
open Go.RowKit
section
variable {P:Program} {s:St}
theorem AZ (hm:P.follows .mixedOrders=true) {id:Nat} {ops:Array Oper} {Q:Exit→St→Prop} (n L:Nat) {on oL:Oper} (hn:ops[n]? = some on) (hL:ops[L]? = some oL) (hnL:n ≠ L) (out:Nat→AV) {H1 H2:az}
  (hedge:∀ (j:Nat) (o:Oper),ops[j]? = some o→∀ e∈o.after.toList,Region.binds .any e=true→e.on < j)
  (hdst:∀ (i j:Nat) (oi oj:Oper) (t:Nat),ops[i]? = some oi→ops[j]? = some oj→oi.dst=some t→oj.dst=some t→i=j)
  (hds:∀ (j:Nat) (o:Oper),ops[j]? = some o→∀ t,o.dst=some t→t < s.n)
  (hlast:∀ j,j < ops.size→j ≠ L→(∃ e∈oL.after.toList,Region.binds .any e=true∧e.on=j)∨((∃ e∈oL.after.toList,Region.binds .any e=true∧e.on=n)∧∃ e∈on.after.toList,Region.binds .any e=true∧e.on=j))
  (hbig:∀ (j:Nat) (o:Oper),ops[j]? = some o→j ≠ n→j ≠ L→o.guard = .none∧(∀ x∈o.op.operands,∀ t,x = .tmp t→∀ (i:Nat) (oi:Oper),ops[i]? = some oi→oi.dst ≠ some t) ∧
    ∀ s2:St,s2.n=s.n→(s2.H=s.H∨s2.H=H1)→(∀ x∈o.op.operands,s2.ev x=s.ev x)→bu P o s2 (out j) s2.H)
  (hg:on.guard = .none) (hgL:oL.guard = .none)
  (hth:∀ s2:St,s2.n=s.n→s2.H=s.H→(∀ t,(∀ (i:Nat) (oi:Oper),ops[i]? = some oi→oi.dst ≠ some t)→s2.get t=s.get t)→(∀ e∈on.after.toList,Region.binds .any e=true→∀ (o:Oper) (t:Nat),ops[e.on]? = some o→o.dst=some t→s2.get t=out e.on)→bu P on s2 (out n) H1)
  (htL:∀ s2:St,s2.n=s.n→s2.H=H1→(∀ t,(∀ (i:Nat) (oi:Oper),ops[i]? = some oi→oi.dst ≠ some t)→s2.get t=s.get t)→(∀ (j:Nat) (o:Oper) (t:Nat),j ≠ L→ops[j]? = some o→o.dst=some t→s2.get t=out j)→bu P oL s2 (out L) H2)
  (hQ:∀ s',s'.n=s.n→s'.H=H2→(∀ t,(∀ (i:Nat) (oi:Oper),ops[i]? = some oi→oi.dst ≠ some t)→s'.get t=s.get t)→(∀ (j:Nat) (o:Oper) (t:Nat),ops[j]? = some o→o.dst=some t→s'.get t=out j)→Q .normal s'):Holds P (.region id ops true) Q s:=by
 intro r ds C m a w R hd
 refine eM hm ?_
 have hnl:n < ops.size:=(Array.getElem?_eq_some_iff.1 hn).1
 have hLl:L < ops.size:=(Array.getElem?_eq_some_iff.1 hL).1
 have key:∀ (fuel:Nat) (listed:Array Bool) (s2:St) (m:Map) (a:Act) (w:World),listed.size=ops.size→(List.range ops.size).countP (fun i=>!listed.getD i true)=fuel →
   (∀ j,listed.getD j false=true→∀ o,ops[j]? = some o→∀ e∈o.after.toList,Region.binds .any e=true→listed.getD e.on false=true) →
   s2.n=s.n→s2.H=(if listed.getD L false then H2 else if listed.getD n false then H1 else s.H)→(∀ t,(∀ (i:Nat) (oi:Oper),ops[i]? = some oi→oi.dst ≠ some t)→s2.get t=s.get t)→(∀ (j:Nat) (o:Oper) (t:Nat),listed.getD j false=true→ops[j]? = some o→o.dst=some t→s2.get t=out j) →
   Rel C m s2 a.tmps w→a.defers=ds→lM P .any ops (fun e a' w'=>∃ s' m',Q e s'∧Rel C m' s' a'.tmps w'∧a'.defers=ds) fuel listed a w:=by
  intro fuel
  induction fuel with
  | zero =>
   intro listed s2 m a w hsz hcnt hcl e1 e2 e3 e4 R hd
   have hall:∀ j,j < ops.size→listed.getD j false=true:=fun j hj=>by
    have:=List.countP_eq_zero.1 hcnt j (by simpa using hj)
    simpa [Array.getD_eq_getD_getElem?,Array.getElem?_eq_getElem (show j < listed.size by omega)] using this
   refine ⟨?_,s2,m,hQ s2 e1 (by rw [e2,if_pos (hall L hLl)]) e3 (fun j o t ho ht=>e4 j o t (hall j (Array.getElem?_eq_some_iff.1 ho).1) ho ht),R,hd⟩
   apply List.eq_nil_iff_forall_not_mem.2
   intro j hj
   unfold Region.ready at hj
   rw [List.mem_filter] at hj
   obtain ⟨hjlt,hj⟩:=hj
   have hjlt:j < ops.size:=by simpa using hjlt
   simp only [Bool.and_eq_true,Bool.not_eq_eq_eq_not,Bool.not_true] at hj
   have:=hall j hjlt
   have h2:=hj.1
   simp [Array.getD_eq_getD_getElem?,Array.getElem?_eq_getElem (show j < listed.size by omega)] at this h2
   rw [this] at h2; cases h2
  | succ fuel ih =>
   intro listed s2 m a w hsz hcnt hcl e1 e2 e3 e4 R hd
   refine ⟨fun hnil=>?_,fun j hj=>?_⟩
   ·exfalso
    have hex:∃ i,i < ops.size∧listed.getD i true=false:=by
     have:0 < (List.range ops.size).countP (fun i=>!listed.getD i true):=by omega
     obtain ⟨i,hi,h⟩:=List.countP_pos_iff.1 this
     exact ⟨i,by simpa using hi,by simpa using h⟩
    have hmin:∃ i,i < ops.size∧listed.getD i true=false∧∀ k,k < i→listed.getD k true=true:=by
     obtain ⟨i,hi,h⟩:=hex
     induction i using Nat.strongRecOn with
     | _ i ihh =>
      by_cases hall:∀ k,k < i→listed.getD k true=true
      ·exact ⟨i,hi,h,hall⟩
      simp only [Classical.not_forall] at hall
      obtain ⟨k,hk,hkn⟩:=hall
      exact ihh k hk (by omega) (by simpa using hkn)
    obtain ⟨i,hi,hli,hbelow⟩:=hmin
    have hmem:i∈Region.ready .any ops listed:=by
     unfold Region.ready
     rw [List.mem_filter]
     refine ⟨by simpa using hi,?_⟩
     rw [hli,Array.getElem?_eq_getElem hi]
     simp only [Bool.not_false,Bool.true_and,Option.map_some,Option.getD_some]
     rw [Array.all_eq_true_iff_forall_mem]
     intro e he
     by_cases hb:Region.binds .any e=true
     ·have hlt:=hedge i ops[i] (Array.getElem?_eq_getElem hi) e (by simpa using he) hb
      have:=hbelow e.on hlt
      have hlt' : e.on < listed.size:=by omega
      simp [Array.getD_eq_getD_getElem?,Array.getElem?_eq_getElem hlt'] at this ⊢
      simp [this]
     simp [hb]
    rw [hnil] at hmem
    simp at hmem
   unfold Region.ready at hj
   rw [List.mem_filter] at hj
   obtain ⟨hjlt,hj⟩:=hj
   have hjlt:j < ops.size:=by simpa using hjlt
   have hoj:ops[j]? = some ops[j]:=Array.getElem?_eq_getElem hjlt
   generalize ops[j]=o at hoj
   rw [hoj] at hj
   simp only [Option.map_some,Option.getD_some,Bool.and_eq_true,Bool.not_eq_eq_eq_not,Bool.not_true] at hj
   obtain ⟨hnl2,hal⟩:=hj
   have hjls:j < listed.size:=by omega
   have hjf:listed.getD j false=false:=by
    simp [Array.getD_eq_getD_getElem?,Array.getElem?_eq_getElem hjls] at hnl2 ⊢
    exact hnl2
   have hpre:∀ e∈o.after.toList,Region.binds .any e=true→listed.getD e.on false=true:=by
    intro e he hb
    have:=(Array.all_eq_true_iff_forall_mem.1 hal) e (by simpa using he)
    rw [hb] at this
    simpa using this
   have hgl:∀ i,(listed.setIfInBounds j true).getD i false=if i=j then true else listed.getD i false:=by
    intro i
    simp only [Array.getD_eq_getD_getElem?,Array.getElem?_setIfInBounds]
    by_cases hij:i=j
    ·subst hij; simp [hjls]
    rw [if_neg (fun h=>hij h.symm),if_neg hij]
   have hglt:∀ i,(listed.setIfInBounds j true).getD i true=if i=j then true else listed.getD i true:=by
    intro i
    simp only [Array.getD_eq_getD_getElem?,Array.getElem?_setIfInBounds]
    by_cases hij:i=j
    ·subst hij; simp [hjls]
    rw [if_neg (fun h=>hij h.symm),if_neg hij]
   have hcnt' : (List.range ops.size).countP (fun i=>!(listed.setIfInBounds j true).getD i true)=fuel:=by
    have:(List.range ops.size).countP (fun i=>!(listed.setIfInBounds j true).getD i true) + 1=(List.range ops.size).countP (fun i=>!listed.getD i true):=by
     have hj1:listed.getD j true=false:=by
      simpa using hnl2
     have hsplit:∀ (l:List Nat),l.Nodup→j∈l→l.countP (fun i=>!listed.getD i true)=l.countP (fun i=>!(listed.setIfInBounds j true).getD i true) + 1:=by
      intro l hnd hmem
      induction l with
      | nil=>cases hmem
      | cons x r ihl =>
       rw [List.nodup_cons] at hnd
       by_cases hxj:x=j
       ·subst hxj
        have e1:(listed.setIfInBounds x true).getD x true=true:=by rw [hglt,if_pos rfl]
        rw [List.countP_cons,List.countP_cons,hj1,e1]
        have:r.countP (fun i=>!listed.getD i true)=r.countP (fun i=>!(listed.setIfInBounds x true).getD i true):=by
         apply List.countP_congr
         intro i hi
         rw [hglt,if_neg (fun h=>hnd.1 (by rw [← h]; exact hi))]
        rw [this]; rfl
       rw [List.countP_cons,List.countP_cons,hglt x,if_neg hxj,ihl hnd.2 (by rcases List.mem_cons.1 hmem with h | h; exact absurd h.symm hxj; exact h)]
       omega
     exact (hsplit _ List.nodup_range (by simpa using hjlt)).symm
    omega
   have hsz2:(listed.setIfInBounds j true).size=ops.size:=by rw [Array.size_setIfInBounds]; exact hsz
   have hcl' : ∀ i,(listed.setIfInBounds j true).getD i false=true→∀ o,ops[i]? = some o→∀ e∈o.after.toList,Region.binds .any e=true→(listed.setIfInBounds j true).getD e.on false=true:=by
    intro i hi o' ho' e he hb
    rw [hgl]
    split
    ·rfl
    rw [hgl] at hi
    split at hi
    ·rename_i h; subst h
     rw [hoj] at ho'; cases ho'
     exact hpre e he hb
    exact hcl i hi o' ho' e he hb
   have next:∀ (s3:St) (v:Value) (m' : Map) (w' : World),s3.n=s.n→s3.H=(if (listed.setIfInBounds j true).getD L false then H2 else if (listed.setIfInBounds j true).getD n false then H1 else s.H)→(∀ t,s3.get t=s2.get t)→Rel C m' s3 a.tmps w'→aG (Reads (OK C m' s3.H w') w') m' s3.H (out j) v →
     lM P .any ops (fun e a' w'=>∃ s' m',Q e s'∧Rel C m' s' a'.tmps w'∧a'.defers=ds) fuel (listed.setIfInBounds j true) (a.put o.dst v) w':=by
    intro s3 v m' w' f1 f2 f3 R' hv
    have R2:Rel C m' (s3.put o.dst (out j)) (a.put o.dst v).tmps w':=R'.put (fun t ht=>by rw [f1]; exact hds j o hoj t ht) hv
    refine ih _ (s3.put o.dst (out j)) m' _ w' hsz2 hcnt' hcl' (by rw [St.jl]; exact f1) (by rw [St.fD]; exact f2) (fun t ht=>?_) (fun i oi t hi ho ht=>?_) R2 (by rw [put_defers]; exact hd)
    ·rw [dB,if_neg (ht j o hoj),f3]
     exact e3 t ht
    rw [dB]
    by_cases hij:i=j
    ·subst hij
     rw [hoj] at ho; cases ho
     rw [if_pos ht]
    rw [if_neg (fun h=>hij (hdst i j oi o t ho hoj ht h)),f3]
    rw [hgl,if_neg hij] at hi
    exact e4 i oi t hi ho ht
   unfold Hx
   rw [hoj]
   by_cases hjL:j=L
   ·subst hjL
    rw [hL] at hoj; cases hoj
    simp only [Region.wanted,hgL,if_true]
    refine .inl ?_
    have hln:listed.getD n false=true:=by
     rcases hlast n hnl hnL with ⟨e,he,hb,hee⟩ | ⟨⟨e,he,hb,hee⟩,_⟩
     ·rw [← hee]; exact hpre e he hb
     rw [← hee]; exact hpre e he hb
    have hall:∀ i,i < ops.size→i ≠ j→listed.getD i false=true:=fun i hi hij=>by
     rcases hlast i hi hij with ⟨e,he,hb,hee⟩ | ⟨_,e,he,hb,hee⟩
     ·rw [← hee]; exact hpre e he hb
     rw [← hee]; exact hcl n hln on hn e he hb
    rw [hjf,hln] at e2
    refine htL s2 e1 (by simpa using e2) e3 (fun i o t hij ho ht=>e4 i o t (hall i (Array.getElem?_eq_some_iff.1 ho).1 hij) ho ht) C m a w _ _ R fun v m' w' R' hv=>?_
    exact next { s2 with H:=H2 } v m' w' e1 (by rw [hgl,if_pos rfl]; rfl) (fun _=>rfl) R' hv
   have hlL:listed.getD L false=false:=by
    cases h:listed.getD L false with
    | false=>rfl
    | true =>
     exfalso
     have:listed.getD j false=true:=by
      rcases hlast j hjlt hjL with ⟨e,he,hb,hee⟩ | ⟨⟨e',he',hb',hee'⟩,e,he,hb,hee⟩
      ·rw [← hee]; exact hcl L h oL hL e he hb
      have hln:listed.getD n false=true:=by rw [← hee']; exact hcl L h oL hL e' he' hb'
      rw [← hee]; exact hcl n hln on hn e he hb
     rw [hjf] at this; cases this
   have hlL2:(listed.setIfInBounds j true).getD L false=false:=by rw [hgl,if_neg (fun h=>hjL h.symm)]; exact hlL
   rw [hlL] at e2
   by_cases hjn:j=n
   ·subst hjn
    rw [hn] at hoj; cases hoj
    simp only [Region.wanted,hg,if_true]
    refine .inl ?_
    rw [hjf] at e2
    refine hth s2 e1 (by simpa using e2) e3 (fun e he hb o t ho ht=>e4 _ o t (hpre e he hb) ho ht) C m a w _ _ R fun v m' w' R' hv=>?_
    exact next { s2 with H:=H1 } v m' w' e1 (by rw [hlL2,hgl,if_pos rfl]; rfl) (fun _=>rfl) R' hv
   obtain ⟨h1,h3,h4⟩:=hbig j o hoj hjn hjL
   simp only [Region.wanted,h1,if_true]
   refine .inl ?_
   have hev:∀ x∈o.op.operands,s2.ev x=s.ev x:=by
    intro x hx
    cases x with
    | tmp t=>exact e3 t (h3 _ hx t rfl)
    | _=>rfl
   refine h4 s2 e1 (by
    cases h:listed.getD n false with
    | false=>rw [h] at e2; exact .inl (by simpa using e2)
    | true=>rw [h] at e2; exact .inr (by simpa using e2)) hev C m a w _ _ R fun v m' w' R' hv=>?_
   refine next { s2 with H:=s2.H } v m' w' e1 ?_ (fun _=>rfl) R' hv
   have hnj:¬ n=j:=fun h=>hjn h.symm
   rw [hlL2,hgl,if_neg hnj]
   exact e2
 refine key _ _ s m a _ (by simp) ?_ (fun j hj=>?_) rfl ?_ (fun _ _=>rfl) (fun j o t hj=>?_) ?_ hd
 ·have h1:∀ i∈List.range ops.size,(!(Array.replicate ops.size false).getD i true)=true:=by
   intro i hi
   have:=List.mem_range.1 hi
   simp [Array.getD_eq_getD_getElem?,this]
  rw [List.countP_eq_length.2 h1,List.length_range]
 ·exfalso
  simp only [Array.getD_eq_getD_getElem?,Array.getElem?_replicate] at hj
  split at hj<;>cases hj
 ·simp [Array.getD_eq_getD_getElem?,Array.getElem?_replicate,hnl,hLl]
 ·exfalso
  simp only [Array.getD_eq_getD_getElem?,Array.getElem?_replicate] at hj
  split at hj<;>cases hj
 exact R.later ⟨rfl,rfl,rfl,Nat.le_refl _,fun _ _=>rfl,Nat.le_succ _⟩
def AH (ops:Array Oper):Bool:=(List.range ops.size).all fun j=>(bP ops j).after.toList.all fun e=>!Region.binds .any e || decide (e.on < j)
def FQ (ops:Array Oper):Bool:=(List.range ops.size).all fun i=>(List.range ops.size).all fun j=>i == j || (match (bP ops i).dst,(bP ops j).dst with | some a,some b=>!(a == b) | _,_=>true)
def Ja (ops:Array Oper) (n:Nat):Bool:=(List.range ops.size).all fun i=>match (bP ops i).dst with | some a=>decide (a < n) | _=>true
def FO (ops:Array Oper) (t:Nat):Bool:=(List.range ops.size).all fun i=>match (bP ops i).dst with | some a=>!(a == t) | _=>true
def Bg (o:Oper) (n:Nat):Bool:=o.after.toList.any fun e=>Region.binds .any e && e.on == n
theorem p7 {ops:Array Oper} (h:AH ops=true):∀ (j:Nat) (o:Oper),ops[j]? = some o→∀ e∈o.after.toList,Region.binds .any e=true→e.on < j:=by
 intro j o hj e he hb
 have h1:=(List.all_eq_true.1 h) j (by simpa using (Array.getElem?_eq_some_iff.1 hj).1)
 rw [cN hj] at h1
 have h2:=(List.all_eq_true.1 h1) e he
 rw [hb] at h2
 simpa using h2
theorem rq {ops:Array Oper} (h:FQ ops=true):∀ (i j:Nat) (oi oj:Oper) (t:Nat),ops[i]? = some oi→ops[j]? = some oj→oi.dst=some t→oj.dst=some t→i=j:=by
 intro i j oi oj t hi hj hti htj
 have h1:=(List.all_eq_true.1 h) i (by simpa using (Array.getElem?_eq_some_iff.1 hi).1)
 have h2:=(List.all_eq_true.1 h1) j (by simpa using (Array.getElem?_eq_some_iff.1 hj).1)
 rw [cN hi,cN hj,hti,htj] at h2
 simpa using h2
theorem AK {ops:Array Oper} {n:Nat} (h:Ja ops n=true):∀ (j:Nat) (o:Oper),ops[j]? = some o→∀ t,o.dst=some t→t < n:=by
 intro j o hj t ht
 have h1:=(List.all_eq_true.1 h) j (by simpa using (Array.getElem?_eq_some_iff.1 hj).1)
 rw [cN hj,ht] at h1
 simpa using h1
theorem gx {ops:Array Oper} {t:Nat} (h:FO ops t=true):∀ (i:Nat) (oi:Oper),ops[i]? = some oi→oi.dst ≠ some t:=by
 intro j o hj ht
 have h1:=(List.all_eq_true.1 h) j (by simpa using (Array.getElem?_eq_some_iff.1 hj).1)
 rw [cN hj,ht] at h1
 simp at h1
theorem kB {o:Oper} {n:Nat} (h:Bg o n=true):∃ e∈o.after.toList,Region.binds .any e=true∧e.on=n:=by
 obtain ⟨e,he,h1⟩:=List.any_eq_true.1 h
 rw [Bool.and_eq_true] at h1
 exact ⟨e,he,h1.1,by simpa using h1.2⟩
structure Cl (P:Program) (ops:Array Oper) (s:St) (H1:az) (o:Oper) (av:AV):Prop where
 g:o.guard = .none
 d:∀ t,o.dst=some t→t < s.n
 x:∀ x∈o.op.operands,∀ t,x = .tmp t→FO ops t=true
 r:∀ s2:St,s2.n=s.n→(s2.H=s.H∨s2.H=H1)→(∀ x∈o.op.operands,s2.ev x=s.ev x)→bu P o s2 av s2.H
theorem yU (hm:P.follows .mixedOrders=true) {t:TypeId} {id:Nat} {ops:Array Oper} {Q:Exit→St→Prop} (n:Nat) {on:Oper} (hn:ops[n]? = some on) (out:Nat→AV) {H' : az} (hE:AH ops=true) (hD:FQ ops=true)
  (hbig:∀ (j:Nat) (o:Oper),ops[j]? = some o→j ≠ n→Bg o n=true∨Cl P ops s s.H o (out j))
  (hg:on.guard = .none)
  (hth:∀ s2:St,s2.n=s.n→s2.H=s.H→(∀ t,FO ops t=true→s2.get t=s.get t)→(∀ e∈on.after.toList,Region.binds .any e=true→∀ (o:Oper) (t:Nat),ops[e.on]? = some o→o.dst=some t→s2.get t=out e.on)→ir P t on s2 H')
  (hQ:∀ ch s',eZ t ch→s'.n=s.n→s'.H=H'→(∀ t,FO ops t=true→s'.get t=s.get t)→Q (.panic ch) s'):Holds P (.region id ops true) Q s:=by
 refine Cj (t:=t) hm n hn out (p7 hE) (rq hD) (fun j o hj hjn=>?_) hg (fun s2 h1 h2 h3 h4=>hth s2 h1 h2 (fun t ht=>h3 t (gx ht)) h4) (fun ch s' h1 h2 h3 h4=>hQ ch s' h1 h2 h3 fun t ht=>h4 t (gx ht))
 rcases hbig j o hj hjn with h | h
 ·exact .inl (kB h)
 refine .inr ⟨h.g,h.d,fun x hx t ht=>gx (h.x x hx t ht),fun s2 h1 h2 h3=>?_⟩
 have:=h.r s2 h1 (.inl h2) h3
 rwa [h2] at this
theorem zh (hm:P.follows .mixedOrders=true) {id:Nat} {ops:Array Oper} {Q:Exit→St→Prop} (n L:Nat) {on oL:Oper} (hn:ops[n]? = some on) (hL:ops[L]? = some oL) (hnL:n ≠ L) (out:Nat→AV) {H1 H2:az} (hE:AH ops=true) (hD:FQ ops=true) (hS:Ja ops s.n=true)
  (hlast:∀ j,j < ops.size→j ≠ L→Bg oL j=true∨(Bg oL n=true∧Bg on j=true))
  (hbig:∀ (j:Nat) (o:Oper),ops[j]? = some o→j ≠ n→j ≠ L→Cl P ops s H1 o (out j))
  (hg:on.guard = .none) (hgL:oL.guard = .none)
  (hth:∀ s2:St,s2.n=s.n→s2.H=s.H→(∀ t,FO ops t=true→s2.get t=s.get t)→(∀ e∈on.after.toList,Region.binds .any e=true→∀ (o:Oper) (t:Nat),ops[e.on]? = some o→o.dst=some t→s2.get t=out e.on)→bu P on s2 (out n) H1)
  (htL:∀ s2:St,s2.n=s.n→s2.H=H1→(∀ t,FO ops t=true→s2.get t=s.get t)→(∀ (j:Nat) (o:Oper) (t:Nat),j ≠ L→ops[j]? = some o→o.dst=some t→s2.get t=out j)→bu P oL s2 (out L) H2)
  (hQ:∀ s',s'.n=s.n→s'.H=H2→(∀ t,FO ops t=true→s'.get t=s.get t)→(∀ (j:Nat) (o:Oper) (t:Nat),ops[j]? = some o→o.dst=some t→s'.get t=out j)→Q .normal s'):Holds P (.region id ops true) Q s:=by
 refine AZ hm n L hn hL hnL out (p7 hE) (rq hD) (AK hS) (fun j hj hjL=>?_) (fun j o hj hjn hjL=>?_) hg hgL (fun s2 h1 h2 h3 h4=>hth s2 h1 h2 (fun t ht=>h3 t (gx ht)) h4) (fun s2 h1 h2 h3 h4=>htL s2 h1 h2 (fun t ht=>h3 t (gx ht)) h4) (fun s' h1 h2 h3 h4=>hQ s' h1 h2 (fun t ht=>h3 t (gx ht)) h4)
 ·rcases hlast j hj hjL with h | ⟨h1,h2⟩
  ·exact .inl (kB h)
  exact .inr ⟨kB h1,kB h2⟩
 have h:=hbig j o hj hjn hjL
 exact ⟨h.g,fun x hx t ht=>gx (h.x x hx t ht),h.r⟩
end
open Go.RowKit
section
variable {P:Program} {t:TypeId} {s:St}
theorem F8 {H0 X:az} {b1:aH} {R1:az} (h0:0 < H0.length):(n8 H0 X (b1 :: R1)).length=H0.length + X.length + R1.length:=by
 rw [yF h0]; simp [aB,bA]
theorem GY {S s:St} {a:Nat} {X X' H1:az} {b1:aH} {R1:az} (h0:0 < a) (h1:H1=b1 :: R1) (hn:S.n=s.n) (hS:S.H=H1++X') (hs0:aA s.H 0=aH.aY (0 :: List.range' (a + X.length) R1.length) b1) (hsN:∀ i,i < R1.length→aA s.H (a + X.length + i)=aA (R1.map (aH.aY (0 :: List.range' (a + X.length) R1.length))) i) (hsX:∀ i,i < X.length→aA s.H (a + i)=aA X i) (hXX:X'.length=X.length) (hsc1:H1.all (bD H1.length)=true) (hna:H1.all cf=true)
  (hX:∀ i,i < X.length→∀ H,aA H (a + i)=aA X i→dJ (lN a X.length R1.length) H (a + i) (aA X' i)) (hsl:jr (lN a X.length R1.length) S.sl s):Le (lN a X.length R1.length) S s:=by
 subst h1
 have hl1:(b1 :: R1).length=R1.length + 1:=rfl
 have hpl:(lN a X.length R1.length).length=R1.length + 1 + X.length:=by unfold lN; simp; omega
 have hag:∀ i,i < R1.length + 1→(lN a X.length R1.length).getD i 0=(0 :: List.range' (a + X.length) R1.length).getD i 0:=fun i hi=>by
  unfold lN
  rw [List.getD_eq_getElem?_getD,List.getElem?_append_left (by simpa using hi),List.getD_eq_getElem?_getD]
 refine ⟨hn,?_,?_,hsl⟩
 ·unfold lN
  rw [List.nodup_append]
  refine ⟨List.nodup_cons.2 ⟨?_,List.nodup_range' ..⟩,List.nodup_range' ..,?_⟩
  ·rw [List.mem_range'_1]; omega
  intro x hx y hy
  rw [List.mem_range'_1] at hy
  simp only [List.mem_cons,List.mem_range'_1] at hx
  omega
 rw [hS]
 have e:dQ (lN a X.length R1.length) s.H ((0 :: List.range' (a + X.length) R1.length)++List.range' a X.length) ((b1 :: R1)++X'):=by
  refine Go.Proofs.YtpobnnfkeekiaaaDoor.Pr.jd ⟨?_,Go.Proofs.YtpobnnfkeekiaaaDoor.Pr.ph (by simp) fun i hi=>?_⟩ (Go.Proofs.YtpobnnfkeekiaaaDoor.Pr.ph (by simp [hXX]) fun i hi=>?_)
  ·refine mK (L:=R1.length + 1) hag (by rw [hpl]; omega) ?_ ?_ hs0
   ·exact (List.all_eq_true.1 hsc1) b1 (by simp)
   exact (List.all_eq_true.1 hna) b1 (by simp)
  ·have e1:(List.range' (a + X.length) R1.length).getD i 0=a + X.length + i:=by simp [List.getD,List.getElem?_range' hi]
   have hm:aA R1 i∈R1:=by rw [cA,List.getD_eq_getElem?_getD,List.getElem?_eq_getElem hi]; exact List.getElem_mem hi
   rw [e1]
   refine mK (L:=R1.length + 1) hag (by rw [hpl]; omega) ?_ ?_ ?_
   ·exact (List.all_eq_true.1 hsc1) _ (by simp [hm])
   ·exact (List.all_eq_true.1 hna) _ (by simp [hm])
   rw [hsN i hi]
   simp [cA,List.getD,List.getElem?_map,List.getElem?_eq_getElem hi]
  rw [hXX] at hi
  have e1:(List.range' a X.length).getD i 0=a + i:=by simp [List.getD,List.getElem?_range' hi]
  rw [e1]
  exact hX i hi s.H (hsX i hi)
 exact e
theorem ir.vm {o:Oper} {H' : az} {k:Nat} {b b' : List AV} (h:ir P t o s H') (hk:aA H' k = .own b) (hb:b' = b.map fun _=>.dead):ir P t o s (aF H' k (.own b')):=by
 subst hb
 intro C m a w K Q R hK
 exact h C m a w K Q R fun ch m' w' hch R'=>hK ch m' w' hch (Rel.cells (s:={ s with H:=H' }) R' hk (by simp) fun j h1 h2 v _=>by
  rw [List.getElem_map]
  exact .dead _)
end
end Go.Pv
namespace Go.Proofs.YtpobnnfkeekiaaaDoor.Pr
open Go.Pv
def cX (k:Nat):az:=[.own [.ptr 0 0],.bf 0 (k + 3)]
def TC (sl:List (Nat × PV)) (m most:Nat) (s:CS):St:=⟨89,(8,.ptr (s.1.length + 3) 0) :: sl.map (fun p=>(p.1,.p p.2)),CB m most (2 * m) s.1 s.2++cX s.1.length⟩
theorem FY {k L:Nat} (h:k + 5≤L):∀ b∈cX k,bD L b=true:=fun b hb=>by
 unfold cX at hb
 simp only [List.mem_cons,List.not_mem_nil,or_false] at hb
 rcases hb with rfl | rfl
 ·simp [bD,bj,bn]; omega
 simp [bD]; omega
theorem gT {m most:Nat} {sl:List (Nat × PV)} {t:CS} {s:St} (hn:s.n=89) (hH:s.H=CB m most (2 * m) t.1 t.2++cX t.1.length) (g8:s.get 8 = .ptr (t.1.length + 3) 0) (hsl:∀ p∈sl,s.get p.1 = .p p.2):Le (List.range (t.1.length + 5)) (TC sl m most t) s:=by
 have hl:(CB m most (2 * m) t.1 t.2++cX t.1.length:az).length=t.1.length + 5:=by rw [List.length_append,aK]; rfl
 have h8:(List.range (t.1.length + 5)).getD (t.1.length + 3) 0=t.1.length + 3:=by simp [List.getD]
 refine iO (B:=CB m most (2 * m) t.1 t.2++cX t.1.length) (show (89:Nat)=s.n from hn.symm) hl rfl (gZ (by omega) (FY (by omega))) (fun i hi=>by rw [hH]) ?_
 refine ⟨?_,?_,eB hsl⟩
 ·rw [g8]; simp only [Go.Pv.aY,bg,h8]
 simp [bj,bn]
theorem Gm {m most:Nat} {sl:List (Nat × PV)} {t t' : CS} {s:St} (hn:s.n=89) (hH:s.H=n8 (CB m most (2 * m) t.1 t.2) (cX t.1.length) (CB m most (2 * m) t'.1 t'.2)) (g8:s.get 8 = .ptr (t.1.length + 3) 0) (hsl:∀ p∈sl,s.get p.1 = .p p.2):∃ π,Le π (TC sl m most t') s:=by
 have hp:(lN (CB m most (2 * m) t.1 t.2).length (cX t.1.length).length (.own (eU (2 * m) t'.1.length) :: .own (ol t'.2) :: t'.1.map bZ:az).length).getD (t'.1.length + 3) 0=t.1.length + 3:=by
  unfold lN
  rw [List.getD_eq_getElem?_getD,List.getElem?_append_right (by simp),aK]
  simp [cX]
 have hpl:t'.1.length + 3 < (lN (CB m most (2 * m) t.1 t.2).length (cX t.1.length).length (.own (eU (2 * m) t'.1.length) :: .own (ol t'.2) :: t'.1.map bZ:az).length).length:=by
  unfold lN; simp [cX]
 refine ⟨_,EH (H0:=CB m most (2 * m) t.1 t.2) (X:=cX t.1.length) (X':=cX t'.1.length) (by rw [aK]; omega) (show CB m most (2 * m) t'.1 t'.2=qR m t'.1.length t'.2.length most :: (.own (eU (2 * m) t'.1.length) :: .own (ol t'.2) :: t'.1.map bZ) from rfl) (show (89:Nat)=s.n from hn.symm) rfl hH rfl dm eV (fun i hi H hh=>?_) ?_⟩
 ·have hi2:i=0∨i=1:=by simp [cX] at hi; omega
  rcases hi2 with rfl | rfl
  ·show dJ _ H _ (.own [.ptr 0 0])
   have e:aA H ((CB m most (2 * m) t.1 t.2).length + 0) = .own [.ptr 0 0]:=hh
   simp only [dJ,e]
   refine ⟨rfl,?_⟩
   unfold lN; simp [bj,bn]
  show aA H _ = .bf 0 _∧_
  exact ⟨by rw [hp]; exact hh,hpl⟩
 refine ⟨?_,?_,eB hsl⟩
 ·rw [g8]; simp only [Go.Pv.aY,bg,hp]
 simp only [bj,bn,decide_eq_true_eq]; exact hpl
theorem wj {c:Code} {Q:Exit→St→Prop} {m most:Nat} (sl:List (Nat × PV)) (t t' : CS) {s:St} (hn:s.n=89) (hH:s.H=n8 (CB m most (2 * m) t.1 t.2) (cX t.1.length) (CB m most (2 * m) t'.1 t'.2)) (g8:s.get 8 = .ptr (t.1.length + 3) 0) (hsl:∀ p∈sl,s.get p.1 = .p p.2) (h:Holds Tryd.prog c Q (TC sl m most t')):Holds Tryd.prog c Q s:=by
 obtain ⟨π,hπ⟩:=Gm hn hH g8 hsl
 exact pH π hπ h
section
variable {m most:Int} {w:Nat} {N:List (List Int)} {U:List Int}
theorem Jn {X:az} : aA (CB m most w N U++X) 0 = .own [.p (.int .i64 m),.sl 1 0 N.length,.sl 2 0 U.length,.p (.int .i64 most)]:=rfl
theorem xu {k:Nat} (h:N.length=k):aA (CB m most w N U++cX k) (k + 3) = .own [.ptr 0 0]:=by
 rw [bc (by rw [aK]; omega),aK,h,Nat.sub_self]; rfl
theorem Jw {k:Nat} (h:N.length=k):aF (CB m most w N U++cX k) (k + 3) (.own [.ptr 0 0])=CB m most w N U++cX k:=by
 have e:(k + 3) - (CB m most w N U).length=0:=by rw [aK]; omega
 rw [gQ,List.set_append_right _ _ (by rw [aK]; omega),e]
 rfl
end
theorem tI {m most:Nat} {s s1:St} {c0:AV} {t:CS} {ch:List PanicEntry} (hch:eZ 72 ch) (g8:s1.get 8 = .ptr (t.1.length + 3) 0) (hH:s1.H=aF (cC (CB m most (2 * m) t.1 t.2++cX t.1.length) (List.range (CB m most (2 * m) t.1 t.2).length)) (t.1.length + 3) (.own [.dead])):An 72 8 c0 none (.panic ch) s1:=by
 refine ⟨ch,rfl,hch,[t.1.length + 3,t.1.length + 4],rfl,by simp,?_,?_⟩
 ·have hk:∀ j,t.1.length + 3≤j→aA (cC (CB m most (2 * m) t.1 t.2++cX t.1.length) (List.range (CB m most (2 * m) t.1 t.2).length)) j=aA (CB m most (2 * m) t.1 t.2++cX t.1.length) j:=fun j hj=>ja _ _ _ fun k hk=>by
   have:=List.mem_range.1 hk
   rw [aK] at this
   omega
  have hlen:(cC (CB m most (2 * m) t.1 t.2++cX t.1.length) (List.range (CB m most (2 * m) t.1 t.2).length)).length=t.1.length + 5:=by
   rw [bA,List.length_append,aK]; rfl
  have e1:aA s1.H (t.1.length + 3) = .own [.dead]:=by
   rw [hH,bO,if_pos ⟨rfl,by rw [hlen]; omega⟩]
  have e2:aA s1.H (t.1.length + 4) = .bf 0 (t.1.length + 3):=by
   rw [hH,bO,if_neg (by omega),hk _ (by omega),bc (by rw [aK]; omega),aK]
   have:t.1.length + 4 - (t.1.length + 3)=1:=by omega
   rw [this]; rfl
  refine ⟨?_,?_,trivial⟩
  ·simp only [dJ,e1]
   exact ⟨rfl,rfl⟩
  simp only [dJ,e2]
  exact ⟨rfl,by simp⟩
 exact ⟨by rw [g8]; rfl,rfl,trivial⟩
theorem zP {o:Oper} {s:St} {fo:Operand} {args:Array Operand} {ts:Array TypeId} {g:FuncId} {avs:List AV} {m most:Nat} {t:CS} (ho:o.op = .call { callee:=.value fo,args:=args,argTypes:=ts }) (hc:Gb Tryd.prog 1 72 g avs (CB m most (2 * m) t.1 t.2)) (hfo:Bp (s.ev fo)=some (g,[]))
  (hH:s.H=CB m most (2 * m) t.1 t.2++cX t.1.length) (hargs:args.toList.map s.ev++[]=avs) (ha:avs.all (bj (CB m most (2 * m) t.1 t.2).length)=true) :
  ir Tryd.prog 72 o s (aF (cC (CB m most (2 * m) t.1 t.2++cX t.1.length) (List.range (CB m most (2 * m) t.1 t.2).length)) (t.1.length + 3) (.own [.dead])):=by
 refine ir.vm (b:=[.ptr 0 0]) (By (X:=cX t.1.length) ho hc hfo hH hargs ha dm (by rw [aK]; omega) eV wa) ?_ rfl
 rw [ja _ _ _ (fun k hk=>by
  have:=List.mem_range.1 hk
  rw [aK] at this
  omega)]
 exact xu rfl
def DX (n most:Int) (w:Nat) (N:List (List Int)) (U:List Int):az:=.own [.p (.int .i64 n),.sl 2 0 N.length,.sl 3 0 U.length,.p (.int .i64 most)] :: .own ((List.range N.length).map fun i=>.sl (i + 4) 0 w) :: .own (ol U) :: N.map bZ
def vL:Option CS→AV
 | some _=>.ptr 1 0
 | none=>.p .np
def fM (m most:Nat):Option CS→az
 | some t=>.own [.ptr 1 0] :: DX m most (2 * m) t.1 t.2
 | none=>[.own [.p .np]]
theorem vi {m most:Nat} {o:Option CS} : (fM m most o).all (bD (fM m most o).length)=true:=by
 rw [List.all_eq_true]
 intro b hb
 cases o with
 | none =>
  simp only [fM,List.mem_cons,List.not_mem_nil,or_false] at hb
  subst hb; rfl
 | some t =>
  have hl:(fM m most (some t)).length=t.1.length + 4:=by simp [fM,DX]
  rw [hl]
  simp only [fM,DX,List.mem_cons] at hb
  rcases hb with rfl | rfl | rfl | rfl | hb
  ·simp [bD,bj,bn]
  ·simp [bD,bj,bn]
  ·refine List.all_eq_true.2 fun x hx=>?_
   obtain ⟨i,hi,rfl⟩:=List.mem_map.1 hx
   have:=List.mem_range.1 hi
   simp [bj,bn]; omega
  ·exact fG _ _
  obtain ⟨f,_,rfl⟩:=List.mem_map.1 hb
  exact fG _ _
theorem xm {m most:Nat} {o:Option CS} : (fM m most o).all cf=true:=by
 rw [List.all_eq_true]
 intro b hb
 cases o with
 | none =>
  simp only [fM,List.mem_cons,List.not_mem_nil,or_false] at hb
  subst hb; rfl
 | some t =>
  simp only [fM,DX,List.mem_cons] at hb
  rcases hb with rfl | rfl | rfl | rfl | hb
  ·rfl
  ·rfl
  ·rfl
  ·rfl
  obtain ⟨f,_,rfl⟩:=List.mem_map.1 hb; rfl
theorem C3 {m most:Nat} {s:St} {c0:AV} {t:CS} {e:Exit} (he:e = .normal∨e = .ret) (g8:s.get 8 = .ptr (t.1.length + 3) 0) (hH:s.H=CB m most (2 * m) t.1 t.2++cX t.1.length):An 72 8 c0 (some (fM m most (some t))) e s:=by
 obtain ⟨k,hk⟩:∃ k,t.1.length=k:=⟨_,rfl⟩
 have e0:∀ (a b c:aH) (T:az) (i:Nat),aA (a :: b :: c :: T) (i + 3)=aA T i:=fun _ _ _ _ _=>rfl
 rw [hk] at g8 hH
 have hCB:s.H = .own [.p (.int .i64 m),.sl 1 0 k,.sl 2 0 t.2.length,.p (.int .i64 most)] :: .own (eU (2 * m) k) :: .own (ol t.2) :: (t.1.map bZ++cX k):=by
  rw [hH]; unfold CB qR; rw [hk]; rfl
 obtain ⟨π,hπ⟩:∃ π,(k + 3) :: 0 :: 1 :: 2 :: (List.range' 3 k++[k + 4])=π:=⟨_,rfl⟩
 have hpl:π.length=k + 5:=by rw [← hπ]; simp
 have p0:π.getD 0 0=k + 3:=by rw [← hπ]; rfl
 have p1:π.getD 1 0=0:=by rw [← hπ]; rfl
 have p2:π.getD 2 0=1:=by rw [← hπ]; rfl
 have p3:π.getD 3 0=2:=by rw [← hπ]; rfl
 have p4:∀ i,i < k→π.getD (i + 4) 0=i + 3:=fun i hi=>by
  rw [← hπ]
  show (List.range' 3 k++[k + 4]).getD i 0=_
  rw [List.getD_eq_getElem?_getD,List.getElem?_append_left (by simpa using hi),List.getElem?_range' hi]
  simp [Nat.add_comm]
 have f0:aA s.H 0 = .own [.p (.int .i64 m),.sl 1 0 k,.sl 2 0 t.2.length,.p (.int .i64 most)]:=by rw [hCB]; rfl
 have f1:aA s.H 1 = .own (eU (2 * m) k):=by rw [hCB]; rfl
 have f2:aA s.H 2 = .own (ol t.2):=by rw [hCB]; rfl
 have f3:∀ i,i < k→aA s.H (3 + i)=bZ (t.1.getD i []):=fun i hi=>by
  rw [hCB,Nat.add_comm 3 i,e0]
  exact jb (by omega)
 have f4:aA s.H (k + 3) = .own [.ptr 0 0]:=by
  rw [hH]; exact xu hk
 have f5:aA s.H (k + 4) = .bf 0 (k + 3):=by
  rw [hCB,show k + 4=k + 1 + 3 by omega,e0,bc (by rw [du]; omega),du,hk,Nat.add_sub_cancel_left]; rfl
 refine ⟨he,π,rfl,?_,?_,?_⟩
 ·rw [← hπ]
  simp only [List.nodup_cons,List.mem_cons,List.mem_append,List.mem_range'_1,List.not_mem_nil,or_false]
  refine ⟨by omega,by omega,by omega,by omega,?_⟩
  rw [List.nodup_append]
  refine ⟨List.nodup_range' ..,by simp,?_⟩
  intro x hx y hy
  rw [List.mem_range'_1] at hx
  simp only [List.mem_cons,List.not_mem_nil,or_false] at hy
  omega
 ·have goal:dQ π s.H ((k + 3) :: 0 :: 1 :: 2 :: (List.range' 3 k++[k + 4])) (.own [.ptr 1 0] :: .own [.p (.int .i64 m),.sl 2 0 k,.sl 3 0 t.2.length,.p (.int .i64 most)] :: .own ((List.range k).map fun i=>.sl (i + 4) 0 (2 * m)) :: .own (ol t.2) :: (t.1.map bZ++[.bf 0 0])):=by
   refine ⟨?_,?_,?_,ik f2,jd ?_ ⟨?_,trivial⟩⟩
   ·simp only [dJ,f4,List.map_cons,List.map_nil,Go.Pv.aY,bg,p1]
    refine ⟨rfl,?_⟩
    simp [bj,bn,hpl]
   ·simp only [dJ,f0,List.map_cons,List.map_nil,Go.Pv.aY,bg,p2,p3]
    refine ⟨rfl,?_⟩
    simp [bj,bn,hpl]
   ·simp only [dJ,f1]
    refine ⟨?_,?_⟩
    ·rw [List.take_of_length_le (by simp [cp])]
     refine List.ext_getElem (by simp [cp]) fun i h1 h2=>?_
     have hi:i < k:=by simpa using h1
     simp only [eU,List.getElem_map,List.getElem_range,Go.Pv.aY,bg,p4 i hi]
    refine List.all_eq_true.2 fun x hx=>?_
    obtain ⟨i,hi,rfl⟩:=List.mem_map.1 hx
    have:=List.mem_range.1 hi
    simp [bj,bn]; omega
   ·have:=oI (π:=π) (H:=s.H) (B:=t.1.map bZ) (a:=3) (fun i hi=>by
     rw [du,hk] at hi
     rw [f3 i hi]
     have:=jb (N:=t.1) (X:=[]) (i:=i) (by omega)
     rw [List.append_nil] at this
     rw [this]) fun b hb=>by
     obtain ⟨f,_,rfl⟩:=List.mem_map.1 hb
     exact ik rfl
    rwa [du,hk] at this
   simp only [dJ,f5,p0]
   exact ⟨trivial,by omega⟩
  rw [hπ] at goal
  have e:fM m most (some t)++aR 0 1=(.own [.ptr 1 0] :: .own [.p (.int .i64 m),.sl 2 0 k,.sl 3 0 t.2.length,.p (.int .i64 most)] :: .own ((List.range k).map fun i=>.sl (i + 4) 0 (2 * m)) :: .own (ol t.2) :: (t.1.map bZ++[.bf 0 0])):=by
   simp [fM,DX,hk,aR]
  show dQ π s.H π (fM m most (some t)++aR 0 1)
  rw [e]
  exact goal
 refine ⟨by rw [g8]; simp only [Go.Pv.aY,bg,p0],?_,trivial⟩
 simp [bj,bn,hpl]
open Go.Pv
def kF (k:Nat):List Nat:=0 :: List.range' (k + 5) (k + 3)
section
variable {m most:Nat} {t:CS}
theorem dp:(br m t).1.length=t.1.length + 1:=by simp [br]
theorem oN {n mo:Int} {w:Nat} {N:List (List Int)} {U:List Int} : CB n mo w N U=qR n N.length U.length mo :: (.own (eU w N.length) :: .own (ol U) :: N.map bZ):=rfl
theorem xa:(n8 (CB m most (2 * m) t.1 t.2) (cX t.1.length) (CB m most (2 * m) (br m t).1 (br m t).2)).length=2 * t.1.length + 8:=by
 rw [oN (N:=(br m t).1),F8 (by rw [aK]; omega),aK]
 simp [cX,dp]; omega
theorem AL {k i:Nat} (h:i < k + 4):(kF k).getD i 0=if i=0 then 0 else k + 4 + i:=by
 cases i with
 | zero=>rfl
 | succ i =>
  rw [if_neg (by omega)]
  show (List.range' (k + 5) (k + 3)).getD i 0=_
  rw [List.getD_eq_getElem?_getD,List.getElem?_range' (by omega)]
  simp; omega
theorem Ex (k:Nat):(kF k).Nodup:=by
 unfold kF
 rw [List.nodup_cons]
 exact ⟨fun h=>by rw [List.mem_range'_1] at h; omega,List.nodup_range' ..⟩
theorem ln (k:Nat):(kF k).length=k + 4:=by simp [kF]
theorem IS:aA (n8 (CB m most (2 * m) t.1 t.2) (cX t.1.length) (CB m most (2 * m) (br m t).1 (br m t).2)) 0=aH.aY (kF t.1.length) (aA (CB m most (2 * m) (br m t).1 (br m t).2) 0):=by
 have h:=Ii (H0:=CB m most (2 * m) t.1 t.2) (X:=cX t.1.length) (b1:=qR m (br m t).1.length (br m t).2.length most) (R1:=.own (eU (2 * m) (br m t).1.length) :: .own (ol (br m t).2) :: (br m t).1.map bZ) (by rw [aK]; omega)
 rw [aK] at h
 have e:(aH.own (eU (2 * m) (br m t).1.length) :: .own (ol (br m t).2) :: (br m t).1.map bZ).length=t.1.length + 3:=by simp [dp]
 rw [e] at h
 exact h
theorem IZ {i:Nat} (hi:i < t.1.length + 3):aA (n8 (CB m most (2 * m) t.1 t.2) (cX t.1.length) (CB m most (2 * m) (br m t).1 (br m t).2)) (t.1.length + 5 + i)=aH.aY (kF t.1.length) (aA (CB m most (2 * m) (br m t).1 (br m t).2) (i + 1)):=by
 have h:=HC (H0:=CB m most (2 * m) t.1 t.2) (X:=cX t.1.length) (b1:=qR m (br m t).1.length (br m t).2.length most) (R1:=.own (eU (2 * m) (br m t).1.length) :: .own (ol (br m t).2) :: (br m t).1.map bZ) (by rw [aK]; omega) (i:=i)
 rw [aK] at h
 have e:(aH.own (eU (2 * m) (br m t).1.length) :: .own (ol (br m t).2) :: (br m t).1.map bZ).length=t.1.length + 3:=by simp [dp]
 rw [e] at h
 have e2:t.1.length + 3 + (cX t.1.length).length + i=t.1.length + 5 + i:=by simp [cX]
 rw [e2] at h
 refine h.trans ?_
 rw [oN,cA,cA]
 show (List.map _ _).getD i _=aH.aY _ ((aH.own (eU (2 * m) (br m t).1.length) :: .own (ol (br m t).2) :: (br m t).1.map bZ).getD i .dead)
 have hl:i < (aH.own (eU (2 * m) (br m t).1.length) :: .own (ol (br m t).2) :: (br m t).1.map bZ).length:=by rw [e]; exact hi
 rw [List.getD_eq_getElem?_getD,List.getElem?_map,List.getElem?_eq_getElem hl,List.getD_eq_getElem?_getD,List.getElem?_eq_getElem hl]
 rfl
theorem HF {i:Nat} (hi:i < 2):aA (n8 (CB m most (2 * m) t.1 t.2) (cX t.1.length) (CB m most (2 * m) (br m t).1 (br m t).2)) (t.1.length + 3 + i)=aA (cX t.1.length) i:=by
 have h:=Iq (H0:=CB m most (2 * m) t.1 t.2) (X:=cX t.1.length) (b1:=qR m (br m t).1.length (br m t).2.length most) (R1:=.own (eU (2 * m) (br m t).1.length) :: .own (ol (br m t).2) :: (br m t).1.map bZ) (by rw [aK]; omega) (i:=i) (by simpa [cX] using hi)
 rw [aK] at h
 exact h
theorem HT:dQ (kF t.1.length) (n8 (CB m most (2 * m) t.1 t.2) (cX t.1.length) (CB m most (2 * m) (br m t).1 (br m t).2)) (kF t.1.length) (CB m most (2 * m) (br m t).1 (br m t).2):=by
 refine ph (by rw [ln,aK,dp]) fun i hi=>?_
 rw [aK,dp] at hi
 rw [AL (by omega)]
 have hb:aA (CB m most (2 * m) (br m t).1 (br m t).2) i∈CB m most (2 * m) (br m t).1 (br m t).2:=by
  rw [cA,List.getD_eq_getElem?_getD,List.getElem?_eq_getElem (by rw [aK,dp]; omega)]; exact List.getElem_mem _
 refine mK (L:=t.1.length + 4) (fun _ _=>rfl) (by rw [ln]; omega) (qL (by rw [dp]; omega) _ hb) ((List.all_eq_true.1 eV) _ hb) ?_
 split
 ·rename_i h; subst h; exact IS
 have:=IZ (m:=m) (most:=most) (t:=t) (i:=i - 1) (by omega)
 rw [show t.1.length + 5 + (i - 1)=t.1.length + 4 + i by omega,show i - 1 + 1=i by omega] at this
 exact this
def Ih (m most:Nat) (t T:CS):az:=dE (n8 (CB m most (2 * m) t.1 t.2) (cX t.1.length) (CB m most (2 * m) (br m t).1 (br m t).2)) (kF t.1.length) ((CB m most (2 * m) T.1 T.2).map (aH.aY (kF t.1.length)))
theorem Fb {sl:List (Nat × PV)} {T:CS} {s:St} (hT:T.1.length=t.1.length + 1) (hn:s.n=89) (hH:s.H=Ih m most t T) (g8:s.get 8 = .ptr (t.1.length + 3) 0) (hsl:∀ p∈sl,s.get p.1 = .p p.2):∃ π,Le π (TC sl m most T) s:=by
 have hkl:∀ k∈kF t.1.length,k < (n8 (CB m most (2 * m) t.1 t.2) (cX t.1.length) (CB m most (2 * m) (br m t).1 (br m t).2)).length:=fun k hk=>by
  rw [xa]
  simp only [kF,List.mem_cons,List.mem_range'_1] at hk
  omega
 have at_:∀ i,i < t.1.length + 4→aA s.H ((kF t.1.length).getD i 0)=aH.aY (kF t.1.length) (aA (CB m most (2 * m) T.1 T.2) i):=fun i hi=>by
  rw [hH]
  unfold Ih
  have hl:i < (CB m most (2 * m) T.1 T.2).length:=by rw [aK]; omega
  have h1:=vU (kF t.1.length) ((CB m most (2 * m) T.1 T.2).map (aH.aY (kF t.1.length))) _ (Ex _) hkl (by rw [ln,List.length_map,aK]; omega) i (b:=aH.aY (kF t.1.length) ((CB m most (2 * m) T.1 T.2)[i])) (k:=(kF t.1.length).getD i 0) (by rw [List.getElem?_map,List.getElem?_eq_getElem hl]; rfl) (by
   rw [List.getElem?_append_left (by rw [ln]; omega),List.getD_eq_getElem?_getD,List.getElem?_eq_getElem (by rw [ln]; omega)]; rfl)
  rw [cA,List.getD_eq_getElem?_getD,h1,cA,List.getD_eq_getElem?_getD,List.getElem?_eq_getElem hl]; rfl
 have ot_:∀ i,i < 2→aA s.H (t.1.length + 3 + i)=aA (cX t.1.length) i:=fun i hi=>by
  rw [hH]
  unfold Ih
  have h1:=sk (kF t.1.length) ((CB m most (2 * m) T.1 T.2).map (aH.aY (kF t.1.length))) (n8 (CB m most (2 * m) t.1 t.2) (cX t.1.length) (CB m most (2 * m) (br m t).1 (br m t).2)) (t.1.length + 3 + i) (by
   simp only [kF,List.mem_cons,List.mem_range'_1]
   omega) (by rw [xa]; omega)
  rw [cA,List.getD_eq_getElem?_getD,h1,← List.getD_eq_getElem?_getD,← cA]
  exact HF hi
 have hrl:(aH.own (eU (2 * m) T.1.length) :: .own (ol T.2) :: T.1.map bZ).length=t.1.length + 3:=by simp [hT]
 have hp:(lN (t.1.length + 3) (cX t.1.length).length (.own (eU (2 * m) T.1.length) :: .own (ol T.2) :: T.1.map bZ:az).length).getD (T.1.length + 3) 0=t.1.length + 3:=by
  unfold lN
  rw [List.getD_eq_getElem?_getD,List.getElem?_append_right (by simp)]
  simp [cX]
 have hpl:T.1.length + 3 < (lN (t.1.length + 3) (cX t.1.length).length (.own (eU (2 * m) T.1.length) :: .own (ol T.2) :: T.1.map bZ:az).length).length:=by
  unfold lN; simp [cX]
 have hkf:(0 :: List.range' (t.1.length + 3 + (cX t.1.length).length) (aH.own (eU (2 * m) T.1.length) :: .own (ol T.2) :: T.1.map bZ).length)=kF t.1.length:=by
  rw [hrl]; rfl
 refine ⟨_,GY (a:=t.1.length + 3) (X:=cX t.1.length) (X':=cX T.1.length) (by omega) (oN (n:=m) (mo:=most) (w:=2 * m) (N:=T.1) (U:=T.2)) (show (89:Nat)=s.n from hn.symm) rfl ?_ (fun i hi=>?_) (fun i hi=>ot_ i (by simpa [cX] using hi)) rfl dm eV (fun i hi H hh=>?_) ?_⟩
 ·rw [hkf]
  exact at_ 0 (by omega)
 ·rw [hrl] at hi
  rw [hkf]
  have h1:=at_ (i + 1) (by omega)
  rw [AL (by omega),if_neg (by omega)] at h1
  have e2:t.1.length + 3 + (cX t.1.length).length + i=t.1.length + 4 + (i + 1):=by simp [cX]; omega
  rw [e2,h1,oN,cA,cA]
  show aH.aY _ ((aH.own (eU (2 * m) T.1.length) :: .own (ol T.2) :: T.1.map bZ).getD i .dead)=(List.map _ _).getD i _
  have hl:i < (aH.own (eU (2 * m) T.1.length) :: .own (ol T.2) :: T.1.map bZ).length:=by rw [hrl]; exact hi
  rw [List.getD_eq_getElem?_getD,List.getElem?_eq_getElem hl,List.getD_eq_getElem?_getD,List.getElem?_map,List.getElem?_eq_getElem hl]
  rfl
 ·have hi2:i=0∨i=1:=by simp [cX] at hi; omega
  rcases hi2 with rfl | rfl
  ·show dJ _ H _ (.own [.ptr 0 0])
   have e:aA H (t.1.length + 3 + 0) = .own [.ptr 0 0]:=hh
   simp only [dJ,e]
   refine ⟨rfl,?_⟩
   unfold lN; simp [bj,bn]
  show aA H _ = .bf 0 _∧_
  exact ⟨by rw [hp]; exact hh,hpl⟩
 refine ⟨?_,?_,eB hsl⟩
 ·rw [g8]; simp only [Go.Pv.aY,bg,hp]
 simp only [bj,bn,decide_eq_true_eq]; exact hpl
end
end Go.Proofs.YtpobnnfkeekiaaaDoor.Pr
namespace Go.Pv
section
variable {P:Program} {s:St}
theorem uJ {o:Oper} {fo:Operand} {args:Array Operand} {ts:Array TypeId} (ho:o.op = .call { callee:=.value fo,args:=args,argTypes:=ts }) {g:FuncId} {avs:List AV} {H0 H1 X:az} {r:PV}
  (hc:Ee P 1 g avs H0 (.p r) H1) {cap:List AV} (hfo:Bp (s.ev fo)=some (g,cap))
  (hH:s.H=H0++X) (hargs:args.toList.map s.ev++cap=avs) (ha:avs.all (bj H0.length)=true) (hs:H0.all (bD H0.length)=true) (bD:xB 1 (.p r) H0 H1=true):bu P o s (.p r) (n8 H0 X H1):=by
 have hargN:∀ (l:List AV),l.all (bj H0.length)=true→mM (List.range H0.length) l l:=by
  intro l
  induction l with
  | nil=>intro _; trivial
  | cons x r ih =>
   intro hl
   rw [List.all_cons,Bool.and_eq_true] at hl
   refine ⟨?_,ih hl.2⟩
   cases x with
   | p v=>rfl
   | _=>exact ⟨(fO hl.1).symm,by rw [List.length_range]; exact hl.1⟩
 have h:=o6 (P:=P) (q:=1) ho hfo (ks:=List.range H0.length) hc (by rw [hargs]; exact iZ (hargN _ ha)) (by rw [hH]; exact kM fun b hb=>(List.all_eq_true.1 hs) b hb) List.nodup_range (by
  rw [List.all_eq_true]
  intro k hk
  have:=List.mem_range.1 hk
  simp only [decide_eq_true_eq,hH,List.length_append]; omega) bD
 rw [hH] at h
 exact h
end
end Go.Pv
namespace Go.Proofs.YtpobnnfkeekiaaaDoor.Pr
open Go.Pv
section
variable {m most:Nat} {t:CS} {s:St}
theorem w9 {o:Oper} {fo:Operand} {args:Array Operand} {ts:Array TypeId} (ho:o.op = .call { callee:=.value fo,args:=args,argTypes:=ts }) (hfo:Bp (s.ev fo)=some (53,[])) (hm:1≤m∧m≤6) (h:t.2.length=t.1.length) (hk:t.1.length≤100000000) (hf:t.1.length < most)
  (hH:s.H=CB m most (2 * m) t.1 t.2++cX t.1.length) (hargs:args.toList.map s.ev++[]=[.ptr 0 0]):bu Tryd.prog o s (.p (.int .i64 (t.1.length:Nat))) (n8 (CB m most (2 * m) t.1 t.2) (cX t.1.length) (CB m most (2 * m) (br m t).1 (br m t).2)):=
 uJ (X:=cX t.1.length) ho (pZ hm h hk (by omega)) hfo hH hargs (by rw [aK]; simp [bj,bn]) dm sd
theorem BL {o:Oper} {fo:Operand} {args:Array Operand} {ts:Array TypeId} (ho:o.op = .call { callee:=.value fo,args:=args,argTypes:=ts }) (hfo:s.ev fo = .p (.fn 55 [])) (hm:1≤m∧m≤6) (h:cw m (br m t)) (hk:t.1.length≤1000000) {a b:Nat} {x:Int} (ha:a < t.1.length + 1) (hb:b < t.1.length + 1) (hx:x ≠ 0∧-(m:Int)≤x∧x≤m)
  (hH:s.H=n8 (CB m most (2 * m) t.1 t.2) (cX t.1.length) (CB m most (2 * m) (br m t).1 (br m t).2)) (hargs:args.toList.map s.ev++([]:List PV).map .p=[.ptr 0 0,.p (.int .i64 a),.p (.int .i64 x),.p (.int .i64 b)]) :
  bu Tryd.prog o s (.p (.tup [])) (Ih m most t (cJ m (br m t).1 (br m t).2 a x b)):=by
 obtain ⟨_,h2,_⟩:=ec (by omega) h (a:=a) (b:=b) (x:=x) (by rw [dp]; exact ha) (by rw [dp]; exact hb) hx
 have hc:=xp (most:=most) hm h.wr (by rw [dp]; omega) (a:=a) (b:=b) (x:=x) (by rw [dp]; exact ha) (by rw [dp]; exact hb) hx
 have hl:(CB m most (2 * m) (cJ m (br m t).1 (br m t).2 a x b).1 (cJ m (br m t).1 (br m t).2 a x b).2).length=t.1.length + 4:=by rw [aK,h2,dp]
 have k0:(kF t.1.length).getD 0 0=0:=rfl
 have:=pC (P:=Tryd.prog) (s:=s) ho hfo (ks:=kF t.1.length) hc (by
  rw [hargs]
  refine iZ ⟨⟨?_,?_⟩,rfl,rfl,rfl,trivial⟩
  ·simp only [Go.Pv.aY,bg,k0]
  ·rw [ln]; simp [bj,bn]) (by rw [hH]; exact HT) (Ex _) (by
  rw [List.all_eq_true]
  intro k hk
  rw [hH,xa]
  simp only [kF,List.mem_cons,List.mem_range'_1] at hk
  simp only [decide_eq_true_eq]
  omega) (by
  unfold Cu
  rw [Bool.and_eq_true,Bool.and_eq_true,Bool.and_eq_true,Bool.and_eq_true]
  refine ⟨⟨⟨⟨rfl,List.all_eq_true.2 fun bl hbl=>?_⟩,by rw [hl,aK,dp]; simp⟩,ke h2.symm⟩,eV⟩
  have g1:=(List.all_eq_true.1 (dm (n:=m) (most:=most) (w:=2 * m) (N:=(cJ m (br m t).1 (br m t).2 a x b).1) (U:=(cJ m (br m t).1 (br m t).2 a x b).2))) bl hbl
  have g2:=(List.all_eq_true.1 (eV (n:=m) (most:=most) (w:=2 * m) (N:=(cJ m (br m t).1 (br m t).2 a x b).1) (U:=(cJ m (br m t).1 (br m t).2 a x b).2))) bl hbl
  cases bl with
  | own c=>exact g1
  | bf i j=>cases g2
  | _=>rfl)
 rw [hH,hl,ln,Nat.sub_self] at this
 simp only [List.range'_zero,List.append_nil] at this
 exact this
theorem kv {o:Oper} {k:Nat} (ho:o.op = .load 65 (.tmp 8)) (h8:s.get 8 = .ptr k 0) (hH:aA s.H k = .own [.ptr 0 0]):bu Tryd.prog o s (.ptr 0 0) s.H:=by
 refine uV.wp (cY ae (r:=⟨0 < 1,.ptr 0 0,s.H⟩) ?_ (by simp))
 rw [ho]
 have e:s.ev (.tmp 8) = .ptr k 0:=h8
 simp only [an,fl,gp,ak,simprocAttr,e,hH]
theorem kr {o:Oper} {x:Operand} {av:AV} (ho:o.op = .move x) (h:s.ev x=av):bu Tryd.prog o s av s.H:=by
 subst h
 refine uV.wp (cY ae (r:=⟨True,s.ev x,s.H⟩) ?_ trivial)
 rw [ho]
 rfl
end
open Go.Pv
section
variable {m most:Nat}
theorem xA {s:St} {all:Array Oper} {rest:List Oper} {K:St→Prop} {dst:Option Tmp} {ty:TypeId} {pos:String} {aft:Array Edge} {gd:Option (Nat × Bool)} {fo:Operand} {args:Array Operand} {ts:Array TypeId} {t t' : CS} {v:Nat} {w:List Int}
  (hm:1≤m∧m≤6) (h:cw m t) (hmo:most≤100000000) (hl:t.1.length≤most) (hv:v < t.1.length) (hw:Lt m w) (hwl:w.length≤1000000) (ht:rK m most t v w=some t') (hfo:Bp (s.ev fo)=some (54,[])) (hg:a8 all s { dst:=dst,op:=.call { callee:=.value fo,args:=args,argTypes:=ts },type:=ty,pos:=pos,after:=aft,guard:=gd } = some true)
  (hH:s.H=CB m most (2 * m) t.1 t.2++cX t.1.length) (hargs:args.toList.map s.ev++[]=[.ptr 0 0,.p (.int .i64 v),.p (.list (il w))]) (hd:ay s dst)
  (hK:dL Tryd.prog false all rest K (({ s with H:=n8 (CB m most (2 * m) t.1 t.2) (cX t.1.length) (CB m most (2 * m) t'.1 t'.2) } : St).put dst (.p (.tup [])))) :
  dL Tryd.prog false all ({ dst:=dst,op:=.call { callee:=.value fo,args:=args,argTypes:=ts },type:=ty,pos:=pos,after:=aft,guard:=gd } :: rest) K s:=by
 have hc:=xy hm h hmo hl hv hw hwl
 rw [ht] at hc
 exact jB (H0:=CB m most (2 * m) t.1 t.2) (X:=cX t.1.length) hc hfo hg hH hargs (by rw [aK]; simp [bj,bn]) dm sd hd hK
theorem EZ {t:CS} {v:Nat} {w:List Int} (hm:1≤m∧m≤6) (h:cw m t) (hmo:most≤100000000) (hl:t.1.length≤most) (hv:v < t.1.length) (hw:Lt m w) (hwl:w.length≤1000000) (ht:rK m most t v w=none):Gb Tryd.prog 1 72 54 [.ptr 0 0,.p (.int .i64 v),.p (.list (il w))] (CB m most (2 * m) t.1 t.2):=by
 have hc:=xy hm h hmo hl hv hw hwl
 rw [ht] at hc
 exact hc
theorem y6 (hm:m≤6):cw m (br m ([],[])):=
 (lH (s:=([],[])) (by omega) ⟨⟨rfl,fun v hv=>by simp at hv,fun r hr=>by simp at hr⟩,fun u x v hu=>by simp [gN] at hu⟩).1
set_option maxHeartbeats 8000000 in
set_option maxRecDepth 20000 in
theorem Eb (hm:1≤m∧m≤6) {mo:Nat} (hmo:1≤mo∧mo≤1000) {rels bb:List (List Int)} (hr:∀ w∈rels,Lt m w∧w.length≤1000000) (hs:∀ w∈bb,Lt m w∧w.length≤1000000) (hrl:rels.length≤1000000) (hsl:bb.length≤1000000) (hbig:most=max (20 * mo) 20000) :
  Ee Tryd.prog 0 45 [.p (.int .i64 m),.p (.list (ll rels)),.p (.list (ll bb)),.p (.int .i64 mo)] [] (vL (po m most rels bb)) (fM m most (po m most rels bb)):=by
 obtain ⟨o,ho⟩:∃ o,po m most rels bb=o:=⟨_,rfl⟩
 rw [ho]
 have hb1:most≤100000000:=by omega
 have hb2:20000≤most:=by omega
 have hrel:∀ w∈rels,Lt m w:=fun w hw=>(hr w hw).1
 refine G3 (t:=72) (c0:=.p .np) (nilv:=.p .np) (o:=o.map fun t=>fM m most (some t)) (cell:=8) (x:=15) (ty:=65) (g:=52) ae Tryd.func45 rfl (by rw [Tryd.results45]) (by kernel_rfl) (by rw [Tryd.ntmps45]; show 4≤89; decide) (by rw [Tryd.ntmps45]; decide) (by rw [Tryd.ntmps45]; decide) (by decide) Tryd.func52 (by kernel_rfl) (by kernel_rfl) ?h0 ?h2 ?hHr ?hd1 ?hd2 ?hrv vi xm ?hH3 ?hr
 case hHr=>cases o<;>rfl
 case hd1=>intro Hf _ C m' w v R; exact Es C m' w v R
 case hd2=>intro C m' w v ch hch R; exact CL C m' w v ch hch R
 case hH3=>cases o<;>simp [fM]
 case hr =>
  cases o with
  | none=>rfl
  | some t=>simp [vL,fM,DX,bj,bn]
 case hrv =>
  intro n
  cases o with
  | none=>exact ⟨_,rfl,by simp⟩
  | some t=>exact ⟨_,rfl,by simp⟩
 case h0 =>
  rw [Tryd.ntmps45]
  simp only [cK]
  refine ab fun K hK=>aa ae ?_
  simp only [an,fl,gp,ak,simprocAttr]
  refine af ?_ (hK _ ?_)<;>clear hK K
  ·trivial
  exact ⟨rfl,rfl⟩
 rw [Tryd.ntmps45]
 simp only [cK]
 refine qm ?_
 refine ab fun K hK=>aa ae ?_
 simp only [an,fl,gp,ak,simprocAttr,(show (if 20000 > 20 * (mo:Int) then (20000:Int) else 20 * (mo:Int))=(most:Int) by split<;>omega)]
 refine af ?_ (hK _ ?_)<;>clear hK K
 ·first|omega|(simp only [ah]; omega)
 refine qa (qm ?_)
 refine qJ 2 1 rfl rfl ?_
 refine qJ 2 2 rfl rfl ?_
 refine pH [2,3,4,0,1] (s1:=TC [(0,.int .i64 m),(1,.list (ll rels)),(2,.list (ll bb))] m most ([],[])) ?_ ?_
 ·unfold TC cX
  exact ⟨rfl,by decide,⟨⟨rfl,rfl⟩,⟨rfl,rfl⟩,⟨rfl,rfl⟩,⟨rfl,rfl⟩,⟨rfl,by decide⟩,trivial⟩,rfl,rfl,rfl,rfl,rfl,rfl,rfl,rfl,trivial⟩
 unfold TC
 simp only [List.map_cons,List.map_nil]
 refine ab fun K hK=>aa ae ?_
 simp only [an,fl,gp,ak,simprocAttr,xu]
 refine ao ?_ (jB (H0:=CB m most (2 * m) [] []) (X:=cX 0) (pZ hm rfl (by simp) (by simp; omega)) rfl rfl rfl rfl (by rw [aK]; simp [bj,bn]) dm sd (by simp only [ay,Nat.reduceLT]) (aa ae ?_))
 ·exact trivial
 simp only [an,fl,gp,ak,simprocAttr]
 refine af trivial (hK _ ?_)<;>clear hK K
 refine qa (qm (qm ?_))
 refine wj [(0,.int .i64 m),(1,.list (ll rels)),(2,.list (ll bb))] ([],[]) (br m ([],[])) rfl rfl rfl (fun p hp=>by
   simp only [List.mem_cons,List.not_mem_nil,or_false] at hp
   rcases hp with rfl | rfl | rfl<;>rfl) ?_
 have k0:cw m (br m ([],[])):=y6 hm.2
 have kl:(br m ([],[])).1.length=1:=rfl
 obtain ⟨t0,ht0⟩:∃ t0,br m ([],[])=t0:=⟨_,rfl⟩
 have ho1:(re m most bb t0).bind (ju m most rels (most + 1) 0)=o:=by rw [← ho,← ht0]; rfl
 rw [ht0] at k0 kl ⊢
 unfold TC
 simp only [List.map_cons,List.map_nil]
 refine ab fun K hK=>aa ae ?_
 simp only [an,fl,gp,ak,simprocAttr,aC]
 refine af trivial (hK _ ?_)<;>clear hK K
 refine qa (ql ?_)
 refine aD (ι:=Nat × CS) (fun q=>TC [(0,.int .i64 m),(1,.list (ll rels)),(24,.list (ll bb)),(25,.int .i64 bb.length),(26,.int .i64 q.1)] m most q.2) (fun q=>q.1≤bb.length∧cw m q.2∧0 < q.2.1.length∧q.2.1.length≤most∧(re m most (bb.drop q.1) q.2).bind (ju m most rels (most + 1) 0)=o) (fun q=>bb.length - q.1) (0,t0) ⟨Nat.zero_le _,k0,by simp only; omega,by simp only; omega,ho1⟩ _ (gT rfl rfl rfl (fun p hp=>by
   simp only [List.mem_cons,List.not_mem_nil,or_false] at hp
   rcases hp with rfl | rfl | rfl | rfl | rfl<;>rfl)) fun q hq=>?_
 obtain ⟨i,t⟩:=q
 obtain ⟨q1,q2,q3,q4,q5⟩:=hq
 simp only at q1 q2 q3 q4 q5
 show Holds _ _ _ (TC [(0,.int .i64 m),(1,.list (ll rels)),(24,.list (ll bb)),(25,.int .i64 bb.length),(26,.int .i64 i)] m most t)
 unfold TC
 simp only [List.map_cons,List.map_nil]
 refine qm ?_
 refine ab fun K hK=>aa ae ?_
 simp only [an,fl,gp,ak,simprocAttr]
 refine af trivial (hK _ ?_)<;>clear hK K
 refine qa (qm ?_)
 refine aq rfl (fun hC1=>?_) (fun hC1=>?_)
 ·(try simp only [aE] at hC1)
  have hil:i < bb.length:=by omega
  obtain ⟨w,hw⟩:∃ w,bb.getD i []=w:=⟨_,rfl⟩
  have hmem:w∈bb:=by rw [← hw,List.getD_eq_getElem?_getD,List.getElem?_eq_getElem hil]; exact List.getElem_mem hil
  have hdr:bb.drop i=w :: bb.drop (i + 1):=by
   rw [List.drop_eq_getElem_cons hil,← hw,List.getD_eq_getElem?_getD,List.getElem?_eq_getElem hil]; rfl
  obtain ⟨w1,w2⟩:=hs w hmem
  refine qh (qa (qm (ql (qm ?_))))
  refine ab fun K hK=>aa ae ?_
  simp only [an,fl,gp,ak,simprocAttr,aC,b8 hil,hw]
  refine af ?_ (hK _ ?_)<;>clear hK K
  ·omega
  refine qa ?_
  rw [hdr] at q5
  unfold re at q5
  cases ht:rK m most t 0 w with
  | none =>
   rw [ht] at q5
   have ho2:o=none:=q5.symm
   subst ho2
   repeat (first|refine qa ?_|refine qb ?_|refine qc ?_|refine qd ?_|refine qe ?_|refine qf ?_|refine qg rfl ?_|refine qh ?_|refine qi ?_|refine qj ?_|refine qk ?_|refine ql ?_|refine qm ?_)
   refine sF (t:=72) 2 (qC fun K hK=>?_)
   simp only [List.take_succ_cons,List.take_zero]
   refine aa ae ?_
   simp only [an,fl,gp,ak,simprocAttr,xu rfl]
   refine af trivial (hK _ ?_)<;>clear hK K
   refine ⟨_,_,rfl,rfl,zP (t:=t) rfl (EZ hm q2 hb1 q4 q3 w1 w2 ht) rfl rfl rfl (by rw [aK]; simp [bj,bn]),fun ch hch=>?_⟩
   exact tI (m:=m) (most:=most) (s:=⟨89,[],[]⟩) (c0:=.dead) (t:=t) hch rfl rfl
  | some t1=>_
  rw [ht] at q5
  simp only [Option.bind_some] at q5
  obtain ⟨a1,a2,a3⟩:=kQ (by omega) q2 q3 w1 ht
  have a4:=sR (by omega) q2 q3 w1 q4 ht
  refine ab fun K hK=>aa ae ?_
  simp only [an,fl,gp,ak,simprocAttr,xu rfl]
  refine ao ?_ (xA hm q2 hb1 q4 q3 w1 w2 ht rfl rfl rfl rfl (by simp only [ay,Nat.reduceLT]) (aa ae ?_))
  ·exact trivial
  simp only [an,fl,gp,ak,simprocAttr]
  refine af trivial (hK _ ?_)<;>clear hK K
  refine qd (qa ?_)
  refine wj [(0,.int .i64 m),(1,.list (ll rels)),(24,.list (ll bb)),(25,.int .i64 bb.length),(26,.int .i64 i)] t t1 rfl rfl rfl (fun p hp=>by
    simp only [List.mem_cons,List.not_mem_nil,or_false] at hp
    rcases hp with rfl | rfl | rfl | rfl | rfl<;>rfl) ?_
  unfold TC
  simp only [List.map_cons,List.map_nil]
  refine ab fun K hK=>aa ae ?_
  simp only [an,fl,gp,ak,simprocAttr]
  refine af ?_ (hK _ ?_)<;>clear hK K
  ·first|exact trivial|omega|(simp only [ah] at *; omega)|(simp [ah] at *; omega)|simp_all
  refine qa ?_
  refine ⟨(i + 1,t1),List.range (t1.1.length + 5),⟨hil,a1,Nat.lt_of_lt_of_le q3 a2.len,a4,q5⟩,by simp only; omega,?_⟩
  show Le _ (TC [(0,.int .i64 m),(1,.list (ll rels)),(24,.list (ll bb)),(25,.int .i64 bb.length),(26,.int .i64 ((i + 1:Nat):Int))] m most t1) _
  exact gT rfl rfl rfl (fun p hp=>by
    simp only [List.mem_cons,List.not_mem_nil,or_false] at hp
    rcases hp with rfl | rfl | rfl | rfl | rfl<;>rfl)
 (try simp only [aE] at hC1)
 have hie:i=bb.length:=by omega
 rw [hie,List.drop_length] at q5
 simp only [re,Option.bind_some] at q5
 refine qj (qc (qc (qf (qa (qm (qm ?_))))))
 refine ab fun K hK=>aa ae ?_
 simp only [an,fl,gp,ak,simprocAttr]
 refine af trivial (hK _ ?_)<;>clear hK K
 refine qa (ql ?_)
 refine aD (ι:=Nat × CS) (fun q=>TC [(0,.int .i64 m),(1,.list (ll rels)),(11,.int .i64 q.1)] m most q.2) (fun q=>q.1≤q.2.1.length∧cw m q.2∧q.2.1.length≤most∧ju m most rels (most + 1 - q.1) q.1 q.2=o) (fun q=>most + 1 - q.1) (0,t) ⟨Nat.zero_le _,q2,q4,q5⟩ (List.range (t.1.length + 5)) ?_ fun q hq=>?_
 ·exact gT (sl:=[(0,.int .i64 m),(1,.list (ll rels)),(11,.int .i64 ((0:Nat):Int))]) rfl rfl rfl (fun p hp=>by
   simp only [List.mem_cons,List.not_mem_nil,or_false] at hp
   rcases hp with rfl | rfl | rfl<;>rfl)
 clear q1 q2 q3 q4 q5
 obtain ⟨v,t⟩:=q
 obtain ⟨q1,q2,q4,q5⟩:=hq
 simp only at q1 q2 q4 q5
 show Holds _ _ _ (TC [(0,.int .i64 m),(1,.list (ll rels)),(11,.int .i64 v)] m most t)
 unfold TC
 simp only [List.map_cons,List.map_nil]
 refine qm (qm ?_)
 refine ab fun K hK=>aa ae ?_
 simp only [an,fl,gp,ak,simprocAttr,xu rfl,Jn]
 refine af ?_ (hK _ ?_)<;>clear hK K
 ·first|exact trivial|omega|(simp only [ah] at *; omega)|(simp [ah] at *; omega)|simp_all
 refine qa ?_
 refine aq rfl (fun hC2=>?_) (fun hC2=>?_)
 ·(try simp only [aE] at hC2)
  have hvl:v < t.1.length:=by omega
  have q6:((kX m most v rels t).bind (iE m most v (iT m))).bind (ju m most rels (most - v) (v + 1))=o:=by
   rw [show most + 1 - v=(most - v) + 1 by omega] at q5
   unfold ju at q5
   rw [if_pos hvl] at q5
   exact q5
  refine qh (qa (qm (ql (qm (qm ?_)))))
  refine ab fun K hK=>aa ae ?_
  simp only [an,fl,gp,ak,simprocAttr,aC]
  refine af trivial (hK _ ?_)<;>clear hK K
  refine qa (ql ?_)
  refine aD (ι:=Nat × CS) (fun q=>TC [(0,.int .i64 m),(1,.list (ll rels)),(11,.int .i64 v),(43,.list (ll rels)),(44,.int .i64 rels.length),(45,.int .i64 q.1)] m most q.2) (fun q=>q.1≤rels.length∧cw m q.2∧v < q.2.1.length∧q.2.1.length≤most∧((kX m most v (rels.drop q.1) q.2).bind (iE m most v (iT m))).bind (ju m most rels (most - v) (v + 1))=o) (fun q=>rels.length - q.1) (0,t) ⟨Nat.zero_le _,q2,hvl,q4,q6⟩ (List.range (t.1.length + 5)) ?_ fun q hq=>?_
  ·exact gT (sl:=[(0,.int .i64 m),(1,.list (ll rels)),(11,.int .i64 v),(43,.list (ll rels)),(44,.int .i64 rels.length),(45,.int .i64 ((0:Nat):Int))]) rfl rfl rfl (fun p hp=>by
    simp only [List.mem_cons,List.not_mem_nil,or_false] at hp
    rcases hp with rfl | rfl | rfl | rfl | rfl | rfl<;>rfl)
  clear q1 q2 q4 q5 q6 hC2 hvl
  obtain ⟨j,t⟩:=q
  obtain ⟨q1,q2,q3,q4,q5⟩:=hq
  simp only at q1 q2 q3 q4 q5
  show Holds _ _ _ (TC [(0,.int .i64 m),(1,.list (ll rels)),(11,.int .i64 v),(43,.list (ll rels)),(44,.int .i64 rels.length),(45,.int .i64 j)] m most t)
  unfold TC
  simp only [List.map_cons,List.map_nil]
  refine qm ?_
  refine ab fun K hK=>aa ae ?_
  simp only [an,fl,gp,ak,simprocAttr]
  refine af trivial (hK _ ?_)<;>clear hK K
  refine qa (qm ?_)
  refine aq rfl (fun hC3=>?_) (fun hC3=>?_)
  ·(try simp only [aE] at hC3)
   have hjl:j < rels.length:=by omega
   obtain ⟨w,hw⟩:∃ w,rels.getD j []=w:=⟨_,rfl⟩
   have hmem:w∈rels:=by rw [← hw,List.getD_eq_getElem?_getD,List.getElem?_eq_getElem hjl]; exact List.getElem_mem hjl
   have hdr:rels.drop j=w :: rels.drop (j + 1):=by
    rw [List.drop_eq_getElem_cons hjl,← hw,List.getD_eq_getElem?_getD,List.getElem?_eq_getElem hjl]; rfl
   obtain ⟨w1,w2⟩:=hr w hmem
   obtain ⟨g1,g2⟩:=cU (by omega) q2 q3
   have ex0:=eA (N:=t.1) q2.wr (by omega) (U':=aT t.2 v) g2
   refine qh (qa (qm (ql (qm ?_))))
   refine ab fun K hK=>aa ae ?_
   simp only [an,fl,gp,ak,simprocAttr,aC,b8 hjl,hw]
   refine af ?_ (hK _ ?_)<;>clear hK K
   ·omega
   refine qa (qm ?_)
   refine ab fun K hK=>aa ae ?_
   simp only [an,fl,gp,ak,simprocAttr,xu rfl]
   refine ao ?_ (dT (N:=t.1) (U:=t.2) (X:=cX t.1.length) q2.wr (by omega) (v:=v) q3 rfl rfl rfl rfl (by simp only [ay,Nat.reduceLT]) (aa ae ?_))
   ·exact trivial
   simp only [an,fl,gp,ak,simprocAttr]
   refine af trivial (hK _ ?_)<;>clear hK K
   refine qa ?_
   refine aq rfl (fun hC4=>?_) (fun hC4=>?_)
   ·(try simp only [aE] at hC4)
    have hov:dO t.2 v=v:=by omega
    rw [hdr] at q5
    unfold kX at q5
    rw [if_pos hov] at q5
    cases ht:rK m most (t.1,aT t.2 v) v w with
    | none =>
     rw [ht] at q5
     have ho2:o=none:=q5.symm
     subst ho2
     repeat (first|refine qa ?_|refine qb ?_|refine qc ?_|refine qd ?_|refine qe ?_|refine qf ?_|refine qg rfl ?_|refine qh ?_|refine qi ?_|refine qj ?_|refine qk ?_|refine ql ?_|refine qm ?_)
     refine sF (t:=72) 3 (qC fun K hK=>?_)
     simp only [List.take_succ_cons,List.take_zero]
     refine aa ae ?_
     simp only [an,fl,gp,ak,simprocAttr,xu rfl]
     refine af trivial (hK _ ?_)<;>clear hK K
     refine ⟨_,_,rfl,rfl,zP (t:=(t.1,aT t.2 v)) rfl (EZ (t:=(t.1,aT t.2 v)) hm g1 hb1 q4 q3 w1 w2 ht) rfl rfl rfl (by rw [aK]; simp [bj,bn]),fun ch hch=>?_⟩
     exact tI (m:=m) (most:=most) (s:=⟨89,[],[]⟩) (c0:=.dead) (t:=(t.1,aT t.2 v)) hch rfl rfl
    | some t1=>_
    rw [ht] at q5
    simp only [Option.bind_some] at q5
    obtain ⟨a1,a2,a3⟩:=kQ (by omega) g1 q3 w1 ht
    have a4:=sR (by omega) g1 q3 w1 q4 ht
    refine ab fun K hK=>aa ae ?_
    simp only [an,fl,gp,ak,simprocAttr,xu rfl]
    refine ao ?_ (xA (t:=(t.1,aT t.2 v)) hm g1 hb1 q4 q3 w1 w2 ht rfl rfl rfl rfl (by simp only [ay,Nat.reduceLT]) (aa ae ?_))
    ·exact trivial
    simp only [an,fl,gp,ak,simprocAttr]
    refine af trivial (hK _ ?_)<;>clear hK K
    refine qd (qa ?_)
    refine wj [(0,.int .i64 m),(1,.list (ll rels)),(11,.int .i64 v),(43,.list (ll rels)),(44,.int .i64 rels.length),(45,.int .i64 j)] (t.1,aT t.2 v) t1 rfl rfl rfl (fun p hp=>by
      simp only [List.mem_cons,List.not_mem_nil,or_false] at hp
      rcases hp with rfl | rfl | rfl | rfl | rfl | rfl<;>rfl) ?_
    unfold TC
    simp only [List.map_cons,List.map_nil]
    refine ab fun K hK=>aa ae ?_
    simp only [an,fl,gp,ak,simprocAttr]
    refine af ?_ (hK _ ?_)<;>clear hK K
    ·first|exact trivial|omega|(simp only [ah] at *; omega)|(simp [ah] at *; omega)|simp_all
    refine qa ?_
    refine ⟨(j + 1,t1),List.range (t1.1.length + 5),⟨hjl,a1,Nat.lt_of_lt_of_le q3 a2.len,a4,q5⟩,by simp only; omega,?_⟩
    show Le _ (TC [(0,.int .i64 m),(1,.list (ll rels)),(11,.int .i64 v),(43,.list (ll rels)),(44,.int .i64 rels.length),(45,.int .i64 ((j + 1:Nat):Int))] m most t1) _
    exact gT rfl rfl rfl (fun p hp=>by
      simp only [List.mem_cons,List.not_mem_nil,or_false] at hp
      rcases hp with rfl | rfl | rfl | rfl | rfl | rfl<;>rfl)
   (try simp only [aE] at hC4)
   have hov:¬ dO t.2 v=v:=by
    intro e; rw [e] at hC4; simp at hC4
   rw [hdr] at q5
   unfold kX at q5
   rw [if_neg hov] at q5
   refine qh (qd (qa ?_))
   refine ab fun K hK=>aa ae ?_
   simp only [an,fl,gp,ak,simprocAttr]
   refine af ?_ (hK _ ?_)<;>clear hK K
   ·first|exact trivial|omega|(simp only [ah] at *; omega)|(simp [ah] at *; omega)|simp_all
   refine qa ?_
   refine ⟨(j + 1,(t.1,aT t.2 v)),List.range (t.1.length + 5),⟨hjl,g1,q3,q4,q5⟩,by simp only; omega,?_⟩
   show Le _ (TC [(0,.int .i64 m),(1,.list (ll rels)),(11,.int .i64 v),(43,.list (ll rels)),(44,.int .i64 rels.length),(45,.int .i64 ((j + 1:Nat):Int))] m most (t.1,aT t.2 v)) _
   exact gT (t:=(t.1,aT t.2 v)) rfl rfl rfl (fun p hp=>by
     simp only [List.mem_cons,List.not_mem_nil,or_false] at hp
     rcases hp with rfl | rfl | rfl | rfl | rfl | rfl<;>rfl)
  (try simp only [aE] at hC3)
  have hje:j=rels.length:=by omega
  rw [hje,List.drop_length] at q5
  simp only [kX,Option.bind_some] at q5
  have q6:(iE m most v ((iT m).drop 0) t).bind (ju m most rels (most - v) (v + 1))=o:=q5
  refine qj (qc (qc (qf (qa (qm ?_)))))
  refine ab fun K hK=>aa ae ?_
  simp only [an,fl,gp,ak,simprocAttr]
  refine af ?_ (hK _ ?_)<;>clear hK K
  ·first|omega|(simp only [ah]; omega)
  refine qa (ql ?_)
  refine aD (ι:=Nat × CS) (fun q=>TC [(0,.int .i64 m),(1,.list (ll rels)),(11,.int .i64 v),(14,.int .i64 ((q.1:Int) - m))] m most q.2) (fun q=>q.1≤2 * m + 1∧cw m q.2∧v < q.2.1.length∧q.2.1.length≤most∧(iE m most v ((iT m).drop q.1) q.2).bind (ju m most rels (most - v) (v + 1))=o) (fun q=>2 * m + 1 - q.1) (0,t) ⟨Nat.zero_le _,q2,q3,q4,q6⟩ (List.range (t.1.length + 5)) ?_ fun q hq=>?_
  ·have e0:(((0:Nat):Int) - (m:Int)) = -(m:Int):=by omega
   exact gT (sl:=[(0,.int .i64 m),(1,.list (ll rels)),(11,.int .i64 v),(14,.int .i64 (((0:Nat):Int) - m))]) rfl rfl rfl (fun p hp=>by
    simp only [List.mem_cons,List.not_mem_nil,or_false] at hp
    rcases hp with rfl | rfl | rfl | rfl
    ·rfl
    ·rfl
    ·rfl
    rw [e0]; rfl)
  clear q1 q2 q3 q4 q5 q6 hje
  obtain ⟨i,t⟩:=q
  obtain ⟨q1,q2,q3,q4,q5⟩:=hq
  simp only at q1 q2 q3 q4 q5
  obtain ⟨x,hx⟩:∃ x,(i:Int) - m=x:=⟨_,rfl⟩
  obtain ⟨g1,g2⟩:=cU (by omega) q2 q3
  have ex0:=eA (N:=t.1) q2.wr (by omega) (U':=aT t.2 v) g2
  have ev:dO t.2 v=rV t.2 v:=bS q2.wr.fo (by rw [q2.wr.len]; exact q3)
  show Holds _ _ _ (TC [(0,.int .i64 m),(1,.list (ll rels)),(11,.int .i64 v),(14,.int .i64 ((i:Int) - m))] m most t)
  rw [hx]
  unfold TC
  simp only [List.map_cons,List.map_nil]
  refine qm (qm ?_)
  obtain ⟨cnd,hcnd⟩:∃ b,(decide (x≤m) && decide (dO t.2 v=v))=b:=⟨_,rfl⟩
  obtain ⟨U2,hU2⟩:∃ U2,(if x≤m then aT t.2 v else t.2)=U2:=⟨_,rfl⟩
  refine o0 (TC [(0,.int .i64 m),(1,.list (ll rels)),(11,.int .i64 v),(14,.int .i64 x),(70,.bool cnd)] m most (t.1,U2)) ?_ ?_
  ·by_cases hxm:x≤m
   ·have hdec:decide (x≤(m:Int))=true:=by simpa using hxm
    refine ab fun K hK=>aa ae ?_
    simp only [an,fl,gp,ak,simprocAttr,hdec,xu rfl]
    refine ao ?_ (dT (N:=t.1) (U:=t.2) (X:=cX t.1.length) q2.wr (by omega) (v:=v) q3 rfl rfl rfl rfl (by simp only [ay,Nat.reduceLT]) (aa ae ?_))
    ·first|exact trivial|omega|(simp; omega)
    simp only [an,fl,gp,ak,simprocAttr,hdec]
    refine af trivial (hK _ ?_)<;>clear hK K
    rw [if_pos hxm] at hU2
    subst hU2
    have hc:decide (((dO t.2 v:Nat):Int)=(v:Int))=cnd:=by
     rw [← hcnd,decide_eq_true hxm,Bool.true_and]
     exact decide_eq_decide.2 Int.ofNat_inj
    exact ⟨rfl,_,gT (t:=(t.1,aT t.2 v)) rfl rfl rfl (fun p hp=>by
     simp only [List.mem_cons,List.not_mem_nil,or_false] at hp
     rcases hp with rfl | rfl | rfl | rfl | rfl
     ·rfl
     ·rfl
     ·rfl
     ·rfl
     rw [← hc]; rfl)⟩
   have hdec:decide (x≤(m:Int))=false:=by simpa using hxm
   refine ab fun K hK=>aa ae ?_
   simp only [an,fl,gp,ak,simprocAttr,hdec]
   refine af trivial (hK _ ?_)<;>clear hK K
   rw [if_neg hxm] at hU2
   subst hU2
   have hc:false=cnd:=by rw [← hcnd]; simp [hxm]
   exact ⟨rfl,_,gT (t:=(t.1,t.2)) rfl rfl rfl (fun p hp=>by
    simp only [List.mem_cons,List.not_mem_nil,or_false] at hp
    rcases hp with rfl | rfl | rfl | rfl | rfl
    ·rfl
    ·rfl
    ·rfl
    ·rfl
    rw [← hc]; rfl)⟩
  unfold TC
  simp only [List.map_cons,List.map_nil]
  refine qa ?_
  refine aq rfl (fun hC5=>?_) (fun hC5=>?_)
  ·(try simp only [aE] at hC5)
   have hcc:cnd=true:=hC5
   rw [hcc] at hcnd
   simp only [Bool.and_eq_true,decide_eq_true_eq] at hcnd
   obtain ⟨hxm,hov⟩:=hcnd
   rw [if_pos hxm] at hU2
   subst hU2
   have hi2:i < 2 * m + 1:=by omega
   have hdr:(iT m).drop i=x :: (iT m).drop (i + 1):=by
    rw [List.drop_eq_getElem_cons (by rw [mb]; exact hi2)]
    congr 1
    simp only [iT,List.getElem_map,List.getElem_range]
    exact hx
   rw [hdr] at q5
   unfold iE at q5
   rw [if_pos hov] at q5
   have hroot:rV t.2 v=v:=by rw [← ev]; exact hov
   have hr1:rV (aT t.2 v) v=v:=by rw [g2 v q3]; exact hroot
   have hgv:(aT t.2 v).getD v 0=(v:Int):=pf g1 q3 hr1
   refine qh (qa (qm (ql (qm ?_))))
   obtain ⟨cn2,hcn2⟩:∃ b,(decide (x ≠ 0) && decide (rg (t.1.getD v []) x < 0))=b:=⟨_,rfl⟩
   obtain ⟨U3,hU3⟩:∃ U3,(if x ≠ 0 then gi t.1 (aT t.2 v) v x else aT t.2 v)=U3:=⟨_,rfl⟩
   refine o0 (TC [(0,.int .i64 m),(1,.list (ll rels)),(11,.int .i64 v),(14,.int .i64 x),(81,.bool cn2)] m most (t.1,U3)) ?_ ?_
   ·by_cases hx0:x=0
    ·have hdec:(!decide (x=0))=false:=by simpa using hx0
     refine ab fun K hK=>aa ae ?_
     simp only [an,fl,gp,ak,simprocAttr,hdec]
     refine af trivial (hK _ ?_)<;>clear hK K
     rw [if_neg (by simpa using hx0)] at hU3
     subst hU3
     have hc:false=cn2:=by rw [← hcn2]; simp [hx0]
     exact ⟨rfl,_,gT (t:=(t.1,aT t.2 v)) rfl rfl rfl (fun p hp=>by
      simp only [List.mem_cons,List.not_mem_nil,or_false] at hp
      rcases hp with rfl | rfl | rfl | rfl | rfl
      ·rfl
      ·rfl
      ·rfl
      ·rfl
      rw [← hc]; rfl)⟩
    have hdec:(!decide (x=0))=true:=by simpa using hx0
    refine ab fun K hK=>aa ae ?_
    simp only [an,fl,gp,ak,simprocAttr,hdec,xu rfl]
    refine ao ?_ (mj (N:=t.1) (U:=aT t.2 v) (X:=cX t.1.length) hm g1.wr (by omega) (v:=v) q3 hgv (x:=x) ⟨hx0,by omega,by omega⟩ rfl rfl rfl rfl (by simp only [ay,Nat.reduceLT]) (aa ae ?_))
    ·first|exact trivial|omega|(simp; omega)
    simp only [an,fl,gp,ak,simprocAttr,hdec]
    refine af trivial (hK _ ?_)<;>clear hK K
    rw [if_pos hx0] at hU3
    subst hU3
    have hc:decide (nk t.1 (aT t.2 v) v x < 0)=cn2:=by
     rw [← hcn2]
     by_cases hd:rg (t.1.getD v []) x < 0
     ·have e:nk t.1 (aT t.2 v) v x = -1:=by unfold nk; rw [if_pos hd]
      rw [e,decide_eq_true hd,decide_eq_true hx0]; rfl
     have e:nk t.1 (aT t.2 v) v x=(dO (aT t.2 v) (rg (t.1.getD v []) x).toNat:Nat):=by unfold nk; rw [if_neg hd]
     rw [e,decide_eq_false hd,decide_eq_true hx0]; exact decide_eq_false (by omega)
    exact ⟨rfl,_,gT (t:=(t.1,gi t.1 (aT t.2 v) v x)) rfl rfl rfl (fun p hp=>by
     simp only [List.mem_cons,List.not_mem_nil,or_false] at hp
     rcases hp with rfl | rfl | rfl | rfl | rfl
     ·rfl
     ·rfl
     ·rfl
     ·rfl
     rw [← hc]; rfl)⟩
   unfold TC
   simp only [List.map_cons,List.map_nil]
   refine qa ?_
   refine aq rfl (fun hC6=>?_) (fun hC6=>?_)
   ·(try simp only [aE] at hC6)
    have hcc:cn2=true:=hC6
    rw [hcc] at hcn2
    simp only [Bool.and_eq_true,decide_eq_true_eq] at hcn2
    obtain ⟨hx0,hd⟩:=hcn2
    rw [if_pos hx0] at hU3
    have e3:gi t.1 (aT t.2 v) v x=aT t.2 v:=by unfold gi; rw [if_pos hd]
    rw [e3] at hU3
    subst hU3
    rw [if_neg hx0,if_pos hd] at q5
    obtain ⟨t2,ht2⟩:∃ t2:CS,(t.1,aT t.2 v)=t2:=⟨_,rfl⟩
    have hl2:t2.1.length=t.1.length:=by rw [← ht2]
    have q5:(if t2.1.length < most then iE m most v ((iT m).drop (i + 1)) (cJ m (br m t2).1 (br m t2).2 v x t2.1.length) else none).bind (ju m most rels (most - v) (v + 1))=o:=by
     rw [← ht2]; exact q5
    have g1:cw m t2:=by rw [← ht2]; exact g1
    have q3:v < t2.1.length:=by rw [hl2]; exact q3
    have q4:t2.1.length≤most:=by rw [hl2]; exact q4
    show Holds _ _ _ (TC [(0,.int .i64 m),(1,.list (ll rels)),(11,.int .i64 v),(14,.int .i64 x),(81,.bool cn2)] m most (t.1,aT t.2 v))
    rw [ht2]
    unfold TC
    simp only [List.map_cons,List.map_nil]
    rcases Nat.lt_or_ge t2.1.length most with hmx | hmx
    rotate_left
    ·have ho2:o=none:=by
      rw [← q5,if_neg (by omega)]; rfl
     subst ho2
     repeat (first|refine qa ?_|refine qb ?_|refine qc ?_|refine qd ?_|refine qe ?_|refine qf ?_|refine qg rfl ?_|refine qh ?_|refine qi ?_|refine qj ?_|refine qk ?_|refine ql ?_|refine qm ?_)
     have hcell:∀ s2:St,(s2.H=CB m most (2 * m) t2.1 t2.2++cX t2.1.length∨s2.H=CB m most (2 * m) t2.1 t2.2++cX t2.1.length)→aA s2.H (t2.1.length + 3) = .own [.ptr 0 0]:=fun s2 h=>by
      rw [show s2.H=CB m most (2 * m) t2.1 t2.2++cX t2.1.length by rcases h with h | h<;>exact h]; exact xu rfl
     refine yU (t:=72) (on:=_) mixed 4 rfl (fun j=>match j with | 0=>.ptr 0 0 | 1=>.p (.int .i64 v) | 2=>.p (.int .i64 x) | 3=>.ptr 0 0 | _=>.dead) (by decide) (by decide) ?_ rfl (H':=aF (cC (CB m most (2 * m) t2.1 t2.2++cX t2.1.length) (List.range (CB m most (2 * m) t2.1 t2.2).length)) (t2.1.length + 3) (.own [.dead])) ?_ ?_
     ·intro j ob hj hjn
      have hjl:j < 6:=(Array.getElem?_eq_some_iff.1 hj).1
      rcases (show j=0∨j=1∨j=2∨j=3∨j=5 by omega) with rfl | rfl | rfl | rfl | rfl
      ·obtain rfl:=Option.some.inj hj
       exact .inr ⟨rfl,fun t h=>(by cases h; show 82 < 89; decide),fun x hx t h=>(by subst h; obtain rfl:t=8:=(by simpa [Op.operands] using hx); decide),fun s2 h1 h2 h3=>kv rfl (h3 (.tmp 8) (by simp [Op.operands])) (hcell s2 h2)⟩
      ·obtain rfl:=Option.some.inj hj
       exact .inr ⟨rfl,fun t h=>(by cases h; show 83 < 89; decide),fun x hx t h=>(by subst h; obtain rfl:t=11:=(by simpa [Op.operands] using hx); decide),fun s2 h1 h2 h3=>kr rfl (h3 (.tmp 11) (by simp [Op.operands]))⟩
      ·obtain rfl:=Option.some.inj hj
       exact .inr ⟨rfl,fun t h=>(by cases h; show 84 < 89; decide),fun x hx t h=>(by subst h; obtain rfl:t=14:=(by simpa [Op.operands] using hx); decide),fun s2 h1 h2 h3=>kr rfl (h3 (.tmp 14) (by simp [Op.operands]))⟩
      ·obtain rfl:=Option.some.inj hj
       exact .inr ⟨rfl,fun t h=>(by cases h; show 85 < 89; decide),fun x hx t h=>(by subst h; obtain rfl:t=8:=(by simpa [Op.operands] using hx); decide),fun s2 h1 h2 h3=>kv rfl (h3 (.tmp 8) (by simp [Op.operands])) (hcell s2 h2)⟩
      obtain rfl:=Option.some.inj hj
      exact .inl (by decide)
     ·intro s2 h1 h2 h3 h4
      have e85:s2.get 85 = .ptr 0 0:=h4 ⟨3,.data⟩ (by simp) rfl _ 85 rfl rfl
      exact zP (t:=t2) rfl (ve g1.wr.len (by omega) (by omega)) rfl h2 (by show [s2.get 85]++[]=_; rw [e85]; rfl) (by rw [aK]; simp [bj,bn])
     intro ch s' hch h1 h2 h3
     exact tI (m:=m) (most:=most) (s:=⟨89,[],[]⟩) (c0:=.dead) (t:=t2) hch (h3 8 (by decide)) h2
    obtain ⟨f1,f2,f3⟩:=lH (by omega) g1
    obtain ⟨T,hT⟩:∃ T,cJ m (br m t2).1 (br m t2).2 v x t2.1.length=T:=⟨_,rfl⟩
    obtain ⟨k1,k2,k3,k4⟩:=ec (by omega) f1 (a:=v) (b:=t2.1.length) (x:=x) (by omega) (by omega) ⟨hx0,by omega,by omega⟩
    rw [if_pos hmx] at q5
    rw [hT] at q5 k1 k2
    refine zh (on:=_) (oL:=_) mixed 4 5 rfl rfl (by decide) (fun j=>match j with | 0=>.ptr 0 0 | 1=>.p (.int .i64 v) | 2=>.p (.int .i64 x) | 3=>.ptr 0 0 | 4=>.p (.int .i64 t2.1.length) | _=>.p (.tup [])) (H1:=n8 (CB m most (2 * m) t2.1 t2.2) (cX t2.1.length) (CB m most (2 * m) (br m t2).1 (br m t2).2)) (H2:=Ih m most t2 T) (by decide) (by decide) (show Ja _ 89=true by decide) (by decide) ?_ rfl rfl ?_ ?_ ?_
    ·have hcell:∀ s2:St,(s2.H=CB m most (2 * m) t2.1 t2.2++cX t2.1.length∨s2.H=n8 (CB m most (2 * m) t2.1 t2.2) (cX t2.1.length) (CB m most (2 * m) (br m t2).1 (br m t2).2))→aA s2.H (t2.1.length + 3) = .own [.ptr 0 0]:=fun s2 h=>by
      rcases h with h | h
      ·rw [h]; exact xu rfl
      rw [h]; exact HF (i:=0) (by decide)
     intro j ob hj hjn hjL
     have hjl:j < 6:=(Array.getElem?_eq_some_iff.1 hj).1
     rcases (show j=0∨j=1∨j=2∨j=3∨j=5 by omega) with rfl | rfl | rfl | rfl | rfl
     ·obtain rfl:=Option.some.inj hj
      exact ⟨rfl,fun t h=>(by cases h; show 82 < 89; decide),fun x hx t h=>(by subst h; obtain rfl:t=8:=(by simpa [Op.operands] using hx); decide),fun s2 h1 h2 h3=>kv rfl (h3 (.tmp 8) (by simp [Op.operands])) (hcell s2 h2)⟩
     ·obtain rfl:=Option.some.inj hj
      exact ⟨rfl,fun t h=>(by cases h; show 83 < 89; decide),fun x hx t h=>(by subst h; obtain rfl:t=11:=(by simpa [Op.operands] using hx); decide),fun s2 h1 h2 h3=>kr rfl (h3 (.tmp 11) (by simp [Op.operands]))⟩
     ·obtain rfl:=Option.some.inj hj
      exact ⟨rfl,fun t h=>(by cases h; show 84 < 89; decide),fun x hx t h=>(by subst h; obtain rfl:t=14:=(by simpa [Op.operands] using hx); decide),fun s2 h1 h2 h3=>kr rfl (h3 (.tmp 14) (by simp [Op.operands]))⟩
     ·obtain rfl:=Option.some.inj hj
      exact ⟨rfl,fun t h=>(by cases h; show 85 < 89; decide),fun x hx t h=>(by subst h; obtain rfl:t=8:=(by simpa [Op.operands] using hx); decide),fun s2 h1 h2 h3=>kv rfl (h3 (.tmp 8) (by simp [Op.operands])) (hcell s2 h2)⟩
     exact absurd rfl hjL
    ·intro s2 h1 h2 h3 h4
     have e85:s2.get 85 = .ptr 0 0:=h4 ⟨3,.data⟩ (by simp) rfl _ 85 rfl rfl
     exact w9 rfl rfl hm g1.wr.len (by omega) hmx h2 (by show [s2.get 85]++[]=_; rw [e85]; rfl)
    ·intro s2 h1 h2 h3 h4
     have e82:s2.get 82 = .ptr 0 0:=h4 0 _ 82 (by decide) rfl rfl
     have e83:s2.get 83 = .p (.int .i64 v):=h4 1 _ 83 (by decide) rfl rfl
     have e84:s2.get 84 = .p (.int .i64 x):=h4 2 _ 84 (by decide) rfl rfl
     have e86:s2.get 86 = .p (.int .i64 t2.1.length):=h4 4 _ 86 (by decide) rfl rfl
     rw [← hT]
     exact BL (most:=most) (t:=t2) rfl rfl hm f1 (by omega) (a:=v) (b:=t2.1.length) (x:=x) (by omega) (by omega) ⟨hx0,by omega,by omega⟩ h2 (by show [s2.get 82,s2.get 83,s2.get 84,s2.get 86]++[]=_; rw [e82,e83,e84,e86]; rfl)
    intro s' h1 h2 h3 h4
    refine qd (qa ?_)
    obtain ⟨π,hπ⟩:=Fb (m:=m) (most:=most) (t:=t2) (sl:=[(0,.int .i64 m),(1,.list (ll rels)),(11,.int .i64 v),(14,.int .i64 x)]) (T:=T) (s:=s') (by omega) h1 h2 (h3 8 (by decide)) (fun p hp=>by
      simp only [List.mem_cons,List.not_mem_nil,or_false] at hp
      rcases hp with rfl | rfl | rfl | rfl
      ·exact h3 0 (by decide)
      ·exact h3 1 (by decide)
      ·exact h3 11 (by decide)
      exact h3 14 (by decide))
    refine pH π hπ ?_
    unfold TC
    simp only [List.map_cons,List.map_nil]
    refine ab fun K hK=>aa ae ?_
    simp only [an,fl,gp,ak,simprocAttr]
    refine af ?_ (hK _ ?_)<;>clear hK K
    ·first|omega|(simp only [ah]; omega)
    refine qa ?_
    refine ⟨(i + 1,T),List.range (T.1.length + 5),⟨hi2,k1,by simp only; omega,by simp only; omega,q5⟩,by simp only; omega,?_⟩
    show Le _ (TC [(0,.int .i64 m),(1,.list (ll rels)),(11,.int .i64 v),(14,.int .i64 (((i + 1:Nat):Int) - m))] m most T) _
    rw [show (((i + 1:Nat):Int) - (m:Int))=x + 1 by omega]
    exact gT (t:=T) rfl rfl rfl (fun p hp=>by
      simp only [List.mem_cons,List.not_mem_nil,or_false] at hp
      rcases hp with rfl | rfl | rfl | rfl<;>rfl)
   (try simp only [aE] at hC6)
   have hcc:cn2=false:=by simpa using hC6
   rw [hcc] at hcn2
   have hstep:(iE m most v ((iT m).drop (i + 1)) (t.1,U3)).bind (ju m most rels (most - v) (v + 1))=o∧cw m (t.1,U3):=by
    by_cases hx0:x=0
    ·rw [if_pos hx0] at q5
     rw [if_neg (by simpa using hx0)] at hU3
     subst hU3
     exact ⟨q5,g1⟩
    rw [if_neg hx0] at q5
    rw [if_pos hx0] at hU3
    have hd:¬ rg (t.1.getD v []) x < 0:=by simpa [hx0] using hcn2
    rw [if_neg hd] at q5
    subst hU3
    obtain ⟨b,t1,t2,t3,t4,t5,t6⟩:=gV (by omega) g1 q3 hr1 ⟨hx0,by omega,by omega⟩ hd
    exact ⟨q5,t5⟩
   refine qh (qd (qa ?_))
   refine ab fun K hK=>aa ae ?_
   simp only [an,fl,gp,ak,simprocAttr]
   refine af ?_ (hK _ ?_)<;>clear hK K
   ·first|omega|(simp only [ah]; omega)
   refine qa ?_
   refine ⟨(i + 1,(t.1,U3)),List.range (t.1.length + 5),⟨hi2,hstep.2,q3,q4,hstep.1⟩,by simp only; omega,?_⟩
   show Le _ (TC [(0,.int .i64 m),(1,.list (ll rels)),(11,.int .i64 v),(14,.int .i64 (((i + 1:Nat):Int) - m))] m most (t.1,U3)) _
   rw [show (((i + 1:Nat):Int) - (m:Int))=x + 1 by omega]
   exact gT (t:=(t.1,U3)) rfl rfl rfl (fun p hp=>by
     simp only [List.mem_cons,List.not_mem_nil,or_false] at hp
     rcases hp with rfl | rfl | rfl | rfl<;>rfl)
  (try simp only [aE] at hC5)
  have hcc:cnd=false:=by simpa using hC5
  rw [hcc] at hcnd
  have hstep:ju m most rels (most - v) (v + 1) (t.1,U2)=o∧cw m (t.1,U2):=by
   by_cases hxm:x≤m
   ·have hov:¬ dO t.2 v=v:=by simpa [hxm] using hcnd
    rw [if_pos hxm] at hU2
    subst hU2
    have hdr:(iT m).drop i=x :: (iT m).drop (i + 1):=by
     rw [List.drop_eq_getElem_cons (by rw [mb]; omega)]
     congr 1
     simp only [iT,List.getElem_map,List.getElem_range]
     exact hx
    rw [hdr] at q5
    unfold iE at q5
    rw [if_neg hov] at q5
    exact ⟨q5,g1⟩
   rw [if_neg hxm] at hU2
   subst hU2
   rw [List.drop_eq_nil_of_le (by rw [mb]; omega)] at q5
   exact ⟨q5,q2⟩
  refine qj (qc (qc (qf (qd (qa ?_)))))
  refine ab fun K hK=>aa ae ?_
  simp only [an,fl,gp,ak,simprocAttr]
  refine af ?_ (hK _ ?_)<;>clear hK K
  ·first|exact trivial|omega|(simp only [ah] at *; omega)|(simp [ah] at *; omega)|simp_all
  refine qa ?_
  refine ⟨(v + 1,(t.1,U2)),List.range (t.1.length + 5),⟨by simp only; omega,hstep.2,q4,?_⟩,by simp only; omega,?_⟩
  ·simp only
   rw [show most + 1 - (v + 1)=most - v by omega]; exact hstep.1
  show Le _ (TC [(0,.int .i64 m),(1,.list (ll rels)),(11,.int .i64 ((v + 1:Nat):Int))] m most (t.1,U2)) _
  exact gT (t:=(t.1,U2)) rfl rfl rfl (fun p hp=>by
    simp only [List.mem_cons,List.not_mem_nil,or_false] at hp
    rcases hp with rfl | rfl | rfl<;>rfl)
 (try simp only [aE] at hC2)
 have hvl:t.1.length≤v:=by omega
 have ho3:o=some t:=by
  rw [← q5]
  cases h:most + 1 - v with
  | zero=>rfl
  | succ k=>unfold ju; rw [if_neg (by omega)]
 subst ho3
 refine qj (qc (qc (qf (qa (qm ?_)))))
 refine ab fun K hK=>aa ae ?_
 simp only [an,fl,gp,ak,simprocAttr,xu rfl,Jw rfl]
 refine af ?_ (hK _ ?_)<;>clear hK K
 ·first|exact trivial|omega|(simp only [ah] at *; omega)|(simp [ah] at *; omega)|simp_all
 refine qa (qk ?_)
 skip
 all_goals (exact C3 (.inr rfl) rfl rfl)
end
end Go.Proofs.YtpobnnfkeekiaaaDoor.Pr
namespace Go.Pv
open Go.RowKit
section
variable {P:Program} {C:Ctx} {m:Map} {s:St} {tmps:Array Value} {w:World}
theorem Rel.Ju (R:Rel C m s tmps w) {k:Nat} {kk:IntKind} {d:Int→Bool} {v v' : Int→PV} (hk:aA s.H k = .mp kk d v) (hv:∀ z,d z=true→∀ ok w x,Reads ok w (v z) x→Reads ok w (v' z) x):Rel C m { s with H:=aF s.H k (.mp kk d v') } tmps w:=by
 have hk2:=cd hk (by simp)
 have hkl:k < s.H.length:=(List.getElem?_eq_some_iff.1 hk2).1
 have aA:∀ (j:Nat) (b:aH),(aF s.H k (.mp kk d v'))[j]? = some b→(j=k∧b = .mp kk d v')∨(j ≠ k∧s.H[j]? = some b):=by
  intro j b h
  rw [bF] at h
  by_cases e:j=k
  ·rw [if_pos ⟨e,hkl⟩] at h; exact .inl ⟨e,(Option.some.inj h).symm⟩
  rw [if_neg (by simp [e])] at h; exact .inr ⟨e,h⟩
 have hown:∀ (j:Nat) (c:List AV),(aF s.H k (.mp kk d v'))[j]? = some (.own c)→s.H[j]? = some (.own c):=fun j c h=>by
  rcases aA j _ h with ⟨_,e⟩ | ⟨_,h⟩
  ·cases e
  exact h
 have hok:∀ b,OK C m s.H w b→OK C m (aF s.H k (.mp kk d v')) w b:=fun b h=>⟨h.1,h.2.1,fun j c l hj hl=>h.2.2 j c l (hown j c hj) hl⟩
 have rdx:∀ p x,Reads (OK C m s.H w) w p x→Reads (OK C m (aF s.H k (.mp kk d v')) w) w p x:=fun p x h=>h.mono hok
 have hlen:s.H.length≤(aF s.H k (.mp kk d v')).length:=by rw [aB]; exact Nat.le_refl _
 refine ⟨R.laid.ext rdx,R.below,R.base,R.size,fun j j' c c' l l' h1 h2=>R.inj j j' c c' l l' (hown j c h1) (hown j' c' h2),fun j c h=>?_,fun j c h=>?_,fun t=>(R.slot t).ext rdx hlen fun _ _=>rfl,fun j kk2 d2 v2 h=>?_,fun j j' kk2 d2 v2 kk3 d3 v3 l l' h1 h2 h3 h4 h5=>?_,fun j i i' h=>?_,?_⟩
 ·exact (R.blk j c (hown j c h)).ext rdx hlen (fun _ _=>rfl) rfl fun _ _=>rfl
 ·rcases aA j _ h with ⟨_,e⟩ | ⟨_,h⟩
  ·cases e
  rcases R.fro j c h with h' | ⟨l2,vs2,b1,b2,b3,b4⟩
  ·exact .inl h'
  exact .inr ⟨l2,vs2,b1,hok _ b2,b3,fun i hi=>⟨(b4 i hi).1,rdx _ _ (b4 i hi).2⟩⟩
 ·rcases aA j _ h with ⟨rfl,e⟩ | ⟨_,h⟩
  ·simp only [aH.mp.injEq] at e
   obtain ⟨rfl,rfl,rfl⟩:=e
   obtain ⟨l,ar,clk,vs,a1,a2,a3,a4,a5,a6,a7⟩:=R.mp.1 j _ _ v hk2
   exact ⟨l,ar,clk,vs,a1,a2,a3,a4,a5,a6,fun z hz=>hv z hz _ _ _ (rdx _ _ (a7 z hz))⟩
  obtain ⟨l,ar,clk,vs,a1,a2,a3,a4,a5,a6,a7⟩:=R.mp.1 j _ _ _ h
  exact ⟨l,ar,clk,vs,a1,a2,a3,a4,a5,a6,fun z hz=>rdx _ _ (a7 z hz)⟩
 ·have old:∀ (j:Nat) (kk2:IntKind) (d2:Int→Bool) (v2:Int→PV),(aF s.H k (.mp kk d v'))[j]? = some (.mp kk2 d2 v2)→∃ v4,s.H[j]? = some (.mp kk2 d2 v4):=fun j kk2 d2 v2 h=>by
   rcases aA j _ h with ⟨rfl,e⟩ | ⟨_,h⟩
   ·simp only [aH.mp.injEq] at e
    obtain ⟨rfl,rfl,rfl⟩:=e
    exact ⟨v,hk2⟩
   exact ⟨v2,h⟩
  obtain ⟨v4,h1'⟩:=old j _ _ _ h1
  obtain ⟨v5,h2'⟩:=old j' _ _ _ h2
  exact R.mp.2.1 j j' kk2 d2 v4 kk3 d3 v5 l l' h1' h2' h3 h4 h5
 ·rcases aA j _ h with ⟨_,e⟩ | ⟨_,h⟩
  ·cases e
  obtain ⟨a1,a2⟩:=R.mp.2.2.1 j i i' h
  exact ⟨by simp only [aB]; exact a1,a2⟩
 refine R.mp.2.2.2.ext id (fun j r h=>?_) (fun _ _ _ _ _ _ h=>h) (fun _ _ _ _ _ h=>rfl) fun _ _ _ _ _ h=>h
 rcases aA j _ h with ⟨_,e⟩ | ⟨_,h⟩
 ·cases e
 exact ⟨h,rfl⟩
theorem Gy {c:Code} {Q:Exit→St→Prop} (k:Nat) {kk:IntKind} {d:Int→Bool} {v v' : Int→PV} (hk:aA s.H k = .mp kk d v) (hv:∀ z,d z=true→∀ ok w x,Reads ok w (v z) x→Reads ok w (v' z) x) (h:Holds P c Q { s with H:=aF s.H k (.mp kk d v') }):Holds P c Q s:=
 fun r ds C m a w R hd=>h r ds C m a w (R.Ju hk hv) hd
end
end Go.Pv
namespace Go.Proofs.YtpobnnfkeekiaaaDoor.Pr
open Go.Pv
theorem Eu:∃ t,Tryd.prog.underlying 65=some (.pointer t):=by
 have h:(match Tryd.prog.underlying 65 with | some (.pointer _)=>true | _=>false)=true:=by kernel_rfl
 split at h
 ·rename_i ms e; exact ⟨ms,e⟩
 cases h
theorem IM (d:Nat) (w:World):(Op.equalIn (d + 1) 65 (.pointer none) (.pointer none)).run Tryd.prog w = .ok true w:=by
 obtain ⟨ms,h⟩:=Eu
 simp [Op.equalIn,run_underlying h]
theorem IL (d:Nat) (w:World):∀ l,(Op.equalIn (d + 1) 65 (.pointer (some l)) (.pointer none)).run Tryd.prog w = .ok false w:=by
 intro l
 obtain ⟨ms,h⟩:=Eu
 simp [Op.equalIn,run_underlying h]
theorem I3 (w:World) (x y:Operand):(do eqGuard BinOp.eql 65 x y (.pointer none) (.pointer none); binOp BinOp.eql 65 (.pointer none) (.pointer none):Sem Value).run Tryd.prog w = .ok (.bool true) w:=by
 have h:(Op.equal 65 (.pointer none) (.pointer none)).run Tryd.prog w = .ok true w:=IM 9999 w
 simp [eqGuard,binOp,h]
theorem IT (w:World) (x y:Operand):∀ l,(do eqGuard BinOp.eql 65 x y (.pointer (some l)) (.pointer none); binOp BinOp.eql 65 (.pointer (some l)) (.pointer none):Sem Value).run Tryd.prog w = .ok (.bool false) w:=by
 intro l
 have h:(Op.equal 65 (.pointer (some l)) (.pointer none)).run Tryd.prog w = .ok false w:=IL 9999 w l
 simp [eqGuard,binOp,h]
theorem pV {s:St} {o:Oper} {x:Operand} {b:Bool} {k:Nat} {k2:Nat} (ho:o.op = .binOp .eql 65 x (.const (.pointer none)) k2) (hx:(s.ev x = .p .np∧b=true)∨(∃ i,s.ev x = .ptr k i∧b=false)):bu Tryd.prog o s (.p (.bool b)) s.H:=by
 intro C m a w K Q R hK
 have hv:=R.ev x
 have hrun:(execOp a.eval o).run Tryd.prog w = .ok (.value (.bool b)) w:=by
  simp only [execOp,ho]
  rcases hx with ⟨h1,rfl⟩ | ⟨i,h1,rfl⟩
  ·rw [h1] at hv
   have hv:=hv.aN
   generalize a.eval x=v at hv
   cases hv
   show ((do eqGuard BinOp.eql 65 x (.const (.pointer none)) (.pointer none) (.pointer none); binOp BinOp.eql 65 (.pointer none) (.pointer none):Sem Value) >>= fun x=>(pure (Next.value x):Sem Next)).run Tryd.prog w=_
   rw [Sem.run_bind,I3]
   rfl
  rw [h1] at hv
  generalize a.eval x=v at hv
  cases hv with
  | ptr _ _ _ hk hp =>
   obtain ⟨l,_,rfl⟩:=hp
   show ((do eqGuard BinOp.eql 65 x (.const (.pointer none)) (.pointer (some _)) (.pointer none); binOp BinOp.eql 65 (.pointer (some _)) (.pointer none):Sem Value) >>= fun x=>(pure (Next.value x):Sem Next)).run Tryd.prog w=_
   rw [Sem.run_bind,IT]
   rfl
 refine aW (by rw [ho]; rfl) ?_
 unfold Oper.wp
 rw [hrun]
 simp only [Oper.upon]
 exact hK _ _ _ R (.p _ _ (.bool _))
theorem iH {π:List Nat} {s:St} {t:Nat} {v:PV} {r:List (Nat × AV)} (h:s.get t = .p v) (hr:jr π r s):jr π ((t,.p v) :: r) s:=⟨h,rfl,hr⟩
theorem ny {π:List Nat} {s:St} {t k p lo len:Nat} {r:List (Nat × AV)} (h:s.get t = .sl p lo len) (hp:π.getD k 0=p) (hk:k < π.length) (hr:jr π r s):jr π ((t,.sl k lo len) :: r) s:=
 ⟨by rw [h]; simp only [Go.Pv.aY,bg,hp],by simp [bj,bn,hk],hr⟩
theorem dw {π:List Nat} {s:St} {t k p i:Nat} {r:List (Nat × AV)} (h:s.get t = .ptr p i) (hp:π.getD k 0=p) (hk:k < π.length) (hr:jr π r s):jr π ((t,.ptr k i) :: r) s:=
 ⟨by rw [h]; simp only [Go.Pv.aY,bg,hp],by simp [bj,bn,hk],hr⟩
theorem vS {π:List Nat} {s:St} {t k p:Nat} {r:List (Nat × AV)} (h:s.get t = .mptr p) (hp:π.getD k 0=p) (hk:k < π.length) (hr:jr π r s):jr π ((t,.mptr k) :: r) s:=
 ⟨by rw [h]; simp only [Go.Pv.aY,bg,hp],by simp [bj,bn,hk],hr⟩
theorem wW {n0 i:Nat} {ps:List Nat} (h:i < n0):(List.range n0++ps).getD i 0=i:=by
 rw [List.getD_eq_getElem?_getD,List.getElem?_append_left (by simpa using h)]; simp [List.getElem?_range h]
theorem x5 (n0 j:Nat) (ps:List Nat):(List.range n0++ps).getD (n0 + j) 0=ps.getD j 0:=by
 rw [List.getD_eq_getElem?_getD,List.getElem?_append_right (by simp)]; simp [List.getD_eq_getElem?_getD]
theorem xT {π:List Nat} {H:az} {k:Nat} {l:List PV} (h:aA H k = .own (bq l)):dJ π H k (.own (bq l)):=by
 simp only [dJ,h]
 exact ⟨by rw [iW,List.take_of_length_le (Nat.le_refl _)],jY _ _⟩
theorem le_tail {k:Nat} {n mo:Int} {w:Nat} {N:List (List Int)} {U:List Int} {S s:St} {ps:List Nat} {Y:az} (hN:N.length=k) (hn:S.n=s.n) (hS:S.H=CB n mo w N U++Y) (hnd:ps.Nodup) (hps:∀ p∈ps,k + 3≤p) (h0:∀ i,i < k + 3→aA s.H i=aA (CB n mo w N U) i)
  (hY:dQ (List.range (k + 3)++ps) s.H ps Y) (hsl:jr (List.range (k + 3)++ps) S.sl s):Le (List.range (k + 3)++ps) S s:=by
 refine ⟨hn,?_,?_,hsl⟩
 ·rw [List.nodup_append]
  refine ⟨List.nodup_range,hnd,fun x hx y hy=>?_⟩
  have h1:=List.mem_range.1 hx
  have h2:=hps y hy
  omega
 rw [hS]
 refine jd ?_ hY
 have:=qq (π:=List.range (k + 3)++ps) (H:=s.H) (B:=CB n mo w N U) (a:=0) (L:=k + 3) (fun i hi=>wW hi) (by simp) (fun b hb=>qL (by omega) b hb) (fun i hi=>by rw [Nat.zero_add]; exact h0 i (by rw [aK] at hi; omega))
 rwa [aK,hN,← List.range_eq_range'] at this
def x8 (L:List Nat) (z:Int):Bool:=decide (0≤z) && L.elem z.toNat
def Cq (L:List Nat) (z:Int):Int:=if x8 L z=true then (L.idxOf z.toNat:Int) else 0
def tQ (L:List Nat):aH:=.mp .i64 (x8 L) (fun z=>.int .i64 (Cq L z))
theorem ou (L:List Nat) (u:Nat):x8 L (u:Int)=decide (u∈L):=by
 unfold x8
 simp
theorem Ba:aH.mp .i64 (fun u=>decide (u=0) || false) (fun z=>.int .i64 (Cq [0] z))=tQ [0]:=by
 unfold tQ
 congr 1
 funext z
 unfold x8
 by_cases h:z=0
 ·subst h; rfl
 have:(decide (0≤z) && List.elem z.toNat [0])=false:=by
  by_cases h0:0≤z
  ·have:z.toNat ≠ 0:=by omega
   simp [this]
  simp [h0]
 rw [this]; simp [h]
theorem DF {L:List Nat} {u:Nat} (hu:u ∉ L):aH.mp .i64 (fun z=>decide (z=(u:Int)) || x8 L z) (fun z=>bif decide (z=(u:Int)) then .int .i64 (L.length:Nat) else .int .i64 (Cq L z))=tQ (L++[u]):=by
 have hd:∀ z,(decide (z=(u:Int)) || x8 L z)=x8 (L++[u]) z:=by
  intro z
  unfold x8
  by_cases h0:0≤z
  ·obtain ⟨v,rfl⟩:=Int.eq_ofNat_of_zero_le h0
   by_cases h:v=u
   ·subst h; simp
   have:¬ (v:Int)=u:=by omega
   simp [h,this]
  have:¬ z=(u:Int):=by omega
  simp [h0,this]
 unfold tQ
 congr 1
 ·funext z; exact hd z
 funext z
 by_cases h:z=(u:Int)
 ·subst h
  simp only [decide_true,cond_true]
  congr 1
  unfold Cq
  rw [if_pos (by rw [← hd]; simp)]
  rw [Int.toNat_natCast,List.idxOf_append,if_neg hu]; simp
 simp only [h,decide_false,cond_false]
 congr 1
 unfold Cq
 have e:x8 (L++[u]) z=x8 L z:=by rw [← hd]; simp [h]
 rw [e]
 split
 ·rename_i hz
  have:z.toNat∈L:=by
   unfold x8 at hz
   rw [Bool.and_eq_true] at hz
   simpa using hz.2
  rw [List.idxOf_append,if_pos this]
 rfl
theorem Br {m most b L:Nat} {t:CS} (hL:t.1.length + 4≤L):(fM m most (some t)).map (aH.aY (List.range' b L)) = .own [.ptr (b + 1) 0] :: .own [.p (.int .i64 m),.sl (b + 2) 0 t.1.length,.sl (b + 3) 0 t.2.length,.p (.int .i64 most)] :: .own ((List.range t.1.length).map fun i=>.sl (b + 4 + i) 0 (2 * m)) :: .own (ol t.2) :: t.1.map bZ:=by
 have hg:∀ i,i < L→(List.range' b L).getD i 0=b + i:=fun i hi=>by
  rw [List.getD_eq_getElem?_getD,List.getElem?_range' hi]; simp
 unfold fM DX
 simp only [List.map_cons,aH.aY,List.map_nil,Go.Pv.aY,bg,hg 1 (by omega),hg 2 (by omega),hg 3 (by omega),List.map_map]
 have e1:(List.range t.1.length).map (Go.Pv.aY (List.range' b L) ∘ fun i=>AV.sl (i + 4) 0 (2 * m))=(List.range t.1.length).map fun i=>.sl (b + 4 + i) 0 (2 * m):=by
  refine List.map_congr_left fun i hi=>?_
  have:=List.mem_range.1 hi
  simp only [Function.comp,Go.Pv.aY,bg,hg (i + 4) (by omega)]
  congr 1; omega
 have e2:(ol t.2).map (Go.Pv.aY (List.range' b L))=ol t.2:=by simp [ol,Go.Pv.aY,bg]
 have e3:t.1.map (aH.aY (List.range' b L) ∘ bZ)=t.1.map bZ:=by
  refine List.map_congr_left fun r _=>?_
  simp only [Function.comp,bZ,aH.aY]
  congr 1
  simp [ol,Go.Pv.aY,bg]
 rw [e1,e2,e3]
theorem y9 {m most:Nat} {t:CS} {S s:St} {F0 F1:aH} {v:List AV} (hn:S.n=s.n) (hS:S.H=CB m most (2 * m) t.1 t.2++[.own v]) (hF:F0 = .own v) (hv:∀ π,v.map (Go.Pv.aY π)=v∧∀ L,v.all (bj L)=true)
  (hH:s.H=F0 :: F1 :: .own [.ptr 3 0] :: .own [.p (.int .i64 m),.sl 4 0 t.1.length,.sl 5 0 t.2.length,.p (.int .i64 most)] :: .own ((List.range t.1.length).map fun i=>.sl (6 + i) 0 (2 * m)) :: .own (ol t.2) :: t.1.map bZ)
  (hsl:jr (3 :: 4 :: 5 :: (List.range' 6 t.1.length++[0])) S.sl s):Le (3 :: 4 :: 5 :: (List.range' 6 t.1.length++[0])) S s:=by
 obtain ⟨k,hk⟩:∃ k,t.1.length=k:=⟨_,rfl⟩
 rw [hk] at hsl hH ⊢
 have p1:(3 :: 4 :: 5 :: (List.range' 6 k++[0]):List Nat).getD 1 0=4:=rfl
 have p2:(3 :: 4 :: 5 :: (List.range' 6 k++[0]):List Nat).getD 2 0=5:=rfl
 have hpl:(3 :: 4 :: 5 :: (List.range' 6 k++[0]):List Nat).length=k + 4:=by simp
 have p3:∀ i,i < k→(3 :: 4 :: 5 :: (List.range' 6 k++[0]):List Nat).getD (i + 3) 0=6 + i:=fun i hi=>by
  show (List.range' 6 k++[0]).getD i 0=_
  rw [List.getD_eq_getElem?_getD,List.getElem?_append_left (by simpa using hi),List.getElem?_range' hi]; simp
 refine ⟨hn,?_,?_,hsl⟩
 ·simp only [List.nodup_cons,List.mem_cons,List.mem_append,List.mem_range'_1,List.not_mem_nil,or_false]
  refine ⟨by omega,by omega,by omega,?_⟩
  rw [List.nodup_append]
  refine ⟨List.nodup_range' ..,by simp,fun x hx y hy=>?_⟩
  rw [List.mem_range'_1] at hx
  simp only [List.mem_cons,List.not_mem_nil,or_false] at hy
  omega
 rw [hS]
 unfold CB qR
 rw [hk]
 have f0:aA s.H 3 = .own [.p (.int .i64 m),.sl 4 0 k,.sl 5 0 t.2.length,.p (.int .i64 most)]:=by rw [hH]; rfl
 have f1:aA s.H 4 = .own ((List.range k).map fun i=>.sl (6 + i) 0 (2 * m)):=by rw [hH]; rfl
 have f2:aA s.H 5 = .own (ol t.2):=by rw [hH]; rfl
 have f3:∀ i,i < k→aA s.H (6 + i)=bZ (t.1.getD i []):=fun i hi=>by
  rw [hH,Nat.add_comm 6 i]
  have:=jb (N:=t.1) (X:=[]) (i:=i) (by omega)
  rw [List.append_nil] at this
  exact this
 have f4:aA s.H 0 = .own v:=by rw [hH,hF]; rfl
 refine ⟨?_,?_,ik f2,jd ?_ ⟨?_,trivial⟩⟩
 ·simp only [dJ,f0,List.map_cons,List.map_nil,Go.Pv.aY,bg,p1,p2]
  refine ⟨rfl,?_⟩
  simp [bj,bn]
 ·simp only [dJ,f1]
  refine ⟨?_,?_⟩
  ·rw [List.take_of_length_le (by simp [cp])]
   refine List.ext_getElem (by simp [cp]) fun i h1 h2=>?_
   have hi:i < k:=by simpa [cp] using h1
   simp only [eU,List.getElem_map,List.getElem_range,Go.Pv.aY,bg,p3 i hi]
  refine List.all_eq_true.2 fun x hx=>?_
  obtain ⟨i,hi,rfl⟩:=List.mem_map.1 hx
  have:=List.mem_range.1 hi
  simp [bj,bn]; omega
 ·have:=oI (π:=3 :: 4 :: 5 :: (List.range' 6 k++[0])) (H:=s.H) (B:=t.1.map bZ) (a:=6) (fun i hi=>by
   rw [du,hk] at hi
   rw [f3 i hi]
   have:=jb (N:=t.1) (X:=[]) (i:=i) (by omega)
   rw [List.append_nil] at this
   rw [this]) fun b hb=>by
   obtain ⟨f,_,rfl⟩:=List.mem_map.1 hb
   exact ik rfl
  rwa [du,hk] at this
 simp only [dJ,f4]
 obtain ⟨v1,v2⟩:=hv (3 :: 4 :: 5 :: (List.range' 6 k++[0]))
 exact ⟨by rw [v1,List.take_of_length_le (Nat.le_refl _)],v2 _⟩
def Ok (w:List Int):Prop:=∀ x∈w,x ≠ 0∧-26≤x∧x≤26
theorem Ok.sm {w:List Int} (h:Ok w):Sm w:=fun x hx=>(h x hx).2
theorem Cf:∀ (w:List Int) (i:Nat),(qo i w).1=0→Ok w
 | [],_,_=>fun x hx=>by simp at hx
 | x :: r,i,h=>by
  unfold qo at h
  split at h
  ·simp at h
  rename_i hn
  intro y hy
  rcases List.mem_cons.1 hy with rfl | hy
  ·omega
  exact Cf r (i + 1) h y hy
theorem AD {w:List Int} (h:(check w).1=0):Ok w∧w.length≤2000:=by
 unfold check at h
 split at h
 ·simp at h
 exact ⟨Cf w 0 h,by omega⟩
theorem Ok.app {v w:List Int} (hv:Ok v) (hw:Ok w):Ok (v++w):=by
 intro x hx
 rcases List.mem_append.1 hx with h | h
 ·exact hv x h
 exact hw x h
theorem Ok.back {w:List Int} (h:Ok w):Ok (back w):=by
 intro x hx
 obtain ⟨y,hy,rfl⟩:=List.mem_map.1 hx
 have:=h y (List.mem_reverse.1 hy)
 omega
end Go.Proofs.YtpobnnfkeekiaaaDoor.Pr
namespace Go.Proofs.YtpobnnfkeekiaaaDoor
open Go.Pv
def cE (p:Nat→Bool) (n:Nat):Option Nat:=(List.range n).find? p
theorem dG {p:Nat→Bool} {n a:Nat} (ha:a < n) (hp:p a=true) (hj:∀ j,j < a→p j=false):cE p n=some a:=by
 unfold cE
 rw [List.find?_range_eq_some]
 exact ⟨hp,by simp [ha],fun j hj'=>by simp [hj j hj']⟩
theorem eK {p:Nat→Bool} {n:Nat} (hj:∀ j,j < n→p j=false):cE p n=none:=by
 unfold cE
 rw [List.find?_eq_none]
 intro x hx
 simp [hj x (by simpa using hx)]
theorem gl {p:Nat→Bool} {n a:Nat} (h:cE p n=some a):a < n∧p a=true∧∀ j,j < a→p j=false:=by
 unfold cE at h
 rw [List.find?_range_eq_some] at h
 exact ⟨by simpa using h.2.1,h.1,fun j hj=>by simpa using h.2.2 j hj⟩
theorem df {p:Nat→Bool} {n:Nat} (h:cE p n=none):∀ j,j < n→p j=false:=by
 unfold cE at h
 rw [List.find?_eq_none] at h
 intro j hj
 simpa using h j (by simpa using hj)
theorem vz {l:List Nat} {n:Nat} (h:l.Nodup) (hl:∀ x∈l,x < n):l.length≤n:=by
 have:=List.Nodup.length_le_of_subset h (l₂:=List.range n) fun x hx=>by simpa using hl x hx
 simpa using this
theorem kC {α β:Type} {f:α→β} {l:List α} (h:l.Nodup) (hf:∀ x∈l,∀ y∈l,f x=f y→x=y):(l.map f).Nodup:=by
 induction l with
 | nil=>simp
 | cons a r ih =>
  rw [List.nodup_cons] at h
  rw [List.map_cons,List.nodup_cons]
  refine ⟨fun hm=>?_,ih h.2 fun x hx y hy=>hf x (by simp [hx]) y (by simp [hy])⟩
  obtain ⟨y,hy,e⟩:=List.mem_map.1 hm
  have:=hf y (by simp [hy]) a (by simp) e
  subst this
  exact h.1 hy
theorem ml {α:Type} {l1 l2:List α} (h1:l1.Nodup) (h2:l2.Nodup) (h:∀ x,x∈l1↔x∈l2):l1.length=l2.length:=
 ((List.perm_ext_iff_of_nodup h1 h2).2 h).length_eq
theorem B5 {n:Nat} {f:Nat→Nat} (hf:∀ i,i < n→f i < n) (hi:∀ i j,i < n→j < n→f i=f j→i=j) {y:Nat} (hy:y < n):∃ x,x < n∧f x=y:=by
 by_cases h:∃ x,x < n∧f x=y
 ·exact h
 exfalso
 have h1:((List.range n).map f).Nodup:=kC List.nodup_range fun x hx z hz=>hi x z (by simpa using hx) (by simpa using hz)
 have h2:(y :: (List.range n).map f).Nodup:=by
  rw [List.nodup_cons]
  refine ⟨fun hm=>?_,h1⟩
  obtain ⟨x,hx,e⟩:=List.mem_map.1 hm
  exact h ⟨x,by simpa using hx,e⟩
 have:=vz (n:=n) h2 fun x hx=>by
  rcases List.mem_cons.1 hx with rfl | hx
  ·exact hy
  obtain ⟨z,hz,rfl⟩:=List.mem_map.1 hx
  exact hf z (by simpa using hz)
 simp at this
 omega
theorem GC {n : Nat} {f : Nat → Nat} (hf : ∀ i, i ≤ n → f i < n) : ∃ i j, i < j ∧ j ≤ n ∧ f i = f j := by
  by_cases h : ∃ i j, i < j ∧ j ≤ n ∧ f i = f j
  · exact h
  · exfalso
    have h1 : ((List.range (n + 1)).map f).Nodup := kC List.nodup_range fun x hx z hz e => by
      have hx : x < n + 1 := by simpa using hx
      have hz : z < n + 1 := by simpa using hz
      rcases Nat.lt_trichotomy x z with hlt | he | hlt
      · exact absurd ⟨x, z, hlt, by omega, e⟩ h
      · exact he
      · exact absurd ⟨z, x, hlt, by omega, e.symm⟩ h
    have := vz (n := n) h1 fun x hx => by
      obtain ⟨z, hz, rfl⟩ := List.mem_map.1 hx
      exact hf z (by have : z < n + 1 := by simpa using hz
                     omega)
    simp at this
    omega
structure ba (n:Nat) (f:Nat→Nat→Nat) (e:Nat):Prop where
 pos:0 < n
 cl:∀ a b,a < n→b < n→f a b < n
 el:e < n
 one_l:∀ a,a < n→f e a=a
 one_r:∀ a,a < n→f a e=a
 assoc:∀ a b c,a < n→b < n→c < n→f (f a b) c=f a (f b c)
 inv:∀ a,a < n→∃ b,b < n∧f a b=e∧f b a=e
def iv (n:Nat) (f:Nat→Nat→Nat) (e a:Nat):Nat:=(cE (fun b=>decide (f a b=e)) n).getD 0
def pw (f:Nat→Nat→Nat) (e a:Nat):Nat→Nat
 | 0=>e
 | k + 1=>f (pw f e a k) a
def ord (n:Nat) (f:Nat→Nat→Nat) (e a:Nat):Nat:=(cE (fun k=>decide (1≤k∧pw f e a k=e)) (n + 1)).getD 0
section
variable {n:Nat} {f:Nat→Nat→Nat} {e:Nat}
theorem ba.kf (G:ba n f e) {a b c:Nat} (ha:a < n) (hb:b < n) (hc:c < n) (h:f a b=f a c):b=c:=by
 obtain ⟨i,hi,_,h2⟩:=G.inv a ha
 have h1:f i (f a b)=f i (f a c):=by rw [h]
 rwa [← G.assoc i a b hi ha hb,← G.assoc i a c hi ha hc,h2,G.one_l b hb,G.one_l c hc] at h1
theorem ba.uI (G:ba n f e) {a b c:Nat} (ha:a < n) (hb:b < n) (hc:c < n) (h:f b a=f c a):b=c:=by
 obtain ⟨i,hi,h2,_⟩:=G.inv a ha
 have h1:f (f b a) i=f (f c a) i:=by rw [h]
 rwa [G.assoc b a i hb ha hi,G.assoc c a i hc ha hi,h2,G.one_r b hb,G.one_r c hc] at h1
theorem ba.mi (G:ba n f e) {a:Nat} (ha:a < n):iv n f e a < n∧f a (iv n f e a)=e∧f (iv n f e a) a=e∧∀ b,b < n→(f a b=e∨f b a=e)→b=iv n f e a:=by
 obtain ⟨b,hb,h1,h2⟩:=G.inv a ha
 have hu:∀ c,c < n→(f a c=e∨f c a=e)→c=b:=by
  intro c hc h
  rcases h with h | h
  ·exact G.kf ha hc hb (by rw [h,h1])
  exact G.uI ha hc hb (by rw [h,h2])
 have hfs:cE (fun b=>decide (f a b=e)) n=some b:=dG hb (by simp [h1]) fun j hj=>by
  by_cases hj2:f a j=e
  ·have:=hu j (by omega) (.inl hj2); omega
  simp [hj2]
 have:iv n f e a=b:=by unfold iv; rw [hfs]; rfl
 rw [this]
 exact ⟨hb,h1,h2,hu⟩
theorem ba.aS (G:ba n f e) {a:Nat} (ha:a < n):iv n f e a < n:=(G.mi ha).1
theorem ba.cr (G:ba n f e) {a:Nat} (ha:a < n):f a (iv n f e a)=e:=(G.mi ha).2.1
theorem ba.eO (G:ba n f e) {a:Nat} (ha:a < n):f (iv n f e a) a=e:=(G.mi ha).2.2.1
theorem ba.di (G:ba n f e) {a b:Nat} (ha:a < n) (hb:b < n) (h:f a b=e∨f b a=e):b=iv n f e a:=(G.mi ha).2.2.2 b hb h
theorem ba.Av (G:ba n f e) {a:Nat} (ha:a < n):iv n f e (iv n f e a)=a:=(G.di (G.aS ha) ha (.inl (G.eO ha))).symm
theorem ba.sG (G:ba n f e) {a b:Nat} (ha:a < n) (hb:b < n):iv n f e (f a b)=f (iv n f e b) (iv n f e a):=by
 have h1:=G.aS ha
 have h2:=G.aS hb
 refine (G.di (G.cl a b ha hb) (G.cl _ _ h2 h1) (.inl ?_)).symm
 rw [G.assoc a b _ ha hb (G.cl _ _ h2 h1),← G.assoc b _ _ hb h2 h1,G.cr hb,G.one_l _ h1,G.cr ha]
theorem ba.wx (G:ba n f e):iv n f e e=e:=(G.di G.el G.el (.inl (G.one_l e G.el))).symm
theorem ba.idem (G:ba n f e) {a:Nat} (ha:a < n):f a a=a↔a=e:=
 ⟨fun h=>G.kf ha ha G.el (by rw [h,G.one_r a ha]),fun h=>by subst h; exact G.one_l _ ha⟩
theorem ba.jH (G:ba n f e) {a:Nat} (ha:a < n):∀ k,pw f e a k < n
 | 0=>G.el
 | k + 1=>G.cl _ _ (G.jH ha k) ha
theorem ba.Bs (G:ba n f e) {a:Nat} (ha:a < n) (i:Nat):∀ j,pw f e a (i + j)=f (pw f e a i) (pw f e a j)
 | 0=>by rw [Nat.add_zero]; exact (G.one_r _ (G.jH ha i)).symm
 | j + 1=>by
  rw [← Nat.add_assoc]
  show f (pw f e a (i + j)) a=f (pw f e a i) (f (pw f e a j) a)
  rw [G.Bs ha i j,G.assoc _ _ _ (G.jH ha i) (G.jH ha j) ha]
theorem ba.uX (G:ba n f e) {a:Nat} (ha:a < n):1≤ord n f e a∧ord n f e a≤n∧pw f e a (ord n f e a)=e∧∀ k,1≤k→k < ord n f e a→pw f e a k ≠ e:=by
 cases h:cE (fun k=>decide (1≤k∧pw f e a k=e)) (n + 1) with
 | none =>
  exfalso
  obtain ⟨i,j,hij,hj,he⟩:=GC (n:=n) (f:=pw f e a) fun i _=>G.jH ha i
  have:=df h (j - i) (by omega)
  have h2:pw f e a (j - i)=e:=by
   have h3:=G.Bs ha i (j - i)
   rw [show i + (j - i)=j by omega,← he] at h3
   exact (G.kf (G.jH ha i) G.el (G.jH ha _) (by rw [← h3,G.one_r _ (G.jH ha i)])).symm
  simp [h2] at this
  omega
 | some k =>
  have e1:ord n f e a=k:=by unfold ord; rw [h]; rfl
  obtain ⟨h1,h2,h3⟩:=gl h
  rw [e1]
  have h2:=of_decide_eq_true h2
  refine ⟨h2.1,by omega,h2.2,fun j hj hjk hje=>?_⟩
  have:=of_decide_eq_false (h3 j hjk)
  exact this ⟨hj,hje⟩
theorem ba.D7 (G:ba n f e) {a:Nat} (ha:a < n):1≤ord n f e a:=(G.uX ha).1
theorem ba.GH (G:ba n f e) {a:Nat} (ha:a < n):pw f e a (ord n f e a)=e:=(G.uX ha).2.2.1
end
open Go.Pv
def pr (a b:PV):Prop:=∀ (ok:Nat→Prop) (w:World) (v:Value),Reads ok w a v→Reads ok w b v
theorem pr.rfl {a:PV} : pr a a:=fun _ _ _ h=>h
theorem pr.nn {l:List PV} : pr (.nn l) (.list l):=fun _ _ _ h=>h.iP
def vl:List PV→List PV→Prop
 | [],[]=>True
 | a :: r,b :: s=>pr a b∧vl r s
 | _,_=>False
theorem vl.len:∀ {l r:List PV},vl l r→l.length=r.length
 | [],[],_=>by rfl
 | a :: l,b :: r,h=>by simp [vl.len h.2]
 | [],_ :: _,h=>h.elim
 | _ :: _,[],h=>h.elim
theorem vl.get:∀ {l r:List PV},vl l r→∀ (i:Nat) (h:i < l.length) (h' : i < r.length),pr l[i] r[i]
 | a :: l,b :: r,h,0,_,_=>h.1
 | a :: l,b :: r,h,i + 1,h1,h2=>by simpa using vl.get h.2 i (by simpa using h1) (by simpa using h2)
 | [],[],_,i,h,_=>by simp at h
 | [],_ :: _,h,_,_,_=>h.elim
 | _ :: _,[],h,_,_,_=>h.elim
theorem ct.vm {P:Program} {f:FuncId} {args args' : List PV} {r:PV} (h:ct P f args r) (hs:vl args' args):ct P f args' r:=by
 refine ⟨h.1,fun okA w vals h1 h2 h3=>h.2 okA w vals h1 (h2.trans hs.len) fun i hi=>?_⟩
 have:=hs.len
 exact hs.get i (by omega) hi _ _ _ (h3 i (by omega))
end Go.Proofs.YtpobnnfkeekiaaaDoor
namespace Go.Proofs.YtpobnnfkeekiaaaDoor.Pr
open Go.Pv
def Hy (n:Int) (rels bb:List (List Int)) (mo:Int):PV:=
 if (fH n [rels,bb]).1 ≠ 0 then .tup [.list [],fl (fH n [rels,bb])] else
 if mo < 1∨1000 < mo then .tup [.list [],fl (3,4)] else
 match oK n.toNat rels bb mo.toNat with
 | none=>.tup [.list [],fl (9,0)]
 | some T=>.tup [.list (ll T),fl (0,0)]
theorem rm (w:List Int) (L:List (List Int)):kU (w :: L)=w.length + kU L:=by simp [kU]
theorem yu:∀ (L:List (List Int)) (i n:Nat),(zb L i n).1=0→(∀ w∈L,Ok w∧w.length≤2000)∧(L ≠ []→n + kU L≤2000)∧zb L i n=(0,0)
 | [],i,n,_=>⟨fun w hw=>(by cases hw),fun h=>absurd rfl h,rfl⟩
 | w :: r,i,n,h=>by
  unfold zb at h ⊢
  by_cases h1:(check w).1 ≠ 0
  ·rw [if_pos h1] at h; exact absurd h h1
  rw [if_neg h1] at h ⊢
  by_cases h2:2000 < n + w.length
  ·rw [if_pos h2] at h; cases h
  rw [if_neg h2] at h ⊢
  obtain ⟨a1,a2,a3⟩:=yu r (i + 1) (n + w.length) h
  have hw:=AD (Classical.not_not.1 h1)
  refine ⟨fun v hv=>?_,fun _=>?_,a3⟩
  ·rcases List.mem_cons.1 hv with rfl | hv
   ·exact hw
   exact a1 v hv
  rw [rm]
  by_cases hr:r=[]
  ·subst hr; simp [kU]; omega
  have:=a2 hr; omega
theorem CM {L:List (List Int)} (h:(qQ L).1=0):L.length≤20∧(∀ w∈L,Ok w∧w.length≤2000)∧kU L≤2000∧qQ L=(0,0):=by
 unfold qQ at h ⊢
 by_cases h1:20 < L.length
 ·rw [if_pos h1] at h; cases h
 rw [if_neg h1] at h ⊢
 obtain ⟨a1,a2,a3⟩:=yu L 0 0 h
 refine ⟨by omega,a1,?_,a3⟩
 by_cases hL:L=[]
 ·subst hL; simp [kU]
 have:=a2 hL; omega
theorem BR {n:Int} : ∀ {L:List (List (List Int))} {k:Int},0≤k→(vW n L k).1=0→vW n L k=(0,0)∧∀ l∈L,(qQ l).1=0∧gD n l=false
 | [],_,_,_=>⟨rfl,fun l hl=>by cases hl⟩
 | l :: r,k,hk,h=>by
  unfold vW at h ⊢
  split at h
  ·rename_i h1; exact absurd h h1
  rename_i h1
  rw [if_neg h1]
  split at h
  ·cases h
  rename_i h2
  rw [if_neg h2]
  obtain ⟨g1,g2⟩:=BR (by omega) h
  refine ⟨g1,fun x hx=>?_⟩
  rcases List.mem_cons.1 hx with rfl | hx
  ·exact ⟨Classical.not_not.1 h1,by simpa using h2⟩
  exact g2 x hx
theorem ka {n:Int} {L:List (List (List Int))} (h:(fH n L).1=0):(1≤n∧n≤6)∧fH n L=(0,0)∧∀ l∈L,l.length≤20∧kU l≤2000∧∀ w∈l,Lt n.toNat w∧HO w∧w.length≤2000:=by
 unfold fH at h ⊢
 split at h
 ·cases h
 rename_i hn
 rw [if_neg hn]
 obtain ⟨g1,g2⟩:=BR (Int.le_refl 0) h
 refine ⟨by omega,g1,fun l hl=>?_⟩
 obtain ⟨h1,h2⟩:=g2 l hl
 obtain ⟨a1,a2,a3,_⟩:=CM h1
 refine ⟨a1,a3,fun w hw=>?_⟩
 obtain ⟨b1,b2⟩:=a2 w hw
 have hb:∀ x∈w,js n x=false:=fun x hx=>by
  cases hbx:js n x with
  | false=>rfl
  | true =>
   have:gD n l=true:=List.any_eq_true.2 ⟨w,hw,List.any_eq_true.2 ⟨x,hx,hbx⟩⟩
   rw [h2] at this; cases this
 have hok:∀ x∈w,x ≠ 0∧-26≤x∧x≤26:=fun x hx=>b1 x hx
 refine ⟨fun x hx=>?_,hok,b2⟩
 have h3:=hb x hx
 unfold js at h3
 simp only [Bool.or_eq_false_iff,decide_eq_false_iff_not] at h3
 exact ⟨(hok x hx).1,by omega,by omega⟩
theorem C0 {m most:Nat} {o:Option CS} : xB 0 (vL o) [] (fM m most o)=true:=by
 unfold xB
 have h3:bj (fM m most o).length (vL o)=true:=by
  cases o with
  | none=>rfl
  | some t=>simp [vL,fM,DX,bj,bn]
 rw [Bool.and_eq_true,Bool.and_eq_true,Bool.and_eq_true,Bool.and_eq_true,Bool.and_eq_true,Bool.and_eq_true]
 refine ⟨⟨⟨⟨⟨⟨h3,List.all_eq_true.2 fun b hb=>?_⟩,by simp⟩,by simp⟩,rfl⟩,rfl⟩,rfl⟩
 have g1:=(List.all_eq_true.1 (vi (m:=m) (most:=most) (o:=o))) b hb
 have g2:=(List.all_eq_true.1 (xm (m:=m) (most:=most) (o:=o))) b hb
 cases b with
 | own c=>exact g1
 | bf i j=>cases g2
 | _=>rfl
section
variable {m most w:Nat} {N:List (List Int)} {U:List Int} {n0:Nat} {n mo:Int}
theorem gY (h:N.length + 3=n0) (Y:az) (j:Nat):aA (CB n mo w N U++Y) (n0 + j)=aA Y j:=by
 rw [bc (by rw [aK]; omega),aK]
 congr 1; omega
theorem Aw (h:N.length + 3=n0) (Y:az):aA (CB n mo w N U++Y) n0=aA Y 0:=gY h Y 0
theorem sY (h:N.length + 3=n0) (Y:az) (j:Nat) (b:aH):aF (CB n mo w N U++Y) (n0 + j) b=CB n mo w N U++aF Y j b:=by
 rw [gQ,List.set_append_right _ _ (by rw [aK]; omega),aK,gQ]
 congr 2; omega
theorem Jj (h:N.length + 3=n0) (Y:az) (b:aH):aF (CB n mo w N U++Y) n0 b=CB n mo w N U++aF Y 0 b:=sY h Y 0 b
theorem lY (h:N.length + 3=n0) (Y:az):(CB n mo w N U++Y).length=n0 + Y.length:=by rw [List.length_append,aK]; omega
end
theorem I0 {rels bb:List (List Int)} (hr:rels.length≤1000000000∧∀ w∈rels,w.length≤1000000000) (hs:bb.length≤1000000000∧∀ w∈bb,w.length≤1000000000):ID [rels,bb]:=⟨by simp,fun l hl=>by
 simp only [List.mem_cons,List.not_mem_nil,or_false] at hl
 rcases hl with rfl | rfl
 ·exact hr
 exact hs⟩
theorem Dr (n:Int) (rels bb:List (List Int)) (hr:rels.length≤1000000000∧∀ w∈rels,w.length≤1000000000) (hs:bb.length≤1000000000∧∀ w∈bb,w.length≤1000000000):ct Tryd.prog 20 [.int .i64 n,.nn [.list (ll rels),.list (ll bb)]] (fl (fH n [rels,bb])):=ct.vm (AO n [rels,bb] (I0 hr hs)) ⟨pr.rfl,pr.nn,trivial⟩
theorem Gn {m:Nat} {t:CS} (h:cw m t) (hf:Full m t) {U:List Int} (hU:cw m (t.1,U)) (hR:∀ u,u < t.1.length→rV U u=rV t.2 u) {v:Nat} (hv:v < t.1.length) (hr:rV t.2 v=v) {x:Int} (hx:x ≠ 0∧-(m:Int)≤x∧x≤m) (hm:m≤26) :
  nk t.1 U v x=(oh t v x:Int)∧cw m (t.1,gi t.1 U v x)∧∀ u,u < t.1.length→rV (gi t.1 U v x) u=rV t.2 u:=by
 have hd:=hf v hv hr x hx.1 hx.2.1 hx.2.2
 have hdl:=h.wr.rg hv hd
 obtain ⟨b,h1,h2,h3,h4,h5,h6⟩:=gV hm hU (a:=v) hv (by simp only; rw [hR v hv]; exact hr) hx hd
 refine ⟨?_,h5,fun u hu=>by rw [h6 u hu]; exact hR u hu⟩
 unfold nk
 rw [if_neg hd,bS hU.wr.fo (by rw [hU.wr.len]; exact hdl),hR _ hdl]
 rfl
def F0:aH:=.own [.p (.int .i64 0),.p (.int .i64 0)]
theorem Bm {π:List Nat} {H:az} {k:Nat} (h:aA H k=F0):dJ π H k F0:=by
 unfold F0 at h ⊢
 simp only [dJ,h]
 exact ⟨rfl,rfl⟩
theorem Ag {π:List Nat} {H:az} {k:Nat} {L:List Nat} (h:aA H k=tQ L):dJ π H k (tQ L):=h
section
variable {m most k n0:Nat} {t:CS} {L:List Nat} {out:List (List Int)} {row:List Int} {U:List Int}
def S1 (m most k n0:Nat) (t:CS) (sl:List (Nat × PV)) (U:List Int) (L:List Nat) (out:List (List Int)):St:=
 ⟨120,(9,.ptr n0 0) :: (12,.ptr 0 0) :: (13,.mptr (n0 + 1)) :: (14,.sl (n0 + 2) 0 L.length) :: (15,.sl (n0 + 3) 0 out.length) :: sl.map (fun p=>(p.1,.p p.2)),CB m most (2 * m) t.1 U++[F0,tQ L,.own (ol (L.map Int.ofNat)),.own (bq (ll out))]⟩
theorem EO {sl:List (Nat × PV)} {s:St} {p2 p3:Nat} (hn0:t.1.length + 3=n0) (hn:s.n=120) (h0:∀ i,i < n0→aA s.H i=aA (CB m most (2 * m) t.1 U) i) (b0:aA s.H n0=F0) (b1:aA s.H (n0 + 1)=tQ L) (b2:aA s.H p2 = .own (ol (L.map Int.ofNat))) (b3:aA s.H p3 = .own (bq (ll out))) (hp:n0 + 1 < p2∧n0 + 1 < p3∧p2 ≠ p3)
  (g9:s.get 9 = .ptr n0 0) (g12:s.get 12 = .ptr 0 0) (g13:s.get 13 = .mptr (n0 + 1)) (g14:s.get 14 = .sl p2 0 L.length) (g15:s.get 15 = .sl p3 0 out.length) (hsl:∀ p∈sl,s.get p.1 = .p p.2) :
  Le (List.range n0++[n0,n0 + 1,p2,p3]) (S1 m most k n0 t sl U L out) s:=by
 have hl:(List.range n0++[n0,n0 + 1,p2,p3]).length=n0 + 4:=by simp
 have hpi:=fun j=>x5 n0 j [n0,n0 + 1,p2,p3]
 subst hn0
 refine le_tail (Y:=[F0,tQ L,.own (ol (L.map Int.ofNat)),.own (bq (ll out))]) (k:=t.1.length) rfl hn.symm rfl (by simp; omega) (by simp; omega) h0 ⟨Bm b0,Ag b1,ik b2,xT b3,trivial⟩ ?_
 refine dw g9 (hpi 0) (by omega) (dw g12 (wW (by omega)) (by omega) (vS g13 (hpi 1) (by omega) (ny g14 (hpi 2) (by omega) (ny g15 (hpi 3) (by omega) (eB hsl)))))
def S2 (m most k n0:Nat) (t:CS) (sl:List (Nat × PV)) (U:List Int) (L:List Nat) (out:List (List Int)) (row:List Int):St:=
 ⟨120,(9,.ptr n0 0) :: (12,.ptr 0 0) :: (13,.mptr (n0 + 1)) :: (14,.sl (n0 + 2) 0 L.length) :: (15,.sl (n0 + 3) 0 out.length) :: (17,.sl (n0 + 4) 0 row.length) :: sl.map (fun p=>(p.1,.p p.2)),CB m most (2 * m) t.1 U++[F0,tQ L,.own (ol (L.map Int.ofNat)),.own (bq (ll out)),.own (ol row)]⟩
theorem vu {sl:List (Nat × PV)} {s:St} {p2 p4:Nat} (hn0:t.1.length + 3=n0) (hn:s.n=120) (h0:∀ i,i < n0→aA s.H i=aA (CB m most (2 * m) t.1 U) i) (b0:aA s.H n0=F0) (b1:aA s.H (n0 + 1)=tQ L) (b2:aA s.H p2 = .own (ol (L.map Int.ofNat))) (b3:aA s.H (n0 + 3) = .own (bq (ll out))) (b4:aA s.H p4 = .own (ol row)) (hp:(p2=n0 + 2∨n0 + 3 < p2)∧n0 + 3 < p4∧p2 ≠ p4)
  (g9:s.get 9 = .ptr n0 0) (g12:s.get 12 = .ptr 0 0) (g13:s.get 13 = .mptr (n0 + 1)) (g14:s.get 14 = .sl p2 0 L.length) (g15:s.get 15 = .sl (n0 + 3) 0 out.length) (g17:s.get 17 = .sl p4 0 row.length) (hsl:∀ p∈sl,s.get p.1 = .p p.2) :
  Le (List.range n0++[n0,n0 + 1,p2,n0 + 3,p4]) (S2 m most k n0 t sl U L out row) s:=by
 have hl:(List.range n0++[n0,n0 + 1,p2,n0 + 3,p4]).length=n0 + 5:=by simp
 have hpi:=fun j=>x5 n0 j [n0,n0 + 1,p2,n0 + 3,p4]
 subst hn0
 refine le_tail (Y:=[F0,tQ L,.own (ol (L.map Int.ofNat)),.own (bq (ll out)),.own (ol row)]) (k:=t.1.length) rfl hn.symm rfl (by simp; omega) (by simp; omega) h0 ⟨Bm b0,Ag b1,ik b2,xT b3,ik b4,trivial⟩ ?_
 refine dw g9 (hpi 0) (by omega) (dw g12 (wW (by omega)) (by omega) (vS g13 (hpi 1) (by omega) (ny g14 (hpi 2) (by omega) (ny g15 (hpi 3) (by omega) (ny g17 (hpi 4) (by omega) (eB hsl))))))
theorem lC {n mo:Int} {w:Nat} {N:List (List Int)} {U:List Int} {n0:Nat} (h:N.length + 3=n0) (Y:az):∀ i,i < n0→aA (CB n mo w N U++Y) i=aA (CB n mo w N U) i:=fun i hi=>bX (by rw [aK]; omega)
end
set_option maxHeartbeats 8000000 in
set_option maxRecDepth 20000 in
theorem BB (n:Int) (rels bb:List (List Int)) (mo:Int) (hr:rels.length≤1000000000∧∀ w∈rels,w.length≤1000000000) (hs:bb.length≤1000000000∧∀ w∈bb,w.length≤1000000000) :
  ct Tryd.prog 28 [.int .i64 n,.list (ll rels),.list (ll bb),.int .i64 mo] (Hy n rels bb mo):=by
 refine aV ae Tryd.func28 rfl (by kernel_rfl) (by rw [Tryd.ntmps28]; exact Nat.le_add_left 4 _) ?_; rw [Tryd.ntmps28]
 refine qm ?_
 refine ab fun K hK=>aa ae ?_
 simp only [an,fl,gp,ak,simprocAttr]
 refine af ?_ (hK _ ?_)<;>clear hK K
 ·first|exact trivial|omega|(simp only [ah] at *; omega)|(simp [ah] at *; omega)|simp_all
 refine qa (qm (qm ?_))
 refine ab fun K hK=>aa ae ?_
 simp only [an,fl,gp,ak,simprocAttr]
 refine ao trivial (au (Dr n rels bb hr hs) rfl rfl rfl (by simp only [ay,Nat.reduceLT]) (by repeat (first|exact trivial|constructor)) (aa ae ?_))
 simp only [an,fl,gp,ak,simprocAttr]
 refine af ?_ (hK _ ?_)<;>clear hK K
 ·first|exact trivial|omega|(simp only [ah] at *; omega)|(simp [ah] at *; omega)|simp_all
 refine qa (qm ?_)
 refine ab fun K hK=>aa ae ?_
 simp only [an,fl,gp,ak,simprocAttr]
 refine af ?_ (hK _ ?_)<;>clear hK K
 ·first|exact trivial|omega|(simp only [ah] at *; omega)|(simp [ah] at *; omega)|simp_all
 refine qa ?_
 refine aq rfl (fun hC1=>?_) (fun hC1=>?_)
 ·(try simp only [aE] at hC1)
  have h1:(fH n [rels,bb]).1 ≠ 0:=hC1
  refine qm ?_
  refine aO mixed (by kernel_rfl) fun K hK=>aa ae ?_
  simp only [an,fl,gp,ak,simprocAttr]
  refine af ?_ (hK _ ?_)<;>clear hK K
  ·first|exact trivial|omega|(simp only [ah] at *; omega)|(simp [ah] at *; omega)|simp_all
  refine qa (qk (qb ?_))
  simp only [Tryd.results28,bT,an,fl,gp,ak,simprocAttr]
  unfold Hy
  rw [if_pos h1]; first|rfl|exact ⟨rfl,rfl⟩
 (try simp only [aE] at hC1)
 have h1:(fH n [rels,bb]).1=0:=hC1
 obtain ⟨hn,hlk,hok⟩:=ka h1
 have hrl:=hok rels (by simp)
 have hsl:=hok bb (by simp)
 have hcs:Hy n rels bb mo=if mo < 1∨1000 < mo then .tup [.list [],fl (3,4)] else match oK n.toNat rels bb mo.toNat with | none=>.tup [.list [],fl (9,0)] | some T=>.tup [.list (ll T),fl (0,0)]:=by
  unfold Hy; rw [if_neg (by simpa using h1)]
 rw [hcs]
 clear hcs
 refine qh (qa (qm (qm ?_)))
 by_cases g4a:mo < 1
 ·refine ab fun K hK=>aa ae ?_
  simp only [an,fl,gp,ak,simprocAttr,decide_eq_true g4a]
  refine af trivial (hK _ ?_)<;>clear hK K
  refine qa ?_
  refine aq rfl (fun hC2=>?_) (fun hC2=>?_)
  ·have h2:mo < 1∨1000 < mo:=by first|exact .inl g4a|omega
   rw [if_pos h2]
   refine qm ?_
   refine ab fun K hK=>aa ae ?_
   simp only [an,fl,gp,ak,simprocAttr]
   refine ao trivial (au (ez 3 4) rfl rfl rfl (by simp only [ay,Nat.reduceLT]) (by repeat (first|exact trivial|constructor)) (aa ae ?_))
   simp only [an,fl,gp,ak,simprocAttr]
   refine af ?_ (hK _ ?_)<;>clear hK K
   ·first|exact trivial|omega|(simp only [ah] at *; omega)|(simp [ah] at *; omega)|simp_all
   refine qa (qk (qb ?_))
   simp only [Tryd.results28,bT,an,fl,gp,ak,simprocAttr]
   all_goals ((first|exact rfl|exact ⟨rfl,rfl⟩|exact ⟨rfl,rfl,rfl⟩|exact ⟨trivial,rfl⟩|exact ⟨Nat.le_refl _,rfl⟩|trivial|(simp; done)))
  cases hC2
 refine ab fun K hK=>aa ae ?_
 simp only [an,fl,gp,ak,simprocAttr,decide_eq_false g4a]
 refine af trivial (hK _ ?_)<;>clear hK K
 refine qa ?_
 refine aq rfl (fun hC2=>?_) (fun hC2=>?_)
 ·(try simp only [aE] at hC2)
  have h2:mo < 1∨1000 < mo:=by first|exact .inl g4a|omega
  rw [if_pos h2]
  refine qm ?_
  refine ab fun K hK=>aa ae ?_
  simp only [an,fl,gp,ak,simprocAttr]
  refine ao trivial (au (ez 3 4) rfl rfl rfl (by simp only [ay,Nat.reduceLT]) (by repeat (first|exact trivial|constructor)) (aa ae ?_))
  simp only [an,fl,gp,ak,simprocAttr]
  refine af ?_ (hK _ ?_)<;>clear hK K
  ·first|exact trivial|omega|(simp only [ah] at *; omega)|(simp [ah] at *; omega)|simp_all
  refine qa (qk (qb ?_))
  simp only [Tryd.results28,bT,an,fl,gp,ak,simprocAttr]
  all_goals ((first|exact rfl|exact ⟨rfl,rfl⟩|exact ⟨rfl,rfl,rfl⟩|exact ⟨trivial,rfl⟩|exact ⟨Nat.le_refl _,rfl⟩|trivial|(simp; done)))
 (try simp only [aE] at hC2)
 have h2:¬ (mo < 1∨1000 < mo):=by omega
 rw [if_neg h2]
 obtain ⟨m,rfl⟩:=Int.eq_ofNat_of_zero_le (show 0≤n by omega)
 obtain ⟨k,rfl⟩:=Int.eq_ofNat_of_zero_le (show 0≤mo by omega)
 rw [Int.toNat_natCast] at hrl hsl ⊢
 rw [Int.toNat_natCast]
 have hm:1≤m∧m≤6:=by omega
 obtain ⟨most,hmost⟩:∃ M,max (20 * k) 20000=M:=⟨_,rfl⟩
 have hmo:most≤100000000:=by omega
 have hRl:∀ v∈rels.map short,Lt m v∧v.length≤1000000:=fun v hv=>by
  obtain ⟨u,hu,rfl⟩:=List.mem_map.1 hv
  obtain ⟨a1,a2,a3⟩:=hrl.2.2 u hu
  have:=nj u
  exact ⟨eY a1,by omega⟩
 have hSl:∀ v∈bb.map short,Lt m v∧v.length≤1000000:=fun v hv=>by
  obtain ⟨u,hu,rfl⟩:=List.mem_map.1 hv
  obtain ⟨a1,a2,a3⟩:=hsl.2.2 u hu
  have:=nj u
  exact ⟨eY a1,by omega⟩
 have hcnt:=Eb (most:=most) hm (mo:=k) (by omega) hRl hSl (by simp; omega) (by simp; omega) hmost.symm
 unfold oK
 rw [hmost]
 obtain ⟨o,ho⟩:∃ o,po m most (rels.map short) (bb.map short)=o:=⟨_,rfl⟩
 rw [ho] at hcnt ⊢
 refine qh (qa (qm ?_))
 refine ab fun K hK=>aa ae ?_
 simp only [an,fl,gp,ak,simprocAttr]
 refine af trivial (hK _ ?_)<;>clear hK K
 refine qa (qm ?_)
 refine ab fun K hK=>aa ae ?_
 simp only [an,fl,gp,ak,simprocAttr]
 refine ao trivial (au (uk rels hr.1 (fun w hw=>⟨hr.2 w hw,(hrl.2.2 w hw).2.1⟩)) rfl rfl rfl (by simp only [ay,Nat.reduceLT]) (by repeat (first|exact trivial|constructor)) (aa ae ?_))
 simp only [an,fl,gp,ak,simprocAttr]
 refine ao trivial (au (uk bb hs.1 (fun w hw=>⟨hs.2 w hw,(hsl.2.2 w hw).2.1⟩)) rfl rfl rfl (by simp only [ay,Nat.reduceLT]) (by repeat (first|exact trivial|constructor)) (aa ae ?_))
 simp only [an,fl,gp,ak,simprocAttr]
 refine ao ?_ (p5 (q:=0) [] hcnt rfl rfl ?_ trivial List.nodup_nil rfl C0 (by simp only [ay,Nat.reduceLT]) (aa ae ?_))
 ·trivial
 ·(simp only [mM,xJ,bj,bn,aY,bg,List.map_cons,List.map_nil,List.append_nil,List.cons_append,List.nil_append,bT,an,fl,gp,ak,simprocAttr]; try trivial)
 simp only [an,fl,gp,ak,simprocAttr]
 refine af trivial (hK _ ?_)<;>clear hK K
 refine qa (qm (qm ?_))
 rcases o with _ | t
 ·simp only [cC,dE,List.drop_zero,List.take_zero,List.nil_append,Nat.sub_zero,List.length_cons,List.length_nil,Nat.zero_add,Nat.reduceAdd,vL,fM,Go.Pv.aY,List.map_cons,List.map_nil,aH.aY,List.cons_append]
  refine ab fun K hK=>aa ae ?_
  simp only [an,fl,gp,ak,simprocAttr]
  refine ao ?_ (cB (pV (k:=0) rfl (.inl ⟨rfl,rfl⟩)) rfl (by simp only [ay,Nat.reduceLT]) (aa ae ?_))
  ·trivial
  simp only [an,fl,gp,ak,simprocAttr]
  refine af trivial (hK _ ?_)<;>clear hK K
  refine qa ?_
  refine aq rfl (fun hC3=>?_) (fun hC3=>?_)
  ·(try simp only [aE] at hC3)
   refine qm ?_
   refine ab fun K hK=>aa ae ?_
   simp only [an,fl,gp,ak,simprocAttr]
   refine ao trivial (au (ez 9 0) rfl rfl rfl (by simp only [ay,Nat.reduceLT]) (by repeat (first|exact trivial|constructor)) (aa ae ?_))
   simp only [an,fl,gp,ak,simprocAttr]
   refine af ?_ (hK _ ?_)<;>clear hK K
   ·first|exact trivial|omega|(simp only [ah] at *; omega)|(simp [ah] at *; omega)|simp_all
   refine qa (qk (qb ?_))
   simp only [Tryd.results28,bT,an,fl,gp,ak,simprocAttr]
   all_goals ((first|exact rfl|exact ⟨rfl,rfl⟩|exact ⟨rfl,rfl,rfl⟩|exact ⟨trivial,rfl⟩|exact ⟨Nat.le_refl _,rfl⟩|trivial|(simp; done)))
  (try simp only [aE] at hC3)
  cases hC3
 obtain ⟨n0,hn0⟩:∃ n0,t.1.length + 3=n0:=⟨_,rfl⟩
 have hcl:(fM m most (some t)).length=t.1.length + 4:=by simp [fM,DX]
 simp only [cC,dE,List.drop_zero,List.take_zero,List.nil_append,Nat.sub_zero,List.length_cons,List.length_nil,Nat.zero_add,Nat.reduceAdd,hcl,Br (m:=m) (most:=most) (b:=2) (L:=t.1.length + 4) (t:=t) (Nat.le_refl _)]
 have hp1:Go.Pv.aY (List.range' 2 (t.1.length + 4)) (vL (some t)) = .ptr 3 0:=by
  simp only [vL,Go.Pv.aY,bg]
  rw [List.getD_eq_getElem?_getD,List.getElem?_range' (by omega)]; rfl
 rw [hp1]
 refine pH (s1:=⟨120,[(0,.p (.int .i64 (m:Nat))),(3,.p (.int .i64 (k:Nat))),(9,.ptr n0 0),(12,.ptr 0 0)],CB m most (2 * m) t.1 t.2++[F0]⟩) _ (y9 (v:=[.p (.int .i64 0),.p (.int .i64 0)]) (t:=t) rfl rfl rfl (fun π=>⟨rfl,fun L=>rfl⟩) rfl (iH rfl (iH rfl (dw rfl (p:=0) ?_ ?_ (dw rfl (p:=3) rfl (by simp) trivial))))) ?_
 ·rw [← hn0]
  show (List.range' 6 t.1.length++[0]).getD t.1.length 0=0
  rw [List.getD_eq_getElem?_getD,List.getElem?_append_right (by simp)]; simp
 ·rw [← hn0]; simp
 obtain ⟨g1,g2,g3,g4,g5⟩:=sq (by omega) (by omega) (fun v hv=>(hRl v hv).1) (fun v hv=>(hSl v hv).1) ho
 have hf:=nA g1 g4
 have hz:rV t.2 0=0:=qI g1 g2
 have hlt:t.1.length≤100000000:=by omega
 refine ab fun K hK=>aa ae ?_
 simp only [an,fl,gp,ak,simprocAttr]
 refine ao ?_ (cB (pV (k:=0) rfl (.inr ⟨0,rfl,rfl⟩)) rfl (by simp only [ay,Nat.reduceLT]) (aa ae ?_))
 ·trivial
 simp only [an,fl,gp,ak,simprocAttr]
 refine af trivial (hK _ ?_)<;>clear hK K
 refine qa ?_
 refine aq rfl (fun hC3=>?_) (fun hC3=>?_)
 ·(try simp only [aE] at hC3)
  cases hC3
 (try simp only [aE] at hC3)
 obtain ⟨ok1,rr1⟩:=cU (by omega) g1 g2
 obtain ⟨U1,hU1⟩:∃ U1,aT t.2 0=U1:=⟨_,rfl⟩
 have hv1:dO t.2 0=0:=by rw [bS g1.wr.fo (by rw [g1.wr.len]; exact g2)]; exact hz
 rw [hU1] at ok1 rr1
 obtain ⟨ok2,rr2⟩:=cU (by omega) ok1 (v:=0) g2
 obtain ⟨U2,hU2⟩:∃ U2,aT U1 0=U2:=⟨_,rfl⟩
 have hv2:dO U1 0=0:=by rw [bS ok1.wr.fo (by rw [ok1.wr.len]; exact g2),rr1 0 g2]; exact hz
 simp only at ok2 rr2
 rw [hU2] at ok2 rr2
 have rr3:∀ u,u < t.1.length→rV U2 u=rV t.2 u:=fun u hu=>by rw [rr2 u hu,rr1 u hu]
 refine qh (qa (qm ?_))
 refine ab fun K hK=>aa ae ?_
 simp only [an,fl,gp,ak,simprocAttr,lY hn0]
 refine ao ?_ (dT (U:=t.2) (X:=[F0]++[.mp .i64 (fun _=>false) (fun _=>default)]) g1.wr (by omega) (v:=0) g2 rfl rfl (by rw [List.append_assoc]) rfl (by simp only [ay,Nat.reduceLT]) (aa ae ?_))
 ·exact trivial
 simp only [hU1,hv1]
 simp only [an,fl,gp,ak,simprocAttr]
 refine ao ?_ (cB (vf ae rfl rfl (by
  simp only [e9,gY hn0,List.cons_append,List.nil_append,an,fl,gp,ak,simprocAttr]
  rfl) ?_) rfl (by simp only [ay,Nat.reduceLT]) (aa ae ?_))
 ·exact trivial
 ·exact trivial
 simp only [sY hn0,List.cons_append,List.nil_append,aF]
 simp only [an,fl,gp,ak,simprocAttr]
 refine af trivial (hK _ ?_)<;>clear hK K
 refine qa (qm ?_)
 refine Gy (n0 + 1) (v':=fun z=>.int .i64 (Cq [0] z)) (gY hn0 _ 1) (fun z hz ok w x hx=>?_) ?_
 ·have e:z=0:=by simpa using hz
  subst e
  exact hx
 simp only [sY hn0,aF,Ba]
 refine ab fun K hK=>aa ae ?_
 simp only [an,fl,gp,ak,simprocAttr]
 refine ao ?_ (dT (U:=U1) (X:=[F0,tQ [0]]) ok1.wr (by omega) (v:=0) g2 rfl rfl rfl rfl (by simp only [ay,Nat.reduceLT]) (cB (iB (n:=1) (l:=[.int .i64 (dO U1 0:Nat)]) ae rfl rfl rfl rfl rfl rfl rfl ⟨⟨rfl,rfl,rfl⟩,trivial⟩ rfl (by decide) rfl) rfl (show (58:Nat) < 120 by decide) (aa ae ?_)))
 ·exact trivial
 simp only [hU2,hv2]
 simp only [an,fl,gp,ak,simprocAttr,lY hn0,List.append_assoc,List.cons_append,List.nil_append]
 refine af trivial (hK _ ?_)<;>clear hK K
 refine qa (qm ?_)
 refine ab fun K hK=>aa ae ?_
 simp only [an,fl,gp,ak,simprocAttr]
 refine af trivial (hK _ ?_)<;>clear hK K
 refine qa (qm (qm ?_))
 refine ji 15 rfl ?_
 simp only [List.append_assoc,List.cons_append,List.nil_append,lY hn0,List.length_cons,List.length_nil,Nat.zero_add,Nat.reduceAdd]
 refine ab fun K hK=>aa ae ?_
 simp only [an,fl,gp,ak,simprocAttr]
 refine af trivial (hK _ ?_)<;>clear hK K
 refine qa (ql ?_)
 have hL0:LI t [0]:=⟨by simp,fun v hv=>by
  rw [List.mem_singleton] at hv
  subst hv
  exact ⟨g2,hz⟩⟩
 refine aD (ι:=Nat × List Nat × List (List Int) × List Int) (fun q=>S1 m most k n0 t [(0,.int .i64 m),(3,.int .i64 k),(16,.int .i64 q.1)] q.2.2.2 q.2.1 q.2.2.1)
  (fun q=>q.1≤q.2.1.length∧q.2.2.1.length=q.1∧cw m (t.1,q.2.2.2)∧(∀ u,u < t.1.length→rV q.2.2.2 u=rV t.2 u)∧LI t q.2.1∧(kj t m (t.1.length + 1 - q.1) q.1 q.2.1 q.2.2.1).2=mf m t) (fun q=>t.1.length + 1 - q.1) (0,[0],[],U2) ⟨Nat.zero_le _,rfl,ok2,rr3,hL0,by unfold mf; rw [hz]; rfl⟩ (List.range n0++[n0,n0 + 1,n0 + 2,n0 + 3]) ?_ fun q hq=>?_
 ·refine EO (sl:=[(0,.int .i64 m),(3,.int .i64 k),(16,.int .i64 ((0:Nat):Int))]) hn0 rfl (lC hn0 _) (Aw hn0 _) (gY hn0 _ 1) (gY hn0 _ 2) (gY hn0 _ 3) (by omega) rfl rfl rfl rfl rfl (fun p hp=>by
   simp only [List.mem_cons,List.not_mem_nil,or_false] at hp
   rcases hp with rfl | rfl | rfl<;>rfl)
 obtain ⟨i,L,out,U⟩:=q
 obtain ⟨q1,q2,q3,q4,q5,q6⟩:=hq
 simp only at q1 q2 q3 q4 q5 q6
 have hLl:L.length≤t.1.length:=ko q5.nd fun x hx=>(q5.rt x hx).1
 show Holds _ _ _ (S1 m most k n0 t [(0,.int .i64 m),(3,.int .i64 k),(16,.int .i64 i)] U L out)
 unfold S1
 simp only [List.map_cons,List.map_nil]
 refine qm (qm ?_)
 refine ab fun K hK=>aa ae ?_
 simp only [an,fl,gp,ak,simprocAttr]
 refine af trivial (hK _ ?_)<;>clear hK K
 refine qa ?_
 refine aq rfl (fun hC4=>?_) (fun hC4=>?_)
 ·(try simp only [aE] at hC4)
  have hil:i < L.length:=by omega
  obtain ⟨v,hv⟩:∃ v,L.getD i 0=v:=⟨_,rfl⟩
  obtain ⟨hv1,hv2⟩:=q5.rt v (hv ▸ dh hil)
  have hst:(kj t m (t.1.length + 1 - (i + 1)) (i + 1) (wB t m v L).1 (out++[(wB t m v L).2])).2=mf m t:=by
   rw [show t.1.length + 1 - i=(t.1.length + 1 - (i + 1)) + 1 by omega] at q6
   unfold kj at q6
   rw [if_pos hil,hv] at q6
   exact q6
  refine qh (qa (qm (ql (qm ?_))))
  refine ab fun K hK=>aa ae ?_
  simp only [an,fl,gp,ak,simprocAttr]
  refine af trivial (hK _ ?_)<;>clear hK K
  refine qa (qm (qm ?_))
  refine ji 17 rfl ?_
  simp only [List.append_assoc,List.cons_append,List.nil_append,lY hn0,List.length_cons,List.length_nil,Nat.zero_add,Nat.reduceAdd]
  refine ab fun K hK=>aa ae ?_
  simp only [an,fl,gp,ak,simprocAttr]
  refine af trivial (hK _ ?_)<;>clear hK K
  refine qa (ql ?_)
  refine aD (ι:=Nat × List Nat × List Int × List Int) (fun q=>S2 m most k n0 t [(0,.int .i64 m),(3,.int .i64 k),(16,.int .i64 i),(18,.int .i64 q.1)] q.2.2.2 q.2.1 out q.2.2.1)
   (fun q=>(1≤q.1∧q.1≤m + 1)∧cw m (t.1,q.2.2.2)∧(∀ u,u < t.1.length→rV q.2.2.2 u=rV t.2 u)∧LI t q.2.1∧(i < q.2.1.length∧q.2.1.getD i 0=v)∧q.2.2.1.length=2 * (q.1 - 1)∧((dx m).drop (2 * (q.1 - 1))).foldl (bQ (oh t v)) (q.2.1,q.2.2.1)=wB t m v L) (fun q=>m + 1 - q.1) (1,L,[],U) ⟨⟨Nat.le_refl _,by simp only; omega⟩,q3,q4,q5,⟨hil,hv⟩,rfl,rfl⟩ (List.range n0++[n0,n0 + 1,n0 + 2,n0 + 3,n0 + 4]) ?_ fun q hq=>?_
  ·refine vu (sl:=[(0,.int .i64 m),(3,.int .i64 k),(16,.int .i64 i),(18,.int .i64 ((1:Nat):Int))]) hn0 rfl (lC hn0 _) (Aw hn0 _) (gY hn0 _ 1) (gY hn0 _ 2) (gY hn0 _ 3) (gY hn0 _ 4) (by omega) rfl rfl rfl rfl rfl rfl (fun p hp=>by
    simp only [List.mem_cons,List.not_mem_nil,or_false] at hp
    rcases hp with rfl | rfl | rfl | rfl<;>rfl)
  clear q1 q3 q4 q5 q6 hil hv hLl hC4
  obtain ⟨x,L2,row,U3⟩:=q
  obtain ⟨⟨x1,x2⟩,q3,q4,q5,⟨hil,hv⟩,q7,q8⟩:=hq
  simp only at x1 x2 q3 q4 q5 hil hv q7 q8
  have hLl:L2.length≤t.1.length:=ko q5.nd fun x hx=>(q5.rt x hx).1
  show Holds _ _ _ (S2 m most k n0 t [(0,.int .i64 m),(3,.int .i64 k),(16,.int .i64 i),(18,.int .i64 x)] U3 L2 out row)
  unfold S2
  simp only [List.map_cons,List.map_nil]
  refine qm (qm ?_)
  refine ab fun K hK=>aa ae ?_
  simp only [an,fl,gp,ak,simprocAttr]
  refine af trivial (hK _ ?_)<;>clear hK K
  refine qa ?_
  refine aq rfl (fun hC5=>?_) (fun hC5=>?_)
  ·(try simp only [aE] at hC5)
   have hxm:x≤m:=by omega
   refine qh (qa (qm (ql (qm ?_))))
   refine ab fun K hK=>aa ae ?_
   simp only [an,fl,gp,ak,simprocAttr]
   refine af ?_ (hK _ ?_)<;>clear hK K
   ·first|exact trivial|omega|(simp only [ah] at *; omega)|(simp [ah] at *; omega)|simp_all
   refine qa (ql ?_)
   refine aD (ι:=Nat × List Nat × List Int × List Int) (fun q=>S2 m most k n0 t [(0,.int .i64 m),(3,.int .i64 k),(16,.int .i64 i),(18,.int .i64 x),(73,.nn [.int .i64 x,.int .i64 (-(x:Int))]),(74,.int .i64 2),(75,.int .i64 q.1)] q.2.2.2 q.2.1 out q.2.2.1)
    (fun q=>q.1≤2∧cw m (t.1,q.2.2.2)∧(∀ u,u < t.1.length→rV q.2.2.2 u=rV t.2 u)∧LI t q.2.1∧(i < q.2.1.length∧q.2.1.getD i 0=v)∧q.2.2.1.length=2 * (x - 1) + q.1∧((dx m).drop (2 * (x - 1) + q.1)).foldl (bQ (oh t v)) (q.2.1,q.2.2.1)=wB t m v L) (fun q=>2 - q.1) (0,L2,row,U3) ⟨by simp,q3,q4,q5,⟨hil,hv⟩,q7,q8⟩ (List.range n0++[n0,n0 + 1,n0 + 2,n0 + 3,n0 + 4]) ?_ fun q hq=>?_
   ·refine vu (sl:=[(0,.int .i64 m),(3,.int .i64 k),(16,.int .i64 i),(18,.int .i64 x),(73,.nn [.int .i64 x,.int .i64 (-(x:Int))]),(74,.int .i64 2),(75,.int .i64 ((0:Nat):Int))]) hn0 rfl (lC hn0 _) (Aw hn0 _) (gY hn0 _ 1) (gY hn0 _ 2) (gY hn0 _ 3) (gY hn0 _ 4) (by omega) rfl rfl rfl rfl rfl rfl (fun p hp=>by
     simp only [List.mem_cons,List.not_mem_nil,or_false] at hp
     rcases hp with rfl | rfl | rfl | rfl | rfl | rfl | rfl<;>rfl)
   clear q3 q4 q5 hil hv q7 q8 hLl hC5
   obtain ⟨j,L3,row,U4⟩:=q
   obtain ⟨j1,q3,q4,q5,⟨hil,hv⟩,q7,q8⟩:=hq
   simp only at j1 q3 q4 q5 hil hv q7 q8
   have hLl:L3.length≤t.1.length:=ko q5.nd fun x hx=>(q5.rt x hx).1
   show Holds _ _ _ (S2 m most k n0 t [(0,.int .i64 m),(3,.int .i64 k),(16,.int .i64 i),(18,.int .i64 x),(73,.nn [.int .i64 x,.int .i64 (-(x:Int))]),(74,.int .i64 2),(75,.int .i64 j)] U4 L3 out row)
   unfold S2
   simp only [List.map_cons,List.map_nil]
   refine qm ?_
   refine ab fun K hK=>aa ae ?_
   simp only [an,fl,gp,ak,simprocAttr]
   refine af trivial (hK _ ?_)<;>clear hK K
   refine qa (qm ?_)
   refine aq rfl (fun hC6=>?_) (fun hC6=>?_)
   ·(try simp only [aE] at hC6)
    have hj:j < 2:=by omega
    obtain ⟨y,hy⟩:∃ y,(dx m).getD (2 * (x - 1) + j) 0=y:=⟨_,rfl⟩
    have hkb:2 * (x - 1) + j < 2 * m:=by omega
    obtain ⟨y1,y2,y3,_⟩:=mG hkb
    rw [hy] at y1 y2 y3
    have hyx:([PV.int .i64 x,.int .i64 (-(x:Int))]:List PV).getD j default = .int .i64 y:=by
     have e:=mU hkb
     rw [hy] at e
     rcases (show j=0∨j=1 by omega) with rfl | rfl
     ·rw [if_pos (by omega)] at e
      rw [e,show (2 * (x - 1) + 0) / 2 + 1=x by omega]; rfl
     rw [if_neg (by omega)] at e
     rw [e,show (2 * (x - 1) + 1) / 2 + 1=x by omega]; rfl
    have hdr:(dx m).drop (2 * (x - 1) + j)=y :: (dx m).drop (2 * (x - 1) + (j + 1)):=by
     rw [List.drop_eq_getElem_cons (by rw [dd]; exact hkb),← hy,List.getD_eq_getElem?_getD,List.getElem?_eq_getElem (by rw [dd]; exact hkb)]; rfl
    rw [hdr,List.foldl_cons] at q8
    obtain ⟨hvl,hvr⟩:=q5.rt v (hv ▸ dh hil)
    obtain ⟨tv1,tv2,tv3⟩:=Gn g1 hf q3 q4 hvl hvr ⟨y1,y2,y3⟩ (by omega)
    obtain ⟨nb1,nb2⟩:=sJ g1 hf hvl hvr ⟨y1,y2,y3⟩
    obtain ⟨u,hu⟩:∃ u,oh t v y=u:=⟨_,rfl⟩
    rw [hu] at tv1 nb1 nb2
    obtain ⟨U5,hU5⟩:∃ U5,gi t.1 U4 v y=U5:=⟨_,rfl⟩
    rw [hU5] at tv2 tv3
    have hgr:U4.getD v 0=(v:Int):=pf q3 hvl (by simp only; rw [q4 v hvl]; exact hvr)
    have hLg:∀ d:AV,(ol (L3.map Int.ofNat)).getD i d = .p (.int .i64 (v:Nat)):=fun d=>by
     rw [bt (by simpa using hil)]
     have:(L3.map Int.ofNat).getD i 0=(v:Int):=by
      rw [← hv,List.getD_eq_getElem?_getD,List.getD_eq_getElem?_getD,List.getElem?_map,List.getElem?_eq_getElem hil]; rfl
     rw [this]
    refine qh (qa (qm (ql (qm ?_))))
    refine ab fun K hK=>aa ae ?_
    simp only [an,fl,gp,ak,simprocAttr,hyx]
    refine af ?_ (hK _ ?_)<;>clear hK K
    ·first|trivial|omega|exact ⟨by omega,by omega⟩|trace_state
    refine qa (qm ?_)
    refine ab fun K hK=>aa ae ?_
    simp only [an,fl,gp,ak,simprocAttr,gY hn0,hLg,Int.toNat_natCast,Int.ofNat_eq_natCast]
    refine ao ?_ (mj (N:=t.1) (U:=U4) (X:=[F0,tQ L3,.own (ol (L3.map Int.ofNat)),.own (bq (ll out)),.own (ol row)]) hm q3.wr (by omega) (v:=v) hvl hgr (x:=y) ⟨y1,y2,y3⟩ rfl rfl rfl rfl (by simp only [ay,Nat.reduceLT]) (aa ae ?_))
    ·first|trivial|omega|exact ⟨by omega,by simp; omega⟩|trace_state
    rw [tv1,hU5]
    simp only [an,fl,gp,ak,simprocAttr]
    refine af trivial (hK _ ?_)<;>clear hK K
    refine qa (qm (qm ?_))
    refine ab fun K hK=>aa ae ?_
    simp only [an,fl,gp,ak,simprocAttr,gY hn0,tQ]
    refine af ?_ (hK _ ?_)<;>clear hK K
    ·first|exact trivial|omega|(simp only [ah] at *; omega)|(simp [ah] at *; omega)|simp_all
    refine qa (qm ?_)
    refine ab fun K hK=>aa ae ?_
    simp only [an,fl,gp,ak,simprocAttr]
    refine af trivial (hK _ ?_)<;>clear hK K
    refine qa ?_
    refine aq rfl (fun hC7=>?_) (fun hC7=>?_)
    ·(try simp only [aE] at hC7)
     have hu3:u ∉ L3:=by
      rw [ou] at hC7
      simpa using hC7
     have hD:x8 (L3++[u]) (u:Int)=true:=by rw [ou]; simp
     have hW:Cq (L3++[u]) (u:Int)=(L3.length:Int):=by
      unfold Cq
      rw [if_pos hD,Int.toNat_natCast,List.idxOf_append,if_neg hu3]; simp
     have htl:List.take L3.length (L3.map Int.ofNat)=L3.map Int.ofNat:=List.take_of_length_le (by simp)
     have htr:List.take row.length row=row:=List.take_length
     have hsb:bQ (oh t v) (L3,row) y=(L3++[u],row++[(L3.length:Int)]):=by
      unfold bQ
      simp only [hu]
      rw [if_neg hu3]
     have hli:LI t (L3++[u]):=by
      have:=(pB (nb:=oh t v) (q:=(L3,row)) (y:=y) q5 (by rw [hu]; exact ⟨nb1,nb2⟩)).1
      rw [hsb] at this
      exact this
     rw [hsb] at q8
     refine qm ?_
     refine ab fun K hK=>aa ae ?_
     simp only [an,fl,gp,ak,simprocAttr,gY hn0,tQ,sY hn0,aF,DF hu3]
     refine af ?_ (hK _ ?_)<;>clear hK K
     ·first|trivial|omega|trace_state
     refine qa ?_
     refine ab fun K hK=>aa ae ?_
     simp only [an,fl,gp,ak,simprocAttr,gY hn0,lY hn0,sY hn0,aF,htl,List.append_assoc,List.cons_append,List.nil_append,List.length_map,dg]
     refine af ?_ (hK _ ?_)<;>clear hK K
     ·(repeat (first|trivial|omega|(simp; omega)|constructor))
     refine qa ?_
     refine ab fun K hK=>aa ae ?_
     simp only [an,fl,gp,ak,simprocAttr,gY hn0,tQ,lY hn0,sY hn0,aF,hD,hW,htr,List.append_assoc,List.cons_append,List.nil_append]
     refine af ?_ (hK _ ?_)<;>clear hK K
     ·exact ⟨Nat.le_refl _,by omega,by omega⟩
     refine qd (qa ?_)
     refine ab fun K hK=>aa ae ?_
     simp only [an,fl,gp,ak,simprocAttr]
     refine af ?_ (hK _ ?_)<;>clear hK K
     ·first|exact trivial|omega|(simp only [ah] at *; omega)|(simp [ah] at *; omega)|simp_all
     refine qa ?_
     refine ⟨(j + 1,L3++[u],row++[(L3.length:Int)],U5),List.range n0++[n0,n0 + 1,n0 + 5,n0 + 3,n0 + 6],⟨by simp only; omega,tv2,tv3,hli,⟨by simp only [List.length_append]; omega,by simp only; rw [r6 hil]; exact hv⟩,by simp only [List.length_append,List.length_cons,List.length_nil]; omega,q8⟩,by simp only; omega,?_⟩
     show Le _ (S2 m most k n0 t [(0,.int .i64 m),(3,.int .i64 k),(16,.int .i64 i),(18,.int .i64 x),(73,.nn [.int .i64 x,.int .i64 (-(x:Int))]),(74,.int .i64 2),(75,.int .i64 ((j + 1:Nat):Int))] U5 (L3++[u]) out (row++[(L3.length:Int)])) _
     have eL:(aH.own (ol ((L3++[u]).map Int.ofNat)):aH) = .own (ol (L3.map Int.ofNat++[(u:Int)])):=by rw [List.map_append]; rfl
     refine vu (p2:=n0 + 5) (p4:=n0 + 6) hn0 rfl (lC hn0 _) (Aw hn0 _) (gY hn0 _ 1) (by rw [eL]; exact gY hn0 _ 5) (gY hn0 _ 3) (gY hn0 _ 6) (by omega) rfl rfl rfl (by rw [List.length_append]; rfl) rfl (by rw [List.length_append]; rfl) (fun p hp=>by
       simp only [List.mem_cons,List.not_mem_nil,or_false] at hp
       rcases hp with rfl | rfl | rfl | rfl | rfl | rfl | rfl<;>rfl)
    (try simp only [aE] at hC7)
    have hu3:u∈L3:=by
     rw [ou] at hC7
     simpa using hC7
    have hD:x8 L3 (u:Int)=true:=by rw [ou]; simpa using hu3
    have hW:Cq L3 (u:Int)=(L3.idxOf u:Int):=by
     unfold Cq
     rw [if_pos hD,Int.toNat_natCast]
    have htr:List.take row.length row=row:=List.take_length
    have hsb:bQ (oh t v) (L3,row) y=(L3,row++[(L3.idxOf u:Int)]):=by
     unfold bQ
     simp only [hu]
     rw [if_pos hu3]
    rw [hsb] at q8
    refine qh (qa ?_)
    refine ab fun K hK=>aa ae ?_
    simp only [an,fl,gp,ak,simprocAttr,gY hn0,tQ,lY hn0,sY hn0,aF,hD,hW,htr,List.append_assoc,List.cons_append,List.nil_append]
    refine af ?_ (hK _ ?_)<;>clear hK K
    ·exact ⟨Nat.le_refl _,by omega,by omega⟩
    refine qd (qa ?_)
    refine ab fun K hK=>aa ae ?_
    simp only [an,fl,gp,ak,simprocAttr]
    refine af ?_ (hK _ ?_)<;>clear hK K
    ·first|exact trivial|omega|(simp only [ah] at *; omega)|(simp [ah] at *; omega)|simp_all
    refine qa ?_
    refine ⟨(j + 1,L3,row++[(L3.idxOf u:Int)],U5),List.range n0++[n0,n0 + 1,n0 + 2,n0 + 3,n0 + 5],⟨by simp only; omega,tv2,tv3,q5,⟨hil,hv⟩,by simp only [List.length_append,List.length_cons,List.length_nil]; omega,q8⟩,by simp only; omega,?_⟩
    show Le _ (S2 m most k n0 t [(0,.int .i64 m),(3,.int .i64 k),(16,.int .i64 i),(18,.int .i64 x),(73,.nn [.int .i64 x,.int .i64 (-(x:Int))]),(74,.int .i64 2),(75,.int .i64 ((j + 1:Nat):Int))] U5 L3 out (row++[(L3.idxOf u:Int)])) _
    refine vu (p2:=n0 + 2) (p4:=n0 + 5) hn0 rfl (lC hn0 _) (Aw hn0 _) (gY hn0 _ 1) (gY hn0 _ 2) (gY hn0 _ 3) (gY hn0 _ 5) (by omega) rfl rfl rfl rfl rfl (by rw [List.length_append]; rfl) (fun p hp=>by
      simp only [List.mem_cons,List.not_mem_nil,or_false] at hp
      rcases hp with rfl | rfl | rfl | rfl | rfl | rfl | rfl<;>rfl)
   (try simp only [aE] at hC6)
   have hje:j=2:=by omega
   subst hje
   have e2:2 * (x - 1) + 2=2 * (x + 1 - 1):=by omega
   rw [e2] at q7 q8
   refine qj (qc (qc (qf (qd (qa ?_)))))
   refine ab fun K hK=>aa ae ?_
   simp only [an,fl,gp,ak,simprocAttr]
   refine af ?_ (hK _ ?_)<;>clear hK K
   ·first|exact trivial|omega|(simp only [ah] at *; omega)|(simp [ah] at *; omega)|simp_all
   refine qa ?_
   refine ⟨(x + 1,L3,row,U4),List.range n0++[n0,n0 + 1,n0 + 2,n0 + 3,n0 + 4],⟨⟨by simp only; omega,by simp only; omega⟩,q3,q4,q5,⟨hil,hv⟩,q7,q8⟩,by simp only; omega,?_⟩
   show Le _ (S2 m most k n0 t [(0,.int .i64 m),(3,.int .i64 k),(16,.int .i64 i),(18,.int .i64 ((x + 1:Nat):Int))] U4 L3 out row) _
   refine vu (p2:=n0 + 2) (p4:=n0 + 4) hn0 rfl (lC hn0 _) (Aw hn0 _) (gY hn0 _ 1) (gY hn0 _ 2) (gY hn0 _ 3) (gY hn0 _ 4) (by omega) rfl rfl rfl rfl rfl rfl (fun p hp=>by
     simp only [List.mem_cons,List.not_mem_nil,or_false] at hp
     rcases hp with rfl | rfl | rfl | rfl<;>rfl)
  (try simp only [aE] at hC5)
  have hxe:x=m + 1:=by omega
  subst hxe
  rw [List.drop_eq_nil_of_le (by rw [dd]; omega),List.foldl_nil] at q8
  rw [← q8] at hst
  simp only at hst
  refine qj (qc (qc (qf (qa ?_))))
  refine si 17 (n0 + 4) (w:=row) rfl (gY hn0 _ 4) ?_
  simp only [sY hn0,aF]
  have hto:List.take out.length (bq (ll out))=bq (ll out):=List.take_of_length_le (by rw [aJ,aC]; exact Nat.le_refl _)
  refine ab fun K hK=>aa ae ?_
  simp only [an,fl,gp,ak,simprocAttr,gY hn0,lY hn0,sY hn0,aF,aJ,aC,hto,List.append_assoc,List.cons_append,List.nil_append]
  refine af ?_ (hK _ ?_)<;>clear hK K
  ·exact ⟨Nat.le_refl _,by omega,by omega⟩
  refine qd (qa ?_)
  refine ab fun K hK=>aa ae ?_
  simp only [an,fl,gp,ak,simprocAttr]
  refine af ?_ (hK _ ?_)<;>clear hK K
  ·first|exact trivial|omega|(simp only [ah] at *; omega)|(simp [ah] at *; omega)|simp_all
  refine qa ?_
  refine ⟨(i + 1,L2,out++[row],U3),List.range n0++[n0,n0 + 1,n0 + 2,n0 + 5],⟨by simp only; omega,by simp [q2],q3,q4,q5,hst⟩,by simp only; omega,?_⟩
  show Le _ (S1 m most k n0 t [(0,.int .i64 m),(3,.int .i64 k),(16,.int .i64 ((i + 1:Nat):Int))] U3 L2 (out++[row])) _
  have eo:(aH.own (bq (ll (out++[row]))):aH) = .own (bq (ll out)++[.p (.list (il row))]):=by simp [bq,ll]
  refine EO (p2:=n0 + 2) (p3:=n0 + 5) hn0 rfl (lC hn0 _) (Aw hn0 _) (gY hn0 _ 1) (gY hn0 _ 2) (by rw [eo]; exact gY hn0 _ 5) (by omega) rfl rfl rfl rfl (by rw [List.length_append]; rfl) (fun p hp=>by
    simp only [List.mem_cons,List.not_mem_nil,or_false] at hp
    rcases hp with rfl | rfl | rfl<;>rfl)
 (try simp only [aE] at hC4)
 have hie:L.length≤i:=by omega
 have hout:out=mf m t:=by
  rw [← q6]
  cases hb:t.1.length + 1 - i with
  | zero=>rfl
  | succ b=>unfold kj; rw [if_neg (by omega)]
 have hcond:(match (match (some t:Option CS) with | some t=>if k < (mf m t).length then none else some (mf m t) | none=>none) with | none=>PV.tup [.list [],fl (9,0)] | some T=>.tup [.list (ll T),fl (0,0)])=if k < out.length then PV.tup [.list [],fl (9,0)] else .tup [.list (ll out),fl (0,0)]:=by
  rw [hout]
  by_cases h:k < (mf m t).length
  ·simp only [if_pos h]
  simp only [if_neg h]
 refine qj (qc (qc (qf (qa (qm (qm ?_))))))
 refine ab fun K hK=>aa ae ?_
 simp only [an,fl,gp,ak,simprocAttr]
 refine af trivial (hK _ ?_)<;>clear hK K
 refine qa ?_
 refine aq rfl (fun hC8=>?_) (fun hC8=>?_)
 ·(try simp only [aE] at hC8)
  have hko:k < out.length:=by omega
  refine qm ?_
  refine ab fun K hK=>aa ae ?_
  simp only [an,fl,gp,ak,simprocAttr]
  refine ao trivial (au (ez 9 0) rfl rfl rfl (by simp only [ay,Nat.reduceLT]) (by repeat (first|exact trivial|constructor)) (aa ae ?_))
  simp only [an,fl,gp,ak,simprocAttr,Aw hn0,Jj hn0,F0,aF]
  refine af ?_ (hK _ ?_)<;>clear hK K
  ·first|exact trivial|omega|(simp only [ah] at *; omega)|(simp [ah] at *; omega)|simp_all
  refine qa (qk (qb ?_))
  simp only [Tryd.results28,bT,an,fl,gp,ak,simprocAttr]
  simp only [Aw hn0,← hout,if_pos hko,an,fl,gp,ak,simprocAttr]
  all_goals (first|exact rfl|exact ⟨rfl,rfl⟩|exact ⟨rfl,rfl,rfl⟩|exact ⟨trivial,rfl⟩|exact ⟨Nat.le_refl _,rfl⟩|trivial|(simp; done))
 (try simp only [aE] at hC8)
 have hko:¬ k < out.length:=by omega
 refine qh (qa (qm ?_))
 refine mI 15 (n0 + 3) (l:=ll out) (jL out) (by rw [aC]; rfl) (gY hn0 _ 3) ?_
 simp only [sY hn0,aF]
 refine ab fun K hK=>aa ae ?_
 simp only [an,fl,gp,ak,simprocAttr,Aw hn0,Jj hn0,F0,aF]
 refine af ?_ (hK _ ?_)<;>clear hK K
 ·first|exact trivial|omega|(simp only [ah] at *; omega)|(simp [ah] at *; omega)|simp_all
 refine qa (qk ?_)
 simp only [Tryd.results28,bT,an,fl,gp,ak,simprocAttr]
 simp only [Aw hn0,← hout,if_neg hko,an,fl,gp,ak,simprocAttr]
 all_goals (first|exact rfl|exact ⟨rfl,rfl⟩|exact ⟨rfl,rfl,rfl⟩|exact ⟨trivial,rfl⟩|exact ⟨Nat.le_refl _,rfl⟩|trivial|(simp; done))
open Go.Pv
def kS (k:Nat):Int:=if k % 2=0 then ((k / 2 + 1:Nat):Int) else -((k / 2 + 1:Nat):Int)
def eQ (T:List (List Int)) (i:Nat) (ws:List (List Int)) (k:Nat):List (List Int):=if ((T.getD i []).getD k 0).toNat=ws.length then ws++[ws.getD i []++[kS k]] else ws
def qt (T:List (List Int)) (m i:Nat) (ws:List (List Int)):List (List Int):=(List.range (2 * m)).foldl (eQ T i) ws
def dj (T:List (List Int)) (m:Nat):List (List Int):=(List.range T.length).foldl (fun ws i=>qt T m i ws) [[]]
def gK (T ws:List (List Int)):List Int:=(List.range (T.length * T.length)).map fun p=>(cb T (p / T.length) (ws.getD (p % T.length) []):Int)
def kV (T:List (List Int)) (m:Nat):List Int:=(List.range m).map fun x=>(jv T 0 ((x + 1:Nat):Int):Int)
theorem Fi {m k:Nat} (h:k < 2 * m):kS k ≠ 0∧-(m:Int)≤kS k∧kS k≤m∧cI (kS k)=k:=by
 have:=mG h
 rw [mU h] at this
 exact this
structure pg (m:Nat) (T:List (List Int)) (ws:List (List Int)):Prop where
 pos:0 < ws.length
 le:ws.length≤T.length
 wd:∀ j,j < ws.length→Lt m (ws.getD j [])∧cb T 0 (ws.getD j [])=j∧(ws.getD j []).length≤j
theorem FE {ws:List (List Int)} {w:List Int} {j:Nat} (h:j < ws.length):(ws++[w]).getD j []=ws.getD j []:=by
 rw [List.getD_eq_getElem?_getD,List.getElem?_append_left h,List.getD_eq_getElem?_getD]
theorem C4 {ws:List (List Int)} {w:List Int} : (ws++[w]).getD ws.length []=w:=by
 rw [List.getD_eq_getElem?_getD,List.getElem?_append_right (Nat.le_refl _)]; simp
theorem pg.step {m:Nat} {T ws:List (List Int)} (h:pg m T ws) (htb:Tb m T) {i k:Nat} (hi:i < ws.length) (hk:k < 2 * m) (hu:((T.getD i []).getD k 0).toNat=ws.length):pg m T (ws++[ws.getD i []++[kS k]]):=by
 obtain ⟨a1,a2,a3⟩:=h.wd i hi
 obtain ⟨b1,b2,b3,b4⟩:=Fi hk
 have hiT:i < T.length:=by have:=h.le; omega
 have hlt:ws.length < T.length:=by
  obtain ⟨d,d1,d2⟩:=(htb.at hiT).2 k hk
  rw [d1] at hu
  simp at hu
  omega
 refine ⟨by simp,by simp; omega,fun j hj=>?_⟩
 by_cases hjl:j < ws.length
 ·rw [FE hjl]; exact h.wd j hjl
 have:j=ws.length:=by simp at hj; omega
 subst this
 rw [C4]
 refine ⟨fun x hx=>?_,?_,by rw [List.length_append]; simp only [List.length_cons,List.length_nil]; omega⟩
 ·rcases List.mem_append.1 hx with hx | hx
  ·exact a1 x hx
  rw [List.mem_singleton] at hx; subst hx; exact ⟨b1,b2,b3⟩
 rw [gF,a2]
 show jv T i (kS k)=_
 unfold jv
 rw [b4,Int.toNat_natCast]
 exact hu
theorem tN {m:Nat} {T:List (List Int)} (htb:Tb m T) {i:Nat} (hiT:i < T.length):∀ (k:Nat) (ws:List (List Int)) (n2:Nat),pg m T ws→i < ws.length→k≤2 * m→BS ws.length ((T.getD i []).drop (2 * m - k))=some n2 →
  pg m T (((List.range' (2 * m - k) k)).foldl (eQ T i) ws)∧(((List.range' (2 * m - k) k)).foldl (eQ T i) ws).length=n2
 | 0,ws,n2,h,hi,_,hn=>by
  rw [List.drop_eq_nil_of_le (by rw [(htb.at hiT).1]; omega)] at hn
  exact ⟨h,Option.some.inj hn⟩
 | k + 1,ws,n2,h,hi,hk,hn=>by
  have hkl:2 * m - (k + 1) < 2 * m:=by omega
  obtain ⟨d,d1,d2⟩:=(htb.at hiT).2 _ hkl
  have hdr:(T.getD i []).drop (2 * m - (k + 1))=(d:Int) :: (T.getD i []).drop (2 * m - k):=by
   rw [List.drop_eq_getElem_cons (by rw [(htb.at hiT).1]; omega),← d1,List.getD_eq_getElem?_getD (l:=T.getD i []),List.getElem?_eq_getElem (by rw [(htb.at hiT).1]; omega)]
   rw [show 2 * m - (k + 1) + 1=2 * m - k by omega]; rfl
  rw [hdr,BS] at hn
  rw [List.range'_succ,List.foldl_cons,show 2 * m - (k + 1) + 1=2 * m - k by omega]
  split at hn
  ·cases hn
  rename_i hlt
  by_cases he:d=ws.length
  ·rw [if_pos (by omega)] at hn
   have hu:((T.getD i []).getD (2 * m - (k + 1)) 0).toNat=ws.length:=by rw [d1]; simpa using he
   have e:eQ T i ws (2 * m - (k + 1))=ws++[ws.getD i []++[kS (2 * m - (k + 1))]]:=by unfold eQ; rw [if_pos hu]
   rw [e]
   have e2:(ws++[ws.getD i []++[kS (2 * m - (k + 1))]]).length=ws.length + 1:=by simp
   exact tN htb hiT k _ n2 (h.step htb hi hkl hu) (by rw [e2]; omega) (by omega) (by rw [e2]; exact hn)
  rw [if_neg (by omega)] at hn
  have e:eQ T i ws (2 * m - (k + 1))=ws:=by unfold eQ; rw [if_neg (by rw [d1]; simpa using he)]
  rw [e]
  exact tN htb hiT k ws n2 h hi (by omega) hn
theorem yt {m:Nat} {T:List (List Int)} (htb:Tb m T):∀ (r i:Nat) (ws:List (List Int)),i + r=T.length→pg m T ws→H9 ws.length i (T.drop i)→(r=0→ws.length=T.length) →
  pg m T ((List.range' i r).foldl (fun ws i=>qt T m i ws) ws)∧((List.range' i r).foldl (fun ws i=>qt T m i ws) ws).length=T.length
 | 0,i,ws,hi,h,hn,he=>⟨h,he rfl⟩
 | r + 1,i,ws,hi,h,hn,_=>by
  have hiT:i < T.length:=by omega
  have hdr:T.drop i=T.getD i [] :: T.drop (i + 1):=by
   rw [List.drop_eq_getElem_cons hiT,List.getD_eq_getElem?_getD,List.getElem?_eq_getElem hiT]; rfl
  rw [hdr] at hn
  obtain ⟨h1,n2,h2,h3⟩:=hn
  obtain ⟨g1,g2⟩:=tN htb hiT (2 * m) ws n2 h h1 (Nat.le_refl _) (by rw [Nat.sub_self]; exact h2)
  rw [Nat.sub_self,← List.range_eq_range'] at g1 g2
  rw [List.range'_succ,List.foldl_cons]
  have e:qt T m i ws=(List.range (2 * m)).foldl (eQ T i) ws:=rfl
  refine yt htb r (i + 1) (qt T m i ws) (by omega) g1 (by rw [e,g2]; exact h3) fun hr=>?_
  have hl:i + 1=T.length:=by omega
  have h5:=g1.le
  have h4:i < n2:=by
   have:ws.length≤n2:=by
    rw [← g2]
    have:∀ (L:List Nat) (ws:List (List Int)),ws.length≤(L.foldl (eQ T i) ws).length:=by
     intro L
     induction L with
     | nil=>intro ws; exact Nat.le_refl _
     | cons a L ih =>
      intro ws
      rw [List.foldl_cons]
      refine Nat.le_trans ?_ (ih _)
      unfold eQ
      split<;>simp
    exact this _ _
   omega
  rw [e,g2]
  rw [g2] at h5
  omega
theorem oA {m:Nat} {T rels bb:List (List Int)} (h:eX m T rels bb) (h0:0 < T.length):pg m T (dj T m)∧(dj T m).length=T.length:=by
 have hw:pg m T [[]]:=⟨by simp,h0,fun j hj=>by
  have:j=0:=by simp at hj; omega
  subst this
  exact ⟨fun x hx=>by simp at hx,rfl,by simp⟩⟩
 have:=yt h.tb T.length 0 [[]] (by omega) hw (by simpa using h.nx) (by omega)
 rw [← List.range_eq_range'] at this
 exact this
theorem AB {n n' : Nat} {r:List Int} {k:Nat} (h:BS n (r.drop k)=some n') (hk:k < r.length):¬ (n:Int) < r.getD k 0∧BS (if r.getD k 0=n then n + 1 else n) (r.drop (k + 1))=some n':=by
 have hdr:r.drop k=r.getD k 0 :: r.drop (k + 1):=by
  rw [List.drop_eq_getElem_cons hk,List.getD_eq_getElem?_getD,List.getElem?_eq_getElem hk]; rfl
 rw [hdr,BS] at h
 split at h
 ·cases h
 rename_i hn; exact ⟨hn,h⟩
end Go.Proofs.YtpobnnfkeekiaaaDoor.Pr
namespace Go.Pv
open Go.RowKit
theorem pk {P:Program} {T:TypeId→Option TI} {s:St} (hT:∀ t ti,T t=some ti→bk P t=some ti) {all:Array Oper} {rest:List Oper} {K:St→List I2→Prop} {acc:List I2} {dst:Option Tmp} {ty:TypeId} {pos:String} {aft:Array Edge} {gd:Option (Nat × Bool)} {t:TypeId} {x y:Operand}
  {ti te:TI} {e:TypeId} {l:List PV} (ht:T t=some ti) (hk:ti.kind = .slice e) (hte:T e=some te) (hsz:te.size=1∧te.zero.length=1) (hx:s.ev x = .p (.nn [])) (hy:s.ev y = .p (.nn l))
  (hg:a8 all s { dst:=dst,op:=.call { callee:=.builtin .append,args:=#[x,y],argTypes:=#[t,t] },type:=ty,pos:=pos,after:=aft,guard:=gd } = some true) (hd:ay s dst) (hl:l.all PV.one=true) (h0:0 < l.length) (hb:l.length * te.bytes≤140737488355328∧l.length≤9223372036854775807)
  (h:fE P all rest K (({ s with H:=s.H++[.own (bq l)] } : St).put dst (.sl s.H.length 0 l.length)) (acc++[⟨.nw s.H.length,.sl s.H.length 0 l.length,.own (bq l),true⟩])) :
  fE P all ({ dst:=dst,op:=.call { callee:=.builtin .append,args:=#[x,y],argTypes:=#[t,t] },type:=ty,pos:=pos,after:=aft,guard:=gd } :: rest) K s acc:=by
 obtain ⟨s',xs,hr,hK⟩:=h
 have pure:∀ (q:Nat) (hq:q < (bq l).length),∃ v,(bq l)[q] = .p v:=fun q hq=>⟨l[q]'(by simpa [bq] using hq),by simp [bq]⟩
 refine ⟨s',⟨.nw s.H.length,.sl s.H.length 0 l.length,.own (bq l),true⟩ :: xs,.op hg (bC hd) ⟨rfl,?_⟩ (fun _ c hc q hq κ=>by
  cases List.mem_singleton.1 (show aH.own c∈[aH.own (bq l)] from hc)
  obtain ⟨v,e⟩:=pure q hq
  rw [e]
  exact .p _) hr,by rw [List.append_assoc] at hK; exact hK⟩
 intro s2 hn ha hdd n1 n2 n3
 have hx2:s2.ev x = .p (.nn []):=by rw [← hx]; exact ha x (by simp [Op.operands,Call.operands])
 have hy2:s2.ev y = .p (.nn l):=by rw [← hy]; exact ha y (by simp [Op.operands,Call.operands])
 have hol:(bq l).length=l.length:=aJ l
 have hm:fm T ti s2.H (s2.ev x) (s2.ev y)=some ⟨(te.size=1∧te.zero.length=1)∧(l.all PV.one=true)∧(bq l).all bm=true∧([]:List PV).all PV.one=true∧0 < (bq l).length∧(([]:List PV).length + (bq l).length) * te.bytes≤140737488355328∧([]:List PV).length + (bq l).length≤9223372036854775807,.sl s2.H.length 0 (([]:List PV).length + (bq l).length),s2.H++[.own (([]:List PV).map .p++bq l)]⟩:=by
  rw [hx2,hy2]
  simp only [fm,hk,hte,cO]
  rfl
 refine uV.wp fun C m a w R=>?_
 obtain ⟨v,w',m',hyi,R',hv⟩:=lV hT R (o:={ dst:=dst,op:=.call { callee:=.builtin .append,args:=#[x,y],argTypes:=#[t,t] },type:=ty,pos:=pos,after:=aft,guard:=gd }) rfl ht hm ⟨hsz,hl,Bu hl,rfl,by rw [hol]; exact h0,by rw [hol]; simpa using hb.1,by rw [hol]; simpa using hb.2⟩
 obtain ⟨g1,_,g2⟩:=Rel.move R (b:=.own (bq l)) R' hdd n3 (fun _ _ h=>by cases h) n1 n2 fun c hc i hi=>by
  cases hc
  obtain ⟨v,e⟩:=pure i hi
  rw [e]
  exact ⟨.p _,.p _⟩
 have h3:=g2 _ _ v hv
 simp only [List.length_nil,Nat.zero_add,hol] at h3
 exact ⟨v,w',_,hyi,g1,h3⟩
section
variable {P:Program} {C:Ctx} {m:Map} {s:St} {tmps:Array Value} {w:World}
end
open Go.RowKit
section
variable {P:Program} {T:TypeId→Option TI} {s:St}
end
end Go.Pv
namespace Go.Proofs.YtpobnnfkeekiaaaDoor.Pr
open Go.Pv
end Go.Proofs.YtpobnnfkeekiaaaDoor.Pr
namespace Go.Pv
open Go.RowKit
def nl:List Int→PV
 | []=>.nn []
 | x :: r=>.list (il (x :: r))
theorem oD (l:List Int) (x:Int):nl (l++[x]) = .list (il (l++[x])):=by
 cases l<;>rfl
theorem DE {ok:Nat→Prop} {w:World} {l:List Int} {x:Value} (h:Reads ok w (nl l) x):Reads ok w (.list (il l)) x:=by
 cases l with
 | nil=>exact Reads.iP h
 | cons=>exact h
section
variable {P:Program} {T:TypeId→Option TI} {s:St}
theorem om (hT:∀ t ti,T t=some ti→bk P t=some ti) {o:Oper} {t:TypeId} {x y:Operand} (ho:o.op = .call { callee:=.builtin .append,args:=#[x,y],argTypes:=#[t,t] }) {ti te:TI} (ht:T t=some ti) {e:TypeId} (hk:ti.kind = .slice e) (hte:T e=some te) (hsz:te.size=1)
  {l:List PV} (hx:s.ev x = .p (.nn l)) (hy:s.ev y = .p (.nn [])):bu P o s (.p (.nn l)) s.H:=by
 intro C m a w K Q R hK
 obtain ⟨dst,op,type,pos,after,guard⟩:=o
 simp only at ho
 subst ho
 have hu:=bK (hT _ _ ht) hk
 obtain ⟨i,d,z,h1,h2,h3,h4,h5,h6,h7,h8⟩:=aZ (hT _ _ hte)
 have h:=R.ev x
 rw [hx] at h
 have hl:=h.aN
 obtain ⟨ad,hv⟩:∃ ad,a.eval x = .slice (some ad) l.length l.length:=by
  generalize a.eval x=v at hl
  rcases hl.iX with ⟨rfl,ad,rfl⟩ | ⟨b,off,sz,vs,rfl,_⟩
  ·exact ⟨ad,rfl⟩
  exact ⟨_,rfl⟩
 have hy':=R.ev y
 rw [hy] at hy'
 have hy':=hy'.aN
 obtain ⟨ad2,cap2,hv2⟩:∃ ad2 cap2,a.eval y = .slice ad2 0 cap2:=by
  generalize a.eval y=v at hy'
  rcases hy'.iX with ⟨_,ad,rfl⟩ | ⟨b,off,sz,vs,rfl,_⟩
  ·exact ⟨_,_,rfl⟩
  exact ⟨_,_,rfl⟩
 have hr:=eH (P:=P) (w:=w) type hu h1 (by rw [h4,hsz]) (ad:=some ad) (n:=l.length) (cap:=l.length) (x:=.slice ad2 0 cap2) gX (Nat.le_refl _)
 have hrun:(execOp a.eval { dst:=dst,op:=.call { callee:=.builtin .append,args:=#[x,y],argTypes:=#[t,t] },type:=type,pos:=pos,after:=after,guard:=guard }).run P w = .ok (.value (.slice (some ad) l.length l.length)) w:=by
  simp only [BigFrame.execOp_builtin,BigFrame.builtin_append,List.map_toArray,List.map_cons,List.map_nil,hv,hv2,Sem.run_bind,hr,Result.andThen_ok,Sem.run_pure]
 refine aW (by first|rfl|(rw [ho]; rfl)) ?_
 unfold Oper.wp
 rw [hrun]
 rw [hv] at hl
 exact hK _ m w R (.p _ _ hl)
end
end Go.Pv
namespace Go.Proofs.YtpobnnfkeekiaaaDoor.Pr
open Go.Pv
theorem A0 {P:Program} {f:FuncId} {args:List PV} {r:PV} (h:wz P f args (.p r) []):ct P f args r:=
 ⟨h.1,fun okA w vals h1 h2 h3=>(h.2 okA w vals h1 h2 h3).mono fun e w' ⟨v,m',he,hbl,ho⟩=>⟨v,he,hbl,ho.val.aN.mono fun b hb=>⟨hb.1,hb.2.1⟩⟩⟩
theorem zE:wz Tryd.prog 29 [.nn []] (.p (.nn [])) []:=by
 refine nc ae Tryd.func29 rfl (by kernel_rfl) (by rw [Tryd.ntmps29]; exact Nat.le_add_left 1 _) ?_; rw [Tryd.ntmps29]
 refine qm ?_
 refine ab fun K hK=>aa ae ?_
 simp only [an,fl,gp,ak,simprocAttr]
 refine af trivial (hK _ ?_)<;>clear hK K
 refine qa (qm (qm ?_))
 refine ab fun K hK=>aa ae ?_
 simp only [an,fl,gp,ak,simprocAttr]
 refine af trivial (hK _ ?_)<;>clear hK K
 refine qa ?_
 refine aq rfl (fun hC1=>?_) (fun hC1=>?_)
 ·(try simp only [aE] at hC1)
  cases hC1
 (try simp only [aE] at hC1)
 refine qh (qa (qm ?_))
 refine ab fun K hK=>xo 2 (aa ae ?_)
 simp only [List.take_succ_cons,List.take_zero]
 simp only [an,fl,gp,ak,simprocAttr]
 refine af trivial ?_
 refine cB (om ae rfl rfl rfl rfl rfl rfl rfl) rfl (by simp only [ay]; decide) (aa ae ?_)
 simp only [an,fl,gp,ak,simprocAttr]
 refine af trivial (hK _ ?_)<;>clear hK K
 refine qa (qk ?_)
 simp only [Tryd.results29,eR,gq,dk,kR,bY,an,fl,gp,ak,simprocAttr]
 all_goals (exact ⟨[],rfl,rfl,by simp only [leq,bx,an,fl,gp,ak,simprocAttr]<;>trivial⟩)
theorem Di (w:List Int) (hl:w.length≤1000000000):ct Tryd.prog 29 [nl w] (nl w):=by
 cases w with
 | nil=>exact A0 zE
 | cons c r=>exact CR (c :: r) hl
end Go.Proofs.YtpobnnfkeekiaaaDoor.Pr
