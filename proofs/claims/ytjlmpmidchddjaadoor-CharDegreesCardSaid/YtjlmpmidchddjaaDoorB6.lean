/-
  Texts of this proof, one behind the other: what each says stands at its head. Conditions: none.
-/
import Derived.Test.YtjlmpmidchddjaaDoorB5
import Derived.Test.YtjlmpmidchddjaaDoorB3
import Derived.Test.YtjlmpmidchddjaaDoorB4
set_option linter.all false
namespace Go.Proofs.YtjlmpmidchddjaaDoor
open Go.Pv
def Cu (T:List (List (List Int))):List PV:=T.map fun M=>.list (ll M)
theorem ou (T:List (List (List Int))):(Cu T).length=T.length:=by simp [Cu]
theorem oB {T:List (List (List Int))} {i:Nat} (h:i < T.length):(Cu T).getD i default = .list (ll (T.getD i [])):=by
 simp [Cu,List.getD,List.getElem?_eq_getElem h]
theorem xX (N c:Nat):rws N c=ca 3 N c:=by
 refine List.ext_getElem (by simp [rws,s8,ca]) fun i h1 h2=>?_
 simp [rws,s8,ca]
theorem tA {X:ay} {z:Nat} (h:X.length=z) (y b:aM):aE (X++[y]) z b=X++[b]:=by
 rw [df,List.set_append_right _ _ (by omega),h,Nat.sub_self]; rfl
def rP (Z:List (List Int)) (i:Nat):List (List Int):=(List.range Z.length).map fun t=>if t < i then (Z.getD t []).drop 1 else Z.getD t []
theorem DK (Z:List (List Int)) (i:Nat):(rP Z i).length=Z.length:=by simp [rP]
theorem zI (Z:List (List Int)):rP Z 0=Z:=by
 refine List.ext_getElem (by simp [rP]) fun t h1 h2=>?_
 simp [rP,List.getD,List.getElem?_eq_getElem h2]
theorem C4 {Z:List (List Int)} {i t:Nat} (h:t < Z.length):(rP Z i).getD t []=if t < i then (Z.getD t []).drop 1 else Z.getD t []:=by
 simp [rP,List.getD,List.getElem?_map,List.getElem?_range h]
theorem Et {Z:List (List Int)} {i:Nat} (h:i < Z.length):(rP Z i).set i ((Z.getD i []).drop 1)=rP Z (i + 1):=by
 refine List.ext_getElem (by simp [rP]) fun t h1 h2=>?_
 rw [List.getElem_set]
 by_cases e:i=t
 ·subst e; simp [rP]
 rw [if_neg e]
 simp only [rP,List.getElem_map,List.getElem_range]
 by_cases e2:t < i
 ·rw [if_pos e2,if_pos (by omega)]
 rw [if_neg e2,if_neg (by omega)]
theorem Dx (Z:List (List Int)):rP Z Z.length=Z.map (·.drop 1):=by
 refine List.ext_getElem (by simp [rP]) fun t h1 h2=>?_
 have:t < Z.length:=by simpa using h2
 simp [rP,this]
theorem EG {Z:List (List Int)} {i:Nat} (h:i < Z.length) (d:AV):(bF (ll Z)).getD i d = .p (.list (il (Z.getD i []))):=by
 simp [bF,ll,List.getD,List.getElem?_map,List.getElem?_eq_getElem h]
theorem Ei (Z:List (List Int)) (i:Nat) (v:List Int):(bF (ll Z)).set i (.p (.list (il v)))=bF (ll (Z.set i v)):=by
 simp [bF,ll,List.map_set]
structure zn (n:Nat) (m:List Int) (c:Nat) (H:ay) (κ:Nat) (Q:List (Nat × List (List Int))):Prop where
 wf:vb H
 b0:aq H 0 = .own [.p (.int .i64 n),.p (.list (il m))]
 b1:aq H 1 = .own [.p (.int .i64 0),.p (.int .i64 0)]
 sp:ua H c κ Q
 hd:aq H κ = .own (ie Q)
 k2:2≤κ
structure yt (n:Nat) (m:List Int) (c:Nat) (H:ay) (κ κ2:Nat) (Qr Q Q2:List (Nat × List (List Int))):Prop where
 wf:vb H
 b0:aq H 0 = .own [.p (.int .i64 n),.p (.list (il m))]
 b1:aq H 1 = .own [.p (.int .i64 0),.p (.int .i64 0)]
 sp:ua H c κ2 (Qr++Q2)
 hd:aq H κ = .own (ie Q)
 hd2:aq H κ2 = .own (ie Q2)
 len:H.length=κ2 + 1
 kl:κ < κ2
 k2:2≤κ
 bo:∀ x∈Qr,x.1 + x.2.length < κ
structure Iq (n:Nat) (m:List Int) (c:Nat) (H:ay) (κ κ3:Nat) (Qr Q:List (Nat × List (List Int))) (R:List (List Int)):Prop where
 wf:vb H
 b0:aq H 0 = .own [.p (.int .i64 n),.p (.list (il m))]
 b1:aq H 1 = .own [.p (.int .i64 0),.p (.int .i64 0)]
 sp:ua H c κ Qr
 hd:aq H κ = .own (ie Q)
 ho:aq H κ3 = .own (bF (ll R))
 len:H.length=κ3 + 1
 kl:κ < κ3
 k2:2≤κ
theorem zn.out {n:Nat} {m:List Int} {c:Nat} {H:ay} {κ:Nat} {Q:List (Nat × List (List Int))} (h:zn n m c H κ Q):Iq n m c (H++[.own []]) κ H.length Q Q []:=by
 have hk:=kC h.hd
 have hk2:=h.k2
 refine ⟨fK h.wf fun b hb=>by rw [List.mem_singleton.1 hb]; rfl,by rw [aF (by omega)]; exact h.b0,by rw [aF (by omega)]; exact h.b1,?_,by rw [aF hk]; exact h.hd,bc _ _,by simp,hk,h.k2⟩
 exact h.sp.move (Nat.le_refl _) fun x hx j h1 h2=>aF (by have:=h.sp.bd x hx; omega)
theorem Iq.next {n:Nat} {m:List Int} {c:Nat} {H:ay} {κ κ3 P:Nat} {s:List (List Int)} {Qr Q:List (Nat × List (List Int))} {R R' : List (List Int)} (h:Iq n m c H κ κ3 ((P,s) :: Qr) Q R) (hs:0 < s.length) {G:ay} (hl:G.length=H.length + 4) (hw:vb G) (hg:∀ j,j < H.length→j ≠ κ3→j ≠ P + 1→aq G j=aq H j) (ho:aq G (H.length + 3) = .own (bF (ll R'))) :
  Iq n m c G κ (H.length + 3) Qr Q R':=by
 have hlen:=h.len
 have hkl:=h.kl
 have hk2:=h.k2
 have hb:=h.sp.bd (P,s) (by simp)
 have hdj:=List.pairwise_cons.1 h.sp.dj
 simp only at hb
 refine ⟨hw,?_,?_,?_,?_,ho,by omega,by omega,hk2⟩
 ·rw [hg 0 (by omega) (by omega) (by omega)]; exact h.b0
 ·rw [hg 1 (by omega) (by omega) (by omega)]; exact h.b1
 ·refine (h.sp.sub (List.sublist_cons_self _ _)).move (Nat.le_refl _) fun x hx j h1 h2=>?_
  have hbx:=h.sp.bd x (List.mem_cons_of_mem _ hx)
  have:=hdj.1 x hx
  unfold Dj at this
  simp only at this
  exact hg j (by omega) (by omega) (by omega)
 rw [hg κ (by omega) (by omega) (by omega)]; exact h.hd
theorem zn.zero (n:Nat) (m:List Int) (c:Nat):zn n m c (.own [.p (.int .i64 n),.p (.list (il m))] :: .own [.p (.int .i64 0),.p (.int .i64 0)] :: .own (rws c c) :: (tl (aP c c)++[.own [.sl 2 0 c]])) (c + 3) [(2,aP c c)]:=by
 have hl:(tl (aP c c)).length=c:=by rw [aD,bh]
 refine ⟨fun b hb=>?_,rfl,rfl,⟨fun x hx=>?_,fun x hx=>?_,List.pairwise_singleton _ _⟩,?_,by omega⟩
 ·simp only [List.length_cons,List.length_append,hl]
  rcases List.mem_cons.1 hb with rfl | hb
  ·rfl
  rcases List.mem_cons.1 hb with rfl | hb
  ·rfl
  rcases List.mem_cons.1 hb with rfl | hb
  ·rw [xX]; exact jy (by simp<;>omega)
  rcases List.mem_append.1 hb with hb | hb
  ·exact rD _ _ b hb
  rw [List.mem_singleton.1 hb]; simp [eD,bg,bt]
 ·rw [List.mem_singleton.1 hx]
  refine ⟨by rw [bh,← xX]; rfl,fun i hi=>?_⟩
  simp only [bh] at hi
  rw [show 2 + 1 + i=i + 3 by omega]
  show aq (tl (aP c c)++_) i=_
  rw [aF (by omega),aV (by rw [bh]; exact hi)]
 ·rw [List.mem_singleton.1 hx]; simp [bh]<;>omega
 show aq (tl (aP c c)++_) c=_
 have:=bc (tl (aP c c)) (.own [.sl 2 0 c])
 rw [hl] at this
 rw [this]; simp [ie,bh]
theorem zn.lt {n:Nat} {m:List Int} {c:Nat} {H:ay} {κ:Nat} {Q:List (Nat × List (List Int))} (h:zn n m c H κ Q):κ < H.length:=kC h.hd
theorem zn.start {n:Nat} {m:List Int} {c:Nat} {H:ay} {κ:Nat} {Q:List (Nat × List (List Int))} (h:zn n m c H κ Q):yt n m c (H++[.own []]) κ H.length Q Q []:=by
 have hk:=h.lt
 have hk2:=h.k2
 refine ⟨fK h.wf fun b hb=>by rw [List.mem_singleton.1 hb]; rfl,by rw [aF (by omega)]; exact h.b0,by rw [aF (by omega)]; exact h.b1,?_,by rw [aF hk]; exact h.hd,bc _ _,by simp,hk,h.k2,fun x hx=>(h.sp.bd x hx).2⟩
 rw [List.append_nil]
 exact h.sp.move (by omega) fun x hx j h1 h2=>aF (by have:=h.sp.bd x hx; omega)
theorem yt.end {n:Nat} {m:List Int} {c:Nat} {H:ay} {κ κ2:Nat} {Q Q2:List (Nat × List (List Int))} (h:yt n m c H κ κ2 [] Q Q2):zn n m c H κ2 Q2:=⟨h.wf,h.b0,h.b1,h.sp,h.hd2,by have:=h.kl; have:=h.k2; omega⟩
theorem yt.step {n:Nat} {m:List Int} {c:Nat} {H:ay} {κ κ2:Nat} {x:Nat × List (List Int)} {Qr Q Q2 N:List (Nat × List (List Int))} (h:yt n m c H κ κ2 (x :: Qr) Q Q2) {H1 Y:ay} (hl:H1.length=H.length)
  (hg:∀ j,¬ (x.1≤j∧j≤x.1 + x.2.length)→aq H1 j=aq H j) (hw:vb H1) (hY:∀ b∈Y,eD (H.length + Y.length) b=true) (hN:ua (H1++Y) c (H.length + Y.length) N) (hNd:∀ y∈N,y=x∨H.length≤y.1) :
  yt n m c (aE (H1++Y) κ2 .dead++[.own (ie (Q2++N))]) κ (H.length + Y.length) Qr Q (Q2++N):=by
 have hlen:=h.len
 have hkl:=h.kl
 have hk2:=h.k2
 have hbx:=h.sp.bd x (by simp)
 have hbo:=h.bo x (by simp)
 have hGl:(aE (H1++Y) κ2 .dead).length=H.length + Y.length:=by rw [dR,List.length_append,hl]
 have hG1:∀ j,j ≠ κ2→j < H.length + Y.length→aq (aE (H1++Y) κ2 .dead++[.own (ie (Q2++N))]) j=aq (H1++Y) j:=fun j j1 j2=>by
  rw [aF (by rw [hGl]; exact j2),aU,if_neg (fun h=>j1 h.1)]
 have hG:∀ j,j ≠ κ2→j < H.length→¬ (x.1≤j∧j≤x.1 + x.2.length)→aq (aE (H1++Y) κ2 .dead++[.own (ie (Q2++N))]) j=aq H j:=fun j j1 j2 j3=>by
  rw [hG1 j j1 (by omega),aF (by omega),hg j j3]
 have hdj:=h.sp.dj
 rw [List.cons_append,List.pairwise_cons] at hdj
 have hA:ua (aE (H1++Y) κ2 .dead++[.own (ie (Q2++N))]) c (H.length + Y.length) (Qr++Q2):=by
  refine (h.sp.sub (Q':=Qr++Q2) (by rw [List.cons_append]; exact List.sublist_cons_self _ _)).move (by omega) fun y hy j j1 j2=>?_
  have hby:=h.sp.bd y (by rw [List.cons_append]; exact List.mem_cons_of_mem _ hy)
  have:=hdj.1 y hy
  unfold Dj at this
  exact hG j (by omega) (by omega) (by omega)
 have hB:ua (aE (H1++Y) κ2 .dead++[.own (ie (Q2++N))]) c (H.length + Y.length) N:=by
  refine hN.move (Nat.le_refl _) fun y hy j j1 j2=>?_
  have hby:=hN.bd y hy
  refine hG1 j ?_ (by omega)
  rcases hNd y hy with e | e
  ·rw [e] at j1 j2; omega
  omega
 have hC:=hA.app hB fun y hy z hz=>by
  rcases hNd z hz with e | e
  ·rw [e]; exact (hdj.1 y hy).symm
  have hby:=h.sp.bd y (by rw [List.cons_append]; exact List.mem_cons_of_mem _ hy)
  exact .inl (by omega)
 rw [List.append_assoc] at hC
 have hNsc:=FT (L:=H.length + Y.length + 1) (hC.sub (Q':=Q2++N) (List.sublist_append_right _ _)) (by omega)
 refine ⟨fK (lH (fK hw (by rw [hl]; exact hY)) κ2 rfl) fun b hb=>?_,?_,?_,hC,?_,?_,by rw [List.length_append,hGl]; rfl,by omega,hk2,fun y hy=>h.bo y (List.mem_cons_of_mem _ hy)⟩
 ·rw [List.mem_singleton.1 hb,hGl]; exact hNsc
 ·rw [hG 0 (by omega) (by omega) (by omega)]; exact h.b0
 ·rw [hG 1 (by omega) (by omega) (by omega)]; exact h.b1
 ·rw [hG κ (by omega) (by omega) (by omega)]; exact h.hd
 rw [← hGl]; exact bc _ _
theorem yt.one {n:Nat} {m:List Int} {c:Nat} {H:ay} {κ κ2 P:Nat} {s:List (List Int)} {Qr Q Q2:List (Nat × List (List Int))} (h:yt n m c H κ κ2 ((P,s) :: Qr) Q Q2) (hs:s.length=1) :
  yt n m c (aE (H++[.own [.sl P 0 1]]) κ2 .dead++[.own (ie Q2++[.sl P 0 1])]) κ (H.length + 1) Qr Q (Q2++[(P,s)]):=by
 have hb:=h.sp.bd (P,s) (by simp)
 have hl:=h.len
 simp only at hb
 have e:ie Q2++[.sl P 0 1]=ie (Q2++[(P,s)]):=by rw [← xw]; simp [ie,hs]
 rw [e]
 refine h.step (Y:=[.own [.sl P 0 1]]) rfl (fun j _=>rfl) h.wf (fun b hb=>?_) ?_ fun y hy=>.inl (List.mem_singleton.1 hy)
 ·rw [List.mem_singleton.1 hb]; simp [eD,bg,bt]; omega
 exact (h.sp.sub (Q':=[(P,s)]) (by simp)).move (by omega) fun y hy j j1 j2=>by
  rw [List.mem_singleton.1 hy] at j1 j2
  exact aF (by simp only at j1 j2; omega)
theorem yt.many {n:Nat} {m:List Int} {c:Nat} {H:ay} {κ κ2 P:Nat} {s:List (List Int)} {Qr Q Q2:List (Nat × List (List Int))} (h:yt n m c H κ κ2 ((P,s) :: Qr) Q Q2) {H1:ay} (hl:H1.length=H.length) (hg:∀ j,j ≠ P→¬ (P + 1≤j∧j < P + 1 + s.length)→aq H1 j=aq H j) (hf:∀ j,aq H1 j=aq H j∨∃ c,aq H1 j = .fro c) (Out:List (List (List Int))) :
  yt n m c (aE (H1++(.own (ie (fW (H1.length + 1) Out)) :: (ir c 1 Out).map (aM.bl (Go.Pv.gT H1.length (1 + c5 Out))))) κ2 .dead++[.own (ie Q2++ie (fW (H1.length + 1) Out))]) κ (H1.length + (1 + c5 Out)) Qr Q (Q2++fW (H1.length + 1) Out):=by
 have hlen:=h.len
 have hk2:=h.k2
 have hkl:=h.kl
 have hYl:(aM.own (ie (fW (H1.length + 1) Out)) :: (ir c 1 Out).map (aM.bl (Go.Pv.gT H1.length (1 + c5 Out)))).length=1 + c5 Out:=by simp [cF]; omega
 have hch:=Dw (n:=H1.length) (len:=1 + c5 Out) (b:=1) (W:=c) (Sp:=Out) (Nat.le_refl _) (H1++[.own (ie (fW (H1.length + 1) Out))]) (by simp) []
 rw [List.append_nil,List.append_assoc] at hch
 rw [xw]
 have hw:vb H1:=G8 h.wf hl hf
 have hst:=h.step (H1:=H1) (Y:=.own (ie (fW (H1.length + 1) Out)) :: (ir c 1 Out).map (aM.bl (Go.Pv.gT H1.length (1 + c5 Out)))) (N:=fW (H1.length + 1) Out) hl (fun j hj=>hg j (by simp only at hj; omega) (by simp only at hj; omega)) hw (fun b hb=>?_) ⟨hch,fun x hx=>?_,Ez _ _⟩ fun y hy=>.inr (by have:=(om _ _ y hy).1; omega)
 ·rw [hYl,← hl] at hst
  exact hst
 ·rw [hYl,← hl]
  rcases List.mem_cons.1 hb with rfl | hb
  ·refine List.all_eq_true.2 fun x hx=>?_
   obtain ⟨y,hy,rfl⟩:=List.mem_map.1 hx
   have:=(om _ _ y hy).2
   simp [bg,bt]; omega
  obtain ⟨b0,hb0,rfl⟩:=List.mem_map.1 hb
  obtain ⟨j,hj⟩:=List.getElem?_of_mem hb0
  have hjl:=(List.getElem?_eq_some_iff.1 hj).1
  rw [cF] at hjl
  have e:aq (ir c 1 Out) j=b0:=by rw [fG,List.getD_eq_getElem?_getD,hj]; rfl
  rcases oy c 1 Out j hjl with ⟨v,hv⟩ | ⟨d,q,hv,h1,h2⟩
  ·rw [← e,hv,w6]; exact fC _ _
  rw [← e,hv]
  simp only [aM.bl,wJ (show d + q≤1 + c5 Out by omega)]
  exact jy (by omega)
 have:=om _ _ x hx
 rw [hYl]; omega
theorem ng {H:ay} {k:Nat} {b:aM} (h:aq H k=b) (hk:k < H.length):aE H k b=H:=by
 refine ji (dR _ _ _) fun j=>?_
 rw [aU]
 split
 ·rename_i hj; rw [hj.1,h]
 rfl
section
variable {all:Array Oper} {rest:List Oper} {K:St→Prop} {s:St}
theorem Cl {dst:Option Tmp} {ty:TypeId} {pos:String} {aft:Array Edge} {gd:Option (Nat × Bool)} {fo:Operand} {args:Array Operand} {ts:Array TypeId} {p c P:Nat} {x:List (List Int)} {mv:PV} (hk:Fc s.H c (P,x)) (hx:x.length=1) (hfo:s.ev fo = .p (.fn 44 []))
  (hg:bz all s { dst:=dst,op:=.call { callee:=.value fo,args:=args,argTypes:=ts },type:=ty,pos:=pos,after:=aft,guard:=gd } = some true) (ha:args.toList.map s.ev=[.p (.int .i64 p),.sl P 0 x.length,.p mv]) (hd:au s dst)
  (h:iV Tryd.prog false all rest K (({ s with H:=s.H++[.own [.sl P 0 1]] } : St).put dst (.sl s.H.length 0 1))) :
  iV Tryd.prog false all ({ dst:=dst,op:=.call { callee:=.value fo,args:=args,argTypes:=ts },type:=ty,pos:=pos,after:=aft,guard:=gd } :: rest) K s:=by
 obtain ⟨h1,h2⟩:=hk
 simp only [hx] at h1 h2
 have h3:=h2 0 (by omega)
 rw [Nat.add_zero] at h3
 have l1:=kC h1
 have l2:=kC h3
 refine p3 [P,P + 1] (BM (p:=p) (W:=c) (x.getD 0 []) mv) hfo hg ?_ ?_ (by simp) (by simp; omega) (by simp [Fl,bg,bt,ca,fC,dx,kD]) hd ?_
 ·rw [ha,hx]
  exact ⟨⟨trivial,rfl⟩,⟨rfl,rfl⟩,⟨trivial,rfl⟩,trivial⟩
 ·exact ⟨jU h1 fun i hi=>⟨by simp; omega,by have h0:i=0:=(by omega); subst h0; rfl⟩,iF h3,trivial⟩
 have e1:gD s.H [P,P + 1] (([.own (ca 1 c 1),.own (ol (x.getD 0 [])),.own [.sl 0 0 1]]:ay).map (aM.bl ([P,P + 1]++List.range' s.H.length 1)))=s.H++[.own [.sl P 0 1]]:=by
  have e2:aM.bl ([P,P + 1]++List.range' s.H.length 1) (.own (ca 1 c 1)) = .own (ca (P + 1) c 1):=by simp [aM.bl,ca,Go.Pv.bl,bw]
  have e3:aM.bl ([P,P + 1]++List.range' s.H.length 1) (.own (ol (x.getD 0 []))) = .own (ol (x.getD 0 [])):=by simp only [aM.bl,pY]
  simp only [List.map_cons,List.map_nil,gD,e2,e3]
  rw [ng h1 l1,ng h3 l2]
  rfl
 show iV Tryd.prog false all rest K (({ s with H:=gD s.H [P,P + 1] (([.own (ca 1 c 1),.own (ol (x.getD 0 [])),.own [.sl 0 0 1]]:ay).map (aM.bl ([P,P + 1]++List.range' s.H.length 1))) } : St).put dst (Go.Pv.bl ([P,P + 1]++List.range' s.H.length 1) (.sl 2 0 1)))
 rw [e1]
 exact h
theorem Bf {dst:Option Tmp} {ty:TypeId} {pos:String} {aft:Array Edge} {gd:Option (Nat × Bool)} {fo:Operand} {args:Array Operand} {ts:Array TypeId} {p c:Nat} {x mm:List (List Int)} {Out:List (List (List Int))} (hc:Ff Tryd.prog 44 [.int .i64 p,.list (ll x),.list (ll mm)] (.sl 0 0 Out.length) (.own (gP 1 Out) :: ir c 1 Out)) (hfo:s.ev fo = .p (.fn 44 []))
  (hg:bz all s { dst:=dst,op:=.call { callee:=.value fo,args:=args,argTypes:=ts },type:=ty,pos:=pos,after:=aft,guard:=gd } = some true) (ha:args.toList.map s.ev=[.p (.int .i64 p),.p (.list (ll x)),.p (.list (ll mm))]) (hd:au s dst)
  (h:iV Tryd.prog false all rest K (({ s with H:=s.H++(.own (ie (fW (s.H.length + 1) Out)) :: (ir c 1 Out).map (aM.bl (Go.Pv.gT s.H.length (1 + c5 Out)))) } : St).put dst (.sl s.H.length 0 Out.length))) :
  iV Tryd.prog false all ({ dst:=dst,op:=.call { callee:=.value fo,args:=args,argTypes:=ts },type:=ty,pos:=pos,after:=aft,guard:=gd } :: rest) K s:=by
 refine iD (p:=True∧True∧True∧True) hc hg (by unfold gq; rw [hfo,ha]; rfl) ?_ hd ⟨trivial,trivial,trivial,trivial⟩ ?_
 ·unfold Cw
  have hl:(aM.own (gP 1 Out) :: ir c 1 Out).length=c5 Out + 1:=by simp [cF]
  rw [hl,Bool.and_eq_true]
  refine ⟨by simp [bg,bt],List.all_eq_true.2 fun b hb=>?_⟩
  rcases List.mem_cons.1 hb with rfl | hb
  ·exact su (by omega)
  obtain ⟨j,hj⟩:=List.getElem?_of_mem hb
  have hjl:=(List.getElem?_eq_some_iff.1 hj).1
  rw [cF] at hjl
  have e:aq (ir c 1 Out) j=b:=by rw [fG,List.getD_eq_getElem?_getD,hj]; rfl
  rcases oy c 1 Out j hjl with ⟨v,hv⟩ | ⟨d,q,hv,h1,h2⟩
  ·rw [← e,hv]; exact fC _ _
  rw [← e,hv]; exact jy (by omega)
 have hl:(aM.own (gP 1 Out) :: ir c 1 Out).length=1 + c5 Out:=by simp [cF]; omega
 rw [hl]
 have e:(aM.own (gP 1 Out) :: ir c 1 Out).map (aM.bl (Go.Pv.gT s.H.length (1 + c5 Out))) = .own (ie (fW (s.H.length + 1) Out)) :: (ir c 1 Out).map (aM.bl (Go.Pv.gT s.H.length (1 + c5 Out))):=by
  rw [List.map_cons]
  simp only [aM.bl]
  rw [Da (Nat.le_refl _)]
 have e2:Go.Pv.bl (Go.Pv.gT s.H.length (1 + c5 Out)) (.sl 0 0 Out.length) = .sl s.H.length 0 Out.length:=by
  simp only [Go.Pv.bl,bw]
  rw [BK (by omega),Nat.add_zero]
 rw [e,e2]
 exact h
end
set_option maxHeartbeats 8000000 in
set_option maxRecDepth 20000 in
theorem C5 {n e:Nat} {m:List Int} (h:GT n m n e) {c p o:Nat} {L:List (List Int)} {TT:List (List (List Int))} {WL:List Int} {J S:Nat→Nat} (hp2:2≤p) (hp:p≤1000000) (hc:0 < c) (hc24:c≤24)
  (hcl:bR Tryd.prog 40 [gp n m] (.list (ll L))) (hct:bR Tryd.prog 42 [gp n m,.list (ll L)] (.list (Cu TT))) (hwh:bR Tryd.prog 45 [gp n m,.list (ll L)] (.list (il WL))) (hmo:bR Tryd.prog 43 [gp n m] (.int .i64 p))
  (hLl:L.length=c) (hTl:TT.length=c) (hT1:∀ i,i < c→(TT.getD i []).length=c∧(∀ v∈TT.getD i [],v.length=c)∧∀ v∈TT.getD i [],∀ j,0≤v.getD j 0∧v.getD j 0≤1000)
  (hWl:WL.length=n) (hWo:WL.getD e 0=(o:Int)) (hoc:o < c) (hL0:∀ i,i < c→∃ x,x < n∧(L.getD i []).getD 0 0=(x:Int)∧WL.getD (iv n (op m n) e x) 0=(J i:Int)∧J i < c∧(L.getD i []).length=S i∧0 < S i∧S i≤60)
  (hB:∀ i,i≤c→(cZ p TT [aP c c] i).length≤1000) (hne:cZ p TT [aP c c] c ≠ []) (hD:∀ s∈cZ p TT [aP c c] c,∃ d,d < p∧u7 p (FV p n (uR p (wK p o s) J S c)) d=true) :
  bR Tryd.prog 11 [gp n m] (.tup [.int .i64 p,.list (ll (zb p n o c J S (cZ p TT [aP c c] c))),fl (0,0)]):=by
 have hb:=h.2.1.big
 have hck:=jX n m (by rw [h.2.1.len]; have:=Nat.mul_le_mul hb hb; omega)
 rw [qX h] at hck
 refine aI ae Tryd.func11 rfl (by kernel_rfl) (by rw [Tryd.ntmps11]; exact Nat.le_add_left 1 _) ?_; rw [Tryd.ntmps11]
 refine qm ?_
 refine ab fun K hK=>aa ae ?_
 simp only [aj,fl,gp,ai,simprocAttr]
 refine af ?_ (hK _ ?_)<;>clear hK K
 ·first|exact trivial|omega|(simp only [ah] at *; omega)|(simp [ah] at *; omega)|simp_all
 refine qa (qm (qm ?_))
 refine ab fun K hK=>aa ae ?_
 simp only [aj,fl,gp,ai,simprocAttr]
 refine an trivial (ak (hck) rfl rfl rfl (by simp only [au,Nat.reduceLT]) (by repeat (first|exact trivial|constructor)) (aa ae ?_))
 simp only [aj,fl,gp,ai,simprocAttr]
 refine af ?_ (hK _ ?_)<;>clear hK K
 ·first|exact trivial|omega|(simp only [ah] at *; omega)|(simp [ah] at *; omega)|simp_all
 refine qa (qm ?_)
 refine ab fun K hK=>aa ae ?_
 simp only [aj,fl,gp,ai,simprocAttr]
 refine af ?_ (hK _ ?_)<;>clear hK K
 ·first|exact trivial|omega|(simp only [ah] at *; omega)|(simp [ah] at *; omega)|simp_all
 refine qa ?_
 refine ao rfl (fun hC1=>?_) (fun hC1=>?_)
 ·cases hC1
 (try simp only [aG] at hC1)
 refine qh (qa (qm ?_))
 refine ab fun K hK=>aa ae ?_
 simp only [aj,fl,gp,ai,simprocAttr]
 refine an trivial (ak (hcl) rfl rfl rfl (by simp only [au,Nat.reduceLT]) (by repeat (first|exact trivial|constructor)) (aa ae ?_))
 simp only [aj,fl,gp,ai,simprocAttr]
 refine af ?_ (hK _ ?_)<;>clear hK K
 ·first|exact trivial|omega|(simp only [ah] at *; omega)|(simp [ah] at *; omega)|simp_all
 refine qa (qm (qm ?_))
 refine ab fun K hK=>aa ae ?_
 simp only [aj,fl,gp,ai,simprocAttr,aw,hLl]
 refine af trivial (hK _ ?_)<;>clear hK K
 refine qa ?_
 refine ao rfl (fun hC2=>?_) (fun hC2=>?_)
 ·(try simp only [aG] at hC2)
  omega
 (try simp only [aG] at hC2)
 refine qh (qa (qm ?_))
 refine ab fun K hK=>aa ae ?_
 simp only [aj,fl,gp,ai,simprocAttr,aw,hLl]
 refine af trivial (hK _ ?_)<;>clear hK K
 refine qa (qm ?_)
 refine ab fun K hK=>aa ae ?_
 simp only [aj,fl,gp,ai,simprocAttr]
 refine an trivial (ak (hct) rfl rfl rfl (by simp only [au,Nat.reduceLT]) (by repeat (first|exact trivial|constructor)) (aa ae ?_))
 simp only [aj,fl,gp,ai,simprocAttr]
 refine af ?_ (hK _ ?_)<;>clear hK K
 ·first|exact trivial|omega|(simp only [ah] at *; omega)|(simp [ah] at *; omega)|simp_all
 refine qa (qm ?_)
 refine ab fun K hK=>aa ae ?_
 simp only [aj,fl,gp,ai,simprocAttr]
 refine an trivial (ak (hmo) rfl rfl rfl (by simp only [au,Nat.reduceLT]) (by repeat (first|exact trivial|constructor)) (aa ae ?_))
 simp only [aj,fl,gp,ai,simprocAttr]
 refine af ?_ (hK _ ?_)<;>clear hK K
 ·first|exact trivial|omega|(simp only [ah] at *; omega)|(simp [ah] at *; omega)|simp_all
 refine qa (qm ?_)
 refine ab fun K hK=>aa ae ?_
 simp only [aj,fl,gp,ai,simprocAttr]
 refine af trivial (hK _ ?_)<;>clear hK K
 refine qa (qm (qm ?_))
 refine bN 10 rfl ?_
 refine ab fun K hK=>aa ae ?_
 simp only [aj,fl,gp,ai,simprocAttr]
 refine af trivial (hK _ ?_)<;>clear hK K
 refine qa (ql ?_)
 refine aA (ι:=Nat) (fun k=>⟨241,[(1,.ptr 0 0),(4,.ptr 1 0),(6,.p (.list (ll L))),(7,.p (.int .i64 c)),(8,.p (.list (Cu TT))),(9,.p (.int .i64 p)),(10,.sl 2 0 k),(54,.p (.int .i64 c)),(55,.p (.int .i64 k))],.own [.p (.int .i64 n),.p (.list (il m))] :: .own [.p (.int .i64 0),.p (.int .i64 0)] :: .own (rws c k) :: tl (aP c k)⟩) (fun k=>k≤c) (fun k=>c - k) 0 (Nat.zero_le _) [0,1,3] (by simp only [leq,bf,aj,fl,gp,ai,simprocAttr]<;>simp [rws,s8,aP,tl,ky]) fun k hk=>?_
 refine qm ?_
 refine ab fun K hK=>aa ae ?_
 simp only [aj,fl,gp,ai,simprocAttr]
 refine af trivial (hK _ ?_)<;>clear hK K
 refine qa (qm ?_)
 refine ao rfl (fun hC3=>?_) (fun hC3=>?_)
 ·(try simp only [aG] at hC3)
  have hkc:k < c:=by omega
  obtain ⟨X,hX⟩:∃ X,tl (aP c k)=X:=⟨_,rfl⟩
  have hXl:X.length=k:=by rw [← hX,aD,bh]
  have hgX:∀ y,aq (X++[y]) k=y:=fun y=>by rw [← hXl]; exact bc X y
  have hsX:=fun y z=>tA hXl y z
  rw [hX]
  refine qh (qa (qm (ql (qm ?_))))
  refine ab fun K hK=>aa ae ?_
  simp only [aj,fl,gp,ai,simprocAttr]
  refine af trivial (hK _ ?_)<;>clear hK K
  refine qa (qm ?_)
  refine ab fun K hK=>aa ae ?_
  simp only [aj,fl,gp,ai,simprocAttr,hXl,cC]
  refine af ?_ (hK _ ?_)<;>clear hK K
  ·omega
  refine qa (qm ?_)
  refine ab fun K hK=>aa ae ?_
  simp only [aj,fl,gp,ai,simprocAttr,hgX,hsX,c6,eB]
  refine af ?_ (hK _ ?_)<;>clear hK K
  ·first|exact trivial|omega|(simp only [ah] at *; omega)|(simp [ah] at *; omega)|simp_all
  refine qa ?_
  obtain ⟨Y,hY⟩:∃ Y,X++[.own (ol (lV c k))]=Y:=⟨_,rfl⟩
  have hYl:Y.length=k + 1:=by rw [← hY]; simp [hXl]
  have hYg:∀ b,aq (Y++[b]) (k + 1)=b:=fun b=>by rw [← hYl]; exact bc Y b
  have hrw:List.take k (rws c k)=rws c k:=List.take_of_length_le (by rw [eb]; exact Nat.le_refl _)
  rw [show (List.replicate c (0:Int)).set k 1=lV c k from rfl,hY]
  refine ab fun K hK=>aa ae ?_
  simp only [aj,fl,gp,ai,simprocAttr,hYl,hYg,List.length_append,hrw,lC,eb]
  refine an ?_ (eT (cu ae rfl rfl rfl rfl rfl rfl) rfl (by simp only [au,Nat.reduceLT]) (aa ae ?_))
  ·first|exact trivial|omega|(simp only [ah] at *; omega)|(simp [ah] at *; omega)|simp_all
  simp only [aj,fl,gp,ai,simprocAttr,hYl,List.length_append,hYl,hYg,List.length_append,hrw,lC,eb]
  refine af ?_ (hK _ ?_)<;>clear hK K
  ·exact ⟨BO _ _,by omega,by omega,by omega⟩
  refine qd (qa ?_)
  refine ab fun K hK=>aa ae ?_
  simp only [aj,fl,gp,ai,simprocAttr]
  refine af ?_ (hK _ ?_)<;>clear hK K
  ·first|exact trivial|omega|(simp only [ah] at *; omega)|(simp [ah] at *; omega)|simp_all
  refine qa ?_
  refine ⟨k + 1,0 :: 1 :: (k + 5) :: List.range' 3 (k + 1),by omega,by omega,?_⟩
  refine kb (N:=c) (G:=[.int .i64 n,.list (il m)]) (O:=[.int .i64 0,.int .i64 0]) (bh c (k + 1)) rfl rfl ⟨by omega,by omega,.inr (by omega)⟩ rfl rfl (Ic hYl _ _) (fun q hq=>?_) ?_
  ·show aq (Y++_++_) q=_
   rw [ID (by omega),← hY,← hX,lU,← uA,aV (by rw [bh]; omega)]
  simp [kn,St.get,lk,Go.Pv.bl,bw,bg,bt]
 (try simp only [aG] at hC3)
 have hkc:k=c:=by omega
 rw [hkc]
 refine qj (qc (qc (qf (qa (qm ?_)))))
 refine ab fun K hK=>aa ae ?_
 simp only [aj,fl,gp,ai,simprocAttr]
 refine an ?_ (eT (cu ae rfl rfl rfl rfl rfl rfl) rfl (by simp only [au,Nat.reduceLT]) (aa ae ?_))
 ·first|exact trivial|omega|(simp only [ah] at *; omega)|(simp [ah] at *; omega)|simp_all
 simp only [aj,fl,gp,ai,simprocAttr,aD,bh]
 refine af ?_ (hK _ ?_)<;>clear hK K
 ·first|exact trivial|omega|(simp only [ah] at *; omega)|(simp [ah] at *; omega)|simp_all
 refine qa (qm (qm ?_))
 refine ab fun K hK=>aa ae ?_
 simp only [aj,fl,gp,ai,simprocAttr]
 refine af trivial (hK _ ?_)<;>clear hK K
 refine qa (ql ?_)
 refine aA (ι:=Nat × ay × Nat × List (Nat × List (List Int))) (fun x=>⟨241,[(1,.ptr 0 0),(4,.ptr 1 0),(6,.p (.list (ll L))),(7,.p (.int .i64 c)),(8,.p (.list (Cu TT))),(9,.p (.int .i64 p)),(13,.sl x.2.2.1 0 x.2.2.2.length),(70,.p (.int .i64 c)),(71,.p (.int .i64 x.1))],x.2.1⟩) (fun x=>x.1≤c∧zn n m c x.2.1 x.2.2.1 x.2.2.2∧x.2.2.2.map Prod.snd=cZ p TT [aP c c] x.1) (fun x=>c - x.1) (0,.own [.p (.int .i64 n),.p (.list (il m))] :: .own [.p (.int .i64 0),.p (.int .i64 0)] :: .own (rws c c) :: (tl (aP c c)++[.own [.sl 2 0 c]]),c + 3,[(2,aP c c)]) ⟨Nat.zero_le _,zn.zero n m c,rfl⟩ (List.range (c + 4)) (bX (by simp [aD,bh]) rfl rfl (zn.zero n m c).wf (by
  simp [St.get,lk,bg,bt]<;>omega)) fun x hx=>?_
 obtain ⟨i,H,κ,Q⟩:=x
 obtain ⟨hic,hi2,hQ⟩:=hx
 simp only at hic hi2 hQ
 have hso:=mr (p:=p) (c:=c) hp2 TT hc i
 have hB1:=hB i hic
 obtain ⟨Sp,hSp⟩:∃ Sp,cZ p TT [aP c c] i=Sp:=⟨_,rfl⟩
 have hsucc:i + 1≤c→cZ p TT [aP c c] (i + 1)=Sp.flatMap fun s=>gE p s (TT.getD i []):=fun _=>by rw [cZ,hSp]
 rw [hSp] at hso hB1 hQ
 have hQl:Q.length=Sp.length:=by rw [← hQ,List.length_map]
 refine qm ?_
 refine ab fun K hK=>aa ae ?_
 simp only [aj,fl,gp,ai,simprocAttr]
 refine af trivial (hK _ ?_)<;>clear hK K
 refine qa (qm ?_)
 refine ao rfl (fun hC4=>?_) (fun hC4=>?_)
 ·(try simp only [aG] at hC4)
  have hicl:i < c:=by omega
  have hsucc:=hsucc hicl
  obtain ⟨Mi,hMi⟩:∃ Mi,TT.getD i []=Mi:=⟨_,rfl⟩
  obtain ⟨hm1,hm2,hm3⟩:=hT1 i hicl
  rw [hMi] at hm1 hm2 hm3 hsucc
  have hB2:=hB (i + 1) hicl
  rw [hsucc] at hB2
  refine qh (qa (qm (ql (qm ?_))))
  refine ab fun K hK=>aa ae ?_
  simp only [aj,fl,gp,ai,simprocAttr]
  refine af trivial (hK _ ?_)<;>clear hK K
  refine qa (qm ?_)
  refine ab fun K hK=>aa ae ?_
  simp only [aj,fl,gp,ai,simprocAttr]
  refine af trivial (hK _ ?_)<;>clear hK K
  refine qa (qm (qm ?_))
  refine bN 15 rfl ?_
  refine ab fun K hK=>aa ae ?_
  simp only [aj,fl,gp,ai,simprocAttr]
  refine af trivial (hK _ ?_)<;>clear hK K
  refine qa (ql ?_)
  refine aA (ι:=Nat × ay × Nat × List (Nat × List (List Int))) (fun x=>⟨241,[(1,.ptr 0 0),(4,.ptr 1 0),(6,.p (.list (ll L))),(7,.p (.int .i64 c)),(8,.p (.list (Cu TT))),(9,.p (.int .i64 p)),(14,.p (.int .i64 i)),(15,.sl x.2.2.1 0 x.2.2.2.length),(70,.p (.int .i64 c)),(71,.p (.int .i64 i)),(74,.sl κ 0 Q.length),(75,.p (.int .i64 Q.length)),(76,.p (.int .i64 x.1))],x.2.1⟩) (fun x=>x.1≤Q.length∧yt n m c x.2.1 κ x.2.2.1 (Q.drop x.1) Q x.2.2.2∧x.2.2.2.map Prod.snd=(Sp.take x.1).flatMap fun s=>gE p s Mi) (fun x=>Q.length - x.1) (0,H++[.own []],H.length,[]) ⟨Nat.zero_le _,hi2.start,rfl⟩ (List.range (H.length + 1)) (bX (by simp) rfl rfl hi2.start.wf (by
   have:=hi2.lt
   have:=hi2.k2
   simp [St.get,lk,bg,bt]<;>omega)) fun x hx=>?_
  obtain ⟨j,H',κ2,Q2⟩:=x
  obtain ⟨hjQ,hi3,hQ2⟩:=hx
  simp only at hjQ hi3 hQ2
  refine qm ?_
  refine ab fun K hK=>aa ae ?_
  simp only [aj,fl,gp,ai,simprocAttr]
  refine af trivial (hK _ ?_)<;>clear hK K
  refine qa (qm ?_)
  refine ao rfl (fun hC5=>?_) (fun hC5=>?_)
  ·(try simp only [aG] at hC5)
   have hjl:j < Q.length:=by omega
   obtain ⟨P,s,hx⟩:∃ P s,Q.getD j (0,[])=(P,s):=⟨_,_,rfl⟩
   have hdr:Q.drop j=(P,s) :: Q.drop (j + 1):=by
    rw [List.drop_eq_getElem_cons hjl,← hx]; simp [List.getD,List.getElem?_eq_getElem hjl]
   have hsm:s∈Sp:=by
    rw [← hQ]
    refine List.mem_map.2 ⟨(P,s),?_,rfl⟩
    rw [← hx]; exact aC hjl
   have hss:=hso s hsm
   have eD:=hss.le
   have hsp:=hss.pos
   have hcell:=wL hjl
   rw [hx] at hcell
   rw [hdr] at hi3
   have hchk:=hi3.sp.ch (P,s) (by simp)
   have hlen:=hi3.len
   have hbd:=hi3.sp.bd (P,s) (by simp)
   have hbo:=hi3.bo (P,s) (by simp)
   simp only at hchk hbd hbo
   have htk:Sp.take (j + 1)=Sp.take j++[s]:=by
    rw [List.take_succ_eq_append_getElem (by omega)]
    congr 2
    have:Sp[j]'(by omega)=(Q[j]'hjl).2:=by simp [← hQ]
    rw [this]
    have:Q[j]'hjl=(P,s):=by rw [← hx]; simp [List.getD,List.getElem?_eq_getElem hjl]
    rw [this]
   have hkl:=hi3.kl
   have hk2:=hi3.k2
   have hsd:Sp=Sp.take j++s :: Sp.drop (j + 1):=by
    rw [← List.singleton_append,← List.append_assoc,← htk,List.take_append_drop]
   have hQ2l:Q2.length + (gE p s Mi).length≤1000:=by
    have e1:Q2.length=((Sp.take j).flatMap fun s=>gE p s Mi).length:=by rw [← hQ2,List.length_map]
    rw [hsd,List.flatMap_append,List.flatMap_cons,List.length_append,List.length_append,← e1] at hB2
    omega
   have hnx:∀ N:List (Nat × List (List Int)),N.map Prod.snd=gE p s Mi→(Q2++N).map Prod.snd=(Sp.take (j + 1)).flatMap fun s=>gE p s Mi:=fun N hN=>by
    rw [List.map_append,hQ2,hN,htk,List.flatMap_append,List.flatMap_cons,List.flatMap_nil,List.append_nil]
   have hqt:List.take Q2.length (ie Q2)=ie Q2:=List.take_of_length_le (by rw [gH]; exact Nat.le_refl _)
   have hgk:∀ y,aq (H'++y) κ2 = .own (ie Q2):=fun y=>by rw [aF (by omega)]; exact hi3.hd2
   have hgn:=fun y=>bc H' y
   refine qh (qa (qm (ql (qm ?_))))
   refine ab fun K hK=>aa ae ?_
   simp only [aj,fl,gp,ai,simprocAttr,hi3.hd,gH,hcell]
   refine af ?_ (hK _ ?_)<;>clear hK K
   ·omega
   refine qa ?_
   by_cases hs1:s.length=1
   ·refine ab fun K hK=>aa ae ?_
    simp only [aj,fl,gp,ai,simprocAttr,oB (show i < TT.length by omega),hMi,ou,hgk,hgn,hqt,gH,List.length_append]
    refine an ?_ (Cl (x:=s) (P:=P) (mv:=.list (ll Mi)) hchk hs1 rfl rfl rfl (by simp only [au,Nat.reduceLT]) (aa ae ?_))
    ·omega
    simp only [gD,iW,aE,List.take_succ_cons,List.take_zero,List.drop_succ_cons,List.drop_zero,List.range',aM.bl,bl,bw,List.map_cons,List.map_nil,List.cons_append,List.nil_append,List.append_nil,List.length_cons,List.length_nil,aj,fl,gp,ai,simprocAttr,oB (show i < TT.length by omega),hMi,ou,hgk,hgn,hqt,gH,List.length_append]
    refine af ?_ (hK _ ?_)<;>clear hK K
    ·exact ⟨vy _,by omega,by omega,by omega⟩
    refine qd (qa ?_)
    refine ab fun K hK=>aa ae ?_
    simp only [aj,fl,gp,ai,simprocAttr]
    refine af ?_ (hK _ ?_)<;>clear hK K
    ·first|exact trivial|omega|(simp only [ah] at *; omega)|(simp [ah] at *; omega)|simp_all
    refine qa ?_
    have hst:=hi3.one hs1
    refine ⟨(j + 1,_,H'.length + 1,Q2++[(P,s)]),List.range (H'.length + 2),⟨by simp only; omega,hst,hnx _ (by rw [gE,if_pos hs1]; rfl)⟩,by simp only; omega,bX (by rw [hst.len]) rfl rfl hst.wf (by
     simp [St.get,lk,bg,bt]<;>omega)⟩
   obtain ⟨Out,hOut⟩:∃ Out,gE p s Mi=Out:=⟨_,rfl⟩
   have hspc:=A4 hp2 hp hc (by omega) s Mi hs1 (by omega) hss.row hss.rg hm1 hm2 hm3
   rw [hOut] at hspc hQ2l hnx
   refine uN 17 P (P + 1) s.length rfl hss.row rfl (.inl (by omega)) hchk.1 hchk.2 fun H1 a1 a2 a3=>?_
   have a1' : H1.length=H'.length:=a1
   have hgk:∀ y,aq (H1++y) κ2 = .own (ie Q2):=fun y=>by
    rw [aF (by omega),a2 κ2 (by omega) (by omega)]; exact hi3.hd2
   have hgn:∀ y Y,aq (H1++(y :: Y)) H1.length=y:=fun y Y=>by rw [a8 (Nat.le_refl _),Nat.sub_self]; rfl
   have hot:List.take Out.length (ie (fW (H1.length + 1) Out))=ie (fW (H1.length + 1) Out):=List.take_of_length_le (by rw [gH,lI]; exact Nat.le_refl _)
   refine ab fun K hK=>aa ae ?_
   simp only [aj,fl,gp,ai,simprocAttr,oB (show i < TT.length by omega),hMi,ou,hgk,hgn,hqt,hot,gH,lI,List.length_append,List.length_cons,List.length_map,cF]
   refine an ?_ (Bf (x:=s) (mm:=Mi) hspc rfl rfl rfl (by simp only [au,Nat.reduceLT]) (aa ae ?_))
   ·omega
   simp only [gD,iW,aE,List.take_succ_cons,List.take_zero,List.drop_succ_cons,List.drop_zero,List.range',aM.bl,bl,bw,List.map_cons,List.map_nil,List.cons_append,List.nil_append,List.append_nil,List.length_cons,List.length_nil,aj,fl,gp,ai,simprocAttr,oB (show i < TT.length by omega),hMi,ou,hgk,hgn,hqt,hot,gH,lI,List.length_append,List.length_cons,List.length_map,cF]
   refine af ?_ (hK _ ?_)<;>clear hK K
   ·exact ⟨Nat.le_refl _,vy _,vy _,by omega,by omega,by omega⟩
   refine qd (qa ?_)
   refine ab fun K hK=>aa ae ?_
   simp only [aj,fl,gp,ai,simprocAttr]
   refine af ?_ (hK _ ?_)<;>clear hK K
   ·first|exact trivial|omega|(simp only [ah] at *; omega)|(simp [ah] at *; omega)|simp_all
   refine qa ?_
   have hst:=hi3.many a1' a2 a3 Out
   refine ⟨(j + 1,_,H1.length + (1 + c5 Out),Q2++fW (H1.length + 1) Out),List.range (H1.length + (1 + c5 Out) + 1),⟨by simp only; omega,hst,hnx _ (tS _ _)⟩,by simp only; omega,bX (by rw [hst.len]) rfl rfl hst.wf (by
    simp [St.get,lk,bg,bt,lI]<;>omega)⟩
  (try simp only [aG] at hC5)
  have hjl:j=Q.length:=by omega
  rw [hjl,List.drop_length] at hi3
  have hi2':=hi3.end
  have hQ3:Q2.map Prod.snd=cZ p TT [aP c c] (i + 1):=by rw [hsucc,hQ2,hjl,hQl,List.take_length]
  refine qj (qc (qc (qf (qa ?_))))
  refine ab fun K hK=>aa ae ?_
  simp only [aj,fl,gp,ai,simprocAttr]
  refine af trivial (hK _ ?_)<;>clear hK K
  refine qd (qa ?_)
  refine ab fun K hK=>aa ae ?_
  simp only [aj,fl,gp,ai,simprocAttr]
  refine af ?_ (hK _ ?_)<;>clear hK K
  ·first|exact trivial|omega|(simp only [ah] at *; omega)|(simp [ah] at *; omega)|simp_all
  refine qa ?_
  have:=hi2'.lt
  have:=hi2'.k2
  refine ⟨(i + 1,H',κ2,Q2),List.range H'.length,⟨by simp only; omega,hi2',hQ3⟩,by simp only; omega,bX rfl rfl rfl hi2'.wf (by
   simp [St.get,lk,bg,bt]<;>omega)⟩
 (try simp only [aG] at hC4)
 have hic2:i=c:=by omega
 rw [hic2] at hSp
 rw [hSp] at hD hne ⊢
 refine qj (qc (qc (qf (qa (qm ?_)))))
 refine ab fun K hK=>aa ae ?_
 simp only [aj,fl,gp,ai,simprocAttr,hi2.b0]
 refine an trivial (ak (hwh) rfl rfl rfl (by simp only [au,Nat.reduceLT]) (by repeat (first|exact trivial|constructor)) (aa ae ?_))
 simp only [aj,fl,gp,ai,simprocAttr,hi2.b0]
 refine af ?_ (hK _ ?_)<;>clear hK K
 ·first|exact trivial|omega|(simp only [ah] at *; omega)|(simp [ah] at *; omega)|simp_all
 refine qa (qm ?_)
 refine ab fun K hK=>aa ae ?_
 simp only [aj,fl,gp,ai,simprocAttr]
 refine af trivial (hK _ ?_)<;>clear hK K
 refine qa (qm (qm ?_))
 refine bN 19 rfl ?_
 refine ab fun K hK=>aa ae ?_
 simp only [aj,fl,gp,ai,simprocAttr]
 refine af trivial (hK _ ?_)<;>clear hK K
 refine qa (ql ?_)
 refine aA (ι:=Nat × ay × Nat) (fun x=>⟨241,[(1,.ptr 0 0),(4,.ptr 1 0),(6,.p (.list (ll L))),(7,.p (.int .i64 c)),(9,.p (.int .i64 p)),(18,.p (.list (il WL))),(19,.sl x.2.2 0 x.1),(95,.sl κ 0 Q.length),(96,.p (.int .i64 Q.length)),(97,.p (.int .i64 x.1))],x.2.1⟩) (fun x=>x.1≤Q.length∧Iq n m c x.2.1 κ x.2.2 (Q.drop x.1) Q ((Sp.take x.1).map (n9 p n o c J S))) (fun x=>Q.length - x.1) (0,H++[.own []],H.length) ⟨Nat.zero_le _,hi2.out⟩ (List.range (H.length + 1)) (bX (by simp) rfl rfl hi2.out.wf (by
  have:=hi2.lt
  have:=hi2.k2
  simp [St.get,lk,bg,bt]<;>omega)) fun x hx=>?_
 obtain ⟨t,H',κ3⟩:=x
 obtain ⟨htQ,hi4⟩:=hx
 simp only at htQ hi4
 refine qm ?_
 refine ab fun K hK=>aa ae ?_
 simp only [aj,fl,gp,ai,simprocAttr]
 refine af trivial (hK _ ?_)<;>clear hK K
 refine qa (qm ?_)
 refine ao rfl (fun hC6=>?_) (fun hC6=>?_)
 ·(try simp only [aG] at hC6)
  have htl:t < Q.length:=by omega
  obtain ⟨P,s,hx⟩:∃ P s,Q.getD t (0,[])=(P,s):=⟨_,_,rfl⟩
  have hdr:Q.drop t=(P,s) :: Q.drop (t + 1):=by
   rw [List.drop_eq_getElem_cons htl,← hx]; simp [List.getD,List.getElem?_eq_getElem htl]
  have hsm:s∈Sp:=by
   rw [← hQ]
   refine List.mem_map.2 ⟨(P,s),?_,rfl⟩
   rw [← hx]; exact aC htl
  have hss:=hso s hsm
  have hsp:=hss.pos
  have hcell:=wL htl
  rw [hx] at hcell
  rw [hdr] at hi4
  have hchk:=hi4.sp.ch (P,s) (by simp)
  have hlen:=hi4.len
  have hbd:=hi4.sp.bd (P,s) (by simp)
  simp only at hchk hbd
  have htk:(Sp.take (t + 1)).map (n9 p n o c J S)=(Sp.take t).map (n9 p n o c J S)++[n9 p n o c J S s]:=by
   rw [List.take_succ_eq_append_getElem (by omega),List.map_append]
   congr 2
   have:Sp[t]'(by omega)=(Q[t]'htl).2:=by simp [← hQ]
   simp only [List.map_cons,List.map_nil,this]
   have:Q[t]'htl=(P,s):=by rw [← hx]; simp [List.getD,List.getElem?_eq_getElem htl]
   rw [this]
  have hkl:=hi4.kl
  have hk2:=hi4.k2
  have hR0:=hchk.1
  have hR1:=hchk.2 0 hsp
  rw [Nat.add_zero] at hR1
  obtain ⟨w0,hw0⟩:∃ w0,s.getD 0 []=w0:=⟨_,rfl⟩
  have hw0l:w0.length=c:=by rw [← hw0]; exact hss.row _ (aC hsp)
  have hw0g:eG p w0:=by rw [← hw0]; exact hss.rg _ (aC hsp)
  rw [hw0] at hR1
  obtain ⟨kk,hkk⟩:∃ kk,dQ p (w0.getD o 0)=kk:=⟨_,rfl⟩
  have hkr:0≤kk∧kk < p:=by rw [← hkk]; exact lT hp2 _
  have hPl:P + 1 < H'.length:=by omega
  refine qh (qa (qm (ql (qm ?_))))
  refine ab fun K hK=>aa ae ?_
  simp only [aj,fl,gp,ai,simprocAttr,hi4.hd,gH,hcell]
  refine af ?_ (hK _ ?_)<;>clear hK K
  ·omega
  refine qa (qm ?_)
  refine ab fun K hK=>aa ae ?_
  simp only [aj,fl,gp,ai,simprocAttr,hR0,bx,lP hsp,Nat.zero_add]
  refine af ?_ (hK _ ?_)<;>clear hK K
  ·omega
  refine qa (qm ?_)
  refine ab fun K hK=>aa ae ?_
  simp only [aj,fl,gp,ai,simprocAttr,hi4.b0,hR1,aL (show e < WL.length by rw [hWl]; exact h.2.2.el),hWo,bP (show o < w0.length by omega)]
  refine an ?_ (ak (jV h) rfl rfl rfl (by simp only [au,Nat.reduceLT]) (by repeat (first|exact trivial|constructor)) (aa ae ?_))
  ·first|exact trivial|omega|(simp only [ah] at *; omega)|(simp [ah] at *; omega)|simp_all
  simp only [aj,fl,gp,ai,simprocAttr,hi4.b0,hR1,aL (show e < WL.length by rw [hWl]; exact h.2.2.el),hWo,bP (show o < w0.length by omega)]
  refine an ?_ (ak (uO hp2 hp (hw0g o).1 (by have:=(hw0g o).2; omega)) rfl rfl rfl (by simp only [au,Nat.reduceLT]) (by repeat (first|exact trivial|constructor)) (aa ae ?_))
  ·have:=h.2.2.el
   omega
  simp only [aj,fl,gp,ai,simprocAttr,hkk,hi4.b0,hR1,aL (show e < WL.length by rw [hWl]; exact h.2.2.el),hWo,bP (show o < w0.length by omega)]
  refine af ?_ (hK _ ?_)<;>clear hK K
  ·first|exact trivial|omega|(simp only [ah] at *; omega)|(simp [ah] at *; omega)|simp_all
  refine qa (qm (qm ?_))
  refine ab fun K hK=>aa ae ?_
  simp only [aj,fl,gp,ai,simprocAttr]
  refine af trivial (hK _ ?_)<;>clear hK K
  refine qa (ql ?_)
  obtain ⟨F,hF⟩:∃ F:List Int→ay,F=fun v=>aE H' (P + 1) (.own (ol v)):=⟨_,rfl⟩
  have hFl:∀ v,(F v).length=H'.length:=fun v=>by rw [hF]; exact dR _ _ _
  have hFg:∀ v,aq (F v) (P + 1) = .own (ol v):=fun v=>by rw [hF]; simp only; rw [aU,if_pos ⟨rfl,hPl⟩]
  have hFo:∀ v j,j ≠ P + 1→aq (F v) j=aq H' j:=fun v j hj=>by rw [hF]; simp only; rw [aU,if_neg (fun h=>hj h.1)]
  have hFs:∀ v u,aE (F v) (P + 1) (.own (ol u))=F u:=fun v u=>by rw [hF]; simp only [df,List.set_set]
  have hF0:F w0=H':=by rw [hF]; exact ng hR1 hPl
  have hFw:∀ v,vb (F v):=fun v=>by rw [hF]; exact lH hi4.wf _ (fC _ _)
  have hFb0:∀ v,aq (F v) 0 = .own [.p (.int .i64 n),.p (.list (il m))]:=fun v=>by rw [hFo v 0 (by omega)]; exact hi4.b0
  refine aA (ι:=Nat) (fun i=>⟨241,[(1,.ptr 0 0),(4,.ptr 1 0),(6,.p (.list (ll L))),(7,.p (.int .i64 c)),(9,.p (.int .i64 p)),(18,.p (.list (il WL))),(19,.sl κ3 0 t),(22,.sl (P + 1) 0 c),(23,.p (.int .i64 kk)),(95,.sl κ 0 Q.length),(96,.p (.int .i64 Q.length)),(97,.p (.int .i64 t)),(115,.p (.int .i64 c)),(116,.p (.int .i64 i))],F (cU (zy p kk w0) 0 i w0)⟩) (fun i=>i≤c) (fun i=>c - i) 0 (Nat.zero_le _) (List.range H'.length) (bX rfl rfl (by rw [dp,hF0]) hi4.wf (by
   simp [St.get,lk,bg,bt]<;>omega)) fun i hi=>?_
  obtain ⟨y,hy⟩:∃ y,cU (zy p kk w0) 0 i w0=y:=⟨_,rfl⟩
  have hyl:y.length=c:=by rw [← hy,bJ,hw0l]
  rw [hy]
  refine qm ?_
  refine ab fun K hK=>aa ae ?_
  simp only [aj,fl,gp,ai,simprocAttr]
  refine af trivial (hK _ ?_)<;>clear hK K
  refine qa (qm ?_)
  refine ao rfl (fun hC7=>?_) (fun hC7=>?_)
  ·(try simp only [aG] at hC7)
   have hic3:i < c:=by omega
   have hyi:y.getD i 0=w0.getD i 0:=by rw [← hy,dz (by omega),if_neg (by omega)]
   have hst:y.set i (w0.getD i 0 * kk % (p:Int))=cU (zy p kk w0) 0 (i + 1) w0:=by
    rw [← hy]; exact gz (f:=zy p kk w0) (Nat.zero_le i) (by omega)
   have hm1:=ku hp (hw0g i).1 (hw0g i).2 hkr.1 hkr.2
   have htm:Int.tmod (w0.getD i 0 * kk) p=w0.getD i 0 * kk % p:=Int.tmod_eq_emod_of_nonneg hm1.1
   refine qh (qa (qm (ql (qm ?_))))
   refine ab fun K hK=>aa ae ?_
   simp only [aj,fl,gp,ai,simprocAttr]
   refine af trivial (hK _ ?_)<;>clear hK K
   refine qa ?_
   refine ab fun K hK=>aa ae ?_
   simp only [aj,fl,gp,ai,simprocAttr,hFg,bP (show i < y.length by omega),hyi,htm,eB,hFs,hst]
   refine af ?_ (hK _ ?_)<;>clear hK K
   ·simp only [ah] at *; omega
   refine qd (qa ?_)
   refine ab fun K hK=>aa ae ?_
   simp only [aj,fl,gp,ai,simprocAttr]
   refine af ?_ (hK _ ?_)<;>clear hK K
   ·first|exact trivial|omega|(simp only [ah] at *; omega)|(simp [ah] at *; omega)|simp_all
   refine qa ?_
   refine ⟨i + 1,List.range H'.length,by omega,by omega,bX (hFl _) rfl rfl (hFw _) (by
    simp [St.get,lk,bg,bt]<;>omega)⟩
  (try simp only [aG] at hC7)
  have hic3:i=c:=by omega
  have hye:wK p o s=y:=by rw [wK,hw0,hkk,← hy,AL,hw0l,hic3]
  have hyg:eG p y:=by rw [← hye]; exact vg (by omega) (by rw [hw0]; exact hw0g)
  have hDs:=hD s hsm
  rw [hye] at hDs
  refine qj (qc (qc (qf (qa (qm ?_)))))
  refine ab fun K hK=>aa ae ?_
  simp only [aj,fl,gp,ai,simprocAttr]
  refine af trivial (hK _ ?_)<;>clear hK K
  refine qa (qm (qm ?_))
  refine ab fun K hK=>aa ae ?_
  simp only [aj,fl,gp,ai,simprocAttr,aw,hLl]
  refine af trivial (hK _ ?_)<;>clear hK K
  refine qa (ql ?_)
  refine aA (ι:=Nat) (fun i=>⟨241,[(1,.ptr 0 0),(4,.ptr 1 0),(6,.p (.list (ll L))),(7,.p (.int .i64 c)),(9,.p (.int .i64 p)),(18,.p (.list (il WL))),(19,.sl κ3 0 t),(22,.sl (P + 1) 0 c),(25,.p (.int .i64 (uR p y J S i))),(95,.sl κ 0 Q.length),(96,.p (.int .i64 Q.length)),(97,.p (.int .i64 t)),(131,.p (.list (ll L))),(132,.p (.int .i64 c)),(133,.p (.int .i64 i))],F y⟩) (fun i=>i≤c) (fun i=>c - i) 0 (Nat.zero_le _) (List.range H'.length) (bX (hFl _) rfl rfl (hFw _) (by
   simp [St.get,lk,bg,bt,uR]<;>omega)) fun i hi=>?_
  refine qm ?_
  refine ab fun K hK=>aa ae ?_
  simp only [aj,fl,gp,ai,simprocAttr]
  refine af trivial (hK _ ?_)<;>clear hK K
  refine qa (qm ?_)
  refine ao rfl (fun hC8=>?_) (fun hC8=>?_)
  ·(try simp only [aG] at hC8)
   have hic4:i < c:=by omega
   obtain ⟨x,x1,x2,x3,x4,x5,x6,x7⟩:=hL0 i hic4
   obtain ⟨Ci,hCi⟩:∃ Ci,L.getD i []=Ci:=⟨_,rfl⟩
   rw [hCi] at x2 x5
   have hsm0:0≤uR p y J S i∧uR p y J S i < p:=by
    cases i with
    | zero=>simp only [uR]; omega
    | succ i=>exact bI (by omega) _
   have m1:=ku hp (hyg i).1 (hyg i).2 (hyg (J i)).1 (hyg (J i)).2
   have r1:=bI (p:=p) (by omega) (y.getD i 0 * y.getD (J i) 0)
   have t1:Int.tmod (y.getD i 0 * y.getD (J i) 0) p=y.getD i 0 * y.getD (J i) 0 % p:=Int.tmod_eq_emod_of_nonneg m1.1
   have r2:=lT hp2 (S i:Nat)
   have m2:=ku hp r1.1 r1.2 r2.1 r2.2
   have t2:Int.tmod (uR p y J S i + y.getD i 0 * y.getD (J i) 0 % p * dQ p (S i:Nat)) p=uR p y J S (i + 1):=by
    rw [uR]; exact Int.tmod_eq_emod_of_nonneg (by omega)
   refine qh (qa (qm (ql (qm ?_))))
   refine ab fun K hK=>aa ae ?_
   simp only [aj,fl,gp,ai,simprocAttr,aw,cQ (show i < L.length by omega),hCi]
   refine af ?_ (hK _ ?_)<;>clear hK K
   ·omega
   refine qa (qm ?_)
   refine aT mixed (by kernel_rfl) fun K hK=>aa ae ?_
   simp only [aj,fl,gp,ai,simprocAttr,hFb0,aL (show 0 < Ci.length by omega),x2]
   refine an ?_ (ak (oa h x1) rfl rfl rfl (by simp only [au,Nat.reduceLT]) (by repeat (first|exact trivial|constructor)) (aa ae ?_))
   ·omega
   simp only [aj,fl,gp,ai,simprocAttr,aL (show iv n (op m n) e x < WL.length by rw [hWl]; exact h.2.2.az x1),x3,hFb0,aL (show 0 < Ci.length by omega),x2]
   refine af ?_ (hK _ ?_)<;>clear hK K
   ·have:=h.2.2.az x1
    omega
   refine qa ?_
   refine aT mixed (by kernel_rfl) fun K hK=>aa ae ?_
   simp only [aj,fl,gp,ai,simprocAttr,hFg,bP (show i < y.length by omega),bP (show J i < y.length by omega),t1,aH,x5]
   refine an ?_ (ak (uO hp2 hp (a:=(S i:Nat)) (by omega) (by omega)) rfl rfl rfl (by simp only [au,Nat.reduceLT]) (by repeat (first|exact trivial|constructor)) (aa ae ?_))
   ·simp only [ah] at *; omega
   simp only [aj,fl,gp,ai,simprocAttr,t2,hFg,bP (show i < y.length by omega),bP (show J i < y.length by omega),t1,aH,x5]
   refine af ?_ (hK _ ?_)<;>clear hK K
   ·simp only [ah] at *; omega
   refine qd (qa ?_)
   refine ab fun K hK=>aa ae ?_
   simp only [aj,fl,gp,ai,simprocAttr]
   refine af ?_ (hK _ ?_)<;>clear hK K
   ·first|exact trivial|omega|(simp only [ah] at *; omega)|(simp [ah] at *; omega)|simp_all
   refine qa ?_
   refine ⟨i + 1,List.range H'.length,by omega,by omega,bX (hFl _) rfl rfl (hFw _) (by
    simp [St.get,lk,bg,bt]<;>omega)⟩
  (try simp only [aG] at hC8)
  have hic4:i=c:=by omega
  rw [hic4]
  obtain ⟨sm,hsm⟩:∃ sm,uR p y J S c=sm:=⟨_,rfl⟩
  have hsm0:0≤sm∧sm < p:=by
   rw [← hsm]
   cases c with
   | zero=>omega
   | succ i=>exact bI (by omega) _
  rw [hsm] at hDs ⊢
  have r1:=bI (p:=p) (by omega) (n:Int)
  have t1:Int.tmod (n:Int) p=(n:Int) % p:=Int.tmod_eq_emod_of_nonneg (by omega)
  have r2:=lT hp2 sm
  have m2:=ku hp r1.1 r1.2 r2.1 r2.2
  have t2:Int.tmod ((n:Int) % p * dQ p sm) p=FV p n sm:=Int.tmod_eq_emod_of_nonneg m2.1
  refine qj (qc (qc (qf (qa (qm ?_)))))
  refine aT mixed (by kernel_rfl) fun K hK=>aa ae ?_
  simp only [aj,fl,gp,ai,simprocAttr,hFb0,t1]
  refine an ?_ (ak (uO hp2 hp hsm0.1 (by omega)) rfl rfl rfl (by simp only [au,Nat.reduceLT]) (by repeat (first|exact trivial|constructor)) (aa ae ?_))
  ·omega
  simp only [aj,fl,gp,ai,simprocAttr,t2,hFb0,t1]
  refine af ?_ (hK _ ?_)<;>clear hK K
  ·simp only [ah] at *; omega
  refine qa (qm ?_)
  refine ab fun K hK=>aa ae ?_
  simp only [aj,fl,gp,ai,simprocAttr]
  refine af trivial (hK _ ?_)<;>clear hK K
  refine qa (qm (ql ?_))
  obtain ⟨sq,hsq⟩:∃ sq,FV p n sm=sq:=⟨_,rfl⟩
  rw [hsq] at hDs ⊢
  obtain ⟨D,hDp⟩:∃ D,bQ (u7 p sq) p=some D:=by
   obtain ⟨d,d1,d2⟩:=hDs
   cases hf:bQ (u7 p sq) p with
   | some D=>exact ⟨D,rfl⟩
   | none=>rw [cg hf d d1] at d2; cases d2
  obtain ⟨D1,D2,D3⟩:=cH hDp
  have hdg:p8 p n o c J S s=D + 1:=by
   rw [p8,hye,hsm,hsq,H7,hDp]; rfl
  refine aA (ι:=Nat) (fun k=>⟨241,[(1,.ptr 0 0),(4,.ptr 1 0),(6,.p (.list (ll L))),(7,.p (.int .i64 c)),(9,.p (.int .i64 p)),(18,.p (.list (il WL))),(19,.sl κ3 0 t),(22,.sl (P + 1) 0 c),(29,.p (.int .i64 sq)),(30,.p (.int .i64 ((k:Int) + 1))),(95,.sl κ 0 Q.length),(96,.p (.int .i64 Q.length)),(97,.p (.int .i64 t))],F y⟩) (fun k=>k≤D) (fun k=>D - k) 0 (Nat.zero_le _) (List.range H'.length) (bX (hFl _) rfl rfl (hFw _) (by
   simp [St.get,lk,bg,bt]<;>omega)) fun k hk=>?_
  have m3:(0:Int)≤((k:Int) + 1) * ((k:Int) + 1)∧((k:Int) + 1) * ((k:Int) + 1)≤1000000 * 1000000:=⟨Int.mul_nonneg (by omega) (by omega),Int.mul_le_mul (by omega) (by omega) (by omega) (by omega)⟩
  have t3:Int.tmod (((k:Int) + 1) * ((k:Int) + 1)) p=((k:Int) + 1) * ((k:Int) + 1) % p:=Int.tmod_eq_emod_of_nonneg m3.1
  refine qm (qm ?_)
  refine ab fun K hK=>aa ae ?_
  simp only [aj,fl,gp,ai,simprocAttr,t3]
  refine af ?_ (hK _ ?_)<;>clear hK K
  ·simp only [ah] at *; omega
  refine qa ?_
  refine ao rfl (fun hC9=>?_) (fun hC9=>?_)
  ·(try simp only [aG] at hC9)
   have hdk:u7 p sq k=false:=by unfold u7; exact decide_eq_false (by simpa using hC9)
   have hkD:k < D:=by
    refine Nat.lt_of_le_of_ne hk fun e=>?_
    rw [e,D2] at hdk; cases hdk
   refine qh (qa (ql ?_))
   refine ab fun K hK=>aa ae ?_
   simp only [aj,fl,gp,ai,simprocAttr]
   refine af ?_ (hK _ ?_)<;>clear hK K
   ·simp only [ah] at *; omega
   refine qd (qa ?_)
   refine ⟨k + 1,List.range H'.length,by omega,by omega,bX (hFl _) rfl rfl (hFw _) (by
    simp [St.get,lk,bg,bt]<;>omega)⟩
  (try simp only [aG] at hC9)
  have hdk:u7 p sq k=true:=by unfold u7; exact decide_eq_true (by simpa using hC9)
  have hkD:k=D:=by
   refine Nat.le_antisymm hk (Nat.le_of_not_lt fun hl=>?_)
   rw [D3 k hl] at hdk; cases hdk
  have hrT:n9 p n o c J S s=((k:Int) + 1) :: yA p y (k + 1) S c c:=by
   rw [n9,hye,hdg,hkD]; simp
  refine qj (qc (qc (qf (qa (qm ?_)))))
  refine ab fun K hK=>aa ae ?_
  simp only [aj,fl,gp,ai,simprocAttr,hFl,cC]
  refine af ?_ (hK _ ?_)<;>clear hK K
  ·first|exact trivial|omega|(simp only [ah] at *; omega)|(simp [ah] at *; omega)|simp_all
  refine qa (qm (qm ?_))
  refine ab fun K hK=>aa ae ?_
  simp only [aj,fl,gp,ai,simprocAttr,aw,hLl]
  refine af trivial (hK _ ?_)<;>clear hK K
  refine qa (ql ?_)
  have hG:∀ z,aq (F y++[.own (ol z)]) H'.length = .own (ol z):=fun z=>by rw [← hFl y]; exact bc _ _
  have hGs:∀ z u,aE (F y++[.own (ol z)]) H'.length (.own (ol u))=F y++[.own (ol u)]:=fun z u=>tA (hFl y) _ _
  have hGP:∀ z,aq (F y++z) (P + 1) = .own (ol y):=fun z=>by rw [aF (by rw [hFl]; exact hPl)]; exact hFg y
  have hGw:∀ z,vb (F y++[.own (ol z)]):=fun z=>fK (hFw _) fun b hb=>by rw [List.mem_singleton.1 hb]; exact fC _ _
  refine aA (ι:=Nat) (fun i=>⟨241,[(1,.ptr 0 0),(4,.ptr 1 0),(6,.p (.list (ll L))),(7,.p (.int .i64 c)),(9,.p (.int .i64 p)),(18,.p (.list (il WL))),(19,.sl κ3 0 t),(22,.sl (P + 1) 0 c),(30,.p (.int .i64 ((k:Int) + 1))),(31,.sl H'.length 0 c),(95,.sl κ 0 Q.length),(96,.p (.int .i64 Q.length)),(97,.p (.int .i64 t)),(188,.p (.list (ll L))),(189,.p (.int .i64 c)),(190,.p (.int .i64 i))],F y++[.own (ol (yA p y (k + 1) S c i))]⟩) (fun i=>i≤c) (fun i=>c - i) 0 (Nat.zero_le _) (List.range (H'.length + 1)) (bX (by simp [hFl]) rfl (by rw [yA,dp]) (by rw [← dp (Fu p y (k + 1) S) 0 (List.replicate c 0)]; exact hGw _) (by
   simp [St.get,lk,bg,bt]<;>omega)) fun i hi=>?_
  obtain ⟨z,hz⟩:∃ z,yA p y (k + 1) S c i=z:=⟨_,rfl⟩
  have hzl:z.length=c:=by rw [← hz,yA,bJ,List.length_replicate]
  rw [hz]
  refine qm ?_
  refine ab fun K hK=>aa ae ?_
  simp only [aj,fl,gp,ai,simprocAttr]
  refine af trivial (hK _ ?_)<;>clear hK K
  refine qa (qm ?_)
  refine ao rfl (fun hC10=>?_) (fun hC10=>?_)
  ·(try simp only [aG] at hC10)
   have hic5:i < c:=by omega
   obtain ⟨x,x1,x2,x3,x4,x5,x6,x7⟩:=hL0 i hic5
   obtain ⟨Ci,hCi⟩:∃ Ci,L.getD i []=Ci:=⟨_,rfl⟩
   rw [hCi] at x2 x5
   have hst:z.set i (y.getD i 0 * ((k:Int) + 1) % (p:Int) * dQ p (S i:Nat) % (p:Int))=yA p y (k + 1) S c (i + 1):=by
    rw [← hz]
    have h0:=gz (f:=Fu p y (k + 1) S) (u:=List.replicate c 0) (Nat.zero_le i) (by rw [List.length_replicate]; exact hic5)
    show (cU (Fu p y (k + 1) S) 0 i (List.replicate c 0)).set i _=cU (Fu p y (k + 1) S) 0 (i + 1) (List.replicate c 0)
    rw [← h0]; simp [Fu]
   have hyi:=hyg i
   have m4:(0:Int)≤y.getD i 0 * ((k:Int) + 1)∧y.getD i 0 * ((k:Int) + 1)≤1000000 * 1000000:=⟨Int.mul_nonneg (by omega) (by omega),Int.mul_le_mul (by omega) (by omega) (by omega) (by omega)⟩
   have t4:Int.tmod (y.getD i 0 * ((k:Int) + 1)) p=y.getD i 0 * ((k:Int) + 1) % p:=Int.tmod_eq_emod_of_nonneg m4.1
   have r4:=bI (p:=p) (by omega) (y.getD i 0 * ((k:Int) + 1))
   have r5:=lT hp2 (S i:Nat)
   have m5:=ku hp r4.1 r4.2 r5.1 r5.2
   have t5:Int.tmod (y.getD i 0 * ((k:Int) + 1) % p * dQ p (S i:Nat)) p=y.getD i 0 * ((k:Int) + 1) % p * dQ p (S i:Nat) % p:=Int.tmod_eq_emod_of_nonneg m5.1
   refine qh (qa (qm (ql (qm ?_))))
   refine ab fun K hK=>aa ae ?_
   simp only [aj,fl,gp,ai,simprocAttr,aw,cQ (show i < L.length by omega),hCi]
   refine af ?_ (hK _ ?_)<;>clear hK K
   ·omega
   refine qa ?_
   refine aT mixed (by kernel_rfl) fun K hK=>aa ae ?_
   simp only [aj,fl,gp,ai,simprocAttr,hGP,hG,hGs,bP (show i < y.length by omega),t4,aH,x5]
   refine an ?_ (ak (uO hp2 hp (a:=(S i:Nat)) (by omega) (by omega)) rfl rfl rfl (by simp only [au,Nat.reduceLT]) (by repeat (first|exact trivial|constructor)) (aa ae ?_))
   ·simp only [ah] at *; omega
   simp only [aj,fl,gp,ai,simprocAttr,t5,eB,hst,hGP,hG,hGs,bP (show i < y.length by omega),t4,aH,x5]
   refine af ?_ (hK _ ?_)<;>clear hK K
   ·simp only [ah] at *; omega
   refine qd (qa ?_)
   refine ab fun K hK=>aa ae ?_
   simp only [aj,fl,gp,ai,simprocAttr]
   refine af ?_ (hK _ ?_)<;>clear hK K
   ·first|exact trivial|omega|(simp only [ah] at *; omega)|(simp [ah] at *; omega)|simp_all
   refine qa ?_
   refine ⟨i + 1,List.range (H'.length + 1),by omega,by omega,bX (by simp [hFl]) rfl rfl (hGw _) (by
    simp [St.get,lk,bg,bt]<;>omega)⟩
  (try simp only [aG] at hC10)
  have hic5:i=c:=by omega
  rw [hic5] at hz
  rw [hz] at hrT
  have hztk:List.take c z=z:=List.take_of_length_le (by omega)
  obtain ⟨R,hR⟩:∃ R,(Sp.take t).map (n9 p n o c J S)=R:=⟨_,rfl⟩
  have hRl:R.length=t:=by rw [← hR,List.length_map,List.length_take]; omega
  rw [hR] at hi4 htk
  have hRt:List.take t (bF (ll R))=bF (ll R):=List.take_of_length_le (by rw [bE,aw]; omega)
  have hRo:(bF (ll R)).length=t:=by rw [bE,aw,hRl]
  have hA2:∀ a b d,aq (F y++[a]++[b]++[d]) (H'.length + 1 + 1)=d:=fun a b d=>IP (hFl y) a b d
  have hA0:∀ a b d,aq (F y++[a]++[b]++[d]) κ3 = .own (bF (ll R)):=fun a b d=>by
   rw [GJ (by rw [hFl]; omega),hFo y κ3 (by omega)]; exact hi4.ho
  refine qj (qc (qc (qf (qa ?_))))
  refine ab fun K hK=>aa ae ?_
  simp only [aj,fl,gp,ai,simprocAttr,hG,hFl,hztk,hzl,hA2,hA0,hRt,hRo,List.length_append]
  refine an ?_ (eT (cu ae rfl rfl rfl rfl rfl rfl) rfl (by simp only [au,Nat.reduceLT]) (aa ae ?_))
  ·first|exact trivial|omega|(simp only [ah] at *; omega)|(simp [ah] at *; omega)|simp_all
  simp only [aj,fl,gp,ai,simprocAttr,hG,hFl,hztk,hzl,hA2,hA0,hRt,hRo,List.length_append]
  refine af ?_ (hK _ ?_)<;>clear hK K
  ·and_intros<;>first|exact kU _|exact E7 _|omega|rfl|(simp; done)
  refine qd (qa ?_)
  obtain ⟨G1,hG1⟩:∃ G1,aE (F y++[.own (ol z)]++[.own (.p (.int .i64 ((k:Int) + 1)) :: ol z)]++[.own [.sl (H'.length + 1) 0 (1 + c)]]) κ3 .dead++[.own (bF (ll R)++[.sl (H'.length + 1) 0 (1 + c)])]=G1:=⟨_,rfl⟩
  rw [hG1]
  have hS1l:(F y++[.own (ol z)]++[.own (.p (.int .i64 ((k:Int) + 1)) :: ol z)]++[.own [.sl (H'.length + 1) 0 (1 + c)]]:ay).length=H'.length + 3:=by simp [hFl]
  have hG1l:G1.length=H'.length + 4:=by rw [← hG1,List.length_append,dR,hS1l]; rfl
  have hG1g:∀ j,j < H'.length + 3→j ≠ κ3→aq G1 j=aq (F y++[.own (ol z)]++[.own (.p (.int .i64 ((k:Int) + 1)) :: ol z)]++[.own [.sl (H'.length + 1) 0 (1 + c)]]) j:=fun j j1 j2=>by
   rw [← hG1,aF (by rw [dR,hS1l]; exact j1),aU,if_neg (fun h=>j2 h.1)]
  have hG1h:aq G1 (H'.length + 3) = .own (bF (ll R)++[.sl (H'.length + 1) 0 (1 + c)]):=by
   rw [← hG1]
   have:=bc (aE (F y++[.own (ol z)]++[.own (.p (.int .i64 ((k:Int) + 1)) :: ol z)]++[.own [.sl (H'.length + 1) 0 (1 + c)]]) κ3 .dead) (.own (bF (ll R)++[.sl (H'.length + 1) 0 (1 + c)]))
   rwa [dR,hS1l] at this
  have hG1r:aq G1 (H'.length + 1) = .own (ol (((k:Int) + 1) :: z)):=by
   rw [hG1g _ (by omega) (by omega)]
   exact Ix (hFl y) _ _ _
  have hG1w:vb G1:=by
   rw [← hG1]
   refine fK (lH (fK (fK (fK (hFw y) fun b hb=>?_) fun b hb=>?_) fun b hb=>?_) _ rfl) fun b hb=>?_
   ·rw [List.mem_singleton.1 hb]; exact fC _ _
   ·rw [List.mem_singleton.1 hb]; exact fC (((k:Int) + 1) :: z) _
   ·rw [List.mem_singleton.1 hb]; simp [eD,bg,bt,hFl]
   rw [List.mem_singleton.1 hb]
   show ((bF (ll R)++[AV.sl (H'.length + 1) 0 (1 + c)]).all _)=true
   rw [List.all_append,mH,Bool.true_and,dR,hS1l]
   simp [bg,bt]
  refine bO (H'.length + 1) (s:=⟨_,_,G1⟩) hG1r (jZ _) ?_
  have hrl:(il (((k:Int) + 1) :: z)).length=1 + c:=by rw [aH,List.length_cons,hzl,Nat.add_comm]
  have hg2:aq (aE G1 (H'.length + 1) (.fro (il (((k:Int) + 1) :: z)))) (H'.length + 3) = .own (bF (ll R)++[.sl (H'.length + 1) 0 (1 + c)]):=by rw [aU,if_neg (by omega)]; exact hG1h
  have hpk:dI (aE G1 (H'.length + 1) (.fro (il (((k:Int) + 1) :: z)))) (.sl (H'.length + 1) 0 (1 + c))=some (0 + (1 + c)≤(il (((k:Int) + 1) :: z)).length∧(((il (((k:Int) + 1) :: z)).drop 0).take (1 + c)).all PV.one=true,.list (((il (((k:Int) + 1) :: z)).drop 0).take (1 + c)),true):=by
   have e0:aq (aE G1 (H'.length + 1) (.fro (il (((k:Int) + 1) :: z)))) (H'.length + 1) = .fro (il (((k:Int) + 1) :: z)):=by rw [aU,if_pos ⟨rfl,by omega⟩]
   simp only [dI,e0]
  rw [List.drop_zero,List.take_of_length_le (show (il (((k:Int) + 1) :: z)).length≤1 + c by omega)] at hpk
  refine oO (H'.length + 3) t (s:=⟨_,_,aE G1 (H'.length + 1) (.fro (il (((k:Int) + 1) :: z)))⟩) hg2 (by rw [List.getElem?_append_right (by omega),hRo,Nat.sub_self]; rfl) hpk ⟨by omega,iw _⟩ ?_
  have he:(bF (ll R)++[AV.sl (H'.length + 1) 0 (1 + c)]).set t (.p (.list (il (((k:Int) + 1) :: z))))=bF (ll (R++[((k:Int) + 1) :: z])):=by
   rw [List.set_append_right _ _ (by omega),hRo,Nat.sub_self,List.set_cons_zero,lR,bL]
  rw [he]
  have hnx:=hi4.next hsp (R':=R++[((k:Int) + 1) :: z]) (G:=aE (aE G1 (H'.length + 1) (.fro (il (((k:Int) + 1) :: z)))) (H'.length + 3) (.own (bF (ll (R++[((k:Int) + 1) :: z]))))) (by rw [dR,dR,hG1l]) (lH (lH hG1w _ rfl) _ (mH _ _)) (fun j j1 j2 j3=>by
   rw [aU,if_neg (by omega),aU,if_neg (by omega),hG1g j (by omega) j2,GJ (by rw [hFl]; exact j1),hFo y j j3]) (by rw [aU,if_pos ⟨rfl,by rw [dR,hG1l]; omega⟩])
  rw [hrT] at htk
  refine ab fun K hK=>aa ae ?_
  simp only [aj,fl,gp,ai,simprocAttr]
  refine af ?_ (hK _ ?_)<;>clear hK K
  ·first|exact trivial|omega|(simp only [ah] at *; omega)|(simp [ah] at *; omega)|simp_all
  refine qa ?_
  refine ⟨(t + 1,_,H'.length + 3),List.range (H'.length + 4),⟨by simp only; omega,by simp only; rw [htk]; exact hnx⟩,by simp only; omega,bX (by rw [hnx.len]) rfl rfl hnx.wf (by
   simp [St.get,lk,bg,bt]<;>omega)⟩
 (try simp only [aG] at hC6)
 have htl:t=Q.length:=by omega
 obtain ⟨R,hR⟩:∃ R,(Sp.take t).map (n9 p n o c J S)=R:=⟨_,rfl⟩
 have hRS:Sp.map (n9 p n o c J S)=R:=by rw [← hR,htl,hQl,List.take_length]
 rw [hR] at hi4
 have hRl:R.length=t:=by rw [← hRS,List.length_map,← hQl,htl]
 have hR1:∀ v∈R,v.length=c + 1:=fun v hv=>by
  rw [← hRS] at hv
  obtain ⟨s,_,rfl⟩:=List.mem_map.1 hv
  simp [n9,yA,bJ]
 have hRne:R ≠ []:=by rw [← hRS]; simpa using hne
 have hsp:=mX R
 obtain ⟨Z,hZ⟩:∃ Z,zD R=Z:=⟨_,rfl⟩
 have hst:=nG R
 rw [hZ] at hsp hst
 have hZl:Z.length=t:=by rw [← hsp.length_eq,hRl]
 have hZ1:∀ v∈Z,v.length=c + 1:=fun v hv=>hR1 v (hsp.mem_iff.2 hv)
 have hQ1k:Q.length≤1000:=by omega
 have htab:zb p n o c J S Sp=Z.map (·.drop 1):=by rw [zb,hRS,hZ]
 rw [htab]
 refine qj (qc (qc (qf (qa (qm ?_)))))
 refine EV [1,κ3] (s1:=⟨241,[(4,.ptr 0 0),(9,.p (.int .i64 p)),(19,.sl 1 0 (ll R).length)],[.own [.p (.int .i64 0),.p (.int .i64 0)],.own (bF (ll R))]⟩) (nj rfl (by simp; have:=hi4.kl; have:=hi4.k2; omega) rfl (fun j hj=>?_) (by simp [kn,St.get,lk,Go.Pv.bl,bw,bg,bt,aw,hRl])) ?_
 ·match j,hj with
  | 0,_=>exact sO (l:=[.int .i64 0,.int .i64 0]) hi4.b1
  | 1,_=>exact sO hi4.ho
 refine ab fun K hK=>aa ae ?_
 simp only [aj,fl,gp,ai,simprocAttr]
 refine an ?_ (p3 [1] (Dn hRne (by omega) (fun v hv=>by rw [hR1 v hv]; omega) hsp hst) rfl rfl ?_ (by simp only [bf,aj,fl,gp,ai,simprocAttr]; first|trivial|(simp only [aY]; first|trivial|(repeat constructor; done))|(repeat constructor)) (by decide) (by first|rfl|(simp only [List.length_cons,List.length_nil,List.length_append]; decide)) (by first|rfl|(simp only [Fl,mH,List.all_cons,List.all_nil,List.length_cons,List.length_nil]; first|rfl|decide)|(simp [Fl,bg,bt,dx,kD]; done)) (by simp only [au,Nat.reduceLT]) (aa ae ?_))
 ·first|exact trivial|omega|(simp only [ah] at *; omega)|(simp [ah] at *; omega)|simp_all
 ·(simp only [uU,Ac,dO,dI,bg,bt,bl,bw,List.map_cons,List.map_nil,List.append_nil,List.cons_append,List.nil_append,bG,aj,fl,gp,ai,simprocAttr]; try trivial)
 simp only [gD,aE,List.range',aM.bl,bl,bw,List.map_cons,List.map_nil,List.cons_append,List.nil_append,List.append_nil,List.length_cons,List.length_nil,aj,fl,gp,ai,simprocAttr]
 refine af trivial (hK _ ?_)<;>clear hK K
 refine qa (qm (qm ?_))
 refine ab fun K hK=>aa ae ?_
 simp only [aj,fl,gp,ai,simprocAttr,aw,hRl,hZl]
 refine af trivial (hK _ ?_)<;>clear hK K
 refine qa (ql ?_)
 refine aA (ι:=Nat) (fun i=>⟨241,[(4,.ptr 0 0),(9,.p (.int .i64 p)),(19,.sl 1 0 t),(224,.sl 1 0 t),(225,.p (.int .i64 t)),(226,.p (.int .i64 i))],[.own [.p (.int .i64 0),.p (.int .i64 0)],.own (bF (ll (rP Z i)))]⟩) (fun i=>i≤t) (fun i=>t - i) 0 (Nat.zero_le _) [0,1] (by rw [zI]; simp only [leq,bf,aj,fl,gp,ai,simprocAttr]<;>first|trivial|(rw [aY]; done)|(simp [ky,aw,hZl,hRl]; done)|skip) fun i hi=>?_
 have hdl:=DK Z i
 refine qm ?_
 refine ab fun K hK=>aa ae ?_
 simp only [aj,fl,gp,ai,simprocAttr]
 refine af trivial (hK _ ?_)<;>clear hK K
 refine qa (qm ?_)
 refine ao rfl (fun hC11=>?_) (fun hC11=>?_)
 ·(try simp only [aG] at hC11)
  have hit:i < t:=by omega
  have hgi:(rP Z i).getD i []=Z.getD i []:=by rw [C4 (by omega),if_neg (by omega)]
  have hzi:(Z.getD i []).length=c + 1:=hZ1 _ (aC (by omega))
  have hse:=Et (Z:=Z) (i:=i) (by omega)
  refine qh (qa (qm (ql (qm ?_))))
  refine ab fun K hK=>aa ae ?_
  simp only [aj,fl,gp,ai,simprocAttr]
  refine af trivial (hK _ ?_)<;>clear hK K
  refine qa ?_
  refine ab fun K hK=>aa ae ?_
  simp only [aj,fl,gp,ai,simprocAttr,bE,aw,hdl,hZl,EG (show i < (rP Z i).length by omega),hgi,Ei,hse]
  refine af ?_ (hK _ ?_)<;>clear hK K
  ·omega
  refine qd (qa ?_)
  refine ab fun K hK=>aa ae ?_
  simp only [aj,fl,gp,ai,simprocAttr]
  refine af ?_ (hK _ ?_)<;>clear hK K
  ·simp only [ah] at *; omega
  refine qa ?_
  refine ⟨i + 1,[0,1],by omega,by omega,?_⟩
  simp only [leq,bf,aj,fl,gp,ai,simprocAttr]<;>first|trivial|omega|(rw [aY]; done)|skip
 (try simp only [aG] at hC11)
 have hit:i=t:=by omega
 have hde:rP Z i=Z.map (·.drop 1):=by rw [hit,← hZl,Dx]
 rw [hde]
 refine qj (qc (qc (qf (qa (qm ?_)))))
 refine ab fun K hK=>aa ae ?_
 simp only [aj,fl,gp,ai,simprocAttr]
 refine af ?_ (hK _ ?_)<;>clear hK K
 ·first|exact trivial|omega|(simp only [ah] at *; omega)|(simp [ah] at *; omega)|simp_all
 refine qa (qk ?_)
 simp only [Tryd.results11,bG,aj,fl,gp,ai,simprocAttr]
 have hdm:(Z.map (·.drop 1)).length=t:=by rw [List.length_map,hZl]
 have htk:List.take t (ll (Z.map (·.drop 1)))=ll (Z.map (·.drop 1)):=List.take_of_length_le (by rw [aw,hdm]; exact Nat.le_refl _)
 rw [htk]
 exact ⟨⟨by omega,iz _⟩,rfl⟩
end Go.Proofs.YtjlmpmidchddjaaDoor
namespace Go.Proofs.YtjlmpmidchddjaaDoor
open Lean.Grind
attribute [local instance] Lean.Grind.Semiring.natCast Lean.Grind.Ring.intCast
section
variable {n e:Nat} {m:List Int}
def ta (m:List Int) (n e:Nat):List (List Int):=bA n (bY n (op m n) e)
def aZ (m:List Int) (n e:Nat):Nat:=(ta m n e).length
def bW (m:List Int) (n e a:Nat):Nat:=(Fe (ta m n e) (a:Nat)).toNat
def qY (m:List Int) (n e i:Nat):Nat:=(mem n (lead (bY n (op m n) e))).getD i 0
def c9 (m:List Int) (n e i:Nat):Nat:=((ta m n e).getD i []).length
def fI (m:List Int) (n e:Nat):List (List (List Int)):=(List.range (aZ m n e)).map fun i=>jc (aZ m n e) (ct n (op m n) e i)
def aK (m:List Int) (n e:Nat):Nat:=Cx (fL m n e n) n
def kO (m:List Int) (n e i:Nat):Nat:=bW m n e (iv n (op m n) e (qY m n e i))
theorem AM (h:GT n m n e) {i:Nat} (hi:i < aZ m n e):qY m n e i < n∧(ta m n e).getD i []=aS n (bY n (op m n) e (qY m n e i))∧lead (bY n (op m n) e) (qY m n e i)=true:=by
 obtain ⟨x,x1,x2,x3,x4⟩:=eY (n:=n) (r:=bY n (op m n) e) (i:=i) hi
 have e1:qY m n e i=x:=x4
 rw [e1]
 exact ⟨x1,x3,x2⟩
theorem jE (h:GT n m n e) {a i:Nat} (ha:a < n) (hi:i < aZ m n e):bW m n e a=i↔bY n (op m n) e (qY m n e i) a=true:=by
 have E:=h.2.2.fO
 obtain ⟨x1,x2,x3⟩:=AM h hi
 constructor
 ·intro hc
  obtain ⟨j,j1,j2⟩:=mj E ha
  have h1:=jG E j1 ha j2
  have:bW m n e a=j:=by unfold bW ta; rw [h1]; simp
  have hij:j=i:=by omega
  subst hij
  have h2:((a:Nat):Int)∈(ta m n e).getD j []:=j2
  rw [x2,bm ha] at h2
  exact h2
 intro hc
 have h2:((a:Nat):Int)∈(bA n (bY n (op m n) e)).getD i []:=by
  show _∈(ta m n e).getD i []
  rw [x2,bm ha]; exact hc
 have h1:=jG E hi ha h2
 unfold bW ta
 rw [h1]; simp
theorem ez (h:GT n m n e) {a:Nat} (ha:a < n):bW m n e a < aZ m n e∧Fe (ta m n e) (a:Nat)=(bW m n e a:Int):=by
 have E:=h.2.2.fO
 obtain ⟨j,j1,j2⟩:=mj E ha
 have h1:=jG E j1 ha j2
 have h2:bW m n e a=j:=by unfold bW ta; rw [h1]; simp
 rw [h2]
 exact ⟨j1,h1⟩
theorem u3 (h:GT n m n e):GC n (op m n) e (aZ m n e) (bW m n e) (qY m n e) where
 G:=h.2.2
 lt a ha:=(ez h ha).1
 xl i hi:=(AM h hi).1
 cx i hi:=(jE h (AM h hi).1 hi).2 (h.2.2.fO.refl _ (AM h hi).1)
 cj a b ha hb:=by
  have E:=h.2.2.fO
  obtain ⟨l1,_⟩:=ez h ha
  have h1:=(jE h ha l1).1 rfl
  have hx:=(AM h l1).1
  rw [← dV (n:=n) (f:=op m n) (e:=e)]
  constructor
  ·intro hab
   have h2:=(jE h hb l1).1 hab.symm
   exact E.trans _ _ _ ha hx hb (E.symm _ _ hx ha h1) h2
  intro hab
  exact ((jE h hb l1).2 (E.trans _ _ _ hx ha hb h1 hab)).symm
theorem jJ (h:GT n m n e) {i:Nat} (hi:i < aZ m n e):0 < c9 m n e i∧c9 m n e i≤n∧((ta m n e).getD i []).getD 0 0=(qY m n e i:Int):=by
 obtain ⟨x1,x2,x3⟩:=AM h hi
 obtain ⟨l1,l2⟩:=(fR x1).1 x3
 unfold c9
 rw [x2]
 exact ⟨l1,b9 _ _,l2⟩
theorem ub (h:GT n m n e):PF (aK m n e)∧2 * n < aK m n e∧aK m n e≤20000:=by
 have hd:=jz h n (Nat.le_refl _)
 obtain ⟨a,b,_⟩:=GN h.2.1.pos h.2.1.big hd
 exact ⟨HV (Hb h.2.1.pos h.2.1.big hd),a,b⟩
theorem BY (h:GT n m n e) {a:Nat} (ha:a < n):ord n (op m n) e a ∣ fL m n e n:=by
 have:∀ k,a < k→ord n (op m n) e a ∣ fL m n e k:=fun k=>by
  induction k with
  | zero=>intro hk; omega
  | succ k ih =>
   intro hk
   by_cases e1:a=k
   ·subst e1; exact Nat.dvd_lcm_right _ _
   exact Nat.dvd_trans (ih (by omega)) (Nat.dvd_lcm_left _ _)
 exact this n ha
theorem zu (h:GT n m n e) {a:Nat} (ha:a < n):pw (op m n) e a (aK m n e)=a:=by
 have G:=h.2.2
 have h1:=(G.mz ha (fL m n e n)).2 (BY h ha)
 unfold aK Cx
 rw [G.iu ha,G.sX ha,h1,G.DO,G.vz ha,G.one_l a ha]
variable {K:Type} [CommRing K]
theorem wb (l:List Nat):sl l (fun _=>(1:K))=(l.length:Nat):=by
 induction l with
 | nil=>exact Semiring.natCast_zero.symm
 | cons x l ih=>rw [cA,ih,List.length_cons]; grind
theorem HY (q:Nat→Bool):(((aS n q).length:Nat):K)=sm (fun g=>if q g=true then 1 else 0) n:=by
 have:(aS n q).length=((List.range n).filter q).length:=by unfold aS gC; rw [List.length_map]
 rw [this,← wb,gQ,cm]
theorem oX (h:GT n m n e) {i:Nat} (hi:i < aZ m n e):se K n (bW m n e) i=(c9 m n e i:Nat):=by
 unfold se c9
 rw [(AM h hi).2.1,HY]
 unfold sC
 refine al fun g hg=>?_
 by_cases hgi:bW m n e g=i
 ·rw [if_pos hgi,if_pos ((jE h hg hi).1 hgi)]
 rw [if_neg hgi,if_neg fun hh=>hgi ((jE h hg hi).2 hh)]
theorem JG (l:List Nat) (q q' : Nat→Bool):((((l.filter q).countP q'):Nat):K)=sl l fun g=>if q g=true then (if q' g=true then 1 else 0) else 0:=by
 rw [← gQ,List.countP_eq_length_filter,← wb,gQ]
theorem Bs (h:GT n m n e) {i j k:Nat} (hi:i < aZ m n e) (hj:j < aZ m n e) (hk:k < aZ m n e):bV (K:=K) ((fI m n e).getD i []) j k=gM K n (op m n) e (bW m n e) (qY m n e) i j k:=by
 have e1:(fI m n e).getD i []=jc (aZ m n e) (ct n (op m n) e i):=by simp [fI,List.getD,List.getElem?_map,List.getElem?_range hi]
 have e2:(jc (aZ m n e) (ct n (op m n) e i)).getD j []=kp (aZ m n e) (ct n (op m n) e i j):=wS hj
 unfold bV vc
 rw [e1,e2,iq hk]
 have e3:ct n (op m n) e i j k=(((ta m n e).getD i []).countP (fun x=>decide (cw n (op m n) e k x=(j:Int))):Nat):=by
  show tcp ((ta m n e).getD i []) _ ((ta m n e).getD i []).length j=_
  unfold tcp
  rw [List.take_length]
 rw [e3,Ring.intCast_natCast,(AM h hi).2.1]
 have e4:(aS n (bY n (op m n) e (qY m n e i))).countP (fun x=>decide (cw n (op m n) e k x=(j:Int)))=((List.range n).filter (bY n (op m n) e (qY m n e i))).countP fun g=>decide (cw n (op m n) e k ((g:Nat):Int)=(j:Int)):=by
  unfold aS gC
  rw [List.countP_map]; rfl
 rw [e4,JG,cm]
 unfold gM sC
 refine al fun g hg=>?_
 have hx:=(AM h hk).1
 have hpr:=h.2.2.cl _ _ (h.2.2.az hg) hx
 have hw:cw n (op m n) e k ((g:Nat):Int)=(bW m n e (op m n (iv n (op m n) e g) (qY m n e k)):Int):=by
  rw [← (ez h hpr).2]
  unfold cw ta qY
  rw [Int.toNat_natCast]
 by_cases hgi:bW m n e g=i
 ·rw [if_pos hgi,if_pos ((jE h hg hi).1 hgi),hw]
  show _=if bW m n e (op m n (iv n (op m n) e g) (qY m n e k))=j then (1:K) else 0
  by_cases hj2:bW m n e (op m n (iv n (op m n) e g) (qY m n e k))=j
  ·rw [if_pos hj2,if_pos (by rw [hj2]; simp)]
  rw [if_neg hj2,if_neg (by simp only [decide_eq_true_eq]; omega)]
 rw [if_neg hgi,if_neg fun hh=>hgi ((jE h hg hi).2 hh)]
end
theorem mM {n e : Nat} {m : List Int} (h : GT n m n e) [NeZero (aK m n e)] : jf (Fin (aK m n e)) (aK m n e) n (op m n) e (aZ m n e) (bW m n e) (qY m n e) (fI m n e) (fun i => ((dQ (aK m n e) (c9 m n e i : Nat) : Int) : Fin (aK m n e))) := by
  obtain ⟨P, p1, p2⟩ := ub h
  have R := wZ P.toPG
  have hb := h.2.1.pos
  exact {
    C := u3 h
    R := R
    nz := uD n (by omega) (by omega)
    cz := uD
    io := fun i hi => by
      obtain ⟨s1, s2, _⟩ := jJ h hi
      have := R.toRd.inv (x := (c9 m n e i : Nat)) (by omega) (by omega)
      rw [oX h hi]
      rwa [R.bA] at this
    pw := fun a ha => zu h ha
    len := fun i hi => by
      have e1 : (fI m n e).getD i [] = jc (aZ m n e) (ct n (op m n) e i) := by simp [fI, List.getD, List.getElem?_map, List.getElem?_range hi]
      rw [e1, dD]
    zl := fun i j k hi hj hk => Bs h hi hj hk }
end Go.Proofs.YtjlmpmidchddjaaDoor
namespace Go.Proofs.YtjlmpmidchddjaaDoor
open Lean.Grind
attribute [local instance] Lean.Grind.Semiring.natCast Lean.Grind.Ring.intCast
section
variable {n e c:Nat} {f:Nat→Nat→Nat} {cI xx:Nat→Nat} {K:Type} [CommRing K] {p:Nat} {TT:List (List (List Int))} {io:Nat→K} {lam:Nat→Nat→K}
theorem GC.I9 (h:GC n f e c cI xx) {a b:Nat} (ha:a < n) (hb:b < n):cI a=cI b↔cI (iv n f e a)=cI (iv n f e b):=by
 have G:=h.G
 have key:∀ a b,a < n→b < n→cI a=cI b→cI (iv n f e a)=cI (iv n f e b):=fun a b ha hb hab=>by
  obtain ⟨y,hy,rfl⟩:=(h.cj a b ha hb).1 hab
  refine (h.cj _ _ (G.az ha) (G.az hb)).2 ⟨y,hy,?_⟩
  rw [G.cr (G.cl _ _ (G.az hy) ha) hy,G.cr (G.az hy) ha,G.cO hy,G.assoc _ _ _ (G.az hy) (G.az ha) hy]
 refine ⟨key a b ha hb,fun hab=>?_⟩
 have:=key _ _ (G.az ha) (G.az hb) hab
 rwa [G.cO ha,G.cO hb] at this
theorem GC.Jm (h:GC n f e c cI xx) {i:Nat} (hi:i < c):se K n cI (cI (iv n f e (xx i)))=se K n cI i:=by
 unfold se sC
 rw [← h.BN fun g=>if cI g=cI (iv n f e (xx i)) then (1:K) else 0]
 refine al fun g hg=>?_
 have:=h.I9 hg (h.xl i hi)
 rw [h.cx i hi] at this
 by_cases hgi:cI g=i
 ·rw [if_pos (this.1 hgi),if_pos hgi]
 rw [if_neg (fun hh=>hgi (this.2 hh)),if_neg hgi]
theorem jf.JC (h:jf K p n f e c cI xx TT io) {i:Nat} (hi:i < c):io (cI (iv n f e (xx i)))=io i:=by
 have h1:=h.io i hi
 have h2:=h.io _ (h.C.lt _ (h.C.G.az (h.C.xl i hi)))
 rw [h.C.Jm hi] at h2
 grind
theorem jf.Ik (h:jf K p n f e c cI xx TT io) {t t' : Nat→K} (ht:oY n cI t) (ht' : oY n cI t'):bT n f e t t' e=sm (fun i=>se K n cI i * (t (xx i) * t' (iv n f e (xx i)))) c:=by
 have G:=h.C.G
 have hcl:oY n cI fun z=>t z * t' (iv n f e z):=fun a b ha hb hab=>by
  show t a * t' (iv n f e a)=t b * t' (iv n f e b)
  rw [ht a b ha hb hab,ht' _ _ (G.az ha) (G.az hb) ((h.C.I9 ha hb).1 hab)]
 have e1:bT n f e t t' e=sm (fun z=>t z * t' (iv n f e z)) n:=by
  unfold bT
  exact al fun z hz=>by rw [G.one_l z hz]
 rw [e1,← h.C.JS]
 exact al fun i hi=>h.C.DC hcl hi
theorem HZ (h:jf K p n f e c cI xx TT io) (v:Nat→K) {i:Nat} (hi:i < c):bp cI io v (xx i)=v i * io i:=by
 unfold bp; rw [h.C.cx i hi]
theorem Fb (h:jf K p n f e c cI xx TT io) (v:Nat→K) {i:Nat} (hi:i < c):bp cI io v (iv n f e (xx i))=v (cI (iv n f e (xx i))) * io i:=by
 unfold bp; rw [h.JC hi]
theorem Db.sum (h:jf K p n f e c cI xx TT io) (v v' : Nat→K):bT n f e (bp cI io v) (bp cI io v') e=sm (fun i=>v i * v' (cI (iv n f e (xx i))) * io i) c:=by
 rw [h.Ik (h.Gy v) (h.Gy v')]
 refine al fun i hi=>?_
 rw [HZ h v hi,Fb h v' hi]
 have:=h.io i hi
 grind
theorem Db.Hm (h:jf K p n f e c cI xx TT io) (Fm:Db K p n f e c cI TT io lam) {d:Nat→K} (hd:∀ q,q < c→d q * d q * bT n f e (bp cI io (lam q)) (bp cI io (lam q)) e=(n:K)) {i j:Nat} (hi:i < c) (hj:j < c) :
  sm (fun q=>(d q * lam q j * io j) * (d q * lam q (cI (iv n f e (xx i))) * io i)) c=if i=j then (n:K) * io j else 0:=by
 have G:=h.C.G
 obtain ⟨a,ha⟩:=Fm.all (fun k=>if k=i then 1 else 0) fun k hk=>if_neg (by omega)
 have hT:∀ z,z < n→(if cI z=i then io i else 0)=sm (fun q=>a q * bp cI io (lam q) z) c:=fun z hz=>by
  have h2:=ha (cI z)
  have h4:sm (fun q=>a q * bp cI io (lam q) z) c=(if cI z=i then 1 else 0) * io (cI z):=by
   rw [h2,← bU]; exact al fun q _=>by unfold bp; grind
  rw [h4]
  by_cases Fg:cI z=i
  ·rw [if_pos Fg,if_pos Fg,Fg]; grind
  rw [if_neg Fg,if_neg Fg]; grind
 have haq:∀ q,q < c→a q * bT n f e (bp cI io (lam q)) (bp cI io (lam q)) e=bp cI io (lam q) (iv n f e (xx i)):=fun q hq=>by
  have e1:sm (fun z=>(if cI z=i then io i else 0) * bp cI io (lam q) (iv n f e z)) n=bp cI io (lam q) (iv n f e (xx i)):=by
   have hcl:oY n cI fun z=>io i * bp cI io (lam q) (iv n f e z):=fun a b ha hb hab=>by
    show io i * bp cI io (lam q) (iv n f e a)=io i * bp cI io (lam q) (iv n f e b)
    rw [h.Gy (lam q) _ _ (G.az ha) (G.az hb) ((h.C.I9 ha hb).1 hab)]
   have e2:sm (fun z=>(if cI z=i then io i else 0) * bp cI io (lam q) (iv n f e z)) n=sC n cI i fun z=>io i * bp cI io (lam q) (iv n f e z):=by
    unfold sC
    exact al fun z _=>by split<;>grind
   rw [e2,h.C.DC hcl hi]
   have:=h.io i hi
   grind
  rw [← e1]
  have e3:sm (fun z=>(if cI z=i then io i else 0) * bp cI io (lam q) (iv n f e z)) n=sm (fun q'=>a q' * bT n f e (bp cI io (lam q')) (bp cI io (lam q)) e) c:=by
   have e4:sm (fun z=>(if cI z=i then io i else 0) * bp cI io (lam q) (iv n f e z)) n=sm (fun z=>sm (fun q'=>a q' * (bp cI io (lam q') z * bp cI io (lam q) (iv n f e z))) c) n:=al fun z hz=>by
    rw [hT z hz,← bU]; exact al fun q' _=>by grind
   rw [e4,aX]
   refine al fun q' _=>?_
   rw [aN]
   unfold bT
   congr 1
   exact al fun z hz=>by rw [G.one_l z hz]
  rw [e3,bj hq fun q' hq' hne=>by rw [Fm.ort q' q hq' hq hne]; grind]
 have e1:∀ q,q < c→(d q * lam q j * io j) * (d q * lam q (cI (iv n f e (xx i))) * io i)=(n:K) * io j * (a q * lam q j):=fun q hq=>by
  have h2:=haq q hq
  rw [Fb h (lam q) hi] at h2
  have h3:=hd q hq
  have h4:(d q * lam q j * io j) * (d q * lam q (cI (iv n f e (xx i))) * io i)=d q * d q * (lam q (cI (iv n f e (xx i))) * io i) * (lam q j * io j):=by grind
  rw [h4,← h2]
  have h5:d q * d q * (a q * bT n f e (bp cI io (lam q)) (bp cI io (lam q)) e) * (lam q j * io j)=(d q * d q * bT n f e (bp cI io (lam q)) (bp cI io (lam q)) e) * (a q * lam q j * io j):=by grind
  rw [h5,h3]; grind
 rw [al e1,aN,← ha j]
 by_cases hij:i=j
 ·rw [if_pos hij,if_pos hij.symm]; grind
 rw [if_neg hij,if_neg (fun hh=>hij hh.symm)]; grind
end
section
variable {K:Type} [CommRing K] {p:Nat}
theorem Fq (R:Rd K p) (w:List Int) (J S:Nat→Nat):∀ i,((uR p w J S i:Int):K)=sm (fun t=>vc w t * vc w (J t) * ((dQ p (S t:Nat):Int):K)) i
 | 0=>Ring.intCast_zero
 | i + 1=>by
  rw [uR,R.mod,Ring.intCast_add,Ring.intCast_mul,R.mod,Ring.intCast_mul,Fq R w J S i]; rfl
theorem DZ {w:List Int} {d:Nat} {S:Nat→Nat} {c i:Nat} (hi:i < c):(yA p w d S c c).getD i 0=Fu p w d S i:=by
 unfold yA
 rw [dz (by simpa using hi),if_pos ⟨Nat.zero_le _,hi⟩]
theorem Fs (R:Rp K p) {w:List Int} {d:Nat} {S:Nat→Nat} {c i:Nat} (hi:i < c):(vc (yA p w d S c c) i:K)=vc w i * (d:K) * ((dQ p (S i:Nat):Int):K):=by
 unfold vc
 rw [DZ hi,Fu,R.toRd.mod,Ring.intCast_mul,R.toRd.mod,Ring.intCast_mul,R.bA]
end
structure Jw (n e:Nat) (m:List Int) [NeZero (aK m n e)] (lam:Nat→Nat→Fin (aK m n e)) (q:Nat) (s:List (List Int)):Prop where
 w:(vc (wK (aK m n e) (bW m n e e) s):Nat→Fin (aK m n e))=lam q
 sq:∃ d,d < aK m n e∧u7 (aK m n e) (FV (aK m n e) n (uR (aK m n e) (wK (aK m n e) (bW m n e e) s) (kO m n e) (c9 m n e) (aZ m n e))) d=true
 dd:((p8 (aK m n e) n (bW m n e e) (aZ m n e) (kO m n e) (c9 m n e) s:Nat):Fin (aK m n e)) * ((p8 (aK m n e) n (bW m n e e) (aZ m n e) (kO m n e) (c9 m n e) s:Nat):Fin (aK m n e)) * bT n (op m n) e (bp (bW m n e) (fun i=>((dQ (aK m n e) (c9 m n e i:Nat):Int):Fin (aK m n e))) (lam q)) (bp (bW m n e) (fun i=>((dQ (aK m n e) (c9 m n e i:Nat):Int):Fin (aK m n e))) (lam q)) e=(n:Nat)
 mn:∀ v:Nat,1≤v→v < aK m n e→bT n (op m n) e (bp (bW m n e) (fun i=>((dQ (aK m n e) (c9 m n e i:Nat):Int):Fin (aK m n e))) (lam q)) (bp (bW m n e) (fun i=>((dQ (aK m n e) (c9 m n e i:Nat):Int):Fin (aK m n e))) (lam q)) e * (((v:Nat):Fin (aK m n e)) * ((v:Nat):Fin (aK m n e)))=(n:Nat)→p8 (aK m n e) n (bW m n e e) (aZ m n e) (kO m n e) (c9 m n e) s≤v
theorem sM {n e:Nat} {m:List Int} (h:GT n m n e) [NeZero (aK m n e)] {lam:Nat→Nat→Fin (aK m n e)} (Fm:Db (Fin (aK m n e)) (aK m n e) n (op m n) e (aZ m n e) (bW m n e) (fI m n e) (fun i=>((dQ (aK m n e) (c9 m n e i:Nat):Int):Fin (aK m n e))) lam) {q:Nat} (hq:q < aZ m n e) :
  Jw n e m lam q ((cZ (aK m n e) (fI m n e) [aP (aZ m n e) (aZ m n e)] (aZ m n e)).getD q []):=by
 have H:=mM h
 obtain ⟨P,hP1,hP2⟩:=ub h
 have R:=H.R
 have hn1:=h.2.1.pos
 have hoc:=(ez h h.2.2.el).1
 have ho:=mr (p:=aK m n e) (c:=aZ m n e) R.two (fI m n e) H.BQ (aZ m n e) _ (aC (d:=[]) (show q < (cZ (aK m n e) (fI m n e) [aP (aZ m n e) (aZ m n e)] (aZ m n e)).length by rw [Fm.len]; exact hq))
 have hspa:=Fm.spa q hq
 have hfst:=Fm.fst q hq
 have hnz:=Fm.nz q hq
 have hchr:=Fm.chr q hq
 have hsm:=Db.sum H (lam q) (lam q)
 have hJ:∀ i,kO m n e i=bW m n e (iv n (op m n) e (qY m n e i)):=fun i=>rfl
 generalize (cZ (aK m n e) (fI m n e) [aP (aZ m n e) (aZ m n e)] (aZ m n e)).getD q []=s at *
 obtain ⟨p,hp⟩:∃ p,aK m n e=p:=⟨_,rfl⟩
 have hw0m:s.getD 0 []∈s:=aC ho.pos
 have hw0g:=ho.rg _ hw0m
 have hw0:∀ j,(vc (s.getD 0 []) j:Fin (aK m n e))=vc (s.getD 0 []) (bW m n e e) * lam q j:=fun j=>hspa _ (bC.get ho.pos) j
 have hone:¬ (s.getD 0 []).getD (bW m n e e) 0=0:=fun h0=>hfst (by
  show (vc (s.getD 0 []) (bW m n e e):Fin (aK m n e))=0
  rw [IF R.toRd hw0g]; exact h0)
 have hinv:=R.toRd.inv (hw0g (bW m n e e)) hone
 have hw:(vc (wK (aK m n e) (bW m n e e) s):Nat→Fin (aK m n e))=lam q:=by
  unfold wK
  rw [EX R.toRd]
  funext j
  rw [hw0 j]
  have h2:(vc (s.getD 0 []) (bW m n e e):Fin (aK m n e)) * ((dQ (aK m n e) ((s.getD 0 []).getD (bW m n e e) 0):Int):Fin (aK m n e))=1:=hinv
  grind
 have hsumK:((uR (aK m n e) (wK (aK m n e) (bW m n e e) s) (kO m n e) (c9 m n e) (aZ m n e):Int):Fin (aK m n e))=bT n (op m n) e (bp (bW m n e) (fun i=>((dQ (aK m n e) (c9 m n e i:Nat):Int):Fin (aK m n e))) (lam q)) (bp (bW m n e) (fun i=>((dQ (aK m n e) (c9 m n e i:Nat):Int):Fin (aK m n e))) (lam q)) e:=by
  rw [Fq R.toRd,hw,hsm]
  exact al fun i hi=>by rw [hJ]
 obtain ⟨sm0,hsm0⟩:∃ x,uR (aK m n e) (wK (aK m n e) (bW m n e e) s) (kO m n e) (c9 m n e) (aZ m n e)=x:=⟨_,rfl⟩
 obtain ⟨sK,hsK⟩:∃ x,bT n (op m n) e (bp (bW m n e) (fun i=>((dQ (aK m n e) (c9 m n e i:Nat):Int):Fin (aK m n e))) (lam q)) (bp (bW m n e) (fun i=>((dQ (aK m n e) (c9 m n e i:Nat):Int):Fin (aK m n e))) (lam q)) e=x:=⟨_,rfl⟩
 have hrng:0≤sm0∧sm0 < aK m n e:=by
  rw [← hsm0]
  have hc:=H.BQ
  cases hcn:aZ m n e with
  | zero=>omega
  | succ k=>exact bI (by omega) _
 have hodd:aK m n e=2 * ((aK m n e - 1) / 2) + 1:=by have:=P.odd; have:=P.three; omega
 have heu:=(u3 h).HS R H.nz H.cz (fun a ha=>zu h ha) hchr hnz hodd
 rw [hsK] at heu hnz
 rw [hsm0,hsK] at hsumK
 have hsm00:¬ sm0=0:=fun h0=>hnz (by rw [← hsumK,h0]; exact Ring.intCast_zero)
 have hi2:=R.toRd.inv hrng hsm00
 rw [hsumK] at hi2
 obtain ⟨sq,hsq⟩:∃ x,FV (aK m n e) n sm0=x:=⟨_,rfl⟩
 have hsqr:0≤sq∧sq < aK m n e:=by rw [← hsq]; exact bI (by omega) _
 have hsqK:((sq:Int):Fin (aK m n e)) * sK=(n:Nat):=by
  rw [← hsq]
  unfold FV
  rw [R.toRd.mod,Ring.intCast_mul,R.toRd.mod,R.bA]
  grind
 obtain ⟨k,hk⟩:∃ k:Nat,sq=(k:Int):=⟨sq.toNat,by omega⟩
 have hkK:((k:Nat):Fin (aK m n e)) * sK=(n:Nat):=by rw [← hsqK,hk,R.bA]
 have hex:∃ d,d < aK m n e - 1∧(d + 1) * (d + 1) % aK m n e=k:=by
  refine P.eul k (by omega) ?_
  obtain ⟨x,hx,hxs⟩:=uV sK
  have hx0:¬ x % aK m n e=0:=fun h0=>hnz (by rw [← hxs]; exact (fz x).2 h0)
  have h3:=pP P.toPG hx0
  rw [hxs] at h3
  have h4:∀ j,(((k:Nat):Fin (aK m n e)) ^ j) * sK ^ (2 * j)=(((n:Nat):Fin (aK m n e)) * sK) ^ j:=fun j=>by
   induction j with
   | zero=>rw [Nat.mul_zero,Semiring.pow_zero,Semiring.pow_zero,Semiring.pow_zero]; grind
   | succ j ih =>
    rw [show 2 * (j + 1)=2 * j + 1 + 1 by omega,Semiring.pow_succ,Semiring.pow_succ,Semiring.pow_succ,Semiring.pow_succ,← ih,← hkK]; grind
  have h5:=h4 ((aK m n e - 1) / 2)
  rw [heu,show 2 * ((aK m n e - 1) / 2)=aK m n e - 1 by omega,h3] at h5
  have h6:((k ^ ((aK m n e - 1) / 2):Nat):Fin (aK m n e))=((1:Nat):Fin (aK m n e)):=by
   rw [Semiring.natCast_pow,yg P.three]; grind
  have h7:=Dk h6
  rwa [Nat.mod_eq_of_lt (show 1 < aK m n e by have:=P.three; omega)] at h7
 have hdB:∀ d,u7 (aK m n e) sq d=true↔(d + 1) * (d + 1) % aK m n e=k:=fun d=>by
  unfold u7
  rw [decide_eq_true_iff,hk]
  have:((d:Int) + 1) * ((d:Int) + 1) % ((aK m n e:Nat):Int)=(((d + 1) * (d + 1) % aK m n e:Nat):Int):=by simp
  rw [this]; omega
 have hmn:∀ v:Nat,1≤v→v < aK m n e→sK * (((v:Nat):Fin (aK m n e)) * ((v:Nat):Fin (aK m n e)))=(n:Nat)→p8 (aK m n e) n (bW m n e e) (aZ m n e) (kO m n e) (c9 m n e) s≤v:=fun v v1 v2 v3=>by
  have e1:((v * v:Nat):Fin (aK m n e))=((k:Nat):Fin (aK m n e)):=by
   rw [Semiring.natCast_mul]
   obtain ⟨si,hsi⟩:=R.fld.1 _ hnz
   grind
  have e2:=Dk e1
  rw [Nat.mod_eq_of_lt (show k < aK m n e by omega)] at e2
  have e3:u7 (aK m n e) sq (v - 1)=true:=(hdB (v - 1)).2 (by rw [show v - 1 + 1=v by omega]; exact e2)
  have hch:p8 (aK m n e) n (bW m n e e) (aZ m n e) (kO m n e) (c9 m n e) s=(bQ (u7 (aK m n e) sq) (aK m n e)).getD 0 + 1:=by
   unfold p8 H7
   rw [hsm0,hsq]
  rw [hch]
  cases hf:bQ (u7 (aK m n e) sq) (aK m n e) with
  | none=>show 0 + 1≤v; omega
  | some D =>
   have h5:=(cH hf).2.2
   show D + 1≤v
   by_cases hlt:v - 1 < D
   ·have:=h5 _ hlt; rw [e3] at this; cases this
   omega
 refine ⟨hw,?_,?_,by rw [hsK]; exact hmn⟩
 ·rw [hsm0,hsq]
  obtain ⟨d,d1,d2⟩:=hex
  exact ⟨d,by omega,(hdB d).2 d2⟩
 rw [hsK]
 obtain ⟨D,hD⟩:∃ D,bQ (u7 (aK m n e) sq) (aK m n e)=some D:=by
  obtain ⟨d,d1,d2⟩:=hex
  cases hf:bQ (u7 (aK m n e) sq) (aK m n e) with
  | some D=>exact ⟨D,rfl⟩
  | none=>have:=cg hf d (by omega); rw [(hdB d).2 d2] at this; cases this
 have hch:p8 (aK m n e) n (bW m n e e) (aZ m n e) (kO m n e) (c9 m n e) s=D + 1:=by
  unfold p8 H7
  rw [hsm0,hsq,hD]; rfl
 rw [hch]
 have h8:=(hdB D).1 (cH hD).2.1
 have h9:(((D + 1) * (D + 1):Nat):Fin (aK m n e))=((k:Nat):Fin (aK m n e)):=Bp (by rw [h8,Nat.mod_eq_of_lt (by omega)])
 rw [Semiring.natCast_mul] at h9
 rw [h9]; exact hkK
end Go.Proofs.YtjlmpmidchddjaaDoor
namespace Go.Proofs.YtjlmpmidchddjaaDoor
open Go.Pv
def dN (m:List Int) (n e:Nat):List (List (List Int)):=cZ (aK m n e) (fI m n e) [aP (aZ m n e) (aZ m n e)] (aZ m n e)
def rh (m:List Int) (n e:Nat):Nat:=bW m n e e
def jb (m:List Int) (n e:Nat) (s:List (List Int)):List Int:=yA (aK m n e) (wK (aK m n e) (rh m n e) s) (p8 (aK m n e) n (rh m n e) (aZ m n e) (kO m n e) (c9 m n e) s) (c9 m n e) (aZ m n e) (aZ m n e)
def nX (m:List Int) (n e:Nat):List (List Int):=zb (aK m n e) n (rh m n e) (aZ m n e) (kO m n e) (c9 m n e) (dN m n e)
theorem um (m:List Int) (n e:Nat):(nX m n e).Perm ((dN m n e).map (jb m n e)):=by
 unfold nX zb
 refine ((mX _).symm.map _).trans ?_
 rw [List.map_map]
 exact List.Perm.of_eq (List.map_congr_left fun s _=>rfl)
theorem zA (m:List Int) (n e:Nat) (s:List (List Int)):(jb m n e s).length=aZ m n e:=by simp [jb,yA,bJ]
theorem CM {n e:Nat} {m:List Int} (h:GT n m n e) (s:List (List Int)):eG (aK m n e) (jb m n e s):=by
 obtain ⟨P,p1,p2⟩:=ub h
 refine ot (fun t=>bI (by omega) _) fun j=>?_
 rw [List.getD_eq_getElem?_getD,List.getElem?_replicate]
 split
 ·simp only [Option.getD_some]; omega
 simp only [Option.getD_none]; omega
theorem vJ {n e:Nat} {m:List Int} (h:GT n m n e):0 < aZ m n e∧aZ m n e≤n:=⟨by have:=(ez h h.2.2.el).1; omega,fi _ _ _⟩
theorem Eh {n e:Nat} {m:List Int} (h:GT n m n e) (hc24:aZ m n e≤24):bR Tryd.prog 11 [gp n m] (.tup [.int .i64 (aK m n e),.list (ll (nX m n e)),fl (0,0)]):=by
 obtain ⟨P,p1,p2⟩:=ub h
 have hp3:=P.three
 haveI:NeZero (aK m n e):=⟨by omega⟩
 have G:=h.2.2
 have E:=G.fO
 have hb:=h.2.1.big
 obtain ⟨lam,Fm⟩:=(mM h).IZ
 obtain ⟨hc0,hcn⟩:=vJ h
 have hwl:∀ a,a < n→(k6 n (bY n (op m n) e)).getD a 0=(bW m n e a:Int):=fun a ha=>by
  rw [k6,iq ha]; exact (ez h ha).2
 have hTl:(fI m n e).length=aZ m n e:=by simp [fI]
 have hTg:∀ i,i < aZ m n e→(fI m n e).getD i []=jc (aZ m n e) (ct n (op m n) e i):=fun i hi=>by simp [fI,List.getD,List.getElem?_map,List.getElem?_range hi]
 have hSl:(dN m n e).length=aZ m n e:=Fm.len
 refine C5 h (p:=aK m n e) (c:=aZ m n e) (o:=rh m n e) (J:=kO m n e) (S:=c9 m n e) (L:=ta m n e) (TT:=fI m n e) (WL:=k6 n (bY n (op m n) e)) (by omega) (by omega) hc0 hc24 (mI h) ?_ (rN m hb E) (yk h) rfl hTl (fun i hi=>?_) (er _ _) (hwl e G.el) (ez h G.el).1 (fun i hi=>?_) (fun i hi=>?_) ?_ fun s hs=>?_
 ·have:=Ck h
  have e1:(List.range (bA n (bY n (op m n) e)).length).map (qI n (op m n) e)=Cu (fI m n e):=by
   unfold Cu fI qI aZ ta
   rw [List.map_map]
   rfl
  rw [e1] at this
  exact this
 ·rw [hTg i hi]
  refine ⟨dD _ _,xZ,fun v hv j=>?_⟩
  obtain ⟨a,ha,rfl⟩:=List.mem_map.1 hv
  by_cases hj:j < aZ m n e
  ·have:=iq (n:=aZ m n e) (g:=ct n (op m n) e i a) hj
   rw [this]
   have hr:=yc ((bA n (bY n (op m n) e)).getD i []) (cw n (op m n) e j) ((bA n (bY n (op m n) e)).getD i []).length a
   have h2:=(jJ h hi).2.1
   unfold c9 ta at h2
   unfold ct
   omega
  rw [List.getD_eq_getElem?_getD,List.getElem?_eq_none (by rw [er]; omega)]
  simp
 ·obtain ⟨s1,s2,s3⟩:=jJ h hi
  have hx:=(AM h hi).1
  refine ⟨qY m n e i,hx,s3,hwl _ (G.az hx),(ez h (G.az hx)).1,rfl,s1,by omega⟩
 ·have:=Fm.few i hi
  omega
 ·intro h0
  have:=Fm.len
  rw [h0] at this
  simp at this; omega
 obtain ⟨q,hq,e1⟩:=List.getElem_of_mem hs
 have hq2:q < aZ m n e:=by have:=Fm.len; omega
 have hr:=sM h Fm hq2
 have e2:(cZ (aK m n e) (fI m n e) [aP (aZ m n e) (aZ m n e)] (aZ m n e)).getD q []=s:=by rw [← e1]; simp [List.getD,List.getElem?_eq_getElem hq]
 rw [e2] at hr
 exact hr.sq
open Lean.Grind
attribute [local instance] Lean.Grind.Semiring.natCast Lean.Grind.Ring.intCast
section
variable {K:Type} [CommRing K]
def fu (l:List (List Int)) (F:List Int→K):K:=l.foldr (fun r a=>F r + a) 0
theorem yF {l l' : List (List Int)} (h:l.Perm l') (F:List Int→K):fu l F=fu l' F:=by
 induction h with
 | nil=>rfl
 | cons x _ ih=>show F x + fu _ F=F x + fu _ F; rw [ih]
 | swap x y l=>show F y + (F x + fu l F)=F x + (F y + fu l F); grind
 | trans _ _ h1 h2=>rw [h1,h2]
theorem zE (l l' : List (List Int)) (F:List Int→K):fu (l++l') F=fu l F + fu l' F:=by
 induction l with
 | nil=>show fu l' F=0 + fu l' F; grind
 | cons x l ih=>show F x + fu (l++l') F=F x + fu l F + fu l' F; rw [ih]; grind
theorem xP (F:List Int→K):∀ (l:List (List Int)),fu l F=sm (fun i=>F (l.getD i [])) l.length:=by
 intro l
 have key:∀ k,k≤l.length→fu (l.take k) F=sm (fun i=>F (l.getD i [])) k:=fun k=>by
  induction k with
  | zero=>intro _; rfl
  | succ k ih =>
   intro hk
   rw [List.take_succ_eq_append_getElem (by omega),zE,ih (by omega),sm]
   have:l[k]'(by omega)=l.getD k []:=by simp [List.getD,List.getElem?_eq_getElem (show k < l.length by omega)]
   rw [this]
   show _ + (F _ + 0)=_
   grind
 have:=key l.length (Nat.le_refl _)
 rwa [List.take_length] at this
end
section
variable {n e:Nat} {m:List Int} [NeZero (aK m n e)]
def IA (m:List Int) (n e:Nat) [NeZero (aK m n e)] (r r' : List Int):Fin (aK m n e):=sm (fun k=>((c9 m n e k:Nat):Fin (aK m n e)) * vc r k * vc r' (kO m n e k)) (aZ m n e)
theorem lh (h:GT n m n e):(∀ r∈nX m n e,IA m n e r r=(n:Nat))∧(nX m n e).Pairwise (fun r r'=>IA m n e r r' = 0∧IA m n e r' r=0)∧(nX m n e).length=aZ m n e∧(∀ r∈nX m n e,r.length=aZ m n e∧eG (aK m n e) r) ∧
  ∀ i j,i < aZ m n e→j < aZ m n e→fu (nX m n e) (fun r=>(vc r j:Fin (aK m n e)) * vc r (kO m n e i)) * ((c9 m n e j:Nat):Fin (aK m n e))=if i=j then ((n:Nat):Fin (aK m n e)) else 0:=by
 obtain ⟨lam,Fm⟩:=(mM h).IZ
 have H:=mM h
 have hSl:(dN m n e).length=aZ m n e:=Fm.len
 have hJl:∀ i,i < aZ m n e→kO m n e i < aZ m n e:=fun i hi=>(ez h (h.2.2.az (AM h hi).1)).1
 have hrow:∀ q,q < aZ m n e→∃ d:Fin (aK m n e),d * d * bT n (op m n) e (bp (bW m n e) (fun i=>((dQ (aK m n e) (c9 m n e i:Nat):Int):Fin (aK m n e))) (lam q)) (bp (bW m n e) (fun i=>((dQ (aK m n e) (c9 m n e i:Nat):Int):Fin (aK m n e))) (lam q)) e=(n:Nat)∧∀ i,i < aZ m n e→(vc (jb m n e ((dN m n e).getD q [])) i:Fin (aK m n e))=d * lam q i * ((dQ (aK m n e) (c9 m n e i:Nat):Int):Fin (aK m n e)):=fun q hq=>by
  have hr:=sM h Fm hq
  refine ⟨_,hr.dd,fun i hi=>?_⟩
  unfold jb
  rw [Fs H.R hi]
  have hw:(vc (wK (aK m n e) (rh m n e) ((dN m n e).getD q [])):Nat→Fin (aK m n e))=lam q:=hr.w
  rw [hw]
  show lam q i * ((p8 (aK m n e) n (rh m n e) (aZ m n e) (kO m n e) (c9 m n e) ((dN m n e).getD q []):Nat):Fin (aK m n e)) * _=((p8 (aK m n e) n (rh m n e) (aZ m n e) (kO m n e) (c9 m n e) ((dN m n e).getD q []):Nat):Fin (aK m n e)) * lam q i * _
  grind
 have hrow' : ∀ q,∃ d:Fin (aK m n e),q < aZ m n e→d * d * bT n (op m n) e (bp (bW m n e) (fun i=>((dQ (aK m n e) (c9 m n e i:Nat):Int):Fin (aK m n e))) (lam q)) (bp (bW m n e) (fun i=>((dQ (aK m n e) (c9 m n e i:Nat):Int):Fin (aK m n e))) (lam q)) e=(n:Nat)∧∀ i,i < aZ m n e→(vc (jb m n e ((dN m n e).getD q [])) i:Fin (aK m n e))=d * lam q i * ((dQ (aK m n e) (c9 m n e i:Nat):Int):Fin (aK m n e)):=fun q=>by
  by_cases hq:q < aZ m n e
  ·obtain ⟨d,hd⟩:=hrow q hq; exact ⟨d,fun _=>hd⟩
  exact ⟨0,fun hh=>absurd hh hq⟩
 obtain ⟨d,hd⟩:=Classical.axiomOfChoice hrow'
 have hpr:∀ q q',q < aZ m n e→q' < aZ m n e→IA m n e (jb m n e ((dN m n e).getD q [])) (jb m n e ((dN m n e).getD q' []))=d q * d q' * bT n (op m n) e (bp (bW m n e) (fun i=>((dQ (aK m n e) (c9 m n e i:Nat):Int):Fin (aK m n e))) (lam q)) (bp (bW m n e) (fun i=>((dQ (aK m n e) (c9 m n e i:Nat):Int):Fin (aK m n e))) (lam q')) e:=fun q q' hq hq'=>by
  unfold IA
  rw [Db.sum H,← aN]
  refine al fun i hi=>?_
  rw [(hd q hq).2 i hi,(hd q' hq').2 _ (hJl i hi)]
  have e1:=H.io i hi
  rw [oX h hi] at e1
  have e2:((dQ (aK m n e) (c9 m n e (kO m n e i):Nat):Int):Fin (aK m n e))=((dQ (aK m n e) (c9 m n e i:Nat):Int):Fin (aK m n e)):=H.JC hi
  rw [e2]
  show _=d q * d q' * (lam q i * lam q' (kO m n e i) * _)
  grind
 have hP:=um m n e
 have hg:∀ q,q < aZ m n e→((dN m n e).map (jb m n e)).getD q []=jb m n e ((dN m n e).getD q []):=fun q hq=>by
  simp [List.getD,List.getElem?_map,List.getElem?_eq_getElem (show q < (dN m n e).length by omega)]
 refine ⟨fun r hr=>?_,?_,?_,fun r hr=>?_,fun i j hi hj=>?_⟩
 ·obtain ⟨s,hs,rfl⟩:=List.mem_map.1 (hP.mem_iff.1 hr)
  obtain ⟨q,hq,e1⟩:=List.getElem_of_mem hs
  have e2:(dN m n e).getD q []=s:=by rw [← e1]; simp [List.getD,List.getElem?_eq_getElem hq]
  rw [← e2,hpr q q (by omega) (by omega)]
  exact (hd q (by omega)).1
 ·refine (hP.pairwise_iff fun hab=>⟨hab.2,hab.1⟩).2 ?_
  rw [List.pairwise_iff_getElem]
  intro q q' hq hq' hlt
  rw [List.length_map] at hq hq'
  simp only [List.getElem_map]
  have e1:(dN m n e)[q]=(dN m n e).getD q []:=by simp [List.getD,List.getElem?_eq_getElem hq]
  have e2:(dN m n e)[q']=(dN m n e).getD q' []:=by simp [List.getD,List.getElem?_eq_getElem hq']
  rw [e1,e2,hpr q q' (by omega) (by omega),hpr q' q (by omega) (by omega),Fm.ort q q' (by omega) (by omega) (by omega),Fm.ort q' q (by omega) (by omega) (by omega)]
  exact ⟨by grind,by grind⟩
 ·rw [hP.length_eq,List.length_map,hSl]
 ·obtain ⟨s,hs,rfl⟩:=List.mem_map.1 (hP.mem_iff.1 hr)
  exact ⟨zA m n e s,CM h s⟩
 rw [yF hP,xP,List.length_map,hSl]
 have hcol:=Db.Hm H Fm (d:=d) (fun q hq=>(hd q hq).1) hi hj
 have e1:sm (fun q=>(vc (((dN m n e).map (jb m n e)).getD q []) j:Fin (aK m n e)) * vc (((dN m n e).map (jb m n e)).getD q []) (kO m n e i)) (aZ m n e)=if i=j then ((n:Nat):Fin (aK m n e)) * ((dQ (aK m n e) (c9 m n e j:Nat):Int):Fin (aK m n e)) else 0:=by
  rw [← hcol]
  refine al fun q hq=>?_
  rw [hg q hq,(hd q hq).2 j hj,(hd q hq).2 _ (hJl i hi)]
  have e2:((dQ (aK m n e) (c9 m n e (kO m n e i):Nat):Int):Fin (aK m n e))=((dQ (aK m n e) (c9 m n e i:Nat):Int):Fin (aK m n e)):=H.JC hi
  rw [e2]; rfl
 rw [e1]
 have e3:=H.io j hj
 rw [oX h hj] at e3
 by_cases hij:i=j
 ·rw [if_pos hij,if_pos hij]; grind
 rw [if_neg hij,if_neg hij]; grind
end
end Go.Proofs.YtjlmpmidchddjaaDoor
namespace Go.Proofs.YtjlmpmidchddjaaDoor
open Go.Pv
def qg (m:List Int) (n e:Nat):List Int:=(nX m n e).map fun r=>r.getD (rh m n e) 0
theorem wi (N:Int) (m:List Int) (hm:m.length≤1000000000000000) (hf:¬ (gf N m).1=0):bR Tryd.prog 13 [gp N m] (.tup [.list [],fl (gf N m)]):=by
 refine aI ae Tryd.func13 rfl (by kernel_rfl) (by rw [Tryd.ntmps13]; exact Nat.le_add_left 1 _) ?_; rw [Tryd.ntmps13]
 refine qm ?_
 refine ab fun K hK=>aa ae ?_
 simp only [aj,fl,gp,ai,simprocAttr]
 refine af ?_ (hK _ ?_)<;>clear hK K
 ·first|exact trivial|omega|(simp only [ah] at *; omega)|(simp [ah] at *; omega)|simp_all
 refine qa (qm ?_)
 refine ab fun K hK=>aa ae ?_
 simp only [aj,fl,gp,ai,simprocAttr]
 refine an trivial (ak (zt N m hm hf) rfl rfl rfl (by simp only [au,Nat.reduceLT]) (by repeat (first|exact trivial|constructor)) (aa ae ?_))
 simp only [aj,fl,gp,ai,simprocAttr]
 refine af ?_ (hK _ ?_)<;>clear hK K
 ·first|exact trivial|omega|(simp only [ah] at *; omega)|(simp [ah] at *; omega)|simp_all
 refine qa (qm (qm ?_))
 refine ab fun K hK=>aa ae ?_
 simp only [aj,fl,gp,ai,simprocAttr]
 refine af ?_ (hK _ ?_)<;>clear hK K
 ·first|exact trivial|omega|(simp only [ah] at *; omega)|(simp [ah] at *; omega)|simp_all
 refine qa ?_
 refine ao rfl (fun hC1=>?_) (fun hC1=>?_)
 ·(try simp only [aG] at hC1)
  refine qm ?_
  refine aT mixed (by kernel_rfl) fun K hK=>aa ae ?_
  simp only [aj,fl,gp,ai,simprocAttr]
  refine af ?_ (hK _ ?_)<;>clear hK K
  ·first|exact trivial|omega|(simp only [ah] at *; omega)|(simp [ah] at *; omega)|simp_all
  refine qa (qk (qb ?_))
  simp only [Tryd.results13,bG,aj,fl,gp,ai,simprocAttr]
  all_goals ((first|exact rfl|exact ⟨rfl,rfl⟩|exact ⟨rfl,rfl,rfl⟩|exact ⟨trivial,rfl⟩|exact ⟨Nat.le_refl _,rfl⟩|trivial|(simp; done)))
 (try simp only [aG] at hC1)
 exact absurd hC1 hf
theorem rj {n e:Nat} {m:List Int} (h:GT n m n e) (hc:24 < aZ m n e):bR Tryd.prog 13 [gp n m] (.tup [.list [],fl (2,0)]):=by
 refine aI ae Tryd.func13 rfl (by kernel_rfl) (by rw [Tryd.ntmps13]; exact Nat.le_add_left 1 _) ?_; rw [Tryd.ntmps13]
 refine qm ?_
 refine ab fun K hK=>aa ae ?_
 simp only [aj,fl,gp,ai,simprocAttr]
 refine af ?_ (hK _ ?_)<;>clear hK K
 ·first|exact trivial|omega|(simp only [ah] at *; omega)|(simp [ah] at *; omega)|simp_all
 refine qa (qm ?_)
 refine ab fun K hK=>aa ae ?_
 simp only [aj,fl,gp,ai,simprocAttr]
 refine an trivial (ak (wA h hc) rfl rfl rfl (by simp only [au,Nat.reduceLT]) (by repeat (first|exact trivial|constructor)) (aa ae ?_))
 simp only [aj,fl,gp,ai,simprocAttr]
 refine af ?_ (hK _ ?_)<;>clear hK K
 ·first|exact trivial|omega|(simp only [ah] at *; omega)|(simp [ah] at *; omega)|simp_all
 refine qa (qm (qm ?_))
 refine ab fun K hK=>aa ae ?_
 simp only [aj,fl,gp,ai,simprocAttr]
 refine af ?_ (hK _ ?_)<;>clear hK K
 ·first|exact trivial|omega|(simp only [ah] at *; omega)|(simp [ah] at *; omega)|simp_all
 refine qa ?_
 refine ao rfl (fun hC1=>?_) (fun hC1=>?_)
 ·(try simp only [aG] at hC1)
  refine qm ?_
  refine aT mixed (by kernel_rfl) fun K hK=>aa ae ?_
  simp only [aj,fl,gp,ai,simprocAttr]
  refine af ?_ (hK _ ?_)<;>clear hK K
  ·first|exact trivial|omega|(simp only [ah] at *; omega)|(simp [ah] at *; omega)|simp_all
  refine qa (qk (qb ?_))
  simp only [Tryd.results13,bG,aj,fl,gp,ai,simprocAttr]
  all_goals ((first|exact rfl|exact ⟨rfl,rfl⟩|exact ⟨rfl,rfl,rfl⟩|exact ⟨trivial,rfl⟩|exact ⟨Nat.le_refl _,rfl⟩|trivial|(simp; done)))
 (try simp only [aG] at hC1)
 first|exact absurd rfl hC1|exact hC1.elim|cases hC1|(simp at hC1; done)
theorem qV {n e:Nat} {m:List Int} (h:GT n m n e) (hc24:aZ m n e≤24):bR Tryd.prog 13 [gp n m] (.tup [.list (il (qg m n e)),fl (0,0)]):=by
 have E:=h.2.2.fO
 have hb:=h.2.1.big
 obtain ⟨P,p1,p2⟩:=ub h
 haveI:NeZero (aK m n e):=⟨by have:=P.three; omega⟩
 obtain ⟨_,_,t3,t4,_⟩:=lh h
 have hwl:(k6 n (bY n (op m n) e)).getD e 0=(rh m n e:Int):=by rw [k6,iq h.2.2.el]; exact (ez h h.2.2.el).2
 have hol:=(ez h h.2.2.el).1
 have hwll:(k6 n (bY n (op m n) e)).length=n:=er _ _
 refine aI ae Tryd.func13 rfl (by kernel_rfl) (by rw [Tryd.ntmps13]; exact Nat.le_add_left 1 _) ?_; rw [Tryd.ntmps13]
 refine qm ?_
 refine ab fun K hK=>aa ae ?_
 simp only [aj,fl,gp,ai,simprocAttr]
 refine af ?_ (hK _ ?_)<;>clear hK K
 ·first|exact trivial|omega|(simp only [ah] at *; omega)|(simp [ah] at *; omega)|simp_all
 refine qa (qm ?_)
 refine ab fun K hK=>aa ae ?_
 simp only [aj,fl,gp,ai,simprocAttr]
 refine an trivial (ak (Eh h hc24) rfl rfl rfl (by simp only [au,Nat.reduceLT]) (by repeat (first|exact trivial|constructor)) (aa ae ?_))
 simp only [aj,fl,gp,ai,simprocAttr]
 refine af ?_ (hK _ ?_)<;>clear hK K
 ·first|exact trivial|omega|(simp only [ah] at *; omega)|(simp [ah] at *; omega)|simp_all
 refine qa (qm (qm ?_))
 refine ab fun K hK=>aa ae ?_
 simp only [aj,fl,gp,ai,simprocAttr]
 refine af ?_ (hK _ ?_)<;>clear hK K
 ·first|exact trivial|omega|(simp only [ah] at *; omega)|(simp [ah] at *; omega)|simp_all
 refine qa ?_
 refine ao rfl (fun hC1=>?_) (fun hC1=>?_)
 ·cases hC1
 (try simp only [aG] at hC1)
 refine qh (qa (qm ?_))
 refine aT mixed (by kernel_rfl) fun K hK=>aa ae ?_
 simp only [aj,fl,gp,ai,simprocAttr]
 refine an trivial (ak (mI h) rfl rfl rfl (by simp only [au,Nat.reduceLT]) (by repeat (first|exact trivial|constructor)) (aa ae ?_))
 simp only [aj,fl,gp,ai,simprocAttr]
 refine an trivial (ak (rN m hb E) rfl rfl rfl (by simp only [au,Nat.reduceLT]) (by repeat (first|exact trivial|constructor)) (aa ae ?_))
 simp only [aj,fl,gp,ai,simprocAttr]
 refine af ?_ (hK _ ?_)<;>clear hK K
 ·first|exact trivial|omega|(simp only [ah] at *; omega)|(simp [ah] at *; omega)|simp_all
 refine qa (qm ?_)
 refine ab fun K hK=>aa ae ?_
 simp only [aj,fl,gp,ai,simprocAttr]
 refine af trivial (hK _ ?_)<;>clear hK K
 refine qa (qm (qm ?_))
 refine bN 8 rfl ?_
 refine ab fun K hK=>aa ae ?_
 simp only [aj,fl,gp,ai,simprocAttr,aw,t3]
 refine af trivial (hK _ ?_)<;>clear hK K
 refine qa (ql ?_)
 refine aA (ι:=Nat) (fun i=>⟨45,[(1,.ptr 0 0),(3,.ptr 1 0),(6,.ptr 2 0),(7,.p (.list (il (k6 n (bY n (op m n) e))))),(8,.sl 3 0 i),(25,.p (.list (ll (nX m n e)))),(26,.p (.int .i64 (aZ m n e))),(27,.p (.int .i64 i))],[.own [.p (.int .i64 n),.p (.list (il m))],.own [.p (.int .i64 0),.p (.int .i64 0)],.own [.p (.int .i64 0),.p (.int .i64 0)],.own (ol ((qg m n e).take i))]⟩) (fun i=>i≤aZ m n e) (fun i=>aZ m n e - i) 0 (Nat.zero_le _) [0,1,2,3] (by simp only [leq,bf,aj,fl,gp,ai,simprocAttr]<;>first|trivial|(simp [ky,iC]; done)|skip) fun i hi=>?_
 refine qm ?_
 refine ab fun K hK=>aa ae ?_
 simp only [aj,fl,gp,ai,simprocAttr]
 refine af trivial (hK _ ?_)<;>clear hK K
 refine qa (qm ?_)
 refine ao rfl (fun hC2=>?_) (fun hC2=>?_)
 ·(try simp only [aG] at hC2)
  have hil:i < (nX m n e).length:=by omega
  obtain ⟨r,hr⟩:∃ r,(nX m n e).getD i []=r:=⟨_,rfl⟩
  have hrl:r.length=aZ m n e:=by rw [← hr]; exact (t4 _ (aC hil)).1
  have hdk:(qg m n e).take (i + 1)=(qg m n e).take i++[r.getD (rh m n e) 0]:=by
   rw [List.take_succ_eq_append_getElem (by simp [qg]; omega)]
   congr 2
   simp only [qg,List.getElem_map]
   rw [← hr]; simp [List.getD,List.getElem?_eq_getElem hil]
  have hdl:((qg m n e).take i).length=i:=by rw [List.length_take]; simp [qg]; omega
  have hdt:List.take i ((qg m n e).take i)=(qg m n e).take i:=List.take_of_length_le (by omega)
  refine qh (qa (qm (ql (qm ?_))))
  refine ab fun K hK=>aa ae ?_
  simp only [aj,fl,gp,ai,simprocAttr,aw,cQ hil,hr]
  refine af ?_ (hK _ ?_)<;>clear hK K
  ·omega
  refine qa ?_
  refine ab fun K hK=>aa ae ?_
  simp only [aj,fl,gp,ai,simprocAttr,hdt,hdl,aL (show e < (k6 n (bY n (op m n) e)).length by rw [hwll]; exact h.2.2.el),hwl,aL (show rh m n e < r.length by rw [hrl]; exact hol)]
  refine an ?_ (ak (jV h) rfl rfl rfl (by simp only [au,Nat.reduceLT]) (by repeat (first|exact trivial|constructor)) (aa ae ?_))
  ·first|exact trivial|omega|(simp only [ah] at *; omega)|(simp [ah] at *; omega)|simp_all
  simp only [aj,fl,gp,ai,simprocAttr,hdt,hdl,aL (show e < (k6 n (bY n (op m n) e)).length by rw [hwll]; exact h.2.2.el),hwl,aL (show rh m n e < r.length by rw [hrl]; exact hol)]
  refine af ?_ (hK _ ?_)<;>clear hK K
  ·have:=h.2.2.el
   have hol2:rh m n e < aZ m n e:=hol
   omega
  refine qd (qa ?_)
  refine ab fun K hK=>aa ae ?_
  simp only [aj,fl,gp,ai,simprocAttr]
  refine af ?_ (hK _ ?_)<;>clear hK K
  ·first|exact trivial|omega|(simp only [ah] at *; omega)|(simp [ah] at *; omega)|simp_all
  refine qa ?_
  refine ⟨i + 1,[0,1,2,4],by omega,by omega,?_⟩
  rw [hdk]
  simp only [leq,bf,aj,fl,gp,ai,simprocAttr]<;>first|trivial|omega|(rw [List.take_of_length_le (by rw [List.length_append]; exact Nat.le_refl _)]; done)|(rw [hdl,List.take_of_length_le (by rw [List.length_append,hdl]; exact Nat.le_refl _)]; done)|skip
 (try simp only [aG] at hC2)
 have hil:i=aZ m n e:=by omega
 have hdl:(qg m n e).length=aZ m n e:=by simp [qg,t3]
 have hdt:(qg m n e).take i=qg m n e:=List.take_of_length_le (by omega)
 refine qj (qc (qc (qf (qa (qm ?_)))))
 refine aT mixed (by kernel_rfl) fun K hK=>aa ae ?_
 simp only [aj,fl,gp,ai,simprocAttr]
 refine af ?_ (hK _ ?_)<;>clear hK K
 ·first|exact trivial|omega|(simp only [ah] at *; omega)|(simp [ah] at *; omega)|simp_all
 refine qa (qk ?_)
 simp only [Tryd.results13,bG,aj,fl,gp,ai,simprocAttr]
 rw [hdt,List.take_of_length_le (show (qg m n e).length≤i by omega)]
 exact ⟨by omega,rfl⟩
theorem Iz (N:Int) (m:List Int) (hm:m.length≤1000000000000000) (hf:¬ (gf N m).1=0):bR Tryd.prog 14 [gp N m] (fl (gf N m)):=by
 refine aI ae Tryd.func14 rfl (by kernel_rfl) (by rw [Tryd.ntmps14]; exact Nat.le_add_left 1 _) ?_; rw [Tryd.ntmps14]
 refine qm ?_
 refine ab fun K hK=>aa ae ?_
 simp only [aj,fl,gp,ai,simprocAttr]
 refine af ?_ (hK _ ?_)<;>clear hK K
 ·first|exact trivial|omega|(simp only [ah] at *; omega)|(simp [ah] at *; omega)|simp_all
 refine qa (qm ?_)
 refine ab fun K hK=>aa ae ?_
 simp only [aj,fl,gp,ai,simprocAttr]
 refine an trivial (ak (It N m hm) rfl rfl rfl (by simp only [au,Nat.reduceLT]) (by repeat (first|exact trivial|constructor)) (aa ae ?_))
 simp only [aj,fl,gp,ai,simprocAttr]
 refine af ?_ (hK _ ?_)<;>clear hK K
 ·first|exact trivial|omega|(simp only [ah] at *; omega)|(simp [ah] at *; omega)|simp_all
 refine qa (qm (qm ?_))
 refine ab fun K hK=>aa ae ?_
 simp only [aj,fl,gp,ai,simprocAttr,decide_eq_false hf]
 refine af ?_ (hK _ ?_)<;>clear hK K
 ·first|exact trivial|omega|(simp only [ah] at *; omega)|(simp [ah] at *; omega)|simp_all
 refine qa ?_
 refine ao rfl (fun hC1=>?_) (fun hC1=>?_)
 ·cases hC1
 refine qh (qa (qm ?_))
 refine ab fun K hK=>aa ae ?_
 simp only [aj,fl,gp,ai,simprocAttr]
 refine af ?_ (hK _ ?_)<;>clear hK K
 ·first|exact trivial|omega|(simp only [ah] at *; omega)|(simp [ah] at *; omega)|simp_all
 refine qa (qk ?_)
 simp only [Tryd.results14,bG,aj,fl,gp,ai,simprocAttr]
 all_goals ((first|exact rfl|exact ⟨rfl,rfl⟩|exact ⟨rfl,rfl,rfl⟩|exact ⟨trivial,rfl⟩|exact ⟨Nat.le_refl _,rfl⟩|trivial|(simp; done)))
theorem IG {n e:Nat} {m:List Int} (h:GT n m n e):bR Tryd.prog 52 [gp n m] (fl (0,0)):=by
 have hb:=h.2.1.big
 have:=It n m (by rw [h.2.1.len]; have:=Nat.mul_le_mul hb hb; omega)
 rwa [qX h] at this
theorem Eb {n e:Nat} {m:List Int} (h:GT n m n e) (hc:24 < aZ m n e):bR Tryd.prog 14 [gp n m] (fl (2,0)):=by
 have hcl:(bA n (bY n (op m n) e)).length=aZ m n e:=rfl
 refine aI ae Tryd.func14 rfl (by kernel_rfl) (by rw [Tryd.ntmps14]; exact Nat.le_add_left 1 _) ?_; rw [Tryd.ntmps14]
 refine qm ?_
 refine ab fun K hK=>aa ae ?_
 simp only [aj,fl,gp,ai,simprocAttr]
 refine af ?_ (hK _ ?_)<;>clear hK K
 ·first|exact trivial|omega|(simp only [ah] at *; omega)|(simp [ah] at *; omega)|simp_all
 refine qa (qm ?_)
 refine ab fun K hK=>aa ae ?_
 simp only [aj,fl,gp,ai,simprocAttr]
 refine an trivial (ak (IG h) rfl rfl rfl (by simp only [au,Nat.reduceLT]) (by repeat (first|exact trivial|constructor)) (aa ae ?_))
 simp only [aj,fl,gp,ai,simprocAttr]
 refine af ?_ (hK _ ?_)<;>clear hK K
 ·first|exact trivial|omega|(simp only [ah] at *; omega)|(simp [ah] at *; omega)|simp_all
 refine qa (qm (qm ?_))
 refine ab fun K hK=>aa ae ?_
 simp only [aj,fl,gp,ai,simprocAttr,aw,hcl]
 refine an trivial (ak (tK h) rfl rfl rfl (by simp only [au,Nat.reduceLT]) (by repeat (first|exact trivial|constructor)) (aa ae ?_))
 simp only [aj,fl,gp,ai,simprocAttr,aw,hcl]
 refine af ?_ (hK _ ?_)<;>clear hK K
 ·first|exact trivial|omega|(simp only [ah] at *; omega)|(simp [ah] at *; omega)|simp_all
 refine qa ?_
 refine ao rfl (fun hC1=>?_) (fun hC1=>?_)
 ·(try simp only [aG] at hC1)
  refine ab fun K hK=>aa ae ?_
  simp only [aj,fl,gp,ai,simprocAttr]
  refine an trivial (ak (Eu 2 0) rfl rfl rfl (by simp only [au,Nat.reduceLT]) (by repeat (first|exact trivial|constructor)) (aa ae ?_))
  simp only [aj,fl,gp,ai,simprocAttr]
  refine af ?_ (hK _ ?_)<;>clear hK K
  ·first|exact trivial|omega|(simp only [ah] at *; omega)|(simp [ah] at *; omega)|simp_all
  refine qa (qm ?_)
  refine ab fun K hK=>aa ae ?_
  simp only [aj,fl,gp,ai,simprocAttr]
  refine af ?_ (hK _ ?_)<;>clear hK K
  ·first|exact trivial|omega|(simp only [ah] at *; omega)|(simp [ah] at *; omega)|simp_all
  refine qa (qk ?_)
  simp only [Tryd.results14,bG,aj,fl,gp,ai,simprocAttr]
  all_goals ((first|exact rfl|exact ⟨rfl,rfl⟩|exact ⟨rfl,rfl,rfl⟩|exact ⟨trivial,rfl⟩|exact ⟨Nat.le_refl _,rfl⟩|trivial|(simp; done)))
 (try simp only [aG] at hC1)
 omega
theorem x9 {α:Type} {R:α→α→Prop} (anti:∀ a b,R a b→R b a→a=b):∀ (xs ys:List α),xs.Perm ys→xs.Pairwise R→ys.Pairwise R→xs=ys
 | [],ys,h,_,_=>h.symm.eq_nil.symm
 | x :: r,[],h,_,_=>h.eq_nil
 | x :: r,y :: s,h,h1,h2=>by
  have hxy:x=y:=by
   have m1:x∈y :: s:=h.mem_iff.1 (by simp)
   have m2:y∈x :: r:=h.mem_iff.2 (by simp)
   rcases List.mem_cons.1 m1 with h3 | h3
   ·exact h3
   rcases List.mem_cons.1 m2 with h4 | h4
   ·exact h4.symm
   exact anti _ _ ((List.pairwise_cons.1 h1).1 y h4) ((List.pairwise_cons.1 h2).1 x h3)
  subst hxy
  rw [x9 anti r s (List.Perm.cons_inv h) (List.pairwise_cons.1 h1).2 (List.pairwise_cons.1 h2).2]
theorem yu {xs ys:List (List Int)} (h:xs.Perm ys) (hs:ys.Pairwise fun v w=>¬ dM w v < 0):ys=zD xs:=
 x9 (fun a b h1 h2=>lu _ _ h2 h1) _ _ (h.symm.trans (mX xs)) hs (nG xs)
theorem CF:∀ e,e < 8→op xM 8 e 0=0→e=0:=by decide +kernel
theorem zU:(dN xM 8 0).map (n9 (aK xM 8 0) 8 (rh xM 8 0) (aZ xM 8 0) (kO xM 8 0) (c9 xM 8 0))=[[2,2,0,15,0,0],[1,1,1,1,1,1],[1,1,1,1,16,16],[1,1,16,1,1,16],[1,1,16,1,16,1]]:=by decide +kernel
theorem Il:aZ xM 8 0=5:=by decide +kernel
theorem II:rh xM 8 0=0:=by decide +kernel
theorem FF:qg xM 8 0=[1,1,1,1,2]:=by
 have h:=yu (xs:=[[2,2,0,15,0,0],[1,1,1,1,1,1],[1,1,1,1,16,16],[1,1,16,1,1,16],[1,1,16,1,16,1]]) (ys:=[[1,1,1,1,1,1],[1,1,1,1,16,16],[1,1,16,1,1,16],[1,1,16,1,16,1],[2,2,0,15,0,0]]) (by decide +kernel) (by decide +kernel)
 unfold qg nX zb
 rw [zU,← h,II]
 rfl
theorem jF:bR Tryd.prog 15 [] (.bool true):=by
 obtain ⟨e,h⟩:=GP
 have he:e=0:=CF e h.2.2.el (h.2.2.one_l 0 (by omega))
 subst he
 have hd:=qV h (by rw [Il]; omega)
 rw [FF] at hd
 refine aI ae Tryd.func15 rfl (by kernel_rfl) (by rw [Tryd.ntmps15]; exact Nat.le_add_left 0 _) ?_; rw [Tryd.ntmps15]
 refine qm ?_
 refine ab fun K hK=>aa ae ?_
 simp only [aj,fl,gp,ai,simprocAttr]
 refine af trivial (hK _ ?_)<;>clear hK K
 refine qa (qm ?_)
 refine ab fun K hK=>aa ae ?_
 simp only [aj,fl,gp,ai,simprocAttr]
 refine an trivial (ak (BV) rfl rfl rfl (by simp only [au,Nat.reduceLT]) (by repeat (first|exact trivial|constructor)) (aa ae ?_))
 simp only [aj,fl,gp,ai,simprocAttr]
 refine an trivial (ak (hd) rfl rfl rfl (by simp only [au,Nat.reduceLT]) (by repeat (first|exact trivial|constructor)) (aa ae ?_))
 simp only [aj,fl,gp,ai,simprocAttr]
 refine af ?_ (hK _ ?_)<;>clear hK K
 ·first|exact trivial|omega|(simp only [ah] at *; omega)|(simp [ah] at *; omega)|simp_all
 refine qa (qm ?_)
 refine ab fun K hK=>aa ae ?_
 simp only [aj,fl,gp,ai,simprocAttr]
 refine an trivial (ak (bR.sub (args':=[.list (il [1,1,1,1,2]),.nn (il [1,1,1,1,2])]) (Hk [1,1,1,1,2] [1,1,1,1,2] (by decide)) (And.intro (.same _) (And.intro (.nn _) trivial))) rfl rfl rfl (by simp only [au,Nat.reduceLT]) (by repeat (first|exact trivial|constructor)) (aa ae ?_))
 simp only [aj,fl,gp,ai,simprocAttr]
 refine af ?_ (hK _ ?_)<;>clear hK K
 ·first|exact trivial|omega|(simp only [ah] at *; omega)|(simp [ah] at *; omega)|simp_all
 refine qa (qk ?_)
 simp only [Tryd.results15,bG,aj,fl,gp,ai,simprocAttr]
 all_goals ((first|exact rfl|exact ⟨rfl,rfl⟩|exact ⟨rfl,rfl,rfl⟩|exact ⟨trivial,rfl⟩|exact ⟨Nat.le_refl _,rfl⟩|trivial|(simp; done)))
end Go.Proofs.YtjlmpmidchddjaaDoor
namespace Go.Proofs.YtjlmpmidchddjaaDoor
open Go.Pv
open Lean.Grind
attribute [local instance] Lean.Grind.Semiring.natCast Lean.Grind.Ring.intCast
section
variable {K:Type} [CommRing K] {p:Nat}
theorem J7 (R:Rp K p) {x y:Int} (hx:0≤x∧x < p) (hy:0≤y∧y < p) (h:(x:K)=(y:K)):x=y:=by
 have h1:(((x - y):Int):K)=0:=by rw [Ring.intCast_sub,h]; grind
 rw [R.ker] at h1
 obtain ⟨k,hk⟩:=Int.dvd_of_emod_eq_zero h1
 have:k=0:=by
  refine Int.le_antisymm (Int.le_of_not_gt fun h=>?_) (Int.le_of_not_gt fun h=>?_)
  ·have:(p:Int) * 1≤(p:Int) * k:=Int.mul_le_mul_of_nonneg_left (by omega) (by omega)
   omega
  have:(p:Int) * k≤(p:Int) * (-1):=Int.mul_le_mul_of_nonneg_left (by omega) (by omega)
  omega
 subst this
 omega
end
end Go.Proofs.YtjlmpmidchddjaaDoor
namespace Go.Proofs.YtjlmpmidchddjaaDoor
open Lean.Grind
attribute [local instance] Lean.Grind.Semiring.natCast Lean.Grind.Ring.intCast
section
variable {n e c:Nat} {f:Nat→Nat→Nat} {cI xx:Nat→Nat} {K:Type} [CommRing K]
theorem GC.Kj (h:GC n f e c cI xx) {t:Nat→K} (ht:k9 n f e cI t):k9 n f e cI (fun a=>t (iv n f e a)):=by
 have G:=h.G
 refine ⟨fun a b ha hb hab=>ht.cl _ _ (G.az ha) (G.az hb) ((h.I9 ha hb).1 hab),by show t (iv n f e e)=1; rw [G.eJ]; exact ht.one,fun a b ha hb=>?_⟩
 rw [← ht.mul _ _ (G.az ha) (G.az hb)]
 refine al fun y hy=>?_
 have hj:=G.az hy
 have e1:iv n f e (f (cM n f e y a) b)=f (iv n f e b) (cM n f e y (iv n f e a)):=by
  rw [G.cr (h.mf hy ha) hb]
  congr 1
  unfold cM
  rw [G.cr (G.cl _ _ hj ha) hy,G.cr hj ha,G.cO hy,G.assoc _ _ _ hj (G.az ha) hy]
 show t (iv n f e (f (cM n f e y a) b))=t (f (cM n f e y (iv n f e a)) (iv n f e b))
 rw [e1,h.zr ht.cl (G.az hb) (h.mf hy (G.az ha))]
theorem GC.real (h:GC n f e c cI xx) (F:nt K) (hn:(n:K) ≠ 0) {t:Nat→K} (ht:k9 n f e cI t):(∀ a,a < n→t a=t (iv n f e a))∨bT n f e t (fun a=>t (iv n f e a)) e=0:=by
 by_cases hr:∀ a,a < n→t a=t (iv n f e a)
 ·exact .inl hr
 refine .inr ?_
 have:∃ a,a < n∧t a ≠ t (iv n f e a):=Classical.byContradiction fun hc=>hr fun a ha=>Classical.byContradiction fun hc2=>hc ⟨a,ha,hc2⟩
 obtain ⟨a,ha,hne⟩:=this
 exact h.yM F hn ht (h.Kj ht) ha hne h.G.el
end
section
variable {n e:Nat} {m:List Int}
variable [NeZero (aK m n e)]
end
end Go.Proofs.YtjlmpmidchddjaaDoor
namespace Go.Proofs.YtjlmpmidchddjaaDoor
open Go.Pv
open Lean.Grind
attribute [local instance] Lean.Grind.Semiring.natCast Lean.Grind.Ring.intCast
section
variable {K:Type} [CommRing K]
end
end Go.Proofs.YtjlmpmidchddjaaDoor
namespace Go.Proofs.YtjlmpmidchddjaaDoor
open Lean.Grind
attribute [local instance] Lean.Grind.Semiring.natCast Lean.Grind.Ring.intCast
section
variable {n e c:Nat} {f:Nat→Nat→Nat} {cI xx:Nat→Nat} {K:Type} [CommRing K] {p:Nat}
def ij (n:Nat) (a:Nat→K):Prop:=∀ x,n≤x→a x=0
def dl (K:Type) [CommRing K] (g x:Nat):K:=if x=g then 1 else 0
def cv (n:Nat) (f:Nat→Nat→Nat) (e:Nat) (a b:Nat→K) (x:Nat):K:=if x < n then sm (fun y=>a y * b (f (iv n f e y) x)) n else 0
theorem ij.ext {a b:Nat→K} (ha:ij n a) (hb:ij n b) (h:∀ x,x < n→a x=b x):a=b:=by
 funext x
 by_cases hx:x < n
 ·exact h x hx
 rw [ha x (by omega),hb x (by omega)]
theorem ij.zero:ij n (fun _=>(0:K)):=fun _ _=>rfl
theorem ij.add {a b:Nat→K} (ha:ij n a) (hb:ij n b):ij n fun x=>a x + b x:=fun x hx=>by simp only [ha x hx,hb x hx]; grind
theorem ij.smul {a:Nat→K} (k:K) (ha:ij n a):ij n fun x=>k * a x:=fun x hx=>by simp only [ha x hx]; grind
theorem vP {g:Nat} (hg:g < n):ij n (dl K g):=fun x hx=>if_neg (by omega)
theorem db (a b:Nat→K):ij n (cv n f e a b):=fun x hx=>if_neg (by omega)
theorem dF (a b:Nat→K) {x:Nat} (hx:x < n):cv n f e a b x=sm (fun y=>a y * b (f (iv n f e y) x)) n:=if_pos hx
theorem cW (h:GC n f e c cI xx) {a a' b b' : Nat→K} (ha:∀ x,x < n→a x=a' x) (hb:∀ x,x < n→b x=b' x):cv n f e a b=cv n f e a' b':=
 (db a b).ext (db a' b') fun x hx=>by
  rw [dF _ _ hx,dF _ _ hx]
  exact al fun y hy=>by rw [ha y hy,hb _ (h.G.cl _ _ (h.G.az hy) hx)]
theorem fN (a a' b:Nat→K):cv n f e (fun x=>a x + a' x) b=fun x=>cv n f e a b x + cv n f e a' b x:=by
 funext x
 unfold cv
 by_cases hx:x < n
 ·simp only [if_pos hx]
  rw [← kB]; exact al fun y _=>by grind
 simp only [if_neg hx]; grind
theorem ej (a b b' : Nat→K):cv n f e a (fun x=>b x + b' x)=fun x=>cv n f e a b x + cv n f e a b' x:=by
 funext x
 unfold cv
 by_cases hx:x < n
 ·simp only [if_pos hx]
  rw [← kB]; exact al fun y _=>by grind
 simp only [if_neg hx]; grind
theorem bH (k:K) (a b:Nat→K):cv n f e (fun x=>k * a x) b=fun x=>k * cv n f e a b x:=by
 funext x
 unfold cv
 by_cases hx:x < n
 ·simp only [if_pos hx]
  rw [← aN]; exact al fun y _=>by grind
 simp only [if_neg hx]; grind
theorem bb (k:K) (a b:Nat→K):cv n f e a (fun x=>k * b x)=fun x=>k * cv n f e a b x:=by
 funext x
 unfold cv
 by_cases hx:x < n
 ·simp only [if_pos hx]
  rw [← aN]; exact al fun y _=>by grind
 simp only [if_neg hx]; grind
theorem q8 (b:Nat→K):cv n f e (fun _=>0) b=fun _=>0:=by
 have:=bH (n:=n) (f:=f) (e:=e) (0:K) (fun _=>0) b
 have e1:(fun _:Nat=>(0:K) * 0)=fun _=>0:=by funext x; grind
 rw [e1] at this
 rw [this]; funext x; grind
theorem pB (b:Nat→K):cv n f e b (fun _=>0)=fun _=>0:=by
 have:=bb (n:=n) (f:=f) (e:=e) (0:K) b (fun _=>0)
 have e1:(fun _:Nat=>(0:K) * 0)=fun _=>0:=by funext x; grind
 rw [e1] at this
 rw [this]; funext x; grind
theorem BU (F:Nat→Nat→K) (b:Nat→K) (m:Nat):cv n f e (fun x=>sm (fun g=>F g x) m) b=fun x=>sm (fun g=>cv n f e (F g) b x) m:=by
 induction m with
 | zero=>exact q8 b
 | succ m ih =>
  show cv n f e (fun x=>(fun x=>sm (fun g=>F g x) m) x + F m x) b=_
  rw [fN,ih]; rfl
theorem rC (F:Nat→Nat→K) (b:Nat→K) (m:Nat):cv n f e b (fun x=>sm (fun g=>F g x) m)=fun x=>sm (fun g=>cv n f e b (F g) x) m:=by
 induction m with
 | zero=>exact pB b
 | succ m ih =>
  show cv n f e b (fun x=>(fun x=>sm (fun g=>F g x) m) x + F m x)=_
  rw [ej,ih]; rfl
theorem GC.gR (h:GC n f e c cI xx) (a b d:Nat→K):cv n f e (cv n f e a b) d=cv n f e a (cv n f e b d):=by
 have G:=h.G
 refine (db _ _).ext (db _ _) fun x hx=>?_
 rw [dF _ _ hx,dF _ _ hx]
 have e1:∀ y,y < n→cv n f e a b y * d (f (iv n f e y) x)=sm (fun z=>a z * b (f (iv n f e z) y) * d (f (iv n f e y) x)) n:=fun y hy=>by
  rw [dF _ _ hy,← bU]
 rw [al e1,aX]
 refine al fun z hz=>?_
 have hzx:=G.cl _ _ (G.az hz) hx
 rw [dF _ _ hzx,← aN,← h.fu hz fun y=>a z * b (f (iv n f e z) y) * d (f (iv n f e y) x)]
 refine al fun w hw=>?_
 rw [h.By hz hw,G.cr hz hw,G.assoc _ _ _ (G.az hw) (G.az hz) hx]
 grind
theorem GC.tX (h:GC n f e c cI xx) (a:Nat→K) {g x:Nat} (hg:g < n) (hx:x < n):cv n f e (dl K g) a x=a (f (iv n f e g) x):=by
 rw [dF _ _ hx,bj hg fun y _ hne=>by unfold dl; rw [if_neg hne]; grind]
 unfold dl; rw [if_pos rfl]; grind
theorem GC.Ek (h:GC n f e c cI xx) (a:Nat→K) {g x:Nat} (hg:g < n) (hx:x < n):cv n f e a (dl K g) x=a (f x (iv n f e g)):=by
 have G:=h.G
 have hm:=G.cl _ _ hx (G.az hg)
 rw [dF _ _ hx,bj hm fun y hy hne=>?_]
 ·have:f (iv n f e (f x (iv n f e g))) x=g:=by
   rw [G.cr hx (G.az hg),G.cO hg,G.assoc _ _ _ hg (G.az hx) hx,G.cV hx,G.one_r _ hg]
  unfold dl; rw [this,if_pos rfl]; grind
 unfold dl
 rw [if_neg fun he=>hne ?_]
 ·grind
 have h1:=h.nY hy hx
 rw [he] at h1
 rw [← h1,h.F7 hg hy]
theorem GC.Jz (h:GC n f e c cI xx) {a:Nat→K} (ha:ij n a):cv n f e (dl K e) a=a:=
 (db _ _).ext ha fun x hx=>by rw [h.tX a h.G.el hx,h.G.eJ,h.G.one_l x hx]
theorem GC.Ib (h:GC n f e c cI xx) {a:Nat→K} (ha:ij n a):cv n f e a (dl K e)=a:=
 (db _ _).ext ha fun x hx=>by rw [h.Ek a h.G.el hx,h.G.eJ,h.G.one_r x hx]
theorem GC.Jd (h:GC n f e c cI xx) (a b:Nat→K):cv n f e a b e=cv n f e b a e:=by
 have G:=h.G
 rw [dF _ _ G.el,dF _ _ G.el,← h.BN fun y=>a y * b (f (iv n f e y) e)]
 exact al fun y hy=>by rw [G.cO hy,G.one_r y hy,G.one_r _ (G.az hy)]; grind
theorem GC.Ju (h:GC n f e c cI xx) {T:Nat→K} (hT:oY n cI T) (a:Nat→K):cv n f e T a=cv n f e a T:=by
 have G:=h.G
 refine (db _ _).ext (db _ _) fun x hx=>?_
 rw [dF _ _ hx,dF _ _ hx,← h.fu hx fun y=>T y * a (f (iv n f e y) x),← h.BN fun y=>T (f x y) * a (f (iv n f e (f x y)) x)]
 refine al fun w hw=>?_
 have hi:=G.az hw
 have e1:f (iv n f e (f x (iv n f e w))) x=w:=by
  rw [G.cr hx hi,G.cO hw,G.assoc _ _ _ hw (G.az hx) hx,G.cV hx,G.one_r _ hw]
 rw [e1,h.zr hT hx hi]; grind
def pc (n:Nat) (f:Nat→Nat→Nat) (e:Nat) (u:Nat→K):Nat→Nat→K
 | 0=>dl K e
 | k + 1=>cv n f e u (pc n f e u k)
theorem GC.BW (h:GC n f e c cI xx) (u:Nat→K):∀ k,ij n (pc n f e u k)
 | 0=>vP h.G.el
 | k + 1=>db _ _
theorem GC.kJ (h:GC n f e c cI xx) (u:Nat→K) (j:Nat):∀ i,pc n f e u (i + j)=cv n f e (pc n f e u i) (pc n f e u j)
 | 0=>by rw [Nat.zero_add]; exact (h.Jz (h.BW u j)).symm
 | i + 1=>by
  rw [show i + 1 + j=(i + j) + 1 by omega]
  show cv n f e u (pc n f e u (i + j))=cv n f e (cv n f e u (pc n f e u i)) _
  rw [h.kJ u j i,h.gR]
def u9 (u:Nat→K):List Nat→K
 | []=>1
 | y :: w=>u y * u9 u w
theorem DQ (u:Nat→K) (w w' : List Nat):u9 u (w++w')=u9 u w * u9 u w':=by
 induction w with
 | nil=>show _=1 * _; rw [List.nil_append]; grind
 | cons y w ih=>show u y * u9 u (w++w')=u y * u9 u w * _; rw [ih]; grind
theorem wP (u:Nat→K) (x:Nat):∀ k,u9 u (List.replicate k x)=u x ^ k
 | 0=>by rw [Semiring.pow_zero]; rfl
 | k + 1=>by
  rw [List.replicate_succ,Semiring.pow_succ]
  show u x * u9 u (List.replicate k x)=_
  rw [wP u x k]; grind
theorem GC.uM (h:GC n f e c cI xx) (u:Nat→K):∀ k x,x < n→pc n f e u k x=sW (List.range n) k fun w=>u9 u w * if k7 f w e=x then 1 else 0
 | 0,x,hx=>by
  show dl K e x=u9 u [] * if e=x then 1 else 0
  unfold dl u9
  by_cases hxe:x=e
  ·rw [if_pos hxe,if_pos hxe.symm]; grind
  rw [if_neg hxe,if_neg (fun h=>hxe h.symm)]; grind
 | k + 1,x,hx=>by
  have G:=h.G
  show cv n f e u (pc n f e u k) x=sl (List.range n) _
  rw [dF _ _ hx,cm]
  refine al fun y hy=>?_
  rw [h.uM u k _ (G.cl _ _ (G.az hy) hx),← p6]
  refine eo fun w _ hw=>?_
  have hwn:=h.Hs (fun z hz=>List.mem_range.1 (hw z hz)) G.el
  show _=u y * u9 u w * if f y (k7 f w e)=x then 1 else 0
  by_cases hq:k7 f w e=f (iv n f e y) x
  ·rw [if_pos hq,if_pos (by rw [hq,h.nY hy hx])]; grind
  rw [if_neg hq,if_neg fun hh=>hq (by rw [← hh,h.By hy hwn])]; grind
theorem GC.Jk (h:GC n f e c cI xx) (R:Rp K p) (hcz:∀ a:Nat,0 < a→a < p→(a:K) ≠ 0) (hpw:∀ a,a < n→pw f e a p=a) (hfr:∀ a:K,a ^ p=a) (u:Nat→K):pc n f e u p e=u e:=by
 have G:=h.G
 let F:List Nat→K:=fun w=>if ∀ y∈w,y < n then u9 u w * (if k7 f w e=e then 1 else 0) else 0
 have hF:∀ w,F (jD w)=F w:=fun w=>by
  cases w with
  | nil=>rfl
  | cons y w =>
   simp only [F,jD]
   by_cases hw:∀ z∈y :: w,z < n
   ·have hw2:∀ z∈w++[y],z < n:=fun z hz=>hw z (by
     rcases List.mem_append.1 hz with hz | hz
     ·simp [hz]
     simp [List.mem_singleton.1 hz])
    rw [if_pos hw,if_pos hw2,ox,DQ]
    have hy:=hw y (by simp)
    have hw3:∀ z∈w,z < n:=fun z hz=>hw z (by simp [hz])
    have e1:k7 f [y] e=y:=G.one_r y hy
    have e2:u9 u [y]=u y:=by show u y * 1=_; grind
    have e3:u9 u (y :: w)=u y * u9 u w:=rfl
    have e4:k7 f (y :: w) e=f y (k7 f w e):=rfl
    rw [e1,e2,e3,e4,h.Hr hw3 hy]
    have hl:=h.Hs hw3 G.el
    by_cases hq:f (k7 f w e) y=e
    ·have:f y (k7 f w e)=e:=by
      have h1:=G.ef hy hl (.inr hq)
      rw [h1,G.cR hy]
     rw [if_pos hq,if_pos this]; grind
    have:¬ f y (k7 f w e)=e:=fun hh=>hq (by
     have h1:=G.ef hy hl (.inl hh)
     rw [h1,G.cV hy])
    rw [if_neg hq,if_neg this]; grind
   have hw2:¬ ∀ z∈w++[y],z < n:=fun hh=>hw fun z hz=>hh z (by
    rcases List.mem_cons.1 hz with hz | hz
    ·simp [hz]
    simp [hz])
   rw [if_neg hw,if_neg hw2]
 have e1:pc n f e u p e=sW (List.range n) p F:=by
  rw [h.uM u p e G.el]
  refine eo fun w _ hw=>?_
  simp only [F]
  rw [if_pos fun y hy=>List.mem_range.1 (hw y hy)]
 rw [e1,rV R.fld (by have:=R.two; omega) R.ch hcz (List.nodup_range) hF,cm,bj (i:=e) G.el fun g hg hne=>?_]
 ·simp only [F]
  rw [if_pos fun y hy=>by rw [List.eq_of_mem_replicate hy]; exact G.el,h.IY G.el,hpw e G.el,if_pos rfl,wP,hfr]; grind
 simp only [F]
 rw [if_pos fun y hy=>by rw [List.eq_of_mem_replicate hy]; exact hg,h.IY hg,hpw g hg,if_neg hne]; grind
end
end Go.Proofs.YtjlmpmidchddjaaDoor
namespace Go.Proofs.YtjlmpmidchddjaaDoor
open Lean.Grind
attribute [local instance] Lean.Grind.Semiring.natCast Lean.Grind.Ring.intCast
section
variable {n:Nat} {K:Type} [CommRing K] {p:Nat}
theorem D0 {w:Nat→K} (hs:ij n w) (k:Nat):w k=sm (fun i=>w i * if k=i then 1 else 0) n:=by
 by_cases hk:k < n
 ·rw [bj hk fun i _ hne=>by rw [if_neg (fun e=>hne e.symm)]; grind,if_pos rfl]; grind
 rw [hs k (by omega)]
 exact (aW fun i hi=>by rw [if_neg (by omega)]; grind).symm
theorem Ba (F:nt K) {P:(Nat→K)→Prop} (hP:iE P) (hn:∀ v,P v→ij n v):∀ d q (y:Nat→Nat→K),jd y q→(∀ j,j < q→P (y j))→n - q=d→q≤n →
  ∃ q y,q≤n∧jd y q∧(∀ j,j < q→P (y j))∧∀ v,P v→∃ C:Nat→K,∀ k,v k=sm (fun i=>C i * y i k) q:=by
 intro d
 induction d with
 | zero =>
  intro q y hy hp hd hqn
  refine Classical.byContradiction fun hno=>?_
  have h1:¬ ∀ v,P v→∃ C:Nat→K,∀ k,v k=sm (fun i=>C i * y i k) q:=fun hh=>hno ⟨q,y,hqn,hy,hp,hh⟩
  obtain ⟨v,hv⟩:=Classical.not_forall.1 h1
  obtain ⟨hv1,hv2⟩:=Classical.not_imp.1 hv
  have hy2:jd (fun j=>if j=q then v else y j) (q + 1):=fun x hx=>by
   have e0:∀ k,sm (fun j=>x j * y j k) q + x q * v k=0:=fun k=>by
    have:=hx k
    rw [sm] at this
    simp only [if_pos] at this
    rw [← this]
    congr 1
    exact al fun j hj=>by rw [if_neg (by omega)]
   have h0:x q=0:=Classical.byContradiction fun hc=>by
    obtain ⟨b,hb⟩:=F.1 _ hc
    refine hv2 ⟨fun j=>-b * x j,fun k=>?_⟩
    have e1:sm (fun i=>-b * x i * y i k) q = -b * sm (fun j=>x j * y j k) q:=by rw [← aN]; exact al fun i _=>by grind
    rw [e1]
    have:=e0 k
    grind
   intro j hj
   by_cases hjq:j=q
   ·rw [hjq]; exact h0
   exact hy x (fun k=>by have:=e0 k; rw [h0] at this; grind) j (by omega)
  have:=sN F hy2 (z:=fun i j=>if j=i then 1 else 0) (r:=n) fun j hj=>⟨(fun j=>if j=q then v else y j) j,D0 (by
    by_cases hjq:j=q
    ·simp only [if_pos hjq]; exact hn _ hv1
    simp only [if_neg hjq]; exact hn _ (hp j (by omega)))⟩
  omega
 | succ d ih =>
  intro q y hy hp hd hqn
  refine Classical.byContradiction fun hno=>?_
  have h1:¬ ∀ v,P v→∃ C:Nat→K,∀ k,v k=sm (fun i=>C i * y i k) q:=fun hh=>hno ⟨q,y,hqn,hy,hp,hh⟩
  obtain ⟨v,hv⟩:=Classical.not_forall.1 h1
  obtain ⟨hv1,hv2⟩:=Classical.not_imp.1 hv
  have hy2:jd (fun j=>if j=q then v else y j) (q + 1):=fun x hx=>by
   have e0:∀ k,sm (fun j=>x j * y j k) q + x q * v k=0:=fun k=>by
    have:=hx k
    rw [sm] at this
    simp only [if_pos] at this
    rw [← this]
    congr 1
    exact al fun j hj=>by rw [if_neg (by omega)]
   have h0:x q=0:=Classical.byContradiction fun hc=>by
    obtain ⟨b,hb⟩:=F.1 _ hc
    refine hv2 ⟨fun j=>-b * x j,fun k=>?_⟩
    have e1:sm (fun i=>-b * x i * y i k) q = -b * sm (fun j=>x j * y j k) q:=by rw [← aN]; exact al fun i _=>by grind
    rw [e1]
    have:=e0 k
    grind
   intro j hj
   by_cases hjq:j=q
   ·rw [hjq]; exact h0
   exact hy x (fun k=>by have:=e0 k; rw [h0] at this; grind) j (by omega)
  exact hno (ih (q + 1) _ hy2 (fun j hj=>by
   by_cases hjq:j=q
   ·simp only [if_pos hjq]; exact hv1
   simp only [if_neg hjq]; exact hp j (by omega)) (by omega) (by omega))
theorem JM (F:nt K) {P:(Nat→K)→Prop} (hP:iE P) (hn:∀ v,P v→ij n v) :
  ∃ q y,q≤n∧jd y q∧(∀ j,j < q→P (y j))∧∀ v,P v→∃ C:Nat→K,∀ k,v k=sm (fun i=>C i * y i k) q:=
 Ba F hP hn n 0 (fun _ _=>0) (fun x hx j hj=>absurd hj (Nat.not_lt_zero _)) (fun j hj=>absurd hj (Nat.not_lt_zero _)) (by omega) (Nat.zero_le _)
theorem jd.JT {y:Nat→Nat→K} {q:Nat} (h:jd y q) {C C' : Nat→K} (he:∀ k,sm (fun i=>C i * y i k) q=sm (fun i=>C' i * y i k) q):∀ i,i < q→C i=C' i:=fun i hi=>by
 have:=h (fun i=>C i - C' i) (fun k=>by
  have e1:sm (fun j=>(C j - C' j) * y j k) q=sm (fun i=>C i * y i k) q - sm (fun i=>C' i * y i k) q:=by rw [← kQ]; exact al fun j _=>by grind
  rw [e1,he]; grind) i hi
 grind
theorem iE.JP {P:(Nat→K)→Prop} (hP:iE P) (C:Nat→K) (y:Nat→Nat→K):∀ q,(∀ j,j < q→P (y j))→P fun k=>sm (fun i=>C i * y i k) q
 | 0,_=>hP.zero
 | q + 1,h=>by
  show P fun k=>(fun k=>sm (fun i=>C i * y i k) q) k + (fun k=>C q * y q k) k
  exact hP.add _ _ (hP.JP C y q fun j hj=>h j (by omega)) (hP.smul _ _ (h q (by omega)))
def zq (p m i:Nat):Nat:=m / p ^ i % p
theorem AH (hp:0 < p) (m i:Nat):zq p m i < p:=Nat.mod_lt _ hp
theorem oR (m i:Nat):zq p m (i + 1)=zq p (m / p) i:=by
 unfold zq
 rw [Nat.div_div_eq_div_mul,Nat.pow_succ,Nat.mul_comm]
theorem xJ (hp:0 < p):∀ q m m',m < p ^ q→m' < p ^ q→(∀ i,i < q→zq p m i=zq p m' i)→m=m'
 | 0,m,m',h1,h2,_=>by rw [Nat.pow_zero] at h1 h2; omega
 | q + 1,m,m',h1,h2,h=>by
  have h3:=h 0 (by omega)
  unfold zq at h3
  rw [Nat.pow_zero,Nat.div_one,Nat.div_one] at h3
  have h4:=xJ hp q (m / p) (m' / p) (by rw [Nat.pow_succ] at h1; exact (Nat.div_lt_iff_lt_mul hp).2 h1) (by rw [Nat.pow_succ] at h2; exact (Nat.div_lt_iff_lt_mul hp).2 h2) fun i hi=>by
   rw [← oR,← oR]; exact h (i + 1) (by omega)
  rw [← Nat.div_add_mod m p,← Nat.div_add_mod m' p,h3,h4]
theorem wD (hp:0 < p):∀ q (C:Nat→Nat),(∀ i,C i < p)→∃ m,m < p ^ q∧∀ i,i < q→zq p m i=C i
 | 0,C,_=>⟨0,by rw [Nat.pow_zero]; omega,fun i hi=>absurd hi (Nat.not_lt_zero _)⟩
 | q + 1,C,h=>by
  obtain ⟨m,h1,h2⟩:=wD hp q (fun i=>C (i + 1)) fun i=>h _
  refine ⟨C 0 + p * m,?_,fun i hi=>?_⟩
  ·have h3:p * (m + 1)≤p * p ^ q:=Nat.mul_le_mul_left p h1
   have h4:=h 0
   rw [Nat.mul_add] at h3
   rw [Nat.pow_succ,Nat.mul_comm (p ^ q)]
   omega
  cases i with
  | zero =>
   unfold zq
   rw [Nat.pow_zero,Nat.div_one,Nat.add_mul_mod_self_left,Nat.mod_eq_of_lt (h 0)]
  | succ i =>
   rw [oR,Nat.add_mul_div_left _ _ hp,Nat.div_eq_of_lt (h 0),Nat.zero_add]
   exact h2 i (by omega)
theorem enum (R:Rp K p) (hsur:∀ a:K,∃ x:Nat,x < p∧(x:K)=a) {P:(Nat→K)→Prop} (hP:iE P) (hn:∀ v,P v→ij n v) :
  ∃ (q:Nat) (E:Nat→Nat→K),q≤n∧(∀ m,P (E m))∧(∀ m m',m < p ^ q→m' < p ^ q→E m=E m'→m=m')∧(∀ v,P v→∃ m,m < p ^ q∧E m=v)∧E 0=fun _=>0:=by
 have hp:0 < p:=by have:=R.two; omega
 obtain ⟨q,y,h1,h2,h3,h4⟩:=JM R.fld hP hn
 refine ⟨q,fun m k=>sm (fun i=>((zq p m i:Nat):K) * y i k) q,h1,fun m=>hP.JP _ y q h3,fun m m' hm hm' he=>?_,fun v hv=>?_,?_⟩
 ·refine xJ hp q m m' hm hm' fun i hi=>?_
  have h5:=h2.JT (fun k=>congrFun he k) i hi
  refine Classical.byContradiction fun hne=>R.ne (AH hp m i) (AH hp m' i) hne ?_
  rw [h5]; grind
 ·obtain ⟨C,hC⟩:=h4 v hv
  obtain ⟨c,hc⟩:=Classical.axiomOfChoice fun i=>hsur (C i)
  obtain ⟨m,m1,m2⟩:=wD hp q c fun i=>(hc i).1
  refine ⟨m,m1,funext fun k=>?_⟩
  rw [hC k]
  exact al fun i hi=>by rw [m2 i hi,(hc i).2]
 funext k
 refine aW fun i _=>?_
 have:zq p 0 i=0:=by unfold zq; rw [Nat.zero_div,Nat.zero_mod]
 rw [this]; grind
theorem Kl (F:nt K) {A:(Nat→K)→Nat→K} (hA:BR A) (hid:∀ u,ij n u→A (A u)=A u) (hs:∀ u,ij n (A u)) :
  ∃ v,v≤n∧sm (fun x=>A (dl K x) x) n=(v:K)∧(v=0→∀ u,ij n u→A u=fun _=>0):=by
 have hP:iE fun u=>ij n u∧A u=u:=⟨⟨ij.zero,hA.zero⟩,fun a b ha hb=>⟨ha.1.add hb.1,by rw [hA.1,ha.2,hb.2]⟩,fun k a ha=>⟨ha.1.smul k,by rw [hA.2,ha.2]⟩⟩
 obtain ⟨q,y,h1,h2,h3,h4⟩:=JM F hP fun v hv=>hv.1
 have h5:∀ u,∃ C:Nat→K,ij n u→∀ k,A u k=sm (fun i=>C i * y i k) q:=fun u=>by
  by_cases hu:ij n u
  ·obtain ⟨C,hC⟩:=h4 (A u) ⟨hs u,hid u hu⟩
   exact ⟨C,fun _=>hC⟩
  exact ⟨fun _=>0,fun h=>absurd h hu⟩
 obtain ⟨φ,hφ⟩:=Classical.axiomOfChoice h5
 refine ⟨q,h1,?_,fun h0 u hu=>?_⟩
 ·have e1:sm (fun x=>A (dl K x) x) n=sm (fun i=>sm (fun x=>φ (dl K x) i * y i x) n) q:=by
   rw [← aX]
   exact al fun x hx=>hφ _ (vP hx) x
  rw [e1]
  have e2:∀ i,i < q→sm (fun x=>φ (dl K x) i * y i x) n=1:=fun i hi=>by
   have e3:y i=fun k=>sm (fun x=>y i x * dl K x k) n:=by
    funext k
    by_cases hk:k < n
    ·rw [bj hk fun x _ hne=>by unfold dl; rw [if_neg (fun e=>hne e.symm)]; grind]
     unfold dl; rw [if_pos rfl]; grind
    rw [(h3 i hi).1 k (by omega)]
    exact (aW fun x hx=>by unfold dl; rw [if_neg (by omega)]; grind).symm
   have e4:∀ k,sm (fun j=>(if j=i then (1:K) else 0) * y j k) q=sm (fun j=>sm (fun x=>φ (dl K x) j * y i x) n * y j k) q:=fun k=>by
    rw [bj hi fun j _ hne=>by rw [if_neg hne]; grind,if_pos rfl]
    have e5:y i k=A (y i) k:=by rw [(h3 i hi).2]
    have e6:A (y i)=fun k=>sm (fun x=>y i x * A (dl K x) k) n:=by
     rw [← hA.sm,← e3]
    have e7:sm (fun x=>y i x * A (dl K x) k) n=sm (fun x=>sm (fun j=>φ (dl K x) j * y i x * y j k) q) n:=al fun x hx=>by
     rw [hφ _ (vP hx) k,← aN]; exact al fun j _=>by grind
    have e8:sm (fun j=>sm (fun x=>φ (dl K x) j * y i x) n * y j k) q=sm (fun j=>sm (fun x=>φ (dl K x) j * y i x * y j k) n) q:=al fun j _=>by rw [← bU]
    rw [e5,e6,e8,← aX,← e7]; grind
   have e9:=h2.JT e4 i hi
   rw [if_pos rfl] at e9
   exact e9.symm
  rw [al e2,dT]; grind
 funext k
 rw [hφ u hu k,h0]; rfl
end
end Go.Proofs.YtjlmpmidchddjaaDoor
namespace Go.Proofs.YtjlmpmidchddjaaDoor
def tv (p d:Nat):Nat→Nat
 | 0=>p ^ d - 1
 | a + 1=>if 1≤a∧(p ^ d - 1) % (p ^ a - 1)=0 then Nat.gcd (tv p d a) ((p ^ d - 1) / (p ^ a - 1)) else tv p d a
def IE:Bool:=HL.all fun p=>(List.range 61).all fun d=>decide (d < 2) || !decide ((p - 1) % tv p d d=0)
theorem GF:IE=true:=by decide +kernel
def Hw (p d:Nat):Prop:=∃ ψ,ψ ∣ p ^ d - 1∧(∀ a,1≤a→a < d→(p ^ a - 1) ∣ (p ^ d - 1)→ψ ∣ (p ^ d - 1) / (p ^ a - 1))∧¬ ψ ∣ p - 1
theorem wh (p d:Nat):∀ m,tv p d m ∣ p ^ d - 1∧∀ a,1≤a→a < m→(p ^ a - 1) ∣ (p ^ d - 1)→tv p d m ∣ (p ^ d - 1) / (p ^ a - 1)
 | 0=>⟨Nat.dvd_refl _,fun a _ h=>absurd h (Nat.not_lt_zero _)⟩
 | m + 1=>by
  obtain ⟨h1,h2⟩:=wh p d m
  unfold tv
  by_cases hc:1≤m∧(p ^ d - 1) % (p ^ m - 1)=0
  ·rw [if_pos hc]
   refine ⟨Nat.dvd_trans (Nat.gcd_dvd_left _ _) h1,fun a ha hm hd=>?_⟩
   by_cases e:a=m
   ·subst e; exact Nat.gcd_dvd_right _ _
   exact Nat.dvd_trans (Nat.gcd_dvd_left _ _) (h2 a ha (by omega) hd)
  rw [if_neg hc]
  refine ⟨h1,fun a ha hm hd=>?_⟩
  by_cases e:a=m
  ·subst e; exact absurd ⟨ha,Nat.mod_eq_zero_of_dvd hd⟩ hc
  exact h2 a ha (by omega) hd
theorem Hg {p d:Nat} (hp:p∈HL) (h2:2≤d) (h3:d≤60):Hw p d:=by
 have h1:=GF
 unfold IE at h1
 rw [List.all_eq_true] at h1
 have h4:=List.all_eq_true.1 (h1 p hp) d (List.mem_range.2 (by omega))
 rw [Bool.or_eq_true] at h4
 have h5:=(h4.resolve_left fun h=>by have:=of_decide_eq_true h; omega)
 have h6:¬ (p - 1) % tv p d d=0:=by simpa using h5
 obtain ⟨h7,h8⟩:=wh p d d
 exact ⟨_,h7,h8,fun h=>h6 (Nat.mod_eq_zero_of_dvd h)⟩
end Go.Proofs.YtjlmpmidchddjaaDoor
namespace Go.Proofs.YtjlmpmidchddjaaDoor
open Lean.Grind
attribute [local instance] Lean.Grind.Semiring.natCast Lean.Grind.Ring.intCast
theorem ui {n k:Nat} {P Q:Nat→Bool} (g:Nat→Nat) (h1:∀ x,x < n→P x=true→g x < k∧Q (g x)=true) (hi:∀ x y,x < n→y < n→P x=true→P y=true→g x=g y→x=y) (h2:∀ y,y < k→Q y=true→∃ x,x < n∧P x=true∧g x=y):(mem n P).length=(mem k Q).length:=by
 rw [← List.length_map (f:=g) («as»:=mem n P)]
 refine ga (fU (List.nodup_range.filter _) fun x hx y hy h=>?_) (List.nodup_range.filter _) fun y=>?_
 ·obtain ⟨a1,a2⟩:=aR.1 hx
  obtain ⟨b1,b2⟩:=aR.1 hy
  exact hi x y a1 b1 a2 b2 h
 rw [List.mem_map,aR]
 constructor
 ·rintro ⟨x,hx,rfl⟩
  obtain ⟨a1,a2⟩:=aR.1 hx
  exact h1 x a1 a2
 rintro ⟨a1,a2⟩
 obtain ⟨x,b1,b2,b3⟩:=h2 y a1 a2
 exact ⟨x,aR.2 ⟨b1,b2⟩,b3⟩
theorem AG (n:Nat):(mem n fun _=>true).length=n:=by unfold mem; rw [List.filter_eq_self.2 fun _ _=>rfl,List.length_range]
theorem DP {ψ:Nat} (g:Nat→Nat):∀ l:List Nat,(∀ x∈l,g x=1∨ψ ∣ g x)→ψ ∣ (l.map g).sum→ψ ∣ (l.filter fun x=>decide (g x=1)).length:=fun l h hs=>by
 have:∀ l:List Nat,(∀ x∈l,g x=1∨ψ ∣ g x)→∃ t,(l.map g).sum=(l.filter fun x=>decide (g x=1)).length + ψ * t:=by
  intro l
  induction l with
  | nil=>intro _; exact ⟨0,by simp⟩
  | cons x l ih =>
   intro h
   obtain ⟨t,ht⟩:=ih fun y hy=>h y (by simp [hy])
   by_cases h1:g x=1
   ·exact ⟨t,by rw [List.map_cons,List.sum_cons,ht,List.filter_cons,if_pos (by simp [h1]),List.length_cons,h1]; omega⟩
   obtain ⟨u,hu⟩:=(h x (by simp)).resolve_left h1
   exact ⟨t + u,by rw [List.map_cons,List.sum_cons,ht,List.filter_cons,if_neg (by simp [h1]),Nat.mul_add,← hu]; omega⟩
 obtain ⟨t,ht⟩:=this l h
 rw [ht] at hs
 exact (Nat.dvd_add_iff_left (Nat.dvd_mul_right ψ t)).2 hs
section
variable {n e c:Nat} {f:Nat→Nat→Nat} {cI xx:Nat→Nat} {K:Type} [CommRing K] {p:Nat}
theorem GC.Jp (h : GC n f e c cI xx) (R : Rp K p) (hsur : ∀ a : K, ∃ x : Nat, x < p ∧ (x : K) = a) (hw : ∀ d, 2 ≤ d → d ≤ n → Hw p d)
    {D : (Nat → K) → Prop} (hD : iE D) (hn : ∀ v, D v → ij n v) (cl : ∀ a b, D a → D b → D (cv n f e a b)) {k : Nat → K} (hk : D k) (k0 : k ≠ fun _ => 0) (k1 : ∀ a, D a → cv n f e k a = a) (k2 : ∀ a, D a → cv n f e a k = a)
    (inv : ∀ x, D x → x ≠ (fun _ => 0) → ∃ y, D y ∧ cv n f e x y = k) (cen0 : ∀ z, D z → (∀ w, D w → cv n f e z w = cv n f e w z) → ∃ a : K, z = fun x => a * k x) :
    ∀ x, D x → ∃ a : K, x = fun i => a * k i := by
  have hp : 2 ≤ p := R.two
  obtain ⟨δ, E, d1, d2, d3, d4, d5⟩ := enum R hsur hD hn
  have d4' : ∀ v, ∃ m, D v → m < p ^ δ ∧ E m = v := fun v => by
    by_cases hv : D v
    · obtain ⟨m, hm⟩ := d4 v hv; exact ⟨m, fun _ => hm⟩
    · exact ⟨0, fun h => absurd h hv⟩
  obtain ⟨cd, hcd⟩ := Classical.axiomOfChoice d4'
  have linv : ∀ x, D x → x ≠ (fun _ => 0) → ∃ y, D y ∧ y ≠ (fun _ => 0) ∧ cv n f e x y = k ∧ cv n f e y x = k := fun x hx hx0 => by
    obtain ⟨y, hy, h1⟩ := inv x hx hx0
    have hy0 : y ≠ fun _ => 0 := fun h0 => k0 (by rw [← h1, h0, pB])
    obtain ⟨z, hz, h2⟩ := inv y hy hy0
    have h3 : z = x := by
      have := h.gR x y z
      rw [h1, h2, k1 z hz, k2 x hx] at this
      exact this
    exact ⟨y, hy, hy0, h1, h3 ▸ h2⟩
  have nz : ∀ a b, D a → D b → a ≠ (fun _ => 0) → b ≠ (fun _ => 0) → cv n f e a b ≠ fun _ => 0 := fun a b ha hb ha0 hb0 h0 => by
    obtain ⟨y, hy, _, _, h2⟩ := linv a ha ha0
    have := h.gR y a b
    rw [h0, h2, k1 b hb, pB] at this
    exact hb0 this
  obtain ⟨M, hM⟩ : ∃ M, M = p ^ δ - 1 := ⟨_, rfl⟩
  have hpd : 0 < p ^ δ := Nat.pow_pos (by omega)
  have code : ∀ v, D v → v ≠ (fun _ => 0) → cd v - 1 < M ∧ E (cd v - 1 + 1) = v := fun v hv hv0 => by
    obtain ⟨h1, h2⟩ := hcd v hv
    have h3 : cd v ≠ 0 := fun h0 => hv0 (by rw [← h2, h0, d5])
    rw [show cd v - 1 + 1 = cd v by omega]
    exact ⟨by omega, h2⟩
  have elt : ∀ i, i < M → D (E (i + 1)) ∧ E (i + 1) ≠ fun _ => 0 := fun i hi => ⟨d2 _, fun h0 => by
    have := d3 (i + 1) 0 (by omega) hpd (by rw [h0, d5])
    omega⟩
  have ext : ∀ i j, i < M → j < M → E (i + 1) = E (j + 1) → i = j := fun i j hi hj he => by
    have := d3 _ _ (by omega) (by omega) he
    omega
  have gW : ∀ i, i < M → cd (E (i + 1)) - 1 = i := fun i hi => by
    obtain ⟨h1, h2⟩ := elt i hi
    obtain ⟨h3, h4⟩ := code _ h1 h2
    exact ext _ _ h3 hi h4
  let fm : Nat → Nat → Nat := fun i j => cd (cv n f e (E (i + 1)) (E (j + 1))) - 1
  have fE : ∀ i j, i < M → j < M → fm i j < M ∧ E (fm i j + 1) = cv n f e (E (i + 1)) (E (j + 1)) := fun i j hi hj => by
    obtain ⟨a1, a2⟩ := elt i hi
    obtain ⟨b1, b2⟩ := elt j hj
    exact code _ (cl _ _ a1 b1) (nz _ _ a1 b1 a2 b2)
  obtain ⟨ck1, ck2⟩ := code k hk k0
  have G : bB M fm (cd k - 1) := {
    pos := by omega
    cl := fun a b ha hb => (fE a b ha hb).1
    el := ck1
    one_l := fun a ha => ext _ _ (fE _ _ ck1 ha).1 ha (by rw [(fE _ _ ck1 ha).2, ck2, k1 _ (elt a ha).1])
    one_r := fun a ha => ext _ _ (fE _ _ ha ck1).1 ha (by rw [(fE _ _ ha ck1).2, ck2, k2 _ (elt a ha).1])
    assoc := fun a b d ha hb hd => by
      have h1 := fE a b ha hb
      have h2 := fE b d hb hd
      have h3 := fE _ d h1.1 hd
      have h4 := fE a _ ha h2.1
      exact ext _ _ h3.1 h4.1 (by rw [h3.2, h4.2, h1.2, h2.2, h.gR])
    inv := fun a ha => by
      obtain ⟨a1, a2⟩ := elt a ha
      obtain ⟨y, y1, y2, y3, y4⟩ := linv _ a1 a2
      obtain ⟨y5, y6⟩ := code y y1 y2
      have h1 := fE a _ ha y5
      have h2 := fE _ a y5 ha
      exact ⟨_, y5, ext _ _ h1.1 ck1 (by rw [h1.2, y6, y3, ck2]), ext _ _ h2.1 ck1 (by rw [h2.2, y6, y4, ck2])⟩ }
  have comE : ∀ x y, x < M → y < M → (fm y x = fm x y ↔ cv n f e (E (y + 1)) (E (x + 1)) = cv n f e (E (x + 1)) (E (y + 1))) := fun x y hx hy => by
    have h1 := fE y x hy hx
    have h2 := fE x y hx hy
    constructor
    · intro he; rw [← h1.2, ← h2.2, he]
    · intro he; exact ext _ _ h1.1 h2.1 (by rw [h1.2, h2.2, he])
  have cc : ∀ x, x < M → ∃ a, (mem M (Fp fm x)).length = p ^ a - 1 := fun x hx => by
    obtain ⟨X, hX⟩ : ∃ X, E (x + 1) = X := ⟨_, rfl⟩
    have hL : iE fun v => D v ∧ cv n f e v X = cv n f e X v := ⟨⟨hD.zero, by rw [q8, pB]⟩, fun a b ha hb => ⟨hD.add _ _ ha.1 hb.1, by rw [fN, ej, ha.2, hb.2]⟩, fun k a ha => ⟨hD.smul _ _ ha.1, by rw [bH, bb, ha.2]⟩⟩
    obtain ⟨a, Ex, a1, a2, a3, a4, a5⟩ := enum R hsur hL fun v hv => hn v hv.1
    refine ⟨a, ?_⟩
    have hpa : 0 < p ^ a := Nat.pow_pos (by omega)
    have hz : ∀ i, i < p ^ a - 1 → Ex (i + 1) ≠ fun _ => 0 := fun i hi h0 => by
      have := a3 (i + 1) 0 (by omega) hpa (by rw [h0, a5])
      omega
    have := ui (n := p ^ a - 1) (k := M) (P := fun _ => true) (Q := Fp fm x) (fun i => cd (Ex (i + 1)) - 1) (fun i hi _ => ?_) (fun i j hi hj _ _ he => ?_) fun y hy hq => ?_
    · rw [← this, AG]
    · obtain ⟨b1, b2⟩ := a2 (i + 1)
      obtain ⟨c1, c2⟩ := code _ b1 (hz i hi)
      refine ⟨c1, lB.2 ((comE x _ hx c1).2 ?_)⟩
      rw [c2, hX]; exact b2
    · obtain ⟨c1, c2⟩ := code _ (a2 (i + 1)).1 (hz i hi)
      obtain ⟨c3, c4⟩ := code _ (a2 (j + 1)).1 (hz j hj)
      have he : cd (Ex (i + 1)) - 1 = cd (Ex (j + 1)) - 1 := he
      have := a3 (i + 1) (j + 1) (by omega) (by omega) (by rw [← c2, ← c4, he])
      omega
    · have h1 := (comE x y hx hy).1 (lB.1 hq)
      rw [hX] at h1
      obtain ⟨m, m1, m2⟩ := a4 (E (y + 1)) ⟨(elt y hy).1, h1⟩
      have m3 : m ≠ 0 := fun h0 => (elt y hy).2 (by rw [← m2, h0, a5])
      refine ⟨m - 1, by omega, rfl, ?_⟩
      show cd (Ex (m - 1 + 1)) - 1 = y
      rw [show m - 1 + 1 = m by omega, m2, gW y hy]
  have hδ : δ = 1 := by
    refine Classical.byContradiction fun hne => ?_
    have hδ0 : δ ≠ 0 := fun h0 => by rw [h0, Nat.pow_zero] at hM; omega
    obtain ⟨ψ, w1, w2, w3⟩ := hw δ (by omega) d1
    refine w3 ?_
    have hs := G.fO.sum
    have hdiv := DP (ψ := ψ) (fun x => (mem M (bY M fm (cd k - 1) x)).length) (mem M (lead (bY M fm (cd k - 1)))) (fun x hx => ?_) (by rw [hs, hM]; exact w1)
    · 
      have hcount : ((mem M (lead (bY M fm (cd k - 1)))).filter fun x => decide ((mem M (bY M fm (cd k - 1) x)).length = 1)).length = p - 1 := by
        have e0 : ((mem M (lead (bY M fm (cd k - 1)))).filter fun x => decide ((mem M (bY M fm (cd k - 1) x)).length = 1)) = mem M fun x => lead (bY M fm (cd k - 1)) x && decide ((mem M (bY M fm (cd k - 1) x)).length = 1) := by
          unfold mem
          rw [List.filter_filter]
          exact List.filter_congr fun x _ => Bool.and_comm _ _
        rw [e0]
        have hjk : ∀ j, j < p - 1 → D (fun x => (((j + 1 : Nat)) : K) * k x) ∧ (fun x => (((j + 1 : Nat)) : K) * k x) ≠ fun _ => 0 := fun j hj => ⟨hD.smul _ _ hk, fun h0 => by
          have hj1 : ((j + 1 : Nat) : K) ≠ 0 := fun h1 => R.ne (a := j + 1) (b := 0) (by omega) (by omega) (by omega) (by rw [h1]; grind)
          obtain ⟨b, hb⟩ := R.fld.1 _ hj1
          refine k0 (funext fun x => ?_)
          have := congrFun h0 x
          grind⟩
        have := ui (n := p - 1) (k := M) (P := fun _ => true) (Q := fun x => lead (bY M fm (cd k - 1)) x && decide ((mem M (bY M fm (cd k - 1) x)).length = 1)) (fun j => cd (fun x => ((j + 1 : Nat) : K) * k x) - 1) (fun j hj _ => ?_) (fun i j hi hj _ _ he => ?_) fun y hy hq => ?_
        · rw [← this, AG]
        · obtain ⟨j1, j2⟩ := hjk j hj
          obtain ⟨c1, c2⟩ := code _ j1 j2
          refine ⟨c1, ?_⟩
          have hsame : ∀ y, y < M → (bY M fm (cd k - 1) (cd (fun x => ((j + 1 : Nat) : K) * k x) - 1) y = true ↔ y = cd (fun x => ((j + 1 : Nat) : K) * k x) - 1) := fun y hy => by
            rw [dV]
            have key : ∀ a, a < M → fm (fm (iv M fm (cd k - 1) a) (cd (fun x => ((j + 1 : Nat) : K) * k x) - 1)) a = cd (fun x => ((j + 1 : Nat) : K) * k x) - 1 := fun a ha => by
              have hc : fm a (cd (fun x => ((j + 1 : Nat) : K) * k x) - 1) = fm (cd (fun x => ((j + 1 : Nat) : K) * k x) - 1) a := (comE _ _ c1 ha).2 (by rw [c2, bH, bb, k1 _ (elt a ha).1, k2 _ (elt a ha).1])
              rw [G.assoc _ _ _ (G.az ha) c1 ha, ← hc, ← G.assoc _ _ _ (G.az ha) ha c1, G.cV ha, G.one_l _ c1]
            constructor
            · rintro ⟨a, ha, h1⟩
              rw [← h1, key a ha]
            · intro h1
              exact ⟨cd k - 1, ck1, by rw [key _ ck1, h1]⟩
          rw [Bool.and_eq_true, decide_eq_true_eq]
          refine ⟨fZ.2 ⟨(hsame _ c1).2 rfl, fun b hb => ?_⟩, ?_⟩
          · cases hcb : bY M fm (cd k - 1) (cd (fun x => ((j + 1 : Nat) : K) * k x) - 1) b with
            | false => rfl
            | true => have := (hsame b (by omega)).1 hcb; omega
          · exact EB c1 hsame
        · obtain ⟨i1, i2⟩ := hjk i hi
          obtain ⟨j1, j2⟩ := hjk j hj
          obtain ⟨c1, c2⟩ := code _ i1 i2
          obtain ⟨c3, c4⟩ := code _ j1 j2
          have he : cd (fun x => ((i + 1 : Nat) : K) * k x) - 1 = cd (fun x => ((j + 1 : Nat) : K) * k x) - 1 := he
          rw [he, c4] at c2
          refine Classical.byContradiction fun hij => ?_
          have h1 := R.ne (a := j + 1) (b := i + 1) (by omega) (by omega) (by omega)
          obtain ⟨b, hb⟩ := R.fld.1 _ h1
          refine k0 (funext fun x => ?_)
          have := congrFun c2 x
          grind
        · rw [Bool.and_eq_true, decide_eq_true_eq] at hq
          have h1 := G.qQ hy
          rw [hq.2, Nat.mul_one] at h1
          have h2 := xf.1 h1
          have h3 : ∀ w, D w → cv n f e (E (y + 1)) w = cv n f e w (E (y + 1)) := fun w hw => by
            by_cases hw0 : w = fun _ => 0
            · rw [hw0, q8, pB]
            · obtain ⟨c1, c2⟩ := code w hw hw0
              have := (comE y _ hy c1).1 (lB.1 (h2 _ c1))
              rw [c2] at this
              exact this.symm
          obtain ⟨a, ha⟩ := cen0 _ (elt y hy).1 h3
          obtain ⟨x, hx, hxa⟩ := hsur a
          have hx0 : x ≠ 0 := fun h0 => (elt y hy).2 (by rw [ha, ← hxa, h0]; funext z; grind)
          refine ⟨x - 1, by omega, rfl, ?_⟩
          show cd (fun z => ((x - 1 + 1 : Nat) : K) * k z) - 1 = y
          rw [show x - 1 + 1 = x by omega, hxa, ← ha, gW y hy]
      rw [hcount] at hdiv
      exact hdiv
    · 
      have hxM := (aR.1 hx).1
      obtain ⟨a, ha⟩ := cc x hxM
      have h1 := G.qQ hxM
      by_cases h2 : (mem M (bY M fm (cd k - 1) x)).length = 1
      · exact .inl h2
      · refine .inr ?_
        rw [ha] at h1
        have hMp := G.pos
        have hle : (mem M (Fp fm x)).length ≤ M := by
          unfold mem
          exact Nat.le_trans (List.length_filter_le _ _) (by simp)
        have ha1 : p ^ a - 1 ≠ 0 := fun h0 => by rw [h0, Nat.zero_mul] at h1; omega
        have ha2 : a < δ := by
          refine Nat.lt_of_le_of_ne (Nat.le_of_not_lt fun hlt => ?_) fun he => ?_
          · have := Nat.pow_lt_pow_right (a := p) (by omega) hlt
            omega
          · rw [he, ← hM] at h1
            have := Nat.eq_of_mul_eq_mul_left hMp (h1.trans (Nat.mul_one M).symm)
            exact h2 this
        have ha3 : 1 ≤ a := by
          rcases Nat.eq_zero_or_pos a with h0 | h0
          · rw [h0, Nat.pow_zero] at ha1; omega
          · exact h0
        have h3 := w2 a ha3 ha2 (by rw [← hM, ← h1]; exact Nat.dvd_mul_right _ _)
        rw [← hM, ← h1, Nat.mul_div_cancel_left _ (by omega)] at h3
        exact h3
  intro x hx
  rw [hδ, Nat.pow_one] at d3
  have hcd' : ∀ v, D v → cd v < p ∧ E (cd v) = v := fun v hv => by
    have := hcd v hv
    rw [hδ, Nat.pow_one] at this
    exact this
  obtain ⟨j, hj, hje⟩ := uC (n := p) (f := fun j => cd fun x => ((j : Nat) : K) * k x) (fun j _ => (hcd' _ (hD.smul _ _ hk)).1) (fun i j hi hj he => by
    have h1 := (hcd' _ (hD.smul ((i : Nat) : K) _ hk)).2
    have h2 := (hcd' _ (hD.smul ((j : Nat) : K) _ hk)).2
    have he : cd (fun x => ((i : Nat) : K) * k x) = cd fun x => ((j : Nat) : K) * k x := he
    rw [he, h2] at h1
    refine Classical.byContradiction fun hij => ?_
    obtain ⟨b, hb⟩ := R.fld.1 _ (R.ne hj hi (fun h => hij h.symm))
    refine k0 (funext fun x => ?_)
    have := congrFun h1 x
    grind) (hcd' x hx).1
  have h1 := (hcd' _ (hD.smul ((j : Nat) : K) _ hk)).2
  have hje : cd (fun x => ((j : Nat) : K) * k x) = cd x := hje
  rw [hje, (hcd' x hx).2] at h1
  exact ⟨_, h1⟩
end
end Go.Proofs.YtjlmpmidchddjaaDoor
namespace Go.Proofs.YtjlmpmidchddjaaDoor
open Lean.Grind
attribute [local instance] Lean.Grind.Semiring.natCast Lean.Grind.Ring.intCast
theorem least {P:Nat→Prop} (h:∃ r,P r):∃ r,P r∧∀ r',P r'→r≤r':=by
 refine Classical.byContradiction fun hno=>?_
 have:∀ m r,r≤m→¬ P r:=by
  intro m
  induction m with
  | zero=>intro r hr hp; exact hno ⟨r,hp,fun r' _=>by omega⟩
  | succ m ih =>
   intro r hr hp
   exact hno ⟨r,hp,fun r' hp'=>Nat.le_of_not_lt fun hlt=>ih r' (by omega) hp'⟩
 obtain ⟨r,hr⟩:=h
 exact this r r (Nat.le_refl _) hr
section
variable {n e c:Nat} {f:Nat→Nat→Nat} {cI xx:Nat→Nat} {K:Type} [CommRing K] {p:Nat}
theorem Rp.gW (R:Rp K p) {a b:Nat} (ha:a < p) (hb:b < p) (h:(a:K)=b):a=b:=Classical.byContradiction fun hne=>R.ne ha hb hne (by rw [h]; grind)
theorem GC.AU (h:GC n f e c cI xx) (u:Nat→K) (a:Nat):∀ b,pc n f e (pc n f e u a) b=pc n f e u (a * b)
 | 0=>rfl
 | b + 1=>by
  show cv n f e (pc n f e u a) (pc n f e (pc n f e u a) b)=_
  rw [h.AU u a b,← h.kJ,Nat.mul_add,Nat.mul_one,Nat.add_comm]
theorem GC.uE (h:GC n f e c cI xx) (F:nt K) {u:Nat→K} (hu:cv n f e u u=u):∃ r,r≤n∧(n:K) * u e=(r:K)∧(r=0→u=fun _=>0):=by
 have G:=h.G
 obtain ⟨v,v1,v2,v3⟩:=Kl (n:=n) F (A:=fun v=>cv n f e v u) ⟨fun a b=>fN a b u,fun k a=>bH k a u⟩ (fun v _=>by show cv n f e (cv n f e v u) u=_; rw [h.gR,hu]) fun v=>db _ _
 refine ⟨v,v1,?_,fun h0=>?_⟩
 ·rw [← v2,← dT]
  refine al fun x hx=>?_
  show u e=cv n f e (dl K x) u x
  rw [h.tX u hx hx,G.cV hx]
 rw [← hu]
 exact v3 h0 u (by rw [← hu]; exact db _ _)
def WT (n:Nat) (f:Nat→Nat→Nat) (e:Nat) (t:Nat→K) (a:Nat→K):Prop:=ij n a∧cv n f e a t=fun x=>bT n f e t t e * a x
theorem GC.zC (h:GC n f e c cI xx) (F:nt K) {t:Nat→K} (ht:k9 n f e cI t) (hs:bT n f e t t e ≠ 0) {a:Nat→K} (ha:WT n f e t a) {x:Nat} (hx:x < n):sm (fun g=>a (cM n f e g x)) n=(n:K) * a e * t x:=by
 have G:=h.G
 have h1:bT n f e t t e * sm (fun g=>a (cM n f e g x)) n=bT n f e t t e * ((n:K) * a e * t x):=by
  have e1:∀ g,g < n→bT n f e t t e * a (cM n f e g x)=sm (fun y=>a y * t (f (iv n f e y) (cM n f e g x))) n:=fun g hg=>by
   have:=congrFun ha.2 (cM n f e g x)
   rw [← this,dF _ _ (h.mf hg hx)]
  rw [← aN,al e1,aX]
  have e2:∀ y,y < n→sm (fun g=>a y * t (f (iv n f e y) (cM n f e g x))) n=(n:K) * t x * (a y * t (f (iv n f e y) e)):=fun y hy=>by
   have hi:=G.az hy
   rw [aN,al (g:=fun g=>t (f (cM n f e g x) (iv n f e y))) fun g hg=>h.zr ht.cl hi (h.mf hg hx),ht.mul x _ hx hi,G.one_r _ hi]
   grind
  rw [al e2,aN,← dF a t G.el,ha.2]
  grind
 obtain ⟨b,hb⟩:=F.1 _ hs
 grind
structure EC (n:Nat) (f:Nat→Nat→Nat) (e:Nat) (t k:Nat→K) (v:Nat):Prop where
 W:WT n f e t k
 id:cv n f e k k=k
 rk:(n:K) * k e=(v:K)
 ge:1≤v
 le:v≤n
 sq:bT n f e t t e * ((v:K) * v)=(n:K)
 one:∀ w:Nat→K,∃ a:K,cv n f e k (cv n f e w k)=fun x=>a * k x
theorem GC.Iw (h:GC n f e c cI xx) (R:Rp K p) (hsur:∀ a:K,∃ x:Nat,x < p∧(x:K)=a) (hw:∀ d,2≤d→d≤n→Hw p d) (h2n:2 * n < p) (hn0:(n:K) ≠ 0)
  (hcz:∀ a:Nat,0 < a→a < p→(a:K) ≠ 0) (hpw:∀ a,a < n→pw f e a p=a) {t:Nat→K} (ht:k9 n f e cI t) (hs:bT n f e t t e ≠ 0) :
  ∃ (v:Nat) (k:Nat→K),EC n f e t k v:=by
 have G:=h.G
 have F:=R.fld
 have hfr:∀ a:K,a ^ p=a:=fun a=>by
  obtain ⟨x,_,rfl⟩:=hsur a
  exact R.pow x
 obtain ⟨s,hsd⟩:∃ s,s=bT n f e t t e:=⟨_,rfl⟩
 rw [← hsd] at hs
 obtain ⟨si,hsi⟩:=F.1 _ hs
 have hW:∀ {a:Nat→K},WT n f e t a↔ij n a∧cv n f e a t=fun x=>s * a x:=by intro a; unfold WT; rw [hsd]
 have htt:∀ x,x < n→cv n f e t t x=s * t x:=fun x hx=>by
  rw [dF _ _ hx,← h.wu t t hx,h.self F hn0 ht hx,hsd]
 have wmul:∀ {a:Nat→K} (b:Nat→K),WT n f e t a→WT n f e t (cv n f e b a):=fun {a} b ha=>hW.2 ⟨db _ _,by
  rw [h.gR,(hW.1 ha).2,bb]⟩
 let ε:Nat→K:=fun x=>if x < n then si * t x else 0
 have hε:∀ x,x < n→ε x=(fun x=>si * t x) x:=fun x hx=>if_pos hx
 have hεs:ij n ε:=fun x hx=>if_neg (by omega)
 have hεW:WT n f e t ε:=hW.2 ⟨hεs,by
  rw [cW h hε (b':=t) fun _ _=>rfl,bH]
  funext x
  by_cases hx:x < n
  ·rw [htt x hx]
   show _=s * (if x < n then si * t x else 0)
   rw [if_pos hx]; grind
  rw [db t t x (by omega),hεs x (by omega)]; grind⟩
 have hεi:cv n f e ε ε=ε:=by
  rw [cW h (a:=ε) (fun _ _=>rfl) hε,bb,(hW.1 hεW).2]
  funext x; grind
 have hε0:ε ≠ fun _=>0:=fun h0=>by
  have:=congrFun h0 e
  rw [hε e G.el] at this
  have h1:si * t e=0:=this
  rw [ht.one] at h1
  have:s * si=0:=by grind
  rw [hsi] at this
  exact F.2 this
 let Q:Nat→Prop:=fun r=>∃ k,WT n f e t k∧cv n f e k k=k∧(k ≠ fun _=>0)∧r≤n∧(n:K) * k e=(r:K)
 obtain ⟨r,⟨k,kW,kk,k0,rn,kr⟩,hmin⟩:=least (P:=Q) (by
  obtain ⟨r,r1,r2,_⟩:=h.uE F hεi
  exact ⟨r,ε,hεW,hεi,hε0,r1,r2⟩)
 have hr0:r ≠ 0:=fun h0=>by
  obtain ⟨r',a1,a2,a3⟩:=h.uE F kk
  have:=R.gW (by omega) (by omega) (a2.symm.trans kr)
  exact k0 (a3 (by omega))
 have hke:k e ≠ 0:=fun h0=>hr0 (R.gW (p:=p) (by omega) (by omega) (by rw [← kr,h0]; grind))
 let D:(Nat→K)→Prop:=fun x=>cv n f e k x=x∧cv n f e x k=x
 have hDl:iE D:=⟨⟨pB k,q8 k⟩,fun a b ha hb=>⟨by rw [ej,ha.1,hb.1],by rw [fN,ha.2,hb.2]⟩,fun l a ha=>⟨by rw [bb,ha.1],by rw [bH,ha.2]⟩⟩
 have hDs:∀ x,D x→ij n x:=fun x hx=>by rw [← hx.1]; exact db _ _
 have hDk:D k:=⟨kk,kk⟩
 have hDc:∀ a b,D a→D b→D (cv n f e a b):=fun a b ha hb=>⟨by rw [← h.gR,ha.1],by rw [h.gR,hb.2]⟩
 have hDw:∀ w,D (cv n f e k (cv n f e w k)):=fun w=>⟨by rw [← h.gR k k,kk],by rw [h.gR,h.gR,kk]⟩
 have hDW:∀ x,D x→WT n f e t x:=fun x hx=>by rw [← hx.2]; exact wmul x kW
 obtain ⟨qa,Ea,qa1,qa2,qa3,qa4,qa5⟩:=enum (n:=n) R hsur (P:=ij n) ⟨ij.zero,fun a b ha hb=>ha.add hb,fun k a ha=>ha.smul k⟩ fun v hv=>hv
 have hinv:∀ x,D x→(x ≠ fun _=>0)→∃ y,D y∧cv n f e x y=k:=fun x hx hx0=>by
  obtain ⟨g,hg,hxg⟩:∃ g,g < n∧x g ≠ 0:=Classical.byContradiction fun hno=>hx0 ((hDs x hx).ext ij.zero fun g hg=>Classical.byContradiction fun hc=>hno ⟨g,hg,hc⟩)
  obtain ⟨w,hwd⟩:∃ w,w=dl K (iv n f e g):=⟨_,rfl⟩
  obtain ⟨z,hz⟩:∃ z,z=cv n f e k (cv n f e w k):=⟨_,rfl⟩
  have hzD:D z:=by rw [hz]; exact hDw w
  obtain ⟨u,hu⟩:∃ u,u=cv n f e x z:=⟨_,rfl⟩
  have huD:D u:=by rw [hu]; exact hDc x z hx hzD
  have hue:u e=x g:=by
   rw [hu,hz,← h.gR,hx.2,← h.gR,h.Jd,← h.gR,hx.1,hwd,h.Ek x (G.az hg) G.el,G.cO hg,G.one_l g hg]
  have hue0:u e ≠ 0:=by rw [hue]; exact hxg
  have hpp:∀ i,pc n f e u (p ^ i) e=u e:=fun i=>by
   induction i with
   | zero =>
    rw [Nat.pow_zero]
    show cv n f e u (dl K e) e=_
    rw [h.Ib (hDs u huD)]
   | succ i ih=>rw [Nat.pow_succ,← h.AU,h.Jk R hcz hpw hfr,ih]
  have hnn:∀ m,pc n f e u m ≠ fun _=>0:=fun m h0=>by
   have h1:m≤p ^ m:=Nat.le_of_lt (Nat.lt_pow_self (by have:=R.two; omega))
   have h2:=hpp m
   rw [show p ^ m=(p ^ m - m) + m by omega,h.kJ,h0,pB] at h2
   exact hue0 h2.symm
  obtain ⟨cd,hcd⟩:=Classical.axiomOfChoice fun i=>qa4 _ (h.BW u i)
  have hpos:0 < p ^ qa:=Nat.pow_pos (by have:=R.two; omega)
  obtain ⟨i,j,hij,hjn,hcij⟩:=zB (n:=p ^ qa) (f:=cd) fun i _=>(hcd i).1
  have hpij:pc n f e u i=pc n f e u j:=by rw [← (hcd i).2,← (hcd j).2,hcij]
  obtain ⟨d,rfl⟩:∃ d,j=i + d:=⟨j - i,by omega⟩
  have hper:∀ l i',i≤i'→pc n f e u (i' + l * d)=pc n f e u i':=fun l=>by
   induction l with
   | zero=>intro i' _; rw [Nat.zero_mul]; rfl
   | succ l ih =>
    intro i' hi'
    have e1:i' + (l + 1) * d=(i' - i + l * d) + (i + d):=by rw [Nat.add_mul]; omega
    rw [e1,h.kJ,← hpij,← h.kJ,show i' - i + l * d + i=i' + l * d by omega,ih i' hi']
  obtain ⟨m,hm⟩:∃ m,m=(i + 1) * d:=⟨_,rfl⟩
  have hmi:i + 1≤m:=by rw [hm]; exact Nat.le_mul_of_pos_right _ (by omega)
  have hid:cv n f e (pc n f e u m) (pc n f e u m)=pc n f e u m:=by
   rw [← h.kJ]
   have:=hper (i + 1) m (by omega)
   rwa [← hm] at this
  obtain ⟨q,hq⟩:∃ q,m=q + 1:=⟨m - 1,by omega⟩
  have hbl:cv n f e k (pc n f e u m)=pc n f e u m:=by
   rw [hq]
   show cv n f e k (cv n f e u (pc n f e u q))=cv n f e u (pc n f e u q)
   rw [← h.gR,huD.1]
  have hbr:cv n f e (pc n f e u m) k=pc n f e u m:=by
   have h1:pc n f e u 1=u:=h.Ib (hDs u huD)
   rw [hq,h.kJ,h1,h.gR,huD.2]
  obtain ⟨r1,r11,r12,r13⟩:=h.uE F hid
  have hk' : cv n f e (fun x=>k x + (-1) * pc n f e u m x) (fun x=>k x + (-1) * pc n f e u m x)=fun x=>k x + (-1) * pc n f e u m x:=by
   rw [fN k (fun x=>(-1) * pc n f e u m x),bH,ej k k,ej _ k,bb,bb,kk,hbl,hbr,hid]
   funext x; grind
  obtain ⟨r2,r21,r22,r23⟩:=h.uE F hk'
  have hle:=hmin r1 ⟨_,hDW _ ⟨hbl,hbr⟩,hid,hnn m,r11,r12⟩
  have hsum:r1 + r2=r:=R.gW (p:=p) (by omega) (by omega) (by
   rw [← kr,Semiring.natCast_add,← r12,← r22]; grind)
  have hz0:=r23 (by omega)
  have hku:pc n f e u m=k:=by
   funext x
   have:=congrFun hz0 x
   grind
  refine ⟨cv n f e z (cv n f e (pc n f e u q) k),⟨by rw [← h.gR,hzD.1],by rw [h.gR,h.gR,kk]⟩,?_⟩
  rw [← h.gR,← hu,← h.gR]
  have:cv n f e u (pc n f e u q)=k:=by rw [← hku,hq]; rfl
  rw [this,kk]
 have hC:∀ (a:Nat→K) {g x:Nat},g < n→x < n→cv n f e (dl K g) (cv n f e a (dl K (iv n f e g))) x=a (cM n f e g x):=fun a g x hg hx=>by
  rw [h.tX _ hg hx,h.Ek a (G.az hg) (G.cl _ _ (G.az hg) hx),G.cO hg]; rfl
 have hS:∀ a,WT n f e t a→∀ x,sm (fun g=>cv n f e k (cv n f e (cv n f e (dl K g) (cv n f e a (dl K (iv n f e g)))) k) x) n=(n:K) * a e * s * k x:=fun a ha x=>by
  have e1:(fun x=>sm (fun g=>cv n f e k (cv n f e (cv n f e (dl K g) (cv n f e a (dl K (iv n f e g)))) k) x) n)=cv n f e k (cv n f e (fun x=>sm (fun g=>cv n f e (dl K g) (cv n f e a (dl K (iv n f e g))) x) n) k):=by
   rw [BU,rC]
  have e2:cv n f e (fun x=>sm (fun g=>cv n f e (dl K g) (cv n f e a (dl K (iv n f e g))) x) n) k=cv n f e (fun x=>(n:K) * a e * t x) k:=cW h (fun x hx=>by
   rw [al fun g hg=>hC a hg hx,h.zC F ht (by rw [← hsd]; exact hs) ha hx]) fun _ _=>rfl
  have e3:=congrFun e1 x
  rw [e2,bH,h.Ju ht.cl,(hW.1 kW).2,bb,bb,kk] at e3
  have e4:sm (fun g=>cv n f e k (cv n f e (cv n f e (dl K g) (cv n f e a (dl K (iv n f e g)))) k) x) n=(n:K) * a e * (s * k x):=e3
  rw [e4]; grind
 have hcen:∀ z,D z→(∀ w,D w→cv n f e z w=cv n f e w z)→∃ a:K,z=fun x=>a * k x:=fun z hz hcz=>by
  have e1:∀ g,g < n→cv n f e k (cv n f e (cv n f e (dl K g) (cv n f e z (dl K (iv n f e g)))) k)=cv n f e z (cv n f e k (cv n f e (cv n f e (dl K g) (cv n f e k (dl K (iv n f e g)))) k)):=fun g hg=>by
   have hA:=hDw (dl K g)
   have h1:=hcz _ hA
   have e2:cv n f e k (cv n f e (cv n f e (dl K g) (cv n f e z (dl K (iv n f e g)))) k)=cv n f e (cv n f e (cv n f e k (cv n f e (dl K g) k)) z) (cv n f e (dl K (iv n f e g)) k):=by
    simp only [h.gR]
    rw [← h.gR k z,hz.1]
   have e3:cv n f e z (cv n f e k (cv n f e (cv n f e (dl K g) (cv n f e k (dl K (iv n f e g)))) k))=cv n f e (cv n f e z (cv n f e k (cv n f e (dl K g) k))) (cv n f e (dl K (iv n f e g)) k):=by
    simp only [h.gR]
   rw [e2,e3,h1]
  obtain ⟨ki,hki⟩:=F.1 _ hke
  refine ⟨z e * ki,funext fun x=>?_⟩
  have h1:=hS z (hDW z hz) x
  rw [al fun g hg=>congrFun (e1 g hg) x] at h1
  have e4:(fun x=>sm (fun g=>cv n f e z (cv n f e k (cv n f e (cv n f e (dl K g) (cv n f e k (dl K (iv n f e g)))) k)) x) n)=cv n f e z (fun x=>(n:K) * k e * s * k x):=by
   rw [← rC]
   congr 1
   funext y
   exact hS k kW y
  have e5:=congrFun e4 x
  rw [bb,hz.2] at e5
  have e6:sm (fun g=>cv n f e z (cv n f e k (cv n f e (cv n f e (dl K g) (cv n f e k (dl K (iv n f e g)))) k)) x) n=(n:K) * k e * s * z x:=e5
  rw [e6] at h1
  obtain ⟨ni,hni⟩:=F.1 _ hn0
  grind
 have hall:=h.Jp R hsur hw hDl hDs hDc hDk k0 (fun a ha=>ha.1) (fun a ha=>ha.2) hinv hcen
 have t1:sm (fun x=>cv n f e k (cv n f e (dl K x) k) x) n=1:=by
  have e1:∀ x,x < n→k e * cv n f e k (cv n f e (dl K x) k) x=k (iv n f e x) * k x:=fun x hx=>by
   obtain ⟨a,ha⟩:=hall _ (hDw (dl K x))
   have h1:=congrFun ha e
   rw [h.Jd,h.gR,kk,h.tX k hx G.el,G.one_r _ (G.az hx)] at h1
   rw [ha]
   show k e * (a * k x)=_
   rw [h1]; grind
  have e2:k e * sm (fun x=>cv n f e k (cv n f e (dl K x) k) x) n=k e:=by
   rw [← aN,al e1]
   have e3:=congrFun kk e
   rw [dF _ _ G.el] at e3
   rw [← e3]
   exact al fun x hx=>by rw [G.one_r _ (G.az hx)]; grind
  obtain ⟨ki,hki⟩:=F.1 _ hke
  grind
 have t2:sm (fun x=>cv n f e k (cv n f e (dl K x) k) x) n=(n:K) * k e * (s * k e):=by
  have e1:∀ x,x < n→cv n f e k (cv n f e (dl K x) k) x=sm (fun y=>k y * k (cM n f e x (iv n f e y))) n:=fun x hx=>by
   rw [dF _ _ hx]
   refine al fun y hy=>?_
   rw [h.tX k hx (G.cl _ _ (G.az hy) hx)]
   unfold cM
   rw [G.assoc _ _ _ (G.az hx) (G.az hy) hx]
  rw [al e1,aX]
  have e2:∀ y,y < n→sm (fun x=>k y * k (cM n f e x (iv n f e y))) n=(n:K) * k e * (k y * t (f (iv n f e y) e)):=fun y hy=>by
   rw [aN,h.zC F ht (by rw [← hsd]; exact hs) kW (G.az hy),G.one_r _ (G.az hy)]
   grind
  rw [al e2,aN,← dF k t G.el,(hW.1 kW).2]
 refine ⟨r,k,kW,kk,kr,by omega,rn,?_,fun w=>hall _ (hDw w)⟩
 rw [t1] at t2
 rw [← hsd,← kr]
 grind
end
end Go.Proofs.YtjlmpmidchddjaaDoor
namespace Go.Proofs.YtjlmpmidchddjaaDoor
open Lean.Grind
attribute [local instance] Lean.Grind.Semiring.natCast Lean.Grind.Ring.intCast
section
variable {n e c:Nat} {f:Nat→Nat→Nat} {cI xx:Nat→Nat} {K:Type} [CommRing K] {p:Nat}
theorem WT.mul (h:GC n f e c cI xx) {t a:Nat→K} (b:Nat→K) (ha:WT n f e t a):WT n f e t (cv n f e b a):=
 ⟨db _ _,by rw [h.gR,ha.2,bb]⟩
theorem WT.add {t a b:Nat→K} (ha:WT n f e t a) (hb:WT n f e t b):WT n f e t fun x=>a x + b x:=
 ⟨ha.1.add hb.1,by rw [fN,ha.2,hb.2]; funext x; grind⟩
theorem WT.smul {t a:Nat→K} (k:K) (ha:WT n f e t a):WT n f e t fun x=>k * a x:=
 ⟨ha.1.smul k,by rw [bH,ha.2]; funext x; grind⟩
def eH (n:Nat) (si:K) (t:Nat→K) (x:Nat):K:=if x < n then si * t x else 0
theorem wB (si:K) (t:Nat→K):ij n (eH n si t):=fun x hx=>if_neg (by omega)
theorem fw (si:K) (t:Nat→K) {x:Nat} (hx:x < n):eH n si t x=si * t x:=if_pos hx
theorem GC.JQ (h:GC n f e c cI xx) (F:nt K) (hn0:(n:K) ≠ 0) {t:Nat→K} (ht:k9 n f e cI t) {x:Nat} (hx:x < n):cv n f e t t x=bT n f e t t e * t x:=by
 rw [dF _ _ hx,← h.wu t t hx,h.self F hn0 ht hx]
theorem GC.Hc (h:GC n f e c cI xx) (F:nt K) (hn0:(n:K) ≠ 0) {t:Nat→K} (ht:k9 n f e cI t) {si:K} (hsi:bT n f e t t e * si=1) :
  WT n f e t (eH n si t)∧cv n f e (eH n si t) (eH n si t)=eH n si t∧eH n si t e=si∧∀ a,ij n a→(WT n f e t a↔cv n f e a (eH n si t)=a):=by
 have G:=h.G
 have hW:WT n f e t (eH n si t):=⟨wB _ _,by
  rw [cW h (a':=fun x=>si * t x) (fun x hx=>fw si t hx) (b':=t) fun _ _=>rfl,bH]
  funext x
  by_cases hx:x < n
  ·rw [h.JQ F hn0 ht hx,fw _ _ hx]; grind
  rw [db t t x (by omega),wB _ _ x (by omega)]; grind⟩
 have hr:∀ a,cv n f e a (eH n si t)=fun x=>si * cv n f e a t x:=fun a=>by
  rw [cW h (a:=a) (a':=a) (fun _ _=>rfl) (b':=fun x=>si * t x) fun x hx=>fw si t hx,bb]
 refine ⟨hW,?_,by rw [fw _ _ G.el,ht.one]; grind,fun a ha=>⟨fun hw=>?_,fun hw=>⟨ha,?_⟩⟩⟩
 ·rw [hr,hW.2]; funext x; grind
 ·rw [hr,hw.2]; funext x; grind
 have h1:=hr a
 rw [hw] at h1
 funext x
 rw [congrFun h1 x]; grind
theorem GC.FA (h:GC n f e c cI xx) (F:nt K) (hn0:(n:K) ≠ 0) {t k:Nat→K} {v:Nat} (ht:k9 n f e cI t) (hs:bT n f e t t e ≠ 0) (hk:EC n f e t k v) (hke:k e ≠ 0) {u:Nat→K} (hu:WT n f e t u) (huu:cv n f e u u=u) (hu0:u ≠ fun _=>0) :
  ∃ j,WT n f e t j∧cv n f e j j=j∧cv n f e u j=j∧cv n f e j u=j∧j e=k e:=by
 have G:=h.G
 have h1:∃ g,g < n∧cv n f e u (cv n f e (dl K g) k) ≠ fun _=>0:=Classical.byContradiction fun hno=>by
  have hz:∀ g,g < n→cv n f e u (cv n f e (dl K g) k)=fun _=>0:=fun g hg=>Classical.byContradiction fun hc=>hno ⟨g,hg,hc⟩
  have e2:cv n f e u (fun x=>sm (fun g=>cv n f e (dl K g) (cv n f e k (dl K (iv n f e g))) x) n)=fun x=>0:=by
   rw [rC]
   funext x
   refine aW fun g hg=>?_
   rw [← h.gR (dl K g) k,← h.gR u,hz g hg,q8]
  have e3:cv n f e u (fun x=>sm (fun g=>cv n f e (dl K g) (cv n f e k (dl K (iv n f e g))) x) n)=cv n f e u (fun x=>(n:K) * k e * t x):=cW h (fun _ _=>rfl) fun x hx=>by
   rw [← h.zC F ht hs hk.W hx]
   refine al fun g hg=>?_
   rw [h.tX _ hg hx,h.Ek k (G.az hg) (G.cl _ _ (G.az hg) hx),G.cO hg]; rfl
  rw [e3,bb,hu.2] at e2
  refine hu0 (funext fun x=>?_)
  have h2:=congrFun e2 x
  obtain ⟨ni,hni⟩:=F.1 _ hn0
  obtain ⟨ki,hki⟩:=F.1 _ hke
  obtain ⟨si,hsi⟩:=F.1 _ hs
  have h3:(n:K) * k e * (bT n f e t t e * u x)=0:=h2
  grind
 obtain ⟨g,hg,hz0⟩:=h1
 obtain ⟨z,hz⟩:∃ z,z=cv n f e u (cv n f e (dl K g) k):=⟨_,rfl⟩
 rw [← hz] at hz0
 have zk:cv n f e z k=z:=by rw [hz,h.gR,h.gR,hk.id]
 have uz:cv n f e u z=z:=by rw [hz,← h.gR,huu]
 have zs:ij n z:=by rw [hz]; exact db _ _
 obtain ⟨g0,hg0,hzg⟩:∃ g0,g0 < n∧z g0 ≠ 0:=Classical.byContradiction fun hno=>hz0 (zs.ext ij.zero fun g hg=>Classical.byContradiction fun hc=>hno ⟨g,hg,hc⟩)
 obtain ⟨y,hy⟩:∃ y,y=dl K (iv n f e g0):=⟨_,rfl⟩
 have yz:cv n f e y z e=z g0:=by rw [hy,h.tX z (G.az hg0) G.el,G.cO hg0,G.one_r _ hg0]
 obtain ⟨a,ha⟩:=hk.one (cv n f e y z)
 have ha' : cv n f e k (cv n f e y z)=fun x=>a * k x:=by rw [← ha,h.gR y,zk]
 have hae:a * k e=z g0:=by
  have:=congrFun ha' e
  rw [h.Jd,h.gR,zk,yz] at this
  exact this.symm
 have ha0:a ≠ 0:=fun h0=>hzg (by rw [← hae,h0]; grind)
 obtain ⟨b,hb⟩:=F.1 _ ha0
 refine ⟨fun x=>b * cv n f e z (cv n f e y u) x,(hu.mul h y |>.mul h z).smul b,?_,?_,?_,?_⟩
 ·rw [bH,bb]
  have e1:cv n f e (cv n f e z (cv n f e y u)) (cv n f e z (cv n f e y u))=fun x=>a * cv n f e z (cv n f e y u) x:=by
   have e2:cv n f e (cv n f e z (cv n f e y u)) (cv n f e z (cv n f e y u))=cv n f e (cv n f e z (cv n f e k (cv n f e y z))) (cv n f e y u):=by
    rw [← h.gR z k,zk]
    simp only [h.gR]
    rw [← h.gR u z,uz]
   rw [e2,ha',bb,bH,zk]
  rw [e1]
  funext x; grind
 ·rw [bb,← h.gR,uz]
 ·rw [bH,h.gR,h.gR,huu]
 show b * cv n f e z (cv n f e y u) e=k e
 rw [h.Jd,h.gR,uz,yz,← hae]
 grind
theorem EC.ne (R:Rp K p) {t k:Nat→K} {v:Nat} (h2n:2 * n < p) (hk:EC n f e t k v):k e ≠ 0∧(v:K) ≠ 0:=by
 have hv:(v:K) ≠ 0:=fun h0=>by
  have:=R.gW (p:=p) (a:=v) (b:=0) (by have:=hk.le; omega) (by have:=R.two; omega) (by rw [h0]; grind)
  have:=hk.ge; omega
 exact ⟨fun h0=>hv (by rw [← hk.rk,h0]; grind),hv⟩
theorem GC.mult (h:GC n f e c cI xx) (R:Rp K p) (h2n:2 * n < p) (hn0:(n:K) ≠ 0) {t k:Nat→K} {v:Nat} (ht:k9 n f e cI t) (hs:bT n f e t t e ≠ 0) (hk:EC n f e t k v) :
  ∀ r,r≤n→∀ u,WT n f e t u→cv n f e u u=u→(n:K) * u e=(r:K)→v ∣ r:=by
 intro r
 induction r using Nat.strongRecOn with
 | ind r ih =>
  intro hr u hu huu hur
  obtain ⟨hke,hv0⟩:=hk.ne R h2n
  by_cases hu0:u=fun _=>0
  ·have:r=0:=R.gW (p:=p) (by omega) (by have:=R.two; omega) (by rw [← hur,hu0]; grind)
   rw [this]; exact Nat.dvd_zero v
  obtain ⟨j,j1,j2,j3,j4,j5⟩:=h.FA R.fld hn0 ht hs hk hke hu huu hu0
  have hd:WT n f e t fun x=>u x + (-1) * j x:=hu.add (j1.smul _)
  have hdd:cv n f e (fun x=>u x + (-1) * j x) (fun x=>u x + (-1) * j x)=fun x=>u x + (-1) * j x:=by
   rw [fN u (fun x=>(-1) * j x),bH,ej u u,ej j u,bb,bb,huu,j2,j3,j4]
   funext x; grind
  obtain ⟨r2,a1,a2,_⟩:=h.uE R.fld hdd
  have hv:=hk.le
  have e1:r2 + v=r:=R.gW (p:=p) (by omega) (by omega) (by
   rw [Semiring.natCast_add,← a2,← hk.rk,← hur,← j5]; grind)
  have:=ih r2 (by have:=hk.ge; omega) (by omega) _ hd hdd a2
  rw [← e1]
  exact Nat.dvd_add this (Nat.dvd_refl v)
theorem GC.JH (h:GC n f e c cI xx) (R:Rp K p) (h2n:2 * n < p) (hn0:(n:K) ≠ 0) {t k:Nat→K} {v:Nat} (ht:k9 n f e cI t) (hs:bT n f e t t e ≠ 0) (hk:EC n f e t k v):v * v≤n:=by
 have F:=R.fld
 obtain ⟨si,hsi⟩:=F.1 _ hs
 obtain ⟨w1,w2,w3,_⟩:=h.Hc F hn0 ht hsi
 obtain ⟨r,r1,r2,_⟩:=h.uE F w2
 obtain ⟨q,hq⟩:=h.mult R h2n hn0 ht hs hk r r1 _ w1 w2 r2
 obtain ⟨_,hv0⟩:=hk.ne R h2n
 have hv:=hk.le
 have hqn:q≤n:=Nat.le_trans (by rw [hq]; exact Nat.le_mul_of_pos_left q hk.ge) r1
 have:q=v:=R.gW (p:=p) (by omega) (by omega) (by
  have e1:(r:K)=(v:K) * (q:K):=by rw [hq,Semiring.natCast_mul]
  rw [w3] at r2
  have e2:=hk.sq
  obtain ⟨vi,hvi⟩:=F.1 _ hv0
  have e3:(n:K) * si=(v:K) * v:=by rw [← e2]; grind
  have e4:(v:K) * (q:K)=(v:K) * (v:K):=by rw [← e1,← r2,e3]
  grind)
 rw [hq,this] at r1
 exact r1
def sn (g:Nat→Nat):Nat→Nat
 | 0=>0
 | i + 1=>sn g i + g i
theorem ri (g:Nat→Nat):∀ i,((sn g i:Nat):K)=sm (fun q=>((g q:Nat):K)) i
 | 0=>Semiring.natCast_zero
 | i + 1=>by show ((sn g i + g i:Nat):K)=_; rw [Semiring.natCast_add,ri g i]; rfl
theorem GC.xD (h:GC n f e c cI xx) (F:nt K) (hn0:(n:K) ≠ 0) {t t' : Nat→K} (ht:k9 n f e cI t) (ht' : k9 n f e cI t') (hs:bT n f e t t e ≠ 0) (hz:bT n f e t t' e=0) (si si' : K):cv n f e (eH n si t) (eH n si' t')=fun _=>0:=by
 have:∃ a,a < n∧t a ≠ t' a:=Classical.byContradiction fun hno=>by
  have he:∀ a,a < n→t a=t' a:=fun a ha=>Classical.byContradiction fun hc=>hno ⟨a,ha,hc⟩
  refine hs ?_
  rw [← hz]
  exact al fun z hz=>by rw [he _ (h.G.az hz)]
 obtain ⟨a,ha,hne⟩:=this
 rw [cW h (a':=fun x=>si * t x) (fun x hx=>fw si t hx) (b':=fun x=>si' * t' x) fun x hx=>fw si' t' hx,bH,bb]
 funext x
 show si * (si' * cv n f e t t' x)=0
 by_cases hx:x < n
 ·rw [dF _ _ hx,← h.wu t t' hx,h.yM F hn0 ht ht' ha hne hx]; grind
 rw [db t t' x (by omega)]; grind
theorem GC.E6 (h:GC n f e c cI xx) (R:Rp K p) (h2n:2 * n < p) (hn0:(n:K) ≠ 0) {m:Nat} {tt:Nat→Nat→K} {vv:Nat→Nat} (ht:∀ q,q < m→k9 n f e cI (tt q)) (hs:∀ q,q < m→bT n f e (tt q) (tt q) e ≠ 0) (hv:∀ q,q < m→vv q * vv q≤n∧bT n f e (tt q) (tt q) e * ((vv q:K) * vv q)=(n:K))
  (ho:∀ q q',q < m→q' < m→q ≠ q'→bT n f e (tt q) (tt q') e=0):sn (fun q=>vv q * vv q) m≤n:=by
 have F:=R.fld
 have:∀ q,∃ si:K,q < m→bT n f e (tt q) (tt q) e * si=1:=fun q=>by
  by_cases hq:q < m
  ·obtain ⟨si,h1⟩:=F.1 _ (hs q hq); exact ⟨si,fun _=>h1⟩
  exact ⟨0,fun h0=>absurd h0 hq⟩
 obtain ⟨si,hsi⟩:=Classical.axiomOfChoice this
 have key:∀ j,j≤m→cv n f e (fun x=>sm (fun q=>eH n (si q) (tt q) x) j) (fun x=>sm (fun q=>eH n (si q) (tt q) x) j)=(fun x=>sm (fun q=>eH n (si q) (tt q) x) j)∧sn (fun q=>vv q * vv q) j≤n∧(n:K) * sm (fun q=>eH n (si q) (tt q) e) j=(sn (fun q=>vv q * vv q) j:Nat):=by
  intro j
  induction j with
  | zero =>
   intro _
   refine ⟨?_,Nat.zero_le _,?_⟩
   ·show cv n f e (fun _=>0) (fun _=>0)=fun _=>0
    exact q8 _
   show (n:K) * 0=((0:Nat):K)
   rw [Semiring.natCast_zero]; grind
  | succ j ih =>
   intro hj
   obtain ⟨i1,i2,i3⟩:=ih (by omega)
   obtain ⟨w1,w2,w3,_⟩:=h.Hc F hn0 (ht j hj) (hsi j hj)
   have z1:cv n f e (fun x=>sm (fun q=>eH n (si q) (tt q) x) j) (eH n (si j) (tt j))=fun _=>0:=by
    rw [BU]; funext x
    exact aW fun q hq=>by rw [h.xD F hn0 (ht q (by omega)) (ht j hj) (hs q (by omega)) (ho q j (by omega) hj (by omega))]
   have z2:cv n f e (eH n (si j) (tt j)) (fun x=>sm (fun q=>eH n (si q) (tt q) x) j)=fun _=>0:=by
    rw [rC]; funext x
    exact aW fun q hq=>by rw [h.xD F hn0 (ht j hj) (ht q (by omega)) (hs j hj) (ho j q hj (by omega) (by omega))]
   have hid:cv n f e (fun x=>sm (fun q=>eH n (si q) (tt q) x) (j + 1)) (fun x=>sm (fun q=>eH n (si q) (tt q) x) (j + 1))=(fun x=>sm (fun q=>eH n (si q) (tt q) x) (j + 1)):=by
    show cv n f e (fun x=>sm (fun q=>eH n (si q) (tt q) x) j + eH n (si j) (tt j) x) (fun x=>sm (fun q=>eH n (si q) (tt q) x) j + eH n (si j) (tt j) x)=fun x=>sm (fun q=>eH n (si q) (tt q) x) j + eH n (si j) (tt j) x
    rw [fN (fun x=>sm (fun q=>eH n (si q) (tt q) x) j),ej (fun x=>sm (fun q=>eH n (si q) (tt q) x) j) (fun x=>sm (fun q=>eH n (si q) (tt q) x) j),ej (eH n (si j) (tt j)) (fun x=>sm (fun q=>eH n (si q) (tt q) x) j),i1,z1,z2,w2]
    funext x; grind
   obtain ⟨r,r1,r2,_⟩:=h.uE F hid
   obtain ⟨v1,v2⟩:=hv j hj
   have e1:(n:K) * si j=((vv j * vv j:Nat):K):=by
    rw [Semiring.natCast_mul,← v2]
    have:=hsi j hj
    grind
   have e2:(n:K) * sm (fun q=>eH n (si q) (tt q) e) (j + 1)=((sn (fun q=>vv q * vv q) (j + 1):Nat):K):=by
    show (n:K) * (sm (fun q=>eH n (si q) (tt q) e) j + eH n (si j) (tt j) e)=((sn (fun q=>vv q * vv q) j + vv j * vv j:Nat):K)
    rw [Semiring.natCast_add,← i3,w3,← e1]; grind
   have e3:sn (fun q=>vv q * vv q) (j + 1)=r:=R.gW (p:=p) (by show sn _ j + vv j * vv j < p; omega) (by omega) (by rw [← e2,← r2])
   exact ⟨hid,by omega,e2⟩
 exact (key m (Nat.le_refl _)).2.1
end
end Go.Proofs.YtjlmpmidchddjaaDoor
namespace Go.Proofs.YtjlmpmidchddjaaDoor
open Lean.Grind
attribute [local instance] Lean.Grind.Semiring.natCast Lean.Grind.Ring.intCast
theorem tR {α β:Type} (g:α→β) {l1 l2:List β} (h:l1.Perm l2):∀ l' : List α,l2=l'.map g→∃ l'' : List α,l''.Perm l'∧l1=l''.map g:=by
 induction h with
 | nil=>intro l' h; exact ⟨l',List.Perm.refl _,h⟩
 | cons x h ih =>
  intro l' h2
  cases l' with
  | nil=>cases h2
  | cons y l' =>
   rw [List.map_cons] at h2
   injection h2 with h3 h4
   obtain ⟨l'',a,b⟩:=ih l' h4
   exact ⟨y :: l'',a.cons y,by rw [List.map_cons,h3,b]⟩
 | swap x y l =>
  intro l' h2
  match l',h2 with
  | [],h2=>cases h2
  | [z],h2=>cases h2
  | z :: w :: l',h2 =>
   simp only [List.map_cons] at h2
   injection h2 with h3 h4
   injection h4 with h4 h5
   exact ⟨w :: z :: l',List.Perm.swap z w l',by simp only [List.map_cons]; rw [h3,h4,h5]⟩
 | trans h1 h2 ih1 ih2 =>
  intro l' h
  obtain ⟨m,a,b⟩:=ih2 l' h
  obtain ⟨m',a',b'⟩:=ih1 m b
  exact ⟨m',a'.trans a,b'⟩
section
variable {n e c:Nat} {f:Nat→Nat→Nat} {cI xx:Nat→Nat} {K:Type} [CommRing K] {p:Nat}
structure eu (K:Type) [CommRing K] (n:Nat) (f:Nat→Nat→Nat) (e c:Nat) (cI:Nat→Nat) (tt:Nat→Nat→K) (vv:Nat→Nat):Prop where
 chr:∀ i,i < c→k9 n f e cI (tt i)
 nz:∀ i,i < c→bT n f e (tt i) (tt i) e ≠ 0
 Hr:∀ i,i < c→∃ k,EC n f e (tt i) k (vv i)
 ge:∀ i,i < c→1≤vv i
 sq:∀ i,i < c→vv i * vv i≤n∧bT n f e (tt i) (tt i) e * ((vv i:K) * vv i)=(n:K)
 ort:∀ i j,i < c→j < c→i ≠ j→bT n f e (tt i) (tt j) e=0
 Hm:∀ a,a < n→sm (fun i=>(vv i:K) * vv i * tt i a) c=if a=e then (n:K) else 0
 sum:sn (fun i=>vv i * vv i) c=n
 all:∀ t,k9 n f e cI t→∃ i,i < c∧∀ a,a < n→t a=tt i a
theorem Fk {g g' : Nat→Nat} : ∀ {m:Nat},(∀ i,i < m→g i≤g' i)→sn g m≤sn g' m
 | 0,_=>Nat.le_refl _
 | m + 1,h=>Nat.add_le_add (Fk fun i hi=>h i (by omega)) (h m (by omega))
end
variable {n e:Nat} {m:List Int}
theorem G5 (h:GT n m n e):aK m n e∈HL:=by
 have hd:=jz h n (Nat.le_refl _)
 have h1:=h.2.1.pos
 have h2:=h.2.1.big
 have a:=List.all_eq_true.1 Cb n (List.mem_range.2 (by omega))
 have hE:=Nat.le_of_dvd (by omega) hd
 have b:=List.all_eq_true.1 a (fL m n e n) (List.mem_range.2 (by omega))
 simp only [Bool.or_eq_true,decide_eq_true_eq] at b
 rcases b with (b | b) | b
 ·omega
 ·exact absurd (Nat.mod_eq_zero_of_dvd hd) b
 exact List.contains_iff_mem.1 b
theorem Em (h:GT n m n e) [NeZero (aK m n e)]:∃ (tt:Nat→Nat→Fin (aK m n e)) (vv:Nat→Nat),eu (Fin (aK m n e)) n (op m n) e (aZ m n e) (bW m n e) tt vv ∧
  ∀ i,i < aZ m n e→(∀ a,a < n→(vc ((nX m n e).getD i []) (bW m n e a):Fin (aK m n e))=(vv i:Nat) * tt i a)∧((nX m n e).getD i []).getD (rh m n e) 0=(vv i:Nat):=by
 obtain ⟨P,p1,p2⟩:=ub h
 have hp3:=P.three
 have H:=mM h
 have C:=u3 h
 have G:=h.2.2
 have R:=H.R
 have F:=R.fld
 obtain ⟨lam,Fm⟩:=H.IZ
 have hSl:(dN m n e).length=aZ m n e:=Fm.len
 have hrng:(dN m n e).map (jb m n e)=(List.range (aZ m n e)).map fun q=>jb m n e ((dN m n e).getD q []):=by
  refine List.ext_getElem (by simp [hSl]) fun q hq _=>?_
  simp only [List.length_map] at hq
  simp [List.getD,List.getElem?_eq_getElem hq]
 obtain ⟨L,hL,hT⟩:=tR (fun q=>jb m n e ((dN m n e).getD q [])) (um m n e) _ hrng
 have hLl:L.length=aZ m n e:=by rw [hL.length_eq,List.length_range]
 have hLn:L.Nodup:=hL.nodup_iff.2 List.nodup_range
 have hLm:∀ i,i < aZ m n e→L.getD i 0 < aZ m n e:=fun i hi=>List.mem_range.1 (hL.mem_iff.1 (aC (by omega)))
 have hLi:∀ i j,i < aZ m n e→j < aZ m n e→L.getD i 0=L.getD j 0→i=j:=fun i j hi hj hij=>by
  refine (List.getElem_inj hLn (h₀:=by omega) (h₁:=by omega)).1 ?_
  simpa [List.getD,List.getElem?_eq_getElem (show i < L.length by omega),List.getElem?_eq_getElem (show j < L.length by omega)] using hij
 have hTg:∀ i,i < aZ m n e→(nX m n e).getD i []=jb m n e ((dN m n e).getD (L.getD i 0) []):=fun i hi=>by
  rw [hT]; simp [List.getD,List.getElem?_map,List.getElem?_eq_getElem (show i < L.length by omega)]
 have hpr:∀ i,∃ v:Nat,i < aZ m n e→∃ k,EC n (op m n) e (bp (bW m n e) (fun i=>((dQ (aK m n e) (c9 m n e i:Nat):Int):Fin (aK m n e))) (lam (L.getD i 0))) k v:=fun i=>by
  by_cases hi:i < aZ m n e
  ·obtain ⟨v,hv⟩:=C.Iw R (fun a=>uV a) (fun d d1 d2=>Hg (G5 h) d1 (by have:=h.2.1.big; omega)) p1 H.nz H.cz (fun a ha=>zu h ha) (Fm.chr _ (hLm i hi)) (Fm.nz _ (hLm i hi))
   exact ⟨v,fun _=>hv⟩
  exact ⟨0,fun h0=>absurd h0 hi⟩
 obtain ⟨vv,hvv⟩:=Classical.axiomOfChoice hpr
 have hsq:∀ i,i < aZ m n e→vv i * vv i≤n:=fun i hi=>by
  obtain ⟨k,hk⟩:=hvv i hi
  exact C.JH R p1 H.nz (Fm.chr _ (hLm i hi)) (Fm.nz _ (hLm i hi)) hk
 have hle:∀ i,i < aZ m n e→1≤vv i∧vv i≤n:=fun i hi=>by
  obtain ⟨k,hk⟩:=hvv i hi
  exact ⟨hk.ge,hk.le⟩
 have hss:∀ i,i < aZ m n e→bT n (op m n) e (bp (bW m n e) (fun i=>((dQ (aK m n e) (c9 m n e i:Nat):Int):Fin (aK m n e))) (lam (L.getD i 0))) (bp (bW m n e) (fun i=>((dQ (aK m n e) (c9 m n e i:Nat):Int):Fin (aK m n e))) (lam (L.getD i 0))) e * (((vv i:Nat):Fin (aK m n e)) * ((vv i:Nat):Fin (aK m n e)))=(n:Nat):=fun i hi=>by
  obtain ⟨k,hk⟩:=hvv i hi
  exact hk.sq
 have hdv:∀ i,i < aZ m n e→p8 (aK m n e) n (bW m n e e) (aZ m n e) (kO m n e) (c9 m n e) ((dN m n e).getD (L.getD i 0) [])=vv i:=fun i hi=>by
  have hr:=sM h Fm (hLm i hi)
  obtain ⟨v1,v2⟩:=hle i hi
  have h1:=hr.mn (vv i) v1 (by omega) (hss i hi)
  have h2:=hr.dd
  have h3:=hss i hi
  have hz:=Fm.nz _ (hLm i hi)
  have hd1:1≤p8 (aK m n e) n (bW m n e e) (aZ m n e) (kO m n e) (c9 m n e) ((dN m n e).getD (L.getD i 0) []):=by unfold p8 H7; omega
  have h0:p8 (aK m n e) n (bW m n e e) (aZ m n e) (kO m n e) (c9 m n e) ((cZ (aK m n e) (fI m n e) [aP (aZ m n e) (aZ m n e)] (aZ m n e)).getD (L.getD i 0) [])=p8 (aK m n e) n (bW m n e e) (aZ m n e) (kO m n e) (c9 m n e) ((dN m n e).getD (L.getD i 0) []):=rfl
  rw [h0] at h1 h2
  generalize p8 (aK m n e) n (bW m n e e) (aZ m n e) (kO m n e) (c9 m n e) ((dN m n e).getD (L.getD i 0) [])=d at *
  generalize bT n (op m n) e (bp (bW m n e) (fun i=>((dQ (aK m n e) (c9 m n e i:Nat):Int):Fin (aK m n e))) (lam (L.getD i 0))) (bp (bW m n e) (fun i=>((dQ (aK m n e) (c9 m n e i:Nat):Int):Fin (aK m n e))) (lam (L.getD i 0))) e=s at *
  obtain ⟨si,hsi⟩:=F.1 _ hz
  have h4:(((d:Nat):Fin (aK m n e)) - ((vv i:Nat):Fin (aK m n e))) * (((d:Nat):Fin (aK m n e)) + ((vv i:Nat):Fin (aK m n e)))=0:=by grind
  rcases F.mul h4 with h5 | h5
  ·exact R.gW (p:=aK m n e) (by omega) (by omega) (by grind)
  exfalso
  exact uD (p:=aK m n e) (d + vv i) (by omega) (by omega) (by rw [Semiring.natCast_add]; exact h5)
 have hort:∀ i j,i < aZ m n e→j < aZ m n e→i ≠ j→bT n (op m n) e (bp (bW m n e) (fun i=>((dQ (aK m n e) (c9 m n e i:Nat):Int):Fin (aK m n e))) (lam (L.getD i 0))) (bp (bW m n e) (fun i=>((dQ (aK m n e) (c9 m n e i:Nat):Int):Fin (aK m n e))) (lam (L.getD j 0))) e=0:=fun i j hi hj hij=>Fm.ort _ _ (hLm i hi) (hLm j hj) fun hh=>hij (hLi i j hi hj hh)
 have hent:∀ i,i < aZ m n e→∀ a,a < n→(vc ((nX m n e).getD i []) (bW m n e a):Fin (aK m n e))=(vv i:Nat) * bp (bW m n e) (fun i=>((dQ (aK m n e) (c9 m n e i:Nat):Int):Fin (aK m n e))) (lam (L.getD i 0)) a:=fun i hi a ha=>by
  have hr:=sM h Fm (hLm i hi)
  have hw:(vc (wK (aK m n e) (rh m n e) ((dN m n e).getD (L.getD i 0) [])):Nat→Fin (aK m n e))=lam (L.getD i 0):=hr.w
  rw [hTg i hi]
  unfold jb
  rw [Fs R (ez h ha).1,hw]
  have hd:p8 (aK m n e) n (rh m n e) (aZ m n e) (kO m n e) (c9 m n e) ((dN m n e).getD (L.getD i 0) [])=vv i:=hdv i hi
  rw [hd]
  unfold bp
  grind
 have hch:∀ i,i < aZ m n e→k9 n (op m n) e (bW m n e) (bp (bW m n e) (fun i=>((dQ (aK m n e) (c9 m n e i:Nat):Int):Fin (aK m n e))) (lam (L.getD i 0))):=fun i hi=>Fm.chr _ (hLm i hi)
 have hnz:∀ i,i < aZ m n e→bT n (op m n) e (bp (bW m n e) (fun i=>((dQ (aK m n e) (c9 m n e i:Nat):Int):Fin (aK m n e))) (lam (L.getD i 0))) (bp (bW m n e) (fun i=>((dQ (aK m n e) (c9 m n e i:Nat):Int):Fin (aK m n e))) (lam (L.getD i 0))) e ≠ 0:=fun i hi=>Fm.nz _ (hLm i hi)
 have hcol:∀ a,a < n→sm (fun i=>((vv i:Nat):Fin (aK m n e)) * ((vv i:Nat):Fin (aK m n e)) * bp (bW m n e) (fun i=>((dQ (aK m n e) (c9 m n e i:Nat):Int):Fin (aK m n e))) (lam (L.getD i 0)) a) (aZ m n e)=if a=e then ((n:Nat):Fin (aK m n e)) else 0:=fun a ha=>by
  obtain ⟨t1,t2,t3,t4,t5⟩:=lh h
  have hal:=(ez h ha).1
  have hol:=(ez h G.el).1
  have h5:=t5 (bW m n e e) (bW m n e a) hol hal
  rw [xP,t3] at h5
  have hOx:qY m n e (bW m n e e)=e:=by
   have hx:=C.xl _ hol
   exact C.AE hx (C.cx _ hol)
  have hJO:kO m n e (bW m n e e)=bW m n e e:=by
   unfold kO
   rw [hOx,G.eJ]
  rw [hJO] at h5
  have e1:sm (fun i=>(vc ((nX m n e).getD i []) (bW m n e a):Fin (aK m n e)) * vc ((nX m n e).getD i []) (bW m n e e)) (aZ m n e)=sm (fun i=>((vv i:Nat):Fin (aK m n e)) * ((vv i:Nat):Fin (aK m n e)) * bp (bW m n e) (fun i=>((dQ (aK m n e) (c9 m n e i:Nat):Int):Fin (aK m n e))) (lam (L.getD i 0)) a) (aZ m n e):=al fun i hi=>by
   rw [hent i hi a ha,hent i hi e G.el,(hch i hi).one]; grind
  rw [e1] at h5
  by_cases hae:a=e
  ·rw [if_pos hae]
   rw [if_pos (by rw [hae])] at h5
   have hS1:c9 m n e (bW m n e a)=1:=by
    have hk:=oX (K:=Fin (aK m n e)) h hol
    have hk1:se (Fin (aK m n e)) n (bW m n e) (bW m n e e)=1:=C.pC G.el _ (fun g hg hge hne=>absurd (C.AE hg hge) hne) rfl
    rw [hk1] at hk
    have:=jJ h hol
    rw [hae]
    refine (R.gW (p:=aK m n e) (by omega) (by omega) ?_)
    rw [← hk,Semiring.natCast_one]
   rw [hS1] at h5
   rw [← h5]
   have:((1:Nat):Fin (aK m n e))=1:=Semiring.natCast_one
   rw [this]; grind
  rw [if_neg hae]
  rw [if_neg (fun hh=>hae (C.AE ha hh.symm))] at h5
  have hS:=jJ h hal
  rcases F.mul h5 with h6 | h6
  ·exact h6
  exact absurd h6 (uD _ hS.1 (by omega))
 have hsum0:=C.E6 R p1 H.nz (m:=aZ m n e) (vv:=vv) hch hnz (fun i hi=>⟨hsq i hi,hss i hi⟩) hort
 refine ⟨_,vv,⟨hch,hnz,hvv,fun i hi=>(hle i hi).1,fun i hi=>⟨hsq i hi,hss i hi⟩,hort,hcol,?_,fun t ht=>?_⟩,fun i hi=>⟨hent i hi,?_⟩⟩
 ·have h1:=hcol e G.el
  rw [if_pos rfl] at h1
  refine R.gW (p:=aK m n e) (by omega) (by omega) ?_
  rw [ri,← h1]
  exact al fun i hi=>by rw [(hch i hi).one,Semiring.natCast_mul]; grind
 ·refine Classical.byContradiction fun hno=>?_
  have hne:∀ i,i < aZ m n e→∃ a,a < n∧t a ≠ bp (bW m n e) (fun i=>((dQ (aK m n e) (c9 m n e i:Nat):Int):Fin (aK m n e))) (lam (L.getD i 0)) a:=fun i hi=>Classical.byContradiction fun hc=>hno ⟨i,hi,fun a ha=>Classical.byContradiction fun hc2=>hc ⟨a,ha,hc2⟩⟩
  have ho:∀ i,i < aZ m n e→∀ b,b < n→bT n (op m n) e t (bp (bW m n e) (fun i=>((dQ (aK m n e) (c9 m n e i:Nat):Int):Fin (aK m n e))) (lam (L.getD i 0))) b=0:=fun i hi b hb=>by
   obtain ⟨a,ha,h1⟩:=hne i hi
   exact C.yM F H.nz ht (hch i hi) ha h1 hb
  have h1:sm (fun w=>t w * sm (fun i=>((vv i:Nat):Fin (aK m n e)) * ((vv i:Nat):Fin (aK m n e)) * bp (bW m n e) (fun i=>((dQ (aK m n e) (c9 m n e i:Nat):Int):Fin (aK m n e))) (lam (L.getD i 0)) (op m n (iv n (op m n) e w) e)) (aZ m n e)) n=0:=by
   have e1:∀ w,w < n→t w * sm (fun i=>((vv i:Nat):Fin (aK m n e)) * ((vv i:Nat):Fin (aK m n e)) * bp (bW m n e) (fun i=>((dQ (aK m n e) (c9 m n e i:Nat):Int):Fin (aK m n e))) (lam (L.getD i 0)) (op m n (iv n (op m n) e w) e)) (aZ m n e)=sm (fun i=>((vv i:Nat):Fin (aK m n e)) * ((vv i:Nat):Fin (aK m n e)) * (t w * bp (bW m n e) (fun i=>((dQ (aK m n e) (c9 m n e i:Nat):Int):Fin (aK m n e))) (lam (L.getD i 0)) (op m n (iv n (op m n) e w) e))) (aZ m n e):=fun w hw=>by
    rw [← aN]; exact al fun i hi=>by grind
   rw [al e1,aX]
   refine aW fun i hi=>?_
   rw [aN,← C.wu _ _ G.el,ho i hi e G.el]; grind
  rw [bj (i:=e) G.el fun w hw hwe=>by
   rw [hcol _ (G.cl _ _ (G.az hw) G.el),if_neg fun hh=>hwe (by rw [G.one_r _ (G.az hw)] at hh; rw [← G.cO hw,hh,G.eJ])]; grind] at h1
  rw [G.eJ,G.one_l e G.el,hcol e G.el,if_pos rfl,ht.one] at h1
  exact H.nz (by grind)
 have hr:(nX m n e).getD i []∈nX m n e:=aC (by rw [(lh h).2.2.1]; exact hi)
 have hrg:=((lh h).2.2.2.1 _ hr).2
 have h1:=hent i hi e G.el
 rw [(hch i hi).one] at h1
 have:=hle i hi
 refine J7 R (hrg _) ⟨by omega,by omega⟩ ?_
 rw [R.bA]
 show (vc ((nX m n e).getD i []) (bW m n e e):Fin (aK m n e))=_
 rw [h1]; grind
end Go.Proofs.YtjlmpmidchddjaaDoor
namespace Go.Proofs.YtjlmpmidchddjaaDoor
open Lean.Grind
attribute [local instance] Lean.Grind.Semiring.natCast Lean.Grind.Ring.intCast
section
variable {n e c:Nat} {f:Nat→Nat→Nat} {cI xx:Nat→Nat} {K:Type} [CommRing K] {p:Nat}
theorem GC.Ec (h:GC n f e c cI xx) {y a b:Nat} (hy:y < n) (ha:a < n) (hb:b < n):f (cM n f e y a) (cM n f e y b)=cM n f e y (f a b):=by
 have G:=h.G
 have hi:=G.az hy
 unfold cM
 rw [G.assoc _ _ _ (G.cl _ _ hi ha) hy (G.cl _ _ (G.cl _ _ hi hb) hy),← G.assoc y _ y hy (G.cl _ _ hi hb) hy,h.nY hy hb,← G.assoc _ _ _ (G.cl _ _ hi ha) hb hy,G.assoc _ _ _ hi ha hb]
def qv (n:Nat) (f:Nat→Nat→Nat) (t:Nat→K):K:=sm (fun g=>t (f g g)) n
theorem GC.J6 (h:GC n f e c cI xx) (F:nt K) (hn:(n:K) ≠ 0) {t:Nat→K} (ht:k9 n f e cI t) {x:Nat} (hx:x < n):sm (fun g=>t (f (f g g) x)) n=qv n f t * t x:=by
 have G:=h.G
 have e1:(n:K) * sm (fun g=>t (f (f g g) x)) n=(n:K) * (qv n f t * t x):=by
  have e2:∀ y,y < n→sm (fun g=>t (f (f g g) x)) n=sm (fun g=>t (f (cM n f e y (f g g)) x)) n:=fun y hy=>by
   rw [← h.CN hy fun g=>t (f (f g g) x)]
   exact al fun g hg=>by rw [h.Ec hy hg hg]
  rw [← dT,al e2,aX]
  rw [al (g:=fun g=>(n:K) * (t (f g g) * t x)) fun g hg=>ht.mul _ _ (G.cl _ _ hg hg) hx,aN,bU]
  rfl
 obtain ⟨ni,hni⟩:=F.1 _ hn
 grind
theorem GC.H8 (h:GC n f e c cI xx) (F:nt K) (hn:(n:K) ≠ 0) {t:Nat→K} (ht:k9 n f e cI t):qv n f t * qv n f t=(n:K) * bT n f e t t e∨qv n f t=0:=by
 have G:=h.G
 have e1:qv n f t * qv n f t=(n:K) * sm (fun a=>t a * t a) n:=by
  have e2:∀ k,k < n→qv n f t * t (f k k)=sm (fun g=>t (f (f g g) (f k k))) n:=fun k hk=>(h.J6 F hn ht (G.cl _ _ hk hk)).symm
  have e3:qv n f t * qv n f t=sm (fun k=>sm (fun g=>t (f (f g g) (f k k))) n) n:=by
   rw [← al e2,aN]; rfl
  rw [e3,aX]
  have e4:∀ g,g < n→sm (fun k=>t (f (f g g) (f k k))) n=sm (fun a=>t (f (cM n f e (iv n f e g) a) a)) n:=fun g hg=>by
   have hi:=G.az hg
   rw [← h.fu hi fun k=>t (f (f g g) (f k k))]
   refine al fun a ha=>?_
   have:f (f g g) (f (f (iv n f e g) a) (f (iv n f e g) a))=f (cM n f e (iv n f e g) a) a:=by
    unfold cM
    rw [G.cO hg,G.assoc g g _ hg hg (G.cl _ _ (G.cl _ _ hi ha) (G.cl _ _ hi ha)),← G.assoc g (f (iv n f e g) a) _ hg (G.cl _ _ hi ha) (G.cl _ _ hi ha),h.nY hg ha,← G.assoc a (iv n f e g) a ha hi ha,← G.assoc g (f a (iv n f e g)) a hg (G.cl _ _ ha hi) ha,← G.assoc g a _ hg ha hi]
   rw [this]
  rw [al e4,aX]
  have e5:∀ a,a < n→sm (fun g=>t (f (cM n f e (iv n f e g) a) a)) n=(n:K) * (t a * t a):=fun a ha=>by
   rw [h.BN fun g=>t (f (cM n f e g a) a)]
   exact ht.mul a a ha ha
  rw [al e5,aN]
 rcases h.real F hn ht with hr | hr
 ·left
  rw [e1]
  congr 1
  show _=sm (fun z=>t (f e z) * t (iv n f e z)) n
  exact al fun z hz=>by rw [G.one_l z hz,← hr z hz]
 right
 have e2:sm (fun a=>t a * t a) n=0:=by
  rw [← hr]
  exact al fun z hz=>by
   show _=t (f e z) * t (iv n f e (iv n f e z))
   rw [G.one_l z hz,G.cO hz]
 rw [e2] at e1
 have e3:qv n f t * qv n f t=0:=by rw [e1]; grind
 rcases F.mul e3 with h1 | h1<;>exact h1
theorem eu.ind (h:GC n f e c cI xx) (F:nt K) (hn:(n:K) ≠ 0) {tt:Nat→Nat→K} {vv:Nat→Nat} (A:eu K n f e c cI tt vv) {ni:K} (hni:(n:K) * ni=1) {i:Nat} (hi:i < c) :
  (vv i:K) * qv n f (tt i) * ni=0∨(vv i:K) * qv n f (tt i) * ni=1∨(vv i:K) * qv n f (tt i) * ni = -1:=by
 rcases h.H8 F hn (A.chr i hi) with h1 | h1
 ·right
  obtain ⟨_,h2⟩:=A.sq i hi
  have e1:((vv i:K) * qv n f (tt i) * ni - 1) * ((vv i:K) * qv n f (tt i) * ni + 1)=0:=by
   have e2:((vv i:K) * qv n f (tt i) * ni) * ((vv i:K) * qv n f (tt i) * ni)=1:=by
    have e3:(vv i:K) * vv i * (qv n f (tt i) * qv n f (tt i))=(n:K) * n:=by rw [h1]; grind
    grind
   grind
  rcases F.mul e1 with h3 | h3
  ·left; grind
  right; grind
 left; rw [h1]; grind
end
end Go.Proofs.YtjlmpmidchddjaaDoor
namespace Go.Proofs.YtjlmpmidchddjaaDoor
open Lean.Grind
attribute [local instance] Lean.Grind.Semiring.natCast Lean.Grind.Ring.intCast
section
variable {n e c:Nat} {f:Nat→Nat→Nat} {cI xx:Nat→Nat} {K:Type} [CommRing K] {p:Nat} {TT:List (List (List Int))} {io:Nat→K}
theorem jf.I1 (h:jf K p n f e c cI xx TT io):io (cI e)=1∧xx (cI e)=e:=by
 have C:=h.C
 have G:=C.G
 have hol:=C.lt e G.el
 have h1:=h.io (cI e) hol
 have hk1:se K n cI (cI e)=1:=C.pC G.el _ (fun g hg hge hne=>absurd (C.AE hg hge) hne) rfl
 rw [hk1] at h1
 exact ⟨by rw [← h1]; grind,C.AE (C.xl _ hol) (C.cx _ hol)⟩
theorem jf.Jj (h:jf K p n f e c cI xx TT io) (hsur:∀ a:K,∃ x:Nat,x < p∧(x:K)=a) (hw:∀ d,2≤d→d≤n→Hw p d) (p1:2 * n < p):∃ (tt:Nat→Nat→K) (vv:Nat→Nat),eu K n f e c cI tt vv:=by
 have C:=h.C
 have G:=C.G
 have R:=h.R
 have F:=R.fld
 obtain ⟨lam,Fm⟩:=h.IZ
 have hpr:∀ i,∃ v:Nat,i < c→∃ k,EC n f e (bp cI io (lam i)) k v:=fun i=>by
  by_cases hi:i < c
  ·obtain ⟨v,hv⟩:=C.Iw R hsur hw p1 h.nz h.cz h.pw (Fm.chr i hi) (Fm.nz i hi)
   exact ⟨v,fun _=>hv⟩
  exact ⟨0,fun h0=>absurd h0 hi⟩
 obtain ⟨vv,hvv⟩:=Classical.axiomOfChoice hpr
 have hsq:∀ i,i < c→vv i * vv i≤n∧bT n f e (bp cI io (lam i)) (bp cI io (lam i)) e * ((vv i:K) * vv i)=(n:K):=fun i hi=>by
  obtain ⟨k,hk⟩:=hvv i hi
  exact ⟨C.JH R p1 h.nz (Fm.chr i hi) (Fm.nz i hi) hk,hk.sq⟩
 have hge:∀ i,i < c→1≤vv i:=fun i hi=>by
  obtain ⟨k,hk⟩:=hvv i hi
  exact hk.ge
 obtain ⟨I1,xo1⟩:=h.I1
 have hcol:∀ a,a < n→sm (fun i=>(vv i:K) * vv i * bp cI io (lam i) a) c=if a=e then (n:K) else 0:=fun a ha=>by
  have hal:=C.lt a ha
  have hol:=C.lt e G.el
  have h5:=Db.Hm h Fm (d:=fun q=>(vv q:K)) (fun q hq=>by have:=(hsq q hq).2; grind) hol hal
  have e1:sm (fun i=>(vv i:K) * vv i * bp cI io (lam i) a) c=sm (fun q=>((vv q:K) * lam q (cI a) * io (cI a)) * ((vv q:K) * lam q (cI (iv n f e (xx (cI e)))) * io (cI e))) c:=al fun q hq=>by
   rw [xo1,G.eJ,Fm.one q hq,I1]
   unfold bp
   grind
  rw [e1,h5]
  by_cases hae:a=e
  ·rw [if_pos hae,if_pos (by rw [hae]),hae,I1]; grind
  rw [if_neg hae,if_neg fun hh=>hae (C.AE ha hh.symm)]
 have hsum0:=C.E6 R p1 h.nz (m:=c) (vv:=vv) Fm.chr Fm.nz hsq Fm.ort
 refine ⟨_,vv,⟨Fm.chr,Fm.nz,hvv,hge,hsq,Fm.ort,hcol,?_,fun t ht=>?_⟩⟩
 ·have h1:=hcol e G.el
  rw [if_pos rfl] at h1
  refine R.gW (p:=p) (by omega) (by omega) ?_
  rw [ri,← h1]
  exact al fun i hi=>by rw [(Fm.chr i hi).one,Semiring.natCast_mul]; grind
 refine Classical.byContradiction fun hno=>?_
 have hne:∀ i,i < c→∃ a,a < n∧t a ≠ bp cI io (lam i) a:=fun i hi=>Classical.byContradiction fun hc=>hno ⟨i,hi,fun a ha=>Classical.byContradiction fun hc2=>hc ⟨a,ha,hc2⟩⟩
 have ho:∀ i,i < c→∀ b,b < n→bT n f e t (bp cI io (lam i)) b=0:=fun i hi b hb=>by
  obtain ⟨a,ha,h1⟩:=hne i hi
  exact C.yM F h.nz ht (Fm.chr i hi) ha h1 hb
 have h1:sm (fun w=>t w * sm (fun i=>(vv i:K) * vv i * bp cI io (lam i) (f (iv n f e w) e)) c) n=0:=by
  have e1:∀ w,w < n→t w * sm (fun i=>(vv i:K) * vv i * bp cI io (lam i) (f (iv n f e w) e)) c=sm (fun i=>(vv i:K) * vv i * (t w * bp cI io (lam i) (f (iv n f e w) e))) c:=fun w hw=>by
   rw [← aN]; exact al fun i hi=>by grind
  rw [al e1,aX]
  refine aW fun i hi=>?_
  rw [aN,← C.wu _ _ G.el,ho i hi e G.el]; grind
 rw [bj (i:=e) G.el fun w hw hwe=>by
  rw [hcol _ (G.cl _ _ (G.az hw) G.el),if_neg fun hh=>hwe (by rw [G.one_r _ (G.az hw)] at hh; rw [← G.cO hw,hh,G.eJ])]; grind] at h1
 rw [G.eJ,G.one_l e G.el,hcol e G.el,if_pos rfl,ht.one] at h1
 exact h.nz (by grind)
end
theorem DE {n e : Nat} {m : List Int} (h : GT n m n e) {p : Nat} [NeZero p] (P : PG p) (p1 : 2 * n < p) (hpw : ∀ a, a < n → pw (op m n) e a p = a) : jf (Fin p) p n (op m n) e (aZ m n e) (bW m n e) (qY m n e) (fI m n e) (fun i => ((dQ p (c9 m n e i : Nat) : Int) : Fin p)) := by
  have R := wZ P
  have hb := h.2.1.pos
  exact {
    C := u3 h
    R := R
    nz := uD n (by omega) (by omega)
    cz := uD
    io := fun i hi => by
      obtain ⟨s1, s2, _⟩ := jJ h hi
      have := R.toRd.inv (x := (c9 m n e i : Nat)) (by omega) (by omega)
      rw [oX h hi]
      rwa [R.bA] at this
    pw := hpw
    len := fun i hi => by
      have e1 : (fI m n e).getD i [] = jc (aZ m n e) (ct n (op m n) e i) := by simp [fI, List.getD, List.getElem?_map, List.getElem?_range hi]
      rw [e1, dD]
    zl := fun i j k hi hj hk => Bs h hi hj hk }
section
variable {n e c:Nat} {f:Nat→Nat→Nat} {cI xx:Nat→Nat} {K:Type} [CommRing K] {p:Nat}
theorem eu.mO (h:GC n f e c cI xx) (R:Rp K p) (h2n:2 * n < p) (hn0:(n:K) ≠ 0) {tt:Nat→Nat→K} {vv:Nat→Nat} (A:eu K n f e c cI tt vv) {i:Nat} (hi:i < c) (hv:vv i=1) {a b:Nat} (ha:a < n) (hb:b < n):tt i (f a b)=tt i a * tt i b:=by
 have G:=h.G
 have F:=R.fld
 obtain ⟨k,hk⟩:=A.Hr i hi
 have ht:=A.chr i hi
 have hs:=A.nz i hi
 have hq:=hk.sq
 rw [hv] at hk hq
 rw [Semiring.natCast_one] at hq
 obtain ⟨si,hsi⟩:=F.1 _ hs
 obtain ⟨w1,w2,w3,w4⟩:=h.Hc F hn0 ht hsi
 have ke:cv n f e k (eH n si (tt i))=k:=(w4 k hk.W.1).1 hk.W
 have hTc:cv n f e (eH n si (tt i)) k=cv n f e k (eH n si (tt i)):=by
  rw [cW h (a':=fun x=>si * tt i x) (fun x hx=>fw si (tt i) hx) (b':=k) (fun _ _=>rfl),bH,h.Ju ht.cl]
  rw [cW h (a:=k) (a':=k) (b:=eH n si (tt i)) (fun _ _=>rfl) (b':=fun x=>si * tt i x) (fun x hx=>fw si (tt i) hx),bb]
 have hdd:cv n f e (fun x=>eH n si (tt i) x + (-1) * k x) (fun x=>eH n si (tt i) x + (-1) * k x)=fun x=>eH n si (tt i) x + (-1) * k x:=by
  rw [fN (eH n si (tt i)) (fun x=>(-1) * k x),bH,ej (eH n si (tt i)) (eH n si (tt i)),ej k (eH n si (tt i)),bb,bb,w2,hTc,ke,hk.id]
  funext x; grind
 obtain ⟨r,r1,r2,r3⟩:=h.uE F hdd
 have hr0:r=0:=R.gW (p:=p) (by omega) (by have:=R.two; omega) (by
  have e1:=hk.rk
  rw [Semiring.natCast_one] at e1
  rw [← r2,w3,Semiring.natCast_zero]
  have e2:(n:K) * si=1:=by rw [← hq]; grind
  grind)
 have hek:∀ x,eH n si (tt i) x=k x:=fun x=>by
  have:=congrFun (r3 hr0) x
  grind
 have hiv:=G.az ha
 obtain ⟨l,hl⟩:=hk.one (dl K (iv n f e a))
 have e1:cv n f e k (cv n f e (dl K (iv n f e a)) k)=cv n f e (dl K (iv n f e a)) k:=by
  rw [← ke,cW h (a:=cv n f e k (eH n si (tt i))) (a':=eH n si (tt i)) (fun x _=>by rw [ke]; exact (hek x).symm) (b':=cv n f e (dl K (iv n f e a)) (cv n f e k (eH n si (tt i)))) (fun _ _=>rfl),ke]
  have e2:cv n f e (eH n si (tt i)) (cv n f e (dl K (iv n f e a)) k)=cv n f e (cv n f e (dl K (iv n f e a)) k) (eH n si (tt i)):=by
   rw [cW h (a':=fun x=>si * tt i x) (fun x hx=>fw si (tt i) hx) (b':=cv n f e (dl K (iv n f e a)) k) (fun _ _=>rfl),bH,h.Ju ht.cl]
   rw [cW h (a:=cv n f e (dl K (iv n f e a)) k) (a':=cv n f e (dl K (iv n f e a)) k) (b:=eH n si (tt i)) (fun _ _=>rfl) (b':=fun x=>si * tt i x) (fun x hx=>fw si (tt i) hx),bb]
  rw [e2,h.gR,ke]
 rw [e1] at hl
 have hval:∀ x,x < n→tt i (f a x)=l * tt i x:=fun x hx=>by
  have h1:=congrFun hl x
  rw [h.tX k hiv hx,G.cO ha,← hek,← hek,fw _ _ (G.cl _ _ ha hx),fw _ _ hx] at h1
  have h2:bT n f e (tt i) (tt i) e * (si * tt i (f a x))=bT n f e (tt i) (tt i) e * (l * (si * tt i x)):=by rw [h1]
  grind
 have h0:=hval e G.el
 rw [G.one_r a ha,ht.one] at h0
 rw [hval b hb,h0]; grind
end
end Go.Proofs.YtjlmpmidchddjaaDoor
namespace Go.Proofs.YtjlmpmidchddjaaDoor
def IV:Nat→Nat→Nat→Nat→Nat
 | 0,_,_,p=>1 % p
 | k + 1,a,n,p=>if n=0 then 1 % p else if n % 2=1 then a * IV k (a * a % p) (n / 2) p % p else IV k (a * a % p) (n / 2) p
theorem p4 (p:Nat):∀ k a n,n < 2 ^ k→IV k a n p=a ^ n % p
 | 0,a,n,h=>by
  have:n=0:=by rw [Nat.pow_zero] at h; omega
  subst this; rfl
 | k + 1,a,n,h=>by
  rw [IV]
  by_cases h0:n=0
  ·rw [if_pos h0,h0]; rfl
  rw [if_neg h0]
  have hk:n / 2 < 2 ^ k:=by rw [Nat.pow_succ] at h; omega
  have ih:=p4 p k (a * a % p) (n / 2) hk
  have e1:(a * a % p) ^ (n / 2) % p=a ^ (2 * (n / 2)) % p:=by
   rw [← Nat.pow_mod,← Nat.pow_two,← Nat.pow_mul]
  rw [ih,e1]
  by_cases h1:n % 2=1
  ·rw [if_pos h1]
   have e2:n=2 * (n / 2) + 1:=by omega
   rw [Nat.mul_mod_mod,Nat.mul_comm,← Nat.pow_succ]
   exact congrArg (fun m=>a ^ m % p) e2.symm
  rw [if_neg h1]
  exact congrArg (fun m=>a ^ m % p) (show 2 * (n / 2)=n by omega)
theorem Af {m:Nat} : ∀ (l:List Nat),(∀ q∈l,∀ d,d ∣ q→d=1∨d=q)→m ∣ l.foldr (· * ·) 1→m=1∨∃ q∈l,q ∣ m
 | [],_,h=>.inl (Nat.dvd_one.1 h)
 | q :: l,hq,h=>by
  rcases hq q (by simp) (Nat.gcd m q) (Nat.gcd_dvd_right _ _) with h1 | h1
  ·have hc:Nat.Coprime m q:=h1
   have h2:m ∣ l.foldr (· * ·) 1:=hc.dvd_of_dvd_mul_left (by simpa using h)
   rcases Af l (fun x hx=>hq x (by simp [hx])) h2 with h3 | ⟨x,h3,h4⟩
   ·exact .inl h3
   exact .inr ⟨x,by simp [h3],h4⟩
  exact .inr ⟨q,by simp,by rw [← h1]; exact Nat.gcd_dvd_left _ _⟩
theorem IX {p g:Nat} (hp:3≤p) (hg:0 < g) (hgp:g < p) (l:List Nat) (hl:∀ q∈l,0 < q∧∀ d,d ∣ q→d=1∨d=q) (hN:l.foldr (· * ·) 1=p - 1) (h1:g ^ (p - 1) % p=1) (h2:∀ q∈l,¬ g ^ ((p - 1) / q) % p=1):PG p:=by
 have hone:1 % p=1:=Nat.mod_eq_of_lt (by omega)
 have hmul:∀ a b,a % p=1→b % p=1→a * b % p=1:=fun a b ha hb=>by rw [Nat.mul_mod,ha,hb]; exact hone
 have hpow:∀ a k,a % p=1→a ^ k % p=1:=fun a k ha=>by
  rw [Nat.pow_mod,ha,Nat.one_pow]; exact hone
 have hne:∀ j,0 < j→j < p - 1→¬ g ^ j % p=1:=by
  intro j hj hjp hj1
  obtain ⟨d,⟨d1,d2⟩,d3⟩:=least (P:=fun d=>0 < d∧g ^ d % p=1) ⟨j,hj,hj1⟩
  have hdj:=d3 j ⟨hj,hj1⟩
  have hdv:d ∣ p - 1:=by
   obtain ⟨r,hr⟩:∃ r,(p - 1) % d=r:=⟨_,rfl⟩
   have e1:p - 1=d * ((p - 1) / d) + r:=by rw [← hr]; exact (Nat.div_add_mod _ _).symm
   have e2:g ^ r % p=1:=by
    have e3:g ^ (p - 1) % p=g ^ r % p:=by
     conv=>lhs; rw [e1]
     rw [Nat.pow_add,Nat.mul_mod,Nat.pow_mul,hpow _ _ d2,Nat.one_mul,Nat.mod_mod]
    rw [← e3]; exact h1
   have hrd:r < d:=by rw [← hr]; exact Nat.mod_lt _ d1
   by_cases h0:r=0
   ·exact Nat.dvd_of_mod_eq_zero (by rw [hr,h0])
   have:=d3 r ⟨by omega,e2⟩
   omega
  obtain ⟨m,hm⟩:=hdv
  have hm1:m ≠ 1:=fun h=>by rw [h,Nat.mul_one] at hm; omega
  rcases Af (m:=m) l (fun q hq=>(hl q hq).2) (by rw [hN,hm]; exact ⟨d,by rw [Nat.mul_comm]⟩) with h3 | ⟨q,hq,c,hc⟩
  ·exact hm1 h3
  refine h2 q hq ?_
  have e1:(p - 1) / q=d * c:=by
   rw [hm,hc,← Nat.mul_assoc,Nat.mul_comm d q,Nat.mul_assoc,Nat.mul_div_cancel_left _ (hl q hq).1]
  rw [e1,Nat.pow_mul]
  exact hpow _ _ d2
 have hinv:∀ i,i≤p - 1→g ^ (p - 1 - i) * g ^ i % p=1:=fun i hi=>by rw [← Nat.pow_add,show p - 1 - i + i=p - 1 by omega]; exact h1
 have hinj:∀ i j,i < j→j < p - 1→¬ g ^ i % p=g ^ j % p:=fun i j hij hj h=>by
  refine hne (j - i) (by omega) (by omega) ?_
  have e1:g ^ (p - 1 - i) * g ^ j % p=1:=by rw [Nat.mul_mod,← h,← Nat.mul_mod]; exact hinv i (by omega)
  have e2:g ^ (p - 1 - i) * g ^ j=g ^ (j - i) * g ^ (p - 1):=by rw [← Nat.pow_add,← Nat.pow_add]; congr 1; omega
  rw [e2,Nat.mul_mod,h1,Nat.mul_one,Nat.mod_mod] at e1
  exact e1
 have hnz:∀ i,i < p - 1→0 < g ^ i % p:=fun i hi=>by
  refine Nat.pos_of_ne_zero fun h=>?_
  have:=hinv i (by omega)
  rw [Nat.mul_mod,h,Nat.mul_zero,Nat.zero_mod] at this
  omega
 refine ⟨hp,fun a ha ha0=>?_,g,hgp,hg,fun j hj hj0=>hne j (by omega) hj⟩
 have hnd:((List.range (p - 1)).map fun i=>g ^ i % p).Nodup:=by
  rw [List.Nodup,List.pairwise_map]
  refine List.Pairwise.imp_of_mem (R:=fun i j=>i < j) (fun {i j} hi hj hij=>hinj i j hij (List.mem_range.1 hj)) List.pairwise_lt_range
 have hpm:=gA (l:=(List.range (p - 1)).map fun i=>g ^ i % p) (l':=(List.range (p - 1)).map (· + 1)) hnd (fun x hx=>by
  obtain ⟨i,hi,rfl⟩:=List.mem_map.1 hx
  have hi:=List.mem_range.1 hi
  have:=hnz i hi
  have h4:=Nat.mod_lt (g ^ i) (show p > 0 by omega)
  exact List.mem_map.2 ⟨g ^ i % p - 1,List.mem_range.2 (by omega),by show g ^ i % p - 1 + 1=g ^ i % p; omega⟩) (by simp)
 have hmem:a∈(List.range (p - 1)).map fun i=>g ^ i % p:=hpm.mem_iff.2 (List.mem_map.2 ⟨a - 1,List.mem_range.2 (by omega),by show a - 1 + 1=a; omega⟩)
 obtain ⟨i,hi,rfl⟩:=List.mem_map.1 hmem
 rw [← Nat.pow_mod,← Nat.pow_mul,Nat.mul_comm,Nat.pow_mul]
 exact hpow _ _ h1
def Ct:Nat:=1586414208465303895622652387553239793260850049100993586947686401
def JK:List Nat:=List.replicate 105 2++List.replicate 20 3++[5,5,7,7,11,13,17,19,23,29,31,37,41,43,47,53,59]
def Kk:Bool:=JK.all fun q=>decide (0 < q) && decide (q < 60) && ((List.range 60).all fun d=>decide (d=0) || decide (d=1) || decide (d=q) || decide (q < d) || !decide (q % d=0)) && !decide (IV 212 89 ((Ct - 1) / q) Ct=1)
theorem IC:Kk=true:=by decide +kernel
def Jh:Bool:=((List.range 61).all fun d=>decide (d=0) || decide ((Ct - 1) % d=0)) && ((List.range 61).all fun d=>decide (d < 2) || !decide ((Ct - 1) % tv Ct d d=0))
theorem EO:Jh=true:=by decide +kernel
theorem IL:∃ p:Nat,PG p∧(∀ d,1≤d→d≤60→d ∣ p - 1)∧2 ^ 200 < p∧∀ d,2≤d→d≤60→Hw p d:=by
 have hB:=List.all_eq_true.1 IC
 refine ⟨Ct,IX (g:=89) (by decide) (by decide) (by decide) JK (fun q hq=>?_) (by decide +kernel) ?_ (fun q hq=>?_),fun d d1 d2=>?_,by decide +kernel,fun d d1 d2=>?_⟩
 ·have h:=hB q hq
  simp only [Bool.and_eq_true,decide_eq_true_eq] at h
  obtain ⟨⟨⟨h1,h2⟩,h3⟩,_⟩:=h
  refine ⟨h1,fun d hd=>?_⟩
  have hdq:=Nat.le_of_dvd h1 hd
  have h4:=List.all_eq_true.1 h3 d (List.mem_range.2 (by omega))
  simp only [Bool.or_eq_true,decide_eq_true_eq,Bool.not_eq_true',decide_eq_false_iff_not] at h4
  rcases h4 with (((h4 | h4) | h4) | h4) | h4
  ·subst h4; have:=Nat.zero_dvd.1 hd; omega
  ·exact .inl h4
  ·exact .inr h4
  ·omega
  exact absurd (Nat.mod_eq_zero_of_dvd hd) h4
 ·rw [← p4 Ct 212 89 (Ct - 1) (by decide +kernel)]
  decide +kernel
 ·have h:=hB q hq
  simp only [Bool.and_eq_true,decide_eq_true_eq,Bool.not_eq_true',decide_eq_false_iff_not] at h
  have h3:=h.2
  rwa [p4 Ct 212 89 _ (Nat.lt_of_le_of_lt (Nat.div_le_self _ _) (by decide +kernel))] at h3
 ·have h:=EO
  unfold Jh at h
  rw [Bool.and_eq_true] at h
  have h4:=List.all_eq_true.1 h.1 d (List.mem_range.2 (by omega))
  simp only [Bool.or_eq_true,decide_eq_true_eq] at h4
  exact Nat.dvd_of_mod_eq_zero (h4.resolve_left (by omega))
 have h:=EO
 unfold Jh at h
 rw [Bool.and_eq_true] at h
 have h4:=List.all_eq_true.1 h.2 d (List.mem_range.2 (by omega))
 simp only [Bool.or_eq_true,decide_eq_true_eq,Bool.not_eq_true',decide_eq_false_iff_not] at h4
 have h6:=h4.resolve_left (by omega)
 obtain ⟨h7,h8⟩:=wh Ct d d
 exact ⟨_,h7,h8,fun h=>h6 (Nat.mod_eq_zero_of_dvd h)⟩
end Go.Proofs.YtjlmpmidchddjaaDoor
namespace Go.Proofs.YtjlmpmidchddjaaDoor
open Lean.Grind
attribute [local instance] Lean.Grind.Semiring.natCast Lean.Grind.Ring.intCast
section
variable {n e c:Nat} {f:Nat→Nat→Nat} {cI xx:Nat→Nat} {K:Type} [CommRing K] {p:Nat}
def qD (n:Nat) (f:Nat→Nat→Nat) (e a b:Nat):Nat:=f (iv n f e a) (cM n f e b a)
def zN (n:Nat) (f:Nat→Nat→Nat) (e:Nat):Nat→Nat→Nat
 | 0,x=>if x=e then 1 else 0
 | k + 1,x=>sn (fun a=>sn (fun b=>zN n f e k (f (iv n f e (qD n f e a b)) x)) n) n
theorem wV {g:Nat→Nat} {B:Nat} : ∀ {m:Nat},(∀ i,i < m→g i≤B)→sn g m≤m * B
 | 0,_=>by rw [Nat.zero_mul]; exact Nat.le_refl _
 | m + 1,h=>by
  have h1:=wV (m:=m) fun i hi=>h i (by omega)
  have h2:=h m (by omega)
  rw [sn,Nat.add_mul,Nat.one_mul]; omega
theorem ES (n:Nat) (f:Nat→Nat→Nat) (e:Nat):∀ k x,zN n f e k x≤(n * n) ^ k
 | 0,x=>by rw [zN,Nat.pow_zero]; split<;>omega
 | k + 1,x=>by
  rw [zN]
  refine Nat.le_trans (wV (B:=n * (n * n) ^ k) fun a _=>wV fun b _=>ES n f e k _) ?_
  rw [Nat.pow_succ,← Nat.mul_assoc,Nat.mul_comm (n * n)]
  exact Nat.le_refl _
theorem GC.HK (h:GC n f e c cI xx) {a b:Nat} (ha:a < n) (hb:b < n):qD n f e a b < n:=h.G.cl _ _ (h.G.az ha) (h.mf hb ha)
theorem GC.Ft (h:GC n f e c cI xx) (F:nt K) (hn0:(n:K) ≠ 0) {t:Nat→K} (ht:k9 n f e cI t) {y:Nat} (hy:y < n):sm (fun a=>sm (fun b=>t (f (qD n f e a b) y)) n) n=(n:K) * bT n f e t t e * t y:=by
 have G:=h.G
 have e1:∀ a,a < n→sm (fun b=>t (f (qD n f e a b) y)) n=(n:K) * (t a * t (f (iv n f e a) y)):=fun a ha=>by
  have hi:=G.az ha
  have e2:sm (fun b=>t (f (qD n f e a b) y)) n=sm (fun b=>t (f (cM n f e b a) (f y (iv n f e a)))) n:=al fun b hb=>by
   have hc:=h.mf hb ha
   unfold qD
   rw [G.assoc _ _ _ hi hc hy,h.zr ht.cl hi (G.cl _ _ hc hy),G.assoc _ _ _ hc hy hi]
  rw [e2,ht.mul a _ ha (G.cl _ _ hy hi),h.zr ht.cl hy hi]
 rw [al e1,aN,← dF t t hy,h.JQ F hn0 ht hy]
 grind
theorem Jq (k x:Nat):((zN n f e (k + 1) x:Nat):K)=sm (fun a=>sm (fun b=>((zN n f e k (f (iv n f e (qD n f e a b)) x):Nat):K)) n) n:=by
 rw [zN,ri]
 exact al fun a _=>ri _ n
theorem GC.IH (h:GC n f e c cI xx) (F:nt K) (hn0:(n:K) ≠ 0) {t:Nat→K} (ht:k9 n f e cI t):∀ k y,y < n→sm (fun x=>((zN n f e k x:Nat):K) * t (f x y)) n=((n:K) * bT n f e t t e) ^ k * t y
 | 0,y,hy=>by
  have G:=h.G
  rw [bj (i:=e) G.el fun x hx hxe=>by rw [zN,if_neg hxe,Semiring.natCast_zero]; grind]
  rw [zN,if_pos rfl,Semiring.natCast_one,G.one_l y hy,Semiring.pow_zero]
 | k + 1,y,hy=>by
  have G:=h.G
  have e1:∀ x,x < n→((zN n f e (k + 1) x:Nat):K) * t (f x y)=sm (fun a=>sm (fun b=>((zN n f e k (f (iv n f e (qD n f e a b)) x):Nat):K) * t (f x y)) n) n:=fun x hx=>by
   rw [Jq,← bU]; exact al fun a _=>by rw [← bU]
  rw [al e1,aX]
  have e2:∀ a,a < n→sm (fun x=>sm (fun b=>((zN n f e k (f (iv n f e (qD n f e a b)) x):Nat):K) * t (f x y)) n) n=sm (fun b=>sm (fun x=>((zN n f e k x:Nat):K) * t (f (qD n f e a b) (f x y))) n) n:=fun a ha=>by
   rw [aX]
   refine al fun b hb=>?_
   have hc:=h.HK ha hb
   rw [← h.fu (G.az hc) fun x=>((zN n f e k x:Nat):K) * t (f (qD n f e a b) (f x y))]
   refine al fun x hx=>?_
   rw [← G.assoc _ _ _ hc (G.cl _ _ (G.az hc) hx) hy,h.nY hc hx]
  rw [al e2]
  have e3:∀ a,a < n→sm (fun b=>sm (fun x=>((zN n f e k x:Nat):K) * t (f (qD n f e a b) (f x y))) n) n=sm (fun x=>sm (fun b=>((zN n f e k x:Nat):K) * t (f (qD n f e a b) (f x y))) n) n:=fun a _=>aX _ _ _
  rw [al e3,aX]
  have e4:∀ x,x < n→sm (fun a=>sm (fun b=>((zN n f e k x:Nat):K) * t (f (qD n f e a b) (f x y))) n) n=((n:K) * bT n f e t t e) * (((zN n f e k x:Nat):K) * t (f x y)):=fun x hx=>by
   have e5:sm (fun a=>sm (fun b=>((zN n f e k x:Nat):K) * t (f (qD n f e a b) (f x y))) n) n=((zN n f e k x:Nat):K) * sm (fun a=>sm (fun b=>t (f (qD n f e a b) (f x y))) n) n:=by
    rw [← aN]; exact al fun a _=>aN _ _ _
   rw [e5,h.Ft F hn0 ht (G.cl _ _ hx hy)]
   grind
  rw [al e4,aN,h.IH F hn0 ht k y hy,Semiring.pow_succ]
  grind
theorem eu.bk (h:GC n f e c cI xx) (F:nt K) (hn0:(n:K) ≠ 0) {tt:Nat→Nat→K} {vv:Nat→Nat} (A:eu K n f e c cI tt vv) (k:Nat):(n:K) * ((zN n f e k e:Nat):K)=sm (fun i=>(vv i:K) * vv i * ((n:K) * bT n f e (tt i) (tt i) e) ^ k) c:=by
 have G:=h.G
 have e1:sm (fun x=>((zN n f e k x:Nat):K) * sm (fun i=>(vv i:K) * vv i * tt i x) c) n=(n:K) * ((zN n f e k e:Nat):K):=by
  rw [bj (i:=e) G.el fun x hx hxe=>by rw [A.Hm x hx,if_neg hxe]; grind]
  rw [A.Hm e G.el,if_pos rfl]; grind
 rw [← e1]
 have e2:∀ x,x < n→((zN n f e k x:Nat):K) * sm (fun i=>(vv i:K) * vv i * tt i x) c=sm (fun i=>(vv i:K) * vv i * (((zN n f e k x:Nat):K) * tt i (f x e))) c:=fun x hx=>by
  rw [← aN]; exact al fun i _=>by rw [G.one_r x hx]; grind
 rw [al e2,aX]
 refine al fun i hi=>?_
 rw [aN,h.IH F hn0 (A.chr i hi) k e G.el,(A.chr i hi).one]; grind
def cn (vv:Nat→Nat) (c d:Nat):Nat:=sn (fun i=>if vv i=d then 1 else 0) c
theorem xE (g:Nat→Nat→Nat):∀ c m,sn (fun i=>sn (fun d=>g i d) m) c=sn (fun d=>sn (fun i=>g i d) c) m
 | 0,m=>by
  have:∀ m,sn (fun d=>sn (fun i=>g i d) 0) m=0:=fun m=>by
   induction m with
   | zero=>rfl
   | succ m ih=>show sn (fun d=>sn (fun i=>g i d) 0) m + 0=0; omega
  rw [this]; rfl
 | c + 1,m=>by
  have h1:∀ (u v:Nat→Nat) m,sn (fun d=>u d + v d) m=sn u m + sn v m:=fun u v m=>by
   induction m with
   | zero=>rfl
   | succ m ih=>show sn (fun d=>u d + v d) m + (u m + v m)=sn u m + u m + (sn v m + v m); omega
  show sn (fun i=>sn (fun d=>g i d) m) c + sn (fun d=>g c d) m=sn (fun d=>sn (fun i=>g i d) c + g c d) m
  rw [h1,xE g c m]
theorem jl {g g' : Nat→Nat} : ∀ {m:Nat},(∀ i,i < m→g i=g' i)→sn g m=sn g' m
 | 0,_=>rfl
 | m + 1,h=>by rw [sn,sn,jl fun i hi=>h i (by omega),h m (by omega)]
theorem yy {m d:Nat} (hd:d < m) (v:Nat):sn (fun x=>if d=x then v else 0) m=v:=by
 have key:∀ m,sn (fun x=>if d=x then v else 0) m=if d < m then v else 0:=fun m=>by
  induction m with
  | zero=>rfl
  | succ m ih =>
   rw [sn,ih]
   by_cases h1:d < m
   ·rw [if_pos h1,if_neg (by omega),if_pos (by omega)]; rfl
   by_cases h2:d=m
   ·rw [if_neg h1,if_pos h2,if_pos (by omega)]; omega
   rw [if_neg h1,if_neg h2,if_neg (by omega)]
 rw [key,if_pos hd]
theorem oD (g:Nat→Nat) (v:Nat):∀ m,sn (fun i=>g i * v) m=sn g m * v
 | 0=>by rw [sn,sn,Nat.zero_mul]
 | m + 1=>by rw [sn,sn,oD g v m,Nat.add_mul]
theorem wk {vv:Nat→Nat} {c m:Nat} (h:∀ i,i < c→vv i < m) (g:Nat→Nat):sn (fun i=>g (vv i)) c=sn (fun d=>cn vv c d * g d) m:=by
 have e1:∀ i,i < c→g (vv i)=sn (fun d=>(if vv i=d then 1 else 0) * g d) m:=fun i hi=>by
  rw [← yy (h i hi) (g (vv i))]
  exact jl fun d _=>by
   by_cases hd:vv i=d
   ·rw [if_pos hd,if_pos hd,hd]; omega
   rw [if_neg hd,if_neg hd]; omega
 rw [jl e1,xE]
 exact jl fun d _=>oD _ _ c
theorem vR {vv:Nat→Nat} : ∀ {c i:Nat},i < c→0 < cn vv c (vv i)
 | 0,_,h=>absurd h (Nat.not_lt_zero _)
 | c + 1,i,h=>by
  have e:cn vv (c + 1) (vv i)=cn vv c (vv i) + if vv c=vv i then 1 else 0:=rfl
  by_cases hi:i=c
  ·subst hi; rw [e,if_pos rfl]; omega
  have:=vR (vv:=vv) (c:=c) (i:=i) (by omega)
  rw [e]; omega
theorem pa {vv:Nat→Nat} {d:Nat} : ∀ {c:Nat},0 < cn vv c d→∃ i,i < c∧vv i=d
 | 0,h=>absurd h (Nat.lt_irrefl 0)
 | c + 1,h=>by
  have e:cn vv (c + 1) d=cn vv c d + if vv c=d then 1 else 0:=rfl
  by_cases hd:vv c=d
  ·exact ⟨c,Nat.lt_succ_self c,hd⟩
  rw [e,if_neg hd] at h
  obtain ⟨i,hi,e2⟩:=pa (c:=c) h
  exact ⟨i,by omega,e2⟩
theorem uk (vv:Nat→Nat) (d:Nat):∀ c,cn vv c d≤c
 | 0=>Nat.le_refl _
 | c + 1=>by
  have e:cn vv (c + 1) d=cn vv c d + if vv c=d then 1 else 0:=rfl
  have:=uk vv d c
  rw [e]; split<;>omega
theorem JY (F:nt K):∀ (s:Nat) (x a:Nat→K),(∀ i j,i < s→j < s→i ≠ j→x i ≠ x j)→(∀ k,k < s→sm (fun d=>a d * x d ^ k) s=0)→∀ d,d < s→a d=0
 | 0,_,_,_,_=>fun d hd=>absurd hd (Nat.not_lt_zero d)
 | s + 1,x,a,hx,h=>by
  have h1:=JY F s x (fun d=>a d * (x d - x s)) (fun i j hi hj=>hx i j (by omega) (by omega)) fun k hk=>by
   have e1:=h (k + 1) (by omega)
   have e2:=h k (by omega)
   have e3:sm (fun d=>a d * (x d - x s) * x d ^ k) (s + 1)=0:=by
    have e4:sm (fun d=>a d * (x d - x s) * x d ^ k) (s + 1)=sm (fun d=>a d * x d ^ (k + 1)) (s + 1) - x s * sm (fun d=>a d * x d ^ k) (s + 1):=by
     rw [← aN,← kQ]
     exact al fun d _=>by rw [Semiring.pow_succ]; grind
    rw [e4,e1,e2]; grind
   have e5:sm (fun d=>a d * (x d - x s) * x d ^ k) (s + 1)=sm (fun d=>a d * (x d - x s) * x d ^ k) s + a s * (x s - x s) * x s ^ k:=rfl
   rw [e5] at e3
   grind
  have h2:∀ d,d < s→a d=0:=fun d hd=>by
   have:=h1 d hd
   rcases F.mul this with h3 | h3
   ·exact h3
   exact absurd (show x d=x s by grind) (hx d s (by omega) (by omega) (by omega))
  intro d hd
  by_cases hds:d=s
  ·subst hds
   have:=h 0 (by omega)
   have e5:sm (fun q=>a q * x q ^ 0) (d + 1)=sm (fun q=>a q * x q ^ 0) d + a d * x d ^ 0:=rfl
   rw [e5,aW fun q hq=>by rw [h2 q hq]; grind,Semiring.pow_zero] at this
   grind
  exact h2 d (by omega)
end
end Go.Proofs.YtjlmpmidchddjaaDoor
