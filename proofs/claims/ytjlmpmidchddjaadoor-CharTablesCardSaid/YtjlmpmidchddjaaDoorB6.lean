/-
  Texts of this proof, one behind the other: what each says stands at its head. Conditions: none.
-/
import Derived.Test.YtjlmpmidchddjaaDoorB5
import Derived.Test.YtjlmpmidchddjaaDoorB3
import Derived.Test.YtjlmpmidchddjaaDoorB4

set_option linter.all false
namespace Go.Proofs.YtjlmpmidchddjaaDoor
open Lean.Grind
attribute [local instance] Lean.Grind.Semiring.natCast Lean.Grind.Ring.intCast
section
variable {n e c:Nat} {f:Nat→Nat→Nat} {cI xx:Nat→Nat} {K:Type} [CommRing K] {p:Nat} {TT:List (List (List Int))} {io:Nat→K} {lam:Nat→Nat→K}
theorem GC.ivc (h:GC n f e c cI xx) {a b:Nat} (ha:a < n) (hb:b < n):cI a=cI b↔cI (iv n f e a)=cI (iv n f e b):=by
 have G:=h.G
 have key:∀ a b,a < n→b < n→cI a=cI b→cI (iv n f e a)=cI (iv n f e b):=fun a b ha hb hab=>by
  obtain ⟨y,hy,rfl⟩:=(h.cj a b ha hb).1 hab
  refine (h.cj _ _ (G.iv_lt ha) (G.iv_lt hb)).2 ⟨y,hy,?_⟩
  rw [G.iv_prod (G.cl _ _ (G.iv_lt hy) ha) hy,G.iv_prod (G.iv_lt hy) ha,G.iv_iv hy,G.assoc _ _ _ (G.iv_lt hy) (G.iv_lt ha) hy]
 refine ⟨key a b ha hb,fun hab=>?_⟩
 have:=key _ _ (G.iv_lt ha) (G.iv_lt hb) hab
 rwa [G.iv_iv ha,G.iv_iv hb] at this
theorem GC.kapJ (h:GC n f e c cI xx) {i:Nat} (hi:i < c):kap K n cI (cI (iv n f e (xx i)))=kap K n cI i:=by
 unfold kap sC
 rw [← h.sumI fun g=>if cI g=cI (iv n f e (xx i)) then (1:K) else 0]
 refine sm_congr fun g hg=>?_
 have:=h.ivc hg (h.xl i hi)
 rw [h.cx i hi] at this
 by_cases hgi:cI g=i
 ·rw [if_pos (this.1 hgi),if_pos hgi]
 rw [if_neg (fun hh=>hgi (this.2 hh)),if_neg hgi]
theorem GT2.ioJ (h:GT2 K p n f e c cI xx TT io) {i:Nat} (hi:i < c):io (cI (iv n f e (xx i)))=io i:=by
 have h1:=h.io i hi
 have h2:=h.io _ (h.C.lt _ (h.C.G.iv_lt (h.C.xl i hi)))
 rw [h.C.kapJ hi] at h2
 grind
theorem GT2.pairC (h:GT2 K p n f e c cI xx TT io) {t t' : Nat→K} (ht:ClF n cI t) (ht' : ClF n cI t'):prT n f e t t' e=sm (fun i=>kap K n cI i * (t (xx i) * t' (iv n f e (xx i)))) c:=by
 have G:=h.C.G
 have hcl:ClF n cI fun z=>t z * t' (iv n f e z):=fun a b ha hb hab=>by
  show t a * t' (iv n f e a)=t b * t' (iv n f e b)
  rw [ht a b ha hb hab,ht' _ _ (G.iv_lt ha) (G.iv_lt hb) ((h.C.ivc ha hb).1 hab)]
 have e1:prT n f e t t' e=sm (fun z=>t z * t' (iv n f e z)) n:=by
  unfold prT
  exact sm_congr fun z hz=>by rw [G.one_l z hz]
 rw [e1,← h.C.byC]
 exact sm_congr fun i hi=>h.C.sCcl hcl hi
theorem clT_x (h:GT2 K p n f e c cI xx TT io) (v:Nat→K) {i:Nat} (hi:i < c):clT cI io v (xx i)=v i * io i:=by
 unfold clT; rw [h.C.cx i hi]
theorem clT_J (h:GT2 K p n f e c cI xx TT io) (v:Nat→K) {i:Nat} (hi:i < c):clT cI io v (iv n f e (xx i))=v (cI (iv n f e (xx i))) * io i:=by
 unfold clT; rw [h.ioJ hi]
theorem Fam.sum (h:GT2 K p n f e c cI xx TT io) (v v' : Nat→K):prT n f e (clT cI io v) (clT cI io v') e=sm (fun i=>v i * v' (cI (iv n f e (xx i))) * io i) c:=by
 rw [h.pairC (h.clc v) (h.clc v')]
 refine sm_congr fun i hi=>?_
 rw [clT_x h v hi,clT_J h v' hi]
 have:=h.io i hi
 grind
theorem Fam.col (h:GT2 K p n f e c cI xx TT io) (Fm:Fam K p n f e c cI TT io lam) {d:Nat→K} (hd:∀ q,q < c→d q * d q * prT n f e (clT cI io (lam q)) (clT cI io (lam q)) e=(n:K)) {i j:Nat} (hi:i < c) (hj:j < c) :
  sm (fun q=>(d q * lam q j * io j) * (d q * lam q (cI (iv n f e (xx i))) * io i)) c=if i=j then (n:K) * io j else 0:=by
 have G:=h.C.G
 obtain ⟨a,ha⟩:=Fm.all (fun k=>if k=i then 1 else 0) fun k hk=>if_neg (by omega)
 have hT:∀ z,z < n→(if cI z=i then io i else 0)=sm (fun q=>a q * clT cI io (lam q) z) c:=fun z hz=>by
  have h2:=ha (cI z)
  have h4:sm (fun q=>a q * clT cI io (lam q) z) c=(if cI z=i then 1 else 0) * io (cI z):=by
   rw [h2,← sm_mulr]; exact sm_congr fun q _=>by unfold clT; grind
  rw [h4]
  by_cases hz2:cI z=i
  ·rw [if_pos hz2,if_pos hz2,hz2]; grind
  rw [if_neg hz2,if_neg hz2]; grind
 have haq:∀ q,q < c→a q * prT n f e (clT cI io (lam q)) (clT cI io (lam q)) e=clT cI io (lam q) (iv n f e (xx i)):=fun q hq=>by
  have e1:sm (fun z=>(if cI z=i then io i else 0) * clT cI io (lam q) (iv n f e z)) n=clT cI io (lam q) (iv n f e (xx i)):=by
   have hcl:ClF n cI fun z=>io i * clT cI io (lam q) (iv n f e z):=fun a b ha hb hab=>by
    show io i * clT cI io (lam q) (iv n f e a)=io i * clT cI io (lam q) (iv n f e b)
    rw [h.clc (lam q) _ _ (G.iv_lt ha) (G.iv_lt hb) ((h.C.ivc ha hb).1 hab)]
   have e2:sm (fun z=>(if cI z=i then io i else 0) * clT cI io (lam q) (iv n f e z)) n=sC n cI i fun z=>io i * clT cI io (lam q) (iv n f e z):=by
    unfold sC
    exact sm_congr fun z _=>by split<;>grind
   rw [e2,h.C.sCcl hcl hi]
   have:=h.io i hi
   grind
  rw [← e1]
  have e3:sm (fun z=>(if cI z=i then io i else 0) * clT cI io (lam q) (iv n f e z)) n=sm (fun q'=>a q' * prT n f e (clT cI io (lam q')) (clT cI io (lam q)) e) c:=by
   have e4:sm (fun z=>(if cI z=i then io i else 0) * clT cI io (lam q) (iv n f e z)) n=sm (fun z=>sm (fun q'=>a q' * (clT cI io (lam q') z * clT cI io (lam q) (iv n f e z))) c) n:=sm_congr fun z hz=>by
    rw [hT z hz,← sm_mulr]; exact sm_congr fun q' _=>by grind
   rw [e4,sm_comm]
   refine sm_congr fun q' _=>?_
   rw [sm_mul]
   unfold prT
   congr 1
   exact sm_congr fun z hz=>by rw [G.one_l z hz]
  rw [e3,sm_one hq fun q' hq' hne=>by rw [Fm.ort q' q hq' hq hne]; grind]
 have e1:∀ q,q < c→(d q * lam q j * io j) * (d q * lam q (cI (iv n f e (xx i))) * io i)=(n:K) * io j * (a q * lam q j):=fun q hq=>by
  have h2:=haq q hq
  rw [clT_J h (lam q) hi] at h2
  have h3:=hd q hq
  have h4:(d q * lam q j * io j) * (d q * lam q (cI (iv n f e (xx i))) * io i)=d q * d q * (lam q (cI (iv n f e (xx i))) * io i) * (lam q j * io j):=by grind
  rw [h4,← h2]
  have h5:d q * d q * (a q * prT n f e (clT cI io (lam q)) (clT cI io (lam q)) e) * (lam q j * io j)=(d q * d q * prT n f e (clT cI io (lam q)) (clT cI io (lam q)) e) * (a q * lam q j * io j):=by grind
  rw [h5,h3]; grind
 rw [sm_congr e1,sm_mul,← ha j]
 by_cases hij:i=j
 ·rw [if_pos hij,if_pos hij.symm]; grind
 rw [if_neg hij,if_neg (fun hh=>hij hh.symm)]; grind
end
section
variable {K:Type} [CommRing K] {p:Nat}
theorem smI_K (R:Rd K p) (w:List Int) (J S:Nat→Nat):∀ i,((smI p w J S i:Int):K)=sm (fun t=>vc w t * vc w (J t) * ((ivR p (S t:Nat):Int):K)) i
 | 0=>Ring.intCast_zero
 | i + 1=>by
  rw [smI,R.mod,Ring.intCast_add,Ring.intCast_mul,R.mod,Ring.intCast_mul,smI_K R w J S i]; rfl
theorem rwI_get {w:List Int} {d:Nat} {S:Nat→Nat} {c i:Nat} (hi:i < c):(rwI p w d S c c).getD i 0=rwF p w d S i:=by
 unfold rwI
 rw [updR_get (by simpa using hi),if_pos ⟨Nat.zero_le _,hi⟩]
theorem rwI_K (R:Rp K p) {w:List Int} {d:Nat} {S:Nat→Nat} {c i:Nat} (hi:i < c):(vc (rwI p w d S c c) i:K)=vc w i * (d:K) * ((ivR p (S i:Nat):Int):K):=by
 unfold vc
 rw [rwI_get hi,rwF,R.toRd.mod,Ring.intCast_mul,R.toRd.mod,Ring.intCast_mul,R.cst]
end
structure RowF (n e:Nat) (m:List Int) [NeZero (clP m n e)] (lam:Nat→Nat→Fin (clP m n e)) (q:Nat) (s:List (List Int)):Prop where
 w:(vc (chW (clP m n e) (clI m n e e) s):Nat→Fin (clP m n e))=lam q
 sq:∃ d,d < clP m n e∧dgB (clP m n e) (sqR (clP m n e) n (smI (clP m n e) (chW (clP m n e) (clI m n e e) s) (clJ m n e) (clS m n e) (clN m n e))) d=true
 dd:((chD (clP m n e) n (clI m n e e) (clN m n e) (clJ m n e) (clS m n e) s:Nat):Fin (clP m n e)) * ((chD (clP m n e) n (clI m n e e) (clN m n e) (clJ m n e) (clS m n e) s:Nat):Fin (clP m n e)) * prT n (op m n) e (clT (clI m n e) (fun i=>((ivR (clP m n e) (clS m n e i:Nat):Int):Fin (clP m n e))) (lam q)) (clT (clI m n e) (fun i=>((ivR (clP m n e) (clS m n e i:Nat):Int):Fin (clP m n e))) (lam q)) e=(n:Nat)
 mn:∀ v:Nat,1≤v→v < clP m n e→prT n (op m n) e (clT (clI m n e) (fun i=>((ivR (clP m n e) (clS m n e i:Nat):Int):Fin (clP m n e))) (lam q)) (clT (clI m n e) (fun i=>((ivR (clP m n e) (clS m n e i:Nat):Int):Fin (clP m n e))) (lam q)) e * (((v:Nat):Fin (clP m n e)) * ((v:Nat):Fin (clP m n e)))=(n:Nat)→chD (clP m n e) n (clI m n e e) (clN m n e) (clJ m n e) (clS m n e) s≤v
theorem row_of {n e:Nat} {m:List Int} (h:GT n m n e) [NeZero (clP m n e)] {lam:Nat→Nat→Fin (clP m n e)} (Fm:Fam (Fin (clP m n e)) (clP m n e) n (op m n) e (clN m n e) (clI m n e) (clTT m n e) (fun i=>((ivR (clP m n e) (clS m n e i:Nat):Int):Fin (clP m n e))) lam) {q:Nat} (hq:q < clN m n e) :
  RowF n e m lam q ((spsR (clP m n e) (clTT m n e) [startR (clN m n e) (clN m n e)] (clN m n e)).getD q []):=by
 have H:=gt2_of h
 obtain ⟨P,hP1,hP2⟩:=cl_P h
 have R:=H.R
 have hn1:=h.2.1.pos
 have hoc:=(clI_lt h h.2.2.el).1
 have ho:=spsR_o (p:=clP m n e) (c:=clN m n e) R.two (clTT m n e) H.cpos (clN m n e) _ (mem_getD (d:=[]) (show q < (spsR (clP m n e) (clTT m n e) [startR (clN m n e) (clN m n e)] (clN m n e)).length by rw [Fm.len]; exact hq))
 have hspa:=Fm.spa q hq
 have hfst:=Fm.fst q hq
 have hnz:=Fm.nz q hq
 have hchr:=Fm.chr q hq
 have hsm:=Fam.sum H (lam q) (lam q)
 have hJ:∀ i,clJ m n e i=clI m n e (iv n (op m n) e (clX m n e i)):=fun i=>rfl
 generalize (spsR (clP m n e) (clTT m n e) [startR (clN m n e) (clN m n e)] (clN m n e)).getD q []=s at *
 obtain ⟨p,hp⟩:∃ p,clP m n e=p:=⟨_,rfl⟩
 have hw0m:s.getD 0 []∈s:=mem_getD ho.pos
 have hw0g:=ho.rg _ hw0m
 have hw0:∀ j,(vc (s.getD 0 []) j:Fin (clP m n e))=vc (s.getD 0 []) (clI m n e e) * lam q j:=fun j=>hspa _ (SpL.get ho.pos) j
 have hone:¬ (s.getD 0 []).getD (clI m n e e) 0=0:=fun h0=>hfst (by
  show (vc (s.getD 0 []) (clI m n e e):Fin (clP m n e))=0
  rw [vc_ne R.toRd hw0g]; exact h0)
 have hinv:=R.toRd.inv (hw0g (clI m n e e)) hone
 have hw:(vc (chW (clP m n e) (clI m n e e) s):Nat→Fin (clP m n e))=lam q:=by
  unfold chW
  rw [vc_nr R.toRd]
  funext j
  rw [hw0 j]
  have h2:(vc (s.getD 0 []) (clI m n e e):Fin (clP m n e)) * ((ivR (clP m n e) ((s.getD 0 []).getD (clI m n e e) 0):Int):Fin (clP m n e))=1:=hinv
  grind
 have hsumK:((smI (clP m n e) (chW (clP m n e) (clI m n e e) s) (clJ m n e) (clS m n e) (clN m n e):Int):Fin (clP m n e))=prT n (op m n) e (clT (clI m n e) (fun i=>((ivR (clP m n e) (clS m n e i:Nat):Int):Fin (clP m n e))) (lam q)) (clT (clI m n e) (fun i=>((ivR (clP m n e) (clS m n e i:Nat):Int):Fin (clP m n e))) (lam q)) e:=by
  rw [smI_K R.toRd,hw,hsm]
  exact sm_congr fun i hi=>by rw [hJ]
 obtain ⟨sm0,hsm0⟩:∃ x,smI (clP m n e) (chW (clP m n e) (clI m n e e) s) (clJ m n e) (clS m n e) (clN m n e)=x:=⟨_,rfl⟩
 obtain ⟨sK,hsK⟩:∃ x,prT n (op m n) e (clT (clI m n e) (fun i=>((ivR (clP m n e) (clS m n e i:Nat):Int):Fin (clP m n e))) (lam q)) (clT (clI m n e) (fun i=>((ivR (clP m n e) (clS m n e i:Nat):Int):Fin (clP m n e))) (lam q)) e=x:=⟨_,rfl⟩
 have hrng:0≤sm0∧sm0 < clP m n e:=by
  rw [← hsm0]
  have hc:=H.cpos
  cases hcn:clN m n e with
  | zero=>omega
  | succ k=>exact emod_rng (by omega) _
 have hodd:clP m n e=2 * ((clP m n e - 1) / 2) + 1:=by have:=P.odd; have:=P.three; omega
 have heu:=(gc_of h).euler R H.nz H.cz (fun a ha=>cl_pw h ha) hchr hnz hodd
 rw [hsK] at heu hnz
 rw [hsm0,hsK] at hsumK
 have hsm00:¬ sm0=0:=fun h0=>hnz (by rw [← hsumK,h0]; exact Ring.intCast_zero)
 have hi2:=R.toRd.inv hrng hsm00
 rw [hsumK] at hi2
 obtain ⟨sq,hsq⟩:∃ x,sqR (clP m n e) n sm0=x:=⟨_,rfl⟩
 have hsqr:0≤sq∧sq < clP m n e:=by rw [← hsq]; exact emod_rng (by omega) _
 have hsqK:((sq:Int):Fin (clP m n e)) * sK=(n:Nat):=by
  rw [← hsq]
  unfold sqR
  rw [R.toRd.mod,Ring.intCast_mul,R.toRd.mod,R.cst]
  grind
 obtain ⟨k,hk⟩:∃ k:Nat,sq=(k:Int):=⟨sq.toNat,by omega⟩
 have hkK:((k:Nat):Fin (clP m n e)) * sK=(n:Nat):=by rw [← hsqK,hk,R.cst]
 have hex:∃ d,d < clP m n e - 1∧(d + 1) * (d + 1) % clP m n e=k:=by
  refine P.eul k (by omega) ?_
  obtain ⟨x,hx,hxs⟩:=f_sur sK
  have hx0:¬ x % clP m n e=0:=fun h0=>hnz (by rw [← hxs]; exact (fz x).2 h0)
  have h3:=f_pw1 P hx0
  rw [hxs] at h3
  have h4:∀ j,(((k:Nat):Fin (clP m n e)) ^ j) * sK ^ (2 * j)=(((n:Nat):Fin (clP m n e)) * sK) ^ j:=fun j=>by
   induction j with
   | zero=>rw [Nat.mul_zero,Semiring.pow_zero,Semiring.pow_zero,Semiring.pow_zero]; grind
   | succ j ih =>
    rw [show 2 * (j + 1)=2 * j + 1 + 1 by omega,Semiring.pow_succ,Semiring.pow_succ,Semiring.pow_succ,Semiring.pow_succ,← ih,← hkK]; grind
  have h5:=h4 ((clP m n e - 1) / 2)
  rw [heu,show 2 * ((clP m n e - 1) / 2)=clP m n e - 1 by omega,h3] at h5
  have h6:((k ^ ((clP m n e - 1) / 2):Nat):Fin (clP m n e))=((1:Nat):Fin (clP m n e)):=by
   rw [Semiring.natCast_pow,f_one P.three]; grind
  have h7:=f_ne h6
  rwa [Nat.mod_eq_of_lt (show 1 < clP m n e by have:=P.three; omega)] at h7
 have hdB:∀ d,dgB (clP m n e) sq d=true↔(d + 1) * (d + 1) % clP m n e=k:=fun d=>by
  unfold dgB
  rw [decide_eq_true_iff,hk]
  have:((d:Int) + 1) * ((d:Int) + 1) % ((clP m n e:Nat):Int)=(((d + 1) * (d + 1) % clP m n e:Nat):Int):=by simp
  rw [this]; omega
 have hmn:∀ v:Nat,1≤v→v < clP m n e→sK * (((v:Nat):Fin (clP m n e)) * ((v:Nat):Fin (clP m n e)))=(n:Nat)→chD (clP m n e) n (clI m n e e) (clN m n e) (clJ m n e) (clS m n e) s≤v:=fun v v1 v2 v3=>by
  have e1:((v * v:Nat):Fin (clP m n e))=((k:Nat):Fin (clP m n e)):=by
   rw [Semiring.natCast_mul]
   obtain ⟨si,hsi⟩:=R.fld.1 _ hnz
   grind
  have e2:=f_ne e1
  rw [Nat.mod_eq_of_lt (show k < clP m n e by omega)] at e2
  have e3:dgB (clP m n e) sq (v - 1)=true:=(hdB (v - 1)).2 (by rw [show v - 1 + 1=v by omega]; exact e2)
  have hch:chD (clP m n e) n (clI m n e e) (clN m n e) (clJ m n e) (clS m n e) s=(fst' (dgB (clP m n e) sq) (clP m n e)).getD 0 + 1:=by
   unfold chD dgR
   rw [hsm0,hsq]
  rw [hch]
  cases hf:fst' (dgB (clP m n e) sq) (clP m n e) with
  | none=>show 0 + 1≤v; omega
  | some D =>
   have h5:=(fst_spec hf).2.2
   show D + 1≤v
   by_cases hlt:v - 1 < D
   ·have:=h5 _ hlt; rw [e3] at this; cases this
   omega
 refine ⟨hw,?_,?_,by rw [hsK]; exact hmn⟩
 ·rw [hsm0,hsq]
  obtain ⟨d,d1,d2⟩:=hex
  exact ⟨d,by omega,(hdB d).2 d2⟩
 rw [hsK]
 obtain ⟨D,hD⟩:∃ D,fst' (dgB (clP m n e) sq) (clP m n e)=some D:=by
  obtain ⟨d,d1,d2⟩:=hex
  cases hf:fst' (dgB (clP m n e) sq) (clP m n e) with
  | some D=>exact ⟨D,rfl⟩
  | none=>have:=fst_spec0 hf d (by omega); rw [(hdB d).2 d2] at this; cases this
 have hch:chD (clP m n e) n (clI m n e e) (clN m n e) (clJ m n e) (clS m n e) s=D + 1:=by
  unfold chD dgR
  rw [hsm0,hsq,hD]; rfl
 rw [hch]
 have h8:=(hdB D).1 (fst_spec hD).2.1
 have h9:(((D + 1) * (D + 1):Nat):Fin (clP m n e))=((k:Nat):Fin (clP m n e)):=f_eq (by rw [h8,Nat.mod_eq_of_lt (by omega)])
 rw [Semiring.natCast_mul] at h9
 rw [h9]; exact hkK
end Go.Proofs.YtjlmpmidchddjaaDoor

namespace Go.Proofs.YtjlmpmidchddjaaDoor
open Go.Pv
def clSp (m:List Int) (n e:Nat):List (List (List Int)):=spsR (clP m n e) (clTT m n e) [startR (clN m n e) (clN m n e)] (clN m n e)
def clO (m:List Int) (n e:Nat):Nat:=clI m n e e
def clRw (m:List Int) (n e:Nat) (s:List (List Int)):List Int:=rwI (clP m n e) (chW (clP m n e) (clO m n e) s) (chD (clP m n e) n (clO m n e) (clN m n e) (clJ m n e) (clS m n e) s) (clS m n e) (clN m n e) (clN m n e)
def chT (m:List Int) (n e:Nat):List (List Int):=tabR (clP m n e) n (clO m n e) (clN m n e) (clJ m n e) (clS m n e) (clSp m n e)
theorem chT_perm (m:List Int) (n e:Nat):(chT m n e).Perm ((clSp m n e).map (clRw m n e)):=by
 unfold chT tabR
 refine ((srtL_perm _).symm.map _).trans ?_
 rw [List.map_map]
 exact List.Perm.of_eq (List.map_congr_left fun s _=>rfl)
theorem clRw_len (m:List Int) (n e:Nat) (s:List (List Int)):(clRw m n e s).length=clN m n e:=by simp [clRw,rwI,updR_len]
theorem clRw_rg {n e:Nat} {m:List Int} (h:GT n m n e) (s:List (List Int)):rgp (clP m n e) (clRw m n e s):=by
 obtain ⟨P,p1,p2⟩:=cl_P h
 refine updR_rg (fun t=>emod_rng (by omega) _) fun j=>?_
 rw [List.getD_eq_getElem?_getD,List.getElem?_replicate]
 split
 ·simp only [Option.getD_some]; omega
 simp only [Option.getD_none]; omega
theorem clN_le {n e:Nat} {m:List Int} (h:GT n m n e):0 < clN m n e∧clN m n e≤n:=⟨by have:=(clI_lt h h.2.2.el).1; omega,cstp_len _ _ _⟩
theorem table_c {n e:Nat} {m:List Int} (h:GT n m n e) (hc24:clN m n e≤24):FnC Tryd.prog 11 [gp n m] (.tup [.int .i64 (clP m n e),.list (ll (chT m n e)),fl (0,0)]):=by
 obtain ⟨P,p1,p2⟩:=cl_P h
 have hp3:=P.three
 haveI:NeZero (clP m n e):=⟨by omega⟩
 have G:=h.2.2
 have E:=G.cjb_eqv
 have hb:=h.2.1.big
 obtain ⟨lam,Fm⟩:=(gt2_of h).fam
 obtain ⟨hc0,hcn⟩:=clN_le h
 have hwl:∀ a,a < n→(whl n (cjb n (op m n) e)).getD a 0=(clI m n e a:Int):=fun a ha=>by
  rw [whl,rgz_get ha]; exact (clI_lt h ha).2
 have hTl:(clTT m n e).length=clN m n e:=by simp [clTT]
 have hTg:∀ i,i < clN m n e→(clTT m n e).getD i []=mat (clN m n e) (ct n (op m n) e i):=fun i hi=>by simp [clTT,List.getD,List.getElem?_map,List.getElem?_range hi]
 have hSl:(clSp m n e).length=clN m n e:=Fm.len
 refine table_g h (p:=clP m n e) (c:=clN m n e) (o:=clO m n e) (J:=clJ m n e) (S:=clS m n e) (L:=clL m n e) (TT:=clTT m n e) (WL:=whl n (cjb n (op m n) e)) (by omega) (by omega) hc0 hc24 (classOf_s h) ?_ (where_s m hb E) (modulus_c h) rfl hTl (fun i hi=>?_) (rgz_len _ _) (hwl e G.el) (clI_lt h G.el).1 (fun i hi=>?_) (fun i hi=>?_) ?_ fun s hs=>?_
 ·have:=consts_c h
  have e1:(List.range (cst n (cjb n (op m n) e)).length).map (cto n (op m n) e)=lll (clTT m n e):=by
   unfold lll clTT cto clN clL
   rw [List.map_map]
   rfl
  rw [e1] at this
  exact this
 ·rw [hTg i hi]
  refine ⟨mat_len _ _,mat_row,fun v hv j=>?_⟩
  obtain ⟨a,ha,rfl⟩:=List.mem_map.1 hv
  by_cases hj:j < clN m n e
  ·have:=rgz_get (n:=clN m n e) (g:=ct n (op m n) e i a) hj
   rw [this]
   have hr:=tcp_rng ((cst n (cjb n (op m n) e)).getD i []) (cw n (op m n) e j) ((cst n (cjb n (op m n) e)).getD i []).length a
   have h2:=(clS_pos h hi).2.1
   unfold clS clL at h2
   unfold ct
   omega
  rw [List.getD_eq_getElem?_getD,List.getElem?_eq_none (by rw [rgz_len]; omega)]
  simp
 ·obtain ⟨s1,s2,s3⟩:=clS_pos h hi
  have hx:=(clG h hi).1
  refine ⟨clX m n e i,hx,s3,hwl _ (G.iv_lt hx),(clI_lt h (G.iv_lt hx)).1,rfl,s1,by omega⟩
 ·have:=Fm.few i hi
  omega
 ·intro h0
  have:=Fm.len
  rw [h0] at this
  simp at this; omega
 obtain ⟨q,hq,e1⟩:=List.getElem_of_mem hs
 have hq2:q < clN m n e:=by have:=Fm.len; omega
 have hr:=row_of h Fm hq2
 have e2:(spsR (clP m n e) (clTT m n e) [startR (clN m n e) (clN m n e)] (clN m n e)).getD q []=s:=by rw [← e1]; simp [List.getD,List.getElem?_eq_getElem hq]
 rw [e2] at hr
 exact hr.sq
open Lean.Grind
attribute [local instance] Lean.Grind.Semiring.natCast Lean.Grind.Ring.intCast
section
variable {K:Type} [CommRing K]
def sumL (l:List (List Int)) (F:List Int→K):K:=l.foldr (fun r a=>F r + a) 0
theorem sumL_perm {l l' : List (List Int)} (h:l.Perm l') (F:List Int→K):sumL l F=sumL l' F:=by
 induction h with
 | nil=>rfl
 | cons x _ ih=>show F x + sumL _ F=F x + sumL _ F; rw [ih]
 | swap x y l=>show F y + (F x + sumL l F)=F x + (F y + sumL l F); grind
 | trans _ _ h1 h2=>rw [h1,h2]
theorem sumL_app (l l' : List (List Int)) (F:List Int→K):sumL (l++l') F=sumL l F + sumL l' F:=by
 induction l with
 | nil=>show sumL l' F=0 + sumL l' F; grind
 | cons x l ih=>show F x + sumL (l++l') F=F x + sumL l F + sumL l' F; rw [ih]; grind
theorem sumL_sm (F:List Int→K):∀ (l:List (List Int)),sumL l F=sm (fun i=>F (l.getD i [])) l.length:=by
 intro l
 have key:∀ k,k≤l.length→sumL (l.take k) F=sm (fun i=>F (l.getD i [])) k:=fun k=>by
  induction k with
  | zero=>intro _; rfl
  | succ k ih =>
   intro hk
   rw [List.take_succ_eq_append_getElem (by omega),sumL_app,ih (by omega),sm]
   have:l[k]'(by omega)=l.getD k []:=by simp [List.getD,List.getElem?_eq_getElem (show k < l.length by omega)]
   rw [this]
   show _ + (F _ + 0)=_
   grind
 have:=key l.length (Nat.le_refl _)
 rwa [List.take_length] at this
end
section
variable {n e:Nat} {m:List Int} [NeZero (clP m n e)]
def prR (m:List Int) (n e:Nat) [NeZero (clP m n e)] (r r' : List Int):Fin (clP m n e):=sm (fun k=>((clS m n e k:Nat):Fin (clP m n e)) * vc r k * vc r' (clJ m n e k)) (clN m n e)
theorem chT_ort (h:GT n m n e):(∀ r∈chT m n e,prR m n e r r=(n:Nat))∧(chT m n e).Pairwise (fun r r'=>prR m n e r r' = 0∧prR m n e r' r=0)∧(chT m n e).length=clN m n e∧(∀ r∈chT m n e,r.length=clN m n e∧rgp (clP m n e) r) ∧
  ∀ i j,i < clN m n e→j < clN m n e→sumL (chT m n e) (fun r=>(vc r j:Fin (clP m n e)) * vc r (clJ m n e i)) * ((clS m n e j:Nat):Fin (clP m n e))=if i=j then ((n:Nat):Fin (clP m n e)) else 0:=by
 obtain ⟨lam,Fm⟩:=(gt2_of h).fam
 have H:=gt2_of h
 have hSl:(clSp m n e).length=clN m n e:=Fm.len
 have hJl:∀ i,i < clN m n e→clJ m n e i < clN m n e:=fun i hi=>(clI_lt h (h.2.2.iv_lt (clG h hi).1)).1
 have hrow:∀ q,q < clN m n e→∃ d:Fin (clP m n e),d * d * prT n (op m n) e (clT (clI m n e) (fun i=>((ivR (clP m n e) (clS m n e i:Nat):Int):Fin (clP m n e))) (lam q)) (clT (clI m n e) (fun i=>((ivR (clP m n e) (clS m n e i:Nat):Int):Fin (clP m n e))) (lam q)) e=(n:Nat)∧∀ i,i < clN m n e→(vc (clRw m n e ((clSp m n e).getD q [])) i:Fin (clP m n e))=d * lam q i * ((ivR (clP m n e) (clS m n e i:Nat):Int):Fin (clP m n e)):=fun q hq=>by
  have hr:=row_of h Fm hq
  refine ⟨_,hr.dd,fun i hi=>?_⟩
  unfold clRw
  rw [rwI_K H.R hi]
  have hw:(vc (chW (clP m n e) (clO m n e) ((clSp m n e).getD q [])):Nat→Fin (clP m n e))=lam q:=hr.w
  rw [hw]
  show lam q i * ((chD (clP m n e) n (clO m n e) (clN m n e) (clJ m n e) (clS m n e) ((clSp m n e).getD q []):Nat):Fin (clP m n e)) * _=((chD (clP m n e) n (clO m n e) (clN m n e) (clJ m n e) (clS m n e) ((clSp m n e).getD q []):Nat):Fin (clP m n e)) * lam q i * _
  grind
 have hrow' : ∀ q,∃ d:Fin (clP m n e),q < clN m n e→d * d * prT n (op m n) e (clT (clI m n e) (fun i=>((ivR (clP m n e) (clS m n e i:Nat):Int):Fin (clP m n e))) (lam q)) (clT (clI m n e) (fun i=>((ivR (clP m n e) (clS m n e i:Nat):Int):Fin (clP m n e))) (lam q)) e=(n:Nat)∧∀ i,i < clN m n e→(vc (clRw m n e ((clSp m n e).getD q [])) i:Fin (clP m n e))=d * lam q i * ((ivR (clP m n e) (clS m n e i:Nat):Int):Fin (clP m n e)):=fun q=>by
  by_cases hq:q < clN m n e
  ·obtain ⟨d,hd⟩:=hrow q hq; exact ⟨d,fun _=>hd⟩
  exact ⟨0,fun hh=>absurd hh hq⟩
 obtain ⟨d,hd⟩:=Classical.axiomOfChoice hrow'
 have hpr:∀ q q',q < clN m n e→q' < clN m n e→prR m n e (clRw m n e ((clSp m n e).getD q [])) (clRw m n e ((clSp m n e).getD q' []))=d q * d q' * prT n (op m n) e (clT (clI m n e) (fun i=>((ivR (clP m n e) (clS m n e i:Nat):Int):Fin (clP m n e))) (lam q)) (clT (clI m n e) (fun i=>((ivR (clP m n e) (clS m n e i:Nat):Int):Fin (clP m n e))) (lam q')) e:=fun q q' hq hq'=>by
  unfold prR
  rw [Fam.sum H,← sm_mul]
  refine sm_congr fun i hi=>?_
  rw [(hd q hq).2 i hi,(hd q' hq').2 _ (hJl i hi)]
  have e1:=H.io i hi
  rw [cl_kap h hi] at e1
  have e2:((ivR (clP m n e) (clS m n e (clJ m n e i):Nat):Int):Fin (clP m n e))=((ivR (clP m n e) (clS m n e i:Nat):Int):Fin (clP m n e)):=H.ioJ hi
  rw [e2]
  show _=d q * d q' * (lam q i * lam q' (clJ m n e i) * _)
  grind
 have hP:=chT_perm m n e
 have hg:∀ q,q < clN m n e→((clSp m n e).map (clRw m n e)).getD q []=clRw m n e ((clSp m n e).getD q []):=fun q hq=>by
  simp [List.getD,List.getElem?_map,List.getElem?_eq_getElem (show q < (clSp m n e).length by omega)]
 refine ⟨fun r hr=>?_,?_,?_,fun r hr=>?_,fun i j hi hj=>?_⟩
 ·obtain ⟨s,hs,rfl⟩:=List.mem_map.1 (hP.mem_iff.1 hr)
  obtain ⟨q,hq,e1⟩:=List.getElem_of_mem hs
  have e2:(clSp m n e).getD q []=s:=by rw [← e1]; simp [List.getD,List.getElem?_eq_getElem hq]
  rw [← e2,hpr q q (by omega) (by omega)]
  exact (hd q (by omega)).1
 ·refine (hP.pairwise_iff fun hab=>⟨hab.2,hab.1⟩).2 ?_
  rw [List.pairwise_iff_getElem]
  intro q q' hq hq' hlt
  rw [List.length_map] at hq hq'
  simp only [List.getElem_map]
  have e1:(clSp m n e)[q]=(clSp m n e).getD q []:=by simp [List.getD,List.getElem?_eq_getElem hq]
  have e2:(clSp m n e)[q']=(clSp m n e).getD q' []:=by simp [List.getD,List.getElem?_eq_getElem hq']
  rw [e1,e2,hpr q q' (by omega) (by omega),hpr q' q (by omega) (by omega),Fm.ort q q' (by omega) (by omega) (by omega),Fm.ort q' q (by omega) (by omega) (by omega)]
  exact ⟨by grind,by grind⟩
 ·rw [hP.length_eq,List.length_map,hSl]
 ·obtain ⟨s,hs,rfl⟩:=List.mem_map.1 (hP.mem_iff.1 hr)
  exact ⟨clRw_len m n e s,clRw_rg h s⟩
 rw [sumL_perm hP,sumL_sm,List.length_map,hSl]
 have hcol:=Fam.col H Fm (d:=d) (fun q hq=>(hd q hq).1) hi hj
 have e1:sm (fun q=>(vc (((clSp m n e).map (clRw m n e)).getD q []) j:Fin (clP m n e)) * vc (((clSp m n e).map (clRw m n e)).getD q []) (clJ m n e i)) (clN m n e)=if i=j then ((n:Nat):Fin (clP m n e)) * ((ivR (clP m n e) (clS m n e j:Nat):Int):Fin (clP m n e)) else 0:=by
  rw [← hcol]
  refine sm_congr fun q hq=>?_
  rw [hg q hq,(hd q hq).2 j hj,(hd q hq).2 _ (hJl i hi)]
  have e2:((ivR (clP m n e) (clS m n e (clJ m n e i):Nat):Int):Fin (clP m n e))=((ivR (clP m n e) (clS m n e i:Nat):Int):Fin (clP m n e)):=H.ioJ hi
  rw [e2]; rfl
 rw [e1]
 have e3:=H.io j hj
 rw [cl_kap h hj] at e3
 by_cases hij:i=j
 ·rw [if_pos hij,if_pos hij]; grind
 rw [if_neg hij,if_neg hij]; grind
end
end Go.Proofs.YtjlmpmidchddjaaDoor

namespace Go.Proofs.YtjlmpmidchddjaaDoor
open Go.Pv
def dgL (m:List Int) (n e:Nat):List Int:=(chT m n e).map fun r=>r.getD (clO m n e) 0
theorem degrees_no (N:Int) (m:List Int) (hm:m.length≤1000000000000000) (hf:¬ (gf N m).1=0):FnC Tryd.prog 13 [gp N m] (.tup [.list [],fl (gf N m)]):=by
 refine fnc_of tab_ok Tryd.func13 rfl (by kernel_rfl) (by rw [Tryd.ntmps13]; exact Nat.le_add_left 1 _) ?_; rw [Tryd.ntmps13]
 refine qm ?_
 refine hk_region fun K hK=>runs_eval tab_ok ?_
 simp only [evz,fl,gp,tab,simprocAttr]
 refine fin_run ?_ (hK _ ?_)<;>clear hK K
 ·(first|exact trivial|omega|(simp only [In64] at *; omega)|(simp [In64] at *; omega)|(simp_all; done)|skip)
 refine qa (qm ?_)
 refine hk_region fun K hK=>runs_eval tab_ok ?_
 simp only [evz,fl,gp,tab,simprocAttr]
 refine fin_stop trivial (runs_call (table_no N m hm hf) rfl rfl rfl (by simp only [dstOk,Nat.reduceLT]) (by repeat (first|exact trivial|constructor)) (runs_eval tab_ok ?_))
 simp only [evz,fl,gp,tab,simprocAttr]
 refine fin_run ?_ (hK _ ?_)<;>clear hK K
 ·(first|exact trivial|omega|(simp only [In64] at *; omega)|(simp [In64] at *; omega)|(simp_all; done)|skip)
 refine qa (qm (qm ?_))
 refine hk_region fun K hK=>runs_eval tab_ok ?_
 simp only [evz,fl,gp,tab,simprocAttr]
 refine fin_run ?_ (hK _ ?_)<;>clear hK K
 ·(first|exact trivial|omega|(simp only [In64] at *; omega)|(simp [In64] at *; omega)|(simp_all; done)|skip)
 refine qa ?_
 refine hk_cond rfl (fun hC1=>?_) (fun hC1=>?_)
 ·(try simp only [nhs] at hC1)
  refine qm ?_
  refine hk_draw mixed (by kernel_rfl) fun K hK=>runs_eval tab_ok ?_
  simp only [evz,fl,gp,tab,simprocAttr]
  refine fin_run ?_ (hK _ ?_)<;>clear hK K
  ·(first|exact trivial|omega|(simp only [In64] at *; omega)|(simp [In64] at *; omega)|(simp_all; done)|skip)
  refine qa (qk (qb ?_))
  simp only [Tryd.results13,enA,evz,fl,gp,tab,simprocAttr]
  all_goals ((first|exact rfl|exact ⟨rfl,rfl⟩|exact ⟨rfl,rfl,rfl⟩|exact ⟨trivial,rfl⟩|exact ⟨Nat.le_refl _,rfl⟩|trivial|(simp; done)))
 (try simp only [nhs] at hC1)
 exact absurd hC1 hf
theorem degrees_many {n e:Nat} {m:List Int} (h:GT n m n e) (hc:24 < clN m n e):FnC Tryd.prog 13 [gp n m] (.tup [.list [],fl (2,0)]):=by
 refine fnc_of tab_ok Tryd.func13 rfl (by kernel_rfl) (by rw [Tryd.ntmps13]; exact Nat.le_add_left 1 _) ?_; rw [Tryd.ntmps13]
 refine qm ?_
 refine hk_region fun K hK=>runs_eval tab_ok ?_
 simp only [evz,fl,gp,tab,simprocAttr]
 refine fin_run ?_ (hK _ ?_)<;>clear hK K
 ·(first|exact trivial|omega|(simp only [In64] at *; omega)|(simp [In64] at *; omega)|(simp_all; done)|skip)
 refine qa (qm ?_)
 refine hk_region fun K hK=>runs_eval tab_ok ?_
 simp only [evz,fl,gp,tab,simprocAttr]
 refine fin_stop trivial (runs_call (table_many h hc) rfl rfl rfl (by simp only [dstOk,Nat.reduceLT]) (by repeat (first|exact trivial|constructor)) (runs_eval tab_ok ?_))
 simp only [evz,fl,gp,tab,simprocAttr]
 refine fin_run ?_ (hK _ ?_)<;>clear hK K
 ·(first|exact trivial|omega|(simp only [In64] at *; omega)|(simp [In64] at *; omega)|(simp_all; done)|skip)
 refine qa (qm (qm ?_))
 refine hk_region fun K hK=>runs_eval tab_ok ?_
 simp only [evz,fl,gp,tab,simprocAttr]
 refine fin_run ?_ (hK _ ?_)<;>clear hK K
 ·(first|exact trivial|omega|(simp only [In64] at *; omega)|(simp [In64] at *; omega)|(simp_all; done)|skip)
 refine qa ?_
 refine hk_cond rfl (fun hC1=>?_) (fun hC1=>?_)
 ·(try simp only [nhs] at hC1)
  refine qm ?_
  refine hk_draw mixed (by kernel_rfl) fun K hK=>runs_eval tab_ok ?_
  simp only [evz,fl,gp,tab,simprocAttr]
  refine fin_run ?_ (hK _ ?_)<;>clear hK K
  ·(first|exact trivial|omega|(simp only [In64] at *; omega)|(simp [In64] at *; omega)|(simp_all; done)|skip)
  refine qa (qk (qb ?_))
  simp only [Tryd.results13,enA,evz,fl,gp,tab,simprocAttr]
  all_goals ((first|exact rfl|exact ⟨rfl,rfl⟩|exact ⟨rfl,rfl,rfl⟩|exact ⟨trivial,rfl⟩|exact ⟨Nat.le_refl _,rfl⟩|trivial|(simp; done)))
 (try simp only [nhs] at hC1)
 first|exact absurd rfl hC1|exact hC1.elim|cases hC1|(simp at hC1; done)
theorem degrees_c {n e:Nat} {m:List Int} (h:GT n m n e) (hc24:clN m n e≤24):FnC Tryd.prog 13 [gp n m] (.tup [.list (il (dgL m n e)),fl (0,0)]):=by
 have E:=h.2.2.cjb_eqv
 have hb:=h.2.1.big
 obtain ⟨P,p1,p2⟩:=cl_P h
 haveI:NeZero (clP m n e):=⟨by have:=P.three; omega⟩
 obtain ⟨_,_,t3,t4,_⟩:=chT_ort h
 have hwl:(whl n (cjb n (op m n) e)).getD e 0=(clO m n e:Int):=by rw [whl,rgz_get h.2.2.el]; exact (clI_lt h h.2.2.el).2
 have hol:=(clI_lt h h.2.2.el).1
 have hwll:(whl n (cjb n (op m n) e)).length=n:=rgz_len _ _
 refine fnc_of tab_ok Tryd.func13 rfl (by kernel_rfl) (by rw [Tryd.ntmps13]; exact Nat.le_add_left 1 _) ?_; rw [Tryd.ntmps13]
 refine qm ?_
 refine hk_region fun K hK=>runs_eval tab_ok ?_
 simp only [evz,fl,gp,tab,simprocAttr]
 refine fin_run ?_ (hK _ ?_)<;>clear hK K
 ·(first|exact trivial|omega|(simp only [In64] at *; omega)|(simp [In64] at *; omega)|(simp_all; done)|skip)
 refine qa (qm ?_)
 refine hk_region fun K hK=>runs_eval tab_ok ?_
 simp only [evz,fl,gp,tab,simprocAttr]
 refine fin_stop trivial (runs_call (table_c h hc24) rfl rfl rfl (by simp only [dstOk,Nat.reduceLT]) (by repeat (first|exact trivial|constructor)) (runs_eval tab_ok ?_))
 simp only [evz,fl,gp,tab,simprocAttr]
 refine fin_run ?_ (hK _ ?_)<;>clear hK K
 ·(first|exact trivial|omega|(simp only [In64] at *; omega)|(simp [In64] at *; omega)|(simp_all; done)|skip)
 refine qa (qm (qm ?_))
 refine hk_region fun K hK=>runs_eval tab_ok ?_
 simp only [evz,fl,gp,tab,simprocAttr]
 refine fin_run ?_ (hK _ ?_)<;>clear hK K
 ·(first|exact trivial|omega|(simp only [In64] at *; omega)|(simp [In64] at *; omega)|(simp_all; done)|skip)
 refine qa ?_
 refine hk_cond rfl (fun hC1=>?_) (fun hC1=>?_)
 ·cases hC1
 (try simp only [nhs] at hC1)
 refine qh (qa (qm ?_))
 refine hk_draw mixed (by kernel_rfl) fun K hK=>runs_eval tab_ok ?_
 simp only [evz,fl,gp,tab,simprocAttr]
 refine fin_stop trivial (runs_call (classOf_s h) rfl rfl rfl (by simp only [dstOk,Nat.reduceLT]) (by repeat (first|exact trivial|constructor)) (runs_eval tab_ok ?_))
 simp only [evz,fl,gp,tab,simprocAttr]
 refine fin_stop trivial (runs_call (where_s m hb E) rfl rfl rfl (by simp only [dstOk,Nat.reduceLT]) (by repeat (first|exact trivial|constructor)) (runs_eval tab_ok ?_))
 simp only [evz,fl,gp,tab,simprocAttr]
 refine fin_run ?_ (hK _ ?_)<;>clear hK K
 ·(first|exact trivial|omega|(simp only [In64] at *; omega)|(simp [In64] at *; omega)|(simp_all; done)|skip)
 refine qa (qm ?_)
 refine hk_region fun K hK=>runs_eval tab_ok ?_
 simp only [evz,fl,gp,tab,simprocAttr]
 refine fin_run trivial (hK _ ?_)<;>clear hK K
 refine qa (qm (qm ?_))
 refine hk_own0 8 rfl ?_
 refine hk_region fun K hK=>runs_eval tab_ok ?_
 simp only [evz,fl,gp,tab,simprocAttr,ll_length,t3]
 refine fin_run trivial (hK _ ?_)<;>clear hK K
 refine qa (ql ?_)
 refine hk_loop (ι:=Nat) (fun i=>⟨45,[(1,.ptr 0 0),(3,.ptr 1 0),(6,.ptr 2 0),(7,.p (.list (il (whl n (cjb n (op m n) e))))),(8,.sl 3 0 i),(25,.p (.list (ll (chT m n e)))),(26,.p (.int .i64 (clN m n e))),(27,.p (.int .i64 i))],[.own [.p (.int .i64 n),.p (.list (il m))],.own [.p (.int .i64 0),.p (.int .i64 0)],.own [.p (.int .i64 0),.p (.int .i64 0)],.own (ol ((dgL m n e).take i))]⟩) (fun i=>i≤clN m n e) (fun i=>clN m n e - i) 0 (Nat.zero_le _) [0,1,2,3] (by simp only [leq,leA,evz,fl,gp,tab,simprocAttr]<;>first|trivial|(simp [LeH,ol_nil]; done)|skip) fun i hi=>?_
 refine qm ?_
 refine hk_region fun K hK=>runs_eval tab_ok ?_
 simp only [evz,fl,gp,tab,simprocAttr]
 refine fin_run trivial (hK _ ?_)<;>clear hK K
 refine qa (qm ?_)
 refine hk_cond rfl (fun hC2=>?_) (fun hC2=>?_)
 ·(try simp only [nhs] at hC2)
  have hil:i < (chT m n e).length:=by omega
  obtain ⟨r,hr⟩:∃ r,(chT m n e).getD i []=r:=⟨_,rfl⟩
  have hrl:r.length=clN m n e:=by rw [← hr]; exact (t4 _ (mem_getD hil)).1
  have hdk:(dgL m n e).take (i + 1)=(dgL m n e).take i++[r.getD (clO m n e) 0]:=by
   rw [List.take_succ_eq_append_getElem (by simp [dgL]; omega)]
   congr 2
   simp only [dgL,List.getElem_map]
   rw [← hr]; simp [List.getD,List.getElem?_eq_getElem hil]
  have hdl:((dgL m n e).take i).length=i:=by rw [List.length_take]; simp [dgL]; omega
  have hdt:List.take i ((dgL m n e).take i)=(dgL m n e).take i:=List.take_of_length_le (by omega)
  refine qh (qa (qm (ql (qm ?_))))
  refine hk_region fun K hK=>runs_eval tab_ok ?_
  simp only [evz,fl,gp,tab,simprocAttr,ll_length,ll_get hil,hr]
  refine fin_run ?_ (hK _ ?_)<;>clear hK K
  ·omega
  refine qa ?_
  refine hk_region fun K hK=>runs_eval tab_ok ?_
  simp only [evz,fl,gp,tab,simprocAttr,hdt,hdl,il_get (show e < (whl n (cjb n (op m n) e)).length by rw [hwll]; exact h.2.2.el),hwl,il_get (show clO m n e < r.length by rw [hrl]; exact hol)]
  refine fin_stop ?_ (runs_call (oneOf_c h) rfl rfl rfl (by simp only [dstOk,Nat.reduceLT]) (by repeat (first|exact trivial|constructor)) (runs_eval tab_ok ?_))
  ·(first|exact trivial|omega|(simp only [In64] at *; omega)|(simp [In64] at *; omega)|(simp_all; done)|skip)
  simp only [evz,fl,gp,tab,simprocAttr,hdt,hdl,il_get (show e < (whl n (cjb n (op m n) e)).length by rw [hwll]; exact h.2.2.el),hwl,il_get (show clO m n e < r.length by rw [hrl]; exact hol)]
  refine fin_run ?_ (hK _ ?_)<;>clear hK K
  ·have:=h.2.2.el
   have hol2:clO m n e < clN m n e:=hol
   omega
  refine qd (qa ?_)
  refine hk_region fun K hK=>runs_eval tab_ok ?_
  simp only [evz,fl,gp,tab,simprocAttr]
  refine fin_run ?_ (hK _ ?_)<;>clear hK K
  ·(first|exact trivial|omega|(simp only [In64] at *; omega)|(simp [In64] at *; omega)|(simp_all; done)|skip)
  refine qa ?_
  refine ⟨i + 1,[0,1,2,4],by omega,by omega,?_⟩
  rw [hdk]
  simp only [leq,leA,evz,fl,gp,tab,simprocAttr]<;>first|trivial|omega|(rw [List.take_of_length_le (by rw [List.length_append]; exact Nat.le_refl _)]; done)|(rw [hdl,List.take_of_length_le (by rw [List.length_append,hdl]; exact Nat.le_refl _)]; done)|skip
 (try simp only [nhs] at hC2)
 have hil:i=clN m n e:=by omega
 have hdl:(dgL m n e).length=clN m n e:=by simp [dgL,t3]
 have hdt:(dgL m n e).take i=dgL m n e:=List.take_of_length_le (by omega)
 refine qj (qc (qc (qf (qa (qm ?_)))))
 refine hk_draw mixed (by kernel_rfl) fun K hK=>runs_eval tab_ok ?_
 simp only [evz,fl,gp,tab,simprocAttr]
 refine fin_run ?_ (hK _ ?_)<;>clear hK K
 ·(first|exact trivial|omega|(simp only [In64] at *; omega)|(simp [In64] at *; omega)|(simp_all; done)|skip)
 refine qa (qk ?_)
 simp only [Tryd.results13,enA,evz,fl,gp,tab,simprocAttr]
 rw [hdt,List.take_of_length_le (show (dgL m n e).length≤i by omega)]
 exact ⟨by omega,rfl⟩
theorem cf_no (N:Int) (m:List Int) (hm:m.length≤1000000000000000) (hf:¬ (gf N m).1=0):FnC Tryd.prog 14 [gp N m] (fl (gf N m)):=by
 refine fnc_of tab_ok Tryd.func14 rfl (by kernel_rfl) (by rw [Tryd.ntmps14]; exact Nat.le_add_left 1 _) ?_; rw [Tryd.ntmps14]
 refine qm ?_
 refine hk_region fun K hK=>runs_eval tab_ok ?_
 simp only [evz,fl,gp,tab,simprocAttr]
 refine fin_run ?_ (hK _ ?_)<;>clear hK K
 ·(first|exact trivial|omega|(simp only [In64] at *; omega)|(simp [In64] at *; omega)|(simp_all; done)|skip)
 refine qa (qm ?_)
 refine hk_region fun K hK=>runs_eval tab_ok ?_
 simp only [evz,fl,gp,tab,simprocAttr]
 refine fin_stop trivial (runs_call (gf_c N m hm) rfl rfl rfl (by simp only [dstOk,Nat.reduceLT]) (by repeat (first|exact trivial|constructor)) (runs_eval tab_ok ?_))
 simp only [evz,fl,gp,tab,simprocAttr]
 refine fin_run ?_ (hK _ ?_)<;>clear hK K
 ·(first|exact trivial|omega|(simp only [In64] at *; omega)|(simp [In64] at *; omega)|(simp_all; done)|skip)
 refine qa (qm (qm ?_))
 refine hk_region fun K hK=>runs_eval tab_ok ?_
 simp only [evz,fl,gp,tab,simprocAttr,decide_eq_false hf]
 refine fin_run ?_ (hK _ ?_)<;>clear hK K
 ·(first|exact trivial|omega|(simp only [In64] at *; omega)|(simp [In64] at *; omega)|(simp_all; done)|skip)
 refine qa ?_
 refine hk_cond rfl (fun hC1=>?_) (fun hC1=>?_)
 ·cases hC1
 refine qh (qa (qm ?_))
 refine hk_region fun K hK=>runs_eval tab_ok ?_
 simp only [evz,fl,gp,tab,simprocAttr]
 refine fin_run ?_ (hK _ ?_)<;>clear hK K
 ·(first|exact trivial|omega|(simp only [In64] at *; omega)|(simp [In64] at *; omega)|(simp_all; done)|skip)
 refine qa (qk ?_)
 simp only [Tryd.results14,enA,evz,fl,gp,tab,simprocAttr]
 all_goals ((first|exact rfl|exact ⟨rfl,rfl⟩|exact ⟨rfl,rfl,rfl⟩|exact ⟨trivial,rfl⟩|exact ⟨Nat.le_refl _,rfl⟩|trivial|(simp; done)))
theorem gf_c0 {n e:Nat} {m:List Int} (h:GT n m n e):FnC Tryd.prog 52 [gp n m] (fl (0,0)):=by
 have hb:=h.2.1.big
 have:=gf_c n m (by rw [h.2.1.len]; have:=Nat.mul_le_mul hb hb; omega)
 rwa [gf_of h] at this
theorem cf_many {n e:Nat} {m:List Int} (h:GT n m n e) (hc:24 < clN m n e):FnC Tryd.prog 14 [gp n m] (fl (2,0)):=by
 have hcl:(cst n (cjb n (op m n) e)).length=clN m n e:=rfl
 refine fnc_of tab_ok Tryd.func14 rfl (by kernel_rfl) (by rw [Tryd.ntmps14]; exact Nat.le_add_left 1 _) ?_; rw [Tryd.ntmps14]
 refine qm ?_
 refine hk_region fun K hK=>runs_eval tab_ok ?_
 simp only [evz,fl,gp,tab,simprocAttr]
 refine fin_run ?_ (hK _ ?_)<;>clear hK K
 ·(first|exact trivial|omega|(simp only [In64] at *; omega)|(simp [In64] at *; omega)|(simp_all; done)|skip)
 refine qa (qm ?_)
 refine hk_region fun K hK=>runs_eval tab_ok ?_
 simp only [evz,fl,gp,tab,simprocAttr]
 refine fin_stop trivial (runs_call (gf_c0 h) rfl rfl rfl (by simp only [dstOk,Nat.reduceLT]) (by repeat (first|exact trivial|constructor)) (runs_eval tab_ok ?_))
 simp only [evz,fl,gp,tab,simprocAttr]
 refine fin_run ?_ (hK _ ?_)<;>clear hK K
 ·(first|exact trivial|omega|(simp only [In64] at *; omega)|(simp [In64] at *; omega)|(simp_all; done)|skip)
 refine qa (qm (qm ?_))
 refine hk_region fun K hK=>runs_eval tab_ok ?_
 simp only [evz,fl,gp,tab,simprocAttr,ll_length,hcl]
 refine fin_stop trivial (runs_call (classesOf_c h) rfl rfl rfl (by simp only [dstOk,Nat.reduceLT]) (by repeat (first|exact trivial|constructor)) (runs_eval tab_ok ?_))
 simp only [evz,fl,gp,tab,simprocAttr,ll_length,hcl]
 refine fin_run ?_ (hK _ ?_)<;>clear hK K
 ·(first|exact trivial|omega|(simp only [In64] at *; omega)|(simp [In64] at *; omega)|(simp_all; done)|skip)
 refine qa ?_
 refine hk_cond rfl (fun hC1=>?_) (fun hC1=>?_)
 ·(try simp only [nhs] at hC1)
  refine hk_region fun K hK=>runs_eval tab_ok ?_
  simp only [evz,fl,gp,tab,simprocAttr]
  refine fin_stop trivial (runs_call (f_c 2 0) rfl rfl rfl (by simp only [dstOk,Nat.reduceLT]) (by repeat (first|exact trivial|constructor)) (runs_eval tab_ok ?_))
  simp only [evz,fl,gp,tab,simprocAttr]
  refine fin_run ?_ (hK _ ?_)<;>clear hK K
  ·(first|exact trivial|omega|(simp only [In64] at *; omega)|(simp [In64] at *; omega)|(simp_all; done)|skip)
  refine qa (qm ?_)
  refine hk_region fun K hK=>runs_eval tab_ok ?_
  simp only [evz,fl,gp,tab,simprocAttr]
  refine fin_run ?_ (hK _ ?_)<;>clear hK K
  ·(first|exact trivial|omega|(simp only [In64] at *; omega)|(simp [In64] at *; omega)|(simp_all; done)|skip)
  refine qa (qk ?_)
  simp only [Tryd.results14,enA,evz,fl,gp,tab,simprocAttr]
  all_goals ((first|exact rfl|exact ⟨rfl,rfl⟩|exact ⟨rfl,rfl,rfl⟩|exact ⟨trivial,rfl⟩|exact ⟨Nat.le_refl _,rfl⟩|trivial|(simp; done)))
 (try simp only [nhs] at hC1)
 omega
theorem cf_ok {n e:Nat} {m:List Int} (h:GT n m n e) (hc:clN m n e≤24):FnC Tryd.prog 14 [gp n m] (fl (0,0)):=by
 have hcl:(cst n (cjb n (op m n) e)).length=clN m n e:=rfl
 refine fnc_of tab_ok Tryd.func14 rfl (by kernel_rfl) (by rw [Tryd.ntmps14]; exact Nat.le_add_left 1 _) ?_; rw [Tryd.ntmps14]
 refine qm ?_
 refine hk_region fun K hK=>runs_eval tab_ok ?_
 simp only [evz,fl,gp,tab,simprocAttr]
 refine fin_run ?_ (hK _ ?_)<;>clear hK K
 ·(first|exact trivial|omega|(simp only [In64] at *; omega)|(simp [In64] at *; omega)|(simp_all; done)|skip)
 refine qa (qm ?_)
 refine hk_region fun K hK=>runs_eval tab_ok ?_
 simp only [evz,fl,gp,tab,simprocAttr]
 refine fin_stop trivial (runs_call (gf_c0 h) rfl rfl rfl (by simp only [dstOk,Nat.reduceLT]) (by repeat (first|exact trivial|constructor)) (runs_eval tab_ok ?_))
 simp only [evz,fl,gp,tab,simprocAttr]
 refine fin_run ?_ (hK _ ?_)<;>clear hK K
 ·(first|exact trivial|omega|(simp only [In64] at *; omega)|(simp [In64] at *; omega)|(simp_all; done)|skip)
 refine qa (qm (qm ?_))
 refine hk_region fun K hK=>runs_eval tab_ok ?_
 simp only [evz,fl,gp,tab,simprocAttr,ll_length,hcl]
 refine fin_stop trivial (runs_call (classesOf_c h) rfl rfl rfl (by simp only [dstOk,Nat.reduceLT]) (by repeat (first|exact trivial|constructor)) (runs_eval tab_ok ?_))
 simp only [evz,fl,gp,tab,simprocAttr,ll_length,hcl]
 refine fin_run ?_ (hK _ ?_)<;>clear hK K
 ·(first|exact trivial|omega|(simp only [In64] at *; omega)|(simp [In64] at *; omega)|(simp_all; done)|skip)
 refine qa ?_
 refine hk_cond rfl (fun hC1=>?_) (fun hC1=>?_)
 ·(try simp only [nhs] at hC1)
  omega
 (try simp only [nhs] at hC1)
 refine qh (qa (qm ?_))
 refine hk_region fun K hK=>runs_eval tab_ok ?_
 simp only [evz,fl,gp,tab,simprocAttr]
 refine fin_run ?_ (hK _ ?_)<;>clear hK K
 ·(first|exact trivial|omega|(simp only [In64] at *; omega)|(simp [In64] at *; omega)|(simp_all; done)|skip)
 refine qa (qk ?_)
 simp only [Tryd.results14,enA,evz,fl,gp,tab,simprocAttr]
 all_goals ((first|exact rfl|exact ⟨rfl,rfl⟩|exact ⟨rfl,rfl,rfl⟩|exact ⟨trivial,rfl⟩|exact ⟨Nat.le_refl _,rfl⟩|trivial|(simp; done)))
theorem prmB_iff {p:Nat} : prmB p=true↔1 < p∧∀ d,d < p→2≤d→¬ p % d=0:=by
 unfold prmB
 rw [Bool.and_eq_true,decide_eq_true_iff,List.all_eq_true]
 refine ⟨fun ⟨a,b⟩=>⟨a,fun d hd h2=>?_⟩,fun ⟨a,b⟩=>⟨a,fun d hd=>?_⟩⟩
 ·have:=b d (List.mem_range.2 hd)
  simp only [Bool.or_eq_true,decide_eq_true_eq] at this
  rcases this with h | h
  ·omega
  exact h
 simp only [Bool.or_eq_true,decide_eq_true_eq]
 by_cases h2:d < 2
 ·exact .inl h2
 exact .inr (b d (List.mem_range.1 hd) (by omega))
theorem md_good {n e:Nat} {m:List Int} (h:GT n m n e) {q:Nat} (hq:2 * n + 1≤q) (h1:q % expo m n e n=1 % expo m n e n) (h2:prmB q=true):clP m n e≤q:=by
 have hd:=expo_dvd h n (Nat.le_refl _)
 have hp:=h.2.1.pos
 obtain ⟨k1,k2,k3⟩:=mdK_spec hp h.2.1.big hd
 unfold clP mdR
 have hE0:0 < expo m n e n:=(expo_pos h (Nat.le_refl n)).1
 have hE:=Nat.le_of_dvd (by omega) hd
 generalize expo m n e n=E at *
 have h3:(q - 1) % E=0:=Nat.sub_mod_eq_zero_of_mod_eq h1
 obtain ⟨k,hk⟩:=Nat.dvd_of_mod_eq_zero h3
 have hk0:0 < k:=by
  refine Nat.pos_of_ne_zero fun h0=>?_
  rw [h0,Nat.mul_zero] at hk; omega
 obtain ⟨j,rfl⟩:∃ j,k=j + 1:=⟨k - 1,by omega⟩
 have hqj:q=E * (j + 1) + 1:=by omega
 have hc:mdC E n j=true:=by unfold mdC; rw [← hqj,h2,decide_eq_true (by omega)]; rfl
 have hjk:mdK E n≤j:=Nat.le_of_not_lt fun hl=>by rw [k3 j hl] at hc; cases hc
 have:=Nat.mul_le_mul_left E (show mdK E n + 1≤j + 1 by omega)
 omega
theorem refMod_c {n e:Nat} {m:List Int} (h:GT n m n e):FnC Tryd.prog 56 [gp n m] (.int .i64 (clP m n e:Nat)):=by
 have hb:=h.2.1.big
 obtain ⟨P,p1,p2⟩:=cl_P h
 have hd:=expo_dvd h n (Nat.le_refl _)
 have hp:=h.2.1.pos
 have hgood:=fun q=>md_good h (q:=q)
 have hPm:clP m n e % expo m n e n=1 % expo m n e n:=by
  unfold clP mdR
  rw [Nat.mul_add_mod]
 have hPp:prmB (clP m n e)=true:=(mdR_le hp hb hd).2.2
 have hE0:=(expo_pos h (Nat.le_refl n))
 refine fnc_of tab_ok Tryd.func56 rfl (by kernel_rfl) (by rw [Tryd.ntmps56]; exact Nat.le_add_left 1 _) ?_; rw [Tryd.ntmps56]
 refine qm ?_
 refine hk_region fun K hK=>runs_eval tab_ok ?_
 simp only [evz,fl,gp,tab,simprocAttr]
 refine fin_run ?_ (hK _ ?_)<;>clear hK K
 ·(first|exact trivial|omega|(simp only [In64] at *; omega)|(simp [In64] at *; omega)|(simp_all; done)|skip)
 refine qa (qm ?_)
 refine hk_region fun K hK=>runs_eval tab_ok ?_
 simp only [evz,fl,gp,tab,simprocAttr]
 refine fin_run trivial (hK _ ?_)<;>clear hK K
 refine qa (qm (qm ?_))
 refine hk_region fun K hK=>runs_eval tab_ok ?_
 simp only [evz,fl,gp,tab,simprocAttr]
 refine fin_run trivial (hK _ ?_)<;>clear hK K
 refine qa (ql ?_)
 refine hk_loop (ι:=Nat) (fun i=>⟨51,[(1,.ptr 0 0),(3,.p (.int .i64 (expo m n e i:Nat))),(4,.p (.int .i64 i))],[.own [.p (.int .i64 n),.p (.list (il m))]]⟩) (fun i=>i≤n) (fun i=>n - i) 0 (Nat.zero_le _) [0] (by simp only [leq,leA,evz,fl,gp,tab,simprocAttr]<;>first|rfl|trivial|skip) fun i hi=>?_
 refine qm (qm ?_)
 refine hk_region fun K hK=>runs_eval tab_ok ?_
 simp only [evz,fl,gp,tab,simprocAttr]
 refine fin_run ?_ (hK _ ?_)<;>clear hK K
 ·(first|exact trivial|omega|(simp only [In64] at *; omega)|(simp [In64] at *; omega)|(simp_all; done)|skip)
 refine qa ?_
 refine hk_cond rfl (fun hC1=>?_) (fun hC1=>?_)
 ·(try simp only [nhs] at hC1)
  have hil:i < n:=by omega
  have e1:=expo_pos h hi
  have e2:=expo_pos h (show i + 1≤n from hil)
  have o1:=Nat.le_of_dvd (by omega) (h.2.2.ord_dvd hil)
  have o2:=h.2.2.ord_pos hil
  have hL:expo m n e (i + 1)=expo m n e i / Nat.gcd (expo m n e i) (ord n (op m n) e i) * ord n (op m n) e i:=(lcm_alt _ _).symm
  have hgp:0 < Nat.gcd (expo m n e i) (ord n (op m n) e i):=Nat.gcd_pos_of_pos_left _ (by omega)
  have tdd:Int.tdiv ((expo m n e i:Nat):Int) ((Nat.gcd (expo m n e i) (ord n (op m n) e i):Nat):Int)=((expo m n e i / Nat.gcd (expo m n e i) (ord n (op m n) e i):Nat):Int):=rfl
  have hmul:((expo m n e i / Nat.gcd (expo m n e i) (ord n (op m n) e i):Nat):Int) * ((ord n (op m n) e i:Nat):Int)=((expo m n e (i + 1):Nat):Int):=by rw [hL,Int.natCast_mul]
  refine qh (qa (qm (ql ?_)))
  refine hk_draw2 mixed fun K hK=>runs2_eval tab_ok ?_
  simp only [evD,evz,fl,gp,tab,simprocAttr,tdd,hmul]
  refine fin2_stop ?_ (runs2_call (o_c h hil) rfl rfl rfl rfl (by simp only [dstOk,Nat.reduceLT]) (by repeat (first|exact trivial|constructor)) (runs2_eval tab_ok ?_))
  ·(first|exact trivial|omega|(simp only [In64] at *; omega)|(simp [In64] at *; omega)|(simp_all; done)|skip)
  simp only [evD,evz,fl,gp,tab,simprocAttr,tdd,hmul]
  refine fin2_stop ?_ (runs2_call (gcd_c (expo m n e i) (ord n (op m n) e i)) rfl rfl rfl rfl (by simp only [dstOk,Nat.reduceLT]) (by repeat (first|exact trivial|constructor)) (runs2_eval tab_ok ?_))
  ·(first|exact trivial|omega|(simp only [In64] at *; omega)|(simp [In64] at *; omega)|(simp_all; done)|skip)
  simp only [evD,evz,fl,gp,tab,simprocAttr,tdd,hmul]
  refine fin2_stop ?_ (runs2_call (o_c h hil) rfl rfl rfl rfl (by simp only [dstOk,Nat.reduceLT]) (by repeat (first|exact trivial|constructor)) (runs2_eval tab_ok ?_))
  ·have:=Nat.div_le_self (expo m n e i) (Nat.gcd (expo m n e i) (ord n (op m n) e i))
   obtain ⟨z,hz⟩:∃ z,expo m n e i / Nat.gcd (expo m n e i) (ord n (op m n) e i)=z:=⟨_,rfl⟩
   rw [hz] at this ⊢
   exact ⟨by omega,by simp only [In64]; omega⟩
  simp only [evD,evz,fl,gp,tab,simprocAttr,tdd,hmul]
  refine fin2_run ?_ (hK _ _ (by first|kernel_rfl|rfl) ?_)<;>clear hK K
  ·simp only [In64]; omega
  refine qd (qa ?_)
  refine hk_region fun K hK=>runs_eval tab_ok ?_
  simp only [evz,fl,gp,tab,simprocAttr]
  refine fin_run ?_ (hK _ ?_)<;>clear hK K
  ·(first|exact trivial|omega|(simp only [In64] at *; omega)|(simp [In64] at *; omega)|(simp_all; done)|skip)
  refine qa ?_
  refine ⟨i + 1,[0],by omega,by omega,?_⟩
  simp only [leq,leA,evz,fl,gp,tab,simprocAttr]<;>first|trivial|omega|skip
 (try simp only [nhs] at hC1)
 have hil:i=n:=by omega
 rw [hil]
 obtain ⟨E,hE⟩:∃ E,expo m n e n=E:=⟨_,rfl⟩
 rw [hE] at hPm hE0 hgood ⊢
 obtain ⟨p,hpp⟩:∃ p,clP m n e=p:=⟨_,rfl⟩
 rw [hpp] at hPm hPp hgood p1 p2 ⊢
 refine qj (qc (qc (qf (qa (qm ?_)))))
 refine hk_region fun K hK=>runs_eval tab_ok ?_
 simp only [evz,fl,gp,tab,simprocAttr]
 refine fin_run ?_ (hK _ ?_)<;>clear hK K
 ·simp only [In64]; omega
 refine qa (ql ?_)
 refine hk_loop (ι:=Nat) (fun q=>⟨51,[(3,.p (.int .i64 E)),(5,.p (.int .i64 q))],[]⟩) (fun q=>2 * n + 1≤q∧q≤p) (fun q=>p - q) (2 * n + 1) ⟨Nat.le_refl _,by omega⟩ [] (by simp only [leq,leA,evz,fl,gp,tab,simprocAttr]<;>omega) fun q hq=>?_
 obtain ⟨q1,q2⟩:=hq
 have t1:Int.tmod (q:Int) (E:Int)=((q % E:Nat):Int):=rfl
 have t2:Int.tmod 1 (E:Int)=((1 % E:Nat):Int):=rfl
 refine qm (ql (qm ?_))
 refine hk_draw mixed (by kernel_rfl) fun K hK=>runs_eval tab_ok ?_
 simp only [evz,fl,gp,tab,simprocAttr,t1,t2]
 refine fin_run ?_ (hK _ ?_)<;>clear hK K
 ·omega
 refine qa (qm (qm ?_))
 refine hk_region fun K hK=>runs_eval tab_ok ?_
 simp only [evz,fl,gp,tab,simprocAttr]
 refine fin_run trivial (hK _ ?_)<;>clear hK K
 refine qa (ql ?_)
 refine hk_loop (ι:=Nat × Bool) (fun x=>⟨51,[(3,.p (.int .i64 E)),(5,.p (.int .i64 q)),(6,.p (.bool x.2)),(7,.p (.int .i64 x.1))],[]⟩) (fun x=>2≤x.1∧x.1≤q + 2∧(x.2=true→q % E=1 % E∧∀ t,t < x.1→2≤t→¬ q % t=0)∧(x.2=false→¬ (q % E=1 % E∧prmB q=true))) (fun x=>q + 2 - x.1) (2,decide (q % E=1 % E)) ⟨Nat.le_refl _,by simp only; omega,fun hh=>⟨by simpa using hh,fun t h1 h2=>by simp only at h1; omega⟩,fun hh hh2=>by
   rw [decide_eq_true hh2.1] at hh; cases hh⟩ [] (by simp only [leq,leA,evz,fl,gp,tab,simprocAttr]<;>first|trivial|exact decide_eq_decide.2 (by omega)|skip) fun x hx=>?_
 obtain ⟨d,is⟩:=x
 obtain ⟨d1,d2,d3,d4⟩:=hx
 simp only at d1 d2 d3 d4
 have t3:Int.tmod (q:Int) (d:Int)=((q % d:Nat):Int):=rfl
 refine qm (qm ?_)
 rcases Nat.lt_or_ge d q with hdq | hdq
 ·refine hk_region fun K hK=>runs_eval tab_ok ?_
  simp only [evz,fl,gp,tab,simprocAttr,decide_eq_true (show (d:Int) < (q:Int) by omega)]
  refine fin_run trivial (hK _ ?_)<;>clear hK K
  refine qa ?_
  refine hk_cond rfl (fun hC2=>?_) (fun hC2=>?_)
  ·(try simp only [nhs] at hC2)
   have his:is=true:=by simpa using hC2
   obtain ⟨a1,a2⟩:=d3 his
   refine qh (qa (qm (ql ?_)))
   refine hk_region fun K hK=>runs_eval tab_ok ?_
   simp only [evz,fl,gp,tab,simprocAttr,t3]
   refine fin_run ?_ (hK _ ?_)<;>clear hK K
   ·omega
   refine qd (qa ?_)
   refine hk_region fun K hK=>runs_eval tab_ok ?_
   simp only [evz,fl,gp,tab,simprocAttr]
   refine fin_run ?_ (hK _ ?_)<;>clear hK K
   ·(first|exact trivial|omega|(simp only [In64] at *; omega)|(simp [In64] at *; omega)|(simp_all; done)|skip)
   refine qa ?_
   refine ⟨(d + 1,decide (¬ q % d=0)),[],⟨by simp only; omega,by simp only; omega,fun hh=>⟨a1,fun t h1 h2=>?_⟩,fun hh hh2=>?_⟩,by simp only; omega,?_⟩
   ·by_cases e1:t=d
    ·rw [e1]; simpa using hh
    exact a2 t (by simp only at h1; omega) h2
   ·have hz:q % d=0:=by simpa using hh
    exact (prmB_iff.1 hh2.2).2 d hdq d1 hz
   simp only [leq,leA,evz,fl,gp,tab,simprocAttr]<;>first|trivial|omega|(rw [← decide_not]; exact decide_eq_decide.2 (by omega))|skip
  (try simp only [nhs] at hC2)
  have his:is=false:=by simpa using hC2
  have hno:=d4 his
  refine qj (qc (qc (qf (qa (qm ?_)))))
  refine hk_region fun K hK=>runs_eval tab_ok ?_
  simp only [evz,fl,gp,tab,simprocAttr]
  refine fin_run trivial (hK _ ?_)<;>clear hK K
  refine qa ?_
  refine hk_cond rfl (fun hC3=>?_) (fun hC3=>?_)
  ·(try simp only [nhs] at hC3)
   rw [his] at hC3; cases hC3
  (try simp only [nhs] at hC3)
  refine qh (qd (qa ?_))
  refine hk_region fun K hK=>runs_eval tab_ok ?_
  simp only [evz,fl,gp,tab,simprocAttr]
  refine fin_run ?_ (hK _ ?_)<;>clear hK K
  ·(first|exact trivial|omega|(simp only [In64] at *; omega)|(simp [In64] at *; omega)|(simp_all; done)|skip)
  refine qa ?_
  have hqp:q ≠ p:=fun hh=>hno (by rw [hh]; exact ⟨hPm,hPp⟩)
  refine ⟨q + 1,[],⟨by omega,by omega⟩,by omega,by simp only [leq,leA,evz,fl,gp,tab,simprocAttr]<;>omega⟩
 refine hk_region fun K hK=>runs_eval tab_ok ?_
 simp only [evz,fl,gp,tab,simprocAttr,decide_eq_false (show ¬ (d:Int) < (q:Int) by omega)]
 refine fin_run trivial (hK _ ?_)<;>clear hK K
 refine qa ?_
 refine hk_cond rfl (fun hC2=>?_) (fun hC2=>?_)
 ·cases hC2
 refine qj (qc (qc (qf (qa (qm ?_)))))
 refine hk_region fun K hK=>runs_eval tab_ok ?_
 simp only [evz,fl,gp,tab,simprocAttr]
 refine fin_run trivial (hK _ ?_)<;>clear hK K
 refine qa ?_
 refine hk_cond rfl (fun hC3=>?_) (fun hC3=>?_)
 ·(try simp only [nhs] at hC3)
  have his:is=true:=by simpa using hC3
  obtain ⟨a1,a2⟩:=d3 his
  have hpr:prmB q=true:=prmB_iff.2 ⟨by omega,fun t h1 h2=>a2 t (by omega) h2⟩
  have:=hgood q q1 a1 hpr
  have hqp:q=p:=by omega
  refine qm ?_
  refine hk_region fun K hK=>runs_eval tab_ok ?_
  simp only [evz,fl,gp,tab,simprocAttr]
  refine fin_run trivial (hK _ ?_)<;>clear hK K
  refine qa (qk (qe (qb (qb (qe ?_)))))
  simp only [Tryd.results56,enA,evz,fl,gp,tab,simprocAttr]
  all_goals (rw [hqp])
 (try simp only [nhs] at hC3)
 have his:is=false:=by simpa using hC3
 have hno:=d4 his
 refine qh (qd (qa ?_))
 refine hk_region fun K hK=>runs_eval tab_ok ?_
 simp only [evz,fl,gp,tab,simprocAttr]
 refine fin_run ?_ (hK _ ?_)<;>clear hK K
 ·(first|exact trivial|omega|(simp only [In64] at *; omega)|(simp [In64] at *; omega)|(simp_all; done)|skip)
 refine qa ?_
 have hqp:q ≠ p:=fun hh=>hno (by rw [hh]; exact ⟨hPm,hPp⟩)
 refine ⟨q + 1,[],⟨by omega,by omega⟩,by omega,by simp only [leq,leA,evz,fl,gp,tab,simprocAttr]<;>omega⟩
end Go.Proofs.YtjlmpmidchddjaaDoor

namespace Go.Proofs.YtjlmpmidchddjaaDoor
open Go.Pv
theorem pw_uniq {α:Type} {R:α→α→Prop} (anti:∀ a b,R a b→R b a→a=b):∀ (xs ys:List α),xs.Perm ys→xs.Pairwise R→ys.Pairwise R→xs=ys
 | [],ys,h,_,_=>h.symm.eq_nil.symm
 | x :: r,[],h,_,_=>h.eq_nil
 | x :: r,y :: s,h,h1,h2=>by
  have hxy:x=y:=by
   have m1:x∈y :: s:=h.mem_iff.1 (by simp)
   have m2:y∈x :: r:=h.mem_iff.2 (by simp)
   rcases List.mem_cons.1 m1 with h3 | h3
   ·exact h3
   rcases List.mem_cons.1 m2 with h4 | h4
   ·exact h4.symm
   exact anti _ _ ((List.pairwise_cons.1 h1).1 y h4) ((List.pairwise_cons.1 h2).1 x h3)
  subst hxy
  rw [pw_uniq anti r s (List.Perm.cons_inv h) (List.pairwise_cons.1 h1).2 (List.pairwise_cons.1 h2).2]
theorem srtL_uniq {xs ys:List (List Int)} (h:xs.Perm ys) (hs:ys.Pairwise fun v w=>¬ cmpL w v < 0):ys=srtL xs:=
 pw_uniq (fun a b h1 h2=>cmpL_tot _ _ h2 h1) _ _ (h.symm.trans (srtL_perm xs)) hs (srtL_sorted xs)
theorem sq8_one:∀ e,e < 8→op sq8 8 e 0=0→e=0:=by decide +kernel
theorem sq8_rows:(clSp sq8 8 0).map (rowT (clP sq8 8 0) 8 (clO sq8 8 0) (clN sq8 8 0) (clJ sq8 8 0) (clS sq8 8 0))=[[2,2,0,15,0,0],[1,1,1,1,1,1],[1,1,1,1,16,16],[1,1,16,1,1,16],[1,1,16,1,16,1]]:=by decide +kernel
theorem sq8_N:clN sq8 8 0=5:=by decide +kernel
theorem sq8_O:clO sq8 8 0=0:=by decide +kernel
theorem sq8_dg:dgL sq8 8 0=[1,1,1,1,2]:=by
 have h:=srtL_uniq (xs:=[[2,2,0,15,0,0],[1,1,1,1,1,1],[1,1,1,1,16,16],[1,1,16,1,1,16],[1,1,16,1,16,1]]) (ys:=[[1,1,1,1,1,1],[1,1,1,1,16,16],[1,1,16,1,1,16],[1,1,16,1,16,1],[2,2,0,15,0,0]]) (by decide +kernel) (by decide +kernel)
 unfold dgL chT tabR
 rw [sq8_rows,← h,sq8_O]
 rfl
theorem charBegun_c:FnC Tryd.prog 15 [] (.bool true):=by
 obtain ⟨e,h⟩:=sq8_gt
 have he:e=0:=sq8_one e h.2.2.el (h.2.2.one_l 0 (by omega))
 subst he
 have hd:=degrees_c h (by rw [sq8_N]; omega)
 rw [sq8_dg] at hd
 refine fnc_of tab_ok Tryd.func15 rfl (by kernel_rfl) (by rw [Tryd.ntmps15]; exact Nat.le_add_left 0 _) ?_; rw [Tryd.ntmps15]
 refine qm ?_
 refine hk_region fun K hK=>runs_eval tab_ok ?_
 simp only [evz,fl,gp,tab,simprocAttr]
 refine fin_run trivial (hK _ ?_)<;>clear hK K
 refine qa (qm ?_)
 refine hk_region fun K hK=>runs_eval tab_ok ?_
 simp only [evz,fl,gp,tab,simprocAttr]
 refine fin_stop trivial (runs_call (square_c) rfl rfl rfl (by simp only [dstOk,Nat.reduceLT]) (by repeat (first|exact trivial|constructor)) (runs_eval tab_ok ?_))
 simp only [evz,fl,gp,tab,simprocAttr]
 refine fin_stop trivial (runs_call (hd) rfl rfl rfl (by simp only [dstOk,Nat.reduceLT]) (by repeat (first|exact trivial|constructor)) (runs_eval tab_ok ?_))
 simp only [evz,fl,gp,tab,simprocAttr]
 refine fin_run ?_ (hK _ ?_)<;>clear hK K
 ·(first|exact trivial|omega|(simp only [In64] at *; omega)|(simp [In64] at *; omega)|(simp_all; done)|skip)
 refine qa (qm ?_)
 refine hk_region fun K hK=>runs_eval tab_ok ?_
 simp only [evz,fl,gp,tab,simprocAttr]
 refine fin_stop trivial (runs_call (FnC.sub (args':=[.list (il [1,1,1,1,2]),.nn (il [1,1,1,1,2])]) (ints_c [1,1,1,1,2] [1,1,1,1,2] (by decide)) (And.intro (.same _) (And.intro (.nn _) trivial))) rfl rfl rfl (by simp only [dstOk,Nat.reduceLT]) (by repeat (first|exact trivial|constructor)) (runs_eval tab_ok ?_))
 simp only [evz,fl,gp,tab,simprocAttr]
 refine fin_run ?_ (hK _ ?_)<;>clear hK K
 ·(first|exact trivial|omega|(simp only [In64] at *; omega)|(simp [In64] at *; omega)|(simp_all; done)|skip)
 refine qa (qk ?_)
 simp only [Tryd.results15,enA,evz,fl,gp,tab,simprocAttr]
 all_goals ((first|exact rfl|exact ⟨rfl,rfl⟩|exact ⟨rfl,rfl,rfl⟩|exact ⟨trivial,rfl⟩|exact ⟨Nat.le_refl _,rfl⟩|trivial|(simp; done)))
theorem inverses_c {n e:Nat} {m:List Int} (h:GT n m n e):FnC Tryd.prog 19 [gp n m,.list (ll (clL m n e))] (.list (il ((List.range (clN m n e)).map fun i=>(clJ m n e i:Int)))):=by
 have hb:=h.2.1.big
 have hll:(clL m n e).length=clN m n e:=rfl
 have hcn:=clN_le h
 have hlw:∀ w∈clL m n e,w.length≤1000000:=fun w hw=>by
  obtain ⟨i,hi,e1⟩:=List.getElem_of_mem hw
  have h2:=(clS_pos h hi).2.1
  unfold clS at h2
  have e2:(clL m n e).getD i []=w:=by rw [← e1]; simp [List.getD,List.getElem?_eq_getElem hi]
  rw [e2] at h2; omega
 refine fnc_of tab_ok Tryd.func19 rfl (by kernel_rfl) (by rw [Tryd.ntmps19]; exact Nat.le_add_left 2 _) ?_; rw [Tryd.ntmps19]
 refine qm ?_
 refine hk_region fun K hK=>runs_eval tab_ok ?_
 simp only [evz,fl,gp,tab,simprocAttr]
 refine fin_run ?_ (hK _ ?_)<;>clear hK K
 ·(first|exact trivial|omega|(simp only [In64] at *; omega)|(simp [In64] at *; omega)|(simp_all; done)|skip)
 refine qa (qm ?_)
 refine hk_region fun K hK=>runs_eval tab_ok ?_
 simp only [evz,fl,gp,tab,simprocAttr]
 refine fin_run trivial (hK _ ?_)<;>clear hK K
 refine qa (qm (qm ?_))
 refine hk_own0 5 rfl ?_
 refine hk_region fun K hK=>runs_eval tab_ok ?_
 simp only [evz,fl,gp,tab,simprocAttr]
 refine fin_run trivial (hK _ ?_)<;>clear hK K
 refine qa (ql ?_)
 refine hk_loop (ι:=Nat) (fun i=>⟨27,[(1,.p (.list (ll (clL m n e)))),(2,.ptr 0 0),(5,.sl 1 0 i),(6,.p (.int .i64 i))],[.own [.p (.int .i64 n),.p (.list (il m))],.own (ol ((List.range i).map fun i=>(clJ m n e i:Int)))]⟩) (fun i=>i≤clN m n e) (fun i=>clN m n e - i) 0 (Nat.zero_le _) [0,1] (by simp only [leq,leA,evz,fl,gp,tab,simprocAttr]<;>first|trivial|(simp [LeH,ol_nil]; done)|skip) fun i hi=>?_
 refine qm (qm ?_)
 refine hk_region fun K hK=>runs_eval tab_ok ?_
 simp only [evz,fl,gp,tab,simprocAttr,ll_length,hll]
 refine fin_run trivial (hK _ ?_)<;>clear hK K
 refine qa ?_
 refine hk_cond rfl (fun hC1=>?_) (fun hC1=>?_)
 ·(try simp only [nhs] at hC1)
  have hil:i < clN m n e:=by omega
  obtain ⟨s1,s2,s3⟩:=clS_pos h hil
  have hx:=(clG h hil).1
  obtain ⟨Ci,hCi⟩:∃ Ci,(clL m n e).getD i []=Ci:=⟨_,rfl⟩
  have hCl:0 < Ci.length:=by rw [← hCi]; exact s1
  rw [hCi] at s3
  have hi1:=i_c h.2.1 hx
  have hii:iI m n (clX m n e i)=((iv n (op m n) e (clX m n e i):Nat):Int):=h.iI hx
  have hwc:=whichOf_r (clL m n e) ((iv n (op m n) e (clX m n e i):Nat):Int) (by omega) hlw
  rw [(clI_lt h (h.2.2.iv_lt hx)).2] at hwc
  have hsn:(List.range i).map (fun i=>(clJ m n e i:Int))++[(clI m n e (iv n (op m n) e (clX m n e i)):Int)]=(List.range (i + 1)).map fun i=>(clJ m n e i:Int):=by rw [List.range_succ,List.map_append]; rfl
  have hml:((List.range i).map fun i=>(clJ m n e i:Int)).length=i:=by simp
  have hdt:List.take i ((List.range i).map fun i=>(clJ m n e i:Int))=(List.range i).map fun i=>(clJ m n e i:Int):=List.take_of_length_le (by omega)
  refine qh (qa (qm (ql ?_)))
  refine hk_draw2 mixed fun K hK=>runs2_eval tab_ok ?_
  simp only [evD,evz,fl,gp,tab,simprocAttr,hml,hdt,hsn,ll_length,hll,ll_get (show i < (clL m n e).length from hil),hCi,il_get hCl,s3]
  refine fin2_stop ?_ (runs2_call (hi1) rfl rfl rfl rfl (by simp only [dstOk,Nat.reduceLT]) (by repeat (first|exact trivial|constructor)) (runs2_eval tab_ok ?_))
  ·(first|exact trivial|omega|(simp only [In64] at *; omega)|(simp [In64] at *; omega)|(simp_all; done)|skip)
  simp only [evD,evz,fl,gp,tab,simprocAttr,hii,hml,hdt,hsn,ll_length,hll,ll_get (show i < (clL m n e).length from hil),hCi,il_get hCl,s3]
  refine fin2_stop ?_ (runs2_call (hwc) rfl rfl rfl rfl (by simp only [dstOk,Nat.reduceLT]) (by repeat (first|exact trivial|constructor)) (runs2_eval tab_ok ?_))
  ·(first|exact trivial|omega|(simp only [In64] at *; omega)|(simp [In64] at *; omega)|(simp_all; done)|skip)
  simp only [evD,evz,fl,gp,tab,simprocAttr,hml,hdt,hsn,ll_length,hll,ll_get (show i < (clL m n e).length from hil),hCi,il_get hCl,s3]
  refine fin2_run ?_ (hK _ _ (by first|kernel_rfl|rfl) ?_)<;>clear hK K
  ·omega
  refine qd (qa ?_)
  refine hk_region fun K hK=>runs_eval tab_ok ?_
  simp only [evz,fl,gp,tab,simprocAttr]
  refine fin_run ?_ (hK _ ?_)<;>clear hK K
  ·(first|exact trivial|omega|(simp only [In64] at *; omega)|(simp [In64] at *; omega)|(simp_all; done)|skip)
  refine qa ?_
  refine ⟨i + 1,[0,2],by omega,by omega,?_⟩
  have hml2:((List.range (i + 1)).map fun i=>(clJ m n e i:Int)).length=i + 1:=by simp
  simp only [leq,leA,evz,fl,gp,tab,simprocAttr]<;>first|trivial|omega|(rw [List.take_of_length_le (by omega)]; done)|skip
 (try simp only [nhs] at hC1)
 have hil:i=clN m n e:=by omega
 have hml:((List.range i).map fun i=>(clJ m n e i:Int)).length=i:=by simp
 refine qj (qc (qc (qf (qa (qm ?_)))))
 refine hk_region fun K hK=>runs_eval tab_ok ?_
 simp only [evz,fl,gp,tab,simprocAttr]
 refine fin_run trivial (hK _ ?_)<;>clear hK K
 refine qa (qk ?_)
 simp only [Tryd.results19,enA,evz,fl,gp,tab,simprocAttr]
 rw [List.take_of_length_le (by omega)]
 exact ⟨by omega,by rw [hil]⟩
theorem tableOf_c {n e:Nat} {m:List Int} (h:GT n m n e) (hc24:clN m n e≤24):FnC Tryd.prog 16 [gp n m] (.tup [.int .i64 (clP m n e:Nat),.list (ll (chT m n e)),.list (ll (clL m n e)),.bool true]):=by
 obtain ⟨P,p1,p2⟩:=cl_P h
 haveI:NeZero (clP m n e):=⟨by have:=P.three; omega⟩
 obtain ⟨_,_,t3,t4,_⟩:=chT_ort h
 have hll:(clL m n e).length=clN m n e:=rfl
 refine fnc_of tab_ok Tryd.func16 rfl (by kernel_rfl) (by rw [Tryd.ntmps16]; exact Nat.le_add_left 1 _) ?_; rw [Tryd.ntmps16]
 refine qm ?_
 refine hk_region fun K hK=>runs_eval tab_ok ?_
 simp only [evz,fl,gp,tab,simprocAttr]
 refine fin_run ?_ (hK _ ?_)<;>clear hK K
 ·(first|exact trivial|omega|(simp only [In64] at *; omega)|(simp [In64] at *; omega)|(simp_all; done)|skip)
 refine qa (qm (qm ?_))
 refine hk_region fun K hK=>runs_eval tab_ok ?_
 simp only [evz,fl,gp,tab,simprocAttr]
 refine fin_stop trivial (runs_call (cf_ok h hc24) rfl rfl rfl (by simp only [dstOk,Nat.reduceLT]) (by repeat (first|exact trivial|constructor)) (runs_eval tab_ok ?_))
 simp only [evz,fl,gp,tab,simprocAttr]
 refine fin_run ?_ (hK _ ?_)<;>clear hK K
 ·(first|exact trivial|omega|(simp only [In64] at *; omega)|(simp [In64] at *; omega)|(simp_all; done)|skip)
 refine qa ?_
 refine hk_cond rfl (fun hC1=>?_) (fun hC1=>?_)
 ·(try simp only [nhs] at hC1)
  first|exact absurd rfl hC1|exact hC1.elim|cases hC1|(simp at hC1; done)
 (try simp only [nhs] at hC1)
 refine qh (qa (qm ?_))
 refine hk_region fun K hK=>runs_eval tab_ok ?_
 simp only [evz,fl,gp,tab,simprocAttr]
 refine fin_stop trivial (runs_call (table_c h hc24) rfl rfl rfl (by simp only [dstOk,Nat.reduceLT]) (by repeat (first|exact trivial|constructor)) (runs_eval tab_ok ?_))
 simp only [evz,fl,gp,tab,simprocAttr]
 refine fin_run ?_ (hK _ ?_)<;>clear hK K
 ·(first|exact trivial|omega|(simp only [In64] at *; omega)|(simp [In64] at *; omega)|(simp_all; done)|skip)
 refine qa (qm ?_)
 refine hk_region fun K hK=>runs_eval tab_ok ?_
 simp only [evz,fl,gp,tab,simprocAttr]
 refine fin_stop trivial (runs_call (classesOf_c h) rfl rfl rfl (by simp only [dstOk,Nat.reduceLT]) (by repeat (first|exact trivial|constructor)) (runs_eval tab_ok ?_))
 simp only [evz,fl,gp,tab,simprocAttr]
 refine fin_run ?_ (hK _ ?_)<;>clear hK K
 ·(first|exact trivial|omega|(simp only [In64] at *; omega)|(simp [In64] at *; omega)|(simp_all; done)|skip)
 refine qa (qm (qm ?_))
 refine hk_region fun K hK=>runs_eval tab_ok ?_
 simp only [evz,fl,gp,tab,simprocAttr,ll_length,hll,t3]
 refine fin_stop trivial (runs_call (refMod_c h) rfl rfl rfl (by simp only [dstOk,Nat.reduceLT]) (by repeat (first|exact trivial|constructor)) (runs_eval tab_ok ?_))
 simp only [evz,fl,gp,tab,simprocAttr,ll_length,hll,t3]
 refine fin_run ?_ (hK _ ?_)<;>clear hK K
 ·(first|exact trivial|omega|(simp only [In64] at *; omega)|(simp [In64] at *; omega)|(simp_all; done)|skip)
 refine qa ?_
 refine hk_cond rfl (fun hC2=>?_) (fun hC2=>?_)
 ·(try simp only [nhs] at hC2)
  first|exact absurd rfl hC2|omega|cases hC2
 (try simp only [nhs] at hC2)
 refine qh (qa (qm (qm ?_)))
 refine hk_region fun K hK=>runs_eval tab_ok ?_
 simp only [evz,fl,gp,tab,simprocAttr]
 refine fin_run trivial (hK _ ?_)<;>clear hK K
 refine qa (ql ?_)
 refine hk_loop (ι:=Nat) (fun i=>⟨82,[(6,.p (.int .i64 (clP m n e:Nat))),(7,.p (.list (ll (chT m n e)))),(9,.p (.list (ll (clL m n e)))),(10,.p (.int .i64 i))],[]⟩) (fun i=>i≤clN m n e) (fun i=>clN m n e - i) 0 (Nat.zero_le _) [] (by simp only [leq,leA,evz,fl,gp,tab,simprocAttr]<;>first|trivial|skip) fun i hi=>?_
 refine qm (qm ?_)
 refine hk_region fun K hK=>runs_eval tab_ok ?_
 simp only [evz,fl,gp,tab,simprocAttr,ll_length,t3]
 refine fin_run trivial (hK _ ?_)<;>clear hK K
 refine qa ?_
 refine hk_cond rfl (fun hC3=>?_) (fun hC3=>?_)
 ·(try simp only [nhs] at hC3)
  have hil:i < (chT m n e).length:=by omega
  obtain ⟨r,hr⟩:∃ r,(chT m n e).getD i []=r:=⟨_,rfl⟩
  have hrl:r.length=clN m n e:=by rw [← hr]; exact (t4 _ (mem_getD hil)).1
  have hrg:rgp (clP m n e) r:=by rw [← hr]; exact (t4 _ (mem_getD hil)).2
  refine qh (qa (qm (ql (qm (qm ?_)))))
  refine hk_region fun K hK=>runs_eval tab_ok ?_
  simp only [evz,fl,gp,tab,simprocAttr,ll_length,ll_get hil,hr,il_length,hrl,hll]
  refine fin_run ?_ (hK _ ?_)<;>clear hK K
  ·(first|exact trivial|omega|(simp only [In64] at *; omega)|(simp [In64] at *; omega)|(simp_all; done)|skip)
  refine qa ?_
  refine hk_cond rfl (fun hC4=>?_) (fun hC4=>?_)
  ·(try simp only [nhs] at hC4)
   cases hC4
  (try simp only [nhs] at hC4)
  refine qh (qa (qm ?_))
  refine hk_region fun K hK=>runs_eval tab_ok ?_
  simp only [evz,fl,gp,tab,simprocAttr]
  refine fin_run trivial (hK _ ?_)<;>clear hK K
  refine qa (ql ?_)
  refine hk_loop (ι:=Nat) (fun k=>⟨82,[(6,.p (.int .i64 (clP m n e:Nat))),(7,.p (.list (ll (chT m n e)))),(9,.p (.list (ll (clL m n e)))),(10,.p (.int .i64 i)),(11,.p (.int .i64 k))],[]⟩) (fun k=>k≤clN m n e) (fun k=>clN m n e - k) 0 (Nat.zero_le _) [] (by simp only [leq,leA,evz,fl,gp,tab,simprocAttr]<;>first|trivial|skip) fun k hk=>?_
  refine qm (qm ?_)
  refine hk_region fun K hK=>runs_eval tab_ok ?_
  simp only [evz,fl,gp,tab,simprocAttr,ll_length,hll]
  refine fin_run trivial (hK _ ?_)<;>clear hK K
  refine qa ?_
  refine hk_cond rfl (fun hC5=>?_) (fun hC5=>?_)
  ·(try simp only [nhs] at hC5)
   have hkl:k < r.length:=by omega
   have hrk:=hrg k
   refine qh (qa (qm (ql (qm ?_))))
   refine hk_region fun K hK=>runs_eval tab_ok ?_
   simp only [evz,fl,gp,tab,simprocAttr,ll_length,ll_get hil,hr,il_get hkl,decide_eq_false (show ¬ r.getD k 0 < 0 by omega)]
   refine fin_run ?_ (hK _ ?_)<;>clear hK K
   ·omega
   refine qa ?_
   refine hk_cond rfl (fun hC6=>?_) (fun hC6=>?_)
   ·(try simp only [nhs] at hC6)
    omega
   (try simp only [nhs] at hC6)
   refine qh (qd (qa ?_))
   refine hk_region fun K hK=>runs_eval tab_ok ?_
   simp only [evz,fl,gp,tab,simprocAttr]
   refine fin_run ?_ (hK _ ?_)<;>clear hK K
   ·(first|exact trivial|omega|(simp only [In64] at *; omega)|(simp [In64] at *; omega)|(simp_all; done)|skip)
   refine qa ?_
   refine ⟨k + 1,[],by omega,by omega,by simp only [leq,leA,evz,fl,gp,tab,simprocAttr]<;>first|trivial|omega|skip⟩
  (try simp only [nhs] at hC5)
  refine qj (qc (qc (qf (qd (qa ?_)))))
  refine hk_region fun K hK=>runs_eval tab_ok ?_
  simp only [evz,fl,gp,tab,simprocAttr]
  refine fin_run ?_ (hK _ ?_)<;>clear hK K
  ·(first|exact trivial|omega|(simp only [In64] at *; omega)|(simp [In64] at *; omega)|(simp_all; done)|skip)
  refine qa ?_
  refine ⟨i + 1,[],by omega,by omega,by simp only [leq,leA,evz,fl,gp,tab,simprocAttr]<;>first|trivial|omega|skip⟩
 (try simp only [nhs] at hC3)
 refine qj (qc (qc (qf (qa (qm ?_)))))
 refine hk_region fun K hK=>runs_eval tab_ok ?_
 simp only [evz,fl,gp,tab,simprocAttr]
 refine fin_run trivial (hK _ ?_)<;>clear hK K
 refine qa (qk ?_)
 simp only [Tryd.results16,enA,evz,fl,gp,tab,simprocAttr]
 all_goals ((first|exact rfl|exact ⟨rfl,rfl⟩|exact ⟨rfl,rfl,rfl⟩|exact ⟨trivial,rfl⟩|exact ⟨Nat.le_refl _,rfl⟩|trivial|(simp; done)))
end Go.Proofs.YtjlmpmidchddjaaDoor

namespace Go.Proofs.YtjlmpmidchddjaaDoor
open Go.Pv
open Lean.Grind
attribute [local instance] Lean.Grind.Semiring.natCast Lean.Grind.Ring.intCast
section
variable {K:Type} [CommRing K] {p:Nat}
theorem eqK (R:Rp K p) {x y:Int} (hx:0≤x∧x < p) (hy:0≤y∧y < p) (h:(x:K)=(y:K)):x=y:=by
 have h1:(((x - y):Int):K)=0:=by rw [Ring.intCast_sub,h]; grind
 rw [R.ker] at h1
 obtain ⟨k,hk⟩:=Int.dvd_of_emod_eq_zero h1
 have:k=0:=by
  refine Int.le_antisymm (Int.le_of_not_gt fun h=>?_) (Int.le_of_not_gt fun h=>?_)
  ·have:(p:Int) * 1≤(p:Int) * k:=Int.mul_le_mul_of_nonneg_left (by omega) (by omega)
   omega
  have:(p:Int) * k≤(p:Int) * (-1):=Int.mul_le_mul_of_nonneg_left (by omega) (by omega)
  omega
 subst this
 omega
end
end Go.Proofs.YtjlmpmidchddjaaDoor

namespace Go.Proofs.YtjlmpmidchddjaaDoor
open Lean.Grind
attribute [local instance] Lean.Grind.Semiring.natCast Lean.Grind.Ring.intCast
section
variable {n e c:Nat} {f:Nat→Nat→Nat} {cI xx:Nat→Nat} {K:Type} [CommRing K]
theorem GC.bar (h:GC n f e c cI xx) {t:Nat→K} (ht:Chr n f e cI t):Chr n f e cI (fun a=>t (iv n f e a)):=by
 have G:=h.G
 refine ⟨fun a b ha hb hab=>ht.cl _ _ (G.iv_lt ha) (G.iv_lt hb) ((h.ivc ha hb).1 hab),by show t (iv n f e e)=1; rw [G.iv_one]; exact ht.one,fun a b ha hb=>?_⟩
 rw [← ht.mul _ _ (G.iv_lt ha) (G.iv_lt hb)]
 refine sm_congr fun y hy=>?_
 have hj:=G.iv_lt hy
 have e1:iv n f e (f (cjg n f e y a) b)=f (iv n f e b) (cjg n f e y (iv n f e a)):=by
  rw [G.iv_prod (h.cjl hy ha) hb]
  congr 1
  unfold cjg
  rw [G.iv_prod (G.cl _ _ hj ha) hy,G.iv_prod hj ha,G.iv_iv hy,G.assoc _ _ _ hj (G.iv_lt ha) hy]
 show t (iv n f e (f (cjg n f e y a) b))=t (f (cjg n f e y (iv n f e a)) (iv n f e b))
 rw [e1,h.cjT ht.cl (G.iv_lt hb) (h.cjl hy (G.iv_lt ha))]
theorem GC.real (h:GC n f e c cI xx) (F:Fld K) (hn:(n:K) ≠ 0) {t:Nat→K} (ht:Chr n f e cI t):(∀ a,a < n→t a=t (iv n f e a))∨prT n f e t (fun a=>t (iv n f e a)) e=0:=by
 by_cases hr:∀ a,a < n→t a=t (iv n f e a)
 ·exact .inl hr
 refine .inr ?_
 have:∃ a,a < n∧t a ≠ t (iv n f e a):=Classical.byContradiction fun hc=>hr fun a ha=>Classical.byContradiction fun hc2=>hc ⟨a,ha,hc2⟩
 obtain ⟨a,ha,hne⟩:=this
 exact h.orth F hn ht (h.bar ht) ha hne h.G.el
end
section
variable {n e:Nat} {m:List Int}
variable [NeZero (clP m n e)]
end
end Go.Proofs.YtjlmpmidchddjaaDoor

namespace Go.Proofs.YtjlmpmidchddjaaDoor
open Go.Pv
open Lean.Grind
attribute [local instance] Lean.Grind.Semiring.natCast Lean.Grind.Ring.intCast
section
variable {K:Type} [CommRing K]
end
end Go.Proofs.YtjlmpmidchddjaaDoor

namespace Go.Proofs.YtjlmpmidchddjaaDoor
open Lean.Grind
attribute [local instance] Lean.Grind.Semiring.natCast Lean.Grind.Ring.intCast
section
variable {n e c:Nat} {f:Nat→Nat→Nat} {cI xx:Nat→Nat} {K:Type} [CommRing K] {p:Nat}
def Sup (n:Nat) (a:Nat→K):Prop:=∀ x,n≤x→a x=0
def dl (K:Type) [CommRing K] (g x:Nat):K:=if x=g then 1 else 0
def cv (n:Nat) (f:Nat→Nat→Nat) (e:Nat) (a b:Nat→K) (x:Nat):K:=if x < n then sm (fun y=>a y * b (f (iv n f e y) x)) n else 0
theorem Sup.ext {a b:Nat→K} (ha:Sup n a) (hb:Sup n b) (h:∀ x,x < n→a x=b x):a=b:=by
 funext x
 by_cases hx:x < n
 ·exact h x hx
 rw [ha x (by omega),hb x (by omega)]
theorem Sup.zero:Sup n (fun _=>(0:K)):=fun _ _=>rfl
theorem Sup.add {a b:Nat→K} (ha:Sup n a) (hb:Sup n b):Sup n fun x=>a x + b x:=fun x hx=>by simp only [ha x hx,hb x hx]; grind
theorem Sup.smul {a:Nat→K} (k:K) (ha:Sup n a):Sup n fun x=>k * a x:=fun x hx=>by simp only [ha x hx]; grind
theorem dl_sup {g:Nat} (hg:g < n):Sup n (dl K g):=fun x hx=>if_neg (by omega)
theorem cv_sup (a b:Nat→K):Sup n (cv n f e a b):=fun x hx=>if_neg (by omega)
theorem cv_at (a b:Nat→K) {x:Nat} (hx:x < n):cv n f e a b x=sm (fun y=>a y * b (f (iv n f e y) x)) n:=if_pos hx
theorem cv_congr (h:GC n f e c cI xx) {a a' b b' : Nat→K} (ha:∀ x,x < n→a x=a' x) (hb:∀ x,x < n→b x=b' x):cv n f e a b=cv n f e a' b':=
 (cv_sup a b).ext (cv_sup a' b') fun x hx=>by
  rw [cv_at _ _ hx,cv_at _ _ hx]
  exact sm_congr fun y hy=>by rw [ha y hy,hb _ (h.G.cl _ _ (h.G.iv_lt hy) hx)]
theorem cv_addl (a a' b:Nat→K):cv n f e (fun x=>a x + a' x) b=fun x=>cv n f e a b x + cv n f e a' b x:=by
 funext x
 unfold cv
 by_cases hx:x < n
 ·simp only [if_pos hx]
  rw [← sm_add]; exact sm_congr fun y _=>by grind
 simp only [if_neg hx]; grind
theorem cv_addr (a b b' : Nat→K):cv n f e a (fun x=>b x + b' x)=fun x=>cv n f e a b x + cv n f e a b' x:=by
 funext x
 unfold cv
 by_cases hx:x < n
 ·simp only [if_pos hx]
  rw [← sm_add]; exact sm_congr fun y _=>by grind
 simp only [if_neg hx]; grind
theorem cv_smull (k:K) (a b:Nat→K):cv n f e (fun x=>k * a x) b=fun x=>k * cv n f e a b x:=by
 funext x
 unfold cv
 by_cases hx:x < n
 ·simp only [if_pos hx]
  rw [← sm_mul]; exact sm_congr fun y _=>by grind
 simp only [if_neg hx]; grind
theorem cv_smulr (k:K) (a b:Nat→K):cv n f e a (fun x=>k * b x)=fun x=>k * cv n f e a b x:=by
 funext x
 unfold cv
 by_cases hx:x < n
 ·simp only [if_pos hx]
  rw [← sm_mul]; exact sm_congr fun y _=>by grind
 simp only [if_neg hx]; grind
theorem cv_0l (b:Nat→K):cv n f e (fun _=>0) b=fun _=>0:=by
 have:=cv_smull (n:=n) (f:=f) (e:=e) (0:K) (fun _=>0) b
 have e1:(fun _:Nat=>(0:K) * 0)=fun _=>0:=by funext x; grind
 rw [e1] at this
 rw [this]; funext x; grind
theorem cv_0r (b:Nat→K):cv n f e b (fun _=>0)=fun _=>0:=by
 have:=cv_smulr (n:=n) (f:=f) (e:=e) (0:K) b (fun _=>0)
 have e1:(fun _:Nat=>(0:K) * 0)=fun _=>0:=by funext x; grind
 rw [e1] at this
 rw [this]; funext x; grind
theorem cv_sml (F:Nat→Nat→K) (b:Nat→K) (m:Nat):cv n f e (fun x=>sm (fun g=>F g x) m) b=fun x=>sm (fun g=>cv n f e (F g) b x) m:=by
 induction m with
 | zero=>exact cv_0l b
 | succ m ih =>
  show cv n f e (fun x=>(fun x=>sm (fun g=>F g x) m) x + F m x) b=_
  rw [cv_addl,ih]; rfl
theorem cv_smr (F:Nat→Nat→K) (b:Nat→K) (m:Nat):cv n f e b (fun x=>sm (fun g=>F g x) m)=fun x=>sm (fun g=>cv n f e b (F g) x) m:=by
 induction m with
 | zero=>exact cv_0r b
 | succ m ih =>
  show cv n f e b (fun x=>(fun x=>sm (fun g=>F g x) m) x + F m x)=_
  rw [cv_addr,ih]; rfl
theorem GC.cva (h:GC n f e c cI xx) (a b d:Nat→K):cv n f e (cv n f e a b) d=cv n f e a (cv n f e b d):=by
 have G:=h.G
 refine (cv_sup _ _).ext (cv_sup _ _) fun x hx=>?_
 rw [cv_at _ _ hx,cv_at _ _ hx]
 have e1:∀ y,y < n→cv n f e a b y * d (f (iv n f e y) x)=sm (fun z=>a z * b (f (iv n f e z) y) * d (f (iv n f e y) x)) n:=fun y hy=>by
  rw [cv_at _ _ hy,← sm_mulr]
 rw [sm_congr e1,sm_comm]
 refine sm_congr fun z hz=>?_
 have hzx:=G.cl _ _ (G.iv_lt hz) hx
 rw [cv_at _ _ hzx,← sm_mul,← h.sumL hz fun y=>a z * b (f (iv n f e z) y) * d (f (iv n f e y) x)]
 refine sm_congr fun w hw=>?_
 rw [h.can1 hz hw,G.iv_prod hz hw,G.assoc _ _ _ (G.iv_lt hw) (G.iv_lt hz) hx]
 grind
theorem GC.cvdl (h:GC n f e c cI xx) (a:Nat→K) {g x:Nat} (hg:g < n) (hx:x < n):cv n f e (dl K g) a x=a (f (iv n f e g) x):=by
 rw [cv_at _ _ hx,sm_one hg fun y _ hne=>by unfold dl; rw [if_neg hne]; grind]
 unfold dl; rw [if_pos rfl]; grind
theorem GC.cvdr (h:GC n f e c cI xx) (a:Nat→K) {g x:Nat} (hg:g < n) (hx:x < n):cv n f e a (dl K g) x=a (f x (iv n f e g)):=by
 have G:=h.G
 have hm:=G.cl _ _ hx (G.iv_lt hg)
 rw [cv_at _ _ hx,sm_one hm fun y hy hne=>?_]
 ·have:f (iv n f e (f x (iv n f e g))) x=g:=by
   rw [G.iv_prod hx (G.iv_lt hg),G.iv_iv hg,G.assoc _ _ _ hg (G.iv_lt hx) hx,G.iv_mul hx,G.one_r _ hg]
  unfold dl; rw [this,if_pos rfl]; grind
 unfold dl
 rw [if_neg fun he=>hne ?_]
 ·grind
 have h1:=h.can2 hy hx
 rw [he] at h1
 rw [← h1,h.can3 hg hy]
theorem GC.cv1l (h:GC n f e c cI xx) {a:Nat→K} (ha:Sup n a):cv n f e (dl K e) a=a:=
 (cv_sup _ _).ext ha fun x hx=>by rw [h.cvdl a h.G.el hx,h.G.iv_one,h.G.one_l x hx]
theorem GC.cv1r (h:GC n f e c cI xx) {a:Nat→K} (ha:Sup n a):cv n f e a (dl K e)=a:=
 (cv_sup _ _).ext ha fun x hx=>by rw [h.cvdr a h.G.el hx,h.G.iv_one,h.G.one_r x hx]
theorem GC.cve (h:GC n f e c cI xx) (a b:Nat→K):cv n f e a b e=cv n f e b a e:=by
 have G:=h.G
 rw [cv_at _ _ G.el,cv_at _ _ G.el,← h.sumI fun y=>a y * b (f (iv n f e y) e)]
 exact sm_congr fun y hy=>by rw [G.iv_iv hy,G.one_r y hy,G.one_r _ (G.iv_lt hy)]; grind
theorem GC.cvT (h:GC n f e c cI xx) {T:Nat→K} (hT:ClF n cI T) (a:Nat→K):cv n f e T a=cv n f e a T:=by
 have G:=h.G
 refine (cv_sup _ _).ext (cv_sup _ _) fun x hx=>?_
 rw [cv_at _ _ hx,cv_at _ _ hx,← h.sumL hx fun y=>T y * a (f (iv n f e y) x),← h.sumI fun y=>T (f x y) * a (f (iv n f e (f x y)) x)]
 refine sm_congr fun w hw=>?_
 have hi:=G.iv_lt hw
 have e1:f (iv n f e (f x (iv n f e w))) x=w:=by
  rw [G.iv_prod hx hi,G.iv_iv hw,G.assoc _ _ _ hw (G.iv_lt hx) hx,G.iv_mul hx,G.one_r _ hw]
 rw [e1,h.cjT hT hx hi]; grind
def pc (n:Nat) (f:Nat→Nat→Nat) (e:Nat) (u:Nat→K):Nat→Nat→K
 | 0=>dl K e
 | k + 1=>cv n f e u (pc n f e u k)
theorem GC.pc_sup (h:GC n f e c cI xx) (u:Nat→K):∀ k,Sup n (pc n f e u k)
 | 0=>dl_sup h.G.el
 | k + 1=>cv_sup _ _
theorem GC.pc_add (h:GC n f e c cI xx) (u:Nat→K) (j:Nat):∀ i,pc n f e u (i + j)=cv n f e (pc n f e u i) (pc n f e u j)
 | 0=>by rw [Nat.zero_add]; exact (h.cv1l (h.pc_sup u j)).symm
 | i + 1=>by
  rw [show i + 1 + j=(i + j) + 1 by omega]
  show cv n f e u (pc n f e u (i + j))=cv n f e (cv n f e u (pc n f e u i)) _
  rw [h.pc_add u j i,h.cva]
def prU (u:Nat→K):List Nat→K
 | []=>1
 | y :: w=>u y * prU u w
theorem prU_app (u:Nat→K) (w w' : List Nat):prU u (w++w')=prU u w * prU u w':=by
 induction w with
 | nil=>show _=1 * _; rw [List.nil_append]; grind
 | cons y w ih=>show u y * prU u (w++w')=u y * prU u w * _; rw [ih]; grind
theorem prU_rep (u:Nat→K) (x:Nat):∀ k,prU u (List.replicate k x)=u x ^ k
 | 0=>by rw [Semiring.pow_zero]; rfl
 | k + 1=>by
  rw [List.replicate_succ,Semiring.pow_succ]
  show u x * prU u (List.replicate k x)=_
  rw [prU_rep u x k]; grind
theorem GC.pc_words (h:GC n f e c cI xx) (u:Nat→K):∀ k x,x < n→pc n f e u k x=sW (List.range n) k fun w=>prU u w * if prW f w e=x then 1 else 0
 | 0,x,hx=>by
  show dl K e x=prU u [] * if e=x then 1 else 0
  unfold dl prU
  by_cases hxe:x=e
  ·rw [if_pos hxe,if_pos hxe.symm]; grind
  rw [if_neg hxe,if_neg (fun h=>hxe h.symm)]; grind
 | k + 1,x,hx=>by
  have G:=h.G
  show cv n f e u (pc n f e u k) x=sl (List.range n) _
  rw [cv_at _ _ hx,sl_range]
  refine sm_congr fun y hy=>?_
  rw [h.pc_words u k _ (G.cl _ _ (G.iv_lt hy) hx),← sW_mul]
  refine sW_congr fun w _ hw=>?_
  have hwn:=h.prl (fun z hz=>List.mem_range.1 (hw z hz)) G.el
  show _=u y * prU u w * if f y (prW f w e)=x then 1 else 0
  by_cases hq:prW f w e=f (iv n f e y) x
  ·rw [if_pos hq,if_pos (by rw [hq,h.can2 hy hx])]; grind
  rw [if_neg hq,if_neg fun hh=>hq (by rw [← hh,h.can1 hy hwn])]; grind
theorem GC.pc_p (h:GC n f e c cI xx) (R:Rp K p) (hcz:∀ a:Nat,0 < a→a < p→(a:K) ≠ 0) (hpw:∀ a,a < n→pw f e a p=a) (hfr:∀ a:K,a ^ p=a) (u:Nat→K):pc n f e u p e=u e:=by
 have G:=h.G
 let F:List Nat→K:=fun w=>if ∀ y∈w,y < n then prU u w * (if prW f w e=e then 1 else 0) else 0
 have hF:∀ w,F (rot1 w)=F w:=fun w=>by
  cases w with
  | nil=>rfl
  | cons y w =>
   simp only [F,rot1]
   by_cases hw:∀ z∈y :: w,z < n
   ·have hw2:∀ z∈w++[y],z < n:=fun z hz=>hw z (by
     rcases List.mem_append.1 hz with hz | hz
     ·simp [hz]
     simp [List.mem_singleton.1 hz])
    rw [if_pos hw,if_pos hw2,prW_app,prU_app]
    have hy:=hw y (by simp)
    have hw3:∀ z∈w,z < n:=fun z hz=>hw z (by simp [hz])
    have e1:prW f [y] e=y:=G.one_r y hy
    have e2:prU u [y]=u y:=by show u y * 1=_; grind
    have e3:prU u (y :: w)=u y * prU u w:=rfl
    have e4:prW f (y :: w) e=f y (prW f w e):=rfl
    rw [e1,e2,e3,e4,h.prm hw3 hy]
    have hl:=h.prl hw3 G.el
    by_cases hq:f (prW f w e) y=e
    ·have:f y (prW f w e)=e:=by
      have h1:=G.iv_unique hy hl (.inr hq)
      rw [h1,G.mul_iv hy]
     rw [if_pos hq,if_pos this]; grind
    have:¬ f y (prW f w e)=e:=fun hh=>hq (by
     have h1:=G.iv_unique hy hl (.inl hh)
     rw [h1,G.iv_mul hy])
    rw [if_neg hq,if_neg this]; grind
   have hw2:¬ ∀ z∈w++[y],z < n:=fun hh=>hw fun z hz=>hh z (by
    rcases List.mem_cons.1 hz with hz | hz
    ·simp [hz]
    simp [hz])
   rw [if_neg hw,if_neg hw2]
 have e1:pc n f e u p e=sW (List.range n) p F:=by
  rw [h.pc_words u p e G.el]
  refine sW_congr fun w _ hw=>?_
  simp only [F]
  rw [if_pos fun y hy=>List.mem_range.1 (hw y hy)]
 rw [e1,sW_turn R.fld (by have:=R.two; omega) R.ch hcz (List.nodup_range) hF,sl_range,sm_one (i:=e) G.el fun g hg hne=>?_]
 ·simp only [F]
  rw [if_pos fun y hy=>by rw [List.eq_of_mem_replicate hy]; exact G.el,h.prr G.el,hpw e G.el,if_pos rfl,prU_rep,hfr]; grind
 simp only [F]
 rw [if_pos fun y hy=>by rw [List.eq_of_mem_replicate hy]; exact hg,h.prr hg,hpw g hg,if_neg hne]; grind
end
end Go.Proofs.YtjlmpmidchddjaaDoor

namespace Go.Proofs.YtjlmpmidchddjaaDoor
open Lean.Grind
attribute [local instance] Lean.Grind.Semiring.natCast Lean.Grind.Ring.intCast
section
variable {n:Nat} {K:Type} [CommRing K] {p:Nat}
theorem sup_pts {w:Nat→K} (hs:Sup n w) (k:Nat):w k=sm (fun i=>w i * if k=i then 1 else 0) n:=by
 by_cases hk:k < n
 ·rw [sm_one hk fun i _ hne=>by rw [if_neg (fun e=>hne e.symm)]; grind,if_pos rfl]; grind
 rw [hs k (by omega)]
 exact (sm_zero fun i hi=>by rw [if_neg (by omega)]; grind).symm
theorem bas_step (F:Fld K) {P:(Nat→K)→Prop} (hP:LSub P) (hn:∀ v,P v→Sup n v):∀ d q (y:Nat→Nat→K),IndV y q→(∀ j,j < q→P (y j))→n - q=d→q≤n →
  ∃ q y,q≤n∧IndV y q∧(∀ j,j < q→P (y j))∧∀ v,P v→∃ C:Nat→K,∀ k,v k=sm (fun i=>C i * y i k) q:=by
 intro d
 induction d with
 | zero =>
  intro q y hy hp hd hqn
  refine Classical.byContradiction fun hno=>?_
  have h1:¬ ∀ v,P v→∃ C:Nat→K,∀ k,v k=sm (fun i=>C i * y i k) q:=fun hh=>hno ⟨q,y,hqn,hy,hp,hh⟩
  obtain ⟨v,hv⟩:=Classical.not_forall.1 h1
  obtain ⟨hv1,hv2⟩:=Classical.not_imp.1 hv
  have hy2:IndV (fun j=>if j=q then v else y j) (q + 1):=fun x hx=>by
   have e0:∀ k,sm (fun j=>x j * y j k) q + x q * v k=0:=fun k=>by
    have:=hx k
    rw [sm] at this
    simp only [if_pos] at this
    rw [← this]
    congr 1
    exact sm_congr fun j hj=>by rw [if_neg (by omega)]
   have h0:x q=0:=Classical.byContradiction fun hc=>by
    obtain ⟨b,hb⟩:=F.1 _ hc
    refine hv2 ⟨fun j=>-b * x j,fun k=>?_⟩
    have e1:sm (fun i=>-b * x i * y i k) q = -b * sm (fun j=>x j * y j k) q:=by rw [← sm_mul]; exact sm_congr fun i _=>by grind
    rw [e1]
    have:=e0 k
    grind
   intro j hj
   by_cases hjq:j=q
   ·rw [hjq]; exact h0
   exact hy x (fun k=>by have:=e0 k; rw [h0] at this; grind) j (by omega)
  have:=ind_le F hy2 (z:=fun i j=>if j=i then 1 else 0) (r:=n) fun j hj=>⟨(fun j=>if j=q then v else y j) j,sup_pts (by
    by_cases hjq:j=q
    ·simp only [if_pos hjq]; exact hn _ hv1
    simp only [if_neg hjq]; exact hn _ (hp j (by omega)))⟩
  omega
 | succ d ih =>
  intro q y hy hp hd hqn
  refine Classical.byContradiction fun hno=>?_
  have h1:¬ ∀ v,P v→∃ C:Nat→K,∀ k,v k=sm (fun i=>C i * y i k) q:=fun hh=>hno ⟨q,y,hqn,hy,hp,hh⟩
  obtain ⟨v,hv⟩:=Classical.not_forall.1 h1
  obtain ⟨hv1,hv2⟩:=Classical.not_imp.1 hv
  have hy2:IndV (fun j=>if j=q then v else y j) (q + 1):=fun x hx=>by
   have e0:∀ k,sm (fun j=>x j * y j k) q + x q * v k=0:=fun k=>by
    have:=hx k
    rw [sm] at this
    simp only [if_pos] at this
    rw [← this]
    congr 1
    exact sm_congr fun j hj=>by rw [if_neg (by omega)]
   have h0:x q=0:=Classical.byContradiction fun hc=>by
    obtain ⟨b,hb⟩:=F.1 _ hc
    refine hv2 ⟨fun j=>-b * x j,fun k=>?_⟩
    have e1:sm (fun i=>-b * x i * y i k) q = -b * sm (fun j=>x j * y j k) q:=by rw [← sm_mul]; exact sm_congr fun i _=>by grind
    rw [e1]
    have:=e0 k
    grind
   intro j hj
   by_cases hjq:j=q
   ·rw [hjq]; exact h0
   exact hy x (fun k=>by have:=e0 k; rw [h0] at this; grind) j (by omega)
  exact hno (ih (q + 1) _ hy2 (fun j hj=>by
   by_cases hjq:j=q
   ·simp only [if_pos hjq]; exact hv1
   simp only [if_neg hjq]; exact hp j (by omega)) (by omega) (by omega))
theorem bas (F:Fld K) {P:(Nat→K)→Prop} (hP:LSub P) (hn:∀ v,P v→Sup n v) :
  ∃ q y,q≤n∧IndV y q∧(∀ j,j < q→P (y j))∧∀ v,P v→∃ C:Nat→K,∀ k,v k=sm (fun i=>C i * y i k) q:=
 bas_step F hP hn n 0 (fun _ _=>0) (fun x hx j hj=>absurd hj (Nat.not_lt_zero _)) (fun j hj=>absurd hj (Nat.not_lt_zero _)) (by omega) (Nat.zero_le _)
theorem IndV.uni {y:Nat→Nat→K} {q:Nat} (h:IndV y q) {C C' : Nat→K} (he:∀ k,sm (fun i=>C i * y i k) q=sm (fun i=>C' i * y i k) q):∀ i,i < q→C i=C' i:=fun i hi=>by
 have:=h (fun i=>C i - C' i) (fun k=>by
  have e1:sm (fun j=>(C j - C' j) * y j k) q=sm (fun i=>C i * y i k) q - sm (fun i=>C' i * y i k) q:=by rw [← sm_sub]; exact sm_congr fun j _=>by grind
  rw [e1,he]; grind) i hi
 grind
theorem LSub.smm {P:(Nat→K)→Prop} (hP:LSub P) (C:Nat→K) (y:Nat→Nat→K):∀ q,(∀ j,j < q→P (y j))→P fun k=>sm (fun i=>C i * y i k) q
 | 0,_=>hP.zero
 | q + 1,h=>by
  show P fun k=>(fun k=>sm (fun i=>C i * y i k) q) k + (fun k=>C q * y q k) k
  exact hP.add _ _ (hP.smm C y q fun j hj=>h j (by omega)) (hP.smul _ _ (h q (by omega)))
def dgt (p m i:Nat):Nat:=m / p ^ i % p
theorem dgt_lt (hp:0 < p) (m i:Nat):dgt p m i < p:=Nat.mod_lt _ hp
theorem dgt_succ (m i:Nat):dgt p m (i + 1)=dgt p (m / p) i:=by
 unfold dgt
 rw [Nat.div_div_eq_div_mul,Nat.pow_succ,Nat.mul_comm]
theorem dgt_inj (hp:0 < p):∀ q m m',m < p ^ q→m' < p ^ q→(∀ i,i < q→dgt p m i=dgt p m' i)→m=m'
 | 0,m,m',h1,h2,_=>by rw [Nat.pow_zero] at h1 h2; omega
 | q + 1,m,m',h1,h2,h=>by
  have h3:=h 0 (by omega)
  unfold dgt at h3
  rw [Nat.pow_zero,Nat.div_one,Nat.div_one] at h3
  have h4:=dgt_inj hp q (m / p) (m' / p) (by rw [Nat.pow_succ] at h1; exact (Nat.div_lt_iff_lt_mul hp).2 h1) (by rw [Nat.pow_succ] at h2; exact (Nat.div_lt_iff_lt_mul hp).2 h2) fun i hi=>by
   rw [← dgt_succ,← dgt_succ]; exact h (i + 1) (by omega)
  rw [← Nat.div_add_mod m p,← Nat.div_add_mod m' p,h3,h4]
theorem dgt_sur (hp:0 < p):∀ q (C:Nat→Nat),(∀ i,C i < p)→∃ m,m < p ^ q∧∀ i,i < q→dgt p m i=C i
 | 0,C,_=>⟨0,by rw [Nat.pow_zero]; omega,fun i hi=>absurd hi (Nat.not_lt_zero _)⟩
 | q + 1,C,h=>by
  obtain ⟨m,h1,h2⟩:=dgt_sur hp q (fun i=>C (i + 1)) fun i=>h _
  refine ⟨C 0 + p * m,?_,fun i hi=>?_⟩
  ·have h3:p * (m + 1)≤p * p ^ q:=Nat.mul_le_mul_left p h1
   have h4:=h 0
   rw [Nat.mul_add] at h3
   rw [Nat.pow_succ,Nat.mul_comm (p ^ q)]
   omega
  cases i with
  | zero =>
   unfold dgt
   rw [Nat.pow_zero,Nat.div_one,Nat.add_mul_mod_self_left,Nat.mod_eq_of_lt (h 0)]
  | succ i =>
   rw [dgt_succ,Nat.add_mul_div_left _ _ hp,Nat.div_eq_of_lt (h 0),Nat.zero_add]
   exact h2 i (by omega)
theorem enum (R:Rp K p) (hsur:∀ a:K,∃ x:Nat,x < p∧(x:K)=a) {P:(Nat→K)→Prop} (hP:LSub P) (hn:∀ v,P v→Sup n v) :
  ∃ (q:Nat) (E:Nat→Nat→K),q≤n∧(∀ m,P (E m))∧(∀ m m',m < p ^ q→m' < p ^ q→E m=E m'→m=m')∧(∀ v,P v→∃ m,m < p ^ q∧E m=v)∧E 0=fun _=>0:=by
 have hp:0 < p:=by have:=R.two; omega
 obtain ⟨q,y,h1,h2,h3,h4⟩:=bas R.fld hP hn
 refine ⟨q,fun m k=>sm (fun i=>((dgt p m i:Nat):K) * y i k) q,h1,fun m=>hP.smm _ y q h3,fun m m' hm hm' he=>?_,fun v hv=>?_,?_⟩
 ·refine dgt_inj hp q m m' hm hm' fun i hi=>?_
  have h5:=h2.uni (fun k=>congrFun he k) i hi
  refine Classical.byContradiction fun hne=>R.ne (dgt_lt hp m i) (dgt_lt hp m' i) hne ?_
  rw [h5]; grind
 ·obtain ⟨C,hC⟩:=h4 v hv
  obtain ⟨c,hc⟩:=Classical.axiomOfChoice fun i=>hsur (C i)
  obtain ⟨m,m1,m2⟩:=dgt_sur hp q c fun i=>(hc i).1
  refine ⟨m,m1,funext fun k=>?_⟩
  rw [hC k]
  exact sm_congr fun i hi=>by rw [m2 i hi,(hc i).2]
 funext k
 refine sm_zero fun i _=>?_
 have:dgt p 0 i=0:=by unfold dgt; rw [Nat.zero_div,Nat.zero_mod]
 rw [this]; grind
theorem trc (F:Fld K) {A:(Nat→K)→Nat→K} (hA:Lin A) (hid:∀ u,Sup n u→A (A u)=A u) (hs:∀ u,Sup n (A u)) :
  ∃ v,v≤n∧sm (fun x=>A (dl K x) x) n=(v:K)∧(v=0→∀ u,Sup n u→A u=fun _=>0):=by
 have hP:LSub fun u=>Sup n u∧A u=u:=⟨⟨Sup.zero,hA.zero⟩,fun a b ha hb=>⟨ha.1.add hb.1,by rw [hA.1,ha.2,hb.2]⟩,fun k a ha=>⟨ha.1.smul k,by rw [hA.2,ha.2]⟩⟩
 obtain ⟨q,y,h1,h2,h3,h4⟩:=bas F hP fun v hv=>hv.1
 have h5:∀ u,∃ C:Nat→K,Sup n u→∀ k,A u k=sm (fun i=>C i * y i k) q:=fun u=>by
  by_cases hu:Sup n u
  ·obtain ⟨C,hC⟩:=h4 (A u) ⟨hs u,hid u hu⟩
   exact ⟨C,fun _=>hC⟩
  exact ⟨fun _=>0,fun h=>absurd h hu⟩
 obtain ⟨φ,hφ⟩:=Classical.axiomOfChoice h5
 refine ⟨q,h1,?_,fun h0 u hu=>?_⟩
 ·have e1:sm (fun x=>A (dl K x) x) n=sm (fun i=>sm (fun x=>φ (dl K x) i * y i x) n) q:=by
   rw [← sm_comm]
   exact sm_congr fun x hx=>hφ _ (dl_sup hx) x
  rw [e1]
  have e2:∀ i,i < q→sm (fun x=>φ (dl K x) i * y i x) n=1:=fun i hi=>by
   have e3:y i=fun k=>sm (fun x=>y i x * dl K x k) n:=by
    funext k
    by_cases hk:k < n
    ·rw [sm_one hk fun x _ hne=>by unfold dl; rw [if_neg (fun e=>hne e.symm)]; grind]
     unfold dl; rw [if_pos rfl]; grind
    rw [(h3 i hi).1 k (by omega)]
    exact (sm_zero fun x hx=>by unfold dl; rw [if_neg (by omega)]; grind).symm
   have e4:∀ k,sm (fun j=>(if j=i then (1:K) else 0) * y j k) q=sm (fun j=>sm (fun x=>φ (dl K x) j * y i x) n * y j k) q:=fun k=>by
    rw [sm_one hi fun j _ hne=>by rw [if_neg hne]; grind,if_pos rfl]
    have e5:y i k=A (y i) k:=by rw [(h3 i hi).2]
    have e6:A (y i)=fun k=>sm (fun x=>y i x * A (dl K x) k) n:=by
     rw [← hA.sm,← e3]
    have e7:sm (fun x=>y i x * A (dl K x) k) n=sm (fun x=>sm (fun j=>φ (dl K x) j * y i x * y j k) q) n:=sm_congr fun x hx=>by
     rw [hφ _ (dl_sup hx) k,← sm_mul]; exact sm_congr fun j _=>by grind
    have e8:sm (fun j=>sm (fun x=>φ (dl K x) j * y i x) n * y j k) q=sm (fun j=>sm (fun x=>φ (dl K x) j * y i x * y j k) n) q:=sm_congr fun j _=>by rw [← sm_mulr]
    rw [e5,e6,e8,← sm_comm,← e7]; grind
   have e9:=h2.uni e4 i hi
   rw [if_pos rfl] at e9
   exact e9.symm
  rw [sm_congr e2,sm_const]; grind
 funext k
 rw [hφ u hu k,h0]; rfl
end
end Go.Proofs.YtjlmpmidchddjaaDoor

namespace Go.Proofs.YtjlmpmidchddjaaDoor
def wedG (p d:Nat):Nat→Nat
 | 0=>p ^ d - 1
 | a + 1=>if 1≤a∧(p ^ d - 1) % (p ^ a - 1)=0 then Nat.gcd (wedG p d a) ((p ^ d - 1) / (p ^ a - 1)) else wedG p d a
def wedB:Bool:=prL.all fun p=>(List.range 61).all fun d=>decide (d < 2) || !decide ((p - 1) % wedG p d d=0)
theorem wedB_t:wedB=true:=by decide +kernel
def Wed (p d:Nat):Prop:=∃ ψ,ψ ∣ p ^ d - 1∧(∀ a,1≤a→a < d→(p ^ a - 1) ∣ (p ^ d - 1)→ψ ∣ (p ^ d - 1) / (p ^ a - 1))∧¬ ψ ∣ p - 1
theorem wedG_d (p d:Nat):∀ m,wedG p d m ∣ p ^ d - 1∧∀ a,1≤a→a < m→(p ^ a - 1) ∣ (p ^ d - 1)→wedG p d m ∣ (p ^ d - 1) / (p ^ a - 1)
 | 0=>⟨Nat.dvd_refl _,fun a _ h=>absurd h (Nat.not_lt_zero _)⟩
 | m + 1=>by
  obtain ⟨h1,h2⟩:=wedG_d p d m
  unfold wedG
  by_cases hc:1≤m∧(p ^ d - 1) % (p ^ m - 1)=0
  ·rw [if_pos hc]
   refine ⟨Nat.dvd_trans (Nat.gcd_dvd_left _ _) h1,fun a ha hm hd=>?_⟩
   by_cases e:a=m
   ·subst e; exact Nat.gcd_dvd_right _ _
   exact Nat.dvd_trans (Nat.gcd_dvd_left _ _) (h2 a ha (by omega) hd)
  rw [if_neg hc]
  refine ⟨h1,fun a ha hm hd=>?_⟩
  by_cases e:a=m
  ·subst e; exact absurd ⟨ha,Nat.mod_eq_zero_of_dvd hd⟩ hc
  exact h2 a ha (by omega) hd
theorem wed_of {p d:Nat} (hp:p∈prL) (h2:2≤d) (h3:d≤60):Wed p d:=by
 have h1:=wedB_t
 unfold wedB at h1
 rw [List.all_eq_true] at h1
 have h4:=List.all_eq_true.1 (h1 p hp) d (List.mem_range.2 (by omega))
 rw [Bool.or_eq_true] at h4
 have h5:=(h4.resolve_left fun h=>by have:=of_decide_eq_true h; omega)
 have h6:¬ (p - 1) % wedG p d d=0:=by simpa using h5
 obtain ⟨h7,h8⟩:=wedG_d p d d
 exact ⟨_,h7,h8,fun h=>h6 (Nat.mod_eq_zero_of_dvd h)⟩
end Go.Proofs.YtjlmpmidchddjaaDoor

namespace Go.Proofs.YtjlmpmidchddjaaDoor
open Lean.Grind
attribute [local instance] Lean.Grind.Semiring.natCast Lean.Grind.Ring.intCast
theorem mem_bij3 {n k:Nat} {P Q:Nat→Bool} (g:Nat→Nat) (h1:∀ x,x < n→P x=true→g x < k∧Q (g x)=true) (hi:∀ x y,x < n→y < n→P x=true→P y=true→g x=g y→x=y) (h2:∀ y,y < k→Q y=true→∃ x,x < n∧P x=true∧g x=y):(mem n P).length=(mem k Q).length:=by
 rw [← List.length_map (f:=g) («as»:=mem n P)]
 refine same_len (nodup_map (List.nodup_range.filter _) fun x hx y hy h=>?_) (List.nodup_range.filter _) fun y=>?_
 ·obtain ⟨a1,a2⟩:=mem_mem.1 hx
  obtain ⟨b1,b2⟩:=mem_mem.1 hy
  exact hi x y a1 b1 a2 b2 h
 rw [List.mem_map,mem_mem]
 constructor
 ·rintro ⟨x,hx,rfl⟩
  obtain ⟨a1,a2⟩:=mem_mem.1 hx
  exact h1 x a1 a2
 rintro ⟨a1,a2⟩
 obtain ⟨x,b1,b2,b3⟩:=h2 y a1 a2
 exact ⟨x,mem_mem.2 ⟨b1,b2⟩,b3⟩
theorem mem_tr (n:Nat):(mem n fun _=>true).length=n:=by unfold mem; rw [List.filter_eq_self.2 fun _ _=>rfl,List.length_range]
theorem sum_div {ψ:Nat} (g:Nat→Nat):∀ l:List Nat,(∀ x∈l,g x=1∨ψ ∣ g x)→ψ ∣ (l.map g).sum→ψ ∣ (l.filter fun x=>decide (g x=1)).length:=fun l h hs=>by
 have:∀ l:List Nat,(∀ x∈l,g x=1∨ψ ∣ g x)→∃ t,(l.map g).sum=(l.filter fun x=>decide (g x=1)).length + ψ * t:=by
  intro l
  induction l with
  | nil=>intro _; exact ⟨0,by simp⟩
  | cons x l ih =>
   intro h
   obtain ⟨t,ht⟩:=ih fun y hy=>h y (by simp [hy])
   by_cases h1:g x=1
   ·exact ⟨t,by rw [List.map_cons,List.sum_cons,ht,List.filter_cons,if_pos (by simp [h1]),List.length_cons,h1]; omega⟩
   obtain ⟨u,hu⟩:=(h x (by simp)).resolve_left h1
   exact ⟨t + u,by rw [List.map_cons,List.sum_cons,ht,List.filter_cons,if_neg (by simp [h1]),Nat.mul_add,← hu]; omega⟩
 obtain ⟨t,ht⟩:=this l h
 rw [ht] at hs
 exact (Nat.dvd_add_iff_left (Nat.dvd_mul_right ψ t)).2 hs
section
variable {n e c:Nat} {f:Nat→Nat→Nat} {cI xx:Nat→Nat} {K:Type} [CommRing K] {p:Nat}
theorem GC.wedd (h : GC n f e c cI xx) (R : Rp K p) (hsur : ∀ a : K, ∃ x : Nat, x < p ∧ (x : K) = a) (hw : ∀ d, 2 ≤ d → d ≤ n → Wed p d)
    {D : (Nat → K) → Prop} (hD : LSub D) (hn : ∀ v, D v → Sup n v) (cl : ∀ a b, D a → D b → D (cv n f e a b)) {k : Nat → K} (hk : D k) (k0 : k ≠ fun _ => 0) (k1 : ∀ a, D a → cv n f e k a = a) (k2 : ∀ a, D a → cv n f e a k = a)
    (inv : ∀ x, D x → x ≠ (fun _ => 0) → ∃ y, D y ∧ cv n f e x y = k) (cen0 : ∀ z, D z → (∀ w, D w → cv n f e z w = cv n f e w z) → ∃ a : K, z = fun x => a * k x) :
    ∀ x, D x → ∃ a : K, x = fun i => a * k i := by
  have hp : 2 ≤ p := R.two
  obtain ⟨δ, E, d1, d2, d3, d4, d5⟩ := enum R hsur hD hn
  have d4' : ∀ v, ∃ m, D v → m < p ^ δ ∧ E m = v := fun v => by
    by_cases hv : D v
    · obtain ⟨m, hm⟩ := d4 v hv; exact ⟨m, fun _ => hm⟩
    · exact ⟨0, fun h => absurd h hv⟩
  obtain ⟨cd, hcd⟩ := Classical.axiomOfChoice d4'
  have linv : ∀ x, D x → x ≠ (fun _ => 0) → ∃ y, D y ∧ y ≠ (fun _ => 0) ∧ cv n f e x y = k ∧ cv n f e y x = k := fun x hx hx0 => by
    obtain ⟨y, hy, h1⟩ := inv x hx hx0
    have hy0 : y ≠ fun _ => 0 := fun h0 => k0 (by rw [← h1, h0, cv_0r])
    obtain ⟨z, hz, h2⟩ := inv y hy hy0
    have h3 : z = x := by
      have := h.cva x y z
      rw [h1, h2, k1 z hz, k2 x hx] at this
      exact this
    exact ⟨y, hy, hy0, h1, h3 ▸ h2⟩
  have nz : ∀ a b, D a → D b → a ≠ (fun _ => 0) → b ≠ (fun _ => 0) → cv n f e a b ≠ fun _ => 0 := fun a b ha hb ha0 hb0 h0 => by
    obtain ⟨y, hy, _, _, h2⟩ := linv a ha ha0
    have := h.cva y a b
    rw [h0, h2, k1 b hb, cv_0r] at this
    exact hb0 this
  obtain ⟨M, hM⟩ : ∃ M, M = p ^ δ - 1 := ⟨_, rfl⟩
  have hpd : 0 < p ^ δ := Nat.pow_pos (by omega)
  have code : ∀ v, D v → v ≠ (fun _ => 0) → cd v - 1 < M ∧ E (cd v - 1 + 1) = v := fun v hv hv0 => by
    obtain ⟨h1, h2⟩ := hcd v hv
    have h3 : cd v ≠ 0 := fun h0 => hv0 (by rw [← h2, h0, d5])
    rw [show cd v - 1 + 1 = cd v by omega]
    exact ⟨by omega, h2⟩
  have elt : ∀ i, i < M → D (E (i + 1)) ∧ E (i + 1) ≠ fun _ => 0 := fun i hi => ⟨d2 _, fun h0 => by
    have := d3 (i + 1) 0 (by omega) hpd (by rw [h0, d5])
    omega⟩
  have ext : ∀ i j, i < M → j < M → E (i + 1) = E (j + 1) → i = j := fun i j hi hj he => by
    have := d3 _ _ (by omega) (by omega) he
    omega
  have cinj : ∀ i, i < M → cd (E (i + 1)) - 1 = i := fun i hi => by
    obtain ⟨h1, h2⟩ := elt i hi
    obtain ⟨h3, h4⟩ := code _ h1 h2
    exact ext _ _ h3 hi h4
  let fm : Nat → Nat → Nat := fun i j => cd (cv n f e (E (i + 1)) (E (j + 1))) - 1
  have fE : ∀ i j, i < M → j < M → fm i j < M ∧ E (fm i j + 1) = cv n f e (E (i + 1)) (E (j + 1)) := fun i j hi hj => by
    obtain ⟨a1, a2⟩ := elt i hi
    obtain ⟨b1, b2⟩ := elt j hj
    exact code _ (cl _ _ a1 b1) (nz _ _ a1 b1 a2 b2)
  obtain ⟨ck1, ck2⟩ := code k hk k0
  have G : Grp M fm (cd k - 1) := {
    pos := by omega
    cl := fun a b ha hb => (fE a b ha hb).1
    el := ck1
    one_l := fun a ha => ext _ _ (fE _ _ ck1 ha).1 ha (by rw [(fE _ _ ck1 ha).2, ck2, k1 _ (elt a ha).1])
    one_r := fun a ha => ext _ _ (fE _ _ ha ck1).1 ha (by rw [(fE _ _ ha ck1).2, ck2, k2 _ (elt a ha).1])
    assoc := fun a b d ha hb hd => by
      have h1 := fE a b ha hb
      have h2 := fE b d hb hd
      have h3 := fE _ d h1.1 hd
      have h4 := fE a _ ha h2.1
      exact ext _ _ h3.1 h4.1 (by rw [h3.2, h4.2, h1.2, h2.2, h.cva])
    inv := fun a ha => by
      obtain ⟨a1, a2⟩ := elt a ha
      obtain ⟨y, y1, y2, y3, y4⟩ := linv _ a1 a2
      obtain ⟨y5, y6⟩ := code y y1 y2
      have h1 := fE a _ ha y5
      have h2 := fE _ a y5 ha
      exact ⟨_, y5, ext _ _ h1.1 ck1 (by rw [h1.2, y6, y3, ck2]), ext _ _ h2.1 ck1 (by rw [h2.2, y6, y4, ck2])⟩ }
  have comE : ∀ x y, x < M → y < M → (fm y x = fm x y ↔ cv n f e (E (y + 1)) (E (x + 1)) = cv n f e (E (x + 1)) (E (y + 1))) := fun x y hx hy => by
    have h1 := fE y x hy hx
    have h2 := fE x y hx hy
    constructor
    · intro he; rw [← h1.2, ← h2.2, he]
    · intro he; exact ext _ _ h1.1 h2.1 (by rw [h1.2, h2.2, he])
  have cc : ∀ x, x < M → ∃ a, (mem M (cen fm x)).length = p ^ a - 1 := fun x hx => by
    obtain ⟨X, hX⟩ : ∃ X, E (x + 1) = X := ⟨_, rfl⟩
    have hL : LSub fun v => D v ∧ cv n f e v X = cv n f e X v := ⟨⟨hD.zero, by rw [cv_0l, cv_0r]⟩, fun a b ha hb => ⟨hD.add _ _ ha.1 hb.1, by rw [cv_addl, cv_addr, ha.2, hb.2]⟩, fun k a ha => ⟨hD.smul _ _ ha.1, by rw [cv_smull, cv_smulr, ha.2]⟩⟩
    obtain ⟨a, Ex, a1, a2, a3, a4, a5⟩ := enum R hsur hL fun v hv => hn v hv.1
    refine ⟨a, ?_⟩
    have hpa : 0 < p ^ a := Nat.pow_pos (by omega)
    have hz : ∀ i, i < p ^ a - 1 → Ex (i + 1) ≠ fun _ => 0 := fun i hi h0 => by
      have := a3 (i + 1) 0 (by omega) hpa (by rw [h0, a5])
      omega
    have := mem_bij3 (n := p ^ a - 1) (k := M) (P := fun _ => true) (Q := cen fm x) (fun i => cd (Ex (i + 1)) - 1) (fun i hi _ => ?_) (fun i j hi hj _ _ he => ?_) fun y hy hq => ?_
    · rw [← this, mem_tr]
    · obtain ⟨b1, b2⟩ := a2 (i + 1)
      obtain ⟨c1, c2⟩ := code _ b1 (hz i hi)
      refine ⟨c1, cen_iff.2 ((comE x _ hx c1).2 ?_)⟩
      rw [c2, hX]; exact b2
    · obtain ⟨c1, c2⟩ := code _ (a2 (i + 1)).1 (hz i hi)
      obtain ⟨c3, c4⟩ := code _ (a2 (j + 1)).1 (hz j hj)
      have he : cd (Ex (i + 1)) - 1 = cd (Ex (j + 1)) - 1 := he
      have := a3 (i + 1) (j + 1) (by omega) (by omega) (by rw [← c2, ← c4, he])
      omega
    · have h1 := (comE x y hx hy).1 (cen_iff.1 hq)
      rw [hX] at h1
      obtain ⟨m, m1, m2⟩ := a4 (E (y + 1)) ⟨(elt y hy).1, h1⟩
      have m3 : m ≠ 0 := fun h0 => (elt y hy).2 (by rw [← m2, h0, a5])
      refine ⟨m - 1, by omega, rfl, ?_⟩
      show cd (Ex (m - 1 + 1)) - 1 = y
      rw [show m - 1 + 1 = m by omega, m2, cinj y hy]
  have hδ : δ = 1 := by
    refine Classical.byContradiction fun hne => ?_
    have hδ0 : δ ≠ 0 := fun h0 => by rw [h0, Nat.pow_zero] at hM; omega
    obtain ⟨ψ, w1, w2, w3⟩ := hw δ (by omega) d1
    refine w3 ?_
    have hs := G.cjb_eqv.sum
    have hdiv := sum_div (ψ := ψ) (fun x => (mem M (cjb M fm (cd k - 1) x)).length) (mem M (lead (cjb M fm (cd k - 1)))) (fun x hx => ?_) (by rw [hs, hM]; exact w1)
    · 
      have hcount : ((mem M (lead (cjb M fm (cd k - 1)))).filter fun x => decide ((mem M (cjb M fm (cd k - 1) x)).length = 1)).length = p - 1 := by
        have e0 : ((mem M (lead (cjb M fm (cd k - 1)))).filter fun x => decide ((mem M (cjb M fm (cd k - 1) x)).length = 1)) = mem M fun x => lead (cjb M fm (cd k - 1)) x && decide ((mem M (cjb M fm (cd k - 1) x)).length = 1) := by
          unfold mem
          rw [List.filter_filter]
          exact List.filter_congr fun x _ => Bool.and_comm _ _
        rw [e0]
        have hjk : ∀ j, j < p - 1 → D (fun x => (((j + 1 : Nat)) : K) * k x) ∧ (fun x => (((j + 1 : Nat)) : K) * k x) ≠ fun _ => 0 := fun j hj => ⟨hD.smul _ _ hk, fun h0 => by
          have hj1 : ((j + 1 : Nat) : K) ≠ 0 := fun h1 => R.ne (a := j + 1) (b := 0) (by omega) (by omega) (by omega) (by rw [h1]; grind)
          obtain ⟨b, hb⟩ := R.fld.1 _ hj1
          refine k0 (funext fun x => ?_)
          have := congrFun h0 x
          grind⟩
        have := mem_bij3 (n := p - 1) (k := M) (P := fun _ => true) (Q := fun x => lead (cjb M fm (cd k - 1)) x && decide ((mem M (cjb M fm (cd k - 1) x)).length = 1)) (fun j => cd (fun x => ((j + 1 : Nat) : K) * k x) - 1) (fun j hj _ => ?_) (fun i j hi hj _ _ he => ?_) fun y hy hq => ?_
        · rw [← this, mem_tr]
        · obtain ⟨j1, j2⟩ := hjk j hj
          obtain ⟨c1, c2⟩ := code _ j1 j2
          refine ⟨c1, ?_⟩
          have hsame : ∀ y, y < M → (cjb M fm (cd k - 1) (cd (fun x => ((j + 1 : Nat) : K) * k x) - 1) y = true ↔ y = cd (fun x => ((j + 1 : Nat) : K) * k x) - 1) := fun y hy => by
            rw [cjb_iff]
            have key : ∀ a, a < M → fm (fm (iv M fm (cd k - 1) a) (cd (fun x => ((j + 1 : Nat) : K) * k x) - 1)) a = cd (fun x => ((j + 1 : Nat) : K) * k x) - 1 := fun a ha => by
              have hc : fm a (cd (fun x => ((j + 1 : Nat) : K) * k x) - 1) = fm (cd (fun x => ((j + 1 : Nat) : K) * k x) - 1) a := (comE _ _ c1 ha).2 (by rw [c2, cv_smull, cv_smulr, k1 _ (elt a ha).1, k2 _ (elt a ha).1])
              rw [G.assoc _ _ _ (G.iv_lt ha) c1 ha, ← hc, ← G.assoc _ _ _ (G.iv_lt ha) ha c1, G.iv_mul ha, G.one_l _ c1]
            constructor
            · rintro ⟨a, ha, h1⟩
              rw [← h1, key a ha]
            · intro h1
              exact ⟨cd k - 1, ck1, by rw [key _ ck1, h1]⟩
          rw [Bool.and_eq_true, decide_eq_true_eq]
          refine ⟨lead_iff.2 ⟨(hsame _ c1).2 rfl, fun b hb => ?_⟩, ?_⟩
          · cases hcb : cjb M fm (cd k - 1) (cd (fun x => ((j + 1 : Nat) : K) * k x) - 1) b with
            | false => rfl
            | true => have := (hsame b (by omega)).1 hcb; omega
          · exact mem_one c1 hsame
        · obtain ⟨i1, i2⟩ := hjk i hi
          obtain ⟨j1, j2⟩ := hjk j hj
          obtain ⟨c1, c2⟩ := code _ i1 i2
          obtain ⟨c3, c4⟩ := code _ j1 j2
          have he : cd (fun x => ((i + 1 : Nat) : K) * k x) - 1 = cd (fun x => ((j + 1 : Nat) : K) * k x) - 1 := he
          rw [he, c4] at c2
          refine Classical.byContradiction fun hij => ?_
          have h1 := R.ne (a := j + 1) (b := i + 1) (by omega) (by omega) (by omega)
          obtain ⟨b, hb⟩ := R.fld.1 _ h1
          refine k0 (funext fun x => ?_)
          have := congrFun c2 x
          grind
        · rw [Bool.and_eq_true, decide_eq_true_eq] at hq
          have h1 := G.cls_count hy
          rw [hq.2, Nat.mul_one] at h1
          have h2 := mem_all.1 h1
          have h3 : ∀ w, D w → cv n f e (E (y + 1)) w = cv n f e w (E (y + 1)) := fun w hw => by
            by_cases hw0 : w = fun _ => 0
            · rw [hw0, cv_0l, cv_0r]
            · obtain ⟨c1, c2⟩ := code w hw hw0
              have := (comE y _ hy c1).1 (cen_iff.1 (h2 _ c1))
              rw [c2] at this
              exact this.symm
          obtain ⟨a, ha⟩ := cen0 _ (elt y hy).1 h3
          obtain ⟨x, hx, hxa⟩ := hsur a
          have hx0 : x ≠ 0 := fun h0 => (elt y hy).2 (by rw [ha, ← hxa, h0]; funext z; grind)
          refine ⟨x - 1, by omega, rfl, ?_⟩
          show cd (fun z => ((x - 1 + 1 : Nat) : K) * k z) - 1 = y
          rw [show x - 1 + 1 = x by omega, hxa, ← ha, cinj y hy]
      rw [hcount] at hdiv
      exact hdiv
    · 
      have hxM := (mem_mem.1 hx).1
      obtain ⟨a, ha⟩ := cc x hxM
      have h1 := G.cls_count hxM
      by_cases h2 : (mem M (cjb M fm (cd k - 1) x)).length = 1
      · exact .inl h2
      · refine .inr ?_
        rw [ha] at h1
        have hMp := G.pos
        have hle : (mem M (cen fm x)).length ≤ M := by
          unfold mem
          exact Nat.le_trans (List.length_filter_le _ _) (by simp)
        have ha1 : p ^ a - 1 ≠ 0 := fun h0 => by rw [h0, Nat.zero_mul] at h1; omega
        have ha2 : a < δ := by
          refine Nat.lt_of_le_of_ne (Nat.le_of_not_lt fun hlt => ?_) fun he => ?_
          · have := Nat.pow_lt_pow_right (a := p) (by omega) hlt
            omega
          · rw [he, ← hM] at h1
            have := Nat.eq_of_mul_eq_mul_left hMp (h1.trans (Nat.mul_one M).symm)
            exact h2 this
        have ha3 : 1 ≤ a := by
          rcases Nat.eq_zero_or_pos a with h0 | h0
          · rw [h0, Nat.pow_zero] at ha1; omega
          · exact h0
        have h3 := w2 a ha3 ha2 (by rw [← hM, ← h1]; exact Nat.dvd_mul_right _ _)
        rw [← hM, ← h1, Nat.mul_div_cancel_left _ (by omega)] at h3
        exact h3
  intro x hx
  rw [hδ, Nat.pow_one] at d3
  have hcd' : ∀ v, D v → cd v < p ∧ E (cd v) = v := fun v hv => by
    have := hcd v hv
    rw [hδ, Nat.pow_one] at this
    exact this
  obtain ⟨j, hj, hje⟩ := inj_onto (n := p) (f := fun j => cd fun x => ((j : Nat) : K) * k x) (fun j _ => (hcd' _ (hD.smul _ _ hk)).1) (fun i j hi hj he => by
    have h1 := (hcd' _ (hD.smul ((i : Nat) : K) _ hk)).2
    have h2 := (hcd' _ (hD.smul ((j : Nat) : K) _ hk)).2
    have he : cd (fun x => ((i : Nat) : K) * k x) = cd fun x => ((j : Nat) : K) * k x := he
    rw [he, h2] at h1
    refine Classical.byContradiction fun hij => ?_
    obtain ⟨b, hb⟩ := R.fld.1 _ (R.ne hj hi (fun h => hij h.symm))
    refine k0 (funext fun x => ?_)
    have := congrFun h1 x
    grind) (hcd' x hx).1
  have h1 := (hcd' _ (hD.smul ((j : Nat) : K) _ hk)).2
  have hje : cd (fun x => ((j : Nat) : K) * k x) = cd x := hje
  rw [hje, (hcd' x hx).2] at h1
  exact ⟨_, h1⟩
end
end Go.Proofs.YtjlmpmidchddjaaDoor

namespace Go.Proofs.YtjlmpmidchddjaaDoor
open Lean.Grind
attribute [local instance] Lean.Grind.Semiring.natCast Lean.Grind.Ring.intCast
theorem least {P:Nat→Prop} (h:∃ r,P r):∃ r,P r∧∀ r',P r'→r≤r':=by
 refine Classical.byContradiction fun hno=>?_
 have:∀ m r,r≤m→¬ P r:=by
  intro m
  induction m with
  | zero=>intro r hr hp; exact hno ⟨r,hp,fun r' _=>by omega⟩
  | succ m ih =>
   intro r hr hp
   exact hno ⟨r,hp,fun r' hp'=>Nat.le_of_not_lt fun hlt=>ih r' (by omega) hp'⟩
 obtain ⟨r,hr⟩:=h
 exact this r r (Nat.le_refl _) hr
section
variable {n e c:Nat} {f:Nat→Nat→Nat} {cI xx:Nat→Nat} {K:Type} [CommRing K] {p:Nat}
theorem Rp.cinj (R:Rp K p) {a b:Nat} (ha:a < p) (hb:b < p) (h:(a:K)=b):a=b:=Classical.byContradiction fun hne=>R.ne ha hb hne (by rw [h]; grind)
theorem GC.pc_mul (h:GC n f e c cI xx) (u:Nat→K) (a:Nat):∀ b,pc n f e (pc n f e u a) b=pc n f e u (a * b)
 | 0=>rfl
 | b + 1=>by
  show cv n f e (pc n f e u a) (pc n f e (pc n f e u a) b)=_
  rw [h.pc_mul u a b,← h.pc_add,Nat.mul_add,Nat.mul_one,Nat.add_comm]
theorem GC.rank (h:GC n f e c cI xx) (F:Fld K) {u:Nat→K} (hu:cv n f e u u=u):∃ r,r≤n∧(n:K) * u e=(r:K)∧(r=0→u=fun _=>0):=by
 have G:=h.G
 obtain ⟨v,v1,v2,v3⟩:=trc (n:=n) F (A:=fun v=>cv n f e v u) ⟨fun a b=>cv_addl a b u,fun k a=>cv_smull k a u⟩ (fun v _=>by show cv n f e (cv n f e v u) u=_; rw [h.cva,hu]) fun v=>cv_sup _ _
 refine ⟨v,v1,?_,fun h0=>?_⟩
 ·rw [← v2,← sm_const]
  refine sm_congr fun x hx=>?_
  show u e=cv n f e (dl K x) u x
  rw [h.cvdl u hx hx,G.iv_mul hx]
 rw [← hu]
 exact v3 h0 u (by rw [← hu]; exact cv_sup _ _)
def WT (n:Nat) (f:Nat→Nat→Nat) (e:Nat) (t:Nat→K) (a:Nat→K):Prop:=Sup n a∧cv n f e a t=fun x=>prT n f e t t e * a x
theorem GC.wt_cj (h:GC n f e c cI xx) (F:Fld K) {t:Nat→K} (ht:Chr n f e cI t) (hs:prT n f e t t e ≠ 0) {a:Nat→K} (ha:WT n f e t a) {x:Nat} (hx:x < n):sm (fun g=>a (cjg n f e g x)) n=(n:K) * a e * t x:=by
 have G:=h.G
 have h1:prT n f e t t e * sm (fun g=>a (cjg n f e g x)) n=prT n f e t t e * ((n:K) * a e * t x):=by
  have e1:∀ g,g < n→prT n f e t t e * a (cjg n f e g x)=sm (fun y=>a y * t (f (iv n f e y) (cjg n f e g x))) n:=fun g hg=>by
   have:=congrFun ha.2 (cjg n f e g x)
   rw [← this,cv_at _ _ (h.cjl hg hx)]
  rw [← sm_mul,sm_congr e1,sm_comm]
  have e2:∀ y,y < n→sm (fun g=>a y * t (f (iv n f e y) (cjg n f e g x))) n=(n:K) * t x * (a y * t (f (iv n f e y) e)):=fun y hy=>by
   have hi:=G.iv_lt hy
   rw [sm_mul,sm_congr (g:=fun g=>t (f (cjg n f e g x) (iv n f e y))) fun g hg=>h.cjT ht.cl hi (h.cjl hg hx),ht.mul x _ hx hi,G.one_r _ hi]
   grind
  rw [sm_congr e2,sm_mul,← cv_at a t G.el,ha.2]
  grind
 obtain ⟨b,hb⟩:=F.1 _ hs
 grind
structure Prm (n:Nat) (f:Nat→Nat→Nat) (e:Nat) (t k:Nat→K) (v:Nat):Prop where
 W:WT n f e t k
 id:cv n f e k k=k
 rk:(n:K) * k e=(v:K)
 ge:1≤v
 le:v≤n
 sq:prT n f e t t e * ((v:K) * v)=(n:K)
 one:∀ w:Nat→K,∃ a:K,cv n f e k (cv n f e w k)=fun x=>a * k x
theorem GC.prim (h:GC n f e c cI xx) (R:Rp K p) (hsur:∀ a:K,∃ x:Nat,x < p∧(x:K)=a) (hw:∀ d,2≤d→d≤n→Wed p d) (h2n:2 * n < p) (hn0:(n:K) ≠ 0)
  (hcz:∀ a:Nat,0 < a→a < p→(a:K) ≠ 0) (hpw:∀ a,a < n→pw f e a p=a) {t:Nat→K} (ht:Chr n f e cI t) (hs:prT n f e t t e ≠ 0) :
  ∃ (v:Nat) (k:Nat→K),Prm n f e t k v:=by
 have G:=h.G
 have F:=R.fld
 have hfr:∀ a:K,a ^ p=a:=fun a=>by
  obtain ⟨x,_,rfl⟩:=hsur a
  exact R.pow x
 obtain ⟨s,hsd⟩:∃ s,s=prT n f e t t e:=⟨_,rfl⟩
 rw [← hsd] at hs
 obtain ⟨si,hsi⟩:=F.1 _ hs
 have hW:∀ {a:Nat→K},WT n f e t a↔Sup n a∧cv n f e a t=fun x=>s * a x:=by intro a; unfold WT; rw [hsd]
 have htt:∀ x,x < n→cv n f e t t x=s * t x:=fun x hx=>by
  rw [cv_at _ _ hx,← h.prT2 t t hx,h.self F hn0 ht hx,hsd]
 have wmul:∀ {a:Nat→K} (b:Nat→K),WT n f e t a→WT n f e t (cv n f e b a):=fun {a} b ha=>hW.2 ⟨cv_sup _ _,by
  rw [h.cva,(hW.1 ha).2,cv_smulr]⟩
 let ε:Nat→K:=fun x=>if x < n then si * t x else 0
 have hε:∀ x,x < n→ε x=(fun x=>si * t x) x:=fun x hx=>if_pos hx
 have hεs:Sup n ε:=fun x hx=>if_neg (by omega)
 have hεW:WT n f e t ε:=hW.2 ⟨hεs,by
  rw [cv_congr h hε (b':=t) fun _ _=>rfl,cv_smull]
  funext x
  by_cases hx:x < n
  ·rw [htt x hx]
   show _=s * (if x < n then si * t x else 0)
   rw [if_pos hx]; grind
  rw [cv_sup t t x (by omega),hεs x (by omega)]; grind⟩
 have hεi:cv n f e ε ε=ε:=by
  rw [cv_congr h (a:=ε) (fun _ _=>rfl) hε,cv_smulr,(hW.1 hεW).2]
  funext x; grind
 have hε0:ε ≠ fun _=>0:=fun h0=>by
  have:=congrFun h0 e
  rw [hε e G.el] at this
  have h1:si * t e=0:=this
  rw [ht.one] at h1
  have:s * si=0:=by grind
  rw [hsi] at this
  exact F.2 this
 let Q:Nat→Prop:=fun r=>∃ k,WT n f e t k∧cv n f e k k=k∧(k ≠ fun _=>0)∧r≤n∧(n:K) * k e=(r:K)
 obtain ⟨r,⟨k,kW,kk,k0,rn,kr⟩,hmin⟩:=least (P:=Q) (by
  obtain ⟨r,r1,r2,_⟩:=h.rank F hεi
  exact ⟨r,ε,hεW,hεi,hε0,r1,r2⟩)
 have hr0:r ≠ 0:=fun h0=>by
  obtain ⟨r',a1,a2,a3⟩:=h.rank F kk
  have:=R.cinj (by omega) (by omega) (a2.symm.trans kr)
  exact k0 (a3 (by omega))
 have hke:k e ≠ 0:=fun h0=>hr0 (R.cinj (p:=p) (by omega) (by omega) (by rw [← kr,h0]; grind))
 let D:(Nat→K)→Prop:=fun x=>cv n f e k x=x∧cv n f e x k=x
 have hDl:LSub D:=⟨⟨cv_0r k,cv_0l k⟩,fun a b ha hb=>⟨by rw [cv_addr,ha.1,hb.1],by rw [cv_addl,ha.2,hb.2]⟩,fun l a ha=>⟨by rw [cv_smulr,ha.1],by rw [cv_smull,ha.2]⟩⟩
 have hDs:∀ x,D x→Sup n x:=fun x hx=>by rw [← hx.1]; exact cv_sup _ _
 have hDk:D k:=⟨kk,kk⟩
 have hDc:∀ a b,D a→D b→D (cv n f e a b):=fun a b ha hb=>⟨by rw [← h.cva,ha.1],by rw [h.cva,hb.2]⟩
 have hDw:∀ w,D (cv n f e k (cv n f e w k)):=fun w=>⟨by rw [← h.cva k k,kk],by rw [h.cva,h.cva,kk]⟩
 have hDW:∀ x,D x→WT n f e t x:=fun x hx=>by rw [← hx.2]; exact wmul x kW
 obtain ⟨qa,Ea,qa1,qa2,qa3,qa4,qa5⟩:=enum (n:=n) R hsur (P:=Sup n) ⟨Sup.zero,fun a b ha hb=>ha.add hb,fun k a ha=>ha.smul k⟩ fun v hv=>hv
 have hinv:∀ x,D x→(x ≠ fun _=>0)→∃ y,D y∧cv n f e x y=k:=fun x hx hx0=>by
  obtain ⟨g,hg,hxg⟩:∃ g,g < n∧x g ≠ 0:=Classical.byContradiction fun hno=>hx0 ((hDs x hx).ext Sup.zero fun g hg=>Classical.byContradiction fun hc=>hno ⟨g,hg,hc⟩)
  obtain ⟨w,hwd⟩:∃ w,w=dl K (iv n f e g):=⟨_,rfl⟩
  obtain ⟨z,hz⟩:∃ z,z=cv n f e k (cv n f e w k):=⟨_,rfl⟩
  have hzD:D z:=by rw [hz]; exact hDw w
  obtain ⟨u,hu⟩:∃ u,u=cv n f e x z:=⟨_,rfl⟩
  have huD:D u:=by rw [hu]; exact hDc x z hx hzD
  have hue:u e=x g:=by
   rw [hu,hz,← h.cva,hx.2,← h.cva,h.cve,← h.cva,hx.1,hwd,h.cvdr x (G.iv_lt hg) G.el,G.iv_iv hg,G.one_l g hg]
  have hue0:u e ≠ 0:=by rw [hue]; exact hxg
  have hpp:∀ i,pc n f e u (p ^ i) e=u e:=fun i=>by
   induction i with
   | zero =>
    rw [Nat.pow_zero]
    show cv n f e u (dl K e) e=_
    rw [h.cv1r (hDs u huD)]
   | succ i ih=>rw [Nat.pow_succ,← h.pc_mul,h.pc_p R hcz hpw hfr,ih]
  have hnn:∀ m,pc n f e u m ≠ fun _=>0:=fun m h0=>by
   have h1:m≤p ^ m:=Nat.le_of_lt (Nat.lt_pow_self (by have:=R.two; omega))
   have h2:=hpp m
   rw [show p ^ m=(p ^ m - m) + m by omega,h.pc_add,h0,cv_0r] at h2
   exact hue0 h2.symm
  obtain ⟨cd,hcd⟩:=Classical.axiomOfChoice fun i=>qa4 _ (h.pc_sup u i)
  have hpos:0 < p ^ qa:=Nat.pow_pos (by have:=R.two; omega)
  obtain ⟨i,j,hij,hjn,hcij⟩:=pigeon (n:=p ^ qa) (f:=cd) fun i _=>(hcd i).1
  have hpij:pc n f e u i=pc n f e u j:=by rw [← (hcd i).2,← (hcd j).2,hcij]
  obtain ⟨d,rfl⟩:∃ d,j=i + d:=⟨j - i,by omega⟩
  have hper:∀ l i',i≤i'→pc n f e u (i' + l * d)=pc n f e u i':=fun l=>by
   induction l with
   | zero=>intro i' _; rw [Nat.zero_mul]; rfl
   | succ l ih =>
    intro i' hi'
    have e1:i' + (l + 1) * d=(i' - i + l * d) + (i + d):=by rw [Nat.add_mul]; omega
    rw [e1,h.pc_add,← hpij,← h.pc_add,show i' - i + l * d + i=i' + l * d by omega,ih i' hi']
  obtain ⟨m,hm⟩:∃ m,m=(i + 1) * d:=⟨_,rfl⟩
  have hmi:i + 1≤m:=by rw [hm]; exact Nat.le_mul_of_pos_right _ (by omega)
  have hid:cv n f e (pc n f e u m) (pc n f e u m)=pc n f e u m:=by
   rw [← h.pc_add]
   have:=hper (i + 1) m (by omega)
   rwa [← hm] at this
  obtain ⟨q,hq⟩:∃ q,m=q + 1:=⟨m - 1,by omega⟩
  have hbl:cv n f e k (pc n f e u m)=pc n f e u m:=by
   rw [hq]
   show cv n f e k (cv n f e u (pc n f e u q))=cv n f e u (pc n f e u q)
   rw [← h.cva,huD.1]
  have hbr:cv n f e (pc n f e u m) k=pc n f e u m:=by
   have h1:pc n f e u 1=u:=h.cv1r (hDs u huD)
   rw [hq,h.pc_add,h1,h.cva,huD.2]
  obtain ⟨r1,r11,r12,r13⟩:=h.rank F hid
  have hk' : cv n f e (fun x=>k x + (-1) * pc n f e u m x) (fun x=>k x + (-1) * pc n f e u m x)=fun x=>k x + (-1) * pc n f e u m x:=by
   rw [cv_addl k (fun x=>(-1) * pc n f e u m x),cv_smull,cv_addr k k,cv_addr _ k,cv_smulr,cv_smulr,kk,hbl,hbr,hid]
   funext x; grind
  obtain ⟨r2,r21,r22,r23⟩:=h.rank F hk'
  have hle:=hmin r1 ⟨_,hDW _ ⟨hbl,hbr⟩,hid,hnn m,r11,r12⟩
  have hsum:r1 + r2=r:=R.cinj (p:=p) (by omega) (by omega) (by
   rw [← kr,Semiring.natCast_add,← r12,← r22]; grind)
  have hz0:=r23 (by omega)
  have hku:pc n f e u m=k:=by
   funext x
   have:=congrFun hz0 x
   grind
  refine ⟨cv n f e z (cv n f e (pc n f e u q) k),⟨by rw [← h.cva,hzD.1],by rw [h.cva,h.cva,kk]⟩,?_⟩
  rw [← h.cva,← hu,← h.cva]
  have:cv n f e u (pc n f e u q)=k:=by rw [← hku,hq]; rfl
  rw [this,kk]
 have hC:∀ (a:Nat→K) {g x:Nat},g < n→x < n→cv n f e (dl K g) (cv n f e a (dl K (iv n f e g))) x=a (cjg n f e g x):=fun a g x hg hx=>by
  rw [h.cvdl _ hg hx,h.cvdr a (G.iv_lt hg) (G.cl _ _ (G.iv_lt hg) hx),G.iv_iv hg]; rfl
 have hS:∀ a,WT n f e t a→∀ x,sm (fun g=>cv n f e k (cv n f e (cv n f e (dl K g) (cv n f e a (dl K (iv n f e g)))) k) x) n=(n:K) * a e * s * k x:=fun a ha x=>by
  have e1:(fun x=>sm (fun g=>cv n f e k (cv n f e (cv n f e (dl K g) (cv n f e a (dl K (iv n f e g)))) k) x) n)=cv n f e k (cv n f e (fun x=>sm (fun g=>cv n f e (dl K g) (cv n f e a (dl K (iv n f e g))) x) n) k):=by
   rw [cv_sml,cv_smr]
  have e2:cv n f e (fun x=>sm (fun g=>cv n f e (dl K g) (cv n f e a (dl K (iv n f e g))) x) n) k=cv n f e (fun x=>(n:K) * a e * t x) k:=cv_congr h (fun x hx=>by
   rw [sm_congr fun g hg=>hC a hg hx,h.wt_cj F ht (by rw [← hsd]; exact hs) ha hx]) fun _ _=>rfl
  have e3:=congrFun e1 x
  rw [e2,cv_smull,h.cvT ht.cl,(hW.1 kW).2,cv_smulr,cv_smulr,kk] at e3
  have e4:sm (fun g=>cv n f e k (cv n f e (cv n f e (dl K g) (cv n f e a (dl K (iv n f e g)))) k) x) n=(n:K) * a e * (s * k x):=e3
  rw [e4]; grind
 have hcen:∀ z,D z→(∀ w,D w→cv n f e z w=cv n f e w z)→∃ a:K,z=fun x=>a * k x:=fun z hz hcz=>by
  have e1:∀ g,g < n→cv n f e k (cv n f e (cv n f e (dl K g) (cv n f e z (dl K (iv n f e g)))) k)=cv n f e z (cv n f e k (cv n f e (cv n f e (dl K g) (cv n f e k (dl K (iv n f e g)))) k)):=fun g hg=>by
   have hA:=hDw (dl K g)
   have h1:=hcz _ hA
   have e2:cv n f e k (cv n f e (cv n f e (dl K g) (cv n f e z (dl K (iv n f e g)))) k)=cv n f e (cv n f e (cv n f e k (cv n f e (dl K g) k)) z) (cv n f e (dl K (iv n f e g)) k):=by
    simp only [h.cva]
    rw [← h.cva k z,hz.1]
   have e3:cv n f e z (cv n f e k (cv n f e (cv n f e (dl K g) (cv n f e k (dl K (iv n f e g)))) k))=cv n f e (cv n f e z (cv n f e k (cv n f e (dl K g) k))) (cv n f e (dl K (iv n f e g)) k):=by
    simp only [h.cva]
   rw [e2,e3,h1]
  obtain ⟨ki,hki⟩:=F.1 _ hke
  refine ⟨z e * ki,funext fun x=>?_⟩
  have h1:=hS z (hDW z hz) x
  rw [sm_congr fun g hg=>congrFun (e1 g hg) x] at h1
  have e4:(fun x=>sm (fun g=>cv n f e z (cv n f e k (cv n f e (cv n f e (dl K g) (cv n f e k (dl K (iv n f e g)))) k)) x) n)=cv n f e z (fun x=>(n:K) * k e * s * k x):=by
   rw [← cv_smr]
   congr 1
   funext y
   exact hS k kW y
  have e5:=congrFun e4 x
  rw [cv_smulr,hz.2] at e5
  have e6:sm (fun g=>cv n f e z (cv n f e k (cv n f e (cv n f e (dl K g) (cv n f e k (dl K (iv n f e g)))) k)) x) n=(n:K) * k e * s * z x:=e5
  rw [e6] at h1
  obtain ⟨ni,hni⟩:=F.1 _ hn0
  grind
 have hall:=h.wedd R hsur hw hDl hDs hDc hDk k0 (fun a ha=>ha.1) (fun a ha=>ha.2) hinv hcen
 have t1:sm (fun x=>cv n f e k (cv n f e (dl K x) k) x) n=1:=by
  have e1:∀ x,x < n→k e * cv n f e k (cv n f e (dl K x) k) x=k (iv n f e x) * k x:=fun x hx=>by
   obtain ⟨a,ha⟩:=hall _ (hDw (dl K x))
   have h1:=congrFun ha e
   rw [h.cve,h.cva,kk,h.cvdl k hx G.el,G.one_r _ (G.iv_lt hx)] at h1
   rw [ha]
   show k e * (a * k x)=_
   rw [h1]; grind
  have e2:k e * sm (fun x=>cv n f e k (cv n f e (dl K x) k) x) n=k e:=by
   rw [← sm_mul,sm_congr e1]
   have e3:=congrFun kk e
   rw [cv_at _ _ G.el] at e3
   rw [← e3]
   exact sm_congr fun x hx=>by rw [G.one_r _ (G.iv_lt hx)]; grind
  obtain ⟨ki,hki⟩:=F.1 _ hke
  grind
 have t2:sm (fun x=>cv n f e k (cv n f e (dl K x) k) x) n=(n:K) * k e * (s * k e):=by
  have e1:∀ x,x < n→cv n f e k (cv n f e (dl K x) k) x=sm (fun y=>k y * k (cjg n f e x (iv n f e y))) n:=fun x hx=>by
   rw [cv_at _ _ hx]
   refine sm_congr fun y hy=>?_
   rw [h.cvdl k hx (G.cl _ _ (G.iv_lt hy) hx)]
   unfold cjg
   rw [G.assoc _ _ _ (G.iv_lt hx) (G.iv_lt hy) hx]
  rw [sm_congr e1,sm_comm]
  have e2:∀ y,y < n→sm (fun x=>k y * k (cjg n f e x (iv n f e y))) n=(n:K) * k e * (k y * t (f (iv n f e y) e)):=fun y hy=>by
   rw [sm_mul,h.wt_cj F ht (by rw [← hsd]; exact hs) kW (G.iv_lt hy),G.one_r _ (G.iv_lt hy)]
   grind
  rw [sm_congr e2,sm_mul,← cv_at k t G.el,(hW.1 kW).2]
 refine ⟨r,k,kW,kk,kr,by omega,rn,?_,fun w=>hall _ (hDw w)⟩
 rw [t1] at t2
 rw [← hsd,← kr]
 grind
theorem GC.degree (h:GC n f e c cI xx) (R:Rp K p) (hsur:∀ a:K,∃ x:Nat,x < p∧(x:K)=a) (hw:∀ d,2≤d→d≤n→Wed p d) (h2n:2 * n < p) (hn0:(n:K) ≠ 0)
  (hcz:∀ a:Nat,0 < a→a < p→(a:K) ≠ 0) (hpw:∀ a,a < n→pw f e a p=a) {t:Nat→K} (ht:Chr n f e cI t) (hs:prT n f e t t e ≠ 0) :
  ∃ v:Nat,1≤v∧v≤n∧prT n f e t t e * ((v:K) * v)=(n:K):=by
 obtain ⟨v,k,hk⟩:=h.prim R hsur hw h2n hn0 hcz hpw ht hs
 exact ⟨v,hk.ge,hk.le,hk.sq⟩
end
end Go.Proofs.YtjlmpmidchddjaaDoor

namespace Go.Proofs.YtjlmpmidchddjaaDoor
open Lean.Grind
attribute [local instance] Lean.Grind.Semiring.natCast Lean.Grind.Ring.intCast
section
variable {n e c:Nat} {f:Nat→Nat→Nat} {cI xx:Nat→Nat} {K:Type} [CommRing K] {p:Nat}
theorem WT.mul (h:GC n f e c cI xx) {t a:Nat→K} (b:Nat→K) (ha:WT n f e t a):WT n f e t (cv n f e b a):=
 ⟨cv_sup _ _,by rw [h.cva,ha.2,cv_smulr]⟩
theorem WT.add {t a b:Nat→K} (ha:WT n f e t a) (hb:WT n f e t b):WT n f e t fun x=>a x + b x:=
 ⟨ha.1.add hb.1,by rw [cv_addl,ha.2,hb.2]; funext x; grind⟩
theorem WT.smul {t a:Nat→K} (k:K) (ha:WT n f e t a):WT n f e t fun x=>k * a x:=
 ⟨ha.1.smul k,by rw [cv_smull,ha.2]; funext x; grind⟩
def eps (n:Nat) (si:K) (t:Nat→K) (x:Nat):K:=if x < n then si * t x else 0
theorem eps_sup (si:K) (t:Nat→K):Sup n (eps n si t):=fun x hx=>if_neg (by omega)
theorem eps_at (si:K) (t:Nat→K) {x:Nat} (hx:x < n):eps n si t x=si * t x:=if_pos hx
theorem GC.cvt (h:GC n f e c cI xx) (F:Fld K) (hn0:(n:K) ≠ 0) {t:Nat→K} (ht:Chr n f e cI t) {x:Nat} (hx:x < n):cv n f e t t x=prT n f e t t e * t x:=by
 rw [cv_at _ _ hx,← h.prT2 t t hx,h.self F hn0 ht hx]
theorem GC.epsW (h:GC n f e c cI xx) (F:Fld K) (hn0:(n:K) ≠ 0) {t:Nat→K} (ht:Chr n f e cI t) {si:K} (hsi:prT n f e t t e * si=1) :
  WT n f e t (eps n si t)∧cv n f e (eps n si t) (eps n si t)=eps n si t∧eps n si t e=si∧∀ a,Sup n a→(WT n f e t a↔cv n f e a (eps n si t)=a):=by
 have G:=h.G
 have hW:WT n f e t (eps n si t):=⟨eps_sup _ _,by
  rw [cv_congr h (a':=fun x=>si * t x) (fun x hx=>eps_at si t hx) (b':=t) fun _ _=>rfl,cv_smull]
  funext x
  by_cases hx:x < n
  ·rw [h.cvt F hn0 ht hx,eps_at _ _ hx]; grind
  rw [cv_sup t t x (by omega),eps_sup _ _ x (by omega)]; grind⟩
 have hr:∀ a,cv n f e a (eps n si t)=fun x=>si * cv n f e a t x:=fun a=>by
  rw [cv_congr h (a:=a) (a':=a) (fun _ _=>rfl) (b':=fun x=>si * t x) fun x hx=>eps_at si t hx,cv_smulr]
 refine ⟨hW,?_,by rw [eps_at _ _ G.el,ht.one]; grind,fun a ha=>⟨fun hw=>?_,fun hw=>⟨ha,?_⟩⟩⟩
 ·rw [hr,hW.2]; funext x; grind
 ·rw [hr,hw.2]; funext x; grind
 have h1:=hr a
 rw [hw] at h1
 funext x
 rw [congrFun h1 x]; grind
theorem GC.split1 (h:GC n f e c cI xx) (F:Fld K) (hn0:(n:K) ≠ 0) {t k:Nat→K} {v:Nat} (ht:Chr n f e cI t) (hs:prT n f e t t e ≠ 0) (hk:Prm n f e t k v) (hke:k e ≠ 0) {u:Nat→K} (hu:WT n f e t u) (huu:cv n f e u u=u) (hu0:u ≠ fun _=>0) :
  ∃ j,WT n f e t j∧cv n f e j j=j∧cv n f e u j=j∧cv n f e j u=j∧j e=k e:=by
 have G:=h.G
 have h1:∃ g,g < n∧cv n f e u (cv n f e (dl K g) k) ≠ fun _=>0:=Classical.byContradiction fun hno=>by
  have hz:∀ g,g < n→cv n f e u (cv n f e (dl K g) k)=fun _=>0:=fun g hg=>Classical.byContradiction fun hc=>hno ⟨g,hg,hc⟩
  have e2:cv n f e u (fun x=>sm (fun g=>cv n f e (dl K g) (cv n f e k (dl K (iv n f e g))) x) n)=fun x=>0:=by
   rw [cv_smr]
   funext x
   refine sm_zero fun g hg=>?_
   rw [← h.cva (dl K g) k,← h.cva u,hz g hg,cv_0l]
  have e3:cv n f e u (fun x=>sm (fun g=>cv n f e (dl K g) (cv n f e k (dl K (iv n f e g))) x) n)=cv n f e u (fun x=>(n:K) * k e * t x):=cv_congr h (fun _ _=>rfl) fun x hx=>by
   rw [← h.wt_cj F ht hs hk.W hx]
   refine sm_congr fun g hg=>?_
   rw [h.cvdl _ hg hx,h.cvdr k (G.iv_lt hg) (G.cl _ _ (G.iv_lt hg) hx),G.iv_iv hg]; rfl
  rw [e3,cv_smulr,hu.2] at e2
  refine hu0 (funext fun x=>?_)
  have h2:=congrFun e2 x
  obtain ⟨ni,hni⟩:=F.1 _ hn0
  obtain ⟨ki,hki⟩:=F.1 _ hke
  obtain ⟨si,hsi⟩:=F.1 _ hs
  have h3:(n:K) * k e * (prT n f e t t e * u x)=0:=h2
  grind
 obtain ⟨g,hg,hz0⟩:=h1
 obtain ⟨z,hz⟩:∃ z,z=cv n f e u (cv n f e (dl K g) k):=⟨_,rfl⟩
 rw [← hz] at hz0
 have zk:cv n f e z k=z:=by rw [hz,h.cva,h.cva,hk.id]
 have uz:cv n f e u z=z:=by rw [hz,← h.cva,huu]
 have zs:Sup n z:=by rw [hz]; exact cv_sup _ _
 obtain ⟨g0,hg0,hzg⟩:∃ g0,g0 < n∧z g0 ≠ 0:=Classical.byContradiction fun hno=>hz0 (zs.ext Sup.zero fun g hg=>Classical.byContradiction fun hc=>hno ⟨g,hg,hc⟩)
 obtain ⟨y,hy⟩:∃ y,y=dl K (iv n f e g0):=⟨_,rfl⟩
 have yz:cv n f e y z e=z g0:=by rw [hy,h.cvdl z (G.iv_lt hg0) G.el,G.iv_iv hg0,G.one_r _ hg0]
 obtain ⟨a,ha⟩:=hk.one (cv n f e y z)
 have ha' : cv n f e k (cv n f e y z)=fun x=>a * k x:=by rw [← ha,h.cva y,zk]
 have hae:a * k e=z g0:=by
  have:=congrFun ha' e
  rw [h.cve,h.cva,zk,yz] at this
  exact this.symm
 have ha0:a ≠ 0:=fun h0=>hzg (by rw [← hae,h0]; grind)
 obtain ⟨b,hb⟩:=F.1 _ ha0
 refine ⟨fun x=>b * cv n f e z (cv n f e y u) x,(hu.mul h y |>.mul h z).smul b,?_,?_,?_,?_⟩
 ·rw [cv_smull,cv_smulr]
  have e1:cv n f e (cv n f e z (cv n f e y u)) (cv n f e z (cv n f e y u))=fun x=>a * cv n f e z (cv n f e y u) x:=by
   have e2:cv n f e (cv n f e z (cv n f e y u)) (cv n f e z (cv n f e y u))=cv n f e (cv n f e z (cv n f e k (cv n f e y z))) (cv n f e y u):=by
    rw [← h.cva z k,zk]
    simp only [h.cva]
    rw [← h.cva u z,uz]
   rw [e2,ha',cv_smulr,cv_smull,zk]
  rw [e1]
  funext x; grind
 ·rw [cv_smulr,← h.cva,uz]
 ·rw [cv_smull,h.cva,h.cva,huu]
 show b * cv n f e z (cv n f e y u) e=k e
 rw [h.cve,h.cva,uz,yz,← hae]
 grind
theorem Prm.ne (R:Rp K p) {t k:Nat→K} {v:Nat} (h2n:2 * n < p) (hk:Prm n f e t k v):k e ≠ 0∧(v:K) ≠ 0:=by
 have hv:(v:K) ≠ 0:=fun h0=>by
  have:=R.cinj (p:=p) (a:=v) (b:=0) (by have:=hk.le; omega) (by have:=R.two; omega) (by rw [h0]; grind)
  have:=hk.ge; omega
 exact ⟨fun h0=>hv (by rw [← hk.rk,h0]; grind),hv⟩
theorem GC.mult (h:GC n f e c cI xx) (R:Rp K p) (h2n:2 * n < p) (hn0:(n:K) ≠ 0) {t k:Nat→K} {v:Nat} (ht:Chr n f e cI t) (hs:prT n f e t t e ≠ 0) (hk:Prm n f e t k v) :
  ∀ r,r≤n→∀ u,WT n f e t u→cv n f e u u=u→(n:K) * u e=(r:K)→v ∣ r:=by
 intro r
 induction r using Nat.strongRecOn with
 | ind r ih =>
  intro hr u hu huu hur
  obtain ⟨hke,hv0⟩:=hk.ne R h2n
  by_cases hu0:u=fun _=>0
  ·have:r=0:=R.cinj (p:=p) (by omega) (by have:=R.two; omega) (by rw [← hur,hu0]; grind)
   rw [this]; exact Nat.dvd_zero v
  obtain ⟨j,j1,j2,j3,j4,j5⟩:=h.split1 R.fld hn0 ht hs hk hke hu huu hu0
  have hd:WT n f e t fun x=>u x + (-1) * j x:=hu.add (j1.smul _)
  have hdd:cv n f e (fun x=>u x + (-1) * j x) (fun x=>u x + (-1) * j x)=fun x=>u x + (-1) * j x:=by
   rw [cv_addl u (fun x=>(-1) * j x),cv_smull,cv_addr u u,cv_addr j u,cv_smulr,cv_smulr,huu,j2,j3,j4]
   funext x; grind
  obtain ⟨r2,a1,a2,_⟩:=h.rank R.fld hdd
  have hv:=hk.le
  have e1:r2 + v=r:=R.cinj (p:=p) (by omega) (by omega) (by
   rw [Semiring.natCast_add,← a2,← hk.rk,← hur,← j5]; grind)
  have:=ih r2 (by have:=hk.ge; omega) (by omega) _ hd hdd a2
  rw [← e1]
  exact Nat.dvd_add this (Nat.dvd_refl v)
theorem GC.sqv (h:GC n f e c cI xx) (R:Rp K p) (h2n:2 * n < p) (hn0:(n:K) ≠ 0) {t k:Nat→K} {v:Nat} (ht:Chr n f e cI t) (hs:prT n f e t t e ≠ 0) (hk:Prm n f e t k v):v * v≤n:=by
 have F:=R.fld
 obtain ⟨si,hsi⟩:=F.1 _ hs
 obtain ⟨w1,w2,w3,_⟩:=h.epsW F hn0 ht hsi
 obtain ⟨r,r1,r2,_⟩:=h.rank F w2
 obtain ⟨q,hq⟩:=h.mult R h2n hn0 ht hs hk r r1 _ w1 w2 r2
 obtain ⟨_,hv0⟩:=hk.ne R h2n
 have hv:=hk.le
 have hqn:q≤n:=Nat.le_trans (by rw [hq]; exact Nat.le_mul_of_pos_left q hk.ge) r1
 have:q=v:=R.cinj (p:=p) (by omega) (by omega) (by
  have e1:(r:K)=(v:K) * (q:K):=by rw [hq,Semiring.natCast_mul]
  rw [w3] at r2
  have e2:=hk.sq
  obtain ⟨vi,hvi⟩:=F.1 _ hv0
  have e3:(n:K) * si=(v:K) * v:=by rw [← e2]; grind
  have e4:(v:K) * (q:K)=(v:K) * (v:K):=by rw [← e1,← r2,e3]
  grind)
 rw [hq,this] at r1
 exact r1
def sn (g:Nat→Nat):Nat→Nat
 | 0=>0
 | i + 1=>sn g i + g i
theorem sn_K (g:Nat→Nat):∀ i,((sn g i:Nat):K)=sm (fun q=>((g q:Nat):K)) i
 | 0=>Semiring.natCast_zero
 | i + 1=>by show ((sn g i + g i:Nat):K)=_; rw [Semiring.natCast_add,sn_K g i]; rfl
theorem GC.eps_ort (h:GC n f e c cI xx) (F:Fld K) (hn0:(n:K) ≠ 0) {t t' : Nat→K} (ht:Chr n f e cI t) (ht' : Chr n f e cI t') (hs:prT n f e t t e ≠ 0) (hz:prT n f e t t' e=0) (si si' : K):cv n f e (eps n si t) (eps n si' t')=fun _=>0:=by
 have:∃ a,a < n∧t a ≠ t' a:=Classical.byContradiction fun hno=>by
  have he:∀ a,a < n→t a=t' a:=fun a ha=>Classical.byContradiction fun hc=>hno ⟨a,ha,hc⟩
  refine hs ?_
  rw [← hz]
  exact sm_congr fun z hz=>by rw [he _ (h.G.iv_lt hz)]
 obtain ⟨a,ha,hne⟩:=this
 rw [cv_congr h (a':=fun x=>si * t x) (fun x hx=>eps_at si t hx) (b':=fun x=>si' * t' x) fun x hx=>eps_at si' t' hx,cv_smull,cv_smulr]
 funext x
 show si * (si' * cv n f e t t' x)=0
 by_cases hx:x < n
 ·rw [cv_at _ _ hx,← h.prT2 t t' hx,h.orth F hn0 ht ht' ha hne hx]; grind
 rw [cv_sup t t' x (by omega)]; grind
theorem GC.sumsq (h:GC n f e c cI xx) (R:Rp K p) (h2n:2 * n < p) (hn0:(n:K) ≠ 0) {m:Nat} {tt:Nat→Nat→K} {vv:Nat→Nat} (ht:∀ q,q < m→Chr n f e cI (tt q)) (hs:∀ q,q < m→prT n f e (tt q) (tt q) e ≠ 0) (hv:∀ q,q < m→vv q * vv q≤n∧prT n f e (tt q) (tt q) e * ((vv q:K) * vv q)=(n:K))
  (ho:∀ q q',q < m→q' < m→q ≠ q'→prT n f e (tt q) (tt q') e=0):sn (fun q=>vv q * vv q) m≤n:=by
 have F:=R.fld
 have:∀ q,∃ si:K,q < m→prT n f e (tt q) (tt q) e * si=1:=fun q=>by
  by_cases hq:q < m
  ·obtain ⟨si,h1⟩:=F.1 _ (hs q hq); exact ⟨si,fun _=>h1⟩
  exact ⟨0,fun h0=>absurd h0 hq⟩
 obtain ⟨si,hsi⟩:=Classical.axiomOfChoice this
 have key:∀ j,j≤m→cv n f e (fun x=>sm (fun q=>eps n (si q) (tt q) x) j) (fun x=>sm (fun q=>eps n (si q) (tt q) x) j)=(fun x=>sm (fun q=>eps n (si q) (tt q) x) j)∧sn (fun q=>vv q * vv q) j≤n∧(n:K) * sm (fun q=>eps n (si q) (tt q) e) j=(sn (fun q=>vv q * vv q) j:Nat):=by
  intro j
  induction j with
  | zero =>
   intro _
   refine ⟨?_,Nat.zero_le _,?_⟩
   ·show cv n f e (fun _=>0) (fun _=>0)=fun _=>0
    exact cv_0l _
   show (n:K) * 0=((0:Nat):K)
   rw [Semiring.natCast_zero]; grind
  | succ j ih =>
   intro hj
   obtain ⟨i1,i2,i3⟩:=ih (by omega)
   obtain ⟨w1,w2,w3,_⟩:=h.epsW F hn0 (ht j hj) (hsi j hj)
   have z1:cv n f e (fun x=>sm (fun q=>eps n (si q) (tt q) x) j) (eps n (si j) (tt j))=fun _=>0:=by
    rw [cv_sml]; funext x
    exact sm_zero fun q hq=>by rw [h.eps_ort F hn0 (ht q (by omega)) (ht j hj) (hs q (by omega)) (ho q j (by omega) hj (by omega))]
   have z2:cv n f e (eps n (si j) (tt j)) (fun x=>sm (fun q=>eps n (si q) (tt q) x) j)=fun _=>0:=by
    rw [cv_smr]; funext x
    exact sm_zero fun q hq=>by rw [h.eps_ort F hn0 (ht j hj) (ht q (by omega)) (hs j hj) (ho j q hj (by omega) (by omega))]
   have hid:cv n f e (fun x=>sm (fun q=>eps n (si q) (tt q) x) (j + 1)) (fun x=>sm (fun q=>eps n (si q) (tt q) x) (j + 1))=(fun x=>sm (fun q=>eps n (si q) (tt q) x) (j + 1)):=by
    show cv n f e (fun x=>sm (fun q=>eps n (si q) (tt q) x) j + eps n (si j) (tt j) x) (fun x=>sm (fun q=>eps n (si q) (tt q) x) j + eps n (si j) (tt j) x)=fun x=>sm (fun q=>eps n (si q) (tt q) x) j + eps n (si j) (tt j) x
    rw [cv_addl (fun x=>sm (fun q=>eps n (si q) (tt q) x) j),cv_addr (fun x=>sm (fun q=>eps n (si q) (tt q) x) j) (fun x=>sm (fun q=>eps n (si q) (tt q) x) j),cv_addr (eps n (si j) (tt j)) (fun x=>sm (fun q=>eps n (si q) (tt q) x) j),i1,z1,z2,w2]
    funext x; grind
   obtain ⟨r,r1,r2,_⟩:=h.rank F hid
   obtain ⟨v1,v2⟩:=hv j hj
   have e1:(n:K) * si j=((vv j * vv j:Nat):K):=by
    rw [Semiring.natCast_mul,← v2]
    have:=hsi j hj
    grind
   have e2:(n:K) * sm (fun q=>eps n (si q) (tt q) e) (j + 1)=((sn (fun q=>vv q * vv q) (j + 1):Nat):K):=by
    show (n:K) * (sm (fun q=>eps n (si q) (tt q) e) j + eps n (si j) (tt j) e)=((sn (fun q=>vv q * vv q) j + vv j * vv j:Nat):K)
    rw [Semiring.natCast_add,← i3,w3,← e1]; grind
   have e3:sn (fun q=>vv q * vv q) (j + 1)=r:=R.cinj (p:=p) (by show sn _ j + vv j * vv j < p; omega) (by omega) (by rw [← e2,← r2])
   exact ⟨hid,by omega,e2⟩
 exact (key m (Nat.le_refl _)).2.1
end
end Go.Proofs.YtjlmpmidchddjaaDoor

namespace Go.Proofs.YtjlmpmidchddjaaDoor
open Lean.Grind
attribute [local instance] Lean.Grind.Semiring.natCast Lean.Grind.Ring.intCast
theorem perm_map_ex {α β:Type} (g:α→β) {l1 l2:List β} (h:l1.Perm l2):∀ l' : List α,l2=l'.map g→∃ l'' : List α,l''.Perm l'∧l1=l''.map g:=by
 induction h with
 | nil=>intro l' h; exact ⟨l',List.Perm.refl _,h⟩
 | cons x h ih =>
  intro l' h2
  cases l' with
  | nil=>cases h2
  | cons y l' =>
   rw [List.map_cons] at h2
   injection h2 with h3 h4
   obtain ⟨l'',a,b⟩:=ih l' h4
   exact ⟨y :: l'',a.cons y,by rw [List.map_cons,h3,b]⟩
 | swap x y l =>
  intro l' h2
  match l',h2 with
  | [],h2=>cases h2
  | [z],h2=>cases h2
  | z :: w :: l',h2 =>
   simp only [List.map_cons] at h2
   injection h2 with h3 h4
   injection h4 with h4 h5
   exact ⟨w :: z :: l',List.Perm.swap z w l',by simp only [List.map_cons]; rw [h3,h4,h5]⟩
 | trans h1 h2 ih1 ih2 =>
  intro l' h
  obtain ⟨m,a,b⟩:=ih2 l' h
  obtain ⟨m',a',b'⟩:=ih1 m b
  exact ⟨m',a'.trans a,b'⟩
section
variable {n e c:Nat} {f:Nat→Nat→Nat} {cI xx:Nat→Nat} {K:Type} [CommRing K] {p:Nat}
structure AllC (K:Type) [CommRing K] (n:Nat) (f:Nat→Nat→Nat) (e c:Nat) (cI:Nat→Nat) (tt:Nat→Nat→K) (vv:Nat→Nat):Prop where
 chr:∀ i,i < c→Chr n f e cI (tt i)
 nz:∀ i,i < c→prT n f e (tt i) (tt i) e ≠ 0
 prm:∀ i,i < c→∃ k,Prm n f e (tt i) k (vv i)
 ge:∀ i,i < c→1≤vv i
 sq:∀ i,i < c→vv i * vv i≤n∧prT n f e (tt i) (tt i) e * ((vv i:K) * vv i)=(n:K)
 ort:∀ i j,i < c→j < c→i ≠ j→prT n f e (tt i) (tt j) e=0
 col:∀ a,a < n→sm (fun i=>(vv i:K) * vv i * tt i a) c=if a=e then (n:K) else 0
 sum:sn (fun i=>vv i * vv i) c=n
 all:∀ t,Chr n f e cI t→∃ i,i < c∧∀ a,a < n→t a=tt i a
end
variable {n e:Nat} {m:List Int}
theorem cl_prL (h:GT n m n e):clP m n e∈prL:=by
 have hd:=expo_dvd h n (Nat.le_refl _)
 have h1:=h.2.1.pos
 have h2:=h.2.1.big
 have a:=List.all_eq_true.1 mdIn_t n (List.mem_range.2 (by omega))
 have hE:=Nat.le_of_dvd (by omega) hd
 have b:=List.all_eq_true.1 a (expo m n e n) (List.mem_range.2 (by omega))
 simp only [Bool.or_eq_true,decide_eq_true_eq] at b
 rcases b with (b | b) | b
 ·omega
 ·exact absurd (Nat.mod_eq_zero_of_dvd hd) b
 exact List.contains_iff_mem.1 b
theorem chT_all (h:GT n m n e) [NeZero (clP m n e)]:∃ (tt:Nat→Nat→Fin (clP m n e)) (vv:Nat→Nat),AllC (Fin (clP m n e)) n (op m n) e (clN m n e) (clI m n e) tt vv ∧
  ∀ i,i < clN m n e→(∀ a,a < n→(vc ((chT m n e).getD i []) (clI m n e a):Fin (clP m n e))=(vv i:Nat) * tt i a)∧((chT m n e).getD i []).getD (clO m n e) 0=(vv i:Nat):=by
 obtain ⟨P,p1,p2⟩:=cl_P h
 have hp3:=P.three
 have H:=gt2_of h
 have C:=gc_of h
 have G:=h.2.2
 have R:=H.R
 have F:=R.fld
 obtain ⟨lam,Fm⟩:=H.fam
 have hSl:(clSp m n e).length=clN m n e:=Fm.len
 have hrng:(clSp m n e).map (clRw m n e)=(List.range (clN m n e)).map fun q=>clRw m n e ((clSp m n e).getD q []):=by
  refine List.ext_getElem (by simp [hSl]) fun q hq _=>?_
  simp only [List.length_map] at hq
  simp [List.getD,List.getElem?_eq_getElem hq]
 obtain ⟨L,hL,hT⟩:=perm_map_ex (fun q=>clRw m n e ((clSp m n e).getD q [])) (chT_perm m n e) _ hrng
 have hLl:L.length=clN m n e:=by rw [hL.length_eq,List.length_range]
 have hLn:L.Nodup:=hL.nodup_iff.2 List.nodup_range
 have hLm:∀ i,i < clN m n e→L.getD i 0 < clN m n e:=fun i hi=>List.mem_range.1 (hL.mem_iff.1 (mem_getD (by omega)))
 have hLi:∀ i j,i < clN m n e→j < clN m n e→L.getD i 0=L.getD j 0→i=j:=fun i j hi hj hij=>by
  refine (List.getElem_inj hLn (h₀:=by omega) (h₁:=by omega)).1 ?_
  simpa [List.getD,List.getElem?_eq_getElem (show i < L.length by omega),List.getElem?_eq_getElem (show j < L.length by omega)] using hij
 have hTg:∀ i,i < clN m n e→(chT m n e).getD i []=clRw m n e ((clSp m n e).getD (L.getD i 0) []):=fun i hi=>by
  rw [hT]; simp [List.getD,List.getElem?_map,List.getElem?_eq_getElem (show i < L.length by omega)]
 have hpr:∀ i,∃ v:Nat,i < clN m n e→∃ k,Prm n (op m n) e (clT (clI m n e) (fun i=>((ivR (clP m n e) (clS m n e i:Nat):Int):Fin (clP m n e))) (lam (L.getD i 0))) k v:=fun i=>by
  by_cases hi:i < clN m n e
  ·obtain ⟨v,hv⟩:=C.prim R (fun a=>f_sur a) (fun d d1 d2=>wed_of (cl_prL h) d1 (by have:=h.2.1.big; omega)) p1 H.nz H.cz (fun a ha=>cl_pw h ha) (Fm.chr _ (hLm i hi)) (Fm.nz _ (hLm i hi))
   exact ⟨v,fun _=>hv⟩
  exact ⟨0,fun h0=>absurd h0 hi⟩
 obtain ⟨vv,hvv⟩:=Classical.axiomOfChoice hpr
 have hsq:∀ i,i < clN m n e→vv i * vv i≤n:=fun i hi=>by
  obtain ⟨k,hk⟩:=hvv i hi
  exact C.sqv R p1 H.nz (Fm.chr _ (hLm i hi)) (Fm.nz _ (hLm i hi)) hk
 have hle:∀ i,i < clN m n e→1≤vv i∧vv i≤n:=fun i hi=>by
  obtain ⟨k,hk⟩:=hvv i hi
  exact ⟨hk.ge,hk.le⟩
 have hss:∀ i,i < clN m n e→prT n (op m n) e (clT (clI m n e) (fun i=>((ivR (clP m n e) (clS m n e i:Nat):Int):Fin (clP m n e))) (lam (L.getD i 0))) (clT (clI m n e) (fun i=>((ivR (clP m n e) (clS m n e i:Nat):Int):Fin (clP m n e))) (lam (L.getD i 0))) e * (((vv i:Nat):Fin (clP m n e)) * ((vv i:Nat):Fin (clP m n e)))=(n:Nat):=fun i hi=>by
  obtain ⟨k,hk⟩:=hvv i hi
  exact hk.sq
 have hdv:∀ i,i < clN m n e→chD (clP m n e) n (clI m n e e) (clN m n e) (clJ m n e) (clS m n e) ((clSp m n e).getD (L.getD i 0) [])=vv i:=fun i hi=>by
  have hr:=row_of h Fm (hLm i hi)
  obtain ⟨v1,v2⟩:=hle i hi
  have h1:=hr.mn (vv i) v1 (by omega) (hss i hi)
  have h2:=hr.dd
  have h3:=hss i hi
  have hz:=Fm.nz _ (hLm i hi)
  have hd1:1≤chD (clP m n e) n (clI m n e e) (clN m n e) (clJ m n e) (clS m n e) ((clSp m n e).getD (L.getD i 0) []):=by unfold chD dgR; omega
  have h0:chD (clP m n e) n (clI m n e e) (clN m n e) (clJ m n e) (clS m n e) ((spsR (clP m n e) (clTT m n e) [startR (clN m n e) (clN m n e)] (clN m n e)).getD (L.getD i 0) [])=chD (clP m n e) n (clI m n e e) (clN m n e) (clJ m n e) (clS m n e) ((clSp m n e).getD (L.getD i 0) []):=rfl
  rw [h0] at h1 h2
  generalize chD (clP m n e) n (clI m n e e) (clN m n e) (clJ m n e) (clS m n e) ((clSp m n e).getD (L.getD i 0) [])=d at *
  generalize prT n (op m n) e (clT (clI m n e) (fun i=>((ivR (clP m n e) (clS m n e i:Nat):Int):Fin (clP m n e))) (lam (L.getD i 0))) (clT (clI m n e) (fun i=>((ivR (clP m n e) (clS m n e i:Nat):Int):Fin (clP m n e))) (lam (L.getD i 0))) e=s at *
  obtain ⟨si,hsi⟩:=F.1 _ hz
  have h4:(((d:Nat):Fin (clP m n e)) - ((vv i:Nat):Fin (clP m n e))) * (((d:Nat):Fin (clP m n e)) + ((vv i:Nat):Fin (clP m n e)))=0:=by grind
  rcases F.mul h4 with h5 | h5
  ·exact R.cinj (p:=clP m n e) (by omega) (by omega) (by grind)
  exfalso
  exact f_cz (p:=clP m n e) (d + vv i) (by omega) (by omega) (by rw [Semiring.natCast_add]; exact h5)
 have hort:∀ i j,i < clN m n e→j < clN m n e→i ≠ j→prT n (op m n) e (clT (clI m n e) (fun i=>((ivR (clP m n e) (clS m n e i:Nat):Int):Fin (clP m n e))) (lam (L.getD i 0))) (clT (clI m n e) (fun i=>((ivR (clP m n e) (clS m n e i:Nat):Int):Fin (clP m n e))) (lam (L.getD j 0))) e=0:=fun i j hi hj hij=>Fm.ort _ _ (hLm i hi) (hLm j hj) fun hh=>hij (hLi i j hi hj hh)
 have hent:∀ i,i < clN m n e→∀ a,a < n→(vc ((chT m n e).getD i []) (clI m n e a):Fin (clP m n e))=(vv i:Nat) * clT (clI m n e) (fun i=>((ivR (clP m n e) (clS m n e i:Nat):Int):Fin (clP m n e))) (lam (L.getD i 0)) a:=fun i hi a ha=>by
  have hr:=row_of h Fm (hLm i hi)
  have hw:(vc (chW (clP m n e) (clO m n e) ((clSp m n e).getD (L.getD i 0) [])):Nat→Fin (clP m n e))=lam (L.getD i 0):=hr.w
  rw [hTg i hi]
  unfold clRw
  rw [rwI_K R (clI_lt h ha).1,hw]
  have hd:chD (clP m n e) n (clO m n e) (clN m n e) (clJ m n e) (clS m n e) ((clSp m n e).getD (L.getD i 0) [])=vv i:=hdv i hi
  rw [hd]
  unfold clT
  grind
 have hch:∀ i,i < clN m n e→Chr n (op m n) e (clI m n e) (clT (clI m n e) (fun i=>((ivR (clP m n e) (clS m n e i:Nat):Int):Fin (clP m n e))) (lam (L.getD i 0))):=fun i hi=>Fm.chr _ (hLm i hi)
 have hnz:∀ i,i < clN m n e→prT n (op m n) e (clT (clI m n e) (fun i=>((ivR (clP m n e) (clS m n e i:Nat):Int):Fin (clP m n e))) (lam (L.getD i 0))) (clT (clI m n e) (fun i=>((ivR (clP m n e) (clS m n e i:Nat):Int):Fin (clP m n e))) (lam (L.getD i 0))) e ≠ 0:=fun i hi=>Fm.nz _ (hLm i hi)
 have hcol:∀ a,a < n→sm (fun i=>((vv i:Nat):Fin (clP m n e)) * ((vv i:Nat):Fin (clP m n e)) * clT (clI m n e) (fun i=>((ivR (clP m n e) (clS m n e i:Nat):Int):Fin (clP m n e))) (lam (L.getD i 0)) a) (clN m n e)=if a=e then ((n:Nat):Fin (clP m n e)) else 0:=fun a ha=>by
  obtain ⟨t1,t2,t3,t4,t5⟩:=chT_ort h
  have hal:=(clI_lt h ha).1
  have hol:=(clI_lt h G.el).1
  have h5:=t5 (clI m n e e) (clI m n e a) hol hal
  rw [sumL_sm,t3] at h5
  have hOx:clX m n e (clI m n e e)=e:=by
   have hx:=C.xl _ hol
   exact C.cIe hx (C.cx _ hol)
  have hJO:clJ m n e (clI m n e e)=clI m n e e:=by
   unfold clJ
   rw [hOx,G.iv_one]
  rw [hJO] at h5
  have e1:sm (fun i=>(vc ((chT m n e).getD i []) (clI m n e a):Fin (clP m n e)) * vc ((chT m n e).getD i []) (clI m n e e)) (clN m n e)=sm (fun i=>((vv i:Nat):Fin (clP m n e)) * ((vv i:Nat):Fin (clP m n e)) * clT (clI m n e) (fun i=>((ivR (clP m n e) (clS m n e i:Nat):Int):Fin (clP m n e))) (lam (L.getD i 0)) a) (clN m n e):=sm_congr fun i hi=>by
   rw [hent i hi a ha,hent i hi e G.el,(hch i hi).one]; grind
  rw [e1] at h5
  by_cases hae:a=e
  ·rw [if_pos hae]
   rw [if_pos (by rw [hae])] at h5
   have hS1:clS m n e (clI m n e a)=1:=by
    have hk:=cl_kap (K:=Fin (clP m n e)) h hol
    have hk1:kap (Fin (clP m n e)) n (clI m n e) (clI m n e e)=1:=C.sC_one G.el _ (fun g hg hge hne=>absurd (C.cIe hg hge) hne) rfl
    rw [hk1] at hk
    have:=clS_pos h hol
    rw [hae]
    refine (R.cinj (p:=clP m n e) (by omega) (by omega) ?_)
    rw [← hk,Semiring.natCast_one]
   rw [hS1] at h5
   rw [← h5]
   have:((1:Nat):Fin (clP m n e))=1:=Semiring.natCast_one
   rw [this]; grind
  rw [if_neg hae]
  rw [if_neg (fun hh=>hae (C.cIe ha hh.symm))] at h5
  have hS:=clS_pos h hal
  rcases F.mul h5 with h6 | h6
  ·exact h6
  exact absurd h6 (f_cz _ hS.1 (by omega))
 have hsum0:=C.sumsq R p1 H.nz (m:=clN m n e) (vv:=vv) hch hnz (fun i hi=>⟨hsq i hi,hss i hi⟩) hort
 refine ⟨_,vv,⟨hch,hnz,hvv,fun i hi=>(hle i hi).1,fun i hi=>⟨hsq i hi,hss i hi⟩,hort,hcol,?_,fun t ht=>?_⟩,fun i hi=>⟨hent i hi,?_⟩⟩
 ·have h1:=hcol e G.el
  rw [if_pos rfl] at h1
  refine R.cinj (p:=clP m n e) (by omega) (by omega) ?_
  rw [sn_K,← h1]
  exact sm_congr fun i hi=>by rw [(hch i hi).one,Semiring.natCast_mul]; grind
 ·refine Classical.byContradiction fun hno=>?_
  have hne:∀ i,i < clN m n e→∃ a,a < n∧t a ≠ clT (clI m n e) (fun i=>((ivR (clP m n e) (clS m n e i:Nat):Int):Fin (clP m n e))) (lam (L.getD i 0)) a:=fun i hi=>Classical.byContradiction fun hc=>hno ⟨i,hi,fun a ha=>Classical.byContradiction fun hc2=>hc ⟨a,ha,hc2⟩⟩
  have ho:∀ i,i < clN m n e→∀ b,b < n→prT n (op m n) e t (clT (clI m n e) (fun i=>((ivR (clP m n e) (clS m n e i:Nat):Int):Fin (clP m n e))) (lam (L.getD i 0))) b=0:=fun i hi b hb=>by
   obtain ⟨a,ha,h1⟩:=hne i hi
   exact C.orth F H.nz ht (hch i hi) ha h1 hb
  have h1:sm (fun w=>t w * sm (fun i=>((vv i:Nat):Fin (clP m n e)) * ((vv i:Nat):Fin (clP m n e)) * clT (clI m n e) (fun i=>((ivR (clP m n e) (clS m n e i:Nat):Int):Fin (clP m n e))) (lam (L.getD i 0)) (op m n (iv n (op m n) e w) e)) (clN m n e)) n=0:=by
   have e1:∀ w,w < n→t w * sm (fun i=>((vv i:Nat):Fin (clP m n e)) * ((vv i:Nat):Fin (clP m n e)) * clT (clI m n e) (fun i=>((ivR (clP m n e) (clS m n e i:Nat):Int):Fin (clP m n e))) (lam (L.getD i 0)) (op m n (iv n (op m n) e w) e)) (clN m n e)=sm (fun i=>((vv i:Nat):Fin (clP m n e)) * ((vv i:Nat):Fin (clP m n e)) * (t w * clT (clI m n e) (fun i=>((ivR (clP m n e) (clS m n e i:Nat):Int):Fin (clP m n e))) (lam (L.getD i 0)) (op m n (iv n (op m n) e w) e))) (clN m n e):=fun w hw=>by
    rw [← sm_mul]; exact sm_congr fun i hi=>by grind
   rw [sm_congr e1,sm_comm]
   refine sm_zero fun i hi=>?_
   rw [sm_mul,← C.prT2 _ _ G.el,ho i hi e G.el]; grind
  rw [sm_one (i:=e) G.el fun w hw hwe=>by
   rw [hcol _ (G.cl _ _ (G.iv_lt hw) G.el),if_neg fun hh=>hwe (by rw [G.one_r _ (G.iv_lt hw)] at hh; rw [← G.iv_iv hw,hh,G.iv_one])]; grind] at h1
  rw [G.iv_one,G.one_l e G.el,hcol e G.el,if_pos rfl,ht.one] at h1
  exact H.nz (by grind)
 have hr:(chT m n e).getD i []∈chT m n e:=mem_getD (by rw [(chT_ort h).2.2.1]; exact hi)
 have hrg:=((chT_ort h).2.2.2.1 _ hr).2
 have h1:=hent i hi e G.el
 rw [(hch i hi).one] at h1
 have:=hle i hi
 refine eqK R (hrg _) ⟨by omega,by omega⟩ ?_
 rw [R.cst]
 show (vc ((chT m n e).getD i []) (clI m n e e):Fin (clP m n e))=_
 rw [h1]; grind
end Go.Proofs.YtjlmpmidchddjaaDoor

namespace Go.Proofs.YtjlmpmidchddjaaDoor
open Lean.Grind
attribute [local instance] Lean.Grind.Semiring.natCast Lean.Grind.Ring.intCast
section
variable {n e c:Nat} {f:Nat→Nat→Nat} {cI xx:Nat→Nat} {K:Type} [CommRing K] {p:Nat}
theorem GC.cjg_mul (h:GC n f e c cI xx) {y a b:Nat} (hy:y < n) (ha:a < n) (hb:b < n):f (cjg n f e y a) (cjg n f e y b)=cjg n f e y (f a b):=by
 have G:=h.G
 have hi:=G.iv_lt hy
 unfold cjg
 rw [G.assoc _ _ _ (G.cl _ _ hi ha) hy (G.cl _ _ (G.cl _ _ hi hb) hy),← G.assoc y _ y hy (G.cl _ _ hi hb) hy,h.can2 hy hb,← G.assoc _ _ _ (G.cl _ _ hi ha) hb hy,G.assoc _ _ _ hi ha hb]
def sqS (n:Nat) (f:Nat→Nat→Nat) (t:Nat→K):K:=sm (fun g=>t (f g g)) n
theorem GC.sqs (h:GC n f e c cI xx) (F:Fld K) (hn:(n:K) ≠ 0) {t:Nat→K} (ht:Chr n f e cI t) {x:Nat} (hx:x < n):sm (fun g=>t (f (f g g) x)) n=sqS n f t * t x:=by
 have G:=h.G
 have e1:(n:K) * sm (fun g=>t (f (f g g) x)) n=(n:K) * (sqS n f t * t x):=by
  have e2:∀ y,y < n→sm (fun g=>t (f (f g g) x)) n=sm (fun g=>t (f (cjg n f e y (f g g)) x)) n:=fun y hy=>by
   rw [← h.sumC hy fun g=>t (f (f g g) x)]
   exact sm_congr fun g hg=>by rw [h.cjg_mul hy hg hg]
  rw [← sm_const,sm_congr e2,sm_comm]
  rw [sm_congr (g:=fun g=>(n:K) * (t (f g g) * t x)) fun g hg=>ht.mul _ _ (G.cl _ _ hg hg) hx,sm_mul,sm_mulr]
  rfl
 obtain ⟨ni,hni⟩:=F.1 _ hn
 grind
theorem GC.schur (h:GC n f e c cI xx) (F:Fld K) (hn:(n:K) ≠ 0) {t:Nat→K} (ht:Chr n f e cI t):sqS n f t * sqS n f t=(n:K) * prT n f e t t e∨sqS n f t=0:=by
 have G:=h.G
 have e1:sqS n f t * sqS n f t=(n:K) * sm (fun a=>t a * t a) n:=by
  have e2:∀ k,k < n→sqS n f t * t (f k k)=sm (fun g=>t (f (f g g) (f k k))) n:=fun k hk=>(h.sqs F hn ht (G.cl _ _ hk hk)).symm
  have e3:sqS n f t * sqS n f t=sm (fun k=>sm (fun g=>t (f (f g g) (f k k))) n) n:=by
   rw [← sm_congr e2,sm_mul]; rfl
  rw [e3,sm_comm]
  have e4:∀ g,g < n→sm (fun k=>t (f (f g g) (f k k))) n=sm (fun a=>t (f (cjg n f e (iv n f e g) a) a)) n:=fun g hg=>by
   have hi:=G.iv_lt hg
   rw [← h.sumL hi fun k=>t (f (f g g) (f k k))]
   refine sm_congr fun a ha=>?_
   have:f (f g g) (f (f (iv n f e g) a) (f (iv n f e g) a))=f (cjg n f e (iv n f e g) a) a:=by
    unfold cjg
    rw [G.iv_iv hg,G.assoc g g _ hg hg (G.cl _ _ (G.cl _ _ hi ha) (G.cl _ _ hi ha)),← G.assoc g (f (iv n f e g) a) _ hg (G.cl _ _ hi ha) (G.cl _ _ hi ha),h.can2 hg ha,← G.assoc a (iv n f e g) a ha hi ha,← G.assoc g (f a (iv n f e g)) a hg (G.cl _ _ ha hi) ha,← G.assoc g a _ hg ha hi]
   rw [this]
  rw [sm_congr e4,sm_comm]
  have e5:∀ a,a < n→sm (fun g=>t (f (cjg n f e (iv n f e g) a) a)) n=(n:K) * (t a * t a):=fun a ha=>by
   rw [h.sumI fun g=>t (f (cjg n f e g a) a)]
   exact ht.mul a a ha ha
  rw [sm_congr e5,sm_mul]
 rcases h.real F hn ht with hr | hr
 ·left
  rw [e1]
  congr 1
  show _=sm (fun z=>t (f e z) * t (iv n f e z)) n
  exact sm_congr fun z hz=>by rw [G.one_l z hz,← hr z hz]
 right
 have e2:sm (fun a=>t a * t a) n=0:=by
  rw [← hr]
  exact sm_congr fun z hz=>by
   show _=t (f e z) * t (iv n f e (iv n f e z))
   rw [G.one_l z hz,G.iv_iv hz]
 rw [e2] at e1
 have e3:sqS n f t * sqS n f t=0:=by rw [e1]; grind
 rcases F.mul e3 with h1 | h1<;>exact h1
theorem AllC.ind (h:GC n f e c cI xx) (F:Fld K) (hn:(n:K) ≠ 0) {tt:Nat→Nat→K} {vv:Nat→Nat} (A:AllC K n f e c cI tt vv) {ni:K} (hni:(n:K) * ni=1) {i:Nat} (hi:i < c) :
  (vv i:K) * sqS n f (tt i) * ni=0∨(vv i:K) * sqS n f (tt i) * ni=1∨(vv i:K) * sqS n f (tt i) * ni = -1:=by
 rcases h.schur F hn (A.chr i hi) with h1 | h1
 ·right
  obtain ⟨_,h2⟩:=A.sq i hi
  have e1:((vv i:K) * sqS n f (tt i) * ni - 1) * ((vv i:K) * sqS n f (tt i) * ni + 1)=0:=by
   have e2:((vv i:K) * sqS n f (tt i) * ni) * ((vv i:K) * sqS n f (tt i) * ni)=1:=by
    have e3:(vv i:K) * vv i * (sqS n f (tt i) * sqS n f (tt i))=(n:K) * n:=by rw [h1]; grind
    grind
   grind
  rcases F.mul e1 with h3 | h3
  ·left; grind
  right; grind
 left; rw [h1]; grind
theorem GC.omg (h:GC n f e c cI xx) (F:Fld K) (hn:(n:K) ≠ 0) {t:Nat→K} (ht:Chr n f e cI t) {i j:Nat} (hi:i < c) (hj:j < c) :
  sm (fun k=>gM K n f e cI xx i j k * (kap K n cI k * t (xx k))) c=kap K n cI i * t (xx i) * (kap K n cI j * t (xx j)):=by
 have e0:sm (fun k=>gM K n f e cI xx i j k * (kap K n cI k * t (xx k))) c=sm (fun k=>gM K n f e cI xx i j k * vT n c cI t k) c:=sm_congr fun k hk=>by
  rw [vT,if_pos hk,h.sCcl ht.cl hk]
 rw [e0,h.mat ht.cl hj]
 have e1:∀ x,x < n→opA n f cI i t x=kap K n cI i * t (xx i) * t x:=fun x hx=>by
  have hxi:=h.xl i hi
  have h1:=h.orb hxi fun g=>t (f g x)
  rw [ht.mul _ _ hxi hx,h.cx i hi] at h1
  obtain ⟨ni,hni⟩:=F.1 _ hn
  unfold opA
  grind
 have e2:sC n cI j (opA n f cI i t)=sC n cI j fun x=>kap K n cI i * t (xx i) * t x:=sC_congr fun g hg _=>e1 g hg
 rw [e2,sC_mul,h.sCcl ht.cl hj]
end
end Go.Proofs.YtjlmpmidchddjaaDoor

namespace Go.Proofs.YtjlmpmidchddjaaDoor
open Go.Pv
def poC (c a:Nat):Nat:=3 + a * (c + 1)
theorem poC_succ (c a:Nat):poC c (a + 1)=poC c a + 1 + c:=by unfold poC; rw [Nat.add_mul]; omega
theorem poC_mono (c:Nat) {a b:Nat} (h:a≤b):poC c a≤poC c b:=by unfold poC; have:=Nat.mul_le_mul_right (c + 1) h; omega
theorem poC_lt (c:Nat) {a b:Nat} (h:a < b):poC c a + 1 + c≤poC c b:=by rw [← poC_succ]; exact poC_mono c h
theorem poC_3 (c a:Nat):3≤poC c a:=by unfold poC; omega
def oC (c i k:Nat):List AV:=(List.range i).map (fun a=>.sl (poC c a) 0 c)++List.replicate k (.p .nil)
theorem oC_len (c i k:Nat):(oC c i k).length=i + k:=by simp [oC]
theorem oC_zero (c k:Nat):oC c 0 k=List.replicate k (.p .nil):=by simp [oC]
theorem oC_set (c i k:Nat):(oC c i (k + 1)).set i (.sl (poC c i) 0 c)=oC c (i + 1) k:=by
 unfold oC
 rw [List.set_append_right _ _ (by simp),List.length_map,List.length_range,Nat.sub_self,List.replicate_succ,List.set_cons_zero,List.range_succ,List.map_append,List.append_assoc]; rfl
theorem oC_get {c i k a:Nat} (h:a < i) (d:AV):(oC c i k).getD a d = .sl (poC c a) 0 c:=by
 unfold oC
 rw [List.getD_eq_getElem?_getD,List.getElem?_append_left (by simpa using h),List.getElem?_map,List.getElem?_range h]; rfl
theorem oC_sc {c i k L:Nat} (h:∀ a,a < i→poC c a < L):(oC c i k).all (scA L)=true:=by
 unfold oC
 rw [List.all_append,Bool.and_eq_true]
 refine ⟨List.all_eq_true.2 fun x hx=>?_,List.all_eq_true.2 fun y hy=>by rw [List.eq_of_mem_replicate hy]; rfl⟩
 obtain ⟨a,ha,rfl⟩:=List.mem_map.1 hx
 have:=h a (List.mem_range.1 ha)
 simp [scA,sc1,this]
structure HP (g cls:List AV) (c:Nat) (o:List AV) (F:Nat→Nat→Nat→Int) (H:Heap) (i:Nat):Prop where
 wf:wfH H
 len:H.length=poC c i
 b0:hget H 0 = .own g
 b1:hget H 1 = .own cls
 b2:hget H 2 = .own o
 ro:∀ a,a < i→hget H (poC c a) = .own (rwo (poC c a + 1) c c)
 en:∀ a b,a < i→b < c→hget H (poC c a + 1 + b) = .own (ol (rgz c (F a b)))
structure HQ (g cls:List AV) (c:Nat) (o:List AV) (F:Nat→Nat→Nat→Int) (H:Heap) (i j:Nat):Prop where
 wf:wfH H
 len:H.length=poC c i + 1 + j
 b0:hget H 0 = .own g
 b1:hget H 1 = .own cls
 b2:hget H 2 = .own o
 ro:∀ a,a < i→hget H (poC c a) = .own (rwo (poC c a + 1) c c)
 en:∀ a b,a < i→b < c→hget H (poC c a + 1 + b) = .own (ol (rgz c (F a b)))
 rr:hget H (poC c i) = .own (hdN (poC c i + 1) c j (c - j))
 ee:∀ b,b < j→hget H (poC c i + 1 + b) = .own (ol (rgz c (F i b)))
variable {g cls o:List AV} {c:Nat} {F:Nat→Nat→Nat→Int} {H:Heap} {i j:Nat}
theorem nilR_sc (k L:Nat):(List.replicate k (AV.p .nil)).all (scA L)=true:=List.all_eq_true.2 fun y hy=>by rw [List.eq_of_mem_replicate hy]; rfl
theorem HP.start (h:HP g cls c o F H i) {o' : List AV} (ho:o'.all (scA (poC c i + 1))=true):HQ g cls c o' F (hset (H++[.own (List.replicate c (.p .nil))]) 2 (.own o')) i 0:=by
 have h3:=poC_3 c i
 have hl:=h.len
 have hL:(H++[Blk.own (List.replicate c (.p .nil))]).length=poC c i + 1:=by simp [hl]
 have hg:∀ k,k < poC c i→k ≠ 2→hget (hset (H++[.own (List.replicate c (.p .nil))]) 2 (.own o')) k=hget H k:=fun k hk h2=>by
  rw [hset_hget,if_neg (fun e=>h2 e.1),hget_app1 (by omega)]
 refine ⟨wfH_set (wfH_app h.wf fun b hb=>?_) 2 (by rw [hL]; exact ho),by rw [hset_len,hL],by rw [hg 0 (by omega) (by omega)]; exact h.b0,by rw [hg 1 (by omega) (by omega)]; exact h.b1,?_,fun a ha=>?_,fun a b ha hb=>?_,?_,fun b hb=>by omega⟩
 ·rw [List.mem_singleton.1 hb]; exact nilR_sc _ _
 ·rw [hset_hget,if_pos ⟨rfl,by omega⟩]
 ·have:=poC_lt c ha
  have:=poC_3 c a
  rw [hg _ (by omega) (by omega)]; exact h.ro a ha
 ·have:=poC_lt c ha
  have:=poC_3 c a
  rw [hg _ (by omega) (by omega)]; exact h.en a b ha hb
 rw [hset_hget,if_neg (fun e=>by have:=e.1; omega),hget_app2 (by omega),hl,Nat.sub_self,hdN_zero]; rfl
theorem HQ.step (h:HQ g cls c o F H i j) (hj:j < c) (hF:∀ k,k < c→F i j k=0):HQ g cls c o F (hset (H++[.own (ol (List.replicate c 0))]) (poC c i) (.own (hdN (poC c i + 1) c (j + 1) (c - (j + 1))))) i (j + 1):=by
 have h3:=poC_3 c i
 have hl:=h.len
 have hL:(H++[Blk.own (ol (List.replicate c 0))]).length=poC c i + 1 + (j + 1):=by simp [hl]; omega
 have hg:∀ k,k < H.length→k ≠ poC c i→hget (hset (H++[.own (ol (List.replicate c 0))]) (poC c i) (.own (hdN (poC c i + 1) c (j + 1) (c - (j + 1))))) k=hget H k:=fun k hk h2=>by
  rw [hset_hget,if_neg (fun e=>h2 e.1),hget_app1 (by omega)]
 refine ⟨wfH_set (wfH_app h.wf fun b hb=>?_) _ (by rw [hL]; exact hdN_sc (by omega)),by rw [hset_len,hL],by rw [hg 0 (by omega) (by omega)]; exact h.b0,by rw [hg 1 (by omega) (by omega)]; exact h.b1,by rw [hg 2 (by omega) (by omega)]; exact h.b2,fun a ha=>?_,fun a b ha hb=>?_,?_,fun b hb=>?_⟩
 ·rw [List.mem_singleton.1 hb]; exact ol_sc _ _
 ·have:=poC_lt c ha
  rw [hg _ (by omega) (by omega)]; exact h.ro a ha
 ·have:=poC_lt c ha
  rw [hg _ (by omega) (by omega)]; exact h.en a b ha hb
 ·rw [hset_hget,if_pos ⟨rfl,by omega⟩]
 by_cases e:b=j
 ·rw [e,hset_hget,if_neg (fun e=>by have:=e.1; omega),hget_app2 (by omega),hl,Nat.sub_self]
  show Blk.own (ol (List.replicate c 0))=_
  congr 2
  refine List.ext_getElem (by simp [rgz]) fun k h1 h2=>?_
  have hk:k < c:=by simpa using h1
  simp [rgz,hF k hk]
 rw [hg _ (by omega) (by omega)]; exact h.ee b (by omega)
theorem HQ.end (h:HQ g cls c o F H i c):HP g cls c o F H (i + 1):=by
 refine ⟨h.wf,by rw [h.len,poC_succ],h.b0,h.b1,h.b2,fun a ha=>?_,fun a b ha hb=>?_⟩
 ·by_cases e:a=i
  ·subst e
   have:=h.rr
   rwa [Nat.sub_self,hdN_full] at this
  exact h.ro a (by omega)
 by_cases e:a=i
 ·subst e; exact h.ee b hb
 exact h.en a b (by omega) hb
theorem HP.upd (h:HP g cls c o F H i) {a b:Nat} (ha:a < i) (hb:b < c) {F' : Nat→Nat→Nat→Int} (hF:∀ x y,(x=a∧y=b)∨∀ k,k < c→F' x y k=F x y k):HP g cls c o F' (hset H (poC c a + 1 + b) (.own (ol (rgz c (F' a b))))) i:=by
 have hl:=h.len
 have ha2:=poC_lt c ha
 have ha3:=poC_3 c a
 have hg:∀ k,k ≠ poC c a + 1 + b→hget (hset H (poC c a + 1 + b) (.own (ol (rgz c (F' a b))))) k=hget H k:=fun k hk=>by
  rw [hset_hget,if_neg fun e=>hk e.1]
 refine ⟨wfH_set h.wf _ (ol_sc _ _),by rw [hset_len,hl],by rw [hg 0 (by omega)]; exact h.b0,by rw [hg 1 (by omega)]; exact h.b1,by rw [hg 2 (by omega)]; exact h.b2,fun x hx=>?_,fun x y hx hy=>?_⟩
 ·rw [hg _ fun e=>?_]
  ·exact h.ro x hx
  rcases Nat.lt_trichotomy x a with h1 | h1 | h1
  ·have:=poC_lt c h1; omega
  ·subst h1; omega
  have:=poC_lt c h1; omega
 by_cases e:x=a∧y=b
 ·rw [e.1,e.2,hset_hget,if_pos ⟨rfl,by omega⟩]
 rw [hg _ fun e2=>?_,h.en x y hx hy]
 ·rcases hF x y with h1 | h1
  ·exact absurd h1 e
  congr 2
  exact rgz_congr fun k hk=>(h1 k hk).symm
 rcases Nat.lt_trichotomy x a with h1 | h1 | h1
 ·have:=poC_lt c h1; omega
 ·subst h1; exact e ⟨rfl,by omega⟩
 have:=poC_lt c h1; omega
def cubL (c:Nat) (F:Nat→Nat→Nat→Int):List (List (List Int)):=(List.range c).map fun a=>mat c (F a)
theorem cubL_len (c:Nat) (F:Nat→Nat→Nat→Int):(cubL c F).length=c:=by simp [cubL]
theorem cubL_get {c a:Nat} (F:Nat→Nat→Nat→Int) (h:a < c):(cubL c F).getD a []=mat c (F a):=by simp [cubL,List.getD,List.getElem?_map,List.getElem?_range h]
theorem lll_one (T:List (List (List Int))):(lll T).all PV.one=true:=List.all_eq_true.2 fun x hx=>by
 obtain ⟨M,_,rfl⟩:=List.mem_map.1 hx
 rfl
section
variable {P:Program} {cd:Code} {Q:Exit→St→Prop}
theorem hk_cubX (s:St) (h:HP g cls c (oC c c 0) F s.H c):∀ k,k≤c →
  (∀ H',H'.length=s.H.length→hget H' 2 = .own (opl (lll ((cubL c F).take k))++(oC c c 0).drop k)→(∀ j,j ≠ 2→(j < 3∨poC c k≤j)→hget H' j=hget s.H j)→Holds P cd Q { s with H:=H' })→Holds P cd Q s
 | 0,_,hh=>by
  have:=hh s.H rfl (by simpa [opl,lll] using h.b2) fun j _ _=>rfl
  cases s; exact this
 | k + 1,hk,hh=>by
  refine hk_cubX s h k (by omega) fun H' h1 h2 h3=>?_
  have hkc:k < c:=by omega
  have hl:=h.len
  have p3:=poC_3 c k
  have pl:=poC_lt c hkc
  have ml:=mat_len c (F k)
  refine hk_frzX (d:=poC c k + 1) (q:=c) (M:=mat c (F k)) c { s with H:=H' } (Nat.le_refl _) (fun i hi=>?_) fun H1 a1 a2=>?_
  ·show hget H' _=_
   rw [h3 _ (by omega) (by omega),h.en k i hkc hi,mat_get hi]
  have a1' : H1.length=s.H.length:=a1.trans h1
  have a2' : ∀ j,hget H1 j=if poC c k + 1≤j∧j < poC c k + 1 + c then .fro (il ((mat c (F k)).getD (j - (poC c k + 1)) [])) else hget H' j:=a2
  have b1:hget H1 (poC c k) = .own (rwo (poC c k + 1) c c):=by
   rw [a2',if_neg (by omega),h3 _ (by omega) (by omega)]; exact h.ro k hkc
  refine hk_purX (κ:=poC c k) (d:=poC c k + 1) (s:={ s with H:=H1 }) ml mat_row c (Nat.le_refl _) (by show _ < H1.length; omega) (.inl (by omega)) b1 (fun i hi=>by
   show hget H1 _=_
   rw [a2',if_pos (by omega),Nat.add_sub_cancel_left]) fun H2 c1 c2 c3=>?_
  have c1' : H2.length=s.H.length:=c1.trans a1'
  have c2' : hget H2 (poC c k) = .own (opl (ll (mat c (F k)))):=by
   rw [c2,List.take_of_length_le (by omega),List.drop_of_length_le (by rw [rwo_len]; omega),List.append_nil]
  refine hk_freeze (s:={ s with H:=H2 }) (poC c k) c2' (opl_allP _) ?_
  have e:hget (hset H2 (poC c k) (.fro (ll (mat c (F k))))) (poC c k) = .fro (ll (mat c (F k))):=by rw [hset_hget,if_pos ⟨rfl,by omega⟩]
  have e2:hget (hset H2 (poC c k) (.fro (ll (mat c (F k))))) 2 = .own (opl (lll ((cubL c F).take k))++(oC c c 0).drop k):=by
   have c3' : hget H2 2=hget H1 2:=c3 2 (by omega)
   rw [hset_hget,if_neg (fun e=>by have:=e.1; omega),c3',a2',if_neg (by omega)]; exact h2
  have l1:(opl (lll ((cubL c F).take k))).length=k:=by rw [opl_length,lll_len,List.length_take,cubL_len]; omega
  have hj:(opl (lll ((cubL c F).take k))++(oC c c 0).drop k)[k]? = some (.sl (poC c k) 0 c):=by
   rw [List.getElem?_append_right (by omega),l1,Nat.sub_self,List.getElem?_drop]
   simp [oC,List.getElem?_map,List.getElem?_range hkc]
  have hp:peekS (hset H2 (poC c k) (.fro (ll (mat c (F k))))) (.sl (poC c k) 0 c)=some (0 + c≤(ll (mat c (F k))).length∧(((ll (mat c (F k))).drop 0).take c).all PV.one=true,.list (((ll (mat c (F k))).drop 0).take c),true):=by
   simp only [peekS,e]
  have he:((ll (mat c (F k))).drop 0).take c=ll (mat c (F k)):=by
   rw [List.drop_zero,List.take_of_length_le (by rw [ll_length]; omega)]
  rw [he] at hp
  refine hk_purec (s:={ s with H:=hset H2 (poC c k) (.fro (ll (mat c (F k)))) }) 2 k e2 hj hp ⟨by rw [ll_length]; omega,ll_one _⟩ ?_
  have e3:(opl (lll ((cubL c F).take k))++(oC c c 0).drop k).set k (.p (.list (ll (mat c (F k)))))=opl (lll ((cubL c F).take (k + 1)))++(oC c c 0).drop (k + 1):=by
   have hk2:k < (oC c c 0).length:=by rw [oC_len]; omega
   rw [List.set_append_right _ _ (by omega),l1,Nat.sub_self,List.drop_eq_getElem_cons hk2,List.set_cons_zero,List.take_succ_eq_append_getElem (show k < (cubL c F).length by rw [cubL_len]; exact hkc)]
   simp only [lll,List.map_append,opl,List.map_cons,List.map_nil,List.append_assoc,List.singleton_append]
   congr 3
   simp [cubL]
  rw [e3]
  refine hh _ ?_ ?_ fun j j1 j2=>?_
  ·rw [hset_len,hset_len,c1']
  ·rw [hset_hget,if_pos ⟨rfl,by rw [hset_len]; have:=poC_3 c c; omega⟩]
  have j3:j ≠ poC c k:=fun h=>by have:=poC_succ c k; omega
  have j4:¬ (poC c k + 1≤j∧j < poC c k + 1 + c):=fun h=>by have:=poC_succ c k; omega
  have c3' : hget H2 j=hget H1 j:=c3 j j3
  rw [hset_hget,if_neg (fun e=>j1 e.1),hset_hget,if_neg (fun e=>j3 e.1),c3',a2',if_neg j4]
  exact h3 j j1 (by have:=poC_succ c k; omega)
theorem hk_cube {s:St} (t:Nat) (h:HP g cls c (oC c c 0) F s.H c) (ht:s.get t = .sl 2 0 c)
  (hh:∀ H',Holds P cd Q { s with sl:=(t,.p (.list (lll (cubL c F)))) :: s.sl,H:=H' }):Holds P cd Q s:=by
 refine hk_cubX s h c (Nat.le_refl _) fun H' h1 h2 h3=>?_
 have h2' : hget H' 2 = .own (opl (lll (cubL c F))):=by
  rw [h2,List.take_of_length_le (by rw [cubL_len]; exact Nat.le_refl _),List.drop_of_length_le (by rw [oC_len]; omega),List.append_nil]
 refine hk_freeze (s:={ s with H:=H' }) 2 h2' (opl_allP _) ?_
 have hl:=own_lt h2'
 have e:hget (hset H' 2 (.fro (lll (cubL c F)))) 2 = .fro (lll (cubL c F)):=by rw [hset_hget,if_pos ⟨rfl,hl⟩]
 refine hk_pure t (s:={ s with H:=hset H' 2 (.fro (lll (cubL c F))) }) (p:=0 + c≤(lll (cubL c F)).length∧(((lll (cubL c F)).drop 0).take c).all PV.one=true) (pv:=.list (((lll (cubL c F)).drop 0).take c)) ?_ ?_ ?_
 ·show peekG _ (s.get t)=_
  rw [ht]
  simp only [peekG,peekS,e]
 ·rw [List.drop_zero,List.take_of_length_le (by rw [lll_len,cubL_len]; exact Nat.le_refl _)]
  exact ⟨by rw [lll_len,cubL_len]; omega,lll_one _⟩
 rw [List.drop_zero,List.take_of_length_le (by rw [lll_len,cubL_len]; exact Nat.le_refl _)]
 exact hh _
end
end Go.Proofs.YtjlmpmidchddjaaDoor

namespace Go.Pv
open Go.RowKit
section
variable {P:Program}
end
end Go.Pv

namespace Go.Pv
open Go.RowKit
theorem runs2_makeSlice {P:Program} {T:TypeId→Option TI} {s:St} (hT:∀ t ti,T t=some ti→tiOf P t=some ti) {all:Array Oper} {rest:List Oper} {K:St→List I2→Prop} {acc:List I2} {dst:Option Tmp} {ty:TypeId} {pos:String} {aft:Array Edge} {gd:Option (Nat × Bool)} {t:TypeId} {x y:Operand}
  {ti te:TI} {e:TypeId} {z:Value} {k1 k2:IntKind} {N:Nat} (ht:T t=some ti) (hk:ti.kind = .slice e) (hte:T e=some te) (hz:te.zero=[z]) (hcv:cv z = .p (.int .i64 0)) (hsz:te.size=1) (hx:s.ev x = .p (.int k1 (N:Int))) (hy:s.ev y = .p (.int k2 (N:Int)))
  (hg:guardA all s { dst:=dst,op:=.makeSlice t x y,type:=ty,pos:=pos,after:=aft,guard:=gd } = some true) (hd:dstOk s dst) (hb:(N:Int) * te.bytes≤140737488355328∧(N:Int)≤9223372036854775807)
  (h:Runs2 P all rest K (({ s with H:=s.H++[.own (ol (List.replicate N 0))] } : St).put dst (.sl s.H.length 0 N)) (acc++[⟨.nw s.H.length,.sl s.H.length 0 N,.own (ol (List.replicate N 0)),true⟩])) :
  Runs2 P all ({ dst:=dst,op:=.makeSlice t x y,type:=ty,pos:=pos,after:=aft,guard:=gd } :: rest) K s acc:=by
 obtain ⟨s',xs,hr,hK⟩:=h
 have pure:∀ (q:Nat) (hq:q < (ol (List.replicate N 0)).length),∃ v,(ol (List.replicate N (0:Int)))[q] = .p v:=fun q hq=>⟨(il (List.replicate N (0:Int)))[q]'(by simpa [ol] using hq),by simp [ol]⟩
 refine ⟨s',⟨.nw s.H.length,.sl s.H.length 0 N,.own (ol (List.replicate N 0)),true⟩ :: xs,.op hg (dstOk_spec hd) ⟨rfl,?_⟩ (fun _ c hc q hq κ=>by
  have hc:=List.mem_singleton.1 hc
  cases hc
  obtain ⟨v,e⟩:=pure q hq
  rw [e]
  exact .p _) hr,by rw [List.append_assoc] at hK; exact hK⟩
 intro s2 hn ha hdd n1 n2 n3
 have hx2:s2.ev x = .p (.int k1 (N:Int)):=by rw [← hx]; exact ha x (by simp [Op.operands])
 have hy2:s2.ev y = .p (.int k2 (N:Int)):=by rw [← hy]; exact ha y (by simp [Op.operands])
 have hm:makeSliceA T ti s2.H (s2.ev x) (s2.ev y)=some ⟨te.size=1∧0≤(N:Int)∧(N:Int)≤(N:Int)∧(N:Int) * te.bytes≤140737488355328∧(N:Int)≤9223372036854775807,.sl s2.H.length 0 N,s2.H++[.own (ol (List.replicate N 0))]⟩:=by
  rw [hx2,hy2]
  simp only [makeSliceA,hk,hte,hz,hcv,Int.toNat_natCast,ol_replicate]
 refine Does.wp fun C m a w R=>?_
 obtain ⟨v,w',m',hyi,R',hv⟩:=makeSliceA_does hT R (o:={ dst:=dst,op:=.makeSlice t x y,type:=ty,pos:=pos,after:=aft,guard:=gd }) rfl ht hm ⟨hsz,by omega,Int.le_refl _,hb⟩
 obtain ⟨g1,_,g2⟩:=Rel.move R (b:=.own (ol (List.replicate N 0))) R' hdd n3 (fun _ _ h=>by cases h) n1 n2 fun c hc i hi=>by
  cases hc
  obtain ⟨v,e⟩:=pure i hi
  rw [e]
  exact ⟨.p _,.p _⟩
 exact ⟨v,w',_,hyi,g1,g2 _ _ v hv⟩
end Go.Pv

namespace Go.Pv
open Go.RowKit
def isF:Cls→Bool
 | .f=>true
 | _=>false
def isLd:Cls→Bool
 | .ld _=>true
 | _=>false
theorem confl_f1 {c d:Cls} (h:isF c=true):confl c d=false:=by cases c<;>simp_all [isF,confl]
theorem confl_f2 {c d:Cls} (h:isF d=true):confl c d=false:=by
 cases d<;>simp [isF] at h
 cases c<;>simp [confl,Cls.tch]
theorem confl_ld {c d:Cls} (h:isLd c=true) (h2:isLd d=true):confl c d=false:=by
 cases c<;>simp [isLd] at h
 cases d<;>simp [isLd] at h2
 rfl
def draw2OKd (sp nr : Nat → Nat → Bool) (ops : Array Oper) (xs : List I2) : Bool :=
  (List.range ops.size).all fun j =>
    ((opAt ops j).after.toList.all fun e => !Region.binds .any e || e.on < j) &&
    ((List.range j).all fun i => ((anc ops).getD j 0).testBit i || ((opAt ops i).apart ops (opAt ops j) && (sp i j || isF (xs.getD i default).c || isF (xs.getD j default).c || (isLd (xs.getD i default).c && isLd (xs.getD j default).c)))) &&
    (match (xs.getD j default).c.mk with
     | some κ => (List.range ops.size).all fun i => i == j || ((anc ops).getD i 0).testBit j || nr j i
     | none => true) && (xs.getD j default).na
theorem draw2_cd {ops:Array Oper} {xs:List I2} (sp nr:Nat→Nat→Bool) (hsp:∀ i j,sp i j=true→confl (xs.getD i default).c (xs.getD j default).c=false)
  (hnr:∀ j i κ,nr j i=true→(xs.getD j default).c.mk=some κ→nrA κ (xs.getD i default).av=true∧((xs.getD i default).pu=true∨(xs.getD i default).blks.all (blkNr κ)=true)) (h:draw2OKd sp nr ops xs=true):draw2OK ops xs=true:=by
 unfold draw2OKd at h
 unfold draw2OK
 rw [List.all_eq_true] at h ⊢
 intro j hj
 have hj2:=h j hj
 simp only [Bool.and_eq_true] at hj2 ⊢
 obtain ⟨⟨⟨h1,h2⟩,h3⟩,h4⟩:=hj2
 refine ⟨⟨⟨h1,?_⟩,?_⟩,h4⟩
 ·rw [List.all_eq_true] at h2 ⊢
  intro i hi
  have:=h2 i hi
  rw [Bool.or_eq_true] at this ⊢
  rcases this with h | h
  ·exact .inr h
  left
  rw [Bool.and_eq_true] at h
  unfold apart2
  rw [Bool.and_eq_true]
  refine ⟨h.1,?_⟩
  have hc:confl (xs.getD i default).c (xs.getD j default).c=false:=by
   have h2:=h.2
   simp only [Bool.or_eq_true,Bool.and_eq_true] at h2
   rcases h2 with ((h2 | h2) | h2) | ⟨h2,h3⟩
   ·exact hsp i j h2
   ·exact confl_f1 h2
   ·exact confl_f2 h2
   exact confl_ld h2 h3
  simp only [hc,Bool.not_false]
 cases hm:(xs.getD j default).c.mk with
 | none=>trivial
 | some κ =>
  rw [hm] at h3
  simp only at h3 ⊢
  rw [List.all_eq_true] at h3 ⊢
  intro i hi
  have:=h3 i hi
  simp only [Bool.or_eq_true,Bool.and_eq_true] at this ⊢
  rcases this with (h | h) | h
  ·exact .inl (.inl h)
  ·exact .inl (.inr h)
  exact .inr (hnr j i κ h hm)
theorem hk_joinC {P:Program} {s:St} {x y:Code} {Q Q2:Exit→St→Prop} (S:St) (h1:Holds P x (fun e s'=>e = .normal∧∃ π,Le π S s') s) (h2:Thn (Holds P y Q2) Q .normal S):Holds P x (Thn (Holds P y Q2) Q) s:=by
 refine hk_mono (fun e s' h=>?_) h1
 obtain ⟨rfl,π,h⟩:=h
 exact hk_le π h h2
end Go.Pv

namespace Go.Proofs.YtjlmpmidchddjaaDoor
open Go.Pv
def pcn (m:List Int) (n e a b i j k:Nat):Nat:=if clI m n e a=i∧clI m n e b=j∧op m n a b=clX m n e k then 1 else 0
def pin (m:List Int) (n e a i j k:Nat):Nat→Nat
 | 0=>0
 | b + 1=>pin m n e a i j k b + pcn m n e a b i j k
def pou (m:List Int) (n e i j k:Nat):Nat→Nat
 | 0=>0
 | a + 1=>pou m n e i j k a + pin m n e a i j k n
theorem pin_le (m:List Int) (n e a i j k:Nat):∀ b,pin m n e a i j k b≤b
 | 0=>Nat.le_refl _
 | b + 1=>by
  have:=pin_le m n e a i j k b
  have h2:pcn m n e a b i j k≤1:=by unfold pcn; split<;>omega
  simp only [pin]; omega
theorem pou_le (m:List Int) (n e i j k:Nat):∀ a,pou m n e i j k a≤a * n
 | 0=>Nat.zero_le _
 | a + 1=>by
  have:=pou_le m n e i j k a
  have h2:=pin_le m n e a i j k n
  simp only [pou]
  rw [Nat.add_mul]; omega
def prF (m:List Int) (n e a b i j k:Nat):Int:=((pou m n e i j k a + pin m n e a i j k b:Nat):Int)
theorem prF_0 (m:List Int) (n e i j k:Nat):prF m n e 0 0 i j k=0:=rfl
theorem prF_row (m:List Int) (n e a:Nat):prF m n e a n=prF m n e (a + 1) 0:=by
 funext i j k; simp [prF,pou,pin]
theorem HP.zero (g cls:List AV) (c:Nat) (hg:∀ L,g.all (scA L)=true) (hc:∀ L,cls.all (scA L)=true) (F:Nat→Nat→Nat→Int):HP g cls c (oC c 0 c) F [.own g,.own cls,.own (List.replicate c (.p .nil))] 0:=
 ⟨fun b hb=>by
  simp only [List.mem_cons,List.not_mem_nil,or_false] at hb
  rcases hb with rfl | rfl | rfl
  ·exact hg _
  ·exact hc _
  exact nilR_sc _ _,by simp [poC],rfl,rfl,by rw [oC_zero]; rfl,fun a ha=>by omega,fun a b ha=>by omega⟩
set_option maxHeartbeats 4000000 in
set_option maxRecDepth 20000 in
theorem products_c {n e:Nat} {m:List Int} (hG:GT n m n e):FnC Tryd.prog 20 [gp n m,.list (ll (clL m n e))] (.list (lll (cubL (clN m n e) (prF m n e n 0)))):=by
 have hb60:=hG.2.1.big
 have T:=hG.2.1
 have h:=hG.2.2.cjb_eqv
 have hcn:=clN_le hG
 obtain ⟨r,hr⟩:∃ r,cjb n (op m n) e=r:=⟨_,rfl⟩
 have hLr:clL m n e=cst n r:=by rw [← hr]; rfl
 have hNr:clN m n e=(cst n r).length:=by rw [← hr]; rfl
 rw [hr] at h
 have hcl:(cst n r).length≤n:=cstp_len _ _ _
 have hwh:∀ a,a < n→(whl n r).getD a 0=(clI m n e a:Int)∧clI m n e a < clN m n e:=fun a ha=>by
  rw [whl,rgz_get ha,← hr]; exact ⟨(clI_lt hG ha).2,(clI_lt hG ha).1⟩
 have hx0:∀ k,k < clN m n e→0 < ((cst n r).getD k []).length∧((cst n r).getD k []).getD 0 0=(clX m n e k:Int):=fun k hk=>by
  obtain ⟨s1,s2,s3⟩:=clS_pos hG hk
  unfold clS at s1
  rw [hLr] at s1 s3
  exact ⟨s1,s3⟩
 have hix:∀ k,k < clN m n e→clI m n e (clX m n e k)=k:=fun k hk=>(gc_of hG).cx k hk
 rw [hLr]
 rw [hNr] at hwh hx0 hix hcn ⊢
 obtain ⟨c,hc⟩:∃ c,(cst n r).length=c:=⟨_,rfl⟩
 rw [hc] at hwh hx0 hix hcn hcl ⊢
 have hwl:(whl n r).length=n:=rgz_len _ _
 refine fnc_of tab_ok Tryd.func20 rfl (by kernel_rfl) (by rw [Tryd.ntmps20]; exact Nat.le_add_left 2 _) ?_; rw [Tryd.ntmps20]
 refine qm ?_
 refine hk_region fun K hK=>runs_eval tab_ok ?_
 simp only [evz,fl,gp,tab,simprocAttr]
 refine fin_run ?_ (hK _ ?_)<;>clear hK K
 ·(first|exact trivial|omega|(simp only [In64] at *; omega)|(simp [In64] at *; omega)|(simp_all; done)|skip)
 refine qa (qm ?_)
 refine hk_region fun K hK=>runs_eval tab_ok ?_
 simp only [evz,fl,gp,tab,simprocAttr,ll_length,hc]
 refine fin_run trivial (hK _ ?_)<;>clear hK K
 refine qa (qm ?_)
 refine hk_region fun K hK=>runs_eval tab_ok ?_
 simp only [evz,fl,gp,tab,simprocAttr,makeSliceA.eq_def,rgz_new]
 refine fin_run ?_ (hK _ ?_)<;>clear hK K
 ·omega
 refine qa (qm (qm ?_))
 refine hk_region fun K hK=>runs_eval tab_ok ?_
 simp only [evz,fl,gp,tab,simprocAttr]
 refine fin_run trivial (hK _ ?_)<;>clear hK K
 refine qa (ql ?_)
 refine hk_loop (ι:=Nat × (Nat→Int)) (fun p=>⟨118,[(1,.p (.list (ll (cst n r)))),(2,.ptr 0 0),(5,.p (.int .i64 c)),(6,.sl 1 0 n),(7,.p (.int .i64 p.1))],[.own [.p (.int .i64 n),.p (.list (il m))],.own (ol (rgz n p.2))]⟩) (fun p=>p.1≤c∧∀ a,a < n→∀ k,k < p.1→((a:Nat):Int)∈(cst n r).getD k []→p.2 a=(k:Int)) (fun p=>c - p.1) (0,fun _=>0) ⟨Nat.zero_le _,fun a _ k hk=>by simp only at hk; omega⟩ [0,1] (by simp only [leq,leA,evz,fl,gp,tab,simprocAttr,ll_length]<;>first|trivial|(simp; done)) fun p hp=>?_
 obtain ⟨i,g⟩:=p
 obtain ⟨hi1,hi2⟩:=hp
 simp only at hi1 hi2
 refine qm (qm ?_)
 refine hk_region fun K hK=>runs_eval tab_ok ?_
 simp only [evz,fl,gp,tab,simprocAttr]
 refine fin_run trivial (hK _ ?_)<;>clear hK K
 refine qa ?_
 refine hk_cond rfl (fun hC1=>?_) (fun hC1=>?_)
 ·(try simp only [nhs] at hC1)
  have hlt:i < (cst n r).length:=by omega
  obtain ⟨x,x1,x2,x3,x4⟩:=cst_get hlt
  have l1:=thl_le n (r x)
  refine qh (qa (qm (ql (qm ?_))))
  refine hk_region fun K hK=>runs_eval tab_ok ?_
  simp only [evz,fl,gp,tab,simprocAttr]
  refine fin_run trivial (hK _ ?_)<;>clear hK K
  refine qa (ql ?_)
  refine hk_loop (ι:=Nat × (Nat→Int)) (fun p=>⟨118,[(1,.p (.list (ll (cst n r)))),(2,.ptr 0 0),(5,.p (.int .i64 c)),(6,.sl 1 0 n),(7,.p (.int .i64 i)),(8,.p (.int .i64 p.1))],[.own [.p (.int .i64 n),.p (.list (il m))],.own (ol (rgz n p.2))]⟩) (fun p=>p.1≤(thl n (r x)).length∧(∀ a,a < n→∀ k,k < i→((a:Nat):Int)∈(cst n r).getD k []→p.2 a=(k:Int))∧∀ a,a < n→∀ k,k < p.1→(thl n (r x)).getD k 0=(a:Int)→p.2 a=(i:Int)) (fun p=>(thl n (r x)).length - p.1) (0,g) ⟨Nat.zero_le _,hi2,fun a _ k hk=>by simp only at hk; omega⟩ [0,1] (by simp only [leq,leA,evz,fl,gp,tab,simprocAttr]<;>first|trivial|(simp; done)) fun p hp=>?_
  obtain ⟨j,g'⟩:=p
  obtain ⟨hj1,hj2,hj3⟩:=hp
  simp only at hj1 hj2 hj3
  refine qm (qm ?_)
  refine hk_region fun K hK=>runs_eval tab_ok ?_
  simp only [evz,fl,gp,tab,simprocAttr,ll_length,ll_get hlt,x3,il_length]
  refine fin_run ?_ (hK _ ?_)<;>clear hK K
  ·omega
  refine qa ?_
  refine hk_cond rfl (fun hC2=>?_) (fun hC2=>?_)
  ·(try simp only [nhs] at hC2)
   have hjl:j < (thl n (r x)).length:=by omega
   obtain ⟨c',c1,c2,c3⟩:=thl_get hjl
   refine qh (qa (qm (ql ?_)))
   refine hk_region fun K hK=>runs_eval tab_ok ?_
   simp only [evz,fl,gp,tab,simprocAttr,ll_length,ll_get hlt,x3,il_length,il_get hjl,c3]
   refine fin_run ?_ (hK _ ?_)<;>clear hK K
   ·rw [rgz_len]; omega
   refine qd (qa ?_)
   rw [ol_set,rgz_set]
   refine hk_region fun K hK=>runs_eval tab_ok ?_
   simp only [evz,fl,gp,tab,simprocAttr]
   refine fin_run ?_ (hK _ ?_)<;>clear hK K
   ·(first|exact trivial|omega|(simp only [In64] at *; omega)|(simp [In64] at *; omega)|(simp_all; done)|skip)
   refine qa ?_
   refine ⟨(j + 1,fun a=>if a=c' then (i:Int) else g' a),[0,1],⟨by simp only; omega,fun a ha k hk hm=>?_,fun a ha k hk hm=>?_⟩,by simp only; omega,?_⟩
   ·have hne:a ≠ c':=by
     intro he
     subst he
     have h3:((a:Nat):Int)∈(cst n r).getD i []:=by rw [x3,mem_thl_n ha]; exact c2
     have:=cst_apart h hlt (by omega) ha h3 hm
     omega
    simp only [if_neg hne]
    exact hj2 a ha k hk hm
   ·simp only at hk ⊢
    by_cases hac:a=c'
    ·rw [if_pos hac]
    rw [if_neg hac]
    have hkj:k ≠ j:=by intro he; rw [he,c3] at hm; omega
    exact hj3 a ha k (by omega) hm
   simp only [leq,leA,evz,fl,gp,tab,simprocAttr]<;>first|trivial|omega|(simp [rgz]; done)
  (try simp only [nhs] at hC2)
  have hjn:j=(thl n (r x)).length:=by omega
  refine qj (qc (qc (qf (qd (qa ?_)))))
  refine hk_region fun K hK=>runs_eval tab_ok ?_
  simp only [evz,fl,gp,tab,simprocAttr]
  refine fin_run ?_ (hK _ ?_)<;>clear hK K
  ·(first|exact trivial|omega|(simp only [In64] at *; omega)|(simp [In64] at *; omega)|(simp_all; done)|skip)
  refine qa ?_
  refine ⟨(i + 1,g'),[0,1],⟨by simp only; omega,fun a ha k hk hm=>?_⟩,by simp only; omega,?_⟩
  ·by_cases hki:k=i
   ·subst hki
    rw [x3] at hm
    obtain ⟨q,q1,q2⟩:=thl_at (n:=n) (p:=r x) ha ((mem_thl_n ha).1 hm)
    exact hj3 a ha q (by omega) q2
   exact hj2 a ha k (by simp only at hk; omega) hm
  simp only [leq,leA,evz,fl,gp,tab,simprocAttr]<;>first|trivial|omega|(simp [rgz]; done)
 (try simp only [nhs] at hC1)
 have hin:i=(cst n r).length:=by omega
 have hfin:rgz n g=whl n r:=rgz_congr fun a ha=>by
  obtain ⟨k,k1,k2⟩:=cst_in h ha
  rw [hi2 a ha k (by omega) k2,wch_at h k1 ha k2]
 rw [hfin]
 have hsc:∀ L,([.p (.int .i64 n),.p (.list (il m))]:List AV).all (scA L)=true:=fun L=>rfl
 have hz:=HP.zero [.p (.int .i64 n),.p (.list (il m))] (ol (whl n r)) c hsc (fun L=>ol_sc _ _) (prF m n e 0 0)
 refine qj (qc (qc (qf (qa (qm ?_)))))
 refine hk_region fun K hK=>runs_eval tab_ok ?_
 simp only [evz,fl,gp,tab,simprocAttr,makeSliceA.eq_def]
 refine fin_run ?_ (hK _ ?_)<;>clear hK K
 ·omega
 refine qa (qm (qm ?_))
 refine hk_region fun K hK=>runs_eval tab_ok ?_
 simp only [evz,fl,gp,tab,simprocAttr]
 refine fin_run trivial (hK _ ?_)<;>clear hK K
 refine qa (ql ?_)
 refine hk_loop (ι:=Nat × Heap) (fun p=>⟨118,[(1,.p (.list (ll (cst n r)))),(2,.ptr 0 0),(5,.p (.int .i64 c)),(6,.sl 1 0 n),(9,.sl 2 0 c),(10,.p (.int .i64 p.1))],p.2⟩) (fun p=>p.1≤c∧HP [.p (.int .i64 n),.p (.list (il m))] (ol (whl n r)) c (oC c p.1 (c - p.1)) (prF m n e 0 0) p.2 p.1) (fun p=>c - p.1) (0,_) ⟨Nat.zero_le _,hz⟩ [0,1,2] (le_sameL rfl rfl rfl hz.wf (by
  simp [St.get,lk,scA,sc1]<;>omega)) fun p hp=>?_
 obtain ⟨i,H⟩:=p
 obtain ⟨hi1,hP⟩:=hp
 simp only at hi1 hP
 have hPl:=hP.len
 have hp3:=poC_3 c i
 refine qm (qm ?_)
 refine hk_region fun K hK=>runs_eval tab_ok ?_
 simp only [evz,fl,gp,tab,simprocAttr]
 refine fin_run trivial (hK _ ?_)<;>clear hK K
 refine qa ?_
 refine hk_cond rfl (fun hC3=>?_) (fun hC3=>?_)
 ·(try simp only [nhs] at hC3)
  have hic:i < c:=by omega
  have hg2:∀ y,hget (H++y) 2 = .own (oC c i (c - i)):=fun y=>by rw [hget_app1 (by omega)]; exact hP.b2
  have hset2' : (oC c i (c - i)).set i (.sl H.length 0 c)=oC c (i + 1) (c - (i + 1)):=by
   rw [hPl,show c - i=c - (i + 1) + 1 by omega,oC_set]
  have hst:=hP.start (o':=oC c (i + 1) (c - (i + 1))) (oC_sc fun a ha=>by have:=poC_mono c (show a≤i by omega); omega)
  refine qh (qa (qm (ql (qm ?_))))
  refine hk_region fun K hK=>runs_eval tab_ok ?_
  simp only [evz,fl,gp,tab,simprocAttr,makeSliceA.eq_def,hg2,oC_len,hset2']
  refine fin_run ?_ (hK _ ?_)<;>clear hK K
  ·omega
  refine qa (qm ?_)
  refine hk_region fun K hK=>runs_eval tab_ok ?_
  simp only [evz,fl,gp,tab,simprocAttr]
  refine fin_run trivial (hK _ ?_)<;>clear hK K
  refine qa (ql ?_)
  refine hk_loop (ι:=Nat × Heap) (fun p=>⟨118,[(1,.p (.list (ll (cst n r)))),(2,.ptr 0 0),(5,.p (.int .i64 c)),(6,.sl 1 0 n),(9,.sl 2 0 c),(10,.p (.int .i64 i)),(11,.p (.int .i64 p.1))],p.2⟩) (fun p=>p.1≤c∧HQ [.p (.int .i64 n),.p (.list (il m))] (ol (whl n r)) c (oC c (i + 1) (c - (i + 1))) (prF m n e 0 0) p.2 i p.1) (fun p=>c - p.1) (0,_) ⟨Nat.zero_le _,hst⟩ (List.range (poC c i + 1)) (le_sameL (by rw [hst.len]) rfl rfl hst.wf (by
   simp [St.get,lk,scA,sc1]<;>omega)) fun p hp=>?_
  obtain ⟨j,H2⟩:=p
  obtain ⟨hj1,hQ⟩:=hp
  simp only at hj1 hQ
  have hQl:=hQ.len
  refine qm (qm ?_)
  refine hk_region fun K hK=>runs_eval tab_ok ?_
  simp only [evz,fl,gp,tab,simprocAttr]
  refine fin_run trivial (hK _ ?_)<;>clear hK K
  refine qa ?_
  refine hk_cond rfl (fun hC4=>?_) (fun hC4=>?_)
  ·(try simp only [nhs] at hC4)
   have hjc:j < c:=by omega
   have hk2:hget H2 2 = .own (oC c (i + 1) (c - (i + 1))):=hQ.b2
   have hki:∀ y,hget (H2++y) (poC c i) = .own (hdN (poC c i + 1) c j (c - j)):=fun y=>by rw [hget_app1 (by omega)]; exact hQ.rr
   have hgi:=oC_get (c:=c) (i:=i + 1) (k:=c - (i + 1)) (a:=i) (by omega)
   have hsj:(hdN (poC c i + 1) c j (c - j)).set j (.sl H2.length 0 c)=hdN (poC c i + 1) c (j + 1) (c - (j + 1)):=by
    rw [show c - j=c - (j + 1) + 1 by omega,hdN_set,hQl,show poC c i + 1 + j=j + (poC c i + 1) by omega,hdN_next]
   have hst2:=hQ.step hjc fun k _=>prF_0 m n e i j k
   have hgs:hget (hset (H2++[.own (ol (List.replicate c 0))]) (poC c i) (.own (hdN (poC c i + 1) c (j + 1) (c - (j + 1))))) (poC c i) = .own (hdN (poC c i + 1) c (j + 1) (c - (j + 1))):=by
    rw [hset_hget,if_pos ⟨rfl,by simp; omega⟩]
   refine qh (qa (qm (ql ?_)))
   refine hk_draw2 mixed fun K hK=>runs2_eval tab_ok ?_
   simp only [evD,evz,fl,gp,tab,simprocAttr,hk2,hki,oC_len,hgi,hdN_len,hsj,hgs,ol_replicate]
   refine fin2_stop ?_ (runs2_makeSlice tab_ok rfl rfl rfl rfl rfl rfl rfl rfl rfl (by simp only [dstOk,Nat.reduceLT]) ?_ (runs2_eval tab_ok ?_))
   ·(first|exact trivial|omega|(simp only [In64] at *; omega)|(simp [In64] at *; omega)|(simp_all; done)|skip)
   ·(first|exact trivial|omega|(simp only [In64] at *; omega)|(simp [In64] at *; omega)|(simp_all; done)|skip)
   simp only [evD,evz,fl,gp,tab,simprocAttr,hk2,hki,oC_len,hgi,hdN_len,hsj,hgs,ol_replicate]
   refine fin2_run ?_ (hK _ _ ?_ ?_)<;>clear hK K
   ·omega
   ·refine draw2_cd (fun i j=>j == 6 && i == 3) (fun j i=>j == 6 && Nat.ble i 5) (fun i j h=>?_) (fun j i κ h hm=>?_) (by kernel_rfl)
    ·simp only [Bool.and_eq_true,beq_iff_eq] at h
     obtain ⟨rfl,rfl⟩:=h
     show (H2.length == 2)=false
     exact beq_false_of_ne (by omega)
    simp only [Bool.and_eq_true,beq_iff_eq] at h
    obtain ⟨rfl,h⟩:=h
    have hi:=Nat.le_of_ble_eq_true h
    have hκ:H2.length=κ:=by injection hm
    refine ⟨?_,.inr ?_⟩
    ·have:i=0∨i=1∨i=2∨i=3∨i=4∨i=5:=by omega
     rcases this with rfl | rfl | rfl | rfl | rfl | rfl<;>simp [nrA,nr1,List.getD]<;>omega
    have:i=0∨i=1∨i=2∨i=3∨i=4∨i=5:=by omega
    rcases this with rfl | rfl | rfl | rfl | rfl | rfl<;>rfl
   refine qd (qa ?_)
   refine hk_region fun K hK=>runs_eval tab_ok ?_
   simp only [evz,fl,gp,tab,simprocAttr]
   refine fin_run ?_ (hK _ ?_)<;>clear hK K
   ·(first|exact trivial|omega|(simp only [In64] at *; omega)|(simp [In64] at *; omega)|(simp_all; done)|skip)
   refine qa ?_
   refine ⟨(j + 1,_),List.range (poC c i + 1 + (j + 1)),⟨by simp only; omega,hst2⟩,by simp only; omega,le_sameL (by rw [hst2.len]) rfl rfl hst2.wf (by
    simp [St.get,lk,scA,sc1]<;>omega)⟩
  (try simp only [nhs] at hC4)
  have hjc:j=c:=by omega
  subst hjc
  have hend:=hQ.end
  refine qj (qc (qc (qf (qd (qa ?_)))))
  refine hk_region fun K hK=>runs_eval tab_ok ?_
  simp only [evz,fl,gp,tab,simprocAttr]
  refine fin_run ?_ (hK _ ?_)<;>clear hK K
  ·(first|exact trivial|omega|(simp only [In64] at *; omega)|(simp [In64] at *; omega)|(simp_all; done)|skip)
  refine qa ?_
  refine ⟨(i + 1,H2),List.range H2.length,⟨by simp only; omega,hend⟩,by simp only; omega,le_sameL rfl rfl rfl hend.wf (by
   simp [St.get,lk,scA,sc1]<;>omega)⟩
 (try simp only [nhs] at hC3)
 have hic:i=c:=by omega
 subst hic
 rw [Nat.sub_self] at hP
 refine qj (qc (qc (qf (qa (qm (qm ?_))))))
 refine hk_region fun K hK=>runs_eval tab_ok ?_
 simp only [evz,fl,gp,tab,simprocAttr]
 refine fin_run trivial (hK _ ?_)<;>clear hK K
 refine qa (ql ?_)
 refine hk_loop (ι:=Nat × Heap) (fun p=>⟨118,[(1,.p (.list (ll (cst n r)))),(2,.ptr 0 0),(6,.sl 1 0 n),(9,.sl 2 0 i),(12,.p (.int .i64 p.1))],p.2⟩) (fun p=>p.1≤n∧HP [.p (.int .i64 n),.p (.list (il m))] (ol (whl n r)) i (oC i i 0) (prF m n e p.1 0) p.2 i) (fun p=>n - p.1) (0,H) ⟨Nat.zero_le _,hP⟩ (List.range H.length) (le_sameL rfl rfl rfl hP.wf (by
  simp [St.get,lk,scA,sc1]<;>omega)) fun p hp=>?_
 obtain ⟨a,H3⟩:=p
 obtain ⟨ha1,hP3⟩:=hp
 simp only at ha1 hP3
 have hPl3:=hP3.len
 have hp33:=poC_3 i i
 have hb0:=hP3.b0
 refine qm (qm ?_)
 refine hk_region fun K hK=>runs_eval tab_ok ?_
 simp only [evz,fl,gp,tab,simprocAttr,hb0]
 refine fin_run ?_ (hK _ ?_)<;>clear hK K
 ·(first|exact trivial|omega|(simp only [In64] at *; omega)|(simp [In64] at *; omega)|(simp_all; done)|skip)
 refine qa ?_
 refine hk_cond rfl (fun hC5=>?_) (fun hC5=>?_)
 ·(try simp only [nhs] at hC5)
  have han:a < n:=by omega
  refine qh (qa (qm (ql (qm ?_))))
  refine hk_region fun K hK=>runs_eval tab_ok ?_
  simp only [evz,fl,gp,tab,simprocAttr]
  refine fin_run trivial (hK _ ?_)<;>clear hK K
  refine qa (ql ?_)
  refine hk_loop (ι:=Nat × Heap) (fun p=>⟨118,[(1,.p (.list (ll (cst n r)))),(2,.ptr 0 0),(6,.sl 1 0 n),(9,.sl 2 0 i),(12,.p (.int .i64 a)),(13,.p (.int .i64 p.1))],p.2⟩) (fun p=>p.1≤n∧HP [.p (.int .i64 n),.p (.list (il m))] (ol (whl n r)) i (oC i i 0) (prF m n e a p.1) p.2 i) (fun p=>n - p.1) (0,H3) ⟨Nat.zero_le _,hP3⟩ (List.range H3.length) (le_sameL rfl rfl rfl hP3.wf (by
   simp [St.get,lk,scA,sc1]<;>omega)) fun p hp=>?_
  obtain ⟨b,H4⟩:=p
  obtain ⟨hb1,hP4⟩:=hp
  simp only at hb1 hP4
  have hPl4:=hP4.len
  have hb04:=hP4.b0
  have hb14:=hP4.b1
  have hb24:=hP4.b2
  refine qm (qm ?_)
  refine hk_region fun K hK=>runs_eval tab_ok ?_
  simp only [evz,fl,gp,tab,simprocAttr,hb04]
  refine fin_run ?_ (hK _ ?_)<;>clear hK K
  ·(first|exact trivial|omega|(simp only [In64] at *; omega)|(simp [In64] at *; omega)|(simp_all; done)|skip)
  refine qa ?_
  refine hk_cond rfl (fun hC6=>?_) (fun hC6=>?_)
  ·(try simp only [nhs] at hC6)
   have hbn:b < n:=by omega
   have hab:=T.lt han hbn
   obtain ⟨w1,w2⟩:=hwh _ hab
   obtain ⟨wa1,wa2⟩:=hwh _ han
   obtain ⟨wb1,wb2⟩:=hwh _ hbn
   obtain ⟨y1,y2⟩:=hx0 _ w2
   have hkl:clI m n e (op m n a b) < (cst n r).length:=by omega
   obtain ⟨kk,hkk⟩:∃ kk,clI m n e (op m n a b)=kk:=⟨_,rfl⟩
   rw [hkk] at w1 w2 y1 y2 hkl
   refine qh (qa (qm (ql (qm ?_))))
   refine hk_region fun K hK=>runs_eval tab_ok ?_
   simp only [evz,fl,gp,tab,simprocAttr,hb04,hb14,il_length,hwl,ol_length,ol_get (show op m n a b < (whl n r).length by omega),w1]
   refine fin_stop ?_ (runs_call (m_c T han hbn) rfl rfl rfl (by simp only [dstOk,Nat.reduceLT]) (by repeat (first|exact trivial|constructor)) (runs_eval tab_ok ?_))
   ·(first|exact trivial|omega|(simp only [In64] at *; omega)|(simp [In64] at *; omega)|(simp_all; done)|skip)
   simp only [evz,fl,gp,tab,simprocAttr,hb04,hb14,il_length,hwl,ol_length,ol_get (show op m n a b < (whl n r).length by omega),w1]
   refine fin_run ?_ (hK _ ?_)<;>clear hK K
   ·(first|exact trivial|omega|(simp only [In64] at *; omega)|(simp [In64] at *; omega)|(simp_all; done)|skip)
   refine qa (qm ?_)
   refine hk_draw2 mixed fun K hK=>runs2_eval tab_ok ?_
   simp only [evD,evz,fl,gp,tab,simprocAttr,hb04,w1,ll_length,ll_get hkl,il_length,il_get y1,y2]
   refine fin2_stop ?_ (runs2_call (m_c T han hbn) rfl rfl rfl rfl (by simp only [dstOk,Nat.reduceLT]) (by repeat (first|exact trivial|constructor)) (runs2_eval tab_ok ?_))
   ·(first|exact trivial|omega|(simp only [In64] at *; omega)|(simp [In64] at *; omega)|(simp_all; done)|skip)
   simp only [evD,evz,fl,gp,tab,simprocAttr,hb04,w1,ll_length,ll_get hkl,il_length,il_get y1,y2]
   refine fin2_run ?_ (hK _ _ (by first|kernel_rfl|rfl) ?_)<;>clear hK K
   ·(first|exact trivial|omega|(simp only [In64] at *; omega)|(simp [In64] at *; omega)|(simp_all; done)|skip)
   refine qa ?_
   refine hk_cond rfl (fun hC7=>?_) (fun hC7=>?_)
   ·(try simp only [nhs] at hC7)
    have hxk:op m n a b=clX m n e kk:=by omega
    obtain ⟨ci,hci⟩:∃ ci,clI m n e a=ci:=⟨_,rfl⟩
    obtain ⟨cj,hcj⟩:∃ cj,clI m n e b=cj:=⟨_,rfl⟩
    rw [hci] at wa1 wa2
    rw [hcj] at wb1 wb2
    have hro:=hP4.ro ci wa2
    have hen:=hP4.en ci cj wa2 wb2
    have hgi:=oC_get (c:=i) (i:=i) (k:=0) (a:=ci) wa2
    have hgj:∀ d,(rwo (poC i ci + 1) i i).getD cj d = .sl (cj + (poC i ci + 1)) 0 i:=fun d=>rwo_get wb2 d
    have hcm:cj + (poC i ci + 1)=poC i ci + 1 + cj:=by omega
    have hpm:prF m n e a (b + 1) ci cj kk=prF m n e a b ci cj kk + 1:=by
     unfold prF
     simp only [pin]
     have:pcn m n e a b ci cj kk=1:=by unfold pcn; rw [if_pos ⟨hci,hcj,hxk⟩]
     rw [this]; omega
    have hpo:∀ x y k,k < i→¬ (x=ci∧y=cj∧k=kk)→prF m n e a (b + 1) x y k=prF m n e a b x y k:=fun x y k hk hne=>by
     unfold prF
     simp only [pin]
     have:pcn m n e a b x y k=0:=by
      unfold pcn
      refine if_neg fun hh=>hne ⟨by omega,by omega,?_⟩
      have h1:=hix k hk
      rw [← hh.2.2,hkk] at h1
      exact h1.symm
     rw [this]; omega
    have hup:=hP4.upd (F':=prF m n e a (b + 1)) wa2 wb2 fun x y=>by
     by_cases hxy:x=ci∧y=cj
     ·exact .inl hxy
     exact .inr fun k hk=>hpo x y k hk fun hh=>hxy ⟨hh.1,hh.2.1⟩
    have hst:(rgz i (prF m n e a b ci cj)).set kk (prF m n e a b ci cj kk + 1)=rgz i (prF m n e a (b + 1) ci cj):=by
     rw [rgz_set]
     refine rgz_congr fun k hk=>?_
     by_cases hkk2:k=kk
     ·rw [if_pos hkk2,hkk2,hpm]
     rw [if_neg hkk2,hpo ci cj k hk fun hh=>hkk2 hh.2.2]
    have hbnd:0≤prF m n e a b ci cj kk∧prF m n e a b ci cj kk≤10000:=by
     have q1:=pou_le m n e ci cj kk a
     have q2:=pin_le m n e a ci cj kk b
     have q3:=Nat.mul_le_mul (show a≤60 by omega) (show n≤60 by omega)
     unfold prF; omega
    have hgs:hget (hset H4 (poC i ci + 1 + cj) (.own (ol (rgz i (prF m n e a (b + 1) ci cj))))) (poC i ci + 1 + cj) = .own (ol (rgz i (prF m n e a (b + 1) ci cj))):=by
     have:=poC_lt i wa2
     rw [hset_hget,if_pos ⟨rfl,by omega⟩]
    refine hk_draw2 mixed fun K hK=>runs2_eval tab_ok ?_
    simp only [evD,evz,fl,gp,tab,simprocAttr,hb14,hb24,il_length,hwl,ol_length,oC_len,ol_get (show a < (whl n r).length by omega),wa1,ol_get (show b < (whl n r).length by omega),wb1,ol_get (show kk < (rgz i (prF m n e a b ci cj)).length by rw [rgz_len]; exact w2),hgi,hro,rwo_len,hgj,hcm,hen,rgz_len,rgz_get (show kk < i from w2),ol_set,hst,hgs]
    refine fin2_run ?_ (hK _ _ ?_ ?_)<;>clear hK K
    ·simp only [In64]; omega
    ·refine draw2_cd (fun _ _=>false) (fun _ _=>false) (fun i j h=>by cases h) (fun j i κ h hm=>by cases h) (by kernel_rfl)
    refine qd (qa ?_)
    refine hk_region fun K hK=>runs_eval tab_ok ?_
    simp only [evz,fl,gp,tab,simprocAttr]
    refine fin_run ?_ (hK _ ?_)<;>clear hK K
    ·(first|exact trivial|omega|(simp only [In64] at *; omega)|(simp [In64] at *; omega)|(simp_all; done)|skip)
    refine qa ?_
    refine ⟨(b + 1,_),List.range H4.length,⟨by simp only; omega,hup⟩,by simp only; omega,le_sameL (by first|rfl|exact hset_len _ _ _) rfl rfl hup.wf (by
     simp [St.get,lk,scA,sc1]<;>omega)⟩
   (try simp only [nhs] at hC7)
   have hxk:∀ k,k < i→¬ op m n a b=clX m n e k:=fun k hk hh=>by
    have h1:=hix k hk
    rw [← hh,hkk] at h1
    rw [← h1] at hh
    omega
   have hpo:∀ x y k,k < i→prF m n e a (b + 1) x y k=prF m n e a b x y k:=fun x y k hk=>by
    unfold prF
    simp only [pin]
    have:pcn m n e a b x y k=0:=by
     unfold pcn
     exact if_neg fun hh=>hxk k hk hh.2.2
    rw [this]; omega
   have hup:HP [.p (.int .i64 n),.p (.list (il m))] (ol (whl n r)) i (oC i i 0) (prF m n e a (b + 1)) H4 i:=⟨hP4.wf,hP4.len,hP4.b0,hP4.b1,hP4.b2,hP4.ro,fun x y hx hy=>by
    rw [hP4.en x y hx hy]
    congr 2
    exact rgz_congr fun k hk=>(hpo x y k hk).symm⟩
   refine qh (qd (qa ?_))
   refine hk_region fun K hK=>runs_eval tab_ok ?_
   simp only [evz,fl,gp,tab,simprocAttr]
   refine fin_run ?_ (hK _ ?_)<;>clear hK K
   ·(first|exact trivial|omega|(simp only [In64] at *; omega)|(simp [In64] at *; omega)|(simp_all; done)|skip)
   refine qa ?_
   refine ⟨(b + 1,_),List.range H4.length,⟨by simp only; omega,hup⟩,by simp only; omega,le_sameL (by first|rfl|exact hset_len _ _ _) rfl rfl hup.wf (by
    simp [St.get,lk,scA,sc1]<;>omega)⟩
  (try simp only [nhs] at hC6)
  have hbn:b=n:=by omega
  rw [hbn,prF_row] at hP4
  refine qj (qc (qc (qf (qd (qa ?_)))))
  refine hk_region fun K hK=>runs_eval tab_ok ?_
  simp only [evz,fl,gp,tab,simprocAttr]
  refine fin_run ?_ (hK _ ?_)<;>clear hK K
  ·(first|exact trivial|omega|(simp only [In64] at *; omega)|(simp [In64] at *; omega)|(simp_all; done)|skip)
  refine qa ?_
  refine ⟨(a + 1,H4),List.range H4.length,⟨by simp only; omega,hP4⟩,by simp only; omega,le_sameL rfl rfl rfl hP4.wf (by
   simp [St.get,lk,scA,sc1]<;>omega)⟩
 (try simp only [nhs] at hC5)
 have han:a=n:=by omega
 rw [han] at hP3
 refine qj (qc (qc (qf (qa (qm ?_)))))
 refine hk_cube 9 hP3 rfl fun H'=>?_
 refine hk_region fun K hK=>runs_eval tab_ok ?_
 simp only [evz,fl,gp,tab,simprocAttr]
 refine fin_run trivial (hK _ ?_)<;>clear hK K
 refine qa (qk ?_)
 simp only [Tryd.results20,enA,evz,fl,gp,tab,simprocAttr]
 all_goals ((first|exact rfl|exact ⟨rfl,rfl⟩|exact ⟨rfl,rfl,rfl⟩|exact ⟨trivial,rfl⟩|exact ⟨Nat.le_refl _,rfl⟩|trivial|(simp; done)))
end Go.Proofs.YtjlmpmidchddjaaDoor

namespace Go.Proofs.YtjlmpmidchddjaaDoor
open Go.Pv
def unB (a:Int) (p x:Nat):Bool:=decide (a * ((x:Int) + 1) % (p:Int)=1 % (p:Int))
def unR (a:Int) (p:Nat):Nat:=match fst' (unB a p) (p - 1) with
 | some x=>x + 1
 | none=>0
theorem under_c {p:Nat} {a:Int} (hp:2≤p) (hp2:p≤1000000) (ha:0≤a) (ha2:a≤1000000):FnC Tryd.prog 22 [.int .i64 a,.int .i64 p] (.int .i64 (unR a p:Nat)):=by
 refine fnc_of tab_ok Tryd.func22 rfl (by kernel_rfl) (by rw [Tryd.ntmps22]; exact Nat.le_add_left 2 _) ?_; rw [Tryd.ntmps22]
 refine qm ?_
 refine hk_region fun K hK=>runs_eval tab_ok ?_
 simp only [evz,fl,gp,tab,simprocAttr]
 refine fin_run trivial (hK _ ?_)<;>clear hK K
 refine qa (qm (qm ?_))
 refine hk_region fun K hK=>runs_eval tab_ok ?_
 simp only [evz,fl,gp,tab,simprocAttr]
 refine fin_run trivial (hK _ ?_)<;>clear hK K
 refine qa (ql ?_)
 refine hk_loop (ι:=Nat) (fun x=>⟨20,[(0,.p (.int .i64 a)),(1,.p (.int .i64 p)),(5,.p (.int .i64 ((x:Int) + 1)))],[]⟩) (fun x=>x≤p - 1∧∀ t,t < x→unB a p t=false) (fun x=>p - 1 - x) 0 ⟨Nat.zero_le _,fun t ht=>by omega⟩ [] (by simp only [leq,leA,evz,fl,gp,tab,simprocAttr]<;>first|trivial|skip) fun x hx=>?_
 obtain ⟨hx1,hx2⟩:=hx
 refine qm (qm ?_)
 refine hk_region fun K hK=>runs_eval tab_ok ?_
 simp only [evz,fl,gp,tab,simprocAttr]
 refine fin_run trivial (hK _ ?_)<;>clear hK K
 refine qa ?_
 refine hk_cond rfl (fun hC1=>?_) (fun hC1=>?_)
 ·(try simp only [nhs] at hC1)
  have hxp:x < p - 1:=by omega
  have hm:0≤a * ((x:Int) + 1)∧a * ((x:Int) + 1)≤1000000 * 1000000:=⟨Int.mul_nonneg ha (by omega),Int.mul_le_mul ha2 (by omega) (by omega) (by omega)⟩
  have t1:Int.tmod (a * ((x:Int) + 1)) p=a * ((x:Int) + 1) % p:=Int.tmod_eq_emod_of_nonneg hm.1
  have t2:Int.tmod 1 (p:Int)=1 % (p:Int):=Int.tmod_eq_emod_of_nonneg (by omega)
  refine qh (qa (qm (ql (qm ?_))))
  refine hk_draw mixed (by kernel_rfl) fun K hK=>runs_eval tab_ok ?_
  simp only [evz,fl,gp,tab,simprocAttr,t1,t2]
  refine fin_run ?_ (hK _ ?_)<;>clear hK K
  ·simp only [In64]; omega
  refine qa ?_
  refine hk_cond rfl (fun hC2=>?_) (fun hC2=>?_)
  ·(try simp only [nhs] at hC2)
   have hu:fst' (unB a p) (p - 1)=some x:=fst_some hxp (decide_eq_true hC2) hx2
   have hu2:((unR a p:Nat):Int)=(x:Int) + 1:=by simp only [unR,hu]; omega
   rw [hu2]
   refine qm ?_
   refine hk_region fun K hK=>runs_eval tab_ok ?_
   simp only [evz,fl,gp,tab,simprocAttr]
   refine fin_run trivial (hK _ ?_)<;>clear hK K
   refine qa (qk (qe (qb (qb (qe (qb ?_))))))
   simp only [Tryd.results22,enA,evz,fl,gp,tab,simprocAttr]
   all_goals ((first|exact rfl|exact ⟨rfl,rfl⟩|exact ⟨rfl,rfl,rfl⟩|exact ⟨trivial,rfl⟩|exact ⟨Nat.le_refl _,rfl⟩|trivial|(simp; done)))
  (try simp only [nhs] at hC2)
  refine qh (qd (qa ?_))
  refine hk_region fun K hK=>runs_eval tab_ok ?_
  simp only [evz,fl,gp,tab,simprocAttr]
  refine fin_run ?_ (hK _ ?_)<;>clear hK K
  ·(first|exact trivial|omega|(simp only [In64] at *; omega)|(simp [In64] at *; omega)|(simp_all; done)|skip)
  refine qa ?_
  refine ⟨x + 1,[],⟨by omega,fun t ht=>?_⟩,by omega,by simp only [leq,leA,evz,fl,gp,tab,simprocAttr]<;>first|trivial|omega|skip⟩
  by_cases e:t=x
  ·rw [e]; exact decide_eq_false hC2
  exact hx2 t (by omega)
 (try simp only [nhs] at hC1)
 have hxp:x=p - 1:=by omega
 have hu:fst' (unB a p) (p - 1)=none:=fst_none fun t ht=>hx2 t (by omega)
 have hu2:unR a p=0:=by simp only [unR,hu]
 rw [hu2]
 refine qj (qc (qc (qf (qa (qm ?_)))))
 refine hk_region fun K hK=>runs_eval tab_ok ?_
 simp only [evz,fl,gp,tab,simprocAttr]
 refine fin_run trivial (hK _ ?_)<;>clear hK K
 refine qa (qk ?_)
 simp only [Tryd.results22,enA,evz,fl,gp,tab,simprocAttr]
 all_goals ((first|exact rfl|exact ⟨rfl,rfl⟩|exact ⟨rfl,rfl,rfl⟩|exact ⟨trivial,rfl⟩|exact ⟨Nat.le_refl _,rfl⟩|trivial|(simp; done)))
def lesI:List Int→List Int→Bool
 | [],_=>false
 | _ :: _,[]=>false
 | x :: a,y :: b=>if x=y then lesI a b else decide (x < y)
theorem lesI_dif:∀ {a b:List Int} {i:Nat},i < a.length→i < b.length→(∀ j,j < i→a.getD j 0=b.getD j 0)→a.getD i 0 ≠ b.getD i 0→lesI a b=decide (a.getD i 0 < b.getD i 0)
 | [],_,i,h,_,_,_=>by simp at h
 | _ :: _,[],i,_,h,_,_=>by simp at h
 | x :: a,y :: b,0,_,_,_,hne=>by simp only [List.getD_cons_zero] at hne ⊢; rw [lesI,if_neg hne]
 | x :: a,y :: b,i + 1,h1,h2,h3,hne=>by
  have h0:=h3 0 (by omega)
  simp only [List.getD_cons_zero] at h0
  rw [lesI,if_pos h0]
  simp only [List.getD_cons_succ] at hne ⊢
  exact lesI_dif (by simpa using h1) (by simpa using h2) (fun j hj=>by have:=h3 (j + 1) (by omega); simpa using this) hne
theorem lesI_same:∀ {a b:List Int},a.length≤b.length→(∀ j,j < a.length→a.getD j 0=b.getD j 0)→lesI a b=false
 | [],b,_,_=>by simp [lesI]
 | _ :: _,[],h,_=>by simp at h
 | x :: a,y :: b,h,h3=>by
  have h0:=h3 0 (by simp)
  simp only [List.getD_cons_zero] at h0
  rw [lesI,if_pos h0]
  exact lesI_same (by simpa using h) fun j hj=>by have:=h3 (j + 1) (by simpa using hj); simpa using this
theorem less_c (a b:List Int) (hl:a.length=b.length) (ha:a.length≤1000000):FnC Tryd.prog 21 [.list (il a),.list (il b)] (.bool (lesI a b)):=by
 refine fnc_of tab_ok Tryd.func21 rfl (by kernel_rfl) (by rw [Tryd.ntmps21]; exact Nat.le_add_left 2 _) ?_; rw [Tryd.ntmps21]
 refine qm ?_
 refine hk_region fun K hK=>runs_eval tab_ok ?_
 simp only [evz,fl,gp,tab,simprocAttr]
 refine fin_run trivial (hK _ ?_)<;>clear hK K
 refine qa (qm (qm ?_))
 refine hk_region fun K hK=>runs_eval tab_ok ?_
 simp only [evz,fl,gp,tab,simprocAttr]
 refine fin_run trivial (hK _ ?_)<;>clear hK K
 refine qa (ql ?_)
 refine hk_loop (ι:=Nat) (fun i=>⟨30,[(0,.p (.list (il a))),(1,.p (.list (il b))),(5,.p (.int .i64 i))],[]⟩) (fun i=>i≤a.length∧∀ t,t < i→a.getD t 0=b.getD t 0) (fun i=>a.length - i) 0 ⟨Nat.zero_le _,fun t ht=>by omega⟩ [] (by simp only [leq,leA,evz,fl,gp,tab,simprocAttr]<;>first|trivial|skip) fun i hi=>?_
 obtain ⟨hi1,hi2⟩:=hi
 refine qm (qm ?_)
 refine hk_region fun K hK=>runs_eval tab_ok ?_
 simp only [evz,fl,gp,tab,simprocAttr,il_length]
 refine fin_run trivial (hK _ ?_)<;>clear hK K
 refine qa ?_
 refine hk_cond rfl (fun hC1=>?_) (fun hC1=>?_)
 ·(try simp only [nhs] at hC1)
  have hil:i < a.length:=by omega
  refine qh (qa (qm (ql (qm ?_))))
  refine hk_draw mixed (by kernel_rfl) fun K hK=>runs_eval tab_ok ?_
  simp only [evz,fl,gp,tab,simprocAttr,il_length,il_get hil,il_get (show i < b.length by omega)]
  refine fin_run ?_ (hK _ ?_)<;>clear hK K
  ·omega
  refine qa ?_
  refine hk_cond rfl (fun hC2=>?_) (fun hC2=>?_)
  ·(try simp only [nhs] at hC2)
   rw [lesI_dif hil (by omega) hi2 hC2]
   refine qm ?_
   refine hk_draw mixed (by kernel_rfl) fun K hK=>runs_eval tab_ok ?_
   simp only [evz,fl,gp,tab,simprocAttr,il_length,il_get hil,il_get (show i < b.length by omega)]
   refine fin_run ?_ (hK _ ?_)<;>clear hK K
   ·omega
   refine qa (qk (qe (qb (qb (qe (qb ?_))))))
   simp only [Tryd.results21,enA,evz,fl,gp,tab,simprocAttr]
   all_goals ((first|exact rfl|exact ⟨rfl,rfl⟩|exact ⟨rfl,rfl,rfl⟩|exact ⟨trivial,rfl⟩|exact ⟨Nat.le_refl _,rfl⟩|trivial|(simp; done)))
  (try simp only [nhs] at hC2)
  refine qh (qd (qa ?_))
  refine hk_region fun K hK=>runs_eval tab_ok ?_
  simp only [evz,fl,gp,tab,simprocAttr]
  refine fin_run ?_ (hK _ ?_)<;>clear hK K
  ·(first|exact trivial|omega|(simp only [In64] at *; omega)|(simp [In64] at *; omega)|(simp_all; done)|skip)
  refine qa ?_
  refine ⟨i + 1,[],⟨by omega,fun t ht=>?_⟩,by omega,by simp only [leq,leA,evz,fl,gp,tab,simprocAttr]<;>first|trivial|omega|skip⟩
  by_cases e:t=i
  ·rw [e]; exact hC2
  exact hi2 t (by omega)
 (try simp only [nhs] at hC1)
 rw [lesI_same (by omega) fun j hj=>hi2 j (by omega)]
 refine qj (qc (qc (qf (qa (qm ?_)))))
 refine hk_region fun K hK=>runs_eval tab_ok ?_
 simp only [evz,fl,gp,tab,simprocAttr]
 refine fin_run trivial (hK _ ?_)<;>clear hK K
 refine qa (qk ?_)
 simp only [Tryd.results21,enA,evz,fl,gp,tab,simprocAttr]
 all_goals ((first|exact rfl|exact ⟨rfl,rfl⟩|exact ⟨rfl,rfl,rfl⟩|exact ⟨trivial,rfl⟩|exact ⟨Nat.le_refl _,rfl⟩|trivial|(simp; done)))
end Go.Proofs.YtjlmpmidchddjaaDoor

namespace Go.Proofs.YtjlmpmidchddjaaDoor
open Lean.Grind
attribute [local instance] Lean.Grind.Semiring.natCast Lean.Grind.Ring.intCast
def omF (p:Nat) (r:List Int) (S:Nat→Nat) (u:Nat) (c:Nat):Int:=r.getD c 0 * (S c:Nat) % (p:Int) * (u:Nat) % (p:Int)
def omR (p:Nat) (r:List Int) (S:Nat→Nat) (u k i:Nat):List Int:=updR (omF p r S u) 0 i (List.replicate k 0)
def smW (p:Nat) (W:List Int) (J U:Nat→Nat):Nat→Int
 | 0=>0
 | a + 1=>(smW p W J U a + W.getD a 0 * W.getD (J a) 0 % (p:Int) * (U a:Nat)) % (p:Int)
def trW (p:Nat) (T:Nat→Int) (W:List Int):Nat→Int
 | 0=>0
 | c + 1=>(trW p T W c + T c * W.getD c 0) % (p:Int)
theorem smW_rg {p:Nat} (hp:0 < p) (W:List Int) (J U:Nat→Nat):∀ k,0≤smW p W J U k∧smW p W J U k < p
 | 0=>⟨by show (0:Int)≤0; omega,by show (0:Int) < p; omega⟩
 | k + 1=>emod_rng hp _
theorem trW_rg {p:Nat} (hp:0 < p) (T:Nat→Int) (W:List Int):∀ k,0≤trW p T W k∧trW p T W k < p
 | 0=>⟨by show (0:Int)≤0; omega,by show (0:Int) < p; omega⟩
 | k + 1=>emod_rng hp _
section
variable {K:Type} [CommRing K] {p:Nat}
theorem smW_K (R:Rp K p) (W:List Int) (J U:Nat→Nat):∀ k,((smW p W J U k:Int):K)=sm (fun a=>vc W a * vc W (J a) * ((U a:Nat):K)) k
 | 0=>Ring.intCast_zero
 | k + 1=>by
  rw [smW,R.toRd.mod,Ring.intCast_add,Ring.intCast_mul,R.toRd.mod,Ring.intCast_mul,smW_K R W J U k,R.cst]; rfl
theorem trW_K (R:Rp K p) (T:Nat→Int) (W:List Int):∀ k,((trW p T W k:Int):K)=sm (fun c=>((T c:Int):K) * vc W c) k
 | 0=>Ring.intCast_zero
 | k + 1=>by
  rw [trW,R.toRd.mod,Ring.intCast_add,Ring.intCast_mul,trW_K R T W k]; rfl
theorem omF_K (R:Rp K p) (r:List Int) (S:Nat→Nat) (u c:Nat):((omF p r S u c:Int):K)=vc r c * ((S c:Nat):K) * ((u:Nat):K):=by
 rw [omF,R.toRd.mod,Ring.intCast_mul,R.toRd.mod,Ring.intCast_mul,R.cst,R.cst]; rfl
theorem unR_K (R:Rp K p) {a:Nat} (h1:0 < a) (h2:a < p):(a:K) * ((unR (a:Nat) p:Nat):K)=1∧unR (a:Nat) p < p:=by
 have h3:=R.toRd.inv (x:=(a:Nat)) (by omega) (by omega)
 rw [R.cst] at h3
 obtain ⟨y,hy⟩:∃ y,y=(ivR p (a:Nat) % (p:Int)).toNat:=⟨_,rfl⟩
 have hp2:=R.two
 have hy0:=emod_rng (p:=p) (by omega) (ivR p (a:Nat))
 have hyK:((y:Nat):K)=((ivR p (a:Nat):Int):K):=by
  rw [← R.cst,hy,Int.toNat_of_nonneg hy0.1,R.toRd.mod]
 have hy1:y ≠ 0:=fun h0=>by
  rw [← hyK,h0] at h3
  have:((0:Nat):K)=0:=Semiring.natCast_zero
  rw [this] at h3
  exact R.fld.2 (by rw [← h3]; grind)
 have key:∀ x:Nat,unB (a:Nat) p x=true↔(a:K) * ((x + 1:Nat):K)=1:=fun x=>by
  unfold unB
  rw [decide_eq_true_iff]
  have e1:(((a:Nat):Int) * ((x:Int) + 1))=((a * (x + 1):Nat):Int):=by simp
  rw [e1]
  constructor
  ·intro h
   have e2:=congrArg (fun z:Int=>(z:K)) h
   simp only [R.toRd.mod] at e2
   rw [R.cst,Semiring.natCast_mul,Ring.intCast_one] at e2
   exact e2
  intro h
  have e2:((((a * (x + 1):Nat):Int) % (p:Int):Int):K)=((1 % (p:Int):Int):K):=by
   rw [R.toRd.mod,R.toRd.mod,R.cst,Semiring.natCast_mul,Ring.intCast_one]; exact h
  exact eqK R (emod_rng (by omega) _) (emod_rng (by omega) _) e2
 unfold unR
 cases hf:fst' (unB (a:Nat) p) (p - 1) with
 | some x =>
  have:=fst_spec hf
  exact ⟨(key x).1 this.2.1,by show x + 1 < p; omega⟩
 | none =>
  exfalso
  have h4:=fst_spec0 hf (y - 1) (by omega)
  rw [(key (y - 1)).2 (by rw [show y - 1 + 1=y by omega,hyK]; exact h3)] at h4
  cases h4
end
theorem lesI_of:∀ {a b:List Int},a.length=b.length→¬ cmpL b a < 0→a ≠ b→lesI a b=true
 | [],[],_,_,h=>absurd rfl h
 | [],_ :: _,h,_,_=>by simp at h
 | _ :: _,[],h,_,_=>by simp at h
 | x :: a,y :: b,hl,hc,hne=>by
  rw [cmpL] at hc
  rw [lesI]
  by_cases hxy:x=y
  ·subst hxy
   have h0:cmpi x x=0:=by simp [cmpi]
   rw [if_pos h0] at hc
   rw [if_pos rfl]
   exact lesI_of (by simpa using hl) hc fun h=>hne (by rw [h])
  rw [if_neg hxy]
  have h0:¬ cmpi y x=0:=fun h=>hxy (by unfold cmpi at h; split at h<;>first|omega|(split at h<;>omega))
  rw [if_neg h0] at hc
  refine _root_.decide_eq_true ?_
  unfold cmpi at hc
  split at hc
  ·exact absurd (by decide) hc
  split at hc
  ·assumption
  omega
variable {n e:Nat} {m:List Int}
theorem pin_K {K:Type} [CommRing K] (a i j k:Nat):∀ b,((pin m n e a i j k b:Nat):K)=sm (fun b=>if clI m n e a=i∧clI m n e b=j∧op m n a b=clX m n e k then (1:K) else 0) b
 | 0=>Semiring.natCast_zero
 | b + 1=>by
  rw [pin,Semiring.natCast_add,pin_K a i j k b,sm,pcn]
  split
  ·rw [Semiring.natCast_one]
  rw [Semiring.natCast_zero]
theorem pou_K {K:Type} [CommRing K] (i j k:Nat):∀ a,((pou m n e i j k a:Nat):K)=sm (fun a=>((pin m n e a i j k n:Nat):K)) a
 | 0=>Semiring.natCast_zero
 | a + 1=>by rw [pou,Semiring.natCast_add,pou_K i j k a]; rfl
theorem pou_gM {K:Type} [CommRing K] (h:GT n m n e) {i j k:Nat} (hk:k < clN m n e):((pou m n e i j k n:Nat):K)=gM K n (op m n) e (clI m n e) (clX m n e) i j k:=by
 have G:=h.2.2
 have C:=gc_of h
 have hx:=C.xl k hk
 rw [pou_K]
 unfold gM sC
 refine sm_congr fun g hg=>?_
 rw [pin_K]
 have hb:=G.cl _ _ (G.iv_lt hg) hx
 rw [sm_one (i:=op m n (iv n (op m n) e g) (clX m n e k)) hb fun b hbn hne=>if_neg fun ⟨_,_,hh⟩=>hne (by rw [← hh,C.can1 hg hbn])]
 rw [C.can2 hg hx]
 by_cases h1:clI m n e g=i
 ·by_cases h2:clI m n e (op m n (iv n (op m n) e g) (clX m n e k))=j
  ·simp only [h1,h2,and_self,if_true]
  simp only [h1,h2,false_and,and_false,if_false,if_true]
 rw [if_neg h1,if_neg fun hh=>h1 hh.1]
theorem clRw_one (h:GT n m n e) {s:List (List Int)} (hs:s∈clSp m n e):(clRw m n e s).getD (clO m n e) 0=(chD (clP m n e) n (clO m n e) (clN m n e) (clJ m n e) (clS m n e) s:Nat)∧1≤chD (clP m n e) n (clO m n e) (clN m n e) (clJ m n e) (clS m n e) s:=by
 obtain ⟨P,p1,p2⟩:=cl_P h
 have hp3:=P.three
 haveI:NeZero (clP m n e):=⟨by omega⟩
 have H:=gt2_of h
 have C:=gc_of h
 have R:=H.R
 have G:=h.2.2
 obtain ⟨lam,Fm⟩:=H.fam
 obtain ⟨q,hq,e1⟩:=List.getElem_of_mem hs
 have e2:(clSp m n e).getD q []=s:=by rw [← e1]; simp [List.getD,List.getElem?_eq_getElem hq]
 have hSl:(clSp m n e).length=clN m n e:=Fm.len
 have hr:=row_of h Fm (q:=q) (by omega)
 have e3:(spsR (clP m n e) (clTT m n e) [startR (clN m n e) (clN m n e)] (clN m n e)).getD q []=s:=e2
 rw [e3] at hr
 have hol:=(clI_lt h G.el).1
 have hS1:clS m n e (clI m n e e)=1:=by
  have hk:=cl_kap (K:=Fin (clP m n e)) h hol
  have hk1:kap (Fin (clP m n e)) n (clI m n e) (clI m n e e)=1:=C.sC_one G.el _ (fun g hg hge hne=>absurd (C.cIe hg hge) hne) rfl
  rw [hk1] at hk
  have:=clS_pos h hol
  refine (R.cinj (p:=clP m n e) (by omega) (by omega) ?_)
  rw [← hk,Semiring.natCast_one]
 have hio:=H.io (clI m n e e) hol
 rw [cl_kap h hol,hS1,Semiring.natCast_one] at hio
 have hw:(vc (chW (clP m n e) (clO m n e) s):Nat→Fin (clP m n e))=lam q:=hr.w
 have hdl:chD (clP m n e) n (clO m n e) (clN m n e) (clJ m n e) (clS m n e) s < clP m n e∧1≤chD (clP m n e) n (clO m n e) (clN m n e) (clJ m n e) (clS m n e) s:=by
  obtain ⟨v,hv⟩:∃ v:Nat,1≤v∧v≤n∧_:=C.degree R (fun a=>f_sur a) (fun d d1 d2=>wed_of (cl_prL h) d1 (by have:=h.2.1.big; omega)) p1 H.nz H.cz (fun a ha=>cl_pw h ha) (Fm.chr q (by omega)) (Fm.nz q (by omega))
  have:=hr.mn v hv.1 (by omega) hv.2.2
  refine ⟨Nat.lt_of_le_of_lt this (by omega),?_⟩
  unfold chD dgR; omega
 refine ⟨?_,hdl.2⟩
 refine eqK R (clRw_rg h s _) ⟨by omega,by omega⟩ ?_
 have hol' : clO m n e < clN m n e:=hol
 have e4:(vc (clRw m n e s) (clO m n e):Fin (clP m n e))=((clRw m n e s).getD (clO m n e) 0:Int):=rfl
 rw [← e4]
 unfold clRw
 rw [rwI_K R hol',hw]
 have e5:lam q (clO m n e)=1:=Fm.one q (by omega)
 rw [e5,R.cst]
 have e6:((ivR (clP m n e) (clS m n e (clO m n e):Nat):Int):Fin (clP m n e))=1:=by
  have:(1:Fin (clP m n e)) * ((ivR (clP m n e) (clS m n e (clI m n e e):Nat):Int):Fin (clP m n e))=1:=by rw [hS1]; exact hio
  show ((ivR (clP m n e) (clS m n e (clI m n e e):Nat):Int):Fin (clP m n e))=1
  grind
 rw [e6]; grind
theorem chT_ord (h:GT n m n e) {i:Nat} (h0:0 < i) (hi:i < clN m n e):((chT m n e).getD (i - 1) []).getD (clO m n e) 0 < ((chT m n e).getD i []).getD (clO m n e) 0 ∨
  ((chT m n e).getD (i - 1) []).getD (clO m n e) 0=((chT m n e).getD i []).getD (clO m n e) 0∧lesI ((chT m n e).getD (i - 1) []) ((chT m n e).getD i [])=true:=by
 obtain ⟨P,p1,p2⟩:=cl_P h
 have hp3:=P.three
 haveI:NeZero (clP m n e):=⟨by omega⟩
 have H:=gt2_of h
 obtain ⟨t1,t2,t3,t4,t5⟩:=chT_ort h
 obtain ⟨X,hX⟩:∃ X,srtL ((clSp m n e).map (rowT (clP m n e) n (clO m n e) (clN m n e) (clJ m n e) (clS m n e)))=X:=⟨_,rfl⟩
 have hT:chT m n e=X.map (·.drop 1):=by rw [← hX]; rfl
 have hXl:X.length=clN m n e:=by rw [← t3,hT,List.length_map]
 have hs:=srtL_sorted ((clSp m n e).map (rowT (clP m n e) n (clO m n e) (clN m n e) (clJ m n e) (clS m n e)))
 rw [hX] at hs
 have hXm:∀ w∈X,∃ d r,w=d :: r∧r.getD (clO m n e) 0=d:=fun w hw=>by
  rw [← hX,← (srtL_perm _).mem_iff] at hw
  obtain ⟨s,hs,rfl⟩:=List.mem_map.1 hw
  exact ⟨_,clRw m n e s,rfl,(clRw_one h hs).1⟩
 have hg:∀ j,j < clN m n e→(chT m n e).getD j []=(X.getD j []).drop 1:=fun j hj=>by
  rw [hT]; simp [List.getD,List.getElem?_map,List.getElem?_eq_getElem (show j < X.length by omega)]
 obtain ⟨d1,r1,a1,b1⟩:=hXm (X.getD (i - 1) []) (mem_getD (by omega))
 obtain ⟨d2,r2,a2,b2⟩:=hXm (X.getD i []) (mem_getD (by omega))
 have g1:=hg (i - 1) (by omega)
 have g2:=hg i hi
 rw [a1,List.drop_one,List.tail_cons] at g1
 rw [a2,List.drop_one,List.tail_cons] at g2
 have hp:=List.pairwise_iff_getElem.1 hs (i - 1) i (by omega) (by omega) (by omega)
 have e1:∀ q (hq:q < X.length),X[q]=X.getD q []:=fun q hq=>by simp [List.getD,List.getElem?_eq_getElem hq]
 rw [e1,e1,a1,a2,cmpL] at hp
 have hne:r1 ≠ r2:=fun hh=>by
  have hq:=List.pairwise_iff_getElem.1 t2 (i - 1) i (by omega) (by omega) (by omega)
  have e2:∀ q (hq:q < (chT m n e).length),(chT m n e)[q]=(chT m n e).getD q []:=fun q hq=>by simp [List.getD,List.getElem?_eq_getElem hq]
  rw [e2,e2,g1,g2,hh] at hq
  have h4:=t1 r2 (by rw [← g2]; exact mem_getD (by omega))
  rw [hq.1] at h4
  exact H.nz h4.symm
 have hl1:=(t4 _ (mem_getD (l:=chT m n e) (d:=[]) (show i - 1 < (chT m n e).length by omega))).1
 have hl2:=(t4 _ (mem_getD (l:=chT m n e) (d:=[]) (show i < (chT m n e).length by omega))).1
 rw [g1] at hl1
 rw [g2] at hl2
 rw [g1,g2,b1,b2]
 by_cases hd:d1=d2
 ·subst hd
  right
  have h0:cmpi d1 d1=0:=by simp [cmpi]
  rw [if_pos h0] at hp
  exact ⟨rfl,lesI_of (by omega) hp hne⟩
 left
 have h0:¬ cmpi d2 d1=0:=fun h=>hd (by unfold cmpi at h; split at h<;>first|omega|(split at h<;>omega))
 rw [if_neg h0] at hp
 unfold cmpi at hp
 split at hp<;>first|omega|(split at hp<;>omega)
theorem tabRow_ok (h:GT n m n e) {i:Nat} (hi:i < clN m n e):∃ d:Nat,1≤d∧d≤n∧((chT m n e).getD i []).getD (clO m n e) 0=(d:Nat)∧unR (d:Nat) (clP m n e) < clP m n e ∧
  ∀ W:List Int,(∀ c,c < clN m n e→W.getD c 0=omF (clP m n e) ((chT m n e).getD i []) (clS m n e) (unR (d:Nat) (clP m n e)) c) →
   (∀ a b,a < clN m n e→b < clN m n e→trW (clP m n e) (fun c=>prF m n e n 0 a b c) W (clN m n e)=W.getD a 0 * W.getD b 0 % (clP m n e:Nat)) ∧
   (d:Int) * d % (clP m n e:Nat) * smW (clP m n e) W (clJ m n e) (fun a=>unR (clS m n e a:Nat) (clP m n e)) (clN m n e) % (clP m n e:Nat)=(n:Int) % (clP m n e:Nat):=by
 obtain ⟨P,p1,p2⟩:=cl_P h
 have hp3:=P.three
 haveI:NeZero (clP m n e):=⟨by omega⟩
 have H:=gt2_of h
 have C:=gc_of h
 have R:=H.R
 have F:=R.fld
 obtain ⟨tt,vv,A,hrow⟩:=chT_all h
 obtain ⟨r1,r2⟩:=hrow i hi
 have hv1:=A.ge i hi
 obtain ⟨hv2,hv3⟩:=A.sq i hi
 have hv4:vv i≤n:=Nat.le_trans (Nat.le_mul_of_pos_left _ hv1) hv2
 obtain ⟨u1,u2⟩:=unR_K R (a:=vv i) (by omega) (by omega)
 refine ⟨vv i,hv1,hv4,r2,u2,fun W hW=>?_⟩
 have hWK:∀ c,c < clN m n e→(vc W c:Fin (clP m n e))=kap (Fin (clP m n e)) n (clI m n e) c * tt i (clX m n e c):=fun c hc=>by
  have e1:(vc W c:Fin (clP m n e))=((W.getD c 0:Int):Fin (clP m n e)):=rfl
  have e2:=r1 _ (C.xl c hc)
  rw [C.cx c hc] at e2
  rw [e1,hW c hc,omF_K R,e2,cl_kap h hc]
  grind
 have hJl:∀ a,a < clN m n e→clJ m n e a < clN m n e:=fun a ha=>(clI_lt h (h.2.2.iv_lt (clG h ha).1)).1
 constructor
 ·intro a b ha hb
  refine eqK R (trW_rg (by omega) _ _ _) (emod_rng (by omega) _) ?_
  rw [trW_K R,R.toRd.mod,Ring.intCast_mul]
  have e1:sm (fun c=>((prF m n e n 0 a b c:Int):Fin (clP m n e)) * vc W c) (clN m n e)=sm (fun k=>gM (Fin (clP m n e)) n (op m n) e (clI m n e) (clX m n e) a b k * (kap (Fin (clP m n e)) n (clI m n e) k * tt i (clX m n e k))) (clN m n e):=sm_congr fun c hc=>by
   rw [hWK c hc]
   have:prF m n e n 0 a b c=((pou m n e a b c n:Nat):Int):=rfl
   rw [this,R.cst,pou_gM h hc]
  rw [e1,C.omg F H.nz (A.chr i hi) ha hb,← hWK a ha,← hWK b hb]
  rfl
 refine eqK R (emod_rng (by omega) _) (emod_rng (by omega) _) ?_
 rw [R.toRd.mod,Ring.intCast_mul,R.toRd.mod,Ring.intCast_mul,R.toRd.mod,R.cst,R.cst,smW_K R]
 have e1:sm (fun a=>vc W a * vc W (clJ m n e a) * ((unR (clS m n e a:Nat) (clP m n e):Nat):Fin (clP m n e))) (clN m n e)=prT n (op m n) e (tt i) (tt i) e:=by
  rw [H.pairC (A.chr i hi).cl (A.chr i hi).cl]
  refine sm_congr fun a ha=>?_
  have hs:=clS_pos h ha
  obtain ⟨w1,_⟩:=unR_K R (a:=clS m n e a) hs.1 (by omega)
  have hj:kap (Fin (clP m n e)) n (clI m n e) (clJ m n e a)=kap (Fin (clP m n e)) n (clI m n e) a:=C.kapJ ha
  have ht:tt i (clX m n e (clJ m n e a))=tt i (iv n (op m n) e (clX m n e a)):=(A.chr i hi).cl _ _ (C.xl _ (hJl a ha)) (h.2.2.iv_lt (C.xl a ha)) (C.cx _ (hJl a ha))
  rw [hWK a ha,hWK _ (hJl a ha),hj,ht,cl_kap h ha]
  grind
 rw [e1,← hv3]
 grind
end Go.Proofs.YtjlmpmidchddjaaDoor
