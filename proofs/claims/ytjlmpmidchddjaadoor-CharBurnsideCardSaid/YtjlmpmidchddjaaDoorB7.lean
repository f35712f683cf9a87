/-
  Texts of this proof, one behind the other: what each says stands at its head. Conditions: none.
-/
import Derived.Test.YtjlmpmidchddjaaDoorB6
import Derived.Test.YtjlmpmidchddjaaDoorRows
import Derived.Test.YtjlmpmidchddjaaDoorB2
import Derived.ProofKit
import Derived.LaidMore
import Derived.OpenShut
import Derived.Stop.Joined
set_option linter.all false
namespace Go.Proofs.YtjlmpmidchddjaaDoor
open Go.Pv
theorem jx (N:Int) (m:List Int) (c a:Int) (hc:¬ c=0) (hf:cL Tryd.prog 14 [gp N m] (fl (c,a))):cL Tryd.prog 9 [gp N m] (.bool true):=by
 refine aM ae Tryd.func9 rfl (by kernel_rfl) (by rw [Tryd.ntmps9]; exact Nat.le_add_left 1 _) ?_; rw [Tryd.ntmps9]
 refine qm ?_
 refine ab fun K hK=>aa ae ?_
 simp only [ak,fl,gp,aj,simprocAttr]
 refine af ?_ (hK _ ?_)<;>clear hK K
 ·first|exact trivial|omega|(simp only [ah] at *; omega)|(simp [ah] at *; omega)|simp_all
 refine qa (qm (qm ?_))
 refine ab fun K hK=>aa ae ?_
 simp only [ak,fl,gp,aj,simprocAttr]
 refine ao trivial (al (mN) rfl rfl rfl (by simp only [ay,Nat.reduceLT]) (by repeat (first|exact trivial|constructor)) (aa ae ?_))
 simp only [ak,fl,gp,aj,simprocAttr]
 refine af trivial (hK _ ?_)<;>clear hK K
 refine qa ?_
 refine an rfl (fun hC1=>?_) (fun hC1=>?_)
 ·(try simp only [aI] at hC1)
  first|exact absurd rfl hC1|exact hC1.elim|cases hC1|(simp at hC1; done)
 (try simp only [aI] at hC1)
 refine qh (qa (qm ?_))
 refine ab fun K hK=>aa ae ?_
 simp only [ak,fl,gp,aj,simprocAttr]
 refine ao trivial (al (uC N m .nil c a hc hf) rfl rfl rfl (by simp only [ay,Nat.reduceLT]) (by repeat (first|exact trivial|constructor)) (aa ae ?_))
 simp only [ak,fl,gp,aj,simprocAttr]
 refine af ?_ (hK _ ?_)<;>clear hK K
 ·first|exact trivial|omega|(simp only [ah] at *; omega)|(simp [ah] at *; omega)|simp_all
 refine qa (qm (qm ?_))
 refine ab fun K hK=>aa ae ?_
 simp only [ak,fl,gp,aj,simprocAttr]
 refine af trivial (hK _ ?_)<;>clear hK K
 refine qa ?_
 refine an rfl (fun hC2=>?_) (fun hC2=>?_)
 ·(try simp only [aI] at hC2)
  refine qm ?_
  refine ab fun K hK=>aa ae ?_
  simp only [ak,fl,gp,aj,simprocAttr]
  refine ao trivial (al (hf) rfl rfl rfl (by simp only [ay,Nat.reduceLT]) (by repeat (first|exact trivial|constructor)) (aa ae ?_))
  simp only [ak,fl,gp,aj,simprocAttr]
  refine af ?_ (hK _ ?_)<;>clear hK K
  ·first|exact trivial|omega|(simp only [ah] at *; omega)|(simp [ah] at *; omega)|simp_all
  refine qa (qk (qb ?_))
  simp only [Tryd.results9,cy,ak,fl,gp,aj,simprocAttr]
  all_goals (simp [hc])
 (try simp only [aI] at hC2)
 first|exact absurd rfl hC2|exact hC2.elim|cases hC2|(simp at hC2; done)
def CP (R:List (List Int)) (P:List Int):Nat→Bool
 | 0=>false
 | j + 1=>CP R P j || decide (R.getD j []=P)
theorem BA {R:List (List Int)} {P:List Int} (h:P∈R):CP R P R.length=true:=by
 obtain ⟨i,hi,e⟩:=List.getElem_of_mem h
 have e2:R.getD i []=P:=by rw [← e]; simp [List.getD,List.getElem?_eq_getElem hi]
 have key:∀ j,i < j→CP R P j=true:=fun j=>by
  induction j with
  | zero=>intro h; omega
  | succ j ih =>
   intro h
   rw [CP]
   by_cases hj:i=j
   ·rw [← hj,e2]; simp
   rw [ih (by omega)]; rfl
 exact key _ hi
def AG (p:Nat) (r r' : List Int) (c:Nat):List Int:=(List.range c).map fun c=>r.getD c 0 * r'.getD c 0 % (p:Nat)
set_option maxHeartbeats 4000000 in
set_option maxRecDepth 20000 in
theorem nx {n e:Nat} {m:List Int} (h:GT n m n e) (hc24:aX m n e≤24):cL Tryd.prog 9 [gp n m] (.bool true):=by
 obtain ⟨P,p1,p2⟩:=o9 h
 have hp3:=P.three
 have hb:=h.2.1.big
 have hrow:(fi m n e).length=aX m n e∧∀ r∈fi m n e,r.length=aX m n e∧ed (aG m n e) r:=by
  haveI:NeZero (aG m n e):=⟨by omega⟩
  exact ⟨(eS h).2.2.1,(eS h).2.2.2.1⟩
 have hS:∀ i,i < aX m n e→0 < cV m n e i∧cV m n e i≤n∧((kU m n e).getD i []).length=cV m n e i:=fun i hi=>⟨(ir h hi).1,(ir h hi).2.1,rfl⟩
 have hll:(kU m n e).length=aX m n e:=rfl
 have htab:=xG h hc24
 have hol:nI m n e < aX m n e:=(dm h h.2.2.el).1
 have hwo:cL Tryd.prog 17 [.list (ll (kU m n e)),.int .i64 (e:Nat)] (.int .i64 (nI m n e:Nat)):=by
  have h1:=xM (kU m n e) (e:Nat) (by have:=(zg h).2; omega) (fun w hw=>by
   obtain ⟨j,hj,rfl⟩:=List.getElem_of_mem hw
   have h2:(kU m n e)[j]=(kU m n e).getD j []:=by simp [List.getD,List.getElem?_eq_getElem hj]
   rw [h2,(hS j hj).2.2]
   have:=(hS j hj).2.1
   omega)
  rwa [(dm h h.2.2.el).2] at h1
 have heg:=Ho h.2.1
 rw [h.eI] at heg
 have hbr:=fun i (hi:i < aX m n e) hd=>zX h hi hd
 have hlr:∀ i k,i < aX m n e→k < aX m n e→¬ 1 < ((fi m n e).getD i []).getD (nI m n e) 0→AG (aG m n e) ((fi m n e).getD i []) ((fi m n e).getD k []) (aX m n e)∈fi m n e:=fun i k hi hk hd=>BQ h hi hk hd
 obtain ⟨t3,t4⟩:=hrow
 generalize aG m n e=p at *
 generalize nI m n e=o at *
 generalize aX m n e=k at *
 generalize fi m n e=R at *
 generalize kU m n e=L at *
 refine aM ae Tryd.func9 rfl (by kernel_rfl) (by rw [Tryd.ntmps9]; exact Nat.le_add_left 1 _) ?_; rw [Tryd.ntmps9]
 refine qm ?_
 refine ab fun K hK=>aa ae ?_
 simp only [ak,fl,gp,aj,simprocAttr]
 refine af ?_ (hK _ ?_)<;>clear hK K
 ·first|exact trivial|omega|(simp only [ah] at *; omega)|(simp [ah] at *; omega)|simp_all
 refine qa (qm (qm ?_))
 refine ab fun K hK=>aa ae ?_
 simp only [ak,fl,gp,aj,simprocAttr]
 refine ao trivial (al (mN) rfl rfl rfl (by simp only [ay,Nat.reduceLT]) (by repeat (first|exact trivial|constructor)) (aa ae ?_))
 simp only [ak,fl,gp,aj,simprocAttr]
 refine af trivial (hK _ ?_)<;>clear hK K
 refine qa ?_
 refine an rfl (fun hC1=>?_) (fun hC1=>?_)
 ·(try simp only [aI] at hC1)
  first|exact absurd rfl hC1|exact hC1.elim|cases hC1|(simp at hC1; done)
 (try simp only [aI] at hC1)
 refine qh (qa (qm ?_))
 refine ab fun K hK=>aa ae ?_
 simp only [ak,fl,gp,aj,simprocAttr]
 refine ao trivial (al (htab) rfl rfl rfl (by simp only [ay,Nat.reduceLT]) (by repeat (first|exact trivial|constructor)) (aa ae ?_))
 simp only [ak,fl,gp,aj,simprocAttr]
 refine af ?_ (hK _ ?_)<;>clear hK K
 ·first|exact trivial|omega|(simp only [ah] at *; omega)|(simp [ah] at *; omega)|simp_all
 refine qa (qm (qm ?_))
 refine ab fun K hK=>aa ae ?_
 simp only [ak,fl,gp,aj,simprocAttr]
 refine af trivial (hK _ ?_)<;>clear hK K
 refine qa ?_
 refine an rfl (fun hC2=>?_) (fun hC2=>?_)
 ·(try simp only [aI] at hC2)
  first|exact absurd rfl hC2|exact hC2.elim|cases hC2|(simp at hC2; done)
 (try simp only [aI] at hC2)
 refine qh (qa (qm ?_))
 refine ab fun K hK=>aa ae ?_
 simp only [ak,fl,gp,aj,simprocAttr]
 refine ao trivial (al (heg) rfl rfl rfl (by simp only [ay,Nat.reduceLT]) (by repeat (first|exact trivial|constructor)) (aa ae ?_))
 simp only [ak,fl,gp,aj,simprocAttr]
 refine ao trivial (al (hwo) rfl rfl rfl (by simp only [ay,Nat.reduceLT]) (by repeat (first|exact trivial|constructor)) (aa ae ?_))
 simp only [ak,fl,gp,aj,simprocAttr]
 refine af ?_ (hK _ ?_)<;>clear hK K
 ·first|exact trivial|omega|(simp only [ah] at *; omega)|(simp [ah] at *; omega)|simp_all
 refine qa (qm (qm ?_))
 refine ab fun K hK=>aa ae ?_
 simp only [ak,fl,gp,aj,simprocAttr]
 refine af trivial (hK _ ?_)<;>clear hK K
 refine qa (ql ?_)
 refine aA (ι:=Nat) (fun i=>⟨102,[(3,.p (.int .i64 p)),(4,.p (.list (ll R))),(5,.p (.list (ll L))),(7,.p (.int .i64 (o:Nat))),(8,.p (.int .i64 i))],[]⟩) (fun i=>i≤k) (fun i=>k - i) 0 (Nat.zero_le _) [] (by simp only [leq,bh,ak,fl,gp,aj,simprocAttr]<;>first|trivial|rfl|skip) fun i hi=>?_
 refine qm (qm ?_)
 refine ab fun K hK=>aa ae ?_
 simp only [ak,fl,gp,aj,simprocAttr,au,t3]
 refine af trivial (hK _ ?_)<;>clear hK K
 refine qa ?_
 refine an rfl (fun hC3=>?_) (fun hC3=>?_)
 ·(try simp only [aI] at hC3)
  have hik:i < k:=by omega
  obtain ⟨r,hr⟩:∃ r,R.getD i []=r:=⟨_,rfl⟩
  have hrl:r.length=k:=by rw [← hr]; exact (t4 _ (aC (by omega))).1
  have hrg:ed p r:=by rw [← hr]; exact (t4 _ (aC (by omega))).2
  have hbri:=hbr i hik
  have hlri:=fun j hj=>hlr i j hik hj
  rw [hr] at hbri hlri
  refine qh (qa (qm (ql (qm (qm ?_)))))
  refine ab fun K hK=>aa ae ?_
  simp only [ak,fl,gp,aj,simprocAttr,au,bD (show i < R.length by omega),hr,aJ,aW (show o < r.length by omega)]
  refine af ?_ (hK _ ?_)<;>clear hK K
  ·omega
  refine qa ?_
  refine an rfl (fun hC4=>?_) (fun hC4=>?_)
  ·(try simp only [aI] at hC4)
   obtain ⟨c0,c1,c2⟩:=hbri hC4
   have hmem:(0:Int)∈r:=by rw [← c2]; exact aC (by omega)
   refine qm (qm ?_)
   refine ab fun K hK=>aa ae ?_
   simp only [ak,fl,gp,aj,simprocAttr,au,bD (show i < R.length by omega),hr,decide_eq_true hmem,tY]
   refine ao ?_ (al (DG r 0 (by omega)) rfl rfl rfl (by simp only [ay,Nat.reduceLT]) (by repeat (first|exact trivial|constructor)) (aa ae ?_))
   ·omega
   simp only [ak,fl,gp,aj,simprocAttr,au,bD (show i < R.length by omega),hr,decide_eq_true hmem,tY]
   refine af ?_ (hK _ ?_)<;>clear hK K
   ·first|exact trivial|omega|(simp only [ah] at *; omega)|(simp [ah] at *; omega)|simp_all
   refine qa ?_
   refine an rfl (fun hC5=>?_) (fun hC5=>?_)
   ·(try simp only [aI] at hC5)
    first|exact absurd rfl hC5|exact hC5.elim|cases hC5|(simp at hC5; done)
   (try simp only [aI] at hC5)
   refine qh (qa (qj (qc (qf (qa ?_)))))
   refine ab fun K hK=>aa ae ?_
   simp only [ak,fl,gp,aj,simprocAttr]
   refine af ?_ (hK _ ?_)<;>clear hK K
   ·first|exact trivial|omega|(simp only [ah] at *; omega)|(simp [ah] at *; omega)|simp_all
   refine qa ?_
   refine ⟨i + 1,[],by omega,by omega,by simp only [leq,bh,ak,fl,gp,aj,simprocAttr]<;>first|trivial|omega|skip⟩
  (try simp only [aI] at hC4)
  refine qh (qa (qm ?_))
  refine ab fun K hK=>aa ae ?_
  simp only [ak,fl,gp,aj,simprocAttr]
  refine af trivial (hK _ ?_)<;>clear hK K
  refine qa (ql ?_)
  refine aA (ι:=Nat) (fun j=>⟨102,[(3,.p (.int .i64 p)),(4,.p (.list (ll R))),(5,.p (.list (ll L))),(7,.p (.int .i64 (o:Nat))),(8,.p (.int .i64 i)),(9,.p (.int .i64 j))],[]⟩) (fun j=>j≤k) (fun j=>k - j) 0 (Nat.zero_le _) [] (by simp only [leq,bh,ak,fl,gp,aj,simprocAttr]<;>first|trivial|rfl|skip) fun j hj=>?_
  refine qm (qm ?_)
  refine ab fun K hK=>aa ae ?_
  simp only [ak,fl,gp,aj,simprocAttr,au,t3]
  refine af trivial (hK _ ?_)<;>clear hK K
  refine qa ?_
  refine an rfl (fun hC6=>?_) (fun hC6=>?_)
  ·(try simp only [aI] at hC6)
   have hjk:j < k:=by omega
   obtain ⟨r',hr'⟩:∃ r',R.getD j []=r':=⟨_,rfl⟩
   have hrl' : r'.length=k:=by rw [← hr']; exact (t4 _ (aC (by omega))).1
   have hrg' : ed p r':=by rw [← hr']; exact (t4 _ (aC (by omega))).2
   have hin:=hlri j hjk hC4
   rw [hr'] at hin
   have hml:∀ c,(AG p r r' c).length=c:=fun c=>by simp [AG]
   refine qh (qa (qm (ql (qm ?_))))
   refine ab fun K hK=>aa ae ?_
   simp only [ak,fl,gp,aj,simprocAttr]
   refine af trivial (hK _ ?_)<;>clear hK K
   refine qa (qm (qm ?_))
   refine bT 10 rfl ?_
   refine ab fun K hK=>aa ae ?_
   simp only [ak,fl,gp,aj,simprocAttr]
   refine af trivial (hK _ ?_)<;>clear hK K
   refine qa (ql ?_)
   refine aA (ι:=Nat) (fun c=>⟨102,[(3,.p (.int .i64 p)),(4,.p (.list (ll R))),(5,.p (.list (ll L))),(7,.p (.int .i64 (o:Nat))),(8,.p (.int .i64 i)),(9,.p (.int .i64 j)),(10,.sl 0 0 c),(11,.p (.int .i64 c))],[.own (ol (AG p r r' c))]⟩) (fun c=>c≤k) (fun c=>k - c) 0 (Nat.zero_le _) [0] (by simp only [leq,bh,ak,fl,gp,aj,simprocAttr]<;>first|trivial|(simp [AG,kv]; done)|skip) fun c hc=>?_
   refine qm (qm ?_)
   refine ab fun K hK=>aa ae ?_
   simp only [ak,fl,gp,aj,simprocAttr,au,hll]
   refine af trivial (hK _ ?_)<;>clear hK K
   refine qa ?_
   refine an rfl (fun hC7=>?_) (fun hC7=>?_)
   ·(try simp only [aI] at hC7)
    have hck:c < k:=by omega
    have m1:=jj (p:=p) (by omega) (hrg c).1 (hrg c).2 (hrg' c).1 (hrg' c).2
    have e1:Int.tmod (r.getD c 0 * r'.getD c 0) p=r.getD c 0 * r'.getD c 0 % p:=Int.tmod_eq_emod_of_nonneg m1.1
    have hsn:AG p r r' c++[r.getD c 0 * r'.getD c 0 % (p:Nat)]=AG p r r' (c + 1):=by unfold AG; rw [List.range_succ,List.map_append]; rfl
    have hmc:=hml c
    have hdt:List.take c (AG p r r' c)=AG p r r' c:=List.take_of_length_le (by omega)
    refine qh (qa (qm (ql ?_)))
    refine bf mixed (by kernel_rfl) fun K hK=>aa ae ?_
    simp only [ak,fl,gp,aj,simprocAttr,au,bD (show i < R.length by omega),hr,bD (show j < R.length by omega),hr',aJ,aW (show c < r.length by omega),aW (show c < r'.length by omega),e1,hmc,hdt,hsn]
    refine af ?_ (hK _ ?_)<;>clear hK K
    ·simp only [ah]; omega
    refine qd (qa ?_)
    refine ab fun K hK=>aa ae ?_
    simp only [ak,fl,gp,aj,simprocAttr]
    refine af ?_ (hK _ ?_)<;>clear hK K
    ·first|exact trivial|omega|(simp only [ah] at *; omega)|(simp [ah] at *; omega)|simp_all
    refine qa ?_
    refine ⟨c + 1,[1],by omega,by omega,?_⟩
    have hmc2:=hml (c + 1)
    simp only [leq,bh,ak,fl,gp,aj,simprocAttr]<;>first|trivial|omega|skip
   (try simp only [aI] at hC7)
   have hck:c=k:=by omega
   rw [hck]
   obtain ⟨W,hWd⟩:∃ W,AG p r r' k=W:=⟨_,rfl⟩
   have hWl:W.length=k:=by rw [← hWd]; exact hml k
   rw [hWd] at hin ⊢
   refine cJ 0 rfl (jv (il W)) ?_
   refine lj 10 rfl ⟨by rw [aJ]; omega,by rw [List.drop_zero,List.take_of_length_le (by rw [aJ]; omega)]; exact gL _⟩ ?_
   simp only [aE,List.set,List.drop_zero]
   rw [List.take_of_length_le (by rw [aJ]; omega)]
   refine qj (qc (qc (qf (qa (qm ?_)))))
   refine ab fun K hK=>aa ae ?_
   simp only [ak,fl,gp,aj,simprocAttr]
   refine af trivial (hK _ ?_)<;>clear hK K
   refine qa (qm (qm ?_))
   refine ab fun K hK=>aa ae ?_
   simp only [ak,fl,gp,aj,simprocAttr]
   refine af trivial (hK _ ?_)<;>clear hK K
   refine qa (ql ?_)
   refine aA (ι:=Nat) (fun q=>⟨102,[(3,.p (.int .i64 p)),(4,.p (.list (ll R))),(5,.p (.list (ll L))),(7,.p (.int .i64 (o:Nat))),(8,.p (.int .i64 i)),(9,.p (.int .i64 j)),(10,.p (.list (il W))),(12,.p (.bool (CP R W q))),(13,.p (.int .i64 q))],[]⟩) (fun q=>q≤k) (fun q=>k - q) 0 (Nat.zero_le _) [] (by simp only [leq,bh,ak,fl,gp,aj,simprocAttr]<;>first|trivial|rfl|skip) fun q hq=>?_
   refine qm (qm ?_)
   refine ab fun K hK=>aa ae ?_
   simp only [ak,fl,gp,aj,simprocAttr,au,t3]
   refine af trivial (hK _ ?_)<;>clear hK K
   refine qa ?_
   refine an rfl (fun hC8=>?_) (fun hC8=>?_)
   ·(try simp only [aI] at hC8)
    have hqk:q < k:=by omega
    obtain ⟨s,hs⟩:∃ s,R.getD q []=s:=⟨_,rfl⟩
    have hsl:s.length=k:=by rw [← hs]; exact (t4 _ (aC (by omega))).1
    have hI1:CP R W (q + 1)=(CP R W q || decide (s=W)):=by rw [CP,hs]
    refine qh (qa (qm (ql ?_)))
    cases hsame:CP R W q
    ·refine ab fun K hK=>aa ae ?_
     simp only [ak,fl,gp,aj,simprocAttr,hsame,au,bD (show q < R.length by omega),hs]
     refine ao ?_ (al (Ak s W (by omega)) rfl rfl rfl (by simp only [ay,Nat.reduceLT]) (by repeat (first|exact trivial|constructor)) (aa ae ?_))
     ·omega
     simp only [ak,fl,gp,aj,simprocAttr,hsame,au,bD (show q < R.length by omega),hs]
     refine af ?_ (hK _ ?_)<;>clear hK K
     ·first|trivial|omega
     refine qd (qa ?_)
     refine ab fun K hK=>aa ae ?_
     simp only [ak,fl,gp,aj,simprocAttr]
     refine af ?_ (hK _ ?_)<;>clear hK K
     ·first|exact trivial|omega|(simp only [ah] at *; omega)|(simp [ah] at *; omega)|simp_all
     refine qa ?_
     rw [hsame,Bool.false_or] at hI1
     refine ⟨q + 1,[],by omega,by omega,?_⟩
     rw [hI1]
     simp only [leq,bh,ak,fl,gp,aj,simprocAttr]<;>first|trivial|rfl|omega|skip
    refine ab fun K hK=>aa ae ?_
    simp only [ak,fl,gp,aj,simprocAttr,hsame,au,bD (show q < R.length by omega),hs]
    refine af ?_ (hK _ ?_)<;>clear hK K
    ·first|trivial|omega
    refine qd (qa ?_)
    refine ab fun K hK=>aa ae ?_
    simp only [ak,fl,gp,aj,simprocAttr]
    refine af ?_ (hK _ ?_)<;>clear hK K
    ·first|exact trivial|omega|(simp only [ah] at *; omega)|(simp [ah] at *; omega)|simp_all
    refine qa ?_
    rw [hsame,Bool.true_or] at hI1
    refine ⟨q + 1,[],by omega,by omega,?_⟩
    rw [hI1]
    simp only [leq,bh,ak,fl,gp,aj,simprocAttr]<;>first|trivial|rfl|omega|skip
   (try simp only [aI] at hC8)
   have hqk:q=k:=by omega
   have hit:=BA hin
   rw [t3] at hit
   rw [hqk,hit]
   refine qj (qc (qc (qf (qa (qm ?_)))))
   refine ab fun K hK=>aa ae ?_
   simp only [ak,fl,gp,aj,simprocAttr]
   refine af trivial (hK _ ?_)<;>clear hK K
   refine qa ?_
   refine an rfl (fun hC9=>?_) (fun hC9=>?_)
   ·(try simp only [aI] at hC9)
    first|exact absurd rfl hC9|exact hC9.elim|cases hC9|(simp at hC9; done)
   (try simp only [aI] at hC9)
   refine qh (qd (qa ?_))
   refine ab fun K hK=>aa ae ?_
   simp only [ak,fl,gp,aj,simprocAttr]
   refine af ?_ (hK _ ?_)<;>clear hK K
   ·first|exact trivial|omega|(simp only [ah] at *; omega)|(simp [ah] at *; omega)|simp_all
   refine qa ?_
   refine ⟨j + 1,[],by omega,by omega,by simp only [leq,bh,ak,fl,gp,aj,simprocAttr]<;>first|trivial|omega|skip⟩
  (try simp only [aI] at hC6)
  refine qj (qc (qc (qf (qd (qa ?_)))))
  refine ab fun K hK=>aa ae ?_
  simp only [ak,fl,gp,aj,simprocAttr]
  refine af ?_ (hK _ ?_)<;>clear hK K
  ·first|exact trivial|omega|(simp only [ah] at *; omega)|(simp [ah] at *; omega)|simp_all
  refine qa ?_
  refine ⟨i + 1,[],by omega,by omega,by simp only [leq,bh,ak,fl,gp,aj,simprocAttr]<;>first|trivial|omega|skip⟩
 (try simp only [aI] at hC3)
 refine qj (qc (qc (qf (qa (qm ?_)))))
 refine ab fun K hK=>aa ae ?_
 simp only [ak,fl,gp,aj,simprocAttr]
 refine af trivial (hK _ ?_)<;>clear hK K
 refine qa (qk ?_)
 simp only [Tryd.results9,cy,ak,fl,gp,aj,simprocAttr]
 all_goals ((first|exact rfl|exact ⟨rfl,rfl⟩|exact ⟨rfl,rfl,rfl⟩|exact ⟨trivial,rfl⟩|exact ⟨Nat.le_refl _,rfl⟩|trivial|(simp; done)))
theorem o0 (N:Int) (m:List Int) (hm:m.length≤1000000000000000):cL Tryd.prog 9 [gp N m] (.bool true):=by
 by_cases hf:(gf N m).1=0
 ·obtain ⟨n,e,h,_⟩:=Dt hf
  obtain rfl:N=(n:Int):=h.1
  by_cases hc:aX m n e≤24
  ·exact nx h hc
  exact jx _ m 2 0 (by decide) (Cp h (by omega))
 exact jx N m (gf N m).1 (gf N m).2 hf (G0 N m hm hf)
open Go.Pv Go.ChangeShapes Go.WideShapes Go.ChangeAt Go.WideElems Go.RowKit
theorem own:ownKnob Tryd.prog.godebug=none:=by kernel_rfl
theorem laidOut:laidOutB Tryd.prog=true:=by kernel_rfl
theorem gG:Tryd.prog.globalNamed "math/bits.deBruijn64tab" = some 0:=by kernel_rfl
theorem tG:(Tryd.prog.globals[0]?).map (·.type)=some 113:=by kernel_rfl
theorem cG:Tryd.prog.cellsOf 5=1:=by kernel_rfl
theorem zC (os:Os) (args:Array Value):laidMetH Tryd.prog [("math/bits.deBruijn64tab",Rows.laid_math_bits_deBruijn64tab)] ((World.doorLaid Tryd.prog 4000 os).forCall (fun _ _=>0) ⟨#[],args,[]⟩).memory:=
 laidMetH_of_parts3 (fuel:=8) (laidMet_of_run' 8 (by kernel_rfl) (by kernel_rfl)) (by kernel_rfl) (by kernel_rfl)
def GM:DataW Unit→PV
 | .lit (.int k n)=>.int k n
 | _=>.nil
def datum:List (DataW Unit)→List PV:=List.map GM
theorem uM:(match (Rows.laid_math_bits_deBruijn64tab:DataW Unit) with | .agg l=>datum l | _=>[])=iK:=rfl
theorem Cv {W:World} (h:laidMetH Tryd.prog [("math/bits.deBruijn64tab",Rows.laid_math_bits_deBruijn64tab)] W):oW (fun b=>b < W.heap.size) W:=by
 refine ⟨fun b h=>h,fun g l hg=>?_⟩
 have hg2:g=0∧l=iK:=by
  unfold gv at hg
  by_cases e:g=0
  ·subst e; exact ⟨rfl,(Option.some.inj hg).symm⟩
  have:(g == 0)=false:=by simpa using e
  rw [this] at hg; simp at hg
 obtain ⟨rfl,rfl⟩:=hg2
 rw [MakeChecks.laidMetH_plain _ _ _ (by kernel_rfl)] at h
 obtain ⟨ps,⟨g0,t0,cs0,f0,p0,q0,hg0,ht0,hv0,hd0,_,_⟩,_,_⟩:=h
 obtain rfl:=Option.some.inj (gG.symm.trans hg0)
 obtain rfl:=Option.some.inj (tG.symm.trans ht0)
 obtain ⟨xs,m1,rfl,hx1,hlen,hn3,hel⟩:=DataW.trod_array Tryd.underlying113 hd0
 have hd1:Rows.laid_math_bits_deBruijn64tab=DataW.agg (xs.map (·.1)):=congrArg Prod.fst hx1
 have hgl:iK=datum (xs.map (·.1)):=by
  rw [← uM,hd1]
 have key:∀ c (h:c < iK.length),W.cell? ⟨0,0 + c,none⟩=some ((cs0[c]?).getD undef)∧Reads (fun b=>b < W.heap.size) W iK[c] ((cs0[c]?).getD undef):=by
  intro c hc
  have hc2:c < 64:=Nat.lt_of_lt_of_le hc (by decide)
  have hcx:c < xs.length:=by omega
  have h1:=hel c hc2
  rw [List.getElem?_eq_getElem hcx] at h1
  obtain ⟨k,e1,e2,_⟩:=DataW.trod_int Tryd.underlying5 h1
  rw [cG] at e1
  have e3:cs0.toList[c]? = some (.int .u8 k):=by
   have:=congrArg (fun l=>l[0]?) e1
   simpa [List.getElem?_take,List.getElem?_drop] using this
  have e4:cs0[c]? = some (.int .u8 k):=by simpa using e3
  have e5:iK[c] = .int .u8 k:=by
   have:iK[c]? = (datum (xs.map (·.1)))[c]?:=by rw [hgl]
   rw [List.getElem?_eq_getElem hc] at this
   simp only [datum,List.getElem?_map,List.getElem?_eq_getElem hcx,Option.map_some,Option.some.injEq] at this
   exact this.trans (by rw [e2]; rfl)
  refine ⟨?_,?_⟩
  ·rw [e4,Nat.zero_add,World.var?_cell gG hv0 c,e4]; rfl
  rw [e4]
  exact e5 ▸ (Reads.int .u8 k)
 refine .ptr _ _ _ (fun c=>(cs0[c]?).getD undef) ?_ (fun c hc=>(key c hc).1) fun c hc=>(key c hc).2
 have:=(key 0 (by decide)).1
 unfold World.cell? at this
 rcases Nat.lt_or_ge 0 W.heap.size with h | h
 ·exact h
 exfalso
 rw [Array.getElem?_eq_none h] at this
 simp at this
end Go.Proofs.YtjlmpmidchddjaaDoor
