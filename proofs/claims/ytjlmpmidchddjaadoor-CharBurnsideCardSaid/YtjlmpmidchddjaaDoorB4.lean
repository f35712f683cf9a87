/-
  Texts of this proof, one behind the other: what each says stands at its head. Conditions: none.
-/
import Derived.Test.YtjlmpmidchddjaaDoorB3
import Derived.Lib.SliceRun
import Derived.Test.YtjlmpmidchddjaaDoorB2
set_option linter.all false
namespace Go.Proofs.YtjlmpmidchddjaaDoor
open Go.Pv
def bo (n:Nat) (p:Nat→Bool):Nat:=Hm (dI n p)
theorem jm (n:Nat) (p:Nat→Bool) (i:Nat):(bo n p).testBit i=(decide (i < n) && p i):=by
 unfold bo
 rw [wA,Bool.eq_iff_iff,decide_eq_true_eq,Bool.and_eq_true,decide_eq_true_eq]
 constructor
 ·rintro ⟨x,hx,rfl⟩
  obtain ⟨a,h1,h2,rfl⟩:=jJ.1 hx
  exact ⟨h1,h2⟩
 rintro ⟨h1,h2⟩
 exact ⟨(i:Int),jJ.2 ⟨i,h1,h2,rfl⟩,rfl⟩
theorem Dl (n:Nat) (p:Nat→Bool):bo n p < 2 ^ n:=D7 fun x hx=>by
 obtain ⟨a,h1,_,rfl⟩:=jJ.1 hx
 exact h1
theorem nS {n:Nat} (hn:n≤60) (p:Nat→Bool):bo n p < 2 ^ 64:=Nat.lt_of_lt_of_le (Dl n p) (Nat.pow_le_pow_right (by omega) (by omega))
theorem lq {n:Nat} {p q:Nat→Bool} (h:∀ a,a < n→p a=q a):bo n p=bo n q:=by unfold bo; rw [qn h]
theorem EU {n:Nat} (hn:n≤60) (p:Nat→Bool):tR (bo n p)=dI n p:=by
 rw [G9 (by omega) (Dl n p)]
 exact qn fun a ha=>by rw [jm]; simp [ha]
theorem Ax {b:Nat} (hb:b < 64):2 ^ b < 2 ^ 64:=Nat.pow_lt_pow_right (by omega) hb
structure H7 (n:Nat) (f:Nat→Nat→Nat) (e s out:Nat) (w:List Int):Prop where
 lt:out < 2 ^ n
 one:out.testBit e=true
 gen:∀ a,out.testBit a=true→ua n f e s.testBit a
 wait:∀ x∈w,∃ a,x=((a:Nat):Int)∧out.testBit a=true
 nd:w.Nodup
theorem Es (s b i:Nat):(s ||| 2 ^ b).testBit i=(s.testBit i || decide (b=i)):=by rw [Nat.testBit_or,Nat.testBit_two_pow]
theorem sr {n:Nat} {p:Nat→Bool} {i j:Nat} (hij:i < j) (hj:j < (dI n p).length):(dI n p).getD i 0 < (dI n p).getD j 0:=by
 have:=List.pairwise_iff_getElem.1 (B5 n p) i j (by omega) hj hij
 simpa [List.getD,List.getElem?_eq_getElem hj,List.getElem?_eq_getElem (show i < (dI n p).length by omega)] using this
theorem qY {n:Nat} {p:Nat→Bool} {i:Nat} (hi:i < (dI n p).length):∃ a,a < n∧p a=true∧(dI n p).getD i 0=((a:Nat):Int):=by
 have:(dI n p).getD i 0∈dI n p:=by simp [List.getD,List.getElem?_eq_getElem hi]
 exact jJ.1 this
theorem yZ {n:Nat} {p:Nat→Bool} {a:Nat} (ha:a < n) (h:p a=true):∃ i,i < (dI n p).length∧(dI n p).getD i 0=((a:Nat):Int):=by
 obtain ⟨i,hi,e⟩:=List.getElem_of_mem (jJ.2 ⟨a,ha,h,rfl⟩)
 exact ⟨i,hi,by simp [List.getD,List.getElem?_eq_getElem hi,e]⟩
theorem eG {n:Nat} {p:Nat→Bool} {a:Nat} (ha:a < n):((a:Nat):Int)∈dI n p↔p a=true:=by
 rw [jJ]
 constructor
 ·rintro ⟨b,_,h2,e⟩
  have:a=b:=by omega
  subst this; exact h2
 exact fun h=>⟨a,ha,h,rfl⟩
def Hl (r:Nat→Bool) (a i:Nat):Bool:=r i || decide (i=a)
def Ba (g:Nat→Nat→Int) (n:Nat):Nat→List Int:=rg fun i=>g (i / n) (i % n)
def Ik (g:Nat→Nat→Int) (n:Nat):List Int:=Ba g n (n * n)
theorem sk (g:Nat→Nat→Int) {n a b:Nat} (hb:b < n):Ba g n (a * n + (b + 1))=Ba g n (a * n + b)++[g a b]:=by
 unfold Ba
 rw [← Nat.add_assoc,vV]
 have h1:(a * n + b) / n=a:=by
  rw [Nat.mul_comm,Nat.mul_add_div (by omega),Nat.div_eq_of_lt hb]; omega
 have h2:(a * n + b) % n=b:=by
  rw [Nat.mul_comm,Nat.mul_add_mod,Nat.mod_eq_of_lt hb]
 simp only [h1,h2]
theorem Cl (g:Nat→Nat→Int) (n k:Nat):(Ba g n k).length=k:=uT _ k
def x9 (n a b:Nat):Nat:=(a % n + (if a / n=1 then n - b % n else b % n)) % n + (a / n + b / n) % 2 * n
theorem Ao (a:Nat):Int.tmod (a:Int) 2=((a % 2:Nat):Int):=rfl
def Hn (p:Int→Bool) (l:List Int):Int:=match bO (fun i=>p (l.getD i 0)) l.length with | some i=>(i:Int) | none=>-1
theorem r6 (l:List Int) (F:FuncId) (caps:List PV) (p:Int→Bool) (hl:l.length≤1000000) (hF:∀ x∈l,cL Tryd.prog F (.int .i64 x :: caps) (.bool (p x))):cL Tryd.prog 102 [.list (il l),.fn F caps] (.int .i64 (Hn p l)):=by
 refine aM ae Tryd.func102 rfl (by kernel_rfl) (by rw [Tryd.ntmps102]; exact Nat.le_add_left 2 _) ?_; rw [Tryd.ntmps102]
 refine qm ?_
 refine ab fun K hK=>aa ae ?_
 simp only [ak,fl,gp,aj,simprocAttr]
 refine af trivial (hK _ ?_)<;>clear hK K
 refine qa (qm (qm ?_))
 refine ab fun K hK=>aa ae ?_
 simp only [ak,fl,gp,aj,simprocAttr]
 refine af trivial (hK _ ?_)<;>clear hK K
 refine qa (ql ?_)
 refine aA (ι:=Nat) (fun i=>⟨19,[(0,.p (.list (il l))),(1,.p (.fn F caps)),(7,.p (.int .i64 l.length)),(8,.p (.int .i64 i))],[]⟩) (fun i=>i≤l.length∧∀ j,j < i→p (l.getD j 0)=false) (fun i=>l.length - i) 0 ⟨Nat.zero_le _,fun j hj=>by omega⟩ [] (by simp only [leq,bh,ak,fl,gp,aj,simprocAttr]<;>trivial) fun i hi=>?_
 obtain ⟨hi1,hi2⟩:=hi
 refine qm ?_
 refine ab fun K hK=>aa ae ?_
 simp only [ak,fl,gp,aj,simprocAttr]
 refine af trivial (hK _ ?_)<;>clear hK K
 refine qa (qm ?_)
 refine an rfl (fun hC1=>?_) (fun hC1=>?_)
 ·(try simp only [aI] at hC1)
  have hlt:i < l.length:=by omega
  have hmem:l.getD i 0∈l:=by simp [List.getD,List.getElem?_eq_getElem hlt]
  refine qh (qa (qm (ql (qm ?_))))
  refine ab fun K hK=>aa ae ?_
  simp only [ak,fl,gp,aj,simprocAttr]
  refine af trivial (hK _ ?_)<;>clear hK K
  refine qa (qm ?_)
  refine ab fun K hK=>aa ae ?_
  simp only [ak,fl,gp,aj,simprocAttr,aW hlt]
  refine ao ?_ (al (hF _ hmem) rfl rfl rfl (by simp only [ay,Nat.reduceLT]) (by repeat (first|exact trivial|constructor)) (aa ae ?_))
  ·first|exact trivial|omega|(simp only [ah] at *; omega)|(simp [ah] at *; omega)|simp_all
  simp only [ak,fl,gp,aj,simprocAttr,aW hlt]
  refine af ?_ (hK _ ?_)<;>clear hK K
  ·first|exact trivial|omega|(simp only [ah] at *; omega)|(simp [ah] at *; omega)|simp_all
  refine qa ?_
  refine an rfl (fun hC2=>?_) (fun hC2=>?_)
  ·(try simp only [aI] at hC2)
   refine qm ?_
   refine ab fun K hK=>aa ae ?_
   simp only [ak,fl,gp,aj,simprocAttr]
   refine af trivial (hK _ ?_)<;>clear hK K
   refine qa (qk (qe (qb (qb (qe (qb ?_))))))
   simp only [Tryd.results102,cy,ak,fl,gp,aj,simprocAttr]
   all_goals (unfold Hn; rw [dc hlt hC2 hi2])
  (try simp only [aI] at hC2)
  refine qh (qd (qa ?_))
  refine ab fun K hK=>aa ae ?_
  simp only [ak,fl,gp,aj,simprocAttr]
  refine af ?_ (hK _ ?_)<;>clear hK K
  ·first|exact trivial|omega|(simp only [ah] at *; omega)|(simp [ah] at *; omega)|simp_all
  refine qa ?_
  refine ⟨i + 1,[],⟨by omega,fun j hj=>?_⟩,by omega,?_⟩
  ·by_cases hj2:j=i
   ·subst hj2; exact hC2
   exact hi2 j (by omega)
  simp only [leq,bh,ak,fl,gp,aj,simprocAttr]<;>omega
 (try simp only [aI] at hC1)
 refine qj (qc (qc (qf (qa (qm ?_)))))
 refine ab fun K hK=>aa ae ?_
 simp only [ak,fl,gp,aj,simprocAttr]
 refine af trivial (hK _ ?_)<;>clear hK K
 refine qa (qk ?_)
 simp only [Tryd.results102,cy,ak,fl,gp,aj,simprocAttr]
 all_goals (unfold Hn; rw [ep fun j hj=>hi2 j (by omega)])
def wO:List Int:=Ik (fun a b=>(x9 4 a b:Nat)) 8
theorem Ff:(gf 8 wO).1=0:=by decide +kernel
theorem Fl:∃ e,GT (8:Nat) wO 8 e:=by
 obtain ⟨n,e,h,_⟩:=Dt Ff
 obtain rfl:n=8:=by have:=h.1; omega
 exact ⟨e,h⟩
theorem HI (a:Nat):Int.tmod (a:Int) 4=((a % 4:Nat):Int):=rfl
theorem Ic (a:Nat):Int.tdiv (a:Int) 4=((a / 4:Nat):Int):=rfl
theorem yK:cL Tryd.prog 55 [] (gp 8 wO):=by
 have hlen:=Cl (fun a b=>(x9 4 a b:Nat)) 8
 refine aM ae Tryd.func55 rfl (by kernel_rfl) (by rw [Tryd.ntmps55]; exact Nat.le_add_left 0 _) ?_; rw [Tryd.ntmps55]
 refine qm ?_
 refine ab fun K hK=>aa ae ?_
 simp only [ak,fl,gp,aj,simprocAttr]
 refine af ?_ (hK _ ?_)<;>clear hK K
 ·first|exact trivial|omega|(simp only [ah] at *; omega)|(simp [ah] at *; omega)|simp_all
 refine qa (qm ?_)
 refine ab fun K hK=>aa ae ?_
 simp only [ak,fl,gp,aj,simprocAttr]
 refine af ?_ (hK _ ?_)<;>clear hK K
 ·first|exact trivial|omega|(simp only [ah] at *; omega)|(simp [ah] at *; omega)|simp_all
 refine qa (qm (qm ?_))
 refine za 1 1 rfl rfl ?_
 simp only [aE,List.cons_append,List.nil_append,List.set,List.length_cons,List.length_nil]
 refine ab fun K hK=>aa ae ?_
 simp only [ak,fl,gp,aj,simprocAttr]
 refine af trivial (hK _ ?_)<;>clear hK K
 refine qa (ql ?_)
 refine aA (ι:=Nat) (fun a=>⟨39,[(0,.ptr 0 0),(1,.ptr 1 0),(2,.p (.int .i64 a))],[.own [.p (.int .i64 0),.p .nil],.own [.p (.int .i64 8),.sl 2 0 (Ba (fun a b=>(x9 4 a b:Nat)) 8 (a * 8)).length],.own (ol (Ba (fun a b=>(x9 4 a b:Nat)) 8 (a * 8)))]⟩) (fun a=>a≤8) (fun a=>8 - a) 0 (Nat.zero_le _) [0,1,2] (by simp only [leq,bh,ak,fl,gp,aj,simprocAttr]<;>simp [Ba,rg,kv]) fun a ha=>?_
 refine qm (qm ?_)
 refine ab fun K hK=>aa ae ?_
 simp only [ak,fl,gp,aj,simprocAttr]
 refine af trivial (hK _ ?_)<;>clear hK K
 refine qa ?_
 refine an rfl (fun hC1=>?_) (fun hC1=>?_)
 ·(try simp only [aI] at hC1)
  have hal:a < 8:=by omega
  refine qh (qa (qm (ql (qm ?_))))
  refine ab fun K hK=>aa ae ?_
  simp only [ak,fl,gp,aj,simprocAttr]
  refine af trivial (hK _ ?_)<;>clear hK K
  refine qa (ql ?_)
  refine aA (ι:=Nat) (fun b=>⟨39,[(0,.ptr 0 0),(1,.ptr 1 0),(2,.p (.int .i64 a)),(3,.p (.int .i64 b))],[.own [.p (.int .i64 0),.p .nil],.own [.p (.int .i64 8),.sl 2 0 (Ba (fun a b=>(x9 4 a b:Nat)) 8 (a * 8 + b)).length],.own (ol (Ba (fun a b=>(x9 4 a b:Nat)) 8 (a * 8 + b)))]⟩) (fun b=>b≤8) (fun b=>8 - b) 0 (Nat.zero_le _) [0,1,2] (by rw [Nat.add_zero]; simp only [leq,bh,ak,fl,gp,aj,simprocAttr]<;>trivial) fun b hb=>?_
  refine qm (qm ?_)
  refine ab fun K hK=>aa ae ?_
  simp only [ak,fl,gp,aj,simprocAttr]
  refine af trivial (hK _ ?_)<;>clear hK K
  refine qa ?_
  refine an rfl (fun hC2=>?_) (fun hC2=>?_)
  ·(try simp only [aI] at hC2)
   have hbl:b < 8:=by omega
   have hl:=hlen (a * 8 + b)
   have hs:(4:Int) - ((b % 4:Nat):Int)=((4 - b % 4:Nat):Int):=by omega
   have hm:(((a / 4 + b / 4) % 2:Nat):Int) * 4=(((a / 4 + b / 4) % 2 * 4:Nat):Int):=by omega
   refine qh (qa (qm (ql (qm ?_))))
   refine ab fun K hK=>aa ae ?_
   simp only [ak,fl,gp,aj,simprocAttr,HI]
   refine af ?_ (hK _ ?_)<;>clear hK K
   ·first|exact trivial|omega|(simp only [ah] at *; omega)|(simp [ah] at *; omega)|simp_all
   refine qa (qm (qm ?_))
   refine ab fun K hK=>aa ae ?_
   simp only [ak,fl,gp,aj,simprocAttr]
   refine af trivial (hK _ ?_)<;>clear hK K
   refine qa ?_
   refine an rfl (fun hC3=>?_) (fun hC3=>?_)
   ·(try simp only [aI] at hC3)
    have hd:x9 4 a b=(a % 4 + (4 - b % 4)) % 4 + (a / 4 + b / 4) % 2 * 4:=by rw [x9,if_pos (by omega)]
    refine ab fun K hK=>aa ae ?_
    simp only [ak,fl,gp,aj,simprocAttr,hs]
    refine af ?_ (hK _ ?_)<;>clear hK K
    ·first|exact trivial|omega|(simp only [ah] at *; omega)|(simp [ah] at *; omega)|simp_all
    refine qa ?_
    refine ab fun K hK=>aa ae ?_
    simp only [ak,fl,gp,aj,simprocAttr,HI,Ic,← Int.natCast_add,Ao,hm]
    refine af ?_ (hK _ ?_)<;>clear hK K
    ·simp only [ah]; omega
    refine qd (qa ?_)
    refine ab fun K hK=>aa ae ?_
    simp only [ak,fl,gp,aj,simprocAttr]
    refine af ?_ (hK _ ?_)<;>clear hK K
    ·first|exact trivial|omega|(simp only [ah] at *; omega)|(simp [ah] at *; omega)|simp_all
    refine qa ?_
    refine ⟨b + 1,[0,1,3],by omega,by omega,?_⟩
    rw [sk (fun a b=>(x9 4 a b:Nat)) hbl]
    simp only [hd]
    simp only [leq,bh,ak,fl,gp,aj,simprocAttr]<;>first|trivial|omega
   (try simp only [aI] at hC3)
   have hd:x9 4 a b=(a % 4 + b % 4) % 4 + (a / 4 + b / 4) % 2 * 4:=by rw [x9,if_neg (by omega)]
   refine qh (qa ?_)
   refine ab fun K hK=>aa ae ?_
   simp only [ak,fl,gp,aj,simprocAttr,HI,Ic,← Int.natCast_add,Ao,hm]
   refine af ?_ (hK _ ?_)<;>clear hK K
   ·simp only [ah]; omega
   refine qd (qa ?_)
   refine ab fun K hK=>aa ae ?_
   simp only [ak,fl,gp,aj,simprocAttr]
   refine af ?_ (hK _ ?_)<;>clear hK K
   ·first|exact trivial|omega|(simp only [ah] at *; omega)|(simp [ah] at *; omega)|simp_all
   refine qa ?_
   refine ⟨b + 1,[0,1,3],by omega,by omega,?_⟩
   rw [sk (fun a b=>(x9 4 a b:Nat)) hbl]
   simp only [hd]
   simp only [leq,bh,ak,fl,gp,aj,simprocAttr]<;>first|trivial|omega
  (try simp only [aI] at hC2)
  have hbn:b=8:=by omega
  refine qj (qc (qc (qf (qd (qa ?_)))))
  refine ab fun K hK=>aa ae ?_
  simp only [ak,fl,gp,aj,simprocAttr]
  refine af ?_ (hK _ ?_)<;>clear hK K
  ·first|exact trivial|omega|(simp only [ah] at *; omega)|(simp [ah] at *; omega)|simp_all
  refine qa ?_
  refine ⟨a + 1,[0,1,2],by omega,by omega,?_⟩
  rw [hbn,show (a + 1) * 8=a * 8 + 8 by rw [Nat.add_mul,Nat.one_mul]]
  simp only [leq,bh,ak,fl,gp,aj,simprocAttr]<;>first|trivial|omega
 (try simp only [aI] at hC1)
 have han:a=8:=by omega
 refine qj (qc (qc (qf (qa (qm ?_)))))
 refine ab fun K hK=>aa ae ?_
 simp only [ak,fl,gp,aj,simprocAttr]
 refine af ?_ (hK _ ?_)<;>clear hK K
 ·first|exact trivial|omega|(simp only [ah] at *; omega)|(simp [ah] at *; omega)|simp_all
 refine qa (qk ?_)
 simp only [Tryd.results55,cy,ak,fl,gp,aj,simprocAttr]
 all_goals (simp [han,wO,Ik])
def ed (p:Nat) (v:List Int):Prop:=∀ j,0≤v.getD j 0∧v.getD j 0 < p
theorem nJ {p:Nat} {f:Nat→Int} {i j:Nat} {u:List Int} (hf:∀ t,0≤f t∧f t < p) (hu:ed p u):ed p (cO f i j u):=fun t=>by
 by_cases ht:t < u.length
 ·rw [df ht]
  split
  ·exact hf t
  exact hu t
 have:=hu t
 simp only [List.getD,List.getElem?_eq_none (show u.length≤t by omega),Option.getD_none] at this
 simpa [List.getD,List.getElem?_eq_none (show (cO f i j u).length≤t by rw [bF]; omega)] using this
theorem wD (p:Nat) (k:Int) (r b:List Int):(AM p k r b).length=r.length:=bF _ _ _ _
theorem z7 {p:Nat} (hp:0 < p) {k:Int} {r b:List Int} (h:ed p r):ed p (AM p k r b):=nJ (fun _=>bC hp _) h
theorem va (p:Nat) (k:Int) (r:List Int):(Ap p k r).length=r.length:=bF _ _ _ _
theorem um {p:Nat} (hp:0 < p) {k:Int} {r:List Int} (h:ed p r):ed p (Ap p k r):=nJ (fun _=>bC hp _) h
theorem ic (p:Nat) (out:List (List Int)) (at' : List Int) (r:List Int):∀ i,(mU p out at' r i).length=r.length
 | 0=>rfl
 | i + 1=>by
  rw [mU]; split
  ·exact ic p out at' r i
  rw [wD]; exact ic p out at' r i
theorem lL {p:Nat} (hp:0 < p) {out:List (List Int)} {at' : List Int} {r:List Int} (h:ed p r):∀ i,ed p (mU p out at' r i)
 | 0=>h
 | i + 1=>by
  rw [mU]; split
  ·exact lL hp h i
  exact z7 hp (lL hp h i)
theorem BW (p j:Nat) (r b:List Int):(uA p j r b).length=b.length:=by
 unfold uA; split
 ·rfl
 exact wD _ _ _ _
theorem Fy {p:Nat} (hp:0 < p) {j:Nat} {r b:List Int} (h:ed p b):ed p (uA p j r b):=by
 unfold uA; split
 ·exact h
 exact z7 hp h
theorem jR (p j:Nat) (r:List Int) (out:List (List Int)) (i:Nat):(fw p j r out i).length=out.length:=by simp [fw]
theorem vn {p j:Nat} {r:List Int} {out:List (List Int)} {i t:Nat} (h:t < out.length):(fw p j r out i).getD t []=if t < i then uA p j r (out.getD t []) else out.getD t []:=by
 simp [fw,List.getD,List.getElem?_map,List.getElem?_range h]
theorem zx (p j:Nat) (r:List Int) (out:List (List Int)):fw p j r out 0=out:=by
 refine List.ext_getElem (by simp [fw]) fun t h1 h2=>?_
 simp [fw,List.getD,List.getElem?_eq_getElem h2]
theorem Be {p j:Nat} {r:List Int} {out:List (List Int)} {i:Nat} (h:i < out.length):(fw p j r out i).set i (uA p j r (out.getD i []))=fw p j r out (i + 1):=by
 refine List.ext_getElem (by simp [fw]) fun t h1 h2=>?_
 have ht:t < out.length:=by simpa [fw] using h2
 rw [List.getElem_set]
 by_cases e:i=t
 ·subst e; simp [fw]
 rw [if_neg e]
 simp only [fw,List.getElem_map,List.getElem_range]
 by_cases e2:t < i
 ·rw [if_pos e2,if_pos (by omega)]
 rw [if_neg e2,if_neg (by omega)]
theorem aC {α:Type} {l:List α} {i:Nat} {d:α} (h:i < l.length):l.getD i d∈l:=by simp [List.getD,List.getElem?_eq_getElem h]
structure RI (p W:Nat) (S:List (List Int) × List Int):Prop where
 l1:S.2.length=S.1.length
 l2:∀ v∈S.1,v.length=W
 l3:∀ v∈S.1,ed p v
 l4:∀ i,i < S.2.length→0≤S.2.getD i 0∧S.2.getD i 0 < W
theorem wj {p j:Nat} {r:List Int} {out:List (List Int)} {i:Nat} {v:List Int} (h:v∈fw p j r out i):∃ b∈out,v=b∨v=uA p j r b:=by
 obtain ⟨t,ht,rfl⟩:=List.mem_map.1 h
 have:=List.mem_range.1 ht
 refine ⟨out.getD t [],aC this,?_⟩
 split
 ·exact .inr rfl
 exact .inl rfl
theorem BM {p W:Nat} (hp:0 < p) {S:List (List Int) × List Int} (h:RI p W S) {r:List Int} (hr:r.length=W) (hg:ed p r):RI p W (oX p S r):=by
 unfold oX
 split
 ·exact h
 rename_i j hj
 obtain ⟨j1,j2,_⟩:=cE hj
 rw [ic] at j1
 refine ⟨by simp [jR,h.l1],fun v hv=>?_,fun v hv=>?_,fun i hi=>?_⟩
 ·rcases List.mem_append.1 hv with hv | hv
  ·obtain ⟨b,b1,rfl | rfl⟩:=wj hv
   ·exact h.l2 _ b1
   rw [BW]; exact h.l2 _ b1
  rw [List.mem_singleton.1 hv,va,ic,hr]
 ·rcases List.mem_append.1 hv with hv | hv
  ·obtain ⟨b,b1,rfl | rfl⟩:=wj hv
   ·exact h.l3 _ b1
   exact Fy hp (h.l3 _ b1)
  rw [List.mem_singleton.1 hv]; exact um hp (lL hp hg _)
 simp only [List.length_append,List.length_singleton] at hi
 by_cases e:i < S.2.length
 ·have:=h.l4 i e
  simpa [List.getD,List.getElem?_append_left e] using this
 have e2:i=S.2.length:=by omega
 subst e2
 simp [List.getD]
 omega
theorem fH {p W:Nat} (hp:0 < p) {M:List (List Int)} (h1:∀ v∈M,v.length=W) (h2:∀ v∈M,ed p v):∀ k,k≤M.length→RI p W (cA p M k)
 | 0,_=>⟨rfl,fun v hv=>by simp [cA] at hv,fun v hv=>by simp [cA] at hv,fun i hi=>by simp [cA] at hi⟩
 | k + 1,hk=>BM hp (fH hp h1 h2 k (by omega)) (h1 _ (aC (by omega))) (h2 _ (aC (by omega)))
theorem yU (p:Nat) (S:List (List Int) × List Int) (r:List Int):(oX p S r).1.length≤S.1.length + 1:=by
 unfold oX; split
 ·omega
 simp [jR]
theorem gP (p:Nat) (M:List (List Int)):∀ k,(cA p M k).1.length≤k
 | 0=>Nat.le_refl _
 | k + 1=>by have:=yU p (cA p M k) (M.getD k []); have:=gP p M k; rw [cA]; omega
theorem cF {α:Type} (l:List α) (x d:α):(l++[x]).getD l.length d=x:=by simp [List.getD]
theorem eU {α:Type} {l:List α} (x d:α) {i:Nat} (h:i < l.length):(l++[x]).getD i d=l.getD i d:=by simp [List.getD,List.getElem?_append_left h]
theorem gR {α:Type} (l:List α) (x y:α):(l++[x]).set l.length y=l++[y]:=by simp
theorem zd {p:Nat} (hp:p≤1000000) {x k b:Int} (h1:0≤x∧x < p) (h2:0≤k∧k < p) (h3:0≤b∧b < p):ah (k * b)∧ah (x - k * b):=by
 have:=jj hp h2.1 h2.2 h3.1 h3.2
 simp only [ah]; omega
theorem nk {S s:St} {W q L:Nat} {a:List Int} {M:List (List Int)} (hn:S.n=s.n) (hH:S.H=s.H) (e:s.H = .own (b8 2 W q) :: .own (ol a) :: tl M) (hL:M.length + 2=L) (hq:q≤M.length) (hsl:∀ p∈S.sl,s.get p.1=p.2∧bb L p.2=true):Le (List.range L) S s:=by
 have e1:s.H.length=L:=by rw [e]; simp [aD]; omega
 subst e1
 refine nE hn hH (fun b hb=>?_) hsl
 rw [e] at hb
 rcases List.mem_cons.1 hb with rfl | hb
 ·exact jk (by omega)
 rcases List.mem_cons.1 hb with rfl | hb
 ·exact fW _ _
 exact qy _ _ b hb
set_option maxHeartbeats 4000000 in
set_option maxRecDepth 20000 in
theorem sO {p W:Nat} (hp2:2≤p) (hp:p≤1000000) (hW:0 < W) (hW2:W≤1000) (M:List (List Int)) (hM:M.length≤1000) (h1:∀ v∈M,v.length=W) (h2:∀ v∈M,ed p v) :
  cL Tryd.prog 77 [.int .i64 p,.list (ll M)] (.tup [.list (ll (cA p M M.length).1),.list (il (cA p M M.length).2)]):=by
 refine aM ae Tryd.func77 rfl (by kernel_rfl) (by rw [Tryd.ntmps77]; exact Nat.le_add_left 2 _) ?_; rw [Tryd.ntmps77]
 refine qm ?_
 refine ab fun K hK=>aa ae ?_
 simp only [ak,fl,gp,aj,simprocAttr]
 refine af trivial (hK _ ?_)<;>clear hK K
 refine qa (qm ?_)
 refine ab fun K hK=>aa ae ?_
 simp only [ak,fl,gp,aj,simprocAttr]
 refine af trivial (hK _ ?_)<;>clear hK K
 refine qa (qm ?_)
 refine ab fun K hK=>aa ae ?_
 simp only [ak,fl,gp,aj,simprocAttr]
 refine af trivial (hK _ ?_)<;>clear hK K
 refine qa (qm (qm ?_))
 refine bT 6 rfl ?_
 refine bT 7 rfl ?_
 refine ab fun K hK=>aa ae ?_
 simp only [ak,fl,gp,aj,simprocAttr,au]
 refine af trivial (hK _ ?_)<;>clear hK K
 refine qa (ql ?_)
 refine aA (ι:=Nat) (fun k=>⟨153,[(0,.p (.int .i64 p)),(6,.sl 0 0 (cA p M k).1.length),(7,.sl 1 0 (cA p M k).1.length),(21,.p (.list (ll M))),(22,.p (.int .i64 M.length)),(23,.p (.int .i64 k))],.own (b8 2 W (cA p M k).1.length) :: .own (ol (cA p M k).2) :: tl (cA p M k).1⟩) (fun k=>k≤M.length) (fun k=>M.length - k) 0 (Nat.zero_le _) [0,1] (by simp only [leq,bh,ak,fl,gp,aj,simprocAttr]<;>simp [cA,b8,tl,kv,kp]) fun k hk=>?_
 have hri:=fH (W:=W) (p:=p) (by omega) h1 h2 k hk
 have hql:=gP p M k
 have hsucc:cA p M (k + 1)=oX p (cA p M k) (M.getD k []):=rfl
 generalize hS:cA p M k=S at *
 obtain ⟨out,at'⟩:=S
 obtain ⟨l1,l2,l3,l4⟩:=hri
 simp only at l1 l2 l3 l4 hql hsucc
 obtain ⟨q,hq⟩:∃ q,out.length=q:=⟨_,rfl⟩
 simp only [hq] at l1 ⊢
 refine qm ?_
 refine ab fun K hK=>aa ae ?_
 simp only [ak,fl,gp,aj,simprocAttr]
 refine af trivial (hK _ ?_)<;>clear hK K
 refine qa (qm ?_)
 refine an rfl (fun hC1=>?_) (fun hC1=>?_)
 ·(try simp only [aI] at hC1)
  have hkl:k < M.length:=by omega
  obtain ⟨r,hr⟩:∃ r,M.getD k []=r:=⟨_,rfl⟩
  have hrl:r.length=W:=by rw [← hr]; exact h1 _ (aC hkl)
  have hrg:ed p r:=by rw [← hr]; exact h2 _ (aC hkl)
  have hrn:r ≠ []:=by intro e; rw [e] at hrl; simp at hrl; omega
  rw [hr] at hsucc
  refine qh (qa (qm (ql (qm ?_))))
  refine ab fun K hK=>aa ae ?_
  simp only [ak,fl,gp,aj,simprocAttr,au,bD hkl,hr]
  refine af ?_ (hK _ ?_)<;>clear hK K
  ·omega
  refine qa (qm ?_)
  refine ab fun K hK=>aa ae ?_
  simp only [ak,fl,gp,aj,simprocAttr]
  refine ao trivial (kc (we r hrn (by omega)) rfl rfl (by first|rfl|(simp [Dk,bb,br,bE]; done)|(simp only [Dk,List.all_cons,List.all_nil,fW,Bool.and_true]; rfl)) (by simp only [ay,Nat.reduceLT]) (by repeat (first|exact trivial|constructor)) (aa ae ?_))
  simp only [Go.Pv.kx,List.range',aL.bl,kT,bl,bu,ak,fl,gp,aj,simprocAttr,aD,hq]
  refine af trivial (hK _ ?_)<;>clear hK K
  refine qa (qm (qm ?_))
  refine ab fun K hK=>aa ae ?_
  simp only [ak,fl,gp,aj,simprocAttr]
  refine af trivial (hK _ ?_)<;>clear hK K
  refine qa (ql ?_)
  refine aA (ι:=Nat) (fun i=>⟨153,[(0,.p (.int .i64 p)),(6,.sl 0 0 q),(7,.sl 1 0 q),(9,.sl (q + 2) 0 W),(21,.p (.list (ll M))),(22,.p (.int .i64 M.length)),(23,.p (.int .i64 k)),(29,.sl 0 0 q),(30,.p (.int .i64 q)),(31,.p (.int .i64 i))],.own (b8 2 W q) :: .own (ol at') :: tl (out++[mU p out at' r i])⟩) (fun i=>i≤q) (fun i=>q - i) 0 (Nat.zero_le _) (List.range (q + 3)) (nk (W:=W) (q:=q) (a:=at') (M:=out++[r]) rfl (by simp [mU,tl]) (by simp [tl]) (by simp [hq]) (by simp [hq]) (by
   simp [St.get,lk,bb,br,hrl])) fun i hi=>?_
  obtain ⟨x,hx⟩:∃ x,mU p out at' r i=x:=⟨_,rfl⟩
  have hxl:x.length=W:=by rw [← hx,ic,hrl]
  have hxg:ed p x:=by rw [← hx]; exact lL (by omega) hrg i
  rw [hx]
  refine qm ?_
  refine ab fun K hK=>aa ae ?_
  simp only [ak,fl,gp,aj,simprocAttr]
  refine af trivial (hK _ ?_)<;>clear hK K
  refine qa (qm ?_)
  refine an rfl (fun hC2=>?_) (fun hC2=>?_)
  ·(try simp only [aI] at hC2)
   have hiq:i < q:=by omega
   obtain ⟨b,hb⟩:∃ b,out.getD i []=b:=⟨_,rfl⟩
   have hbl:b.length=W:=by rw [← hb]; exact l2 _ (aC (by omega))
   have hbg:ed p b:=by rw [← hb]; exact l3 _ (aC (by omega))
   obtain ⟨c,hc⟩:∃ c:Nat,at'.getD i 0=(c:Int):=⟨(at'.getD i 0).toNat,by have:=l4 i (by omega); omega⟩
   have hcW:c < W:=by have:=l4 i (by omega); omega
   have hgx:aq (tl (out++[x])) q = .own (ol x):=by rw [aV (by simp [hq]),← hq,cF]
   have hgb:∀ y,aq (tl (out++[y])) i = .own (ol b):=fun y=>by rw [aV (by simp [hq]; omega),eU _ _ (by omega),hb]
   have hsx:mU p out at' r (i + 1)=if x.getD c 0=0 then x else AM p (x.getD c 0) x b:=by
    rw [mU,hx,hc,Int.toNat_natCast,hb]
   have hxc:=hxg c
   refine qh (qa (qm (ql (qm ?_))))
   refine ab fun K hK=>aa ae ?_
   simp only [ak,fl,gp,aj,simprocAttr,bt,lz hiq]
   refine af ?_ (hK _ ?_)<;>clear hK K
   ·omega
   refine qa (qm ?_)
   refine ab fun K hK=>aa ae ?_
   simp only [ak,fl,gp,aj,simprocAttr,bK (show i < at'.length by omega),hc,gO,hgx,bK (show c < x.length by omega)]
   refine af ?_ (hK _ ?_)<;>clear hK K
   ·omega
   refine qa (qm ?_)
   refine ab fun K hK=>aa ae ?_
   simp only [ak,fl,gp,aj,simprocAttr]
   refine af trivial (hK _ ?_)<;>clear hK K
   refine qa ?_
   refine an rfl (fun hC3=>?_) (fun hC3=>?_)
   ·(try simp only [aI] at hC3)
    have hne:¬ x.getD c 0=0:=by omega
    rw [if_neg hne] at hsx
    refine qm ?_
    refine ab fun K hK=>aa ae ?_
    simp only [ak,fl,gp,aj,simprocAttr]
    refine af trivial (hK _ ?_)<;>clear hK K
    refine qa (ql ?_)
    refine aA (ι:=Nat) (fun j=>⟨153,[(0,.p (.int .i64 p)),(6,.sl 0 0 q),(7,.sl 1 0 q),(9,.sl (q + 2) 0 W),(11,.sl (i + 2) 0 W),(12,.p (.int .i64 (x.getD c 0))),(21,.p (.list (ll M))),(22,.p (.int .i64 M.length)),(23,.p (.int .i64 k)),(29,.sl 0 0 q),(30,.p (.int .i64 q)),(31,.p (.int .i64 i)),(46,.p (.int .i64 W)),(47,.p (.int .i64 j))],.own (b8 2 W q) :: .own (ol at') :: tl (out++[cO (ya p (x.getD c 0) x b) 0 j x])⟩) (fun j=>j≤W) (fun j=>W - j) 0 (Nat.zero_le _) (List.range (q + 3)) (nk (W:=W) (q:=q) (a:=at') (M:=out++[x]) rfl (by rw [di]) rfl (by simp [hq]) (by simp [hq]) (by
     simp [St.get,lk,bb,br]<;>omega)) fun j hj=>?_
    obtain ⟨y,hy⟩:∃ y,cO (ya p (x.getD c 0) x b) 0 j x=y:=⟨_,rfl⟩
    have hyl:y.length=W:=by rw [← hy,bF,hxl]
    rw [hy]
    refine qm ?_
    refine ab fun K hK=>aa ae ?_
    simp only [ak,fl,gp,aj,simprocAttr]
    refine af trivial (hK _ ?_)<;>clear hK K
    refine qa (qm ?_)
    refine an rfl (fun hC4=>?_) (fun hC4=>?_)
    ·(try simp only [aI] at hC4)
     have hjW:j < W:=by omega
     have hyj:y.getD j 0=x.getD j 0:=by rw [← hy,df (by omega),if_neg (by omega)]
     have hgy:aq (tl (out++[y])) q = .own (ol y):=by rw [aV (by simp [hq]),← hq,cF]
     have hsy:∀ w,aE (tl (out++[y])) q (.own (ol w))=tl (out++[w]):=fun w=>by rw [iG,← hq,gR]
     have hst:y.set j ((x.getD j 0 - x.getD c 0 * b.getD j 0) % (p:Int))=cO (ya p (x.getD c 0) x b) 0 (j + 1) x:=by
      rw [← hy]; exact gu (f:=ya p (x.getD c 0) x b) (Nat.zero_le j) (by omega)
     have hrn:=zd hp (hxg j) hxc (hbg j)
     have ht1:=Int.lt_tmod_of_pos (x.getD j 0 - x.getD c 0 * b.getD j 0) (show (0:Int) < p by omega)
     have ht2:=Int.tmod_lt_of_pos (x.getD j 0 - x.getD c 0 * b.getD j 0) (show (0:Int) < p by omega)
     refine qh (qa (qm (ql (qm ?_))))
     refine ab fun K hK=>aa ae ?_
     simp only [ak,fl,gp,aj,simprocAttr]
     refine af trivial (hK _ ?_)<;>clear hK K
     refine qa ?_
     refine bf mixed (by kernel_rfl) fun K hK=>aa ae ?_
     simp only [ak,fl,gp,aj,simprocAttr,gO,Am,hgy,hgb,bK (show j < y.length by omega),bK (show j < b.length by omega),hyj,zb (show 0 < p by omega),eK,hsy,hst]
     refine af ?_ (hK _ ?_)<;>clear hK K
     ·simp only [ah] at *; omega
     refine qd (qa ?_)
     refine ab fun K hK=>aa ae ?_
     simp only [ak,fl,gp,aj,simprocAttr]
     refine af ?_ (hK _ ?_)<;>clear hK K
     ·first|exact trivial|omega|(simp only [ah] at *; omega)|(simp [ah] at *; omega)|simp_all
     refine qa ?_
     refine ⟨j + 1,List.range (q + 3),by omega,by omega,nk (W:=W) (q:=q) (a:=at') (M:=out++[cO (ya p (x.getD c 0) x b) 0 (j + 1) x]) rfl rfl rfl (by simp [hq]) (by simp [hq]) (by
      simp [St.get,lk,bb,br]<;>omega)⟩
    (try simp only [aI] at hC4)
    have hjW:j=W:=by omega
    have hye:AM p (x.getD c 0) x b=y:=by rw [← hy,AM,hxl,hjW]
    rw [hye] at hsx
    refine qj (qc (qc (qf (qd (qa ?_)))))
    refine ab fun K hK=>aa ae ?_
    simp only [ak,fl,gp,aj,simprocAttr]
    refine af ?_ (hK _ ?_)<;>clear hK K
    ·first|exact trivial|omega|(simp only [ah] at *; omega)|(simp [ah] at *; omega)|simp_all
    refine qa ?_
    refine ⟨i + 1,List.range (q + 3),by omega,by omega,nk (W:=W) (q:=q) (a:=at') (M:=out++[y]) rfl (by rw [hsx]) rfl (by simp [hq]) (by simp [hq]) (by
     simp [St.get,lk,bb,br]<;>omega)⟩
   (try simp only [aI] at hC3)
   have hze:x.getD c 0=0:=by omega
   rw [if_pos hze] at hsx
   refine qh (qd (qa ?_))
   refine ab fun K hK=>aa ae ?_
   simp only [ak,fl,gp,aj,simprocAttr]
   refine af ?_ (hK _ ?_)<;>clear hK K
   ·first|exact trivial|omega|(simp only [ah] at *; omega)|(simp [ah] at *; omega)|simp_all
   refine qa ?_
   refine ⟨i + 1,List.range (q + 3),by omega,by omega,nk (W:=W) (q:=q) (a:=at') (M:=out++[x]) rfl (by rw [hsx]) rfl (by simp [hq]) (by simp [hq]) (by
    simp [St.get,lk,bb,br]<;>omega)⟩
  (try simp only [aI] at hC2)
  have hiq:i=q:=by omega
  have hxq:mU p out at' r out.length=x:=by rw [hq,← hiq]; exact hx
  have hixf:Hn (fun z=>decide (¬ z=0)) x=match FC x with | some i=>(i:Int) | none=>-1:=rfl
  have hgx:∀ y,aq (tl (out++[y])) q = .own (ol y):=fun y=>by rw [aV (by simp [hq]),← hq,cF]
  have htk:List.take W x=x:=List.take_of_length_le (by omega)
  refine qj (qc (qc (qf (qa (qm ?_)))))
  refine ab fun K hK=>aa ae ?_
  simp only [ak,fl,gp,aj,simprocAttr]
  refine ao ?_ (al (b:=false) (r6 x _ [] (fun z=>decide (¬ z=0)) (by omega) (fun z _=>xe z)) rfl (by simp only [gr,cq,dK,dB,List.map_cons,List.map_nil,List.append_nil,cy,ak,fl,gp,aj,simprocAttr,gO,hgx,htk,List.drop_zero,rO,vz,gi,jP,gL,aJ,List.length_replicate,List.take_replicate,Nat.min_self]; rfl) rfl (by simp only [ay,Nat.reduceLT]) ?_ (aa ae ?_))
  ·first|exact trivial|omega|(simp only [ah] at *; omega)|(simp [ah] at *; omega)|simp_all
  ·first|exact trivial|omega|(simp only [ah] at *; omega)|(simp [ah] at *; omega)|simp_all
  simp only [ak,fl,gp,aj,simprocAttr]
  refine af trivial (hK _ ?_)<;>clear hK K
  refine qa (qm (qm ?_))
  refine ab fun K hK=>aa ae ?_
  simp only [ak,fl,gp,aj,simprocAttr]
  refine af trivial (hK _ ?_)<;>clear hK K
  refine qa ?_
  refine an rfl (fun hC5=>?_) (fun hC5=>?_)
  ·(try simp only [aI] at hC5)
   have hf:FC x=none:=by
    cases hf:FC x with
    | none=>rfl
    | some j=>rw [hf] at hixf; simp only at hixf; rw [hixf] at hC5; omega
   have hst:cA p M (k + 1)=(out,at'):=by rw [hsucc]; unfold oX; simp only [hxq,hf]
   refine qj (qc (qf (qa ?_)))
   refine ab fun K hK=>aa ae ?_
   simp only [ak,fl,gp,aj,simprocAttr]
   refine af ?_ (hK _ ?_)<;>clear hK K
   ·first|exact trivial|omega|(simp only [ah] at *; omega)|(simp [ah] at *; omega)|simp_all
   refine qa ?_
   refine ⟨k + 1,0 :: 1 :: List.range' 2 q,by omega,by omega,?_⟩
   rw [hst]
   simp only [hq]
   refine wk (W:=W) (q:=q) (a:=at') (M:=out) rfl rfl hq ⟨by omega,by omega,by omega⟩ rfl rfl (fun i hi=>?_) (by simp [jY,St.get,lk,Go.Pv.bl,bu,bb,br])
   rw [Nat.add_comm 2 i,gO,aV (by simp [hq]; omega),eU _ _ (by omega)]
  (try simp only [aI] at hC5)
  obtain ⟨j,hj⟩:∃ j,FC x=some j:=by
   cases hf:FC x with
   | none=>rw [hf] at hixf; simp only at hixf; rw [hixf] at hC5; omega
   | some j=>exact ⟨j,rfl⟩
  rw [hj] at hixf
  simp only at hixf
  have hjW:j < W:=by have:=(cE hj).1; omega
  rw [hixf]
  obtain ⟨kk,hkk⟩:∃ kk,dP p (x.getD j 0)=kk:=⟨_,rfl⟩
  have hkr:0≤kk∧kk < p:=by rw [← hkk]; exact lC hp2 _
  refine qh (qa (qm ?_))
  refine ab fun K hK=>aa ae ?_
  simp only [ak,fl,gp,aj,simprocAttr,gO,hgx,bK (show j < x.length by omega)]
  refine ao ?_ (al (th hp2 hp (hxg j).1 (by have:=(hxg j).2; omega)) rfl rfl rfl (by simp only [ay,Nat.reduceLT]) (by repeat (first|exact trivial|constructor)) (aa ae ?_))
  ·omega
  simp only [ak,fl,gp,aj,simprocAttr,hkk,gO,hgx,bK (show j < x.length by omega)]
  refine af ?_ (hK _ ?_)<;>clear hK K
  ·first|exact trivial|omega|(simp only [ah] at *; omega)|(simp [ah] at *; omega)|simp_all
  refine qa (qm (qm ?_))
  refine ab fun K hK=>aa ae ?_
  simp only [ak,fl,gp,aj,simprocAttr]
  refine af trivial (hK _ ?_)<;>clear hK K
  refine qa (ql ?_)
  refine aA (ι:=Nat) (fun i=>⟨153,[(0,.p (.int .i64 p)),(6,.sl 0 0 q),(7,.sl 1 0 q),(9,.sl (q + 2) 0 W),(14,.p (.int .i64 j)),(15,.p (.int .i64 kk)),(21,.p (.list (ll M))),(22,.p (.int .i64 M.length)),(23,.p (.int .i64 k)),(83,.p (.int .i64 W)),(84,.p (.int .i64 i))],.own (b8 2 W q) :: .own (ol at') :: tl (out++[cO (Ai p kk x) 0 i x])⟩) (fun i=>i≤W) (fun i=>W - i) 0 (Nat.zero_le _) (List.range (q + 3)) (nk (W:=W) (q:=q) (a:=at') (M:=out++[x]) rfl (by rw [di]) rfl (by simp [hq]) (by simp [hq]) (by
   simp [St.get,lk,bb,br]<;>omega)) fun i hi=>?_
  obtain ⟨y,hy⟩:∃ y,cO (Ai p kk x) 0 i x=y:=⟨_,rfl⟩
  have hyl:y.length=W:=by rw [← hy,bF,hxl]
  rw [hy]
  refine qm ?_
  refine ab fun K hK=>aa ae ?_
  simp only [ak,fl,gp,aj,simprocAttr]
  refine af trivial (hK _ ?_)<;>clear hK K
  refine qa (qm ?_)
  refine an rfl (fun hC6=>?_) (fun hC6=>?_)
  ·(try simp only [aI] at hC6)
   have hiW:i < W:=by omega
   have hyi:y.getD i 0=x.getD i 0:=by rw [← hy,df (by omega),if_neg (by omega)]
   have hsy:∀ w,aE (tl (out++[y])) q (.own (ol w))=tl (out++[w]):=fun w=>by rw [iG,← hq,gR]
   have hst:y.set i (x.getD i 0 * kk % (p:Int))=cO (Ai p kk x) 0 (i + 1) x:=by
    rw [← hy]; exact gu (f:=Ai p kk x) (Nat.zero_le i) (by omega)
   have hm:=jj hp (hxg i).1 (hxg i).2 hkr.1 hkr.2
   have htm:Int.tmod (x.getD i 0 * kk) p=x.getD i 0 * kk % p:=Int.tmod_eq_emod_of_nonneg hm.1
   refine qh (qa (qm (ql (qm ?_))))
   refine ab fun K hK=>aa ae ?_
   simp only [ak,fl,gp,aj,simprocAttr]
   refine af trivial (hK _ ?_)<;>clear hK K
   refine qa ?_
   refine ab fun K hK=>aa ae ?_
   simp only [ak,fl,gp,aj,simprocAttr,gO,Am,hgx,bK (show i < y.length by omega),hyi,htm,eK,hsy,hst]
   refine af ?_ (hK _ ?_)<;>clear hK K
   ·simp only [ah] at *; omega
   refine qd (qa ?_)
   refine ab fun K hK=>aa ae ?_
   simp only [ak,fl,gp,aj,simprocAttr]
   refine af ?_ (hK _ ?_)<;>clear hK K
   ·first|exact trivial|omega|(simp only [ah] at *; omega)|(simp [ah] at *; omega)|simp_all
   refine qa ?_
   refine ⟨i + 1,List.range (q + 3),by omega,by omega,nk (W:=W) (q:=q) (a:=at') (M:=out++[cO (Ai p kk x) 0 (i + 1) x]) rfl rfl rfl (by simp [hq]) (by simp [hq]) (by
    simp [St.get,lk,bb,br]<;>omega)⟩
  (try simp only [aI] at hC6)
  have hiW:i=W:=by omega
  have hye:Ap p kk x=y:=by rw [← hy,Ap,hxl,hiW]
  have hyg:ed p y:=by rw [← hye]; exact um (by omega) hxg
  have hsuc2:cA p M (k + 1)=(fw p j y out q++[y],at'++[(j:Int)]):=by
   rw [hsucc]; unfold oX; simp only [hq] at hxq ⊢; simp only [hxq,hj,hkk,hye]
  refine qj (qc (qc (qf (qa (qm (qm ?_))))))
  refine ab fun K hK=>aa ae ?_
  simp only [ak,fl,gp,aj,simprocAttr]
  refine af trivial (hK _ ?_)<;>clear hK K
  refine qa (ql ?_)
  refine aA (ι:=Nat) (fun i=>⟨153,[(0,.p (.int .i64 p)),(6,.sl 0 0 q),(7,.sl 1 0 q),(9,.sl (q + 2) 0 W),(14,.p (.int .i64 j)),(21,.p (.list (ll M))),(22,.p (.int .i64 M.length)),(23,.p (.int .i64 k)),(99,.sl 0 0 q),(100,.p (.int .i64 q)),(101,.p (.int .i64 i))],.own (b8 2 W q) :: .own (ol at') :: tl (fw p j y out i++[y])⟩) (fun i=>i≤q) (fun i=>q - i) 0 (Nat.zero_le _) (List.range (q + 3)) (nk (W:=W) (q:=q) (a:=at') (M:=out++[y]) rfl (by rw [zx]) rfl (by simp [hq]) (by simp [hq]) (by
   simp [St.get,lk,bb,br]<;>omega)) fun i hi=>?_
  have hbl:=jR p j y out i
  refine qm ?_
  refine ab fun K hK=>aa ae ?_
  simp only [ak,fl,gp,aj,simprocAttr]
  refine af trivial (hK _ ?_)<;>clear hK K
  refine qa (qm ?_)
  refine an rfl (fun hC7=>?_) (fun hC7=>?_)
  ·(try simp only [aI] at hC7)
   have hiq:i < q:=by omega
   obtain ⟨b,hb⟩:∃ b,out.getD i []=b:=⟨_,rfl⟩
   have hbl2:b.length=W:=by rw [← hb]; exact l2 _ (aC (by omega))
   have hbg:ed p b:=by rw [← hb]; exact l3 _ (aC (by omega))
   have hbi:(fw p j y out i).getD i []=b:=by rw [vn (by omega),if_neg (by omega),hb]
   have hgb:aq (tl (fw p j y out i++[y])) i = .own (ol b):=by rw [aV (by simp [hbl]; omega),eU _ _ (by omega),hbi]
   have hsn:=Be (p:=p) (j:=j) (r:=y) (show i < out.length by omega)
   rw [hb] at hsn
   have hbj:=hbg j
   refine qh (qa (qm (ql (qm ?_))))
   refine ab fun K hK=>aa ae ?_
   simp only [ak,fl,gp,aj,simprocAttr,bt,lz hiq]
   refine af ?_ (hK _ ?_)<;>clear hK K
   ·omega
   refine qa (qm ?_)
   refine ab fun K hK=>aa ae ?_
   simp only [ak,fl,gp,aj,simprocAttr,gO,hgb,bK (show j < b.length by omega)]
   refine af ?_ (hK _ ?_)<;>clear hK K
   ·omega
   refine qa (qm ?_)
   refine ab fun K hK=>aa ae ?_
   simp only [ak,fl,gp,aj,simprocAttr]
   refine af trivial (hK _ ?_)<;>clear hK K
   refine qa ?_
   refine an rfl (fun hC8=>?_) (fun hC8=>?_)
   ·(try simp only [aI] at hC8)
    have hne:¬ b.getD j 0=0:=by omega
    have hbk:uA p j y b=AM p (b.getD j 0) b y:=by unfold uA; rw [if_neg hne]
    have hset0:(fw p j y out i).set i b=fw p j y out i:=by
     refine List.ext_getElem (by simp) fun t g1 g2=>?_
     rw [List.getElem_set]
     split
     ·rename_i e
      subst e
      rw [List.getD_eq_getElem?_getD,List.getElem?_eq_getElem g2] at hbi
      exact hbi.symm
     rfl
    refine qm ?_
    refine ab fun K hK=>aa ae ?_
    simp only [ak,fl,gp,aj,simprocAttr]
    refine af trivial (hK _ ?_)<;>clear hK K
    refine qa (ql ?_)
    refine aA (ι:=Nat) (fun m=>⟨153,[(0,.p (.int .i64 p)),(6,.sl 0 0 q),(7,.sl 1 0 q),(9,.sl (q + 2) 0 W),(14,.p (.int .i64 j)),(17,.p (.int .i64 i)),(18,.sl (i + 2) 0 W),(19,.p (.int .i64 (b.getD j 0))),(21,.p (.list (ll M))),(22,.p (.int .i64 M.length)),(23,.p (.int .i64 k)),(99,.sl 0 0 q),(100,.p (.int .i64 q)),(101,.p (.int .i64 i)),(113,.p (.int .i64 W)),(114,.p (.int .i64 m))],.own (b8 2 W q) :: .own (ol at') :: tl ((fw p j y out i).set i (cO (ya p (b.getD j 0) b y) 0 m b)++[y])⟩) (fun m=>m≤W) (fun m=>W - m) 0 (Nat.zero_le _) (List.range (q + 3)) (nk (W:=W) (q:=q) (a:=at') (M:=fw p j y out i++[y]) rfl (by rw [di,hset0]) rfl (by simp [hq,hbl]) (by simp [hq,hbl]) (by
     simp [St.get,lk,bb,br]<;>omega)) fun m hm=>?_
    obtain ⟨z,hz⟩:∃ z,cO (ya p (b.getD j 0) b y) 0 m b=z:=⟨_,rfl⟩
    have hzl:z.length=W:=by rw [← hz,bF,hbl2]
    rw [hz]
    refine qm ?_
    refine ab fun K hK=>aa ae ?_
    simp only [ak,fl,gp,aj,simprocAttr]
    refine af trivial (hK _ ?_)<;>clear hK K
    refine qa (qm ?_)
    refine an rfl (fun hC9=>?_) (fun hC9=>?_)
    ·(try simp only [aI] at hC9)
     have hmW:m < W:=by omega
     have hzm:z.getD m 0=b.getD m 0:=by rw [← hz,df (by omega),if_neg (by omega)]
     have hgz:aq (tl ((fw p j y out i).set i z++[y])) i = .own (ol z):=by rw [aV (by simp [hbl]; omega),eU _ _ (by simp [hbl]; omega)]; simp [List.getD,hbl,hq,hiq]
     have hgy:aq (tl ((fw p j y out i).set i z++[y])) q = .own (ol y):=by
      rw [aV (by simp [hbl,hq]),show q=((fw p j y out i).set i z).length by simp [hbl,hq],cF]
     have hsz:∀ w,aE (tl ((fw p j y out i).set i z++[y])) i (.own (ol w))=tl ((fw p j y out i).set i w++[y]):=fun w=>by rw [iG,List.set_append_left _ _ (by simp [hbl]; omega),List.set_set]
     have hst:z.set m ((b.getD m 0 - b.getD j 0 * y.getD m 0) % (p:Int))=cO (ya p (b.getD j 0) b y) 0 (m + 1) b:=by
      rw [← hz]; exact gu (f:=ya p (b.getD j 0) b y) (Nat.zero_le m) (by omega)
     have hrn:=zd hp (hbg m) hbj (hyg m)
     have ht1:=Int.lt_tmod_of_pos (b.getD m 0 - b.getD j 0 * y.getD m 0) (show (0:Int) < p by omega)
     have ht2:=Int.tmod_lt_of_pos (b.getD m 0 - b.getD j 0 * y.getD m 0) (show (0:Int) < p by omega)
     refine qh (qa (qm (ql (qm ?_))))
     refine ab fun K hK=>aa ae ?_
     simp only [ak,fl,gp,aj,simprocAttr]
     refine af trivial (hK _ ?_)<;>clear hK K
     refine qa ?_
     refine bf mixed (by kernel_rfl) fun K hK=>aa ae ?_
     simp only [ak,fl,gp,aj,simprocAttr,bt,lz hiq,gO,Am,hgz,hgy,bK (show m < z.length by omega),bK (show m < y.length by omega),hzm,zb (show 0 < p by omega),eK,hsz,hst]
     refine af ?_ (hK _ ?_)<;>clear hK K
     ·simp only [ah] at *; omega
     refine qd (qa ?_)
     refine ab fun K hK=>aa ae ?_
     simp only [ak,fl,gp,aj,simprocAttr]
     refine af ?_ (hK _ ?_)<;>clear hK K
     ·first|exact trivial|omega|(simp only [ah] at *; omega)|(simp [ah] at *; omega)|simp_all
     refine qa ?_
     refine ⟨m + 1,List.range (q + 3),by omega,by omega,nk (W:=W) (q:=q) (a:=at') (M:=(fw p j y out i).set i (cO (ya p (b.getD j 0) b y) 0 (m + 1) b)++[y]) rfl rfl rfl (by simp [hq,hbl]) (by simp [hq,hbl]) (by
      simp [St.get,lk,bb,br]<;>omega)⟩
    (try simp only [aI] at hC9)
    have hmW:m=W:=by omega
    have hze:uA p j y b=z:=by rw [hbk,← hz,AM,hbl2,hmW]
    rw [hze] at hsn
    refine qj (qc (qc (qf (qd (qa ?_)))))
    refine ab fun K hK=>aa ae ?_
    simp only [ak,fl,gp,aj,simprocAttr]
    refine af ?_ (hK _ ?_)<;>clear hK K
    ·first|exact trivial|omega|(simp only [ah] at *; omega)|(simp [ah] at *; omega)|simp_all
    refine qa ?_
    refine ⟨i + 1,List.range (q + 3),by omega,by omega,nk (W:=W) (q:=q) (a:=at') (M:=(fw p j y out i).set i z++[y]) rfl (by rw [hsn]) rfl (by simp [hq,hbl]) (by simp [hq,hbl]) (by
     simp [St.get,lk,bb,br]<;>omega)⟩
   (try simp only [aI] at hC8)
   have hze:b.getD j 0=0:=by omega
   have hbk:uA p j y b=b:=by unfold uA; rw [if_pos hze]
   have hset0:(fw p j y out i).set i b=fw p j y out i:=by
    refine List.ext_getElem (by simp) fun t g1 g2=>?_
    rw [List.getElem_set]
    split
    ·rename_i e
     subst e
     rw [List.getD_eq_getElem?_getD,List.getElem?_eq_getElem g2] at hbi
     exact hbi.symm
    rfl
   rw [hbk,hset0] at hsn
   refine qh (qd (qa ?_))
   refine ab fun K hK=>aa ae ?_
   simp only [ak,fl,gp,aj,simprocAttr]
   refine af ?_ (hK _ ?_)<;>clear hK K
   ·first|exact trivial|omega|(simp only [ah] at *; omega)|(simp [ah] at *; omega)|simp_all
   refine qa ?_
   refine ⟨i + 1,List.range (q + 3),by omega,by omega,nk (W:=W) (q:=q) (a:=at') (M:=fw p j y out i++[y]) rfl (by rw [hsn]) rfl (by simp [hq,hbl]) (by simp [hq,hbl]) (by
    simp [St.get,lk,bb,br]<;>omega)⟩
  (try simp only [aI] at hC7)
  have hiq:i=q:=by omega
  rw [hiq]
  obtain ⟨X,hX⟩:∃ X,tl (fw p j y out q++[y])=X:=⟨_,rfl⟩
  have hXl:X.length=q + 1:=by rw [← hX,aD]; simp [jR,hq]
  have hXg:∀ b,aq (X++[b]) (q + 1)=b:=fun b=>by rw [← hXl]; exact a8 X b
  have hat:List.take q at' = at':=List.take_of_length_le (by omega)
  have hrw:List.take q (b8 2 W q)=b8 2 W q:=k6 rfl
  rw [hX]
  refine qj (qc (qc (qf (qa ?_))))
  refine ab fun K hK=>aa ae ?_
  simp only [ak,fl,gp,aj,simprocAttr,hXl,gO,hXg,List.length_append,hat,hrw,gb,ri,bt,l1]
  refine ao ?_ (eM (cu ae rfl rfl rfl rfl rfl rfl) rfl (by simp only [ay,Nat.reduceLT]) (aa ae ?_))
  ·first|exact trivial|omega|(simp only [ah] at *; omega)|(simp [ah] at *; omega)|simp_all
  simp only [ak,fl,gp,aj,simprocAttr,hXl,List.length_append,hXl,gO,hXg,List.length_append,hat,hrw,gb,ri,bt,l1]
  refine af ?_ (hK _ ?_)<;>clear hK K
  ·exact ⟨⟨uh _ _ _,by omega,by omega,by omega⟩,by omega,by omega,by omega⟩
  refine qd (qa ?_)
  refine ab fun K hK=>aa ae ?_
  simp only [ak,fl,gp,aj,simprocAttr]
  refine af ?_ (hK _ ?_)<;>clear hK K
  ·first|exact trivial|omega|(simp only [ah] at *; omega)|(simp [ah] at *; omega)|simp_all
  refine qa ?_
  refine ⟨k + 1,(q + 4) :: (q + 5) :: List.range' 2 (q + 1),by omega,by omega,?_⟩
  rw [hsuc2]
  have e1:(fw p j y out q++[y]).length=q + 1:=by simp [jR,hq]
  simp only [e1]
  refine wk (W:=W) (q:=q + 1) (a:=at'++[(j:Int)]) (M:=fw p j y out q++[y]) rfl rfl e1 ⟨by omega,by omega,by omega⟩ ?_ ?_ (fun i hi=>?_) (by simp [jY,St.get,lk,Go.Pv.bl,bu,bb,br])
  ·exact F9 hXl _ _ _
  ·exact GI hXl _ _ _
  rw [Nat.add_comm 2 i]
  show aq (X++_++_++_) i=_
  rw [ES (by omega),← hX,aV (by omega)]
 (try simp only [aI] at hC1)
 have hkM:k=M.length:=by omega
 refine qj (qc (qc (qf (qa (qm ?_)))))
 have hMk:cA p M M.length=(out,at'):=by rw [← hkM]; exact hS
 refine lF 6 0 2 q hq l2 rfl (.inl (by omega)) rfl (fun i hi=>?_) fun H' a1 a2=>?_
 ·rw [Nat.add_comm 2 i,gO,aV (by omega)]
 refine nQ 7 1 (w:=at') ?_ ?_ ?_
 ·simp [St.get,lk,l1]
 ·show aq H' 1=_
  rw [a2 1 (by omega) (by omega)]; rfl
 rw [hMk]
 refine ab fun K hK=>aa ae ?_
 simp only [ak,fl,gp,aj,simprocAttr]
 refine af trivial (hK _ ?_)<;>clear hK K
 refine qa (qk ?_)
 simp only [Tryd.results77,cy,ak,fl,gp,aj,simprocAttr]
 all_goals ((first|exact rfl|exact ⟨rfl,rfl⟩|exact ⟨rfl,rfl,rfl⟩|exact ⟨trivial,rfl⟩|exact ⟨Nat.le_refl _,rfl⟩|trivial|(simp; done)))
end Go.Proofs.YtjlmpmidchddjaaDoor
namespace Go.Pv
open Go.RowKit
section
variable {P:Program} {T:TypeId→Option TI} {s:St}
section
variable {C:Ctx} {m:Map} {tmps:Array Value} {w:World}
end
end
open Go.RowKit
section
variable {P:Program} {T:TypeId→Option TI} {s:St}
theorem wV (hT:∀ t ti,T t=some ti→bq P t=some ti) {o:Oper} {t t2:TypeId} {x y:Operand} (ho:o.op = .call { callee:=.builtin .copy,args:=#[x,y],argTypes:=#[t,t2] }) {ti te:TI} (ht:T t=some ti) {e:TypeId} (hk:ti.kind = .slice e) (hte:T e=some te) (hsz:te.size=1)
  {k L:Nat} {c:List AV} {v:List Int} (hx:s.ev x = .sl k 0 L) (hy:s.ev y = .p (.list (il v))) (hg:aq s.H k = .own c) (hle:L≤c.length) (hv0:v.length≤L) (hv1:0 < v.length):fe P o s (.p (.int .i64 v.length)) (aE s.H k (.own (iy c 0 (ol v)))):=by
 intro C m a w K Q R hK
 obtain ⟨dst,op,type,pos,after,guard⟩:=o
 simp only at ho
 subst ho
 have hu:=cT (hT _ _ ht) hk
 obtain ⟨i,d,z',h1,h2,h3,h4,h5,h6,h7,h8⟩:=aZ (hT _ _ hte)
 have hv:=R.ev x
 rw [hx] at hv
 obtain ⟨news,⟨⟨ax,cx,hsl⟩,hfc⟩,hnl,hnv⟩:=fP (P:=P) R (x:=y) (p:=(il v).all PV.one=true) (xs:=(il v).map .p) (by rw [hy]; rfl) (gL v)
 have hnl' : news.length=v.length:=by rw [hnl]; simp [il]
 have hnint:∀ j,j < v.length→news.getD j undef = .int .i64 (v.getD j 0):=fun j hj=>by
  have h:=hnv j (by simp [il]; exact hj)
  have e:((il v).map AV.p)[j]'(by simp [il]; exact hj) = .p (.int .i64 (v.getD j 0)):=by
   simp [il,List.getD,List.getElem?_eq_getElem hj]
  rw [e] at h
  exact h.aQ.dz
 refine eF (by rfl) ?_
 unfold Oper.wp
 generalize hvx:a.eval x=vx at hv
 cases hv with
 | sl _ _ _ _ hkl hs =>
  rcases hs with ⟨hn,_⟩ | ⟨l,cap,hm,rfl,hc1,hc2⟩
  ·omega
  rcases R.blk k c (bj hg) with ⟨_,hn⟩ | ⟨l',cur,e',hm2,hB,hh,hs1,hs3,hs2,hcells⟩
  ·rw [hm] at hn; cases hn
  rw [hm] at hm2; cases hm2
  have hst:=run_storeCells_at P l.g (l.o + 0) e' news 0 cur w hh (by simp; omega) (fun u hu=>by
   obtain ⟨j,hj⟩:=List.getElem?_of_mem hu
   have hjl:j < v.length:=by have:=(List.getElem?_eq_some_iff.1 hj).1; omega
   have:=hnint j hjl
   rw [List.getD_eq_getElem?_getD,hj,Option.getD_some] at this
   rw [this]; rfl)
  simp only [Nat.add_zero] at hst
  have hf:=hfc w rfl
  have hmin:v.length.min L=v.length:=Nat.min_eq_left (by omega)
  rw [hnl'] at hf
  have hlo:(Builtin.lenOf (a.eval y)).run P w = .ok news.length w:=by rw [hsl]; rfl
  have hss:(sizeOf e).run P w = .ok 1 w:=by simp [sizeOf,typeInfo,h1,h4,hsz]
  have hc:(Builtin.copy_ #[t,t2] type #[.slice (some ⟨l.g,l.o,none⟩) L cap,a.eval y]).run P w = .ok (.int .i64 v.length) (w.setRow l.g (cur.toList.take l.o++news++cur.toList.drop (l.o + news.length)).toArray):=by
   simp [Builtin.copy_,run_underlying hu,hlo,hss,hnl',hmin,hf,hst,goInt]
  have hrun:(execOp a.eval { dst:=dst,op:=.call { callee:=.builtin .copy,args:=#[x,y],argTypes:=#[t,t2] },type:=type,pos:=pos,after:=after,guard:=guard }).run P w = .ok (.value (.int .i64 v.length)) (w.setRow l.g (cur.toList.take l.o++news++cur.toList.drop (l.o + news.length)).toArray):=by
   simp only [BigFrame.execOp_builtin,BigFrame.builtin_copy,List.map_toArray,List.map_cons,List.map_nil,hvx,Nat.add_zero,Sem.run_bind,hc,Result.andThen_ok,Sem.run_pure]
  rw [hrun]
  have g3:0 + (ol v).length≤c.length:=by rw [cW]; omega
  refine hK _ m _ ?_ (.p _ _ (.int _ _))
  refine R.uZ (bj hg) hm ?_ ?_ (setRow_heap w l.g cur _ e' _ hh) ?_ ?_ ?_
  ·exact ⟨rfl,rfl,rfl,by simp [World.setRow],fun b hb=>setRow_other w l.g b _ (fun e=>hb (by rw [e]; exact hB)),Nat.le_refl _⟩
  ·exact fun b hb=>setRow_other w l.g b _ hb
  ·simp only [List.size_toArray,List.length_append,List.length_take,List.length_drop,Array.length_toList]
   omega
  ·rw [gz _ _ _ g3]; exact hs2
  refine n4 g3 (fun j hj hn=>?_) fun j hj=>?_
  ·have:=@eV cur news l.o (l.o + j) (by omega)
   rw [cW] at hn
   rw [this,if_neg (by omega)]
   exact hcells j hj
  have:=@eV cur news l.o (l.o + (0 + j)) (by omega)
  rw [cW] at hj
  rw [this,if_pos (by omega),show l.o + (0 + j) - l.o=j by omega]
  have h:=hnv j (by simp [il]; exact hj)
  have e:(ol v)[j]'(by rw [cW]; exact hj)=((il v).map AV.p)[j]'(by simp [il]; exact hj):=rfl
  rw [e]
  rw [hnint j hj]
  have e2:((il v).map AV.p)[j]'(by simp [il]; exact hj) = .p (.int .i64 (v.getD j 0)):=by
   simp [il,List.getD,List.getElem?_eq_getElem hj]
  rw [e2]
  exact .p _ _ (.int _ _)
end
end Go.Pv
namespace Go.Proofs.YtjlmpmidchddjaaDoor
open Go.Pv
theorem bk (ls:List (List Int)):(ll ls).take ls.length=ll ls:=List.take_of_length_le (by rw [au]; exact Nat.le_refl _)
theorem ef (ls:List (List Int)) (x:List Int):(ll (ls++[x])).take (ls.length + 1)=ll (ls++[x]):=List.take_of_length_le (by rw [au]; simp)
theorem zS {n:Nat} {r:List Int} (h:r.length=n) (h0:0 < n):iy (ol (List.replicate (n + n) 0)) 0 (ol r)=ol (r++List.replicate n 0):=by
 have e:(ol (List.replicate (n + n) 0)).drop n=ol (List.replicate n 0):=by rw [rO,List.drop_replicate,Nat.add_sub_cancel]
 unfold iy
 split
 ·rename_i x hx
  have h1:r.length=1:=by rw [← cW r,hx]; rfl
  have hn:n=1:=by omega
  subst hn
  match r,h1 with
  | [y],_ =>
   simp only [ol,il,List.map_cons,List.map_nil,List.cons.injEq,and_true] at hx
   subst hx
   rfl
 rw [List.take_zero,List.nil_append,Nat.zero_add,cW,h,e,pT]
theorem BR {n:Nat} {r:List Int} {i:Nat} (h:r.length=n):(r++List.replicate n 0).set (n + i) 1=r++(List.replicate n (0:Int)).set i 1:=by
 rw [List.set_append_right _ _ (by omega),h,Nat.add_sub_cancel_left]
theorem ym {n:Nat} {m:List (List Int)} (hm:∀ v∈m,v.length=n) {i:Nat} (hi:i < m.length):(pk n m i).length=n + n:=by
 have:=hm _ (aC (d:=[]) hi)
 simp only [pk,List.length_append,List.length_set,List.length_replicate,this]
theorem Cy {p n:Nat} (hp:2≤p) {m:List (List Int)} (hm:∀ v∈m,v.length=n) (hg:∀ v∈m,ed p v) {i:Nat} (hi:i < m.length):ed p (pk n m i):=fun j=>by
 have hl:=hm _ (aC (d:=[]) hi)
 have h1:=hg _ (aC (d:=[]) hi)
 unfold pk
 by_cases hj:j < n
 ·rw [List.getD_eq_getElem?_getD,List.getElem?_append_left (by omega),← List.getD_eq_getElem?_getD]; exact h1 j
 rw [List.getD_eq_getElem?_getD,List.getElem?_append_right (by omega),List.getElem?_set]
 split
 ·split
  ·simp only [Option.getD_some]; omega
  simp only [Option.getD_none]; omega
 rw [List.getElem?_replicate]
 split
 ·simp only [Option.getD_some]; omega
 simp only [Option.getD_none]; omega
theorem dg (n:Nat) (m:List (List Int)) (i:Nat):(exts n m i).length=i:=by simp [exts]
theorem xd (n:Nat) (m:List (List Int)) (i:Nat):exts n m (i + 1)=exts n m i++[pk n m i]:=by simp [exts,List.range_succ]
theorem n9 {n:Nat} {m:List (List Int)} (hm:∀ v∈m,v.length=n) {i:Nat} (hi:i≤m.length):∀ v∈exts n m i,v.length=n + n:=fun v hv=>by
 obtain ⟨t,ht,rfl⟩:=List.mem_map.1 hv
 exact ym hm (by have:=List.mem_range.1 ht; omega)
theorem rG {p n:Nat} (hp:2≤p) {m:List (List Int)} (hm:∀ v∈m,v.length=n) (hg:∀ v∈m,ed p v) {i:Nat} (hi:i≤m.length):∀ v∈exts n m i,ed p v:=fun v hv=>by
 obtain ⟨t,ht,rfl⟩:=List.mem_map.1 hv
 exact Cy hp hm hg (by have:=List.mem_range.1 ht; omega)
theorem oV (n:Nat) (S:List (List Int) × List Int):∀ i,(fT n S i).length≤i
 | 0=>Nat.le_refl _
 | i + 1=>by
  have:=oV n S i
  rw [fT]; split
  ·simp; omega
  omega
set_option maxHeartbeats 4000000 in
set_option maxRecDepth 20000 in
theorem yl {p n:Nat} (hp2:2≤p) (hp:p≤1000000) (hn:0 < n) (hn2:n≤100) (m:List (List Int)) (hm:m.length=n) (h1:∀ v∈m,v.length=n) (h2:∀ v∈m,ed p v) :
  cL Tryd.prog 79 [.int .i64 p,.list (ll m)] (.list (ll (dX p m))):=by
 have hmn:(m.length:Int)=(n:Int):=by omega
 have h2n:(2:Int) * (n:Int)=((n + n:Nat):Int):=by omega
 refine aM ae Tryd.func79 rfl (by kernel_rfl) (by rw [Tryd.ntmps79]; exact Nat.le_add_left 2 _) ?_; rw [Tryd.ntmps79]
 refine qm ?_
 refine ab fun K hK=>aa ae ?_
 simp only [ak,fl,gp,aj,simprocAttr]
 refine af trivial (hK _ ?_)<;>clear hK K
 refine qa (qm ?_)
 refine ab fun K hK=>aa ae ?_
 simp only [ak,fl,gp,aj,simprocAttr,au,hmn]
 refine af trivial (hK _ ?_)<;>clear hK K
 refine qa (qm ?_)
 refine ab fun K hK=>aa ae ?_
 simp only [ak,fl,gp,aj,simprocAttr]
 refine af trivial (hK _ ?_)<;>clear hK K
 refine qa (qm (qm ?_))
 refine bT 6 rfl ?_
 refine ab fun K hK=>aa ae ?_
 simp only [ak,fl,gp,aj,simprocAttr,au,hmn]
 refine af trivial (hK _ ?_)<;>clear hK K
 refine qa (ql ?_)
 refine aA (ι:=Nat) (fun k=>⟨67,[(0,.p (.int .i64 p)),(5,.p (.int .i64 n)),(6,.sl 0 0 k),(17,.p (.list (ll m))),(18,.p (.int .i64 n)),(19,.p (.int .i64 k))],.own (b8 1 (n + n) k) :: tl (exts n m k)⟩) (fun k=>k≤n) (fun k=>n - k) 0 (Nat.zero_le _) [0] (by simp only [leq,bh,ak,fl,gp,aj,simprocAttr]<;>simp [exts,b8,tl,kp]) fun k hk=>?_
 refine qm ?_
 refine ab fun K hK=>aa ae ?_
 simp only [ak,fl,gp,aj,simprocAttr]
 refine af trivial (hK _ ?_)<;>clear hK K
 refine qa (qm ?_)
 refine an rfl (fun hC1=>?_) (fun hC1=>?_)
 ·(try simp only [aI] at hC1)
  have hkn:k < m.length:=by omega
  obtain ⟨r,hr⟩:∃ r,m.getD k []=r:=⟨_,rfl⟩
  have hrl:r.length=n:=by rw [← hr]; exact h1 _ (aC hkn)
  have hgX:∀ y,aq (tl (exts n m k)++[y]) k=y:=fun y=>by
   have:=a8 (tl (exts n m k)) y
   rwa [aD,dg] at this
  have hsX:∀ y z,aE (tl (exts n m k)++[y]) k z=tl (exts n m k)++[z]:=fun y z=>by
   rw [cZ,List.set_append_right _ _ (by rw [aD,dg]; exact Nat.le_refl _),aD,dg,Nat.sub_self]; rfl
  have hex:(r++List.replicate n 0).set (n + k) 1=pk n m k:=by rw [BR hrl,pk,hr]
  refine qh (qa (qm (ql (qm ?_))))
  refine ab fun K hK=>aa ae ?_
  simp only [ak,fl,gp,aj,simprocAttr,au,bD hkn,hr]
  refine af ?_ (hK _ ?_)<;>clear hK K
  ·omega
  refine qa (qm ?_)
  refine ab fun K hK=>aa ae ?_
  simp only [ak,fl,gp,aj,simprocAttr,h2n,aD,dg,cg]
  refine af ?_ (hK _ ?_)<;>clear hK K
  ·simp only [ah]; omega
  refine qa (qm ?_)
  refine ab fun K hK=>aa ae ?_
  simp only [ak,fl,gp,aj,simprocAttr]
  refine ao ?_ (eM (wV (k:=k + 1) (L:=n + n) (v:=r) (c:=ol (List.replicate (n + n) 0)) ae rfl rfl rfl rfl rfl rfl rfl (hgX _) (by rw [cW,List.length_replicate]; exact Nat.le_refl _) (by omega) (by omega)) rfl (by simp only [ay,Nat.reduceLT]) (aa ae ?_))
  ·first|exact trivial|omega|(simp only [ah] at *; omega)|(simp [ah] at *; omega)|simp_all
  simp only [ak,fl,gp,aj,simprocAttr]
  refine af ?_ (hK _ ?_)<;>clear hK K
  ·first|exact trivial|omega|(simp only [ah] at *; omega)|(simp [ah] at *; omega)|simp_all
  refine qa (qm ?_)
  rw [hsX,zS hrl hn]
  have htn:((n:Int) + (k:Int)).toNat=n + k:=by omega
  refine ab fun K hK=>aa ae ?_
  simp only [ak,fl,gp,aj,simprocAttr,htn,hex,dC,rX,hgX,hsX,cW,eK]
  refine af ?_ (hK _ ?_)<;>clear hK K
  ·simp only [ah,List.length_append,List.length_replicate,hrl]; omega
  refine qa ?_
  obtain ⟨X,hX⟩:∃ X,tl (exts n m k)++[.own (ol (pk n m k))]=X:=⟨_,rfl⟩
  have hXl:X.length=k + 1:=by rw [← hX]; simp [aD,dg]
  have hXg:∀ b,aq (X++[b]) (k + 1)=b:=fun b=>by rw [← hXl]; exact a8 X b
  have hrw:List.take k (b8 1 (n + n) k)=b8 1 (n + n) k:=k6 rfl
  rw [hX]
  refine ab fun K hK=>aa ae ?_
  simp only [ak,fl,gp,aj,simprocAttr,hXl,dC,hXg,List.length_append,hrw,gb,bt]
  refine ao ?_ (eM (cu ae rfl rfl rfl rfl rfl rfl) rfl (by simp only [ay,Nat.reduceLT]) (aa ae ?_))
  ·first|exact trivial|omega|(simp only [ah] at *; omega)|(simp [ah] at *; omega)|simp_all
  simp only [ak,fl,gp,aj,simprocAttr,hXl,List.length_append,hXl,dC,hXg,List.length_append,hrw,gb,bt]
  refine af ?_ (hK _ ?_)<;>clear hK K
  ·exact ⟨uh _ _ _,by omega,by omega,by omega⟩
  refine qd (qa ?_)
  refine ab fun K hK=>aa ae ?_
  simp only [ak,fl,gp,aj,simprocAttr]
  refine af ?_ (hK _ ?_)<;>clear hK K
  ·first|exact trivial|omega|(simp only [ah] at *; omega)|(simp [ah] at *; omega)|simp_all
  refine qa ?_
  refine ⟨k + 1,(k + 3) :: List.range' 1 (k + 1),by omega,by omega,?_⟩
  refine As (W:=n + n) (q:=k + 1) (M:=exts n m (k + 1)) rfl rfl (dg _ _ _) (.inr (by omega)) ?_ (fun i hi=>?_) (by simp [jY,St.get,lk,Go.Pv.bl,bu,bb,br])
  ·exact Gd hXl _ _
  rw [Nat.add_comm 1 i]
  show aq (X++_++_) i=_
  rw [G3 (by omega),← hX,kR,← xd,aV (by rw [dg]; omega)]
 (try simp only [aI] at hC1)
 have hkn:k=n:=by omega
 rw [hkn]
 have hml:(exts n m n).length=n:=dg _ _ _
 have hMr:=n9 (n:=n) h1 (i:=n) (by omega)
 have hMg:=rG (n:=n) hp2 h1 h2 (i:=n) (by omega)
 refine qj (qc (qc (qf (qa (qm ?_)))))
 refine lF 6 0 1 n hml hMr rfl (.inl (by omega)) rfl (fun i hi=>?_) fun H' a1 a2=>?_
 ·rw [Nat.add_comm 1 i,dC,aV (by omega)]
 refine ab fun K hK=>aa ae ?_
 simp only [ak,fl,gp,aj,simprocAttr]
 refine ao trivial (al (sO hp2 hp (show 0 < n + n by omega) (by omega) (exts n m n) (by omega) hMr hMg) rfl rfl rfl (by simp only [ay,Nat.reduceLT]) (by repeat (first|exact trivial|constructor)) (aa ae ?_))
 simp only [ak,fl,gp,aj,simprocAttr]
 refine af trivial (hK _ ?_)<;>clear hK K
 refine qa (qm ?_)
 obtain ⟨S,hS⟩:∃ S,cA p (exts n m n) (exts n m n).length=S:=⟨_,rfl⟩
 have hri:=fH (W:=n + n) (p:=p) (by omega) hMr hMg (exts n m n).length (Nat.le_refl _)
 have hql:=gP p (exts n m n) (exts n m n).length
 have hker:dX p m=fT n S S.1.length:=by unfold dX; rw [hm,← hS,hml]
 rw [hker]
 rw [hS] at hri hql ⊢
 rw [hml] at hql
 clear hker hS
 obtain ⟨out,at'⟩:=S
 obtain ⟨l1,l2,l3,l4⟩:=hri
 simp only at l1 l2 l3 l4 hql ⊢
 have hHl:H'.length=n + 1:=by rw [a1]; simp [aD,dg]
 refine ab fun K hK=>aa ae ?_
 simp only [ak,fl,gp,aj,simprocAttr]
 refine af trivial (hK _ ?_)<;>clear hK K
 refine qa (qm (qm ?_))
 refine bT 12 rfl ?_
 refine ab fun K hK=>aa ae ?_
 simp only [ak,fl,gp,aj,simprocAttr,au,hHl]
 refine af trivial (hK _ ?_)<;>clear hK K
 refine qa (ql ?_)
 refine aA (ι:=Nat) (fun i=>⟨67,[(5,.p (.int .i64 n)),(11,.p (.list (il at'))),(12,.sl 0 0 (fT n (out,at') i).length),(46,.p (.list (ll out))),(47,.p (.int .i64 out.length)),(48,.p (.int .i64 i))],[.own (bE (ll (fT n (out,at') i)))]⟩) (fun i=>i≤out.length) (fun i=>out.length - i) 0 (Nat.zero_le _) [n + 1] (mG rfl (by simp) rfl (fun j hj=>by
  have:j=0:=by simpa using hj
  subst this
  exact rK (l:=[]) (by show aq (H'++[.own []]) (n + 1)=_; rw [← hHl]; exact a8 H' _)) (by simp [jY,St.get,lk,Go.Pv.bl,bu,bb,br,fT])) fun i hi=>?_
 have hkl:=oV n (out,at') i
 refine qm ?_
 refine ab fun K hK=>aa ae ?_
 simp only [ak,fl,gp,aj,simprocAttr]
 refine af trivial (hK _ ?_)<;>clear hK K
 refine qa (qm ?_)
 refine an rfl (fun hC2=>?_) (fun hC2=>?_)
 ·(try simp only [aI] at hC2)
  have hil:i < out.length:=by omega
  refine qh (qa (qm (ql (qm ?_))))
  refine ab fun K hK=>aa ae ?_
  simp only [ak,fl,gp,aj,simprocAttr,au,bD hil]
  refine af ?_ (hK _ ?_)<;>clear hK K
  ·first|exact trivial|omega|(simp only [ah] at *; omega)|(simp [ah] at *; omega)|simp_all
  refine qa (qm ?_)
  refine ab fun K hK=>aa ae ?_
  simp only [ak,fl,gp,aj,simprocAttr,aW (show i < at'.length by omega)]
  refine af ?_ (hK _ ?_)<;>clear hK K
  ·first|exact trivial|omega|(simp only [ah] at *; omega)|(simp [ah] at *; omega)|simp_all
  refine qa ?_
  refine an rfl (fun hC3=>?_) (fun hC3=>?_)
  ·(try simp only [aI] at hC3)
   have hge:(n:Int)≤at'.getD i 0:=by omega
   have hker:fT n (out,at') (i + 1)=fT n (out,at') i++[(out.getD i []).drop n]:=by rw [fT,if_pos hge]
   have hol:(out.getD i []).length=n + n:=l2 _ (aC hil)
   refine ab fun K hK=>aa ae ?_
   simp only [ak,fl,gp,aj,simprocAttr]
   refine af ?_ (hK _ ?_)<;>clear hK K
   ·exact ⟨by omega,uF (by rw [bk]; exact js _),by omega,by omega,by omega⟩
   refine qd (qa ?_)
   rw [bk,cB,← hker,show (fT n (out,at') i).length + 1=(fT n (out,at') (i + 1)).length by rw [hker]; simp]
   refine ab fun K hK=>aa ae ?_
   simp only [ak,fl,gp,aj,simprocAttr]
   refine af ?_ (hK _ ?_)<;>clear hK K
   ·first|exact trivial|omega|(simp only [ah] at *; omega)|(simp [ah] at *; omega)|simp_all
   refine qa ?_
   refine ⟨i + 1,[1],by omega,by omega,?_⟩
   simp only [leq,bh,ak,fl,gp,aj,simprocAttr]<;>first|trivial|(rw [bk]; done)|skip
  (try simp only [aI] at hC3)
  have hge:¬ (n:Int)≤at'.getD i 0:=by omega
  have hker:fT n (out,at') (i + 1)=fT n (out,at') i:=by rw [fT,if_neg hge]
  refine qh (qd (qa ?_))
  refine ab fun K hK=>aa ae ?_
  simp only [ak,fl,gp,aj,simprocAttr]
  refine af ?_ (hK _ ?_)<;>clear hK K
  ·first|exact trivial|omega|(simp only [ah] at *; omega)|(simp [ah] at *; omega)|simp_all
  refine qa ?_
  refine ⟨i + 1,[0],by omega,by omega,?_⟩
  rw [hker]
  simp only [leq,bh,ak,fl,gp,aj,simprocAttr]<;>first|trivial|(rw [bk]; done)|skip
 (try simp only [aI] at hC2)
 have hio:i=out.length:=by omega
 rw [hio]
 refine qj (qc (qc (qf (qa (qm ?_)))))
 refine ab fun K hK=>aa ae ?_
 simp only [ak,fl,gp,aj,simprocAttr]
 refine af trivial (hK _ ?_)<;>clear hK K
 refine qa (qk ?_)
 simp only [Tryd.results79,cy,ak,fl,gp,aj,simprocAttr]
 all_goals (exact ⟨⟨Nat.le_refl _,by rw [bk]; exact js _⟩,bk _⟩)
def cR:List (List (List Int))→Nat
 | []=>0
 | s :: r=>1 + s.length + cR r
def gN (b:Nat):List (List (List Int))→List AV
 | []=>[]
 | s :: r=>.sl b 0 s.length :: gN (b + 1 + s.length) r
def iu (W b:Nat):List (List (List Int))→aw
 | []=>[]
 | s :: r=>.own (b8 (b + 1) W s.length) :: (tl s++iu W (b + 1 + s.length) r)
theorem re (b:Nat):∀ Sp,(gN b Sp).length=Sp.length:=fun Sp=>by
 induction Sp generalizing b with
 | nil=>rfl
 | cons s r ih=>simp [gN,ih]
theorem cC (W b:Nat):∀ Sp,(iu W b Sp).length=cR Sp:=fun Sp=>by
 induction Sp generalizing b with
 | nil=>rfl
 | cons s r ih=>simp [iu,cR,ih,aD]; omega
theorem ze (Sp:List (List (List Int))) (s:List (List Int)):cR (Sp++[s])=cR Sp + (1 + s.length):=by
 induction Sp with
 | nil=>simp [cR]
 | cons t r ih=>simp [cR,ih]; omega
theorem AI (b:Nat) (Sp:List (List (List Int))) (s:List (List Int)):gN b (Sp++[s])=gN b Sp++[.sl (b + cR Sp) 0 s.length]:=by
 induction Sp generalizing b with
 | nil=>simp [gN,cR]
 | cons t r ih=>simp [gN,cR,ih]; omega
theorem zt (W b:Nat) (Sp:List (List (List Int))) (s:List (List Int)):iu W b (Sp++[s])=iu W b Sp++(.own (b8 (b + cR Sp + 1) W s.length) :: tl s):=by
 induction Sp generalizing b with
 | nil=>simp [iu,cR]
 | cons t r ih =>
  simp only [List.cons_append,iu,ih,cR,List.append_assoc]
  rw [show b + 1 + t.length + cR r + 1=b + (1 + t.length + cR r) + 1 by omega]
theorem nV (W b:Nat) (Sp:List (List (List Int))):∀ j,j < cR Sp→(∃ v,aq (iu W b Sp) j = .own (ol v))∨∃ d q,aq (iu W b Sp) j = .own (b8 d W q)∧b≤d∧d + q≤b + cR Sp:=by
 induction Sp generalizing b with
 | nil=>intro j hj; simp [cR] at hj
 | cons s r ih =>
  intro j hj
  simp only [cR] at hj
  match j,hj with
  | 0,_=>exact .inr ⟨b + 1,s.length,rfl,by omega,by simp only [cR]; omega⟩
  | j + 1,hj =>
   simp only [iu,dC]
   by_cases h:j < s.length
   ·exact .inl ⟨_,zM h⟩
   rw [aY (by rw [aD]; omega),aD]
   rcases ih (b + 1 + s.length) (j - s.length) (by omega) with h | ⟨d,q,h1,h2,h3⟩
   ·exact .inl h
   exact .inr ⟨d,q,h1,by omega,by simp only [cR]; omega⟩
theorem rF (b:Nat) (Sp:List (List (List Int))):∀ x∈gN b Sp,∃ c l,x = .sl c 0 l∧b≤c∧c < b + cR Sp:=by
 induction Sp generalizing b with
 | nil=>intro x hx; simp [gN] at hx
 | cons s r ih =>
  intro x hx
  rcases List.mem_cons.1 hx with rfl | hx
  ·exact ⟨b,s.length,rfl,Nat.le_refl _,by simp only [cR]; omega⟩
  obtain ⟨c,l,e,h1,h2⟩:=ih _ x hx
  exact ⟨c,l,e,by omega,by simp only [cR]; omega⟩
theorem Fz (b:Nat) (Sp:List (List (List Int))):(gN b Sp).all bp=true:=by
 rw [List.all_eq_true]
 intro x hx
 obtain ⟨c,l,rfl,_⟩:=rF b Sp x hx
 rfl
theorem zw {π:List Nat} {H:aw} {k b:Nat} {Sp:List (List (List Int))} (h:aq H k = .own (gN b Sp)) (hp:∀ c,b≤c→c < b + cR Sp→c < π.length∧π.getD c 0=c):jT π H k (.own (gN b Sp)):=by
 simp only [jT,h]
 refine ⟨?_,?_⟩
 ·rw [List.take_of_length_le (Nat.le_refl _)]
  have:=List.map_congr_left (f:=Go.Pv.bl π) (g:=id) (l:=gN b Sp) fun x hx=>by
   obtain ⟨c,l,rfl,h1,h2⟩:=rF b Sp x hx
   simp only [Go.Pv.bl,bu,(hp c h1 h2).2,id]
  rw [this,List.map_id]
 rw [List.all_eq_true]
 intro x hx
 obtain ⟨c,l,rfl,h1,h2⟩:=rF b Sp x hx
 have:=(hp c h1 h2).1
 simp [bb,br]; omega
theorem Az {π:List Nat} {H:aw} {W b k j:Nat} {Sp:List (List (List Int))} (hj:j < cR Sp) (h:aq H k=aq (iu W b Sp) j) (hp:∀ c,b≤c→c < b + cR Sp→c < π.length∧π.getD c 0=c):jT π H k (aq (iu W b Sp) j):=by
 rcases nV W b Sp j hj with ⟨v,hv⟩ | ⟨d,q,hv,h1,h2⟩
 ·rw [hv] at h ⊢; exact iD h
 rw [hv] at h ⊢; exact jE h fun i hi=>hp _ (by omega) (by omega)
theorem jO {κ a n c:Nat} {r:List Nat} (h1:1≤c) (h2:c < 1 + n):c < (κ :: (List.range' 1 n++r)).length∧(κ :: (List.range' 1 n++r)).getD c 0=c:=by
 obtain ⟨c,rfl⟩:∃ d,c=d + 1:=⟨c - 1,by omega⟩
 refine ⟨by simp; omega,?_⟩
 rw [List.getD_cons_succ,List.getD_eq_getElem?_getD,List.getElem?_append_left (by simp; omega),List.getElem?_range' (by omega)]
 simp; omega
theorem nN {κ n:Nat} {r:List Nat} {j:Nat} : (κ :: (List.range' 1 n++r)).getD (1 + n + j) 0=r.getD j 0:=by
 rw [show 1 + n + j=n + j + 1 by omega,List.getD_cons_succ,List.getD_eq_getElem?_getD,List.getElem?_append_right (by simp),List.length_range',Nat.add_sub_cancel_left,List.getD_eq_getElem?_getD]
theorem oy {S s:St} {κ0 W:Nat} {Sp:List (List (List Int))} (hn:S.n=s.n) (hS:S.H = .own (gN 1 Sp) :: iu W 1 Sp) (hd:κ0 < 1∨1 + cR Sp≤κ0) (g0:aq s.H κ0 = .own (gN 1 Sp)) (g1:∀ j,j < cR Sp→aq s.H (1 + j)=aq (iu W 1 Sp) j)
  (hsl:jY (κ0 :: (List.range' 1 (cR Sp)++[])) S.sl s):Le (κ0 :: (List.range' 1 (cR Sp)++[])) S s:=by
 refine mG hn ?_ ?_ (fun j hj=>?_) hsl
 ·rw [List.append_nil]
  refine List.nodup_cons.2 ⟨?_,List.nodup_range'⟩
  simp only [List.mem_range'_1]; omega
 ·rw [hS]; simp [cC]
 rw [hS] at hj ⊢
 match j,hj with
 | 0,_=>exact zw g0 fun c h1 h2=>jO (a:=0) h1 h2
 | j + 1,hj =>
  have hjq:j < cR Sp:=by simpa [cC] using hj
  have:=(jO (κ:=κ0) (a:=0) (n:=cR Sp) (c:=j + 1) (r:=[]) (by omega) (by omega)).2
  rw [this,dC]
  exact Az hjq (by rw [Nat.add_comm j 1]; exact g1 j hjq) fun c h1 h2=>jO (a:=0) h1 h2
theorem vF {S s:St} {κ0 κ1 d k W z:Nat} {Sp:List (List (List Int))} {M:List (List Int)} (hz:cR Sp=z) (hM:M.length=k) (hn:S.n=s.n) (hS:S.H = .own (gN 1 Sp) :: (iu W 1 Sp++(.own (b8 (z + 2) W k) :: tl M)))
  (hd:(κ0 < 1∨1 + z≤κ0)∧1 + z≤κ1∧1 + z≤d∧κ0 ≠ κ1∧(κ0 < d∨d + k≤κ0)∧(κ1 < d∨d + k≤κ1)) (g0:aq s.H κ0 = .own (gN 1 Sp)) (g1:∀ j,j < z→aq s.H (1 + j)=aq (iu W 1 Sp) j) (g2:aq s.H κ1 = .own (b8 d W k)) (g3:∀ i,i < k→aq s.H (d + i) = .own (ol (M.getD i [])))
  (hsl:jY (κ0 :: (List.range' 1 z++(κ1 :: List.range' d k))) S.sl s):Le (κ0 :: (List.range' 1 z++(κ1 :: List.range' d k))) S s:=by
 subst hz
 refine mG hn ?_ ?_ (fun j hj=>?_) hsl
 ·refine List.nodup_cons.2 ⟨?_,List.nodup_append.2 ⟨List.nodup_range',List.nodup_cons.2 ⟨?_,List.nodup_range'⟩,fun a ha b hb=>?_⟩⟩
  ·simp only [List.mem_append,List.mem_cons,List.mem_range'_1]; omega
  ·simp only [List.mem_range'_1]; omega
  simp only [List.mem_cons,List.mem_range'_1] at ha hb; omega
 ·rw [hS]; simp [cC,aD,hM]
 rw [hS] at hj ⊢
 match j,hj with
 | 0,_=>exact zw g0 fun c h1 h2=>jO (a:=0) h1 h2
 | j + 1,hj =>
  rw [dC]
  by_cases hjq:j < cR Sp
  ·have:=(jO (κ:=κ0) (a:=0) (n:=cR Sp) (c:=j + 1) (r:=κ1 :: List.range' d k) (by omega) (by omega)).2
   rw [this,aF (by rw [cC]; exact hjq)]
   exact Az hjq (by rw [Nat.add_comm j 1]; exact g1 j hjq) fun c h1 h2=>jO (a:=0) h1 h2
  have hjl:j < cR Sp + (1 + k):=by
   simp only [List.length_cons,List.length_append,cC,aD,hM] at hj; omega
  obtain ⟨i,rfl⟩:∃ i,j=cR Sp + i:=⟨j - cR Sp,by omega⟩
  rw [show cR Sp + i + 1=1 + cR Sp + i by omega,nN,aY (by rw [cC]; omega),cC,Nat.add_sub_cancel_left]
  match i with
  | 0 =>
   refine jE g2 fun t ht=>⟨by simp; omega,?_⟩
   rw [show cR Sp + 2 + t=1 + cR Sp + (t + 1) by omega,nN,List.getD_cons_succ,eJ ht]
  | i + 1 =>
   have hik:i < k:=by omega
   rw [dC,aV (by omega),List.getD_cons_succ,eJ hik]
   exact iD (g3 i hik)
def vI (p:Nat) (m:List (List Int)) (w:List Int) (j k:Nat):List Int:=(List.range m.length).map fun t=>if t < j then G5 p m w t else if t=j then iF p (m.getD t []) w k else 0
theorem Fj (p:Nat) (m:List (List Int)) (w:List Int) (j k:Nat):(vI p m w j k).length=m.length:=by simp [vI]
theorem FM {p:Nat} {m:List (List Int)} {w:List Int} {j k:Nat} (h:j < m.length):(vI p m w j k).getD j 0=iF p (m.getD j []) w k:=by
 simp [vI,List.getD,List.getElem?_map,List.getElem?_range h]
theorem FB {p:Nat} {m:List (List Int)} {w:List Int} {j k:Nat} : (vI p m w j k).set j (iF p (m.getD j []) w (k + 1))=vI p m w j (k + 1):=by
 refine List.ext_getElem (by simp [vI]) fun t h1 h2=>?_
 rw [List.getElem_set]
 by_cases e:j=t
 ·subst e; simp [vI]
 rw [if_neg e]
 simp only [vI,List.getElem_map,List.getElem_range]
 by_cases e2:t < j
 ·rw [if_pos e2,if_pos e2]
 rw [if_neg e2,if_neg e2,if_neg (fun h=>e h.symm),if_neg (fun h=>e h.symm)]
theorem Cb {p:Nat} {m:List (List Int)} {w:List Int} {j:Nat} : vI p m w j w.length=vI p m w (j + 1) 0:=by
 refine List.ext_getElem (by simp [vI]) fun t h1 h2=>?_
 simp only [vI,List.getElem_map,List.getElem_range]
 by_cases e2:t < j
 ·rw [if_pos e2,if_pos (by omega)]
 rw [if_neg e2]
 by_cases e3:t=j
 ·rw [if_pos e3,if_pos (by omega),G5]
 rw [if_neg e3,if_neg (by omega),iF]; split<;>rfl
theorem Bi {p:Nat} {m:List (List Int)} {w:List Int} : vI p m w 0 0=List.replicate m.length 0:=by
 refine List.ext_getElem (by simp [vI]) fun t h1 h2=>?_
 simp [vI,iF]
theorem Ez {p:Nat} {m:List (List Int)} {w:List Int} {k:Nat} : vI p m w m.length k=qv p m w:=by
 refine List.ext_getElem (by simp [vI,qv]) fun t h1 h2=>?_
 have:t < m.length:=by simpa [qv] using h2
 simp [vI,qv,this]
theorem vQ {p:Nat} (hp:0 < p) (b w:List Int):∀ k,0≤iF p b w k∧iF p b w k < p
 | 0=>by simp only [iF]; omega
 | k + 1=>bC hp _
theorem qJ (p:Nat) (m:List (List Int)) (w:List Int):(qv p m w).length=m.length:=by simp [qv]
theorem Aw {p:Nat} (hp:0 < p) (m:List (List Int)) (w:List Int):ed p (qv p m w):=fun j=>by
 by_cases h:j < m.length
 ·have:(qv p m w).getD j 0=iF p (m.getD j []) w w.length:=by simp [qv,G5,List.getD,List.getElem?_map,List.getElem?_range h]
  rw [this]; exact vQ hp _ _ _
 simp [List.getD,List.getElem?_eq_none (show (qv p m w).length≤j by rw [qJ]; omega)]; omega
def rf (v at' : List Int) (q:Nat):List Int:=cO (fun t=>v.getD (at'.getD t 0).toNat 0) 0 q (List.replicate at'.length 0)
theorem zf {p:Nat} {m:List (List Int)} {at' w:List Int} : rf (qv p m w) at' at'.length=iQ p m at' w:=by
 refine List.ext_getElem (by simp [rf,iQ,cO]) fun t h1 h2=>?_
 have ht:t < at'.length:=by simpa [iQ] using h2
 simp [rf,iQ,cO,ht]
theorem iV (p:Nat) (m:List (List Int)) (at' w:List Int):(iQ p m at' w).length=at'.length:=by simp [iQ]
theorem q9 {p:Nat} (hp:0 < p) (m:List (List Int)) (at' w:List Int):ed p (iQ p m at' w):=fun j=>by
 by_cases h:j < at'.length
 ·have:(iQ p m at' w).getD j 0=(qv p m w).getD (at'.getD j 0).toNat 0:=by simp [iQ,List.getD,List.getElem?_map,List.getElem?_eq_getElem h]
  rw [this]; exact Aw hp m w _
 simp [List.getD,List.getElem?_eq_none (show (iQ p m at' w).length≤j by rw [iV]; omega)]; omega
theorem lH (p:Nat) (m s:List (List Int)) (at' : List Int) (i:Nat):(fp p m s at' i).length=i:=by simp [fp]
theorem xV (p:Nat) (m s:List (List Int)) (at' : List Int) (i:Nat):fp p m s at' (i + 1)=fp p m s at' i++[iQ p m at' (s.getD i [])]:=by simp [fp,List.range_succ]
theorem oG {p:Nat} {m s:List (List Int)} {at' : List Int} {i j:Nat} (h:j < i):(fp p m s at' i).getD j []=iQ p m at' (s.getD j []):=by
 simp [fp,List.getD,List.getElem?_map,List.getElem?_range h]
theorem qO (p v:Nat) (a:List (List Int)) (i:Nat):(jV p v a i).length=i:=by simp [jV]
theorem yR (p v:Nat) (a:List (List Int)) (i:Nat):jV p v a (i + 1)=jV p v a i++[yd p v a i]:=by simp [jV,List.range_succ]
theorem qZ (p v:Nat) (a:List (List Int)) (i:Nat):(yd p v a i).length=(a.getD i []).length:=by simp [yd]
theorem ux {p:Nat} (hp:0 < p) {v:Nat} {a:List (List Int)} {i:Nat} (h:ed p (a.getD i [])):ed p (yd p v a i):=fun j=>by
 unfold yd
 rw [List.getD_eq_getElem?_getD,List.getElem?_set]
 split
 ·split
  ·exact bC hp _
  simp only [Option.getD_none]; omega
 rw [← List.getD_eq_getElem?_getD]; exact h j
theorem B3 (p:Nat) (x:Int) (w b:List Int):(FQ p x w b).length=w.length:=bF _ _ _ _
theorem EH {p:Nat} (hp:0 < p) {x:Int} {w b:List Int} (h:ed p w):ed p (FQ p x w b):=nJ (fun _=>bC hp _) h
theorem nB (p W:Nat) (s:List (List Int)) (v:List Int):∀ i,(qt p W s v i).length=W
 | 0=>by simp [qt]
 | i + 1=>by rw [qt,B3]; exact nB p W s v i
theorem ui {p:Nat} (hp:0 < p) (W:Nat) (s:List (List Int)) (v:List Int):∀ i,ed p (qt p W s v i)
 | 0=>fun j=>by
  rw [qt,List.getD_eq_getElem?_getD,List.getElem?_replicate]
  split
  ·simp only [Option.getD_some]; omega
  simp only [Option.getD_none]; omega
 | i + 1=>EH hp (ui hp W s v i)
theorem ph {n:Nat} {S:List (List Int) × List Int} : ∀ i,i≤S.1.length→∀ v∈fT n S i,∃ r∈S.1,v=r.drop n
 | 0,_,v,hv=>by simp [fT] at hv
 | i + 1,hi,v,hv=>by
  rw [fT] at hv
  split at hv
  ·rcases List.mem_append.1 hv with hv | hv
   ·exact ph i (by omega) v hv
   exact ⟨_,aC (by omega),List.mem_singleton.1 hv⟩
  exact ph i (by omega) v hv
theorem po {p n:Nat} (hp:2≤p) {m:List (List Int)} (hm:m.length=n) (h1:∀ v∈m,v.length=n) (h2:∀ v∈m,ed p v):(∀ v∈dX p m,v.length=n∧ed p v)∧(dX p m).length≤n:=by
 have hMr:=n9 (n:=n) h1 (i:=n) (by omega)
 have hMg:=rG (n:=n) hp h1 h2 (i:=n) (by omega)
 have hml:(exts n m n).length=n:=dg _ _ _
 have hri:=fH (W:=n + n) (p:=p) (by omega) hMr hMg n (by omega)
 have hql:=gP p (exts n m n) n
 unfold dX
 rw [hm]
 refine ⟨fun v hv=>?_,Nat.le_trans (oV _ _ _) hql⟩
 obtain ⟨r,r1,rfl⟩:=ph _ (Nat.le_refl _) v hv
 refine ⟨by rw [List.length_drop,hri.l2 r r1]; omega,fun j=>?_⟩
 have:=hri.l3 r r1 (n + j)
 simpa [List.getD,List.getElem?_drop] using this
end Go.Proofs.YtjlmpmidchddjaaDoor
namespace Go.Proofs.YtjlmpmidchddjaaDoor
open Lean.Grind
attribute [local instance] Lean.Grind.Semiring.natCast Lean.Grind.Ring.intCast
section
variable {K:Type} [CommRing K]
structure Rd (K:Type) [CommRing K] (p:Nat):Prop where
 two:2≤p
 fld:nr K
 ker:∀ x:Int,(x:K)=0↔x % (p:Int)=0
 fer:∀ x:Int,¬ x % (p:Int)=0→((x ^ (p - 2):Int):K) * (x:K)=1
theorem Rd.mod {p:Nat} (R:Rd K p) (x:Int):((x % (p:Int):Int):K)=(x:K):=by
 have h:(((x - x % (p:Int)):Int):K)=0:=(R.ker _).2 (by rw [Int.sub_emod,qo,Int.sub_self]; rfl)
 rw [Ring.intCast_sub] at h
 grind
theorem Rd.zero {p:Nat} (R:Rd K p) {x:Int} (h:0≤x∧x < p):(x:K)=0↔x=0:=by
 rw [R.ker,Int.emod_eq_of_lt h.1 h.2]
theorem Rd.inv {p:Nat} (R:Rd K p) {x:Int} (h:0≤x∧x < p) (h0:¬ x=0):(x:K) * (dP p x:K)=1:=by
 have:=R.fer x (by rw [Int.emod_eq_of_lt h.1 h.2]; exact h0)
 unfold dP
 rw [R.mod]; grind
def vc (r:List Int) (j:Nat):K:=((r.getD j 0:Int):K)
theorem gF {r:List Int} {j:Nat} (h:r.length≤j):(vc r j:K)=0:=by
 unfold vc
 rw [List.getD_eq_getElem?_getD,List.getElem?_eq_none h]
 exact Ring.intCast_zero
theorem u7 {p:Nat} {f:Nat→Int} {r:List Int} {g:Nat→K} (hf:∀ j,j < r.length→((f j:Int):K)=g j) (hg:∀ j,r.length≤j→g j=0):(vc (cO f 0 r.length r):Nat→K)=g:=by
 funext j
 by_cases h:j < r.length
 ·unfold vc
  rw [df h,if_pos ⟨Nat.zero_le _,h⟩,hf j h]
 rw [gF (by rw [bF]; omega),hg j (by omega)]
theorem DH {p:Nat} (R:Rd K p) {k:Int} {r b:List Int} (h:r.length=b.length):(vc (AM p k r b):Nat→K)=fun j=>vc r j - (k:K) * vc b j:=by
 unfold AM
 refine u7 (p:=p) (fun j hj=>?_) fun j hj=>?_
 ·unfold ya
  rw [R.mod,Ring.intCast_sub,Ring.intCast_mul]; rfl
 rw [gF hj,gF (by omega)]; grind
theorem DD {p:Nat} (R:Rd K p) {k:Int} {r:List Int} : (vc (Ap p k r):Nat→K)=fun j=>vc r j * (k:K):=by
 unfold Ap
 refine u7 (p:=p) (fun j hj=>?_) fun j hj=>?_
 ·unfold Ai
  rw [R.mod,Ring.intCast_mul]; rfl
 rw [gF hj]; grind
theorem Gk {p:Nat} (R:Rd K p) {x:Int} {w b:List Int} (h:b.length≤w.length):(vc (FQ p x w b):Nat→K)=fun j=>vc w j + (x:K) * vc b j:=by
 unfold FQ
 refine u7 (p:=p) (fun j hj=>?_) fun j hj=>?_
 ·unfold Ek
  rw [R.mod,Ring.intCast_add,Ring.intCast_mul]; rfl
 rw [gF hj,gF (by omega)]; grind
theorem GH {p:Nat} (R:Rd K p) {r:List Int} (h:ed p r) (j:Nat):(vc r j:K)=0↔r.getD j 0=0:=R.zero (h j)
structure gT (S:(Nat→K)→Prop):Prop where
 zero:S fun _=>0
 add:∀ u v,S u→S v→S fun j=>u j + v j
 smul:∀ k u,S u→S fun j=>k * u j
theorem gT.sum {S:(Nat→K)→Prop} (h:gT S) {y:Nat→Nat→K} {c:Nat→K} : ∀ {n:Nat},(∀ i,i < n→S (y i))→S fun j=>sm (fun i=>c i * y i j) n
 | 0,_=>h.zero
 | n + 1,hy=>h.add _ _ (h.sum fun i hi=>hy i (by omega)) (h.smul _ _ (hy n (by omega)))
theorem gT.sub {S:(Nat→K)→Prop} (h:gT S) {u v:Nat→K} (hu:S u) (hv:S v):S fun j=>u j - v j:=by
 have:=h.add _ _ hu (h.smul (-1) _ hv)
 have e:(fun j=>u j - v j)=fun j=>u j + -1 * v j:=by funext j; grind
 rw [e]; exact this
def bN (L:List (List Int)) (i:Nat):Nat→K:=vc (L.getD i [])
def bA (L:List (List Int)) (u:Nat→K):Prop:=∃ C:Nat→K,∀ j,u j=sm (fun i=>C i * bN L i j) L.length
theorem bA.lR (L : List (List Int)) : gT (bA (K := K) L) :=
  ⟨⟨fun _ => 0, fun j => (aS fun i _ => by grind).symm⟩,
   fun u v ⟨C, hC⟩ ⟨D, hD⟩ => ⟨fun i => C i + D i, fun j => by show u j + v j = _; rw [hC, hD, ← iX]; exact ai fun i _ => by grind⟩,
   fun k u ⟨C, hC⟩ => ⟨fun i => k * C i, fun j => by show k * u j = _; rw [hC, ← aK]; exact ai fun i _ => by grind⟩⟩
theorem bA.least {L:List (List Int)} {S:(Nat→K)→Prop} (h:gT S) (hL:∀ r∈L,S (vc r)) {u:Nat→K} (hu:bA L u):S u:=by
 obtain ⟨C,hC⟩:=hu
 have:u=fun j=>sm (fun i=>C i * bN L i j) L.length:=funext hC
 rw [this]
 exact h.sum fun i hi=>hL _ (aC hi)
theorem bA.get {L:List (List Int)} {i:Nat} (hi:i < L.length):bA L (bN (K:=K) L i):=
 ⟨fun t=>if t=i then 1 else 0,fun j=>by
  rw [ba (i:=i) hi fun t ht hne=>by show (if t=i then (1:K) else 0) * _=0; rw [if_neg hne]; grind]
  show _=(if i=i then (1:K) else 0) * _
  rw [if_pos rfl]; grind⟩
theorem bA.mem {L:List (List Int)} {r:List Int} (h:r∈L):bA L (vc (K:=K) r):=by
 obtain ⟨i,hi,e⟩:=List.getElem_of_mem h
 have:bN (K:=K) L i=vc r:=by unfold bN; rw [← e]; simp [List.getD,List.getElem?_eq_getElem hi]
 rw [← this]; exact bA.get hi
theorem bA.mono {L L' : List (List Int)} (h:∀ r∈L,bA L' (vc (K:=K) r)) {u:Nat→K} (hu:bA L u):bA L' u:=bA.least (bA.lR L') h hu
structure RE (S:List (List Int) × List Int):Prop where
 at' : ∀ i k,i < S.1.length→k < S.1.length→(bN (K:=K) S.1 i (S.2.getD k 0).toNat)=if i=k then 1 else 0
 bef:∀ i j,i < S.1.length→j < (S.2.getD i 0).toNat→bN (K:=K) S.1 i j=0
theorem ss {p W:Nat} (R:Rd K p) {S:List (List Int) × List Int} (hri:RI p W S) (he:RE (K:=K) S) {r:List Int} (hr:r.length=W) (hg:ed p r):∀ i,i≤S.1.length→(∀ k,k < i→(vc (mU p S.1 S.2 r i) (S.2.getD k 0).toNat:K)=0)∧bA S.1 fun j=>(vc (mU p S.1 S.2 r i) j:K) - vc r j
 | 0,_=>⟨fun k hk=>absurd hk (Nat.not_lt_zero _),by
   have:=(bA.lR (K:=K) S.1).zero
   have e:(fun j=>(vc (mU p S.1 S.2 r 0) j:K) - vc r j)=fun _=>0:=by funext j; simp only [mU]; grind
   rw [e]; exact this⟩
 | i + 1,hi=>by
  obtain ⟨h1,h2⟩:=ss R hri he hr hg i (by omega)
  have hgx:=lL (by have:=R.two; omega) hg (p:=p) (out:=S.1) (at':=S.2) i
  have hxl:=ic p S.1 S.2 r i
  rw [mU]
  generalize mU p S.1 S.2 r i=x at *
  split
  ·rename_i h0
   refine ⟨fun k hk=>?_,h2⟩
   by_cases e:k=i
   ·rw [e]; unfold vc; rw [h0]; exact Ring.intCast_zero
   exact h1 k (by omega)
  have hb:(S.1.getD i []).length=x.length:=by rw [hri.l2 _ (aC (by omega)),hxl,hr]
  have e:=DH R (k:=x.getD (S.2.getD i 0).toNat 0) hb.symm
  rw [e]
  refine ⟨fun k hk=>?_,?_⟩
  ·have h3:=he.at' i k (by omega) (by omega)
   unfold bN at h3
   simp only
   rw [h3]
   by_cases e2:i=k
   ·subst e2
    rw [if_pos rfl]
    show vc x _ - vc x _ * 1=0
    grind
   rw [if_neg e2,h1 k (by omega)]; grind
  have h3:=(bA.lR S.1).smul ((x.getD (S.2.getD i 0).toNat 0:Int):K) _ (bA.get (K:=K) (show i < S.1.length by omega))
  have h4:=(bA.lR S.1).sub h2 h3
  have e2:(fun j=>(vc x j:K) - ((x.getD (S.2.getD i 0).toNat 0:Int):K) * vc (S.1.getD i []) j - vc r j)=fun j=>vc x j - vc r j - ((x.getD (S.2.getD i 0).toNat 0:Int):K) * bN S.1 i j:=by funext j; unfold bN; grind
  rw [e2]; exact h4
theorem GJ {p:Nat} (R:Rd K p) {j:Nat} {r b:List Int} (h:b.length=r.length):(vc (uA p j r b):Nat→K)=fun t=>vc b t - vc b j * vc r t:=by
 unfold uA
 split
 ·rename_i h0
  have:(vc b j:K)=0:=by unfold vc; rw [h0]; exact Ring.intCast_zero
  funext t; rw [this]; grind
 rw [DH R h]; rfl
theorem xz {p W:Nat} (R:Rd K p) {S:List (List Int) × List Int} (hri:RI p W S) (he:RE (K:=K) S) {L:List (List Int)} (hs:∀ u:Nat→K,bA S.1 u↔bA L u) {r:List Int} (hr:r.length=W) (hg:ed p r) :
  RE (K:=K) (oX p S r)∧∀ u:Nat→K,bA (oX p S r).1 u↔bA (L++[r]) u:=by
 have hp0:0 < p:=by have:=R.two; omega
 obtain ⟨c1,c2⟩:=ss (K:=K) R hri he hr hg S.1.length (Nat.le_refl _)
 have hgx:=lL hp0 hg (p:=p) (out:=S.1) (at':=S.2) S.1.length
 have hxl:=ic p S.1 S.2 r S.1.length
 have hLr:∀ u:Nat→K,bA L u→bA (L++[r]) u:=fun u hu=>bA.mono (fun q hq=>bA.mem (by simp [hq])) hu
 have hrr:bA (L++[r]) (vc (K:=K) r):=bA.mem (by simp)
 unfold oX
 generalize mU p S.1 S.2 r S.1.length=x at *
 have hxr:bA (L++[r]) (vc (K:=K) x):=by
  have:=(bA.lR (L++[r])).add _ _ (hLr _ ((hs _).1 c2)) hrr
  have e:(fun j=>(vc x j:K) - vc r j + vc r j)=vc x:=by funext j; grind
  rw [e] at this; exact this
 cases hf:FC x with
 | none =>
  have hx0:∀ j,(vc x j:K)=0:=fun j=>by
   by_cases hj:j < x.length
   ·have:=ca hf j hj
    simp only [decide_eq_false_iff_not,Classical.not_not] at this
    unfold vc; rw [this]; exact Ring.intCast_zero
   exact gF (by omega)
  refine ⟨he,fun u=>⟨fun hu=>hLr u ((hs u).1 hu),fun hu=>bA.mono (fun q hq=>?_) hu⟩⟩
  rcases List.mem_append.1 hq with hq | hq
  ·exact (hs _).2 (bA.mem hq)
  rw [List.mem_singleton.1 hq]
  have:=(bA.lR (K:=K) S.1).smul (-1) _ c2
  have e:(fun j=>(-1:K) * (vc x j - vc r j))=vc r:=by funext j; rw [hx0]; grind
  rw [e] at this; exact this
 | some j =>
  obtain ⟨j1,j2,j3⟩:=cE hf
  simp only [decide_eq_true_eq] at j2
  simp only
  have hiv:=R.inv (hgx j) j2
  obtain ⟨k,hk⟩:∃ k:K,((dP p (x.getD j 0):Int):K)=k:=⟨_,rfl⟩
  obtain ⟨y,hy⟩:∃ y,Ap p (dP p (x.getD j 0)) x=y:=⟨_,rfl⟩
  have hyv:(vc y:Nat→K)=fun t=>vc x t * k:=by rw [← hy,DD R,hk]
  have hxj:(vc x j:K) * k=1:=by rw [← hk]; exact hiv
  have hyl:y.length=W:=by rw [← hy,va,hxl,hr]
  have hyj:(vc y j:K)=1:=by rw [hyv]; exact hxj
  have hyb:∀ t,t < j→(vc y t:K)=0:=fun t ht=>by
   rw [hyv]
   have:=j3 t ht
   simp only [decide_eq_false_iff_not,Classical.not_not] at this
   have e:(vc x t:K)=0:=by unfold vc; rw [this]; exact Ring.intCast_zero
   simp only; rw [e]; grind
  have hyk:∀ i,i < S.1.length→(vc y (S.2.getD i 0).toNat:K)=0:=fun i hi=>by
   rw [hyv]; simp only; rw [c1 i hi]; grind
  rw [hy]
  have hol:(fw p j y S.1 S.1.length).length=S.1.length:=jR _ _ _ _ _
  have hog:∀ i,i < S.1.length→bN (K:=K) (fw p j y S.1 S.1.length++[y]) i=fun t=>bN S.1 i t - bN S.1 i j * vc y t:=fun i hi=>by
   unfold bN
   rw [eU _ _ (by omega),vn hi,if_pos hi]
   exact GJ R (by rw [hri.l2 _ (aC hi),hyl])
  have hoy:bN (K:=K) (fw p j y S.1 S.1.length++[y]) S.1.length=vc y:=by
   unfold bN
   have:=cF (fw p j y S.1 S.1.length) y []
   rw [hol] at this
   rw [this]
  have hai:∀ i,i < S.1.length→(S.2++[(j:Int)]).getD i 0=S.2.getD i 0:=fun i hi=>eU _ _ (by rw [hri.l1]; exact hi)
  have haj:(S.2++[(j:Int)]).getD S.1.length 0=(j:Int):=by
   have:=cF S.2 (j:Int) 0
   rwa [hri.l1] at this
  have hnl:(fw p j y S.1 S.1.length++[y]).length=S.1.length + 1:=by simp [hol]
  refine ⟨⟨fun i k hi hk=>?_,fun i t hi ht=>?_⟩,fun u=>⟨fun hu=>bA.mono (fun q hq=>?_) hu,fun hu=>?_⟩⟩
  ·simp only [hnl] at hi hk
   simp only
   by_cases ei:i=S.1.length
   ·rw [ei,hoy]
    by_cases ek:k=S.1.length
    ·rw [ek,haj,Int.toNat_natCast,hyj,if_pos rfl]
    rw [hai k (by omega),hyk k (by omega),if_neg (fun h=>ek h.symm)]
   rw [hog i (by omega)]
   by_cases ek:k=S.1.length
   ·rw [ek,haj,Int.toNat_natCast]
    simp only
    rw [hyj,if_neg ei]; grind
   rw [hai k (by omega)]
   simp only
   rw [hyk k (by omega),he.at' i k (by omega) (by omega)]; grind
  ·simp only [hnl] at hi
   simp only at ht ⊢
   by_cases ei:i=S.1.length
   ·rw [ei,haj,Int.toNat_natCast] at ht
    rw [ei,hoy]; exact hyb t ht
   rw [hai i (by omega)] at ht
   rw [hog i (by omega)]
   simp only
   rw [he.bef i t (by omega) ht]
   by_cases htj:t < j
   ·rw [hyb t htj]; grind
   rw [he.bef i j (by omega) (by omega)]; grind
  ·have hyL:bA (L++[r]) (vc (K:=K) y):=by
    have:=(bA.lR (L++[r])).smul k _ hxr
    rw [hyv]
    have e:(fun t=>(vc x t:K) * k)=fun t=>k * vc x t:=by funext t; grind
    rw [e]; exact this
   rcases List.mem_append.1 hq with hq | hq
   ·obtain ⟨i,hi,e⟩:=List.getElem_of_mem hq
    rw [hol] at hi
    have h1:=hog i hi
    have h2:bN (K:=K) (fw p j y S.1 S.1.length++[y]) i=vc q:=by
     unfold bN; rw [eU _ _ (by omega),← e]; simp [List.getD,List.getElem?_eq_getElem (show i < (fw p j y S.1 S.1.length).length by omega)]
    rw [← h2,h1]
    exact (bA.lR (L++[r])).sub (hLr _ ((hs _).1 (bA.get hi))) ((bA.lR (L++[r])).smul _ _ hyL)
   rw [List.mem_singleton.1 hq]; exact hyL
  have hy' : bA (fw p j y S.1 S.1.length++[y]) (vc (K:=K) y):=bA.mem (by simp)
  have ho' : ∀ i,i < S.1.length→bA (fw p j y S.1 S.1.length++[y]) (bN (K:=K) S.1 i):=fun i hi=>by
   have h1:=bA.get (K:=K) (L:=fw p j y S.1 S.1.length++[y]) (i:=i) (by omega)
   have h2:=(bA.lR (fw p j y S.1 S.1.length++[y])).add _ _ h1 ((bA.lR _).smul (bN S.1 i j) _ hy')
   rw [hog i hi] at h2
   have e:(fun t=>bN (K:=K) S.1 i t - bN S.1 i j * vc y t + bN S.1 i j * vc y t)=bN S.1 i:=by funext t; grind
   rw [e] at h2; exact h2
  have hS' : ∀ v:Nat→K,bA S.1 v→bA (fw p j y S.1 S.1.length++[y]) v:=fun v hv=>by
   obtain ⟨C,hC⟩:=hv
   have:v=fun t=>sm (fun i=>C i * bN S.1 i t) S.1.length:=funext hC
   rw [this]
   exact (bA.lR _).sum ho'
  refine bA.mono (fun q hq=>?_) hu
  rcases List.mem_append.1 hq with hq | hq
  ·exact hS' _ ((hs _).2 (bA.mem hq))
  rw [List.mem_singleton.1 hq]
  have h1:=hS' _ c2
  have h2:=(bA.lR (fw p j y S.1 S.1.length++[y])).smul (vc x j) _ hy'
  have h3:=(bA.lR (fw p j y S.1 S.1.length++[y])).sub h2 h1
  have e:(fun t=>(vc x j:K) * vc y t - (vc x t - vc r t))=vc r:=by
   funext t
   rw [hyv]
   simp only
   have:(vc x j:K) * (vc x t * k)=vc x t:=by
    have:(vc x j:K) * (vc x t * k)=(vc x j * k) * vc x t:=by grind
    rw [this,hxj]; grind
   rw [this]; grind
  rw [e] at h3; exact h3
theorem mf {p W:Nat} (R:Rd K p) {M:List (List Int)} (h1:∀ v∈M,v.length=W) (h2:∀ v∈M,ed p v):∀ k,k≤M.length→RE (K:=K) (cA p M k)∧∀ u:Nat→K,bA (cA p M k).1 u↔bA (M.take k) u
 | 0,_=>⟨⟨fun i k hi=>absurd hi (Nat.not_lt_zero _),fun i j hi=>absurd hi (Nat.not_lt_zero _)⟩,fun u=>by rw [List.take_zero]; exact Iff.rfl⟩
 | k + 1,hk=>by
  obtain ⟨a1,a2⟩:=mf R h1 h2 k (by omega)
  have hri:=fH (p:=p) (by have:=R.two; omega) h1 h2 k (by omega)
  have:=xz (K:=K) R hri a1 a2 (h1 _ (aC (d:=[]) (show k < M.length by omega))) (h2 _ (aC (by omega)))
  have e:M.take (k + 1)=M.take k++[M.getD k []]:=by
   rw [List.take_succ_eq_append_getElem (by omega)]; simp [List.getD,List.getElem?_eq_getElem (show k < M.length by omega)]
  rw [e,cA]; exact this
end
end Go.Proofs.YtjlmpmidchddjaaDoor
namespace Go.Proofs.YtjlmpmidchddjaaDoor
open Lean.Grind
attribute [local instance] Lean.Grind.Semiring.natCast Lean.Grind.Ring.intCast
section
variable {K:Type} [CommRing K]
def w7 (n:Nat) (S:List (List Int) × List Int) (i:Nat):List Nat:=(List.range i).filter fun s=>decide ((n:Int)≤S.2.getD s 0)
theorem wy (n:Nat) (S:List (List Int) × List Int):∀ i,fT n S i=(w7 n S i).map fun s=>(S.1.getD s []).drop n
 | 0=>rfl
 | i + 1=>by
  rw [fT,wy n S i]
  unfold w7
  rw [List.range_succ,List.filter_append,List.map_append]
  by_cases h:(n:Int)≤S.2.getD i 0
  ·rw [if_pos h]
   have:[i].filter (fun s=>decide ((n:Int)≤S.2.getD s 0))=[i]:=by simp only [List.filter_cons,decide_eq_true h]; rfl
   rw [this]; rfl
  rw [if_neg h]
  have:[i].filter (fun s=>decide ((n:Int)≤S.2.getD s 0))=[]:=by simp only [List.filter_cons,decide_eq_false h]; rfl
  rw [this]; simp
theorem zL {n:Nat} {S:List (List Int) × List Int} {i s:Nat} : s∈w7 n S i↔s < i∧(n:Int)≤S.2.getD s 0:=by
 unfold w7
 rw [List.mem_filter,List.mem_range,decide_eq_true_iff]
theorem Cz (n:Nat) (S:List (List Int) × List Int) (i:Nat):(w7 n S i).Nodup:=List.nodup_range.filter _
theorem nO (n:Nat) (r:List Int) (j:Nat):(vc (r.drop n) j:K)=vc r (n + j):=by
 unfold vc
 simp [List.getD,List.getElem?_drop]
theorem E9 (r r' : List Int) (j:Nat):(vc (r++r') j:K)=if j < r.length then vc r j else vc r' (j - r.length):=by
 unfold vc
 by_cases h:j < r.length
 ·rw [if_pos h]; simp [List.getD,List.getElem?_append_left h]
 rw [if_neg h]; simp [List.getD,List.getElem?_append_right (show r.length≤j by omega)]
theorem vW {n i j:Nat} (hi:i < n):(vc ((List.replicate n (0:Int)).set i 1) j:K)=if j=i then 1 else 0:=by
 unfold vc
 rw [List.getD_eq_getElem?_getD,List.getElem?_set]
 by_cases e:i=j
 ·subst e
  rw [if_pos rfl,if_pos (by simpa using hi),if_pos rfl]
  exact Ring.intCast_one
 rw [if_neg e,if_neg (fun h=>e h.symm),List.getElem?_replicate]
 split
 ·exact Ring.intCast_zero
 exact Ring.intCast_zero
theorem ig {n:Nat} {m:List (List Int)} (hm:m.length=n) (h1:∀ v∈m,v.length=n) {i:Nat} (hi:i < n) (j:Nat):bN (K:=K) (exts n m n) i j=if j < n then bN m i j else if j=n + i then 1 else 0:=by
 have e:(exts n m n).getD i []=pk n m i:=by simp [exts,List.getD,List.getElem?_map,List.getElem?_range hi]
 unfold bN
 rw [e]
 unfold pk
 rw [E9,h1 _ (aC (by omega))]
 by_cases hj:j < n
 ·rw [if_pos hj,if_pos hj]
 rw [if_neg hj,if_neg hj,vW hi]
 by_cases e:j=n + i
 ·rw [if_pos e,if_pos (by omega)]
 rw [if_neg e,if_neg (by omega)]
def ug (n:Nat) (m:List (List Int)) (u:Nat→K):Prop:=(∀ j,n≤j→u j=0)∧∀ j,j < n→sm (fun i=>u i * bN m i j) n=0
theorem ug.lR (n : Nat) (m : List (List Int)) : gT (ug (K := K) n m) :=
  ⟨⟨fun _ _ => rfl, fun j _ => aS fun i _ => by grind⟩,
   fun u v ⟨a, b⟩ ⟨c, d⟩ => ⟨fun j hj => by show u j + v j = 0; rw [a j hj, c j hj]; grind, fun j hj => by
     have : sm (fun i => (u i + v i) * bN m i j) n = sm (fun i => u i * bN m i j) n + sm (fun i => v i * bN m i j) n := by rw [← iX]; exact ai fun i _ => by grind
     show sm (fun i => (u i + v i) * bN m i j) n = 0
     rw [this, b j hj, d j hj]; grind⟩,
   fun k u ⟨a, b⟩ => ⟨fun j hj => by show k * u j = 0; rw [a j hj]; grind, fun j hj => by
     have : sm (fun i => (k * u i) * bN m i j) n = k * sm (fun i => u i * bN m i j) n := by rw [← aK]; exact ai fun i _ => by grind
     show sm (fun i => (k * u i) * bN m i j) n = 0
     rw [this, b j hj]; grind⟩⟩
theorem AQ {p n:Nat} (R:Rd K p) {m:List (List Int)} (hm:m.length=n) (h1:∀ v∈m,v.length=n) (h2:∀ v∈m,ed p v) :
  (∀ u:Nat→K,bA (dX p m) u↔ug n m u)∧im (bN (K:=K) (dX p m)) (dX p m).length:=by
 have hMr:=n9 (n:=n) h1 (i:=n) (by omega)
 have hMg:=rG (n:=n) R.two h1 h2 (i:=n) (by omega)
 have hml:(exts n m n).length=n:=dg _ _ _
 have hri:=fH (W:=n + n) (p:=p) (by have:=R.two; omega) hMr hMg n (by omega)
 obtain ⟨he,hsp⟩:=mf (K:=K) R hMr hMg n (by omega)
 rw [List.take_of_length_le (by omega)] at hsp
 have hk:dX p m=fT n (cA p (exts n m n) n) (cA p (exts n m n) n).1.length:=by unfold dX; rw [hm]
 rw [hk]
 generalize cA p (exts n m n) n=S at *
 rw [wy]
 have hXm:=fun s=>zL (n:=n) (S:=S) (i:=S.1.length) (s:=s)
 have hXn:=Cz n S S.1.length
 generalize w7 n S S.1.length=X at *
 have hat:∀ i,i < S.1.length→(S.2.getD i 0).toNat < n + n∧((S.2.getD i 0).toNat:Int)=S.2.getD i 0:=fun i hi=>by
  have:=hri.l4 i (by rw [hri.l1]; exact hi)
  omega
 have hrl:∀ s,s∈X→((S.1.getD s []).length=n + n):=fun s hs=>hri.l2 _ (aC ((hXm s).1 hs).1)
 have hex:∀ w:Nat→K,bA S.1 w→∀ j,j < n→w j=sm (fun i=>w (n + i) * bN m i j) n:=fun w hw j hj=>by
  obtain ⟨C,hC⟩:=(hsp w).1 hw
  rw [hml] at hC
  have e1:∀ i,i < n→w (n + i)=C i:=fun i hi=>by
   rw [hC,ba (i:=i) hi fun t ht hne=>?_,ig hm h1 hi,if_neg (by omega),if_pos rfl]
   ·grind
   rw [ig hm h1 ht,if_neg (by omega),if_neg (by omega)]; grind
  rw [hC]
  refine ai fun i hi=>?_
  rw [e1 i hi,ig hm h1 hi,if_pos hj]
 have hrow:∀ s∈X,ug n m (vc (K:=K) ((S.1.getD s []).drop n)):=fun s hs=>by
  obtain ⟨s1,s2⟩:=(hXm s).1 hs
  refine ⟨fun j hj=>?_,fun j hj=>?_⟩
  ·rw [nO]; exact gF (by rw [hrl s hs]; omega)
  have h3:=hex _ (bA.get s1) j hj
  have h4:=he.bef s j s1 (by have:=(hat s s1).2; omega)
  rw [h4] at h3
  rw [ai (g:=fun i=>bN S.1 s (n + i) * bN m i j) fun i _=>by rw [nO]; rfl,← h3]
 refine ⟨fun u=>⟨fun hu=>bA.least (ug.lR n m) (fun r hr=>?_) hu,fun hu=>?_⟩,?_⟩
 ·obtain ⟨s,hs,rfl⟩:=List.mem_map.1 hr
  exact hrow s hs
 ·obtain ⟨k1,k2⟩:=hu
  have hw:bA (exts n m n) fun j=>if j < n then (0:K) else u (j - n):=by
   refine ⟨u,fun j=>?_⟩
   rw [hml]
   by_cases hj:j < n
   ·show (if j < n then (0:K) else u (j - n))=_
    rw [if_pos hj,← k2 j hj]
    exact ai fun i hi=>by rw [ig hm h1 hi,if_pos hj]
   show (if j < n then (0:K) else u (j - n))=_
   rw [if_neg hj]
   by_cases hj2:j - n < n
   ·rw [ba (i:=j - n) hj2 fun t ht hne=>?_,ig hm h1 hj2,if_neg hj,if_pos (by omega)]
    ·grind
    rw [ig hm h1 ht,if_neg hj,if_neg (by omega)]; grind
   rw [k1 _ (by omega)]
   refine (aS fun t ht=>?_).symm
   rw [ig hm h1 ht,if_neg hj,if_neg (by omega)]; grind
  obtain ⟨C,hC⟩:=(hsp _).2 hw
  have hCk:∀ k,k < S.1.length→k ∉ X→C k=0:=fun k hk hkX=>by
   have h3:=hC (S.2.getD k 0).toNat
   have h4:¬ (n:Int)≤S.2.getD k 0:=fun h=>hkX ((hXm k).2 ⟨hk,h⟩)
   have h5:=(hat k hk).2
   simp only at h3
   rw [if_pos (by omega),ba (i:=k) hk fun t ht hne=>by rw [he.at' t k ht hk,if_neg hne]; grind,he.at' k k hk hk,if_pos rfl] at h3
   grind
  have hu2:u=fun j=>sm (fun k=>C k * (if k∈X then bN S.1 k (n + j) else 0)) S.1.length:=by
   funext j
   have h3:=hC (n + j)
   simp only at h3
   rw [if_neg (by omega),Nat.add_sub_cancel_left] at h3
   rw [h3]
   refine ai fun k hk=>?_
   by_cases hkX:k∈X
   ·rw [if_pos hkX]
   rw [if_neg hkX,hCk k hk hkX]; grind
  rw [hu2]
  refine (bA.lR _).sum (y:=fun k j=>if k∈X then bN S.1 k (n + j) else 0) fun k hk=>?_
  by_cases hkX:k∈X
  ·have e:(fun j=>if k∈X then bN (K:=K) S.1 k (n + j) else 0)=vc ((S.1.getD k []).drop n):=by
    funext j; rw [if_pos hkX,nO]; rfl
   rw [e]
   exact bA.mem (List.mem_map.2 ⟨k,hkX,rfl⟩)
  have e:(fun j=>if k∈X then bN (K:=K) S.1 k (n + j) else 0)=fun _=>0:=by funext j; rw [if_neg hkX]
  rw [e]; exact (bA.lR _).zero
 intro x hx t ht
 rw [List.length_map] at ht hx
 have hXt:X.getD t 0∈X:=aC ht
 obtain ⟨s1,s2⟩:=(hXm _).1 hXt
 have h5:=(hat _ s1).2
 have h3:=hx ((S.2.getD (X.getD t 0) 0).toNat - n)
 have hg:∀ i,i < X.length→bN (K:=K) (X.map fun s=>(S.1.getD s []).drop n) i ((S.2.getD (X.getD t 0) 0).toNat - n)=bN S.1 (X.getD i 0) (S.2.getD (X.getD t 0) 0).toNat:=fun i hi=>by
  have e:(X.map fun s=>(S.1.getD s []).drop n).getD i []=(S.1.getD (X.getD i 0) []).drop n:=by
   simp [List.getD,List.getElem?_map,List.getElem?_eq_getElem hi]
  unfold bN
  rw [e,nO]
  congr 1; omega
 rw [ba (i:=t) ht fun i hi hne=>?_,hg t ht,he.at' _ _ s1 s1,if_pos rfl] at h3
 ·grind
 rw [hg i hi,he.at' _ _ ((hXm _).1 (aC (d:=0) hi)).1 s1,if_neg]
 ·grind
 intro e
 refine hne ?_
 exact yq hXn hi ht e
end
end Go.Proofs.YtjlmpmidchddjaaDoor
namespace Go.Proofs.YtjlmpmidchddjaaDoor
open Go.Pv
def nP (d n i k:Nat):List AV:=b8 d n i++List.replicate k (.p .nil)
theorem lb (d n i k:Nat):(nP d n i k).length=i + k:=by simp [nP,bt]
theorem rN {d n i k x:Nat} : (nP d n i (k + 1)).set i (.sl x 0 n)=b8 d n i++(.sl x 0 n :: List.replicate k (.p .nil)):=by
 unfold nP
 rw [List.set_append_right _ _ (by rw [bt]; exact Nat.le_refl _),bt,Nat.sub_self,List.replicate_succ,List.set_cons_zero]
theorem n5 {d n i k:Nat} : b8 d n i++(.sl (i + d) 0 n :: List.replicate k (.p .nil))=nP d n (i + 1) k:=by
 unfold nP
 rw [← gb,List.append_assoc]; rfl
theorem DU {d n i k x:Nat} (e:AV):(b8 d n i++(AV.sl x 0 n :: List.replicate k (AV.p .nil))).getD i e=AV.sl x 0 n:=by
 simp [List.getD,bt]
theorem wQ {d n i k x L:Nat} (h:d + i≤L) (hx:x < L):(b8 d n i++(.sl x 0 n :: List.replicate k (AV.p .nil))).all (bb L)=true:=by
 rw [List.all_append,jk (by omega),Bool.true_and,List.all_cons,Bool.and_eq_true]
 refine ⟨by simp [bb,br,hx],List.all_eq_true.2 fun y hy=>?_⟩
 rw [List.eq_of_mem_replicate hy]; rfl
theorem ku {d n i k L:Nat} (h:d + i≤L):(nP d n i k).all (bb L)=true:=by
 unfold nP
 rw [List.all_append,jk (by omega),Bool.true_and]
 refine List.all_eq_true.2 fun y hy=>?_
 rw [List.eq_of_mem_replicate hy]; rfl
theorem CC {d n i k t:Nat} (h:t < i) (e:AV):(nP d n i k).getD t e = .sl (t + d) 0 n:=by
 unfold nP
 rw [List.getD_eq_getElem?_getD,List.getElem?_append_left (by rw [bt]; exact h),← List.getD_eq_getElem?_getD,lz h]
theorem oD (d n k:Nat):nP d n 0 k=List.replicate k (.p .nil):=by simp [nP,b8]
theorem sM (d n i:Nat):nP d n i 0=b8 d n i:=by simp [nP]
theorem wY {S s:St} {c:List AV} {M:List (List Int)} {L:Nat} (hn:S.n=s.n) (hH:S.H=s.H) (e:s.H = .own c :: tl M) (hL:M.length + 1=L) (hc:c.all (bb L)=true) (hsl:∀ p∈S.sl,s.get p.1=p.2∧bb L p.2=true):Le (List.range L) S s:=by
 have e1:s.H.length=L:=by rw [e]; simp [aD]; omega
 subst e1
 refine nE hn hH (fun b hb=>?_) hsl
 rw [e] at hb
 rcases List.mem_cons.1 hb with rfl | hb
 ·exact hc
 exact qy _ _ b hb
theorem ED {S s:St} {n i k:Nat} {M:List (List Int)} (hi:M.length=i) (hn:S.n=s.n) {x v:List Int} (hS:S.H = .own (nP 1 n (i + 1) k) :: tl (M++[x])) (e:s.H = .own (b8 1 n i++(.sl (i + 2) 0 n :: List.replicate k (.p .nil))) :: tl (M++[v]++[x]))
  (hsl:jY (0 :: (List.range' 1 i++[i + 2])) S.sl s):Le (0 :: (List.range' 1 i++[i + 2])) S s:=by
 subst hi
 refine mG hn ?_ ?_ (fun j hj=>?_) hsl
 ·refine List.nodup_cons.2 ⟨?_,List.nodup_append.2 ⟨List.nodup_range',by simp,fun a ha b hb=>?_⟩⟩
  ·simp only [List.mem_append,List.mem_singleton,List.mem_range'_1]; omega
  simp only [List.mem_singleton,List.mem_range'_1] at ha hb; omega
 ·rw [hS]; simp [aD]
 rw [hS] at hj ⊢
 rw [e]
 match j,hj with
 | 0,_ =>
  simp only [jT,aq,List.getD_cons_zero]
  rw [List.take_of_length_le (by simp [lb,bt]; omega)]
  refine ⟨?_,ku (by simp; omega)⟩
  rw [← n5,List.map_append,List.map_cons]
  congr 1
  ·refine List.ext_getElem (by simp) fun t h1 h2=>?_
   have ht:t < M.length:=by simpa [bt] using h2
   simp only [b8,List.getElem_map,List.getElem_range,Go.Pv.bl,bu,List.getD_cons_succ]
   rw [List.getD_eq_getElem?_getD,List.getElem?_append_left (by simp; exact ht),List.getElem?_range' ht]
   simp; omega
  congr 1
  ·simp only [Go.Pv.bl,bu,List.getD_cons_succ]
   rw [List.getD_eq_getElem?_getD,List.getElem?_append_right (by simp)]
   simp
  rw [List.map_replicate]; rfl
 | j + 1,hj =>
  have hjq:j < M.length + 1:=by simpa [aD] using hj
  simp only [List.getD_cons_succ,dC]
  rw [aV (by simpa using hjq)]
  by_cases h:j < M.length
  ·rw [List.getD_eq_getElem?_getD,List.getElem?_append_left (by simp; exact h),List.getElem?_range' h]
   refine iD ?_
   simp only [Option.getD_some,Nat.one_mul]
   rw [Nat.add_comm 1 j,dC,aV (by simp; omega),List.append_assoc]
   simp [List.getD,List.getElem?_append_left h]
  obtain rfl:j=M.length:=by omega
  rw [List.getD_eq_getElem?_getD,List.getElem?_append_right (by simp)]
  refine iD ?_
  simp only [List.length_range',Nat.sub_self,List.getElem?_cons_zero,Option.getD_some]
  rw [dC,aV (by simp)]
  simp [List.getD]
theorem FO {X:aw} {z:Nat} (h:X.length=z) (o h' : aL) (T:aw):aq (o :: (X++(h' :: T))) (z + 1)=h':=by
 rw [dC,aY (by omega),h,Nat.sub_self]; rfl
theorem Hz {X:aw} {z i:Nat} (h:X.length=z) (o h' : aL) {M:List (List Int)} (hi:i < M.length):aq (o :: (X++(h' :: tl M))) (i + (z + 2)) = .own (ol (M.getD i [])):=by
 rw [show i + (z + 2)=z + (i + 1) + 1 by omega,dC,aY (by omega),h,Nat.add_sub_cancel_left,dC,aV hi]
theorem Hp {X:aw} {z:Nat} (h:X.length=z) (o h' b:aL) (T:aw):aE (o :: (X++(h' :: T))) (z + 1) b=o :: (X++(b :: T)):=by
 rw [rX,cZ,List.set_append_right _ _ (by omega),h,Nat.sub_self]; rfl
theorem Im {X:aw} {z i:Nat} (h:X.length=z) (o h' : aL) {M:List (List Int)} (w:List Int):aE (o :: (X++(h' :: tl M))) (i + (z + 2)) (.own (ol w))=o :: (X++(h' :: tl (M.set i w))):=by
 rw [show i + (z + 2)=z + (i + 1) + 1 by omega,rX,cZ,List.set_append_right _ _ (by omega),h,Nat.add_sub_cancel_left,List.set_cons_succ,← cZ,iG]
theorem F0 {X:aw} {T:aw} {z t:Nat} (h:X.length=z) (ht:T.length=t) (o h' b:aL):aq (o :: (X++(h' :: (T++[b])))) (z + (t + 1) + 1)=b:=by
 rw [dC,aY (by omega),h,Nat.add_sub_cancel_left,dC,aY (by omega),ht,Nat.sub_self]; rfl
theorem Io {X:aw} {T:aw} {z t:Nat} (h:X.length=z) (ht:T.length=t) (o h' a b:aL):aq (o :: (X++(h' :: (T++([a]++[b]))))) (z + (t + 1 + 1) + 1)=b:=by
 rw [show T++([a]++[b])=(T++[a])++[b] by simp]
 exact F0 h (by simp [ht]) o h' b
theorem Ix {X:aw} {T:aw} {z i:Nat} (h:X.length=z) (hi:i < T.length) (o h' : aL) (Y:aw):aq (o :: (X++(h' :: (T++Y)))) (z + 2 + i)=aq T i:=by
 rw [show z + 2 + i=z + (i + 1) + 1 by omega,dC,aY (by omega),h,Nat.add_sub_cancel_left,dC,aF hi]
theorem xy {S s:St} {c:List AV} {X:aw} {o:List AV} {M:List (List Int)} {z L:Nat} (hX:X.length=z) (hn:S.n=s.n) (hH:S.H=s.H) (e:s.H = .own o :: (X++(.own c :: tl M))) (hL:M.length + z + 2=L) (hc:c.all (bb L)=true) (ho:o.all (bb L)=true) (hXs:∀ b∈X,ew L b=true) (hsl:∀ p∈S.sl,s.get p.1=p.2∧bb L p.2=true):Le (List.range L) S s:=by
 have e1:s.H.length=L:=by rw [e]; simp [aD,hX]; omega
 subst e1
 refine nE hn hH (fun b hb=>?_) hsl
 rw [e] at hb
 rcases List.mem_cons.1 hb with rfl | hb
 ·exact ho
 rcases List.mem_append.1 hb with hb | hb
 ·exact hXs b hb
 rcases List.mem_cons.1 hb with rfl | hb
 ·exact hc
 exact qy _ _ b hb
theorem rH {W b L:Nat} {Sp:List (List (List Int))} (h:b + cR Sp≤L):∀ x∈iu W b Sp,ew L x=true:=fun x hx=>by
 obtain ⟨j,hj⟩:=List.getElem?_of_mem hx
 have hjl:=(List.getElem?_eq_some_iff.1 hj).1
 rw [cC] at hjl
 have e:aq (iu W b Sp) j=x:=by rw [fI,List.getD_eq_getElem?_getD,hj]; rfl
 rcases nV W b Sp j hjl with ⟨v,hv⟩ | ⟨d,q,hv,h1,h2⟩
 ·rw [← e,hv]; exact fW _ _
 rw [← e,hv]; exact jk (by omega)
theorem qu {b L:Nat} {Sp:List (List (List Int))} (h:b + cR Sp≤L):(gN b Sp).all (bb L)=true:=by
 rw [List.all_eq_true]
 intro x hx
 obtain ⟨c,l,rfl,h1,h2⟩:=rF b Sp x hx
 simp [bb,br]; omega
theorem wW {p : Nat} {s a : List (List Int)} {left : Int} {v : Nat} {out : List (List (List Int))} (h1 : v < p) (h2 : 0 < left) : iC p s a (p - v) left v out = if dX p (jV p v a s.length) = [] then iC p s a (p - (v + 1)) left (v + 1) out
       else iC p s a (p - (v + 1)) (left - (dX p (jV p v a s.length)).length) (v + 1) (out ++ [(dX p (jV p v a s.length)).map (uP p s)]) := by
  rw [show p - v = (p - (v + 1)) + 1 by omega, iC, if_pos ⟨h1, h2⟩]
theorem lP {p:Nat} {s a:List (List Int)} {f:Nat} {left:Int} {v:Nat} {out:List (List (List Int))} (h:f=0∨¬ (v < p∧0 < left)):iC p s a f left v out=out:=by
 cases f with
 | zero=>rfl
 | succ f=>rw [iC,if_neg (by rcases h with h | h; cases h; exact h)]
theorem yP {p W:Nat} (w:List Int) (m:PV):FR Tryd.prog 44 [.p (.int .i64 p),.sl 0 0 1,.p m] [.own (b8 1 W 1),.own (ol w)] (.sl 2 0 1) [.own (b8 1 W 1),.own (ol w),.own [.sl 0 0 1]]:=by
 refine FH ae Tryd.func44 rfl (by kernel_rfl) (by rw [Tryd.ntmps44]; exact Nat.le_add_left 3 _) ?_; rw [Tryd.ntmps44]; simp only [dD,l9,List.length_cons,List.length_nil,List.cons_append,List.nil_append,Nat.reduceAdd,Nat.zero_add]
 refine qm ?_
 refine ab fun K hK=>aa ae ?_
 simp only [ak,fl,gp,aj,simprocAttr]
 refine af trivial (hK _ ?_)<;>clear hK K
 refine qa (qm (qm ?_))
 refine ab fun K hK=>aa ae ?_
 simp only [ak,fl,gp,aj,simprocAttr]
 refine af trivial (hK _ ?_)<;>clear hK K
 refine qa ?_
 refine an rfl (fun hC1=>?_) (fun hC1=>?_)
 ·(try simp only [aI] at hC1)
  refine qm ?_
  refine ab fun K hK=>aa ae ?_
  simp only [ak,fl,gp,aj,simprocAttr]
  refine ao ?_ (eM (cu ae rfl rfl rfl rfl rfl rfl) rfl (by simp only [ay,Nat.reduceLT]) (aa ae ?_))
  ·first|exact trivial|omega|(simp only [ah] at *; omega)|(simp [ah] at *; omega)|simp_all
  simp only [ak,fl,gp,aj,simprocAttr]
  refine af ?_ (hK _ ?_)<;>clear hK K
  ·first|exact trivial|omega|(simp only [ah] at *; omega)|(simp [ah] at *; omega)|simp_all
  refine qa (qk (qb ?_))
  simp only [Tryd.results44,o8,o6,ml,yX,je,ak,fl,gp,aj,simprocAttr]
  refine ⟨[0,1,4,2,3],rfl,rfl,mG rfl (by decide) rfl (fun j hj=>?_) trivial⟩
  match j,hj with
  | 0,_=>exact jE rfl fun i hi=>⟨by simp; omega,by have h0:i=0:=(by omega); subst h0; rfl⟩
  | 1,_=>exact iD rfl
  | 2,_=>exact ⟨rfl,rfl⟩
  | 3,_=>exact vR rfl (by decide) rfl
  | 4,_=>exact vR rfl (by decide) rfl
 (try simp only [aI] at hC1)
 first|exact absurd rfl hC1|exact hC1.elim|cases hC1|(simp at hC1; done)
theorem CA {p:Nat} (hp:p≤1000000) {v a x:Int} (h1:0≤v∧v < p) (h2:0≤a∧a≤1000) (h3:0≤x∧x < p):0≤v + a * x∧ah (a * x)∧ah (v + a * x):=by
 have h4:=Int.mul_nonneg h2.1 h3.1
 have h5:a * x≤1000 * 1000000:=Int.mul_le_mul h2.2 (by omega) h3.1 (by omega)
 simp only [ah]; omega
set_option maxHeartbeats 8000000 in
set_option maxRecDepth 20000 in
theorem AS {p W:Nat} (hp2:2≤p) (hp:p≤1000000) (hW:0 < W) (hW2:W≤100) (s m:List (List Int)) (hs1:s.length ≠ 1) (hs2:s.length≤100) (h1:∀ v∈s,v.length=W) (h2:∀ v∈s,ed p v) (hm:m.length=W) (hm1:∀ v∈m,v.length=W) (hm2:∀ v∈m,∀ j,0≤v.getD j 0∧v.getD j 0≤1000) :
  C8 Tryd.prog 44 [.int .i64 p,.list (ll s),.list (ll m)] (.sl 0 0 (gx p s m).length) (.own (gN 1 (gx p s m)) :: iu W 1 (gx p s m)):=by
 have hsi:¬ (s.length:Int)=1:=by omega
 have hri:=fH (W:=W) (p:=p) (by omega) h1 h2 s.length (Nat.le_refl _)
 have hql:=gP p s s.length
 have hred:=sO hp2 hp hW (by omega) s (by omega) h1 h2
 have hspl:gx p s m=iC p (cA p s s.length).1 (fp p m (cA p s s.length).1 (cA p s s.length).2 (cA p s s.length).1.length) p (cA p s s.length).1.length 0 []:=by rw [gx,if_neg hs1]
 rw [hspl]
 generalize cA p s s.length=Z at *
 obtain ⟨s',at'⟩:=Z
 obtain ⟨l1,l2,l3,l4⟩:=hri
 simp only at l1 l2 l3 l4 hql hred ⊢
 obtain ⟨n,hn⟩:∃ n,s'.length=n:=⟨_,rfl⟩
 rw [hn] at l1 hql ⊢
 have hn100:n≤100:=by omega
 refine uH ae Tryd.func44 rfl (by kernel_rfl) (by rw [Tryd.ntmps44]; exact Nat.le_add_left 3 _) ?_; rw [Tryd.ntmps44]
 refine qm ?_
 refine ab fun K hK=>aa ae ?_
 simp only [ak,fl,gp,aj,simprocAttr]
 refine af trivial (hK _ ?_)<;>clear hK K
 refine qa (qm (qm ?_))
 refine ab fun K hK=>aa ae ?_
 simp only [ak,fl,gp,aj,simprocAttr,au]
 refine af trivial (hK _ ?_)<;>clear hK K
 refine qa ?_
 refine an rfl (fun hC1=>?_) (fun hC1=>?_)
 ·(try simp only [aI] at hC1)
  omega
 (try simp only [aI] at hC1)
 refine qh (qa (qm ?_))
 refine ab fun K hK=>aa ae ?_
 simp only [ak,fl,gp,aj,simprocAttr]
 refine ao trivial (al (hred) rfl rfl rfl (by simp only [ay,Nat.reduceLT]) (by repeat (first|exact trivial|constructor)) (aa ae ?_))
 simp only [ak,fl,gp,aj,simprocAttr]
 refine af trivial (hK _ ?_)<;>clear hK K
 refine qa (qm ?_)
 refine ab fun K hK=>aa ae ?_
 simp only [ak,fl,gp,aj,simprocAttr,au,hn]
 refine af trivial (hK _ ?_)<;>clear hK K
 refine qa (qm ?_)
 refine ab fun K hK=>aa ae ?_
 simp only [ak,fl,gp,aj,simprocAttr]
 refine af ?_ (hK _ ?_)<;>clear hK K
 ·first|exact trivial|omega|(simp only [ah] at *; omega)|(simp [ah] at *; omega)|simp_all
 refine qa (qm (qm ?_))
 refine ab fun K hK=>aa ae ?_
 simp only [ak,fl,gp,aj,simprocAttr,au,hn]
 refine af trivial (hK _ ?_)<;>clear hK K
 refine qa (ql ?_)
 refine aA (ι:=Nat) (fun i=>⟨224,[(0,.p (.int .i64 p)),(1,.p (.list (ll s'))),(2,.p (.list (ll m))),(7,.p (.list (il at'))),(8,.p (.int .i64 n)),(9,.sl 0 0 n),(47,.p (.list (ll s'))),(48,.p (.int .i64 n)),(49,.p (.int .i64 i))],.own (nP 1 n i (n - i)) :: tl (fp p m s' at' i)⟩) (fun i=>i≤n) (fun i=>n - i) 0 (Nat.zero_le _) [0] (by simp only [leq,bh,ak,fl,gp,aj,simprocAttr]<;>simp [oD,fp,tl,kp,Go.Pv.bl,bu,bb,br]) fun i hi=>?_
 refine qm ?_
 refine ab fun K hK=>aa ae ?_
 simp only [ak,fl,gp,aj,simprocAttr]
 refine af trivial (hK _ ?_)<;>clear hK K
 refine qa (qm ?_)
 refine an rfl (fun hC2=>?_) (fun hC2=>?_)
 ·(try simp only [aI] at hC2)
  have hin:i < n:=by omega
  obtain ⟨w,hw⟩:∃ w,s'.getD i []=w:=⟨_,rfl⟩
  have hwl:w.length=W:=by rw [← hw]; exact l2 _ (aC (by omega))
  have hwg:ed p w:=by rw [← hw]; exact l3 _ (aC (by omega))
  obtain ⟨A,hA⟩:∃ A,fp p m s' at' i=A:=⟨_,rfl⟩
  have hAl:A.length=i:=by rw [← hA,lH]
  rw [hA]
  refine qh (qa (qm (ql (qm ?_))))
  refine ab fun K hK=>aa ae ?_
  simp only [ak,fl,gp,aj,simprocAttr,au,bD (show i < s'.length by omega),hw]
  refine af ?_ (hK _ ?_)<;>clear hK K
  ·omega
  refine qa (qm ?_)
  refine ab fun K hK=>aa ae ?_
  simp only [ak,fl,gp,aj,simprocAttr,au,hm,aD,hAl,cg]
  refine af ?_ (hK _ ?_)<;>clear hK K
  ·first|exact trivial|omega|(simp only [ah] at *; omega)|(simp [ah] at *; omega)|simp_all
  refine qa (qm (qm ?_))
  refine ab fun K hK=>aa ae ?_
  simp only [ak,fl,gp,aj,simprocAttr,au,hm]
  refine af trivial (hK _ ?_)<;>clear hK K
  refine qa (ql ?_)
  refine aA (ι:=Nat) (fun j=>⟨224,[(0,.p (.int .i64 p)),(1,.p (.list (ll s'))),(2,.p (.list (ll m))),(7,.p (.list (il at'))),(8,.p (.int .i64 n)),(9,.sl 0 0 n),(10,.p (.int .i64 i)),(11,.p (.list (il w))),(12,.sl (i + 1) 0 W),(47,.p (.list (ll s'))),(48,.p (.int .i64 n)),(49,.p (.int .i64 i)),(58,.p (.int .i64 W)),(59,.p (.int .i64 j))],.own (nP 1 n i (n - i)) :: tl (A++[vI p m w j 0])⟩) (fun j=>j≤W) (fun j=>W - j) 0 (Nat.zero_le _) (List.range (i + 2)) (wY (c:=nP 1 n i (n - i)) (M:=A++[List.replicate W 0]) rfl (by simp [Bi,hm,tl]) (by simp [tl]) (by simp [hAl]) (ku (by omega)) (by
   simp [St.get,lk,bb,br,hm]<;>omega)) fun j hj=>?_
  refine qm ?_
  refine ab fun K hK=>aa ae ?_
  simp only [ak,fl,gp,aj,simprocAttr]
  refine af trivial (hK _ ?_)<;>clear hK K
  refine qa (qm ?_)
  refine an rfl (fun hC3=>?_) (fun hC3=>?_)
  ·(try simp only [aI] at hC3)
   have hjW:j < W:=by omega
   obtain ⟨b,hb⟩:∃ b,m.getD j []=b:=⟨_,rfl⟩
   have hbl:b.length=W:=by rw [← hb]; exact hm1 _ (aC (by omega))
   have hbg:∀ t,0≤b.getD t 0∧b.getD t 0≤1000:=by rw [← hb]; exact hm2 _ (aC (by omega))
   refine qh (qa (qm (ql (qm ?_))))
   refine ab fun K hK=>aa ae ?_
   simp only [ak,fl,gp,aj,simprocAttr]
   refine af trivial (hK _ ?_)<;>clear hK K
   refine qa (qm ?_)
   refine ab fun K hK=>aa ae ?_
   simp only [ak,fl,gp,aj,simprocAttr]
   refine af trivial (hK _ ?_)<;>clear hK K
   refine qa (ql ?_)
   refine aA (ι:=Nat) (fun k=>⟨224,[(0,.p (.int .i64 p)),(1,.p (.list (ll s'))),(2,.p (.list (ll m))),(7,.p (.list (il at'))),(8,.p (.int .i64 n)),(9,.sl 0 0 n),(10,.p (.int .i64 i)),(11,.p (.list (il w))),(12,.sl (i + 1) 0 W),(13,.p (.int .i64 j)),(47,.p (.list (ll s'))),(48,.p (.int .i64 n)),(49,.p (.int .i64 i)),(58,.p (.int .i64 W)),(59,.p (.int .i64 j)),(62,.p (.list (il w))),(63,.p (.int .i64 W)),(64,.p (.int .i64 k))],.own (nP 1 n i (n - i)) :: tl (A++[vI p m w j k])⟩) (fun k=>k≤W) (fun k=>W - k) 0 (Nat.zero_le _) (List.range (i + 2)) (wY (c:=nP 1 n i (n - i)) (M:=A++[vI p m w j 0]) rfl rfl rfl (by simp [hAl]) (ku (by omega)) (by
    simp [St.get,lk,bb,br,aJ,hwl]<;>omega)) fun k hk=>?_
   obtain ⟨v,hv⟩:∃ v,vI p m w j k=v:=⟨_,rfl⟩
   have hvl:v.length=W:=by rw [← hv,Fj,hm]
   rw [hv]
   refine qm ?_
   refine ab fun K hK=>aa ae ?_
   simp only [ak,fl,gp,aj,simprocAttr]
   refine af trivial (hK _ ?_)<;>clear hK K
   refine qa (qm ?_)
   refine an rfl (fun hC4=>?_) (fun hC4=>?_)
   ·(try simp only [aI] at hC4)
    have hkW:k < W:=by omega
    have hvj:v.getD j 0=iF p b w k:=by rw [← hv,FM (by omega),hb]
    have hgv:aq (tl (A++[v])) i = .own (ol v):=by rw [aV (by simp [hAl]),← hAl,cF]
    have hsv:∀ x,aE (tl (A++[v])) i (.own (ol x))=tl (A++[x]):=fun x=>by rw [iG,← hAl,gR]
    have hst:v.set j ((iF p b w k + b.getD k 0 * w.getD k 0) % (p:Int))=vI p m w j (k + 1):=by
     have:=FB (p:=p) (m:=m) (w:=w) (j:=j) (k:=k)
     rw [hv,hb] at this
     rw [← this,iF]
    have hd:=vQ (p:=p) (by omega) b w k
    have hr:=CA hp hd (hbg k) (hwg k)
    have htm:Int.tmod (iF p b w k + b.getD k 0 * w.getD k 0) p=(iF p b w k + b.getD k 0 * w.getD k 0) % p:=Int.tmod_eq_emod_of_nonneg hr.1
    refine qh (qa (qm (ql (qm ?_))))
    refine ab fun K hK=>aa ae ?_
    simp only [ak,fl,gp,aj,simprocAttr,aW (show k < w.length by omega)]
    refine af ?_ (hK _ ?_)<;>clear hK K
    ·omega
    refine qa ?_
    refine bf mixed (by kernel_rfl) fun K hK=>aa ae ?_
    simp only [ak,fl,gp,aj,simprocAttr,dC,rX,hgv,bK (show j < v.length by omega),bD (show j < m.length by omega),hb,aW (show k < b.length by omega),hvj,htm,eK,hsv,hst]
    refine af ?_ (hK _ ?_)<;>clear hK K
    ·obtain ⟨_,r2,r3⟩:=hr
     simp only [ah] at *; omega
    refine qd (qa ?_)
    refine ab fun K hK=>aa ae ?_
    simp only [ak,fl,gp,aj,simprocAttr]
    refine af ?_ (hK _ ?_)<;>clear hK K
    ·first|exact trivial|omega|(simp only [ah] at *; omega)|(simp [ah] at *; omega)|simp_all
    refine qa ?_
    refine ⟨k + 1,List.range (i + 2),by omega,by omega,wY (c:=nP 1 n i (n - i)) (M:=A++[vI p m w j (k + 1)]) rfl rfl rfl (by simp [hAl]) (ku (by omega)) (by
     simp [St.get,lk,bb,br]<;>omega)⟩
   (try simp only [aI] at hC4)
   have hkW:k=W:=by omega
   have hvn:v=vI p m w (j + 1) 0:=by rw [← hv,hkW,← hwl,Cb]
   refine qj (qc (qc (qf (qd (qa ?_)))))
   refine ab fun K hK=>aa ae ?_
   simp only [ak,fl,gp,aj,simprocAttr]
   refine af ?_ (hK _ ?_)<;>clear hK K
   ·first|exact trivial|omega|(simp only [ah] at *; omega)|(simp [ah] at *; omega)|simp_all
   refine qa ?_
   refine ⟨j + 1,List.range (i + 2),by omega,by omega,wY (c:=nP 1 n i (n - i)) (M:=A++[v]) rfl (by rw [hvn]) rfl (by simp [hAl]) (ku (by omega)) (by
    simp [St.get,lk,bb,br]<;>omega)⟩
  (try simp only [aI] at hC3)
  have hjW:j=W:=by omega
  have hve:vI p m w j 0=qv p m w:=by rw [hjW,← hm,Ez]
  have hnk:n - i=(n - i - 1) + 1:=by omega
  rw [hve]
  obtain ⟨v,hv⟩:∃ v,qv p m w=v:=⟨_,rfl⟩
  have hvl:v.length=W:=by rw [← hv,qJ,hm]
  rw [hv]
  obtain ⟨c,hc⟩:∃ c,n - i=c + 1:=⟨n - i - 1,by omega⟩
  rw [hc]
  have hvg:ed p v:=by rw [← hv]; exact Aw (by omega) m w
  refine qj (qc (qc (qf (qa (qm ?_)))))
  refine ab fun K hK=>aa ae ?_
  simp only [ak,fl,gp,aj,simprocAttr,aD,hAl,List.length_append,cg,rN,lb]
  refine af ?_ (hK _ ?_)<;>clear hK K
  ·omega
  refine qa (qm ?_)
  refine ab fun K hK=>aa ae ?_
  simp only [ak,fl,gp,aj,simprocAttr,aJ,l1]
  refine af trivial (hK _ ?_)<;>clear hK K
  refine qa (ql ?_)
  refine aA (ι:=Nat) (fun q=>⟨224,[(0,.p (.int .i64 p)),(1,.p (.list (ll s'))),(2,.p (.list (ll m))),(7,.p (.list (il at'))),(8,.p (.int .i64 n)),(9,.sl 0 0 n),(10,.p (.int .i64 i)),(12,.sl (i + 1) 0 W),(47,.p (.list (ll s'))),(48,.p (.int .i64 n)),(49,.p (.int .i64 i)),(95,.p (.list (il at'))),(96,.p (.int .i64 n)),(97,.p (.int .i64 q))],.own (b8 1 n i++(.sl (i + 2) 0 n :: List.replicate c (.p .nil))) :: tl (A++[v]++[rf v at' q])⟩) (fun q=>q≤n) (fun q=>n - q) 0 (Nat.zero_le _) (List.range (i + 3)) (wY (c:=b8 1 n i++(.sl (i + 2) 0 n :: List.replicate c (.p .nil))) (M:=A++[v]++[List.replicate n 0]) rfl (by simp [rf,di,l1,tl]) (by simp [tl]) (by simp [hAl]) (wQ (by omega) (by omega)) (by
   simp [St.get,lk,bb,br]<;>omega)) fun q hq=>?_
  obtain ⟨x,hx⟩:∃ x,rf v at' q=x:=⟨_,rfl⟩
  have hxl:x.length=n:=by rw [← hx,rf,bF,List.length_replicate,l1]
  rw [hx]
  refine qm ?_
  refine ab fun K hK=>aa ae ?_
  simp only [ak,fl,gp,aj,simprocAttr]
  refine af trivial (hK _ ?_)<;>clear hK K
  refine qa (qm ?_)
  refine an rfl (fun hC5=>?_) (fun hC5=>?_)
  ·(try simp only [aI] at hC5)
   have hqn:q < n:=by omega
   obtain ⟨t,ht⟩:∃ t:Nat,at'.getD q 0=(t:Int):=⟨(at'.getD q 0).toNat,by have:=l4 q (by omega); omega⟩
   have htW:t < W:=by have:=l4 q (by omega); omega
   have hgv:aq (tl (A++[v]++[x])) i = .own (ol v):=by rw [aV (by simp [hAl]<;>omega),eU _ _ (by simp [hAl]<;>omega),← hAl,cF]
   have hgx:aq (tl (A++[v]++[x])) (i + 1) = .own (ol x):=by rw [aV (by simp [hAl]),show i + 1=(A++[v]).length by simp [hAl],cF]
   have hsx:∀ y,aE (tl (A++[v]++[x])) (i + 1) (.own (ol y))=tl (A++[v]++[y]):=fun y=>by rw [iG,show i + 1=(A++[v]).length by simp [hAl],gR]
   have hst:x.set q (v.getD t 0)=rf v at' (q + 1):=by
    rw [← hx]
    have:=gu (f:=fun t=>v.getD (at'.getD t 0).toNat 0) (u:=List.replicate at'.length 0) (Nat.zero_le q) (by rw [List.length_replicate]; omega)
    rw [ht,Int.toNat_natCast] at this
    exact this
   have hcl:(b8 1 n i++(AV.sl (i + 2) 0 n :: List.replicate c (AV.p .nil))).length=n:=by simp [bt]; omega
   refine qh (qa (qm (ql (qm ?_))))
   refine ab fun K hK=>aa ae ?_
   simp only [ak,fl,gp,aj,simprocAttr,aW (show q < at'.length by omega),ht]
   refine af ?_ (hK _ ?_)<;>clear hK K
   ·omega
   refine qa ?_
   refine bf mixed (by kernel_rfl) fun K hK=>aa ae ?_
   simp only [ak,fl,gp,aj,simprocAttr,DU,hcl,dC,rX,hgv,hgx,bK (show t < v.length by omega),eK,hsx,hst]
   refine af ?_ (hK _ ?_)<;>clear hK K
   ·omega
   refine qd (qa ?_)
   refine ab fun K hK=>aa ae ?_
   simp only [ak,fl,gp,aj,simprocAttr]
   refine af ?_ (hK _ ?_)<;>clear hK K
   ·first|exact trivial|omega|(simp only [ah] at *; omega)|(simp [ah] at *; omega)|simp_all
   refine qa ?_
   refine ⟨q + 1,List.range (i + 3),by omega,by omega,wY (c:=b8 1 n i++(.sl (i + 2) 0 n :: List.replicate c (.p .nil))) (M:=A++[v]++[rf v at' (q + 1)]) rfl rfl rfl (by simp [hAl]) (wQ (by omega) (by omega)) (by
    simp [St.get,lk,bb,br]<;>omega)⟩
  (try simp only [aI] at hC5)
  have hqn:q=n:=by omega
  have hxe:x=iQ p m at' w:=by rw [← hx,hqn,← hv,← l1,zf]
  have hA1:fp p m s' at' (i + 1)=A++[x]:=by rw [xV,hA,hw,hxe]
  refine qj (qc (qc (qf (qd (qa ?_)))))
  refine ab fun K hK=>aa ae ?_
  simp only [ak,fl,gp,aj,simprocAttr]
  refine af ?_ (hK _ ?_)<;>clear hK K
  ·first|exact trivial|omega|(simp only [ah] at *; omega)|(simp [ah] at *; omega)|simp_all
  refine qa ?_
  refine ⟨i + 1,0 :: (List.range' 1 i++[i + 2]),by omega,by omega,?_⟩
  refine ED (n:=n) (k:=c) (x:=x) (v:=v) hAl rfl ?_ rfl (by simp [jY,St.get,lk,Go.Pv.bl,bu,bb,br])
  show _=_
  rw [hA1,show n - (i + 1)=c by omega]
 (try simp only [aI] at hC2)
 have hin:i=n:=by omega
 rw [hin,Nat.sub_self,sM]
 obtain ⟨a,ha⟩:∃ a,fp p m s' at' n=a:=⟨_,rfl⟩
 have hal:a.length=n:=by rw [← ha,lH]
 have har:∀ v∈a,v.length=n:=fun v hv=>by
  rw [← ha] at hv
  obtain ⟨t,_,rfl⟩:=List.mem_map.1 hv
  rw [iV,l1]
 have hag:∀ v∈a,ed p v:=fun v hv=>by
  rw [← ha] at hv
  obtain ⟨t,_,rfl⟩:=List.mem_map.1 hv
  exact q9 (by omega) m at' _
 rw [ha]
 refine qj (qc (qc (qf (qa (qm ?_)))))
 refine lF 9 0 1 n hal har rfl (.inl (by omega)) rfl (fun i hi=>?_) fun H' a1 a2=>?_
 ·rw [Nat.add_comm 1 i,dC,aV (by omega)]
 have hHl:H'.length=n + 1:=by rw [a1]; simp [aD,hal]
 refine ab fun K hK=>aa ae ?_
 simp only [ak,fl,gp,aj,simprocAttr]
 refine af trivial (hK _ ?_)<;>clear hK K
 refine qa (qm ?_)
 refine bT 18 rfl ?_
 refine ab fun K hK=>aa ae ?_
 simp only [ak,fl,gp,aj,simprocAttr]
 refine af trivial (hK _ ?_)<;>clear hK K
 refine qa (qm (qm ?_))
 refine ab fun K hK=>aa ae ?_
 simp only [ak,fl,gp,aj,simprocAttr]
 refine af trivial (hK _ ?_)<;>clear hK K
 refine qa (ql ?_)
 refine aA (ι:=Nat × Int × List (List (List Int))) (fun x=>⟨224,[(0,.p (.int .i64 p)),(1,.p (.list (ll s'))),(8,.p (.int .i64 n)),(9,.p (.list (ll a))),(18,.sl 0 0 x.2.2.length),(19,.p (.int .i64 x.2.1)),(20,.p (.int .i64 x.1))],.own (gN 1 x.2.2) :: iu W 1 x.2.2⟩) (fun x=>x.1≤p∧-1000≤x.2.1∧x.2.1≤n∧x.2.2.length≤x.1∧iC p s' a (p - x.1) x.2.1 x.1 x.2.2=iC p s' a p n 0 []) (fun x=>p - x.1) (0,(n:Int),[]) ⟨Nat.zero_le _,by simp only; omega,by simp only; omega,Nat.le_refl _,rfl⟩ ((n + 1) :: (List.range' 1 (cR [])++[])) (oy (W:=W) (Sp:=[]) rfl rfl (.inr (by simp [cR])) (by show aq (H'++[.own []]) (n + 1)=_; rw [← hHl]; exact a8 H' _) (fun j hj=>by simp [cR] at hj) (by simp [jY,St.get,lk,Go.Pv.bl,bu,bb,br,cR,hHl])) fun x hx=>?_
 obtain ⟨v,left,Out⟩:=x
 obtain ⟨x1,x2,x3,x4,x5⟩:=hx
 simp only at x1 x2 x3 x4 x5
 obtain ⟨z,hz⟩:∃ z,cR Out=z:=⟨_,rfl⟩
 obtain ⟨X,hX⟩:∃ X,iu W 1 Out=X:=⟨_,rfl⟩
 have hXl:X.length=z:=by rw [← hX,cC,hz]
 rw [hX]
 refine qm (qm ?_)
 rcases Nat.lt_or_ge v p with hvp | hvp
 ·refine ab fun K hK=>aa ae ?_
  simp only [ak,fl,gp,aj,simprocAttr,decide_eq_true (show (v:Int) < (p:Int) by omega)]
  refine af trivial (hK _ ?_)<;>clear hK K
  refine qa ?_
  refine an rfl (fun hC6=>?_) (fun hC6=>?_)
  ·(try simp only [aI] at hC6)
   have hlp:0 < left:=by simpa using hC6
   have hstep:=wW (s:=s') (a:=a) (out:=Out) hvp hlp
   rw [x5,hn] at hstep
   refine qh (qa (qm (ql (qm ?_))))
   refine ab fun K hK=>aa ae ?_
   simp only [ak,fl,gp,aj,simprocAttr,hXl,List.length_append]
   refine af ?_ (hK _ ?_)<;>clear hK K
   ·first|exact trivial|omega|(simp only [ah] at *; omega)|(simp [ah] at *; omega)|simp_all
   refine qa (qm (qm ?_))
   refine ab fun K hK=>aa ae ?_
   simp only [ak,fl,gp,aj,simprocAttr,au,hal]
   refine af trivial (hK _ ?_)<;>clear hK K
   refine qa (ql ?_)
   refine aA (ι:=Nat) (fun i=>⟨224,[(0,.p (.int .i64 p)),(1,.p (.list (ll s'))),(8,.p (.int .i64 n)),(9,.p (.list (ll a))),(18,.sl 0 0 Out.length),(19,.p (.int .i64 left)),(20,.p (.int .i64 v)),(21,.sl (z + 1) 0 n),(127,.p (.int .i64 n)),(128,.p (.int .i64 i))],.own (gN 1 Out) :: (X++(.own (nP (z + 2) n i (n - i)) :: tl (jV p v a i)))⟩) (fun i=>i≤n) (fun i=>n - i) 0 (Nat.zero_le _) (List.range (z + 2)) (xy (c:=List.replicate n (.p .nil)) (M:=[]) (X:=X) (o:=gN 1 Out) hXl rfl (by simp [oD,jV,tl]) rfl (by simp) (by rw [← oD 1 1]; exact ku (by omega)) (qu (by omega)) (by rw [← hX]; exact rH (by omega)) (by
    simp [St.get,lk,bb,br,hXl]<;>omega)) fun i hi=>?_
   obtain ⟨B,hB⟩:∃ B,jV p v a i=B:=⟨_,rfl⟩
   have hBl:B.length=i:=by rw [← hB,qO]
   rw [hB]
   refine qm ?_
   refine ab fun K hK=>aa ae ?_
   simp only [ak,fl,gp,aj,simprocAttr]
   refine af trivial (hK _ ?_)<;>clear hK K
   refine qa (qm ?_)
   refine an rfl (fun hC7=>?_) (fun hC7=>?_)
   ·(try simp only [aI] at hC7)
    have hin:i < n:=by omega
    obtain ⟨r,hr⟩:∃ r,a.getD i []=r:=⟨_,rfl⟩
    have hrl:r.length=n:=by rw [← hr]; exact har _ (aC (by omega))
    have hrg:ed p r:=by rw [← hr]; exact hag _ (aC (by omega))
    have hrn:r ≠ []:=by intro e; rw [e] at hrl; simp at hrl; omega
    obtain ⟨c,hc⟩:∃ c,n - i=c + 1:=⟨n - i - 1,by omega⟩
    rw [hc]
    have hix:z + (i + 1) + 1=i + (z + 2):=by omega
    refine qh (qa (qm (ql (qm ?_))))
    refine ab fun K hK=>aa ae ?_
    simp only [ak,fl,gp,aj,simprocAttr]
    refine af trivial (hK _ ?_)<;>clear hK K
    refine qa (qm ?_)
    refine ab fun K hK=>aa ae ?_
    simp only [ak,fl,gp,aj,simprocAttr,au,hal,bD (show i < a.length by omega),hr,hrl,List.length_append,List.length_cons,hXl,aD,hBl,hix,List.append_assoc,List.cons_append,kR,FO hXl,Hp hXl,rN,n5,lb]
    refine ao ?_ (kc (we r hrn (by omega)) rfl rfl (by first|rfl|(simp [Dk,bb,br,bE]; done)|(simp only [Dk,List.all_cons,List.all_nil,fW,Bool.and_true]; rfl)) (by simp only [ay,Nat.reduceLT]) (by repeat (first|exact trivial|constructor)) (aa ae ?_))
    ·omega
    simp only [Go.Pv.kx,List.range',aL.bl,kT,bl,bu,ak,fl,gp,aj,simprocAttr,au,hal,bD (show i < a.length by omega),hr,hrl,List.length_append,List.length_cons,hXl,aD,hBl,hix,List.append_assoc,List.cons_append,kR,FO hXl,Hp hXl,rN,n5,lb]
    refine af ?_ (hK _ ?_)<;>clear hK K
    ·omega
    refine qa ?_
    have hBr:(B++[r]).getD i []=r:=by rw [← hBl,cF]
    have hsB:∀ y,(B++[r]).set i y=B++[y]:=fun y=>by rw [← hBl,gR]
    have hsb:r.set i ((r.getD i 0 - (v:Int)) % (p:Int))=yd p v a i:=by rw [yd,hr]
    have hri:=hrg i
    have ht1:=Int.lt_tmod_of_pos (r.getD i 0 - (v:Int)) (show (0:Int) < p by omega)
    have ht2:=Int.tmod_lt_of_pos (r.getD i 0 - (v:Int)) (show (0:Int) < p by omega)
    have hBS:jV p v a (i + 1)=B++[yd p v a i]:=by rw [yR,hB]
    refine bf mixed (by kernel_rfl) fun K hK=>aa ae ?_
    simp only [ak,fl,gp,aj,simprocAttr,lb,CC (Nat.lt_succ_self i),FO hXl,Hz hXl _ _ (show i < (B++[r]).length by simp [hBl]),hBr,bK (show i < r.length by omega),zb (show 0 < p by omega),eK,Im hXl,hsB,hsb]
    refine af ?_ (hK _ ?_)<;>clear hK K
    ·simp only [ah] at *; omega
    refine qd (qa ?_)
    refine ab fun K hK=>aa ae ?_
    simp only [ak,fl,gp,aj,simprocAttr]
    refine af ?_ (hK _ ?_)<;>clear hK K
    ·first|exact trivial|omega|(simp only [ah] at *; omega)|(simp [ah] at *; omega)|simp_all
    refine qa ?_
    refine ⟨i + 1,List.range (z + 2 + (i + 1)),by omega,by omega,xy (c:=nP (z + 2) n (i + 1) c) (M:=B++[yd p v a i]) (X:=X) (o:=gN 1 Out) hXl rfl (by rw [hBS,show n - (i + 1)=c by omega]) rfl (by simp [hBl]; omega) (ku (by omega)) (qu (by omega)) (by rw [← hX]; exact rH (by omega)) (by
     simp [St.get,lk,bb,br]<;>omega)⟩
   (try simp only [aI] at hC7)
   have hin:i=n:=by omega
   rw [hin] at hB hBl ⊢
   rw [Nat.sub_self,sM]
   have hBr:∀ y∈B,y.length=n∧ed p y:=fun y hy=>by
    rw [← hB] at hy
    obtain ⟨t,ht,rfl⟩:=List.mem_map.1 hy
    have ht:=List.mem_range.1 ht
    exact ⟨by rw [qZ]; exact har _ (aC (by omega)),ux (by omega) (hag _ (aC (by omega)))⟩
   have hkr:=po hp2 hBl (fun v hv=>(hBr v hv).1) (fun v hv=>(hBr v hv).2)
   rw [hB] at hstep
   refine qj (qc (qc (qf (qa (qm ?_)))))
   refine lF 21 (z + 1) (z + 2) n hBl (fun v hv=>(hBr v hv).1) rfl (.inl (by omega)) (FO hXl _ _ _) (fun i hi=>?_) fun H2 b1 b2=>?_
   ·rw [Nat.add_comm (z + 2) i]; exact Hz hXl _ _ (by omega)
   have hg0:aq H2 0 = .own (gN 1 Out):=by rw [b2 0 (by omega) (by omega)]; rfl
   have hgj:∀ j,j < z→aq H2 (1 + j)=aq (iu W 1 Out) j:=fun j hj=>by
    rw [b2 (1 + j) (by omega) (by omega),Nat.add_comm 1 j,hX]
    show aq (X++_) j=_
    rw [aF (by omega)]
   have hH2:H2.length=z + 2 + n:=by rw [b1]; simp [hXl,aD,hBl]; omega
   obtain ⟨Kr,hKr⟩:∃ Kr,dX p B=Kr:=⟨_,rfl⟩
   rw [hKr] at hstep hkr
   refine ab fun K hK=>aa ae ?_
   simp only [ak,fl,gp,aj,simprocAttr]
   refine ao trivial (al (yl hp2 hp (show 0 < n by omega) hn100 B hBl (fun v hv=>(hBr v hv).1) (fun v hv=>(hBr v hv).2)) rfl rfl rfl (by simp only [ay,Nat.reduceLT]) (by repeat (first|exact trivial|constructor)) (aa ae ?_))
   simp only [ak,fl,gp,aj,simprocAttr,hKr]
   refine af trivial (hK _ ?_)<;>clear hK K
   refine qa (qm (qm ?_))
   refine ab fun K hK=>aa ae ?_
   simp only [ak,fl,gp,aj,simprocAttr,au]
   refine af trivial (hK _ ?_)<;>clear hK K
   refine qa ?_
   refine an rfl (fun hC8=>?_) (fun hC8=>?_)
   ·(try simp only [aI] at hC8)
    have hK0:Kr=[]:=List.length_eq_zero_iff.1 (by omega)
    rw [if_pos hK0] at hstep
    refine qj (qc (qf (qa ?_)))
    refine ab fun K hK=>aa ae ?_
    simp only [ak,fl,gp,aj,simprocAttr]
    refine af ?_ (hK _ ?_)<;>clear hK K
    ·first|exact trivial|omega|(simp only [ah] at *; omega)|(simp [ah] at *; omega)|simp_all
    refine qa ?_
    refine ⟨(v + 1,left,Out),0 :: (List.range' 1 (cR Out)++[]),⟨by simp only; omega,by simp only; omega,by simp only; omega,by simp only; omega,hstep.symm⟩,by simp only; omega,?_⟩
    refine oy (W:=W) rfl rfl (.inl (by omega)) hg0 (by rw [hz]; exact hgj) (by simp [jY,St.get,lk,Go.Pv.bl,bu,bb,br])
   (try simp only [aI] at hC8)
   have hK0:¬ Kr=[]:=fun e=>hC8 (by rw [e]; rfl)
   rw [if_neg hK0] at hstep
   refine qh (qa (qm ?_))
   refine ab fun K hK=>aa ae ?_
   simp only [ak,fl,gp,aj,simprocAttr,au]
   refine af ?_ (hK _ ?_)<;>clear hK K
   ·simp only [ah]; omega
   refine qa (qm ?_)
   refine ab fun K hK=>aa ae ?_
   simp only [ak,fl,gp,aj,simprocAttr]
   refine af trivial (hK _ ?_)<;>clear hK K
   refine qa (qm (qm ?_))
   refine bT 24 rfl ?_
   refine ab fun K hK=>aa ae ?_
   simp only [ak,fl,gp,aj,simprocAttr,au]
   refine af trivial (hK _ ?_)<;>clear hK K
   refine qa (ql ?_)
   have hs0:s'.getD 0 []∈s':=aC (by omega)
   have hs0l:(s'.getD 0 []).length=W:=l2 _ hs0
   have hcmr:∀ vv,uP p s' vv=qt p W s' vv vv.length:=fun vv=>by rw [uP,hs0l]
   obtain ⟨q,hq⟩:∃ q,Kr.length=q:=⟨_,rfl⟩
   obtain ⟨RW,hRW⟩:∃ RW,Kr.map (uP p s')=RW:=⟨_,rfl⟩
   have hRWl:RW.length=q:=by rw [← hRW,List.length_map,hq]
   rw [hq]
   rw [hq,hRW] at hstep
   refine aA (ι:=Nat) (fun k=>⟨224,[(0,.p (.int .i64 p)),(1,.p (.list (ll s'))),(8,.p (.int .i64 n)),(9,.p (.list (ll a))),(18,.sl 0 0 Out.length),(19,.p (.int .i64 (left - (q:Int)))),(20,.p (.int .i64 v)),(24,.sl (z + 1) 0 k),(171,.p (.list (ll Kr))),(172,.p (.int .i64 q)),(173,.p (.int .i64 k))],.own (gN 1 Out) :: (iu W 1 Out++(.own (b8 (z + 2) W k) :: tl (RW.take k)))⟩) (fun k=>k≤q) (fun k=>q - k) 0 (Nat.zero_le _) (0 :: (List.range' 1 z++(H2.length :: List.range' (z + 1) 0))) (vF (W:=W) hz (M:=[]) rfl rfl (by simp [tl]) ⟨.inl (by omega),by omega,by omega,by omega,.inl (by omega),.inr (by omega)⟩ (by show aq (H2++_) 0=_; rw [aF (by omega)]; exact hg0) (fun j hj=>by show aq (H2++_) _=_; rw [aF (by omega)]; exact hgj j hj) (by show aq (H2++[.own []]) _=_; rw [a8]; rfl) (fun i hi=>absurd hi (Nat.not_lt_zero _)) (by
    have e1:(0 :: (List.range' 1 z++(H2.length :: List.range' (z + 1) 0))).getD (z + 1) 0=H2.length:=by
     have:=nN (κ:=0) (n:=z) (r:=H2.length :: List.range' (z + 1) 0) (j:=0)
     rw [show 1 + z + 0=z + 1 by omega] at this
     exact this
    simp only [jY,St.get,lk,Go.Pv.bl,bu,bb,br,e1]
    simp)) fun k hk=>?_
   rw [hX]
   obtain ⟨D,hD⟩:∃ D,RW.take k=D:=⟨_,rfl⟩
   have hDl:D.length=k:=by rw [← hD,List.length_take]; omega
   rw [hD]
   refine qm ?_
   refine ab fun K hK=>aa ae ?_
   simp only [ak,fl,gp,aj,simprocAttr]
   refine af trivial (hK _ ?_)<;>clear hK K
   refine qa (qm ?_)
   refine an rfl (fun hC9=>?_) (fun hC9=>?_)
   ·(try simp only [aI] at hC9)
    have hkq:k < q:=by omega
    obtain ⟨vv,hvv⟩:∃ vv,Kr.getD k []=vv:=⟨_,rfl⟩
    have hvm:vv∈Kr:=by rw [← hvv]; exact aC (by omega)
    have hvl:vv.length=n:=(hkr.1 vv hvm).1
    have hvg:ed p vv:=(hkr.1 vv hvm).2
    have hRk:RW.take (k + 1)=D++[qt p W s' vv n]:=by
     rw [List.take_succ_eq_append_getElem (by omega),hD]
     congr 2
     have e:Kr[k]'(by omega)=vv:=by rw [← hvv]; simp [List.getD,List.getElem?_eq_getElem (show k < Kr.length by omega)]
     simp only [← hRW,List.getElem_map,e]
     rw [hcmr,hvl]
    refine qh (qa (qm (ql (qm ?_))))
    refine ab fun K hK=>aa ae ?_
    simp only [ak,fl,gp,aj,simprocAttr,au,bD (show k < Kr.length by omega),hvv]
    refine af ?_ (hK _ ?_)<;>clear hK K
    ·omega
    refine qa (qm ?_)
    refine ab fun K hK=>aa ae ?_
    simp only [ak,fl,gp,aj,simprocAttr,au,bD (show 0 < s'.length by omega),aJ,hs0l,List.length_append,List.length_cons,hXl,aD,hDl,cg]
    refine af ?_ (hK _ ?_)<;>clear hK K
    ·omega
    refine qa (qm (qm ?_))
    refine ab fun K hK=>aa ae ?_
    simp only [ak,fl,gp,aj,simprocAttr,aJ,hvl]
    refine af trivial (hK _ ?_)<;>clear hK K
    refine qa (ql ?_)
    have hDc:(b8 (z + 2) W k).all (bb (z + 3 + k))=true:=jk (by omega)
    have hOc:(gN 1 Out).all (bb (z + 3 + k))=true:=qu (by omega)
    have hXc:∀ b∈X,ew (z + 3 + k) b=true:=by rw [← hX]; exact rH (by omega)
    refine aA (ι:=Nat) (fun i=>⟨224,[(0,.p (.int .i64 p)),(1,.p (.list (ll s'))),(8,.p (.int .i64 n)),(9,.p (.list (ll a))),(18,.sl 0 0 Out.length),(19,.p (.int .i64 (left - (q:Int)))),(20,.p (.int .i64 v)),(24,.sl (z + 1) 0 k),(27,.sl (k + (z + 2)) 0 W),(171,.p (.list (ll Kr))),(172,.p (.int .i64 q)),(173,.p (.int .i64 k)),(182,.p (.list (il vv))),(183,.p (.int .i64 n)),(184,.p (.int .i64 i))],.own (gN 1 Out) :: (X++(.own (b8 (z + 2) W k) :: tl (D++[qt p W s' vv i])))⟩) (fun i=>i≤n) (fun i=>n - i) 0 (Nat.zero_le _) (List.range (z + 3 + k)) (xy (c:=b8 (z + 2) W k) (M:=D++[qt p W s' vv 0]) (X:=X) (o:=gN 1 Out) hXl rfl (by simp [tl,qt]) (by simp [tl,qt]) (by simp [hDl]; omega) hDc hOc hXc (by
     simp [St.get,lk,bb,br]<;>omega)) fun i hi=>?_
    obtain ⟨w0,hw0⟩:∃ w0,qt p W s' vv i=w0:=⟨_,rfl⟩
    have hw0l:w0.length=W:=by rw [← hw0,nB]
    have hw0g:ed p w0:=by rw [← hw0]; exact ui (by omega) _ _ _ _
    rw [hw0]
    refine qm ?_
    refine ab fun K hK=>aa ae ?_
    simp only [ak,fl,gp,aj,simprocAttr]
    refine af trivial (hK _ ?_)<;>clear hK K
    refine qa (qm ?_)
    refine an rfl (fun hC10=>?_) (fun hC10=>?_)
    ·(try simp only [aI] at hC10)
     have hin:i < n:=by omega
     obtain ⟨b,hb⟩:∃ b,s'.getD i []=b:=⟨_,rfl⟩
     have hbl:b.length=W:=by rw [← hb]; exact l2 _ (aC (by omega))
     have hbg:ed p b:=by rw [← hb]; exact l3 _ (aC (by omega))
     obtain ⟨x,hx⟩:∃ x,vv.getD i 0=x:=⟨_,rfl⟩
     have hxg:0≤x∧x < p:=by rw [← hx]; exact hvg i
     refine qh (qa (qm (ql (qm ?_))))
     refine ab fun K hK=>aa ae ?_
     simp only [ak,fl,gp,aj,simprocAttr,aW (show i < vv.length by omega),hx]
     refine af ?_ (hK _ ?_)<;>clear hK K
     ·omega
     refine qa (qm ?_)
     refine ab fun K hK=>aa ae ?_
     simp only [ak,fl,gp,aj,simprocAttr,au,bD (show i < s'.length by omega),hb,aJ,hbl]
     refine af ?_ (hK _ ?_)<;>clear hK K
     ·omega
     refine qa (ql ?_)
     refine aA (ι:=Nat) (fun j=>⟨224,[(0,.p (.int .i64 p)),(1,.p (.list (ll s'))),(8,.p (.int .i64 n)),(9,.p (.list (ll a))),(18,.sl 0 0 Out.length),(19,.p (.int .i64 (left - (q:Int)))),(20,.p (.int .i64 v)),(24,.sl (z + 1) 0 k),(27,.sl (k + (z + 2)) 0 W),(29,.p (.int .i64 x)),(171,.p (.list (ll Kr))),(172,.p (.int .i64 q)),(173,.p (.int .i64 k)),(182,.p (.list (il vv))),(183,.p (.int .i64 n)),(184,.p (.int .i64 i)),(192,.p (.list (il b))),(193,.p (.int .i64 W)),(194,.p (.int .i64 j))],.own (gN 1 Out) :: (X++(.own (b8 (z + 2) W k) :: tl (D++[cO (Ek p x w0 b) 0 j w0])))⟩) (fun j=>j≤W) (fun j=>W - j) 0 (Nat.zero_le _) (List.range (z + 3 + k)) (xy (c:=b8 (z + 2) W k) (M:=D++[w0]) (X:=X) (o:=gN 1 Out) hXl rfl (by rw [di]) rfl (by simp [hDl]; omega) hDc hOc hXc (by
      simp [St.get,lk,bb,br]<;>omega)) fun j hj=>?_
     obtain ⟨y,hy⟩:∃ y,cO (Ek p x w0 b) 0 j w0=y:=⟨_,rfl⟩
     have hyl:y.length=W:=by rw [← hy,bF,hw0l]
     rw [hy]
     refine qm ?_
     refine ab fun K hK=>aa ae ?_
     simp only [ak,fl,gp,aj,simprocAttr]
     refine af trivial (hK _ ?_)<;>clear hK K
     refine qa (qm ?_)
     refine an rfl (fun hC11=>?_) (fun hC11=>?_)
     ·(try simp only [aI] at hC11)
      have hjW:j < W:=by omega
      have hyj:y.getD j 0=w0.getD j 0:=by rw [← hy,df (by omega),if_neg (by omega)]
      have hDy:(D++[y]).getD k []=y:=by rw [← hDl,cF]
      have hDs:∀ u,(D++[y]).set k u=D++[u]:=fun u=>by rw [← hDl,gR]
      have hst:y.set j ((w0.getD j 0 + x * b.getD j 0) % (p:Int))=cO (Ek p x w0 b) 0 (j + 1) w0:=by
       rw [← hy]; exact gu (f:=Ek p x w0 b) (Nat.zero_le j) (by omega)
      have hm1:=jj hp hxg.1 hxg.2 (hbg j).1 (hbg j).2
      have hwj:=hw0g j
      have htm:Int.tmod (w0.getD j 0 + x * b.getD j 0) p=(w0.getD j 0 + x * b.getD j 0) % p:=Int.tmod_eq_emod_of_nonneg (by omega)
      refine qh (qa (qm (ql (qm ?_))))
      refine ab fun K hK=>aa ae ?_
      simp only [ak,fl,gp,aj,simprocAttr,aW (show j < b.length by omega)]
      refine af ?_ (hK _ ?_)<;>clear hK K
      ·omega
      refine qa ?_
      refine ab fun K hK=>aa ae ?_
      simp only [ak,fl,gp,aj,simprocAttr,Hz hXl _ _ (show k < (D++[y]).length by simp [hDl]),hDy,bK (show j < y.length by omega),hyj,htm,eK,Im hXl,hDs,hst]
      refine af ?_ (hK _ ?_)<;>clear hK K
      ·simp only [ah] at *; omega
      refine qd (qa ?_)
      refine ab fun K hK=>aa ae ?_
      simp only [ak,fl,gp,aj,simprocAttr]
      refine af ?_ (hK _ ?_)<;>clear hK K
      ·first|exact trivial|omega|(simp only [ah] at *; omega)|(simp [ah] at *; omega)|simp_all
      refine qa ?_
      refine ⟨j + 1,List.range (z + 3 + k),by omega,by omega,xy (c:=b8 (z + 2) W k) (M:=D++[cO (Ek p x w0 b) 0 (j + 1) w0]) (X:=X) (o:=gN 1 Out) hXl rfl rfl rfl (by simp [hDl]; omega) hDc hOc hXc (by
       simp [St.get,lk,bb,br]<;>omega)⟩
     (try simp only [aI] at hC11)
     have hjW:j=W:=by omega
     have hye:qt p W s' vv (i + 1)=y:=by rw [qt,hw0,hx,hb,FQ,hw0l,← hjW,hy]
     refine qj (qc (qc (qf (qd (qa ?_)))))
     refine ab fun K hK=>aa ae ?_
     simp only [ak,fl,gp,aj,simprocAttr]
     refine af ?_ (hK _ ?_)<;>clear hK K
     ·first|exact trivial|omega|(simp only [ah] at *; omega)|(simp [ah] at *; omega)|simp_all
     refine qa ?_
     refine ⟨i + 1,List.range (z + 3 + k),by omega,by omega,xy (c:=b8 (z + 2) W k) (M:=D++[y]) (X:=X) (o:=gN 1 Out) hXl rfl (by rw [hye]) rfl (by simp [hDl]; omega) hDc hOc hXc (by
      simp [St.get,lk,bb,br]<;>omega)⟩
    (try simp only [aI] at hC10)
    have hin:i=n:=by omega
    rw [hin] at hw0
    rw [hw0] at hRk
    obtain ⟨T,hT⟩:∃ T,tl (D++[w0])=T:=⟨_,rfl⟩
    have hTl:T.length=k + 1:=by rw [← hT,aD]; simp [hDl]
    have hrw:List.take k (b8 (z + 2) W k)=b8 (z + 2) W k:=k6 rfl
    rw [hT]
    refine qj (qc (qc (qf (qa ?_))))
    refine ab fun K hK=>aa ae ?_
    simp only [ak,fl,gp,aj,simprocAttr,List.append_assoc,List.cons_append,hXl,hTl,List.length_append,List.length_cons,FO hXl,Hp hXl,F0 hXl hTl,hrw,gb,bt]
    refine ao ?_ (eM (cu ae rfl rfl rfl rfl rfl rfl) rfl (by simp only [ay,Nat.reduceLT]) (aa ae ?_))
    ·first|exact trivial|omega|(simp only [ah] at *; omega)|(simp [ah] at *; omega)|simp_all
    simp only [ak,fl,gp,aj,simprocAttr,hXl,hTl,List.length_append,List.length_cons,List.append_assoc,List.cons_append,hXl,hTl,List.length_append,List.length_cons,FO hXl,Hp hXl,F0 hXl hTl,hrw,gb,bt]
    refine af ?_ (hK _ ?_)<;>clear hK K
    ·exact ⟨uh _ _ _,by omega,by omega,by omega⟩
    refine qd (qa ?_)
    refine ab fun K hK=>aa ae ?_
    simp only [ak,fl,gp,aj,simprocAttr]
    refine af ?_ (hK _ ?_)<;>clear hK K
    ·first|exact trivial|omega|(simp only [ah] at *; omega)|(simp [ah] at *; omega)|simp_all
    refine qa ?_
    refine ⟨k + 1,0 :: (List.range' 1 z++((z + (k + 1 + 1 + 1) + 1) :: List.range' (z + 2) (k + 1))),by omega,by omega,?_⟩
    rw [hRk]
    refine vF (W:=W) hz (M:=D++[w0]) (by simp [hDl]) rfl (by rw [hX]) ⟨.inl (by omega),by omega,by omega,by omega,.inl (by omega),.inr (by omega)⟩ rfl (fun j hj=>?_) (Io hXl hTl _ _ _ _) (fun i hi=>?_) ?_
    ·rw [Nat.add_comm 1 j,hX]
     show aq (X++_) j=_
     rw [aF (by omega)]
    ·refine (Ix hXl (by omega) _ _ _).trans ?_
     rw [← hT,aV (by simp [hDl]; omega)]
    have e1:(0 :: (List.range' 1 z++((z + (k + 1 + 1 + 1) + 1) :: List.range' (z + 2) (k + 1)))).getD (z + 1) 0=z + (k + 1 + 1 + 1) + 1:=by
     have:=nN (κ:=0) (n:=z) (r:=(z + (k + 1 + 1 + 1) + 1) :: List.range' (z + 2) (k + 1)) (j:=0)
     rw [show 1 + z + 0=z + 1 by omega] at this
     exact this
    simp only [jY,St.get,lk,Go.Pv.bl,bu,bb,br,e1]
    simp
   (try simp only [aI] at hC9)
   have hkq:k=q:=by omega
   have hDR:D=RW:=by rw [← hD,hkq,← hRWl,List.take_length]
   rw [hkq,hDR]
   have hht:List.take Out.length (gN 1 Out)=gN 1 Out:=List.take_of_length_le (by rw [re]; exact Nat.le_refl _)
   have hsn:gN 1 Out++[.sl (z + 1) 0 q]=gN 1 (Out++[RW]):=by rw [AI,hz,hRWl,Nat.add_comm 1 z]
   have htR:(tl RW).length=q:=by rw [aD,hRWl]
   refine qj (qc (qc (qf (qa ?_))))
   refine ab fun K hK=>aa ae ?_
   simp only [ak,fl,gp,aj,simprocAttr,List.append_assoc,List.cons_append,hXl,htR,List.length_append,List.length_cons,F0 hXl htR,hht,hsn,re]
   refine ao ?_ (eM (cu ae rfl rfl rfl rfl rfl rfl) rfl (by simp only [ay,Nat.reduceLT]) (aa ae ?_))
   ·first|exact trivial|omega|(simp only [ah] at *; omega)|(simp [ah] at *; omega)|simp_all
   simp only [ak,fl,gp,aj,simprocAttr,hXl,htR,List.length_append,List.length_cons,List.append_assoc,List.cons_append,hXl,htR,List.length_append,List.length_cons,F0 hXl htR,hht,hsn,re]
   refine af ?_ (hK _ ?_)<;>clear hK K
   ·exact ⟨Fz _ _,by omega,by omega,by omega⟩
   refine qd (qa ?_)
   refine ab fun K hK=>aa ae ?_
   simp only [ak,fl,gp,aj,simprocAttr]
   refine af ?_ (hK _ ?_)<;>clear hK K
   ·first|exact trivial|omega|(simp only [ah] at *; omega)|(simp [ah] at *; omega)|simp_all
   refine qa ?_
   have hzS:cR (Out++[RW])=z + (1 + q):=by rw [ze,hz,hRWl]
   refine ⟨(v + 1,left - (q:Int),Out++[RW]),(z + (q + 1 + 1) + 1) :: (List.range' 1 (cR (Out++[RW]))++[]),⟨by simp only; omega,by simp only; omega,by simp only; omega,by simp only [List.length_append,List.length_singleton]; omega,hstep.symm⟩,by simp only; omega,?_⟩
   have hch:iu W 1 (Out++[RW])=X++(.own (b8 (z + 2) W q) :: tl RW):=by rw [zt,hX,hz,hRWl,show 1 + z + 1=z + 2 by omega]
   refine oy (W:=W) rfl rfl (.inr (by omega)) (Io hXl htR _ _ _ _) (fun j hj=>?_) (by simp [jY,St.get,lk,Go.Pv.bl,bu,bb,br])
   rw [Nat.add_comm 1 j,hch]
   show aq (X++(_ :: (tl RW++_))) j=_
   rw [← List.cons_append,← List.append_assoc,aF (by simp [hXl,htR]; omega)]
  (try simp only [aI] at hC6)
  refine qj (qc (qc (qf (qa (qm ?_)))))
  refine ab fun K hK=>aa ae ?_
  simp only [ak,fl,gp,aj,simprocAttr]
  refine af trivial (hK _ ?_)<;>clear hK K
  refine qa (qk ?_)
  simp only [Tryd.results44,o8,o6,ml,yX,je,ak,fl,gp,aj,simprocAttr]
  have hR:iC p s' a p n 0 []=Out:=by rw [← x5]; exact lP (by first|(left; omega)|(right; simp at hC6; omega))
  rw [hR]
  refine ⟨0 :: (List.range' 1 (cR Out)++[]),rfl,by simp [bb,br],oy (W:=W) rfl rfl (.inl (by omega)) rfl (fun j hj=>?_) trivial⟩
  rw [Nat.add_comm 1 j,hX]; rfl
 refine ab fun K hK=>aa ae ?_
 simp only [ak,fl,gp,aj,simprocAttr,decide_eq_false (show ¬ (v:Int) < (p:Int) by omega)]
 refine af trivial (hK _ ?_)<;>clear hK K
 refine qa ?_
 refine an rfl (fun hC6=>?_) (fun hC6=>?_)
 ·cases hC6
 refine qj (qc (qc (qf (qa (qm ?_)))))
 refine ab fun K hK=>aa ae ?_
 simp only [ak,fl,gp,aj,simprocAttr]
 refine af trivial (hK _ ?_)<;>clear hK K
 refine qa (qk ?_)
 simp only [Tryd.results44,o8,o6,ml,yX,je,ak,fl,gp,aj,simprocAttr]
 have hR:iC p s' a p n 0 []=Out:=by rw [← x5]; exact lP (by first|(left; omega)|(right; simp at hC6; omega))
 rw [hR]
 refine ⟨0 :: (List.range' 1 (cR Out)++[]),rfl,by simp [bb,br],oy (W:=W) rfl rfl (.inl (by omega)) rfl (fun j hj=>?_) trivial⟩
 rw [Nat.add_comm 1 j,hX]; rfl
section
variable {n:Nat} {f:Nat→Nat→Nat} {e:Nat}
end
theorem tM (m:List Int) (n e:Nat):(xb m n e).length=n:=uT _ _
theorem A5 (m:List Int) {n e a:Nat} (ha:a < n):(xb m n e).getD a 0=((ord n (op m n) e a:Nat):Int):=DS _ ha
open Go.Pv
def bn (m:List Int) (n e:Nat):Nat→Nat
 | 0=>1
 | i + 1=>Nat.lcm (bn m n e i) (ord n (op m n) e i)
theorem eX {m:List Int} {n e:Nat} (h:GT n m n e):∀ i,i≤n→bn m n e i ∣ n
 | 0,_=>Nat.one_dvd n
 | i + 1,hi=>Nat.lcm_dvd (eX h i (by omega)) (h.2.2.wz (by omega))
theorem fR {m:List Int} {n e:Nat} (h:GT n m n e) {i:Nat} (hi:i≤n):1≤bn m n e i∧bn m n e i≤60:=by
 have hp:=h.2.1.pos
 have hb:=h.2.1.big
 have hd:=eX h i hi
 exact ⟨Nat.pos_of_dvd_of_pos hd hp,Nat.le_trans (Nat.le_of_dvd hp hd) hb⟩
theorem Bh (x y:Nat):x / Nat.gcd x y * y=Nat.lcm x y:=by
 unfold Nat.lcm
 rw [Nat.div_mul_right_comm (Nat.gcd_dvd_left x y)]
theorem tE {n e:Nat} {m:List Int} (h:GT n m n e):cL Tryd.prog 75 [gp n m] (.tup [.int .i64 (bn m n e n:Nat),fl (0,0)]):=by
 have G:=h.2.2
 have hb:=h.2.1.big
 have ll:=tM m n e
 refine aM ae Tryd.func75 rfl (by kernel_rfl) (by rw [Tryd.ntmps75]; exact Nat.le_add_left 1 _) ?_; rw [Tryd.ntmps75]
 refine qm ?_
 refine ab fun K hK=>aa ae ?_
 simp only [ak,fl,gp,aj,simprocAttr]
 refine af ?_ (hK _ ?_)<;>clear hK K
 ·first|exact trivial|omega|(simp only [ah] at *; omega)|(simp [ah] at *; omega)|simp_all
 refine qa (qm ?_)
 refine ab fun K hK=>aa ae ?_
 simp only [ak,fl,gp,aj,simprocAttr]
 refine ao trivial (al (xR h) rfl rfl rfl (by simp only [ay,Nat.reduceLT]) (by repeat (first|exact trivial|constructor)) (aa ae ?_))
 simp only [ak,fl,gp,aj,simprocAttr]
 refine af ?_ (hK _ ?_)<;>clear hK K
 ·first|exact trivial|omega|(simp only [ah] at *; omega)|(simp [ah] at *; omega)|simp_all
 refine qa (qm (qm ?_))
 refine ab fun K hK=>aa ae ?_
 simp only [ak,fl,gp,aj,simprocAttr]
 refine af ?_ (hK _ ?_)<;>clear hK K
 ·first|exact trivial|omega|(simp only [ah] at *; omega)|(simp [ah] at *; omega)|simp_all
 refine qa ?_
 refine an rfl (fun hC1=>?_) (fun hC1=>?_)
 ·cases hC1
 (try simp only [aI] at hC1)
 refine qh (qa (qm ?_))
 refine ab fun K hK=>aa ae ?_
 simp only [ak,fl,gp,aj,simprocAttr]
 refine af trivial (hK _ ?_)<;>clear hK K
 refine qa (qm (qm ?_))
 refine ab fun K hK=>aa ae ?_
 simp only [ak,fl,gp,aj,simprocAttr,tM]
 refine af trivial (hK _ ?_)<;>clear hK K
 refine qa (ql ?_)
 refine aA (ι:=Nat) (fun i=>⟨37,[(3,.ptr 0 0),(5,.ptr 1 0),(6,.p (.int .i64 (bn m n e i:Nat))),(19,.p (.list (il (xb m n e)))),(20,.p (.int .i64 n)),(21,.p (.int .i64 i))],[.own [.p (.int .i64 0),.p (.int .i64 0)],.own [.p (.int .i64 0),.p (.int .i64 0)]]⟩) (fun i=>i≤n) (fun i=>n - i) 0 (Nat.zero_le _) [1,2] (by simp only [leq,bh,ak,fl,gp,aj,simprocAttr]<;>trivial) fun i hi=>?_
 refine qm ?_
 refine ab fun K hK=>aa ae ?_
 simp only [ak,fl,gp,aj,simprocAttr]
 refine af trivial (hK _ ?_)<;>clear hK K
 refine qa (qm ?_)
 refine an rfl (fun hC2=>?_) (fun hC2=>?_)
 ·(try simp only [aI] at hC2)
  have hlt:i < n:=by omega
  have hg:=A5 m (e:=e) hlt
  have o1:=G.nF hlt
  obtain ⟨e1,e2⟩:=fR h hi
  obtain ⟨_,l2⟩:=fR h (show i + 1≤n from hlt)
  have hL:bn m n e (i + 1)=Nat.lcm (bn m n e i) (ord n (op m n) e i):=rfl
  obtain ⟨q,hq⟩:=Nat.dvd_lcm_left (bn m n e i) (ord n (op m n) e i)
  have hdo:=Nat.dvd_lcm_right (bn m n e i) (ord n (op m n) e i)
  have hleast:∀ j,ord n (op m n) e i ∣ bn m n e i * j→Nat.lcm (bn m n e i) (ord n (op m n) e i) ∣ bn m n e i * j:=fun j hj=>Nat.lcm_dvd (Nat.dvd_mul_right _ _) hj
  rw [hL] at l2
  rw [hq] at l2 hdo hleast hL
  have hq1:1≤q:=by
   rcases Nat.eq_zero_or_pos q with h0 | h0
   ·subst h0
    have:=(fR h (show i + 1≤n from hlt)).1
    rw [hL] at this; omega
   exact h0
  generalize hx:bn m n e i=x at *
  refine qh (qa (qm (ql (qm ?_))))
  refine ab fun K hK=>aa ae ?_
  simp only [ak,fl,gp,aj,simprocAttr,aW (show i < (xb m n e).length by omega),hg]
  refine af ?_ (hK _ ?_)<;>clear hK K
  ·first|exact trivial|omega|(simp only [ah] at *; omega)|(simp [ah] at *; omega)|simp_all
  refine qa (qm ?_)
  refine ab fun K hK=>aa ae ?_
  simp only [ak,fl,gp,aj,simprocAttr]
  refine af trivial (hK _ ?_)<;>clear hK K
  refine qa (qm (ql ?_))
  refine aA (ι:=Nat) (fun j=>⟨37,[(3,.ptr 0 0),(5,.ptr 1 0),(6,.p (.int .i64 (x:Nat))),(8,.p (.int .i64 (ord n (op m n) e i:Nat))),(9,.p (.int .i64 (x * j:Nat))),(19,.p (.list (il (xb m n e)))),(20,.p (.int .i64 n)),(21,.p (.int .i64 i))],[.own [.p (.int .i64 0),.p (.int .i64 0)],.own [.p (.int .i64 0),.p (.int .i64 0)]]⟩) (fun j=>1≤j∧j≤q) (fun j=>q - j) 1 ⟨Nat.le_refl _,hq1⟩ [0,1] (by rw [Nat.mul_one]; simp only [leq,bh,ak,fl,gp,aj,simprocAttr]<;>trivial) fun j hj=>?_
  obtain ⟨hj1,hj2⟩:=hj
  have hxj:x * j≤x * q:=Nat.mul_le_mul_left _ hj2
  refine qm (qm ?_)
  refine ab fun K hK=>aa ae ?_
  simp only [ak,fl,gp,aj,simprocAttr,u4]
  refine af ?_ (hK _ ?_)<;>clear hK K
  ·omega
  refine qa ?_
  refine an rfl (fun hC3=>?_) (fun hC3=>?_)
  ·(try simp only [aI] at hC3)
   have hjq:j ≠ q:=by
    intro hh
    subst hh
    have:=Nat.mod_eq_zero_of_dvd hdo
    omega
   refine qh (qa (ql ?_))
   refine ab fun K hK=>aa ae ?_
   simp only [ak,fl,gp,aj,simprocAttr]
   refine af ?_ (hK _ ?_)<;>clear hK K
   ·first|exact trivial|omega|(simp only [ah] at *; omega)|(simp [ah] at *; omega)|simp_all
   refine qd (qa ?_)
   refine ⟨j + 1,[0,1],⟨by omega,by omega⟩,by omega,?_⟩
   rw [Nat.mul_succ]
   simp only [leq,bh,ak,fl,gp,aj,simprocAttr]<;>first|trivial|omega
  (try simp only [aI] at hC3)
  have hjq:j=q:=by
   have hd:=hleast j (Nat.dvd_of_mod_eq_zero (by omega))
   have hpos:0 < x * j:=Nat.mul_pos e1 hj1
   have:=Nat.le_of_dvd hpos hd
   have:=Nat.le_of_mul_le_mul_left this e1
   omega
  refine qj (qc (qc (qf (qa ?_))))
  refine ab fun K hK=>aa ae ?_
  simp only [ak,fl,gp,aj,simprocAttr]
  refine af trivial (hK _ ?_)<;>clear hK K
  refine qd (qa ?_)
  refine ab fun K hK=>aa ae ?_
  simp only [ak,fl,gp,aj,simprocAttr]
  refine af ?_ (hK _ ?_)<;>clear hK K
  ·first|exact trivial|omega|(simp only [ah] at *; omega)|(simp [ah] at *; omega)|simp_all
  refine qa ?_
  refine ⟨i + 1,[0,1],by omega,by omega,?_⟩
  rw [hL,← hjq]
  simp only [leq,bh,ak,fl,gp,aj,simprocAttr]<;>first|trivial|omega
 (try simp only [aI] at hC2)
 have hin:i=n:=by omega
 refine qj (qc (qc (qf (qa (qm ?_)))))
 refine bf mixed (by kernel_rfl) fun K hK=>aa ae ?_
 simp only [ak,fl,gp,aj,simprocAttr]
 refine af ?_ (hK _ ?_)<;>clear hK K
 ·first|exact trivial|omega|(simp only [ah] at *; omega)|(simp [ah] at *; omega)|simp_all
 refine qa (qk ?_)
 simp only [Tryd.results75,cy,ak,fl,gp,aj,simprocAttr]
 all_goals (rw [hin])
def xH (E N k:Nat):Bool:=decide (2 * N < E * (k + 1) + 1) && jU (E * (k + 1) + 1)
def tQ (E N:Nat):Nat:=(bO (xH E N) 200).getD 0
def yf (E N:Nat):Nat:=E * (tQ E N + 1) + 1
def GX:Bool:=(List.range 61).all fun N=>(List.range 61).all fun E=>decide (N=0) || decide (¬ N % E=0) || (bO (xH E N) 200).isSome
theorem BD:GX=true:=by decide +kernel
theorem FE {E N:Nat} (h1:1≤N) (h2:N≤60) (hd:E ∣ N):bO (xH E N) 200=some (tQ E N):=by
 have h:=List.all_eq_true.1 BD N (List.mem_range.2 (by omega))
 have hE:=Nat.le_of_dvd (by omega) hd
 have h:=List.all_eq_true.1 h E (List.mem_range.2 (by omega))
 simp only [Bool.or_eq_true,decide_eq_true_eq] at h
 rcases h with (h | h) | h
 ·omega
 ·exact absurd (Nat.mod_eq_zero_of_dvd hd) h
 unfold tQ
 obtain ⟨k,hk⟩:=Option.isSome_iff_exists.1 h
 rw [hk]; rfl
theorem pb {E N:Nat} (h1:1≤N) (h2:N≤60) (hd:E ∣ N):tQ E N < 200∧xH E N (tQ E N)=true∧∀ j,j < tQ E N→xH E N j=false:=cE (FE h1 h2 hd)
theorem yg {E N:Nat} (h1:1≤N) (h2:N≤60) (hd:E ∣ N):2 * N < yf E N∧yf E N≤20000∧jU (yf E N)=true:=by
 obtain ⟨k1,k2,_⟩:=pb h1 h2 hd
 have hE:=Nat.le_of_dvd (by omega) hd
 have:=Nat.mul_le_mul hE (show tQ E N + 1≤200 by omega)
 simp only [xH,Bool.and_eq_true,decide_eq_true_eq] at k2
 exact ⟨k2.1,by unfold yf; omega,k2.2⟩
theorem xp {n e:Nat} {m:List Int} (h:GT n m n e):cL Tryd.prog 43 [gp n m] (.int .i64 (yf (bn m n e n) n:Nat)):=by
 have hb:=h.2.1.big
 have hp:=h.2.1.pos
 have hd:=eX h n (Nat.le_refl _)
 obtain ⟨k1,k2,k3⟩:=pb hp hb hd
 have hEl:=Nat.le_of_dvd (by omega) hd
 have hmr:yf (bn m n e n) n=bn m n e n * (tQ (bn m n e n) n + 1) + 1:=rfl
 have hexp:=tE h
 generalize bn m n e n=E at *
 have e0:(E:Int) + 1=((E * (0 + 1) + 1:Nat):Int):=by simp
 refine aM ae Tryd.func43 rfl (by kernel_rfl) (by rw [Tryd.ntmps43]; exact Nat.le_add_left 1 _) ?_; rw [Tryd.ntmps43]
 refine qm ?_
 refine ab fun K hK=>aa ae ?_
 simp only [ak,fl,gp,aj,simprocAttr]
 refine af ?_ (hK _ ?_)<;>clear hK K
 ·first|exact trivial|omega|(simp only [ah] at *; omega)|(simp [ah] at *; omega)|simp_all
 refine qa (qm ?_)
 refine ab fun K hK=>aa ae ?_
 simp only [ak,fl,gp,aj,simprocAttr]
 refine ao trivial (al (hexp) rfl rfl rfl (by simp only [ay,Nat.reduceLT]) (by repeat (first|exact trivial|constructor)) (aa ae ?_))
 simp only [ak,fl,gp,aj,simprocAttr]
 refine af ?_ (hK _ ?_)<;>clear hK K
 ·first|exact trivial|omega|(simp only [ah] at *; omega)|(simp [ah] at *; omega)|simp_all
 refine qa (qm ?_)
 refine ab fun K hK=>aa ae ?_
 simp only [ak,fl,gp,aj,simprocAttr,e0]
 refine af ?_ (hK _ ?_)<;>clear hK K
 ·first|exact trivial|omega|(simp only [ah] at *; omega)|(simp [ah] at *; omega)|simp_all
 refine qa (qm (ql ?_))
 refine aA (ι:=Nat) (fun k=>⟨27,[(1,.ptr 0 0),(3,.p (.int .i64 E)),(5,.p (.int .i64 (E * (k + 1) + 1:Nat)))],[.own [.p (.int .i64 n),.p (.list (il m))]]⟩) (fun k=>k≤tQ E n) (fun k=>tQ E n - k) 0 (Nat.zero_le _) [0] (by simp only [leq,bh,ak,fl,gp,aj,simprocAttr]) fun k hk=>?_
 have hEk:E * (k + 1)≤60 * 200:=Nat.mul_le_mul (by omega) (by omega)
 obtain ⟨q,hq⟩:∃ q,E * (k + 1) + 1=q:=⟨_,rfl⟩
 have hpr:=Bf (p:=q) (by omega)
 have hmc:xH E n k=(decide (2 * n < q) && jU q):=by rw [xH,hq]
 have hnx:E * (k + 1 + 1)=E * (k + 1) + E:=Nat.mul_succ _ _
 rw [hq]
 refine qm (qm ?_)
 rcases Nat.lt_or_ge (2 * n) q with hlt | hlt
 ·refine ab fun K hK=>aa ae ?_
  simp only [ak,fl,gp,aj,simprocAttr,decide_eq_false (show ¬ (q:Int)≤2 * (n:Int) by omega)]
  refine ao ?_ (al (hpr) rfl rfl rfl (by simp only [ay,Nat.reduceLT]) (by repeat (first|exact trivial|constructor)) (aa ae ?_))
  ·(first|omega|(simp only [ah] at *; done)|(simp only [ah] at *; omega))
  simp only [ak,fl,gp,aj,simprocAttr,decide_eq_false (show ¬ (q:Int)≤2 * (n:Int) by omega)]
  refine af ?_ (hK _ ?_)<;>clear hK K
  ·first|exact trivial|omega|(simp only [ah] at *; omega)|(simp [ah] at *; omega)|simp_all
  refine qa ?_
  refine an rfl (fun hC1=>?_) (fun hC1=>?_)
  ·(try simp only [aI] at hC1)
   have hmf:xH E n k=false:=by
    rw [hmc]
    cases hb:jU q with
    | false=>simp
    | true=>rw [hb] at hC1; simp at hC1
   have hkl:k < tQ E n:=by
    refine Nat.lt_of_le_of_ne hk fun e=>?_
    rw [e,k2] at hmf; cases hmf
   refine qh (qa (ql ?_))
   refine ab fun K hK=>aa ae ?_
   simp only [ak,fl,gp,aj,simprocAttr]
   refine af ?_ (hK _ ?_)<;>clear hK K
   ·(first|omega|(simp only [ah] at *; done)|(simp only [ah] at *; omega))
   refine qd (qa ?_)
   refine ⟨k + 1,[0],by omega,by omega,by simp only [leq,bh,ak,fl,gp,aj,simprocAttr]<;>omega⟩
  (try simp only [aI] at hC1)
  have hmt:xH E n k=true:=by
   rw [hmc,decide_eq_true hlt,Bool.true_and]
   cases hb:jU q with
   | true=>rfl
   | false=>rw [hb] at hC1; simp at hC1
  have hkl:k=tQ E n:=by
   refine Nat.le_antisymm hk (Nat.le_of_not_lt fun hl=>?_)
   rw [k3 k hl] at hmt; cases hmt
  refine qj (qc (qc (qf (qa (qm ?_)))))
  refine ab fun K hK=>aa ae ?_
  simp only [ak,fl,gp,aj,simprocAttr]
  refine af trivial (hK _ ?_)<;>clear hK K
  refine qa (qk ?_)
  simp only [Tryd.results43,cy,ak,fl,gp,aj,simprocAttr]
  congr 2
  rw [hmr,← hkl,hq]
 refine ab fun K hK=>aa ae ?_
 simp only [ak,fl,gp,aj,simprocAttr,decide_eq_true (show (q:Int)≤2 * (n:Int) by omega)]
 refine af ?_ (hK _ ?_)<;>clear hK K
 ·first|exact trivial|omega|(simp only [ah] at *; omega)|(simp [ah] at *; omega)|simp_all
 refine qa ?_
 refine an rfl (fun hC1=>?_) (fun hC1=>?_)
 ·have hmf:xH E n k=false:=by rw [hmc,decide_eq_false (by omega),Bool.false_and]
  have hkl:k < tQ E n:=by
   refine Nat.lt_of_le_of_ne hk fun e=>?_
   rw [e,k2] at hmf; cases hmf
  refine qh (qa (ql ?_))
  refine ab fun K hK=>aa ae ?_
  simp only [ak,fl,gp,aj,simprocAttr]
  refine af ?_ (hK _ ?_)<;>clear hK K
  ·(first|omega|(simp only [ah] at *; done)|(simp only [ah] at *; omega))
  refine qd (qa ?_)
  refine ⟨k + 1,[0],by omega,by omega,by simp only [leq,bh,ak,fl,gp,aj,simprocAttr]<;>omega⟩
 cases hC1
section
variable {n:Nat} {f:Nat→Nat→Nat} {e:Nat}
end
open Go.Pv
theorem kB {α β:Type} (R:α→β→Bool) (L1:List α):∀ L2:List β,(L1.map fun a=>(L2.filter (R a)).length).sum=(L2.map fun b=>(L1.filter fun a=>R a b).length).sum
 | []=>by induction L1 with
  | nil=>rfl
  | cons a t ih=>simpa using ih
 | b :: t=>by
  have ih:=kB R L1 t
  have:(L1.map fun a=>((b :: t).filter (R a)).length).sum=(L1.filter fun a=>R a b).length + (L1.map fun a=>(t.filter (R a)).length).sum:=by
   clear ih
   induction L1 with
   | nil=>rfl
   | cons a u ihu =>
    have h1:((b :: t).filter (R a)).length=(if R a b then 1 else 0) + (t.filter (R a)).length:=by
     rw [List.filter_cons]; cases R a b<;>simp<;>omega
    have h2:((a :: u).filter fun a=>R a b).length=(if R a b then 1 else 0) + (u.filter fun a=>R a b).length:=by
     rw [List.filter_cons]; cases R a b<;>simp<;>omega
    rw [List.map_cons,List.sum_cons,ihu,List.map_cons,List.sum_cons,h1,h2]
    omega
  rw [this,ih]; simp
theorem jN {α:Type} {g:α→Nat} {c:Nat} : ∀ {l:List α},(∀ a∈l,g a=c)→(l.map g).sum=l.length * c
 | [],_=>by simp
 | a :: t,h=>by
  rw [List.map_cons,List.sum_cons,h a (by simp),jN (fun x hx=>h x (by simp [hx])),List.length_cons,Nat.succ_mul]; omega
theorem Ir {α β:Type} (R:α→β→Bool) {L1:List α} {L2:List β} {c1 c2:Nat} (h1:∀ a∈L1,(L2.filter (R a)).length=c1) (h2:∀ b∈L2,(L1.filter fun a=>R a b).length=c2):L1.length * c1=L2.length * c2:=by
 rw [← jN h1,← jN h2,kB]
section
variable {n:Nat} {f:Nat→Nat→Nat} {e:Nat}
def Dx (f:Nat→Nat→Nat) (y x:Nat):Bool:=decide (f x y=f y x)
theorem kZ {y x:Nat} : Dx f y x=true↔f x y=f y x:=by simp [Dx]
end
open Go.Pv
section
variable {n:Nat} {f:Nat→Nat→Nat} {e:Nat}
theorem Sub.and {a b:Nat→Bool} (ha:Sub n f e a) (hb:Sub n f e b):Sub n f e fun x=>a x && b x where
 one:=by simp [ha.one,hb.one]
 mul x y hx hy h1 h2:=by
  rw [Bool.and_eq_true] at *
  exact ⟨ha.mul x y hx hy h1.1 h2.1,hb.mul x y hx hy h1.2 h2.2⟩
 inv x hx h:=by
  rw [Bool.and_eq_true] at *
  exact ⟨ha.inv x hx h.1,hb.inv x hx h.2⟩
theorem Cx {p:Nat→Bool} (he:e < n) (h:∀ a,a < n→(p a=true↔a=e)):(mem n p).length=1:=by
 have:(mem n p).length=[e].length:=gm (List.nodup_range.filter _) (by simp) fun x=>by
  rw [bg,List.mem_singleton]
  constructor
  ·rintro ⟨h1,h2⟩; exact (h x h1).1 h2
  rintro rfl; exact ⟨he,(h x he).2 rfl⟩
 exact this
theorem C3 {p:Nat→Bool} : (mem n p).length=n↔∀ a,a < n→p a=true:=by
 constructor
 ·intro h a ha
  have h1:(mem n p).length=(List.range n).length:=by rw [h,List.length_range]
  have h2:=List.length_filter_eq_length_iff.1 h1
  exact h2 a (List.mem_range.2 ha)
 intro h
 have:mem n p=List.range n:=List.filter_eq_self.2 fun a ha=>h a (List.mem_range.1 ha)
 rw [this,List.length_range]
end
open Go.Pv
def lead (r:Nat→Nat→Bool) (a:Nat):Bool:=r a a && decide (∀ b,b < a→r a b=false)
theorem gS {r:Nat→Nat→Bool} {a:Nat} : lead r a=true↔r a a=true∧∀ b,b < a→r a b=false:=by
 unfold lead; rw [Bool.and_eq_true,decide_eq_true_eq]
structure xA (n:Nat) (r:Nat→Nat→Bool):Prop where
 refl:∀ a,a < n→r a a=true
 symm:∀ a b,a < n→b < n→r a b=true→r b a=true
 trans:∀ a b c,a < n→b < n→c < n→r a b=true→r b c=true→r a c=true
theorem xA.least {n:Nat} {r:Nat→Nat→Bool} (h:xA n r) {y:Nat} (hy:y < n):∃ x,x < n∧lead r x=true∧r x y=true:=by
 cases hf:bO (r y) n with
 | none=>have:=ca hf y hy; rw [h.refl y hy] at this; cases this
 | some x =>
  obtain ⟨h1,h2,h3⟩:=cE hf
  refine ⟨x,h1,gS.2 ⟨h.refl x h1,fun b hb=>?_⟩,h.symm y x hy h1 h2⟩
  cases hb2:r x b with
  | false=>rfl
  | true=>have:=h.trans y x b hy h1 (by omega) h2 hb2; rw [h3 b hb] at this; cases this
theorem xA.wc {n:Nat} {r:Nat→Nat→Bool} (h:xA n r) {x y:Nat} (hx:x < n) (hy:y < n) (lx:lead r x=true) (ly:lead r y=true) (hr:r x y=true):x=y:=by
 rcases Nat.lt_trichotomy x y with h1 | h1 | h1
 ·have:=(gS.1 ly).2 x h1; rw [h.symm x y hx hy hr] at this; cases this
 ·exact h1
 have:=(gS.1 lx).2 y h1; rw [hr] at this; cases this
theorem xA.one {n:Nat} {r:Nat→Nat→Bool} (h:xA n r) {y:Nat} (hy:y < n):((mem n (lead r)).filter fun x=>r x y).length=1:=by
 obtain ⟨x,x1,x2,x3⟩:=h.least hy
 have:((mem n (lead r)).filter fun x=>r x y).length=[x].length:=gm ((List.nodup_range.filter _).filter _) (by simp) fun z=>by
  rw [List.mem_filter,bg,List.mem_singleton]
  constructor
  ·rintro ⟨⟨z1,z2⟩,z3⟩
   exact h.wc z1 x1 z2 x2 (h.trans z y x z1 hy x1 z3 (h.symm x y x1 hy x3))
  rintro rfl
  exact ⟨⟨x1,x2⟩,x3⟩
 exact this
theorem xA.sum {n:Nat} {r:Nat→Nat→Bool} (h:xA n r):((mem n (lead r)).map fun x=>(mem n (r x)).length).sum=n:=by
 have h1:=kB (fun x y=>r x y) (mem n (lead r)) (List.range n)
 have h2:((List.range n).map fun y=>((mem n (lead r)).filter fun x=>r x y).length).sum=(List.range n).length * 1:=jN fun y hy=>h.one (List.mem_range.1 hy)
 rw [List.length_range,Nat.mul_one] at h2
 exact h1.trans h2
theorem sa {l:List Nat} (h:l.Nodup) {a:Nat} (ha:a∈l):(l.filter fun w=>decide (a=w)).length=1:=by
 have:(l.filter fun w=>decide (a=w)).length=[a].length:=gm (h.filter _) (by simp) fun x=>by
  rw [List.mem_filter,decide_eq_true_eq,List.mem_singleton]
  constructor
  ·rintro ⟨_,h⟩; exact h.symm
  rintro rfl; exact ⟨ha,rfl⟩
 exact this
section
variable {n:Nat} {f:Nat→Nat→Nat} {e:Nat}
def bV (n:Nat) (f:Nat→Nat→Nat) (e x y:Nat):Bool:=decide (∃ a,a < n∧f (f (iv n f e a) x) a=y)
theorem dR {x y:Nat} : bV n f e x y=true↔∃ a,a < n∧f (f (iv n f e a) x) a=y:=by unfold bV; exact decide_eq_true_iff
theorem dF.vt (G:dF n f e) {x a b:Nat} (hx:x < n) (ha:a < n) (hb:b < n):f (f (iv n f e b) (f (f (iv n f e a) x) a)) b=f (f (iv n f e (f a b)) x) (f a b):=by
 have ia:=G.az ha
 have ib:=G.az hb
 have h1:=G.cl _ _ ia hx
 rw [G.bM ha hb,← G.assoc _ (f (iv n f e a) x) a ib h1 ha,G.assoc (f (iv n f e b) (f (iv n f e a) x)) a b (G.cl _ _ ib h1) ha hb,← G.assoc _ _ x ib ia hx]
theorem dF.fL (G:dF n f e):xA n (bV n f e) where
 refl a ha:=dR.2 ⟨e,G.el,by rw [G.gK,G.one_l a ha,G.one_r a ha]⟩
 symm a b ha hb h:=by
  obtain ⟨c,hc,rfl⟩:=dR.1 h
  refine dR.2 ⟨iv n f e c,G.az hc,?_⟩
  rw [G.vt ha hc (G.az hc),G.eC hc,G.gK,G.one_l a ha,G.one_r a ha]
 trans a b c ha hb hc h1 h2:=by
  obtain ⟨x,hx,rfl⟩:=dR.1 h1
  obtain ⟨y,hy,rfl⟩:=dR.1 h2
  exact dR.2 ⟨f x y,G.cl _ _ hx hy,(G.vt ha hx hy).symm⟩
theorem dF.pP (G:dF n f e) {x:Nat} (hx:x < n):(mem n (Dx f x)).length * (mem n (bV n f e x)).length=n:=by
 have hl:∀ a,a < n→f (f (iv n f e a) x) a < n:=fun a ha=>G.cl _ _ (G.cl _ _ (G.az ha) hx) ha
 have:=Ir (fun a y=>decide (f (f (iv n f e a) x) a=y)) (L1:=List.range n) (L2:=mem n (bV n f e x)) (c1:=1) (c2:=(mem n (Dx f x)).length) (fun a ha=>?_) fun y hy=>?_
 ·rw [List.length_range,Nat.mul_one] at this
  rw [Nat.mul_comm]; exact this.symm
 ·have a1:=List.mem_range.1 ha
  exact sa (List.nodup_range.filter _) (bg.2 ⟨hl a a1,dR.2 ⟨a,a1,rfl⟩⟩)
 obtain ⟨y1,y2⟩:=bg.1 hy
 obtain ⟨a0,a1,rfl⟩:=dR.1 y2
 rw [← List.length_map (f:=fun c=>f c a0) («as»:=mem n (Dx f x))]
 refine gm (List.nodup_range.filter _) (gQ (List.nodup_range.filter _) fun u hu v hv he=>G.oA a1 (bg.1 hu).1 (bg.1 hv).1 he) fun b=>?_
 rw [List.mem_filter,List.mem_range,decide_eq_true_eq,List.mem_map]
 have key:∀ b,b < n→(f (f (iv n f e b) x) b=f (f (iv n f e a0) x) a0↔f (f b (iv n f e a0)) x=f x (f b (iv n f e a0))):=by
  intro b hb
  have ib:=G.az hb
  have ia:=G.az a1
  have hbi:=G.cl _ _ hb ia
  constructor
  ·intro h
   have h1:f b (f (f (iv n f e b) x) b)=f b (f (f (iv n f e a0) x) a0):=by rw [h]
   rw [← G.assoc b _ b hb (G.cl _ _ ib hx) hb,← G.assoc b _ x hb ib hx,G.eC hb,G.one_l x hx,← G.assoc b _ a0 hb (G.cl _ _ ia hx) a1,← G.assoc b _ x hb ia hx] at h1
   have h2:f (f x b) (iv n f e a0)=f (f (f (f b (iv n f e a0)) x) a0) (iv n f e a0):=by rw [h1]
   rw [G.assoc _ a0 _ (G.cl _ _ hbi hx) a1 ia,G.eC a1,G.one_r _ (G.cl _ _ hbi hx),G.assoc x b _ hx hb ia] at h2
   exact h2.symm
  intro h
  refine G.gw hb (G.cl _ _ (G.cl _ _ ib hx) hb) (G.cl _ _ (G.cl _ _ ia hx) a1) ?_
  rw [← G.assoc b _ b hb (G.cl _ _ ib hx) hb,← G.assoc b _ x hb ib hx,G.eC hb,G.one_l x hx,← G.assoc b _ a0 hb (G.cl _ _ ia hx) a1,← G.assoc b _ x hb ia hx,h,G.assoc x _ a0 hx hbi a1,G.assoc b _ a0 hb ia a1,G.eb a1,G.one_r b hb]
 constructor
 ·rintro ⟨b1,b2⟩
  refine ⟨f b (iv n f e a0),bg.2 ⟨G.cl _ _ b1 (G.az a1),kZ.2 ((key b b1).1 b2)⟩,?_⟩
  show f (f b (iv n f e a0)) a0=b
  rw [G.assoc b _ a0 b1 (G.az a1) a1,G.eb a1,G.one_r b b1]
 rintro ⟨c,hc,rfl⟩
 obtain ⟨c1,c2⟩:=bg.1 hc
 rw [kZ] at c2
 have hca:=G.cl _ _ c1 a1
 refine ⟨hca,(key _ hca).2 ?_⟩
 rw [G.assoc c a0 _ c1 a1 (G.az a1),G.eC a1,G.one_r c c1]
 exact c2
end
open Go.Pv
section
variable {n:Nat} {f:Nat→Nat→Nat} {e:Nat}
def se (p:Nat):Prop:=2≤p∧p≤100∧∀ d,d < p→2≤d→¬ p % d=0
instance (p:Nat):Decidable (se p):=by unfold se; infer_instance
theorem se.div {p:Nat} (h:se p) {d:Nat} (hd:d ∣ p):d=1∨d=p:=by
 obtain ⟨h1,_,h3⟩:=h
 have hp:=Nat.pos_of_dvd_of_pos hd (by omega)
 have hl:=Nat.le_of_dvd (by omega) hd
 by_cases hd1:d=1
 ·exact .inl hd1
 by_cases hd2:d=p
 ·exact .inr hd2
 exact absurd (Nat.mod_eq_zero_of_dvd hd) (h3 d (by omega) (by omega))
theorem se.He {p:Nat} (h:se p) {s:Nat} (hs:¬ p ∣ s):Nat.gcd p s=1:=by
 rcases h.div (Nat.gcd_dvd_left p s) with h1 | h1
 ·exact h1
 exact absurd (h1 ▸ Nat.gcd_dvd_right p s) hs
theorem se.part {p:Nat} (h:se p) {k d:Nat} (hd:d ∣ p ^ k) (h1:d ≠ 1):p ∣ d:=by
 by_cases hp:p ∣ d
 ·exact hp
 exfalso
 have hc:Nat.Coprime d (p ^ k):=Nat.Coprime.pow_right _ (Nat.Coprime.symm (h.He hp))
 have:d ∣ Nat.gcd d (p ^ k):=Nat.dvd_gcd (Nat.dvd_refl d) hd
 rw [hc] at this
 exact h1 (Nat.dvd_one.1 this)
end
open Go.Pv
def Bb (n:Nat) (f:Nat→Nat→Nat) (e x a:Nat):Nat:=f (f (iv n f e a) x) a
section
variable {n:Nat} {f:Nat→Nat→Nat} {e:Nat}
theorem dF.DQ (G:dF n f e) {x a:Nat} (hx:x < n) (ha:a < n):Bb n f e x a < n:=G.cl _ _ (G.cl _ _ (G.az ha) hx) ha
theorem dF.Bo (G:dF n f e) {x a:Nat} (hx:x < n) (ha:a < n):f (iv n f e a) (f x a)=Bb n f e x a:=(G.assoc _ _ _ (G.az ha) hx ha).symm
end
open Go.Pv
theorem Ei {n e:Nat} {m:List Int} (h:GT n m n e) {x a:Nat} (hx:x < n) (ha:a < n):cL Tryd.prog 74 [gp n m,.int .i64 x,.int .i64 a] (.int .i64 (Bb n (op m n) e x a:Nat)):=by
 have G:=h.2.2
 have ia:=G.az ha
 refine aM ae Tryd.func74 rfl (by kernel_rfl) (by rw [Tryd.ntmps74]; exact Nat.le_add_left 3 _) ?_; rw [Tryd.ntmps74]
 refine qm ?_
 refine ab fun K hK=>aa ae ?_
 simp only [ak,fl,gp,aj,simprocAttr]
 refine af ?_ (hK _ ?_)<;>clear hK K
 ·first|exact trivial|omega|(simp only [ah] at *; omega)|(simp [ah] at *; omega)|simp_all
 refine qa (qm ?_)
 refine bf mixed (by kernel_rfl) fun K hK=>aa ae ?_
 simp only [ak,fl,gp,aj,simprocAttr]
 refine ao trivial (al (rA h ha) rfl rfl rfl (by simp only [ay,Nat.reduceLT]) (by repeat (first|exact trivial|constructor)) (aa ae ?_))
 simp only [ak,fl,gp,aj,simprocAttr]
 refine ao trivial (al (nj h.2.1 ia hx) rfl rfl rfl (by simp only [ay,Nat.reduceLT]) (by repeat (first|exact trivial|constructor)) (aa ae ?_))
 simp only [ak,fl,gp,aj,simprocAttr]
 refine ao trivial (al (nj h.2.1 (G.cl _ _ ia hx) ha) rfl rfl rfl (by simp only [ay,Nat.reduceLT]) (by repeat (first|exact trivial|constructor)) (aa ae ?_))
 simp only [ak,fl,gp,aj,simprocAttr]
 refine af ?_ (hK _ ?_)<;>clear hK K
 ·first|exact trivial|omega|(simp only [ah] at *; omega)|(simp [ah] at *; omega)|simp_all
 refine qa (qk ?_)
 simp only [Tryd.results74,cy,ak,fl,gp,aj,simprocAttr]
 all_goals (rfl)
theorem Iu {n e:Nat} {m:List Int} (h:GT n m n e) {x a:Nat} (hx:x < n) (ha:a < n):cL Tryd.prog 87 [gp n m,.int .i64 x,.int .i64 a] (.int .i64 (Bb n (op m n) e x a:Nat)):=by
 have G:=h.2.2
 have ia:=G.az ha
 refine aM ae Tryd.func87 rfl (by kernel_rfl) (by rw [Tryd.ntmps87]; exact Nat.le_add_left 3 _) ?_; rw [Tryd.ntmps87]
 refine qm ?_
 refine ab fun K hK=>aa ae ?_
 simp only [ak,fl,gp,aj,simprocAttr]
 refine af ?_ (hK _ ?_)<;>clear hK K
 ·first|exact trivial|omega|(simp only [ah] at *; omega)|(simp [ah] at *; omega)|simp_all
 refine qa (qm ?_)
 refine bf mixed (by kernel_rfl) fun K hK=>aa ae ?_
 simp only [ak,fl,gp,aj,simprocAttr]
 refine ao trivial (al (Ig h.2.1 ha) rfl rfl rfl (by simp only [ay,Nat.reduceLT]) (by repeat (first|exact trivial|constructor)) (aa ae ?_))
 simp only [ak,fl,gp,aj,simprocAttr,h.iI ha]
 refine ao trivial (al (xm h.2.1 hx ha) rfl rfl rfl (by simp only [ay,Nat.reduceLT]) (by repeat (first|exact trivial|constructor)) (aa ae ?_))
 simp only [ak,fl,gp,aj,simprocAttr]
 refine ao trivial (al (xm h.2.1 ia (G.cl _ _ hx ha)) rfl rfl rfl (by simp only [ay,Nat.reduceLT]) (by repeat (first|exact trivial|constructor)) (aa ae ?_))
 simp only [ak,fl,gp,aj,simprocAttr]
 refine af ?_ (hK _ ?_)<;>clear hK K
 ·first|exact trivial|omega|(simp only [ah] at *; omega)|(simp [ah] at *; omega)|simp_all
 refine qa (qk ?_)
 simp only [Tryd.results87,cy,ak,fl,gp,aj,simprocAttr]
 all_goals (rw [G.Bo hx ha])
def gJ (n:Nat) (r:Nat→Nat→Bool) (a:Nat):List (List Int):=((List.range a).filter (lead r)).map fun x=>dI n (r x)
def eu (n:Nat) (r:Nat→Nat→Bool):List (List Int):=gJ n r n
theorem pH (n:Nat) (r:Nat→Nat→Bool) (a:Nat):gJ n r (a + 1)=gJ n r a++if lead r a=true then [dI n (r a)] else []:=by
 unfold gJ
 rw [List.range_succ,List.filter_append,List.map_append]
 congr 1
 cases h:lead r a<;>simp [h]
theorem iY (n:Nat) (r:Nat→Nat→Bool) (a:Nat):(gJ n r a).length≤a:=by
 unfold gJ
 rw [List.length_map]
 have:=List.length_filter_le (lead r) (List.range a)
 rwa [List.length_range] at this
theorem iB {n:Nat} {r:Nat→Nat→Bool} {i:Nat} (hi:i < (eu n r).length):∃ x,x < n∧lead r x=true∧(eu n r).getD i []=dI n (r x)∧(mem n (lead r)).getD i 0=x:=by
 unfold eu gJ at hi ⊢
 rw [List.length_map] at hi
 have hm:=List.getElem_mem hi
 obtain ⟨h1,h2⟩:=List.mem_filter.1 hm
 refine ⟨_,List.mem_range.1 h1,h2,?_,?_⟩
 ·simp [List.getD,List.getElem?_eq_getElem hi]
 unfold mem
 simp [List.getD,List.getElem?_eq_getElem hi]
theorem zZ {n:Nat} {p:Nat→Bool} {a:Nat} (ha:a < n) (h1:p a=true) (h2:∀ b,b < a→p b=false):0 < (dI n p).length∧(dI n p).getD 0 0=(a:Int):=by
 have:dI n p=(a:Int) :: (jS n fun i=>p i && !decide (i=a)).map (fun (a:Nat)=>(a:Int)):=by
  unfold dI
  rw [pS ha h1 h2]; rfl
 rw [this]
 exact ⟨by simp,rfl⟩
theorem AF {n:Nat} {p:Nat→Bool} {a:Nat} (ha:a < n) (h0:0 < (dI n p).length) (h:(dI n p).getD 0 0=(a:Int)):p a=true∧∀ b,b < a→p b=false:=by
 obtain ⟨x,x1,x2,x3⟩:=qY h0
 have:x=a:=by omega
 subst this
 refine ⟨x2,fun b hb=>?_⟩
 cases hpb:p b with
 | false=>rfl
 | true =>
  exfalso
  obtain ⟨i,i1,i2⟩:=yZ (n:=n) (p:=p) (show b < n by omega) hpb
  rcases Nat.eq_zero_or_pos i with h' | h'
  ·subst h'; omega
  have:=sr (n:=n) (p:=p) h' i1
  omega
theorem jG {n:Nat} {r:Nat→Nat→Bool} {a:Nat} (ha:a < n):lead r a=true↔0 < (dI n (r a)).length∧(dI n (r a)).getD 0 0=(a:Int):=by
 rw [gS]
 exact ⟨fun h=>zZ ha h.1 h.2,fun h=>AF ha h.1 h.2⟩
theorem xP (F:FuncId) (caps:List PV) (a b:Nat) (v:Bool) (hF:cL Tryd.prog F (.int .i64 a :: .int .i64 b :: caps) (.bool v)):cL Tryd.prog 115 [.int .i64 b,.ptr [.fn F caps],.ptr [.int .i64 a]] (.bool v):=by
 refine aM ae Tryd.func115 rfl (by kernel_rfl) (by rw [Tryd.ntmps115]; exact Nat.le_add_left 3 _) ?_; rw [Tryd.ntmps115]
 refine qm ?_
 refine ab fun K hK=>aa ae ?_
 simp only [ak,fl,gp,aj,simprocAttr]
 refine af trivial (hK _ ?_)<;>clear hK K
 refine qa (qm ?_)
 refine ab fun K hK=>aa ae ?_
 simp only [ak,fl,gp,aj,simprocAttr]
 refine ao trivial (al (hF) rfl rfl rfl (by simp only [ay,Nat.reduceLT]) (by repeat (first|exact trivial|constructor)) (aa ae ?_))
 simp only [ak,fl,gp,aj,simprocAttr]
 refine af ?_ (hK _ ?_)<;>clear hK K
 ·first|exact trivial|omega|(simp only [ah] at *; omega)|(simp [ah] at *; omega)|simp_all
 refine qa (qk ?_)
 simp only [Tryd.results115,cy,ak,fl,gp,aj,simprocAttr]
 all_goals (rfl)
theorem GD {n:Nat} {r:Nat→Nat→Bool} {a:Nat} (ha:a < n):lead r a=true∨(lead r a=false∧(dI n (r a)).length=0)∨(lead r a=false∧0 < (dI n (r a)).length∧¬ (dI n (r a)).getD 0 0=(a:Int)):=by
 cases h:lead r a with
 | true=>exact .inl rfl
 | false =>
  right
  rcases Nat.eq_zero_or_pos (dI n (r a)).length with h0 | h0
  ·exact .inl ⟨rfl,h0⟩
  refine .inr ⟨rfl,h0,fun he=>?_⟩
  have:=(jG ha).2 ⟨h0,he⟩
  rw [h] at this; cases this
theorem Ac (n:Nat) (m:List Int) (F:FuncId) (caps:List PV) (r:Nat→Nat→Bool) (hn:n≤1000000) (hF:∀ a b,a < n→b < n→cL Tryd.prog F (.int .i64 a :: .int .i64 b :: caps) (.bool (r a b))):cL Tryd.prog 85 [gp n m,.fn F caps] (.list (ll (eu n r))):=by
 refine aM ae Tryd.func85 rfl (by kernel_rfl) (by rw [Tryd.ntmps85]; exact Nat.le_add_left 2 _) ?_; rw [Tryd.ntmps85]
 refine qm ?_
 refine ab fun K hK=>aa ae ?_
 simp only [ak,fl,gp,aj,simprocAttr]
 refine af ?_ (hK _ ?_)<;>clear hK K
 ·first|exact trivial|omega|(simp only [ah] at *; omega)|(simp [ah] at *; omega)|simp_all
 refine qa (qm ?_)
 refine ab fun K hK=>aa ae ?_
 simp only [ak,fl,gp,aj,simprocAttr]
 refine af trivial (hK _ ?_)<;>clear hK K
 refine qa (qm (qm ?_))
 refine cJ 1 rfl rfl ?_
 simp only [aE]
 refine bT 5 rfl ?_
 refine ab fun K hK=>aa ae ?_
 simp only [ak,fl,gp,aj,simprocAttr]
 refine af ?_ (hK _ ?_)<;>clear hK K
 ·first|exact trivial|omega|(simp only [ah] at *; omega)|(simp [ah] at *; omega)|simp_all
 refine qa (ql ?_)
 refine aA (ι:=Nat) (fun a=>⟨33,[(2,.ptr 0 0),(3,.ptr 1 0),(5,.sl 2 0 (gJ n r a).length),(6,.ptr 3 0)],[.own [.p (.int .i64 n),.p (.list (il m))],.fro [.fn F caps],.own (bE (ll (gJ n r a))),.own [.p (.int .i64 a)]]⟩) (fun a=>a≤n) (fun a=>n - a) 0 (Nat.zero_le _) [0,1,2,3] (by simp only [leq,bh,ak,fl,gp,aj,simprocAttr,bk,cB,ef]<;>first|trivial|(simp [gJ,ll,bE]; done)) fun a ha=>?_
 have hlen:=iY n r a
 have hll:=au (gJ n r a)
 refine qm (qm ?_)
 refine ab fun K hK=>aa ae ?_
 simp only [ak,fl,gp,aj,simprocAttr]
 refine af ?_ (hK _ ?_)<;>clear hK K
 ·first|exact trivial|omega|(simp only [ah] at *; omega)|(simp [ah] at *; omega)|simp_all
 refine qa ?_
 refine an rfl (fun hC1=>?_) (fun hC1=>?_)
 ·(try simp only [aI] at hC1)
  have hlt:a < n:=by omega
  have hs:=pH n r a
  have htl:=j6 n (r a)
  refine qh (qa (qm (ql (qm ?_))))
  refine cJ 3 rfl rfl ?_
  simp only [aE]
  refine ab fun K hK=>aa ae ?_
  simp only [ak,fl,gp,aj,simprocAttr]
  refine ao trivial (al (C2 n m _ _ (r a) hn (fun b hb=>xP F caps a b (r a b) (hF a b hlt hb))) rfl rfl rfl (by simp only [ay,Nat.reduceLT]) (by repeat (first|exact trivial|constructor)) (aa ae ?_))
  simp only [ak,fl,gp,aj,simprocAttr]
  refine af ?_ (hK _ ?_)<;>clear hK K
  ·first|exact trivial|omega|(simp only [ah] at *; omega)|(simp [ah] at *; omega)|simp_all
  refine qa (qm ?_)
  rcases GD (r:=r) hlt with hld | ⟨hld,h0⟩ | ⟨hld,h0,h1⟩
  ·rw [if_pos hld] at hs
   obtain ⟨h0,h1⟩:=(jG hlt).1 hld
   refine bf mixed (by kernel_rfl) fun K hK=>aa ae ?_
   simp only [ak,fl,gp,aj,simprocAttr,aJ,decide_eq_true (show ((dI n (r a)).length:Int) > 0 by omega),aW h0,h1,decide_eq_true (show ((a:Nat):Int)=(a:Nat) from rfl)]
   refine af ?_ (hK _ ?_)<;>clear hK K
   ·first|exact trivial|omega|(simp only [ah] at *; omega)|(simp [ah] at *; omega)|simp_all
   refine qa ?_
   refine an rfl (fun hC2=>?_) (fun hC2=>?_)
   ·(try simp only [aI] at hC2)
    refine ab fun K hK=>aa ae ?_
    simp only [ak,fl,gp,aj,simprocAttr,bk,oB,cB]
    refine af ?_ (hK _ ?_)<;>clear hK K
    ·first|exact trivial|omega|(simp only [ah] at *; omega)|(simp [ah] at *; omega)|simp_all
    refine qd (qa (qm (qm ?_)))
    refine ab fun K hK=>aa ae ?_
    simp only [ak,fl,gp,aj,simprocAttr]
    refine af ?_ (hK _ ?_)<;>clear hK K
    ·first|exact trivial|omega|(simp only [ah] at *; omega)|(simp [ah] at *; omega)|simp_all
    refine qa ?_
    refine ab fun K hK=>aa ae ?_
    simp only [ak,fl,gp,aj,simprocAttr]
    refine af ?_ (hK _ ?_)<;>clear hK K
    ·first|exact trivial|omega|(simp only [ah] at *; omega)|(simp [ah] at *; omega)|simp_all
    refine qa ?_
    refine ab fun K hK=>aa ae ?_
    simp only [ak,fl,gp,aj,simprocAttr]
    refine af ?_ (hK _ ?_)<;>clear hK K
    ·first|exact trivial|omega|(simp only [ah] at *; omega)|(simp [ah] at *; omega)|simp_all
    refine qa ?_
    refine ⟨a + 1,[0,1,4,5],by omega,by omega,?_⟩
    rw [hs]
    simp only [leq,bh,ak,fl,gp,aj,simprocAttr,bk,cB,ef]<;>first|trivial|omega|(simp [ll]; done)
   cases hC2
  ·rw [if_neg (by rw [hld]; simp),List.append_nil] at hs
   refine bf mixed (by kernel_rfl) fun K hK=>aa ae ?_
   simp only [ak,fl,gp,aj,simprocAttr,aJ,decide_eq_false (show ¬ ((dI n (r a)).length:Int) > 0 by omega)]
   refine af trivial (hK _ ?_)<;>clear hK K
   refine qa ?_
   refine an rfl (fun hC2=>?_) (fun hC2=>?_)
   ·cases hC2
   refine qh (qd (qa (qm (qm ?_))))
   refine ab fun K hK=>aa ae ?_
   simp only [ak,fl,gp,aj,simprocAttr]
   refine af ?_ (hK _ ?_)<;>clear hK K
   ·first|exact trivial|omega|(simp only [ah] at *; omega)|(simp [ah] at *; omega)|simp_all
   refine qa ?_
   refine ab fun K hK=>aa ae ?_
   simp only [ak,fl,gp,aj,simprocAttr]
   refine af ?_ (hK _ ?_)<;>clear hK K
   ·first|exact trivial|omega|(simp only [ah] at *; omega)|(simp [ah] at *; omega)|simp_all
   refine qa ?_
   refine ab fun K hK=>aa ae ?_
   simp only [ak,fl,gp,aj,simprocAttr]
   refine af ?_ (hK _ ?_)<;>clear hK K
   ·first|exact trivial|omega|(simp only [ah] at *; omega)|(simp [ah] at *; omega)|simp_all
   refine qa ?_
   refine ⟨a + 1,[0,1,2,4],by omega,by omega,?_⟩
   rw [hs]
   simp only [leq,bh,ak,fl,gp,aj,simprocAttr,bk,cB,ef]<;>first|trivial|omega
  rw [if_neg (by rw [hld]; simp),List.append_nil] at hs
  refine bf mixed (by kernel_rfl) fun K hK=>aa ae ?_
  simp only [ak,fl,gp,aj,simprocAttr,aJ,decide_eq_true (show ((dI n (r a)).length:Int) > 0 by omega),aW h0,decide_eq_false h1]
  refine af ?_ (hK _ ?_)<;>clear hK K
  ·first|exact trivial|omega|(simp only [ah] at *; omega)|(simp [ah] at *; omega)|simp_all
  refine qa ?_
  refine an rfl (fun hC2=>?_) (fun hC2=>?_)
  ·cases hC2
  (try simp only [aI] at hC2)
  refine qh (qd (qa (qm (qm ?_))))
  refine ab fun K hK=>aa ae ?_
  simp only [ak,fl,gp,aj,simprocAttr]
  refine af ?_ (hK _ ?_)<;>clear hK K
  ·first|exact trivial|omega|(simp only [ah] at *; omega)|(simp [ah] at *; omega)|simp_all
  refine qa ?_
  refine ab fun K hK=>aa ae ?_
  simp only [ak,fl,gp,aj,simprocAttr]
  refine af ?_ (hK _ ?_)<;>clear hK K
  ·first|exact trivial|omega|(simp only [ah] at *; omega)|(simp [ah] at *; omega)|simp_all
  refine qa ?_
  refine ab fun K hK=>aa ae ?_
  simp only [ak,fl,gp,aj,simprocAttr]
  refine af ?_ (hK _ ?_)<;>clear hK K
  ·first|exact trivial|omega|(simp only [ah] at *; omega)|(simp [ah] at *; omega)|simp_all
  refine qa ?_
  refine ⟨a + 1,[0,1,2,4],by omega,by omega,?_⟩
  rw [hs]
  simp only [leq,bh,ak,fl,gp,aj,simprocAttr,bk,cB,ef]<;>first|trivial|omega
 (try simp only [aI] at hC1)
 have han:a=n:=by omega
 subst han
 rw [← au (gJ a r a)]
 refine oC 5 2 (js _) rfl rfl ?_
 refine qj (qc (qc (qf (qa (qm ?_)))))
 refine ab fun K hK=>aa ae ?_
 simp only [ak,fl,gp,aj,simprocAttr]
 refine af trivial (hK _ ?_)<;>clear hK K
 refine qa (qk ?_)
 simp only [Tryd.results85,cy,ak,fl,gp,aj,simprocAttr]
 all_goals (rfl)
theorem Ar {n e:Nat} {m:List Int} (h:GT n m n e) {a b:Nat} (ha:a < n) (hb' : b < n):cL Tryd.prog 86 [.int .i64 a,.int .i64 b,.ptr [.int .i64 n,.list (il m)]] (.bool (bV n (op m n) e a b)):=by
 have hb:=h.2.1.big
 refine aM ae Tryd.func86 rfl (by kernel_rfl) (by rw [Tryd.ntmps86]; exact Nat.le_add_left 3 _) ?_; rw [Tryd.ntmps86]
 refine qm ?_
 refine ab fun K hK=>aa ae ?_
 simp only [ak,fl,gp,aj,simprocAttr]
 refine af trivial (hK _ ?_)<;>clear hK K
 refine qa (qm (qm ?_))
 refine ab fun K hK=>aa ae ?_
 simp only [ak,fl,gp,aj,simprocAttr]
 refine af trivial (hK _ ?_)<;>clear hK K
 refine qa (ql ?_)
 refine aA (ι:=Nat) (fun x=>⟨19,[(0,.p (.int .i64 a)),(1,.p (.int .i64 b)),(2,.p (.ptr [.int .i64 n,.list (il m)])),(6,.p (.int .i64 x))],[]⟩) (fun x=>x≤n∧∀ c,c < x→¬ Bb n (op m n) e a c=b) (fun x=>n - x) 0 ⟨Nat.zero_le _,fun j hj=>by omega⟩ [] (by simp only [leq,bh,ak,fl,gp,aj,simprocAttr]<;>trivial) fun x hx=>?_
 obtain ⟨hx1,hx2⟩:=hx
 refine qm (qm ?_)
 refine ab fun K hK=>aa ae ?_
 simp only [ak,fl,gp,aj,simprocAttr]
 refine af ?_ (hK _ ?_)<;>clear hK K
 ·first|exact trivial|omega|(simp only [ah] at *; omega)|(simp [ah] at *; omega)|simp_all
 refine qa ?_
 refine an rfl (fun hC1=>?_) (fun hC1=>?_)
 ·(try simp only [aI] at hC1)
  have hlt:x < n:=by omega
  refine qh (qa (qm (ql (qm ?_))))
  refine ab fun K hK=>aa ae ?_
  simp only [ak,fl,gp,aj,simprocAttr]
  refine ao trivial (al (Iu h ha hlt) rfl rfl rfl (by simp only [ay,Nat.reduceLT]) (by repeat (first|exact trivial|constructor)) (aa ae ?_))
  simp only [ak,fl,gp,aj,simprocAttr]
  refine af ?_ (hK _ ?_)<;>clear hK K
  ·first|exact trivial|omega|(simp only [ah] at *; omega)|(simp [ah] at *; omega)|simp_all
  refine qa ?_
  refine an rfl (fun hC2=>?_) (fun hC2=>?_)
  ·(try simp only [aI] at hC2)
   refine qm ?_
   refine ab fun K hK=>aa ae ?_
   simp only [ak,fl,gp,aj,simprocAttr]
   refine af trivial (hK _ ?_)<;>clear hK K
   refine qa (qk (qe (qb (qb (qe (qb ?_))))))
   simp only [Tryd.results86,cy,ak,fl,gp,aj,simprocAttr]
   all_goals (rw [eq_comm,dR]; exact ⟨x,hlt,(show Bb n (op m n) e a x=b by omega)⟩)
  (try simp only [aI] at hC2)
  refine qh (qd (qa ?_))
  refine ab fun K hK=>aa ae ?_
  simp only [ak,fl,gp,aj,simprocAttr]
  refine af ?_ (hK _ ?_)<;>clear hK K
  ·first|exact trivial|omega|(simp only [ah] at *; omega)|(simp [ah] at *; omega)|simp_all
  refine qa ?_
  refine ⟨x + 1,[],⟨by omega,fun j hj=>?_⟩,by omega,?_⟩
  ·by_cases hj2:j=x
   ·subst hj2; omega
   exact hx2 j (by omega)
  simp only [leq,bh,ak,fl,gp,aj,simprocAttr]<;>omega
 (try simp only [aI] at hC1)
 refine qj (qc (qc (qf (qa (qm ?_)))))
 refine ab fun K hK=>aa ae ?_
 simp only [ak,fl,gp,aj,simprocAttr]
 refine af trivial (hK _ ?_)<;>clear hK K
 refine qa (qk ?_)
 simp only [Tryd.results86,cy,ak,fl,gp,aj,simprocAttr]
 rw [eq_comm]
 cases hv:bV n (op m n) e a b with
 | false=>rfl
 | true =>
  obtain ⟨c,c1,c2⟩:=dR.1 hv
  exact absurd c2 (hx2 c (by omega))
theorem jn {n e:Nat} {m:List Int} (h:GT n m n e):cL Tryd.prog 53 [gp n m] (.list (ll (eu n (bV n (op m n) e)))):=by
 have hb:=h.2.1.big
 refine aM ae Tryd.func53 rfl (by kernel_rfl) (by rw [Tryd.ntmps53]; exact Nat.le_add_left 1 _) ?_; rw [Tryd.ntmps53]
 refine qm ?_
 refine ab fun K hK=>aa ae ?_
 simp only [ak,fl,gp,aj,simprocAttr]
 refine af ?_ (hK _ ?_)<;>clear hK K
 ·first|exact trivial|omega|(simp only [ah] at *; omega)|(simp [ah] at *; omega)|simp_all
 refine qa (qm ?_)
 refine cJ 0 rfl rfl ?_
 simp only [aE]
 refine ab fun K hK=>aa ae ?_
 simp only [ak,fl,gp,aj,simprocAttr]
 refine ao trivial (al (Ac n m _ _ (bV n (op m n) e) (by omega) (fun a b ha hb'=>Ar h ha hb')) rfl rfl rfl (by simp only [ay,Nat.reduceLT]) (by repeat (first|exact trivial|constructor)) (aa ae ?_))
 simp only [ak,fl,gp,aj,simprocAttr]
 refine af ?_ (hK _ ?_)<;>clear hK K
 ·first|exact trivial|omega|(simp only [ah] at *; omega)|(simp [ah] at *; omega)|simp_all
 refine qa (qk ?_)
 simp only [Tryd.results53,cy,ak,fl,gp,aj,simprocAttr]
 all_goals (rfl)
theorem F4 (n:Nat) (p q:Nat→Bool):bo n p ||| bo n q=bo n fun a=>p a || q a:=by
 refine Nat.eq_of_testBit_eq fun i=>?_
 rw [Nat.testBit_or,jm,jm,jm]
 cases decide (i < n)<;>simp
theorem DW {n:Nat} {p:Nat→Bool} {c:Nat} (hc:c < n):bo n p ||| 2 ^ c=bo n (Hl p c):=by
 refine Nat.eq_of_testBit_eq fun i=>?_
 rw [Es,jm,jm]
 unfold Hl
 by_cases hi:i=c
 ·subst hi; simp [hc]
 have h1:decide (c=i)=false:=by simp; omega
 have h2:decide (i=c)=false:=by simpa using hi
 rw [h1,h2]; simp
def ja (r:Nat→Nat→Bool) (x y:Nat):Bool:=decide (∃ z,z < x∧r z y=true)
def sp (n:Nat) (f:Nat→Nat→Nat) (e x a y:Nat):Bool:=decide (∃ b,b < a∧Bb n f e x b=y)
theorem BY (n:Nat) (f:Nat→Nat→Nat) (e x a:Nat):sp n f e x (a + 1)=Hl (sp n f e x a) (Bb n f e x a):=by
 funext y
 unfold sp Hl
 rw [← Bool.decide_or]
 refine decide_eq_decide.2 ⟨?_,?_⟩
 ·rintro ⟨b,hb,rfl⟩
  by_cases h:b=a
  ·subst h; exact .inr rfl
  exact .inl ⟨b,by omega,rfl⟩
 rintro (⟨b,hb,rfl⟩ | rfl)
 ·exact ⟨b,by omega,rfl⟩
 exact ⟨a,by omega,rfl⟩
theorem wP (n:Nat):bo n (fun _=>false)=0:=by
 refine Nat.eq_of_testBit_eq fun i=>?_
 rw [jm]; simp
set_option maxHeartbeats 2000000 in
theorem pV {n e:Nat} {m:List Int} (h:GT n m n e):cL Tryd.prog 40 [gp n m] (.list (ll (eu n (bV n (op m n) e)))):=by
 have G:=h.2.2
 have hb:=h.2.1.big
 have E:=G.fL
 have hz:bo n (ja (bV n (op m n) e) 0)=0:=by
  have h1:bo n (ja (bV n (op m n) e) 0)=bo n fun _=>false:=lq fun a _=>by simp [ja]
  rw [h1,wP]
 have hsp0:∀ x,bo n (sp n (op m n) e x 0)=0:=fun x=>by
  have h1:bo n (sp n (op m n) e x 0)=bo n fun _=>false:=lq fun a _=>by simp [sp]
  rw [h1,wP]
 have hlead:∀ x,x < n→lead (bV n (op m n) e) x = !ja (bV n (op m n) e) x x:=by
  intro x hx
  rw [Bool.eq_iff_iff,gS,Bool.not_eq_true']
  unfold ja
  rw [decide_eq_false_iff_not]
  constructor
  ·rintro ⟨_,h2⟩ ⟨z,z1,z2⟩
   have:=E.symm z x (by omega) hx z2
   rw [h2 z z1] at this; cases this
  intro h1
  refine ⟨E.refl x hx,fun b hb'=>?_⟩
  cases hv:bV n (op m n) e x b with
  | false=>rfl
  | true=>exact absurd ⟨b,hb',E.symm x b hx (by omega) hv⟩ h1
 refine aM ae Tryd.func40 rfl (by kernel_rfl) (by rw [Tryd.ntmps40]; exact Nat.le_add_left 1 _) ?_; rw [Tryd.ntmps40]
 refine qm ?_
 refine ab fun K hK=>aa ae ?_
 simp only [ak,fl,gp,aj,simprocAttr]
 refine af ?_ (hK _ ?_)<;>clear hK K
 ·first|exact trivial|omega|(simp only [ah] at *; omega)|(simp [ah] at *; omega)|simp_all
 refine qa (qm ?_)
 refine ab fun K hK=>aa ae ?_
 simp only [ak,fl,gp,aj,simprocAttr]
 refine af trivial (hK _ ?_)<;>clear hK K
 refine qa (qm ?_)
 refine bT 3 rfl ?_
 refine ab fun K hK=>aa ae ?_
 simp only [ak,fl,gp,aj,simprocAttr]
 refine af trivial (hK _ ?_)<;>clear hK K
 refine qa (qm (qm ?_))
 refine ab fun K hK=>aa ae ?_
 simp only [ak,fl,gp,aj,simprocAttr]
 refine af ?_ (hK _ ?_)<;>clear hK K
 ·first|exact trivial|omega|(simp only [ah] at *; omega)|(simp [ah] at *; omega)|simp_all
 refine qa (ql ?_)
 refine aA (ι:=Nat) (fun x=>⟨39,[(1,.ptr 0 0),(3,.sl 1 0 (gJ n (bV n (op m n) e) x).length),(4,.p (.int .u64 (bo n (ja (bV n (op m n) e) x)))),(9,.p (.int .i64 n)),(10,.p (.int .i64 x))],[.own [.p (.int .i64 n),.p (.list (il m))],.own (bE (ll (gJ n (bV n (op m n) e) x)))]⟩) (fun x=>x≤n) (fun x=>n - x) 0 (Nat.zero_le _) [0,1] (by simp only [leq,bh,ak,fl,gp,aj,simprocAttr,bk,cB,ef]<;>first|trivial|(simp [gJ,ll,bE,hz]; done)|(simp [gJ,ll,bE]; done)) fun x hx=>?_
 have hlen:=iY n (bV n (op m n) e) x
 have hll:=au (gJ n (bV n (op m n) e) x)
 refine qm ?_
 refine ab fun K hK=>aa ae ?_
 simp only [ak,fl,gp,aj,simprocAttr]
 refine af trivial (hK _ ?_)<;>clear hK K
 refine qa (qm ?_)
 refine an rfl (fun hC1=>?_) (fun hC1=>?_)
 ·(try simp only [aI] at hC1)
  have hlt:x < n:=by omega
  have hs:=pH n (bV n (op m n) e) x
  have hhb:(bo n (ja (bV n (op m n) e) x)).testBit x=ja (bV n (op m n) e) x x:=by rw [jm]; simp [hlt]
  refine qh (qa (qm (ql (qm ?_))))
  refine ab fun K hK=>aa ae ?_
  simp only [ak,fl,gp,aj,simprocAttr]
  refine af trivial (hK _ ?_)<;>clear hK K
  refine qa (qm (qm ?_))
  refine ab fun K hK=>aa ae ?_
  simp only [ak,fl,gp,aj,simprocAttr]
  refine ao trivial (al (Gz (bo n (ja (bV n (op m n) e) x)) x (nS hb _) (by omega)) rfl rfl rfl (by simp only [ay,Nat.reduceLT]) (by repeat (first|exact trivial|constructor)) (aa ae ?_))
  simp only [ak,fl,gp,aj,simprocAttr,hhb]
  refine af trivial (hK _ ?_)<;>clear hK K
  refine qa ?_
  refine an rfl (fun hC2=>?_) (fun hC2=>?_)
  ·(try simp only [aI] at hC2)
   have hld:lead (bV n (op m n) e) x=false:=by rw [hlead x hlt,hC2]; rfl
   rw [if_neg (by rw [hld]; simp),List.append_nil] at hs
   have hh:bo n (ja (bV n (op m n) e) (x + 1))=bo n (ja (bV n (op m n) e) x):=lq fun y hy=>by
    unfold ja at hC2 ⊢
    rw [decide_eq_true_eq] at hC2
    refine decide_eq_decide.2 ⟨?_,fun ⟨z,z1,z2⟩=>⟨z,by omega,z2⟩⟩
    rintro ⟨z,z1,z2⟩
    by_cases hzx:z=x
    ·subst hzx
     obtain ⟨w,w1,w2⟩:=hC2
     exact ⟨w,w1,E.trans w z y (by omega) hlt hy w2 z2⟩
    exact ⟨z,by omega,z2⟩
   refine qj (qc (qf (qa ?_)))
   refine ab fun K hK=>aa ae ?_
   simp only [ak,fl,gp,aj,simprocAttr]
   refine af ?_ (hK _ ?_)<;>clear hK K
   ·first|exact trivial|omega|(simp only [ah] at *; omega)|(simp [ah] at *; omega)|simp_all
   refine qa ?_
   refine ⟨x + 1,[0,1],by omega,by omega,?_⟩
   rw [hs,hh]
   simp only [leq,bh,ak,fl,gp,aj,simprocAttr,bk,cB,ef]<;>first|trivial|omega
  (try simp only [aI] at hC2)
  have hld:lead (bV n (op m n) e) x=true:=by rw [hlead x hlt,hC2]; rfl
  rw [if_pos hld] at hs
  refine qh (qa (qm ?_))
  refine ab fun K hK=>aa ae ?_
  simp only [ak,fl,gp,aj,simprocAttr]
  refine af trivial (hK _ ?_)<;>clear hK K
  refine qa (qm (qm ?_))
  refine ab fun K hK=>aa ae ?_
  simp only [ak,fl,gp,aj,simprocAttr]
  refine af ?_ (hK _ ?_)<;>clear hK K
  ·first|exact trivial|omega|(simp only [ah] at *; omega)|(simp [ah] at *; omega)|simp_all
  refine qa (ql ?_)
  refine aA (ι:=Nat) (fun a=>⟨39,[(1,.ptr 0 0),(3,.sl 1 0 (gJ n (bV n (op m n) e) x).length),(4,.p (.int .u64 (bo n (ja (bV n (op m n) e) x)))),(5,.p (.int .i64 x)),(6,.p (.int .u64 (bo n (sp n (op m n) e x a)))),(9,.p (.int .i64 n)),(10,.p (.int .i64 x)),(17,.p (.int .i64 n)),(18,.p (.int .i64 a))],[.own [.p (.int .i64 n),.p (.list (il m))],.own (bE (ll (gJ n (bV n (op m n) e) x)))]⟩) (fun a=>a≤n) (fun a=>n - a) 0 (Nat.zero_le _) [0,1] (by simp only [leq,bh,ak,fl,gp,aj,simprocAttr,bk,cB,ef]<;>first|trivial|exact (congrArg (fun t:Nat=>(t:Int)) (hsp0 x)).symm) fun a ha=>?_
  refine qm ?_
  refine ab fun K hK=>aa ae ?_
  simp only [ak,fl,gp,aj,simprocAttr]
  refine af trivial (hK _ ?_)<;>clear hK K
  refine qa (qm ?_)
  refine an rfl (fun hC3=>?_) (fun hC3=>?_)
  ·(try simp only [aI] at hC3)
   have hal:a < n:=by omega
   have hc:=G.DQ hlt hal
   have hp:=Ax (b:=Bb n (op m n) e x a) (by omega)
   have hsb:=nS hb (sp n (op m n) e x a)
   refine qh (qa (qm (ql (qm ?_))))
   refine ab fun K hK=>aa ae ?_
   simp only [ak,fl,gp,aj,simprocAttr]
   refine af trivial (hK _ ?_)<;>clear hK K
   refine qa ?_
   refine ab fun K hK=>aa ae ?_
   simp only [ak,fl,gp,aj,simprocAttr]
   refine ao trivial (al (Ei h hlt hal) rfl rfl rfl (by simp only [ay,Nat.reduceLT]) (by repeat (first|exact trivial|constructor)) (aa ae ?_))
   simp only [ak,fl,gp,aj,simprocAttr,B6 (show Bb n (op m n) e x a < 64 by omega),Dp hsb hp,DW hc]
   refine af ?_ (hK _ ?_)<;>clear hK K
   ·first|exact trivial|omega|(simp only [ah] at *; omega)|(simp [ah] at *; omega)|simp_all
   refine qd (qa ?_)
   refine ab fun K hK=>aa ae ?_
   simp only [ak,fl,gp,aj,simprocAttr]
   refine af ?_ (hK _ ?_)<;>clear hK K
   ·first|exact trivial|omega|(simp only [ah] at *; omega)|(simp [ah] at *; omega)|simp_all
   refine qa ?_
   refine ⟨a + 1,[0,1],by omega,by omega,?_⟩
   rw [BY]
   simp only [leq,bh,ak,fl,gp,aj,simprocAttr,bk,cB,ef]<;>first|trivial|omega
  (try simp only [aI] at hC3)
  have han:a=n:=by omega
  have hfull:bo n (sp n (op m n) e x a)=bo n (bV n (op m n) e x):=by rw [han]; rfl
  rw [hfull]
  have hb1:=nS hb (ja (bV n (op m n) e) x)
  have hb2:=nS hb (bV n (op m n) e x)
  have hh:bo n (ja (bV n (op m n) e) (x + 1))=bo n (fun y=>ja (bV n (op m n) e) x y || bV n (op m n) e x y):=lq fun y hy=>by
   unfold ja
   rw [Bool.eq_iff_iff,Bool.or_eq_true,decide_eq_true_eq,decide_eq_true_eq]
   constructor
   ·rintro ⟨z,z1,z2⟩
    by_cases hzx:z=x
    ·subst hzx; exact .inr z2
    exact .inl ⟨z,by omega,z2⟩
   rintro (⟨z,z1,z2⟩ | h')
   ·exact ⟨z,by omega,z2⟩
   exact ⟨x,by omega,h'⟩
  refine qj (qc (qc (qf (qa (qm ?_)))))
  refine ab fun K hK=>aa ae ?_
  simp only [ak,fl,gp,aj,simprocAttr,Dp hb1 hb2,F4]
  refine af ?_ (hK _ ?_)<;>clear hK K
  ·first|exact trivial|omega|(simp only [ah] at *; omega)|(simp [ah] at *; omega)|simp_all
  refine qa ?_
  refine ab fun K hK=>aa ae ?_
  simp only [ak,fl,gp,aj,simprocAttr,bk,oB,cB]
  refine ao trivial (al (Ep (bo n (bV n (op m n) e x)) hb2) rfl rfl rfl (by simp only [ay,Nat.reduceLT]) (by repeat (first|exact trivial|constructor)) (aa ae ?_))
  simp only [ak,fl,gp,aj,simprocAttr,EU hb,bk,oB,cB]
  refine af ?_ (hK _ ?_)<;>clear hK K
  ·first|exact trivial|omega|(simp only [ah] at *; omega)|(simp [ah] at *; omega)|simp_all
  refine qd (qa ?_)
  refine ab fun K hK=>aa ae ?_
  simp only [ak,fl,gp,aj,simprocAttr]
  refine af ?_ (hK _ ?_)<;>clear hK K
  ·first|exact trivial|omega|(simp only [ah] at *; omega)|(simp [ah] at *; omega)|simp_all
  refine qa ?_
  refine ⟨x + 1,[0,2],by omega,by omega,?_⟩
  rw [hs,hh]
  simp only [leq,bh,ak,fl,gp,aj,simprocAttr,bk,cB,ef]<;>first|trivial|omega|(simp [ll]; done)
 (try simp only [aI] at hC1)
 have hxn:x=n:=by omega
 subst hxn
 rw [← au (gJ x (bV x (op m x) e) x)]
 refine oC 3 1 (js _) rfl rfl ?_
 refine qj (qc (qc (qf (qa (qm ?_)))))
 refine ab fun K hK=>aa ae ?_
 simp only [ak,fl,gp,aj,simprocAttr]
 refine af trivial (hK _ ?_)<;>clear hK K
 refine qa (qk ?_)
 simp only [Tryd.results40,cy,ak,fl,gp,aj,simprocAttr]
 all_goals (rfl)
theorem vY (n:Nat) (r:Nat→Nat→Bool):(eu n r).length=(mem n (lead r)).length:=by
 unfold eu gJ mem
 rw [List.length_map]
def CI (l:List (List Int)) (x:Int):Int:=match bO (fun i=>decide (x∈l.getD i [])) l.length with | some i=>(i:Int) | none=>-1
theorem xM (l:List (List Int)) (x:Int) (hl:l.length≤1000000) (hx:∀ w∈l,w.length≤1000000):cL Tryd.prog 17 [.list (ll l),.int .i64 x] (.int .i64 (CI l x)):=by
 refine aM ae Tryd.func17 rfl (by kernel_rfl) (by rw [Tryd.ntmps17]; exact Nat.le_add_left 2 _) ?_; rw [Tryd.ntmps17]
 refine qm ?_
 refine ab fun K hK=>aa ae ?_
 simp only [ak,fl,gp,aj,simprocAttr]
 refine af trivial (hK _ ?_)<;>clear hK K
 refine qa (qm (qm ?_))
 refine ab fun K hK=>aa ae ?_
 simp only [ak,fl,gp,aj,simprocAttr]
 refine af trivial (hK _ ?_)<;>clear hK K
 refine qa (ql ?_)
 refine aA (ι:=Nat) (fun i=>⟨19,[(0,.p (.list (ll l))),(1,.p (.int .i64 x)),(5,.p (.int .i64 i))],[]⟩) (fun i=>i≤l.length∧∀ j,j < i→decide (x∈l.getD j [])=false) (fun i=>l.length - i) 0 ⟨Nat.zero_le _,fun j hj=>by omega⟩ [] (by simp only [leq,bh,ak,fl,gp,aj,simprocAttr]<;>trivial) fun i hi=>?_
 obtain ⟨hi1,hi2⟩:=hi
 refine qm (qm ?_)
 refine ab fun K hK=>aa ae ?_
 simp only [ak,fl,gp,aj,simprocAttr,au]
 refine af trivial (hK _ ?_)<;>clear hK K
 refine qa ?_
 refine an rfl (fun hC1=>?_) (fun hC1=>?_)
 ·(try simp only [aI] at hC1)
  have hlt:i < l.length:=by omega
  have hmem:(l.getD i []).length≤1000000:=hx _ (by simp [List.getD,List.getElem?_eq_getElem hlt])
  refine qh (qa (qm (ql (qm ?_))))
  refine ab fun K hK=>aa ae ?_
  simp only [ak,fl,gp,aj,simprocAttr,au,bD hlt]
  refine ao ?_ (al (DG (l.getD i []) x (by omega)) rfl rfl rfl (by simp only [ay,Nat.reduceLT]) (by repeat (first|exact trivial|constructor)) (aa ae ?_))
  ·first|exact trivial|omega|(simp only [ah] at *; omega)|(simp [ah] at *; omega)|simp_all
  simp only [ak,fl,gp,aj,simprocAttr,au,bD hlt]
  refine af ?_ (hK _ ?_)<;>clear hK K
  ·first|exact trivial|omega|(simp only [ah] at *; omega)|(simp [ah] at *; omega)|simp_all
  refine qa ?_
  refine an rfl (fun hC2=>?_) (fun hC2=>?_)
  ·(try simp only [aI] at hC2)
   refine qm ?_
   refine ab fun K hK=>aa ae ?_
   simp only [ak,fl,gp,aj,simprocAttr]
   refine af trivial (hK _ ?_)<;>clear hK K
   refine qa (qk (qe (qb (qb (qe (qb ?_))))))
   simp only [Tryd.results17,cy,ak,fl,gp,aj,simprocAttr]
   all_goals (unfold CI; rw [dc hlt (decide_eq_true hC2) hi2])
  (try simp only [aI] at hC2)
  refine qh (qd (qa ?_))
  refine ab fun K hK=>aa ae ?_
  simp only [ak,fl,gp,aj,simprocAttr]
  refine af ?_ (hK _ ?_)<;>clear hK K
  ·first|exact trivial|omega|(simp only [ah] at *; omega)|(simp [ah] at *; omega)|simp_all
  refine qa ?_
  refine ⟨i + 1,[],⟨by omega,fun j hj=>?_⟩,by omega,?_⟩
  ·by_cases hj2:j=i
   ·subst hj2; exact decide_eq_false hC2
   exact hi2 j (by omega)
  simp only [leq,bh,ak,fl,gp,aj,simprocAttr]<;>omega
 (try simp only [aI] at hC1)
 refine qj (qc (qc (qf (qa (qm ?_)))))
 refine ab fun K hK=>aa ae ?_
 simp only [ak,fl,gp,aj,simprocAttr]
 refine af trivial (hK _ ?_)<;>clear hK K
 refine qa (qk ?_)
 simp only [Tryd.results17,cy,ak,fl,gp,aj,simprocAttr]
 all_goals (unfold CI; rw [ep fun j hj=>hi2 j (by omega)])
def lN (n:Nat) (g:Nat→Int):List Int:=(List.range n).map g
theorem fK (n:Nat) (g:Nat→Int):(lN n g).length=n:=by simp [lN]
theorem jB {n:Nat} {g:Nat→Int} {a:Nat} (ha:a < n):(lN n g).getD a 0=g a:=by
 simp [lN,List.getD,List.getElem?_map,List.getElem?_range ha]
theorem jD {n:Nat} {g g' : Nat→Int} (h:∀ a,a < n→g a=g' a):lN n g=lN n g':=List.map_congr_left fun a ha=>h a (List.mem_range.1 ha)
theorem vH (n:Nat) (g:Nat→Int) (c:Nat) (x:Int):(lN n g).set c x=lN n fun a=>if a=c then x else g a:=by
 refine List.ext_getElem (by simp [lN]) fun i h1 h2=>?_
 rw [List.getElem_set]
 by_cases e:c=i
 ·subst e; simp [lN]
 rw [if_neg e]
 simp [lN,Ne.symm e]
theorem CD (n:Nat):List.replicate n (AV.p (.int .i64 0))=ol (lN n fun _=>0):=by
 refine List.ext_getElem (by simp [ol,il,lN]) fun i h1 h2=>?_
 simp [ol,il,lN]
def pD (n:Nat) (r:Nat→Nat→Bool):List Int:=lN n fun a=>CI (eu n r) a
theorem qg {n:Nat} {r:Nat→Nat→Bool} (h:xA n r) {i j a:Nat} (hi:i < (eu n r).length) (hj:j < (eu n r).length) (ha:a < n) (h1:((a:Nat):Int)∈(eu n r).getD i []) (h2:((a:Nat):Int)∈(eu n r).getD j []):i=j:=by
 obtain ⟨x,x1,x2,x3,x4⟩:=iB hi
 obtain ⟨y,y1,y2,y3,y4⟩:=iB hj
 rw [x3,eG ha] at h1
 rw [y3,eG ha] at h2
 have hxy:x=y:=h.wc x1 y1 x2 y2 (h.trans x a y x1 ha y1 h1 (h.symm y a y1 ha h2))
 subst hxy
 have hn:(mem n (lead r)).Nodup:=List.nodup_range.filter _
 have hl:=vY n r
 exact yq hn (by omega) (by omega) (x4.trans y4.symm)
theorem q6 {n:Nat} {r:Nat→Nat→Bool} (h:xA n r) {a:Nat} (ha:a < n):∃ i,i < (eu n r).length∧((a:Nat):Int)∈(eu n r).getD i []:=by
 obtain ⟨x,x1,x2,x3⟩:=h.least ha
 obtain ⟨i,hi,e⟩:=List.getElem_of_mem (bg.2 ⟨x1,x2⟩:x∈mem n (lead r))
 have hl:=vY n r
 refine ⟨i,by omega,?_⟩
 obtain ⟨y,y1,y2,y3,y4⟩:=iB (n:=n) (r:=r) (i:=i) (by omega)
 rw [y3,eG ha]
 have:y=x:=by rw [← y4]; simp [List.getD,List.getElem?_eq_getElem hi,e]
 rw [this]; exact x3
theorem oc {n:Nat} {r:Nat→Nat→Bool} (h:xA n r) {i a:Nat} (hi:i < (eu n r).length) (ha:a < n) (h1:((a:Nat):Int)∈(eu n r).getD i []):CI (eu n r) a=(i:Int):=by
 have e:bO (fun k=>decide (((a:Nat):Int)∈(eu n r).getD k [])) (eu n r).length=some i:=dc hi (decide_eq_true h1) fun j hj=>decide_eq_false fun h2=>by
  have:=qg h hi (by omega) ha h1 h2
  omega
 simp only [CI,e]
theorem qw {n:Nat} (m:List Int) (hn:n≤60) {r:Nat→Nat→Bool} (h:xA n r):cL Tryd.prog 45 [gp n m,.list (ll (eu n r))] (.list (il (pD n r))):=by
 have hcl:(eu n r).length≤n:=iY _ _ _
 refine aM ae Tryd.func45 rfl (by kernel_rfl) (by rw [Tryd.ntmps45]; exact Nat.le_add_left 2 _) ?_; rw [Tryd.ntmps45]
 refine qm ?_
 refine ab fun K hK=>aa ae ?_
 simp only [ak,fl,gp,aj,simprocAttr]
 refine af ?_ (hK _ ?_)<;>clear hK K
 ·first|exact trivial|omega|(simp only [ah] at *; omega)|(simp [ah] at *; omega)|simp_all
 refine qa (qm ?_)
 refine ab fun K hK=>aa ae ?_
 simp only [ak,fl,gp,aj,simprocAttr,fV.eq_def,CD]
 refine af ?_ (hK _ ?_)<;>clear hK K
 ·omega
 refine qa (qm (qm ?_))
 refine ab fun K hK=>aa ae ?_
 simp only [ak,fl,gp,aj,simprocAttr]
 refine af trivial (hK _ ?_)<;>clear hK K
 refine qa (ql ?_)
 refine aA (ι:=Nat × (Nat→Int)) (fun p=>⟨33,[(5,.sl 1 0 n),(13,.p (.list (ll (eu n r)))),(14,.p (.int .i64 (eu n r).length)),(15,.p (.int .i64 p.1))],[.own [.p (.int .i64 n),.p (.list (il m))],.own (ol (lN n p.2))]⟩) (fun p=>p.1≤(eu n r).length∧∀ a,a < n→∀ k,k < p.1→((a:Nat):Int)∈(eu n r).getD k []→p.2 a=(k:Int)) (fun p=>(eu n r).length - p.1) (0,fun _=>0) ⟨Nat.zero_le _,fun a _ k hk=>by simp only at hk; omega⟩ [0,1] (by simp only [leq,bh,ak,fl,gp,aj,simprocAttr,au]<;>first|trivial|(simp; done)) fun p hp=>?_
 obtain ⟨i,g⟩:=p
 obtain ⟨hi1,hi2⟩:=hp
 simp only at hi1 hi2
 refine qm ?_
 refine ab fun K hK=>aa ae ?_
 simp only [ak,fl,gp,aj,simprocAttr]
 refine af trivial (hK _ ?_)<;>clear hK K
 refine qa (qm ?_)
 refine an rfl (fun hC1=>?_) (fun hC1=>?_)
 ·(try simp only [aI] at hC1)
  have hlt:i < (eu n r).length:=by omega
  obtain ⟨x,x1,x2,x3,x4⟩:=iB hlt
  have l1:=j6 n (r x)
  refine qh (qa (qm (ql (qm ?_))))
  refine ab fun K hK=>aa ae ?_
  simp only [ak,fl,gp,aj,simprocAttr,au,bD hlt,x3]
  refine af ?_ (hK _ ?_)<;>clear hK K
  ·first|exact trivial|omega|(simp only [ah] at *; omega)|(simp [ah] at *; omega)|simp_all
  refine qa (qm ?_)
  refine ab fun K hK=>aa ae ?_
  simp only [ak,fl,gp,aj,simprocAttr,aJ]
  refine af trivial (hK _ ?_)<;>clear hK K
  refine qa (ql ?_)
  refine aA (ι:=Nat × (Nat→Int)) (fun p=>⟨33,[(5,.sl 1 0 n),(6,.p (.int .i64 i)),(13,.p (.list (ll (eu n r)))),(14,.p (.int .i64 (eu n r).length)),(15,.p (.int .i64 i)),(20,.p (.list (il (dI n (r x))))),(21,.p (.int .i64 (dI n (r x)).length)),(22,.p (.int .i64 p.1))],[.own [.p (.int .i64 n),.p (.list (il m))],.own (ol (lN n p.2))]⟩) (fun p=>p.1≤(dI n (r x)).length∧(∀ a,a < n→∀ k,k < i→((a:Nat):Int)∈(eu n r).getD k []→p.2 a=(k:Int))∧∀ a,a < n→∀ k,k < p.1→(dI n (r x)).getD k 0=(a:Int)→p.2 a=(i:Int)) (fun p=>(dI n (r x)).length - p.1) (0,g) ⟨Nat.zero_le _,hi2,fun a _ k hk=>by simp only at hk; omega⟩ [0,1] (by simp only [leq,bh,ak,fl,gp,aj,simprocAttr]<;>first|trivial|(simp; done)) fun p hp=>?_
  obtain ⟨j,g'⟩:=p
  obtain ⟨hj1,hj2,hj3⟩:=hp
  simp only at hj1 hj2 hj3
  refine qm ?_
  refine ab fun K hK=>aa ae ?_
  simp only [ak,fl,gp,aj,simprocAttr]
  refine af trivial (hK _ ?_)<;>clear hK K
  refine qa (qm ?_)
  refine an rfl (fun hC2=>?_) (fun hC2=>?_)
  ·(try simp only [aI] at hC2)
   have hjl:j < (dI n (r x)).length:=by omega
   obtain ⟨c,c1,c2,c3⟩:=qY hjl
   refine qh (qa (qm (ql (qm ?_))))
   refine ab fun K hK=>aa ae ?_
   simp only [ak,fl,gp,aj,simprocAttr,aW hjl,c3]
   refine af ?_ (hK _ ?_)<;>clear hK K
   ·first|exact trivial|omega|(simp only [ah] at *; omega)|(simp [ah] at *; omega)|simp_all
   refine qa ?_
   refine ab fun K hK=>aa ae ?_
   simp only [ak,fl,gp,aj,simprocAttr]
   refine af ?_ (hK _ ?_)<;>clear hK K
   ·rw [fK]; omega
   refine qd (qa ?_)
   rw [eK,vH]
   refine ab fun K hK=>aa ae ?_
   simp only [ak,fl,gp,aj,simprocAttr]
   refine af ?_ (hK _ ?_)<;>clear hK K
   ·first|exact trivial|omega|(simp only [ah] at *; omega)|(simp [ah] at *; omega)|simp_all
   refine qa ?_
   refine ⟨(j + 1,fun a=>if a=c then (i:Int) else g' a),[0,1],⟨by simp only; omega,fun a ha k hk hm=>?_,fun a ha k hk hm=>?_⟩,by simp only; omega,?_⟩
   ·have hne:a ≠ c:=by
     intro he
     subst he
     have h3:((a:Nat):Int)∈(eu n r).getD i []:=by rw [x3,eG ha]; exact c2
     have:=qg h hlt (by omega) ha h3 hm
     omega
    simp only [if_neg hne]
    exact hj2 a ha k hk hm
   ·simp only at hk ⊢
    by_cases hac:a=c
    ·rw [if_pos hac]
    rw [if_neg hac]
    have hkj:k ≠ j:=by intro he; rw [he,c3] at hm; omega
    exact hj3 a ha k (by omega) hm
   simp only [leq,bh,ak,fl,gp,aj,simprocAttr]<;>first|trivial|omega|(simp [lN]; done)
  (try simp only [aI] at hC2)
  have hjn:j=(dI n (r x)).length:=by omega
  refine qj (qc (qc (qf (qd (qa ?_)))))
  refine ab fun K hK=>aa ae ?_
  simp only [ak,fl,gp,aj,simprocAttr]
  refine af ?_ (hK _ ?_)<;>clear hK K
  ·first|exact trivial|omega|(simp only [ah] at *; omega)|(simp [ah] at *; omega)|simp_all
  refine qa ?_
  refine ⟨(i + 1,g'),[0,1],⟨by simp only; omega,fun a ha k hk hm=>?_⟩,by simp only; omega,?_⟩
  ·by_cases hki:k=i
   ·subst hki
    rw [x3] at hm
    obtain ⟨q,q1,q2⟩:=yZ (n:=n) (p:=r x) ha ((eG ha).1 hm)
    exact hj3 a ha q (by omega) q2
   exact hj2 a ha k (by simp only at hk; omega) hm
  simp only [leq,bh,ak,fl,gp,aj,simprocAttr]<;>first|trivial|omega|(simp [lN]; done)
 (try simp only [aI] at hC1)
 have hin:i=(eu n r).length:=by omega
 have hfin:lN n g=pD n r:=jD fun a ha=>by
  obtain ⟨k,k1,k2⟩:=q6 h ha
  rw [hi2 a ha k (by omega) k2,oc h k1 ha k2]
 rw [hfin]
 have hwl:(pD n r).length=n:=fK _ _
 refine nQ 5 1 (by show AV.sl 1 0 n=AV.sl 1 0 _; rw [hwl]) rfl ?_
 refine qj (qc (qc (qf (qa (qm ?_)))))
 refine ab fun K hK=>aa ae ?_
 simp only [ak,fl,gp,aj,simprocAttr]
 refine af trivial (hK _ ?_)<;>clear hK K
 refine qa (qk ?_)
 simp only [Tryd.results45,cy,ak,fl,gp,aj,simprocAttr]
 all_goals (rfl)
end Go.Proofs.YtjlmpmidchddjaaDoor
