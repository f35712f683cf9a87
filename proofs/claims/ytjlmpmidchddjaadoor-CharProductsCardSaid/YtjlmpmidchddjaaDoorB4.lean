/-
  Texts of this proof, one behind the other: what each says stands at its head. Conditions: none.
-/
import Derived.Test.YtjlmpmidchddjaaDoorB3
import Derived.Lib.SliceRun
import Derived.Test.YtjlmpmidchddjaaDoorB2
set_option linter.all false
namespace Go.Proofs.YtjlmpmidchddjaaDoor
open Go.Pv
def uI (g:Nat→Nat→Int) (n:Nat):Nat→List Int:=rg fun i=>g (i / n) (i % n)
def sx (g:Nat→Nat→Int) (n:Nat):List Int:=uI g n (n * n)
theorem oM (g:Nat→Nat→Int) {n a b:Nat} (hb:b < n):uI g n (a * n + (b + 1))=uI g n (a * n + b)++[g a b]:=by
 unfold uI
 rw [← Nat.add_assoc,wX]
 have h1:(a * n + b) / n=a:=by
  rw [Nat.mul_comm,Nat.mul_add_div (by omega),Nat.div_eq_of_lt hb]; omega
 have h2:(a * n + b) % n=b:=by
  rw [Nat.mul_comm,Nat.mul_add_mod,Nat.mod_eq_of_lt hb]
 simp only [h1,h2]
theorem wj (g:Nat→Nat→Int) (n k:Nat):(uI g n k).length=k:=sj _ k
theorem C4 (g:Nat→Nat→Int) (n:Nat):(sx g n).length=n * n:=sj _ _
theorem xr (g:Nat→Nat→Int) {n a b:Nat} (ha:a < n) (hb:b < n):(sx g n).getD (a * n + b) 0=g a b:=by
 unfold sx uI
 rw [yH _ (qA ha hb)]
 have h1:(a * n + b) / n=a:=by
  rw [Nat.mul_comm,Nat.mul_add_div (by omega),Nat.div_eq_of_lt hb]; omega
 have h2:(a * n + b) % n=b:=by
  rw [Nat.mul_comm,Nat.mul_add_mod,Nat.mod_eq_of_lt hb]
 rw [h1,h2]
theorem Fe (n:Nat) (hn:n≤60) (F:FuncId) (caps:List PV) (g:Nat→Nat→Int) (hF:∀ a b,a < n→b < n→bL Tryd.prog F (.int .i64 a :: .int .i64 b :: caps) (.int .i64 (g a b))) :
  bL Tryd.prog 61 [.int .i64 n,.fn F caps] (gp n (sx g n)):=by
 have hsq:=kU hn
 have hlen:=wj g n
 refine aK ae Tryd.func61 rfl (by kernel_rfl) (by rw [Tryd.ntmps61]; exact Nat.le_add_left 2 _) ?_; rw [Tryd.ntmps61]
 refine qm ?_
 refine ab fun K hK=>aa ae ?_
 simp only [ak,fl,gp,aj,simprocAttr]
 refine af ?_ (hK _ ?_)<;>clear hK K
 ·first|exact trivial|omega|(simp only [ah] at *; omega)|(simp [ah] at *; omega)|simp_all
 refine qa (qm ?_)
 refine ab fun K hK=>aa ae ?_
 simp only [ak,fl,gp,aj,simprocAttr]
 refine af ?_ (hK _ ?_)<;>clear hK K
 ·first|exact trivial|omega|(simp only [ah] at *; omega)|(simp [ah] at *; omega)|simp_all
 refine qa (qm (qm ?_))
 refine ua 1 1 rfl rfl ?_
 simp only [aE,List.cons_append,List.nil_append,List.set,List.length_cons,List.length_nil]
 refine ab fun K hK=>aa ae ?_
 simp only [ak,fl,gp,aj,simprocAttr]
 refine af trivial (hK _ ?_)<;>clear hK K
 refine qa (ql ?_)
 refine aB (ι:=Nat) (fun a=>⟨30,[(0,.p (.int .i64 n)),(1,.p (.fn F caps)),(4,.ptr 0 0),(5,.ptr 1 0),(10,.p (.int .i64 n)),(11,.p (.int .i64 a))],[.own [.p (.int .i64 0),.p .nil],.own [.p (.int .i64 n),.sl 2 0 (uI g n (a * n)).length],.own (ol (uI g n (a * n)))]⟩) (fun a=>a≤n) (fun a=>n - a) 0 (Nat.zero_le _) [0,1,2] (by rw [Nat.zero_mul]; simp only [leq,bw,ak,fl,gp,aj,simprocAttr]<;>simp [uI,rg,km]) fun a ha=>?_
 refine qm ?_
 refine ab fun K hK=>aa ae ?_
 simp only [ak,fl,gp,aj,simprocAttr]
 refine af trivial (hK _ ?_)<;>clear hK K
 refine qa (qm ?_)
 refine ao rfl (fun hC1=>?_) (fun hC1=>?_)
 ·(try simp only [aH] at hC1)
  have hal:a < n:=by omega
  refine qh (qa (qm (ql (qm ?_))))
  refine ab fun K hK=>aa ae ?_
  simp only [ak,fl,gp,aj,simprocAttr]
  refine af trivial (hK _ ?_)<;>clear hK K
  refine qa (qm ?_)
  refine ab fun K hK=>aa ae ?_
  simp only [ak,fl,gp,aj,simprocAttr]
  refine af trivial (hK _ ?_)<;>clear hK K
  refine qa (ql ?_)
  refine aB (ι:=Nat) (fun b=>⟨30,[(0,.p (.int .i64 n)),(1,.p (.fn F caps)),(4,.ptr 0 0),(5,.ptr 1 0),(6,.p (.int .i64 a)),(10,.p (.int .i64 n)),(11,.p (.int .i64 a)),(14,.p (.int .i64 n)),(15,.p (.int .i64 b))],[.own [.p (.int .i64 0),.p .nil],.own [.p (.int .i64 n),.sl 2 0 (uI g n (a * n + b)).length],.own (ol (uI g n (a * n + b)))]⟩) (fun b=>b≤n) (fun b=>n - b) 0 (Nat.zero_le _) [0,1,2] (by rw [Nat.add_zero]; simp only [leq,bw,ak,fl,gp,aj,simprocAttr]<;>trivial) fun b hb=>?_
  refine qm ?_
  refine ab fun K hK=>aa ae ?_
  simp only [ak,fl,gp,aj,simprocAttr]
  refine af trivial (hK _ ?_)<;>clear hK K
  refine qa (qm ?_)
  refine ao rfl (fun hC2=>?_) (fun hC2=>?_)
  ·(try simp only [aH] at hC2)
   have hbl:b < n:=by omega
   have hat:=qA hal hbl
   have hl:=hlen (a * n + b)
   refine qh (qa (qm (ql (qm ?_))))
   refine ab fun K hK=>aa ae ?_
   simp only [ak,fl,gp,aj,simprocAttr]
   refine af trivial (hK _ ?_)<;>clear hK K
   refine qa ?_
   refine ba mixed (by kernel_rfl) fun K hK=>aa ae ?_
   simp only [ak,fl,gp,aj,simprocAttr]
   refine an trivial (al (hF a b hal hbl) rfl rfl rfl (by simp only [au,Nat.reduceLT]) (by repeat (first|exact trivial|constructor)) (aa ae ?_))
   simp only [ak,fl,gp,aj,simprocAttr]
   refine af ?_ (hK _ ?_)<;>clear hK K
   ·first|exact trivial|omega|(simp only [ah] at *; omega)|(simp [ah] at *; omega)|simp_all
   refine qd (qa ?_)
   refine ab fun K hK=>aa ae ?_
   simp only [ak,fl,gp,aj,simprocAttr]
   refine af ?_ (hK _ ?_)<;>clear hK K
   ·first|exact trivial|omega|(simp only [ah] at *; omega)|(simp [ah] at *; omega)|simp_all
   refine qa ?_
   refine ⟨b + 1,[0,1,3],by omega,by omega,?_⟩
   rw [oM g hbl]
   simp only [leq,bw,ak,fl,gp,aj,simprocAttr]<;>first|trivial|omega
  (try simp only [aH] at hC2)
  have hbn:b=n:=by omega
  refine qj (qc (qc (qf (qd (qa ?_)))))
  refine ab fun K hK=>aa ae ?_
  simp only [ak,fl,gp,aj,simprocAttr]
  refine af ?_ (hK _ ?_)<;>clear hK K
  ·first|exact trivial|omega|(simp only [ah] at *; omega)|(simp [ah] at *; omega)|simp_all
  refine qa ?_
  refine ⟨a + 1,[0,1,2],by omega,by omega,?_⟩
  rw [hbn,show (a + 1) * n=a * n + n by rw [Nat.add_mul,Nat.one_mul]]
  simp only [leq,bw,ak,fl,gp,aj,simprocAttr]<;>first|trivial|omega
 (try simp only [aH] at hC1)
 have han:a=n:=by omega
 refine qj (qc (qc (qf (qa (qm ?_)))))
 refine ab fun K hK=>aa ae ?_
 simp only [ak,fl,gp,aj,simprocAttr]
 refine af ?_ (hK _ ?_)<;>clear hK K
 ·first|exact trivial|omega|(simp only [ah] at *; omega)|(simp [ah] at *; omega)|simp_all
 refine qa (qk ?_)
 simp only [Tryd.results61,bY,ak,fl,gp,aj,simprocAttr]
 all_goals (simp [han,sx])
def yq (n a b:Nat):Nat:=(a % n + (if a / n=1 then n - b % n else b % n)) % n + (a / n + b / n) % 2 * n
theorem AE (a:Nat):Int.tmod (a:Int) 2=((a % 2:Nat):Int):=rfl
def HN (p:Int→Bool) (l:List Int):Int:=match bR (fun i=>p (l.getD i 0)) l.length with | some i=>(i:Int) | none=>-1
theorem tI (l:List Int) (F:FuncId) (caps:List PV) (p:Int→Bool) (hl:l.length≤1000000) (hF:∀ x∈l,bL Tryd.prog F (.int .i64 x :: caps) (.bool (p x))):bL Tryd.prog 102 [.list (il l),.fn F caps] (.int .i64 (HN p l)):=by
 refine aK ae Tryd.func102 rfl (by kernel_rfl) (by rw [Tryd.ntmps102]; exact Nat.le_add_left 2 _) ?_; rw [Tryd.ntmps102]
 refine qm ?_
 refine ab fun K hK=>aa ae ?_
 simp only [ak,fl,gp,aj,simprocAttr]
 refine af trivial (hK _ ?_)<;>clear hK K
 refine qa (qm (qm ?_))
 refine ab fun K hK=>aa ae ?_
 simp only [ak,fl,gp,aj,simprocAttr]
 refine af trivial (hK _ ?_)<;>clear hK K
 refine qa (ql ?_)
 refine aB (ι:=Nat) (fun i=>⟨19,[(0,.p (.list (il l))),(1,.p (.fn F caps)),(7,.p (.int .i64 l.length)),(8,.p (.int .i64 i))],[]⟩) (fun i=>i≤l.length∧∀ j,j < i→p (l.getD j 0)=false) (fun i=>l.length - i) 0 ⟨Nat.zero_le _,fun j hj=>by omega⟩ [] (by simp only [leq,bw,ak,fl,gp,aj,simprocAttr]<;>trivial) fun i hi=>?_
 obtain ⟨hi1,hi2⟩:=hi
 refine qm ?_
 refine ab fun K hK=>aa ae ?_
 simp only [ak,fl,gp,aj,simprocAttr]
 refine af trivial (hK _ ?_)<;>clear hK K
 refine qa (qm ?_)
 refine ao rfl (fun hC1=>?_) (fun hC1=>?_)
 ·(try simp only [aH] at hC1)
  have hlt:i < l.length:=by omega
  have hmem:l.getD i 0∈l:=by simp [List.getD,List.getElem?_eq_getElem hlt]
  refine qh (qa (qm (ql (qm ?_))))
  refine ab fun K hK=>aa ae ?_
  simp only [ak,fl,gp,aj,simprocAttr]
  refine af trivial (hK _ ?_)<;>clear hK K
  refine qa (qm ?_)
  refine ab fun K hK=>aa ae ?_
  simp only [ak,fl,gp,aj,simprocAttr,aT hlt]
  refine an ?_ (al (hF _ hmem) rfl rfl rfl (by simp only [au,Nat.reduceLT]) (by repeat (first|exact trivial|constructor)) (aa ae ?_))
  ·first|exact trivial|omega|(simp only [ah] at *; omega)|(simp [ah] at *; omega)|simp_all
  simp only [ak,fl,gp,aj,simprocAttr,aT hlt]
  refine af ?_ (hK _ ?_)<;>clear hK K
  ·first|exact trivial|omega|(simp only [ah] at *; omega)|(simp [ah] at *; omega)|simp_all
  refine qa ?_
  refine ao rfl (fun hC2=>?_) (fun hC2=>?_)
  ·(try simp only [aH] at hC2)
   refine qm ?_
   refine ab fun K hK=>aa ae ?_
   simp only [ak,fl,gp,aj,simprocAttr]
   refine af trivial (hK _ ?_)<;>clear hK K
   refine qa (qk (qe (qb (qb (qe (qb ?_))))))
   simp only [Tryd.results102,bY,ak,fl,gp,aj,simprocAttr]
   all_goals (unfold HN; rw [dM hlt hC2 hi2])
  (try simp only [aH] at hC2)
  refine qh (qd (qa ?_))
  refine ab fun K hK=>aa ae ?_
  simp only [ak,fl,gp,aj,simprocAttr]
  refine af ?_ (hK _ ?_)<;>clear hK K
  ·first|exact trivial|omega|(simp only [ah] at *; omega)|(simp [ah] at *; omega)|simp_all
  refine qa ?_
  refine ⟨i + 1,[],⟨by omega,fun j hj=>?_⟩,by omega,?_⟩
  ·by_cases hj2:j=i
   ·subst hj2; exact hC2
   exact hi2 j (by omega)
  simp only [leq,bw,ak,fl,gp,aj,simprocAttr]<;>omega
 (try simp only [aH] at hC1)
 refine qj (qc (qc (qf (qa (qm ?_)))))
 refine ab fun K hK=>aa ae ?_
 simp only [ak,fl,gp,aj,simprocAttr]
 refine af trivial (hK _ ?_)<;>clear hK K
 refine qa (qk ?_)
 simp only [Tryd.results102,bY,ak,fl,gp,aj,simprocAttr]
 all_goals (unfold HN; rw [fa fun j hj=>hi2 j (by omega)])
def vU:List Int:=sx (fun a b=>(yq 4 a b:Nat)) 8
theorem Fs:(gf 8 vU).1=0:=by decide +kernel
theorem EM:∃ e,GT (8:Nat) vU 8 e:=by
 obtain ⟨n,e,h,_⟩:=tV Fs
 obtain rfl:n=8:=by have:=h.1; omega
 exact ⟨e,h⟩
theorem HZ (a:Nat):Int.tmod (a:Int) 4=((a % 4:Nat):Int):=rfl
theorem IM (a:Nat):Int.tdiv (a:Int) 4=((a / 4:Nat):Int):=rfl
theorem A0:bL Tryd.prog 55 [] (gp 8 vU):=by
 have hlen:=wj (fun a b=>(yq 4 a b:Nat)) 8
 refine aK ae Tryd.func55 rfl (by kernel_rfl) (by rw [Tryd.ntmps55]; exact Nat.le_add_left 0 _) ?_; rw [Tryd.ntmps55]
 refine qm ?_
 refine ab fun K hK=>aa ae ?_
 simp only [ak,fl,gp,aj,simprocAttr]
 refine af ?_ (hK _ ?_)<;>clear hK K
 ·first|exact trivial|omega|(simp only [ah] at *; omega)|(simp [ah] at *; omega)|simp_all
 refine qa (qm ?_)
 refine ab fun K hK=>aa ae ?_
 simp only [ak,fl,gp,aj,simprocAttr]
 refine af ?_ (hK _ ?_)<;>clear hK K
 ·first|exact trivial|omega|(simp only [ah] at *; omega)|(simp [ah] at *; omega)|simp_all
 refine qa (qm (qm ?_))
 refine ua 1 1 rfl rfl ?_
 simp only [aE,List.cons_append,List.nil_append,List.set,List.length_cons,List.length_nil]
 refine ab fun K hK=>aa ae ?_
 simp only [ak,fl,gp,aj,simprocAttr]
 refine af trivial (hK _ ?_)<;>clear hK K
 refine qa (ql ?_)
 refine aB (ι:=Nat) (fun a=>⟨39,[(0,.ptr 0 0),(1,.ptr 1 0),(2,.p (.int .i64 a))],[.own [.p (.int .i64 0),.p .nil],.own [.p (.int .i64 8),.sl 2 0 (uI (fun a b=>(yq 4 a b:Nat)) 8 (a * 8)).length],.own (ol (uI (fun a b=>(yq 4 a b:Nat)) 8 (a * 8)))]⟩) (fun a=>a≤8) (fun a=>8 - a) 0 (Nat.zero_le _) [0,1,2] (by simp only [leq,bw,ak,fl,gp,aj,simprocAttr]<;>simp [uI,rg,km]) fun a ha=>?_
 refine qm (qm ?_)
 refine ab fun K hK=>aa ae ?_
 simp only [ak,fl,gp,aj,simprocAttr]
 refine af trivial (hK _ ?_)<;>clear hK K
 refine qa ?_
 refine ao rfl (fun hC1=>?_) (fun hC1=>?_)
 ·(try simp only [aH] at hC1)
  have hal:a < 8:=by omega
  refine qh (qa (qm (ql (qm ?_))))
  refine ab fun K hK=>aa ae ?_
  simp only [ak,fl,gp,aj,simprocAttr]
  refine af trivial (hK _ ?_)<;>clear hK K
  refine qa (ql ?_)
  refine aB (ι:=Nat) (fun b=>⟨39,[(0,.ptr 0 0),(1,.ptr 1 0),(2,.p (.int .i64 a)),(3,.p (.int .i64 b))],[.own [.p (.int .i64 0),.p .nil],.own [.p (.int .i64 8),.sl 2 0 (uI (fun a b=>(yq 4 a b:Nat)) 8 (a * 8 + b)).length],.own (ol (uI (fun a b=>(yq 4 a b:Nat)) 8 (a * 8 + b)))]⟩) (fun b=>b≤8) (fun b=>8 - b) 0 (Nat.zero_le _) [0,1,2] (by rw [Nat.add_zero]; simp only [leq,bw,ak,fl,gp,aj,simprocAttr]<;>trivial) fun b hb=>?_
  refine qm (qm ?_)
  refine ab fun K hK=>aa ae ?_
  simp only [ak,fl,gp,aj,simprocAttr]
  refine af trivial (hK _ ?_)<;>clear hK K
  refine qa ?_
  refine ao rfl (fun hC2=>?_) (fun hC2=>?_)
  ·(try simp only [aH] at hC2)
   have hbl:b < 8:=by omega
   have hl:=hlen (a * 8 + b)
   have hs:(4:Int) - ((b % 4:Nat):Int)=((4 - b % 4:Nat):Int):=by omega
   have hm:(((a / 4 + b / 4) % 2:Nat):Int) * 4=(((a / 4 + b / 4) % 2 * 4:Nat):Int):=by omega
   refine qh (qa (qm (ql (qm ?_))))
   refine ab fun K hK=>aa ae ?_
   simp only [ak,fl,gp,aj,simprocAttr,HZ]
   refine af ?_ (hK _ ?_)<;>clear hK K
   ·first|exact trivial|omega|(simp only [ah] at *; omega)|(simp [ah] at *; omega)|simp_all
   refine qa (qm (qm ?_))
   refine ab fun K hK=>aa ae ?_
   simp only [ak,fl,gp,aj,simprocAttr]
   refine af trivial (hK _ ?_)<;>clear hK K
   refine qa ?_
   refine ao rfl (fun hC3=>?_) (fun hC3=>?_)
   ·(try simp only [aH] at hC3)
    have hd:yq 4 a b=(a % 4 + (4 - b % 4)) % 4 + (a / 4 + b / 4) % 2 * 4:=by rw [yq,if_pos (by omega)]
    refine ab fun K hK=>aa ae ?_
    simp only [ak,fl,gp,aj,simprocAttr,hs]
    refine af ?_ (hK _ ?_)<;>clear hK K
    ·first|exact trivial|omega|(simp only [ah] at *; omega)|(simp [ah] at *; omega)|simp_all
    refine qa ?_
    refine ab fun K hK=>aa ae ?_
    simp only [ak,fl,gp,aj,simprocAttr,HZ,IM,← Int.natCast_add,AE,hm]
    refine af ?_ (hK _ ?_)<;>clear hK K
    ·simp only [ah]; omega
    refine qd (qa ?_)
    refine ab fun K hK=>aa ae ?_
    simp only [ak,fl,gp,aj,simprocAttr]
    refine af ?_ (hK _ ?_)<;>clear hK K
    ·first|exact trivial|omega|(simp only [ah] at *; omega)|(simp [ah] at *; omega)|simp_all
    refine qa ?_
    refine ⟨b + 1,[0,1,3],by omega,by omega,?_⟩
    rw [oM (fun a b=>(yq 4 a b:Nat)) hbl]
    simp only [hd]
    simp only [leq,bw,ak,fl,gp,aj,simprocAttr]<;>first|trivial|omega
   (try simp only [aH] at hC3)
   have hd:yq 4 a b=(a % 4 + b % 4) % 4 + (a / 4 + b / 4) % 2 * 4:=by rw [yq,if_neg (by omega)]
   refine qh (qa ?_)
   refine ab fun K hK=>aa ae ?_
   simp only [ak,fl,gp,aj,simprocAttr,HZ,IM,← Int.natCast_add,AE,hm]
   refine af ?_ (hK _ ?_)<;>clear hK K
   ·simp only [ah]; omega
   refine qd (qa ?_)
   refine ab fun K hK=>aa ae ?_
   simp only [ak,fl,gp,aj,simprocAttr]
   refine af ?_ (hK _ ?_)<;>clear hK K
   ·first|exact trivial|omega|(simp only [ah] at *; omega)|(simp [ah] at *; omega)|simp_all
   refine qa ?_
   refine ⟨b + 1,[0,1,3],by omega,by omega,?_⟩
   rw [oM (fun a b=>(yq 4 a b:Nat)) hbl]
   simp only [hd]
   simp only [leq,bw,ak,fl,gp,aj,simprocAttr]<;>first|trivial|omega
  (try simp only [aH] at hC2)
  have hbn:b=8:=by omega
  refine qj (qc (qc (qf (qd (qa ?_)))))
  refine ab fun K hK=>aa ae ?_
  simp only [ak,fl,gp,aj,simprocAttr]
  refine af ?_ (hK _ ?_)<;>clear hK K
  ·first|exact trivial|omega|(simp only [ah] at *; omega)|(simp [ah] at *; omega)|simp_all
  refine qa ?_
  refine ⟨a + 1,[0,1,2],by omega,by omega,?_⟩
  rw [hbn,show (a + 1) * 8=a * 8 + 8 by rw [Nat.add_mul,Nat.one_mul]]
  simp only [leq,bw,ak,fl,gp,aj,simprocAttr]<;>first|trivial|omega
 (try simp only [aH] at hC1)
 have han:a=8:=by omega
 refine qj (qc (qc (qf (qa (qm ?_)))))
 refine ab fun K hK=>aa ae ?_
 simp only [ak,fl,gp,aj,simprocAttr]
 refine af ?_ (hK _ ?_)<;>clear hK K
 ·first|exact trivial|omega|(simp only [ah] at *; omega)|(simp [ah] at *; omega)|simp_all
 refine qa (qk ?_)
 simp only [Tryd.results55,bY,ak,fl,gp,aj,simprocAttr]
 all_goals (simp [han,vU,sx])
def eB (p:Nat) (v:List Int):Prop:=∀ j,0≤v.getD j 0∧v.getD j 0 < p
theorem nV {p:Nat} {f:Nat→Int} {i j:Nat} {u:List Int} (hf:∀ t,0≤f t∧f t < p) (hu:eB p u):eB p (cN f i j u):=fun t=>by
 by_cases ht:t < u.length
 ·rw [dh ht]
  split
  ·exact hf t
  exact hu t
 have:=hu t
 simp only [List.getD,List.getElem?_eq_none (show u.length≤t by omega),Option.getD_none] at this
 simpa [List.getD,List.getElem?_eq_none (show (cN f i j u).length≤t by rw [bC]; omega)] using this
theorem xf (p:Nat) (k:Int) (r b:List Int):(Bg p k r b).length=r.length:=bC _ _ _ _
theorem yT {p:Nat} (hp:0 < p) {k:Int} {r b:List Int} (h:eB p r):eB p (Bg p k r b):=nV (fun _=>bE hp _) h
theorem wJ (p:Nat) (k:Int) (r:List Int):(As p k r).length=r.length:=bC _ _ _ _
theorem vg {p:Nat} (hp:0 < p) {k:Int} {r:List Int} (h:eB p r):eB p (As p k r):=nV (fun _=>bE hp _) h
theorem iC (p:Nat) (out:List (List Int)) (at' : List Int) (r:List Int):∀ i,(mT p out at' r i).length=r.length
 | 0=>rfl
 | i + 1=>by
  rw [mT]; split
  ·exact iC p out at' r i
  rw [xf]; exact iC p out at' r i
theorem lR {p:Nat} (hp:0 < p) {out:List (List Int)} {at' : List Int} {r:List Int} (h:eB p r):∀ i,eB p (mT p out at' r i)
 | 0=>h
 | i + 1=>by
  rw [mT]; split
  ·exact lR hp h i
  exact yT hp (lR hp h i)
theorem CV (p j:Nat) (r b:List Int):(uO p j r b).length=b.length:=by
 unfold uO; split
 ·rfl
 exact xf _ _ _ _
theorem FQ {p:Nat} (hp:0 < p) {j:Nat} {r b:List Int} (h:eB p b):eB p (uO p j r b):=by
 unfold uO; split
 ·exact h
 exact yT hp h
theorem jG (p j:Nat) (r:List Int) (out:List (List Int)) (i:Nat):(fp p j r out i).length=out.length:=by simp [fp]
theorem wb {p j:Nat} {r:List Int} {out:List (List Int)} {i t:Nat} (h:t < out.length):(fp p j r out i).getD t []=if t < i then uO p j r (out.getD t []) else out.getD t []:=by
 simp [fp,List.getD,List.getElem?_map,List.getElem?_range h]
theorem Bj (p j:Nat) (r:List Int) (out:List (List Int)):fp p j r out 0=out:=by
 refine List.ext_getElem (by simp [fp]) fun t h1 h2=>?_
 simp [fp,List.getD,List.getElem?_eq_getElem h2]
theorem Dh {p j:Nat} {r:List Int} {out:List (List Int)} {i:Nat} (h:i < out.length):(fp p j r out i).set i (uO p j r (out.getD i []))=fp p j r out (i + 1):=by
 refine List.ext_getElem (by simp [fp]) fun t h1 h2=>?_
 have ht:t < out.length:=by simpa [fp] using h2
 rw [List.getElem_set]
 by_cases e:i=t
 ·subst e; simp [fp]
 rw [if_neg e]
 simp only [fp,List.getElem_map,List.getElem_range]
 by_cases e2:t < i
 ·rw [if_pos e2,if_pos (by omega)]
 rw [if_neg e2,if_neg (by omega)]
theorem aC {α:Type} {l:List α} {i:Nat} {d:α} (h:i < l.length):l.getD i d∈l:=by simp [List.getD,List.getElem?_eq_getElem h]
structure RI (p W:Nat) (S:List (List Int) × List Int):Prop where
 l1:S.2.length=S.1.length
 l2:∀ v∈S.1,v.length=W
 l3:∀ v∈S.1,eB p v
 l4:∀ i,i < S.2.length→0≤S.2.getD i 0∧S.2.getD i 0 < W
theorem wT {p j:Nat} {r:List Int} {out:List (List Int)} {i:Nat} {v:List Int} (h:v∈fp p j r out i):∃ b∈out,v=b∨v=uO p j r b:=by
 obtain ⟨t,ht,rfl⟩:=List.mem_map.1 h
 have:=List.mem_range.1 ht
 refine ⟨out.getD t [],aC this,?_⟩
 split
 ·exact .inr rfl
 exact .inl rfl
theorem Cf {p W:Nat} (hp:0 < p) {S:List (List Int) × List Int} (h:RI p W S) {r:List Int} (hr:r.length=W) (hg:eB p r):RI p W (ph p S r):=by
 unfold ph
 split
 ·exact h
 rename_i j hj
 obtain ⟨j1,j2,_⟩:=cF hj
 rw [iC] at j1
 refine ⟨by simp [jG,h.l1],fun v hv=>?_,fun v hv=>?_,fun i hi=>?_⟩
 ·rcases List.mem_append.1 hv with hv | hv
  ·obtain ⟨b,b1,rfl | rfl⟩:=wT hv
   ·exact h.l2 _ b1
   rw [CV]; exact h.l2 _ b1
  rw [List.mem_singleton.1 hv,wJ,iC,hr]
 ·rcases List.mem_append.1 hv with hv | hv
  ·obtain ⟨b,b1,rfl | rfl⟩:=wT hv
   ·exact h.l3 _ b1
   exact FQ hp (h.l3 _ b1)
  rw [List.mem_singleton.1 hv]; exact vg hp (lR hp hg _)
 simp only [List.length_append,List.length_singleton] at hi
 by_cases e:i < S.2.length
 ·have:=h.l4 i e
  simpa [List.getD,List.getElem?_append_left e] using this
 have e2:i=S.2.length:=by omega
 subst e2
 simp [List.getD]
 omega
theorem fD {p W:Nat} (hp:0 < p) {M:List (List Int)} (h1:∀ v∈M,v.length=W) (h2:∀ v∈M,eB p v):∀ k,k≤M.length→RI p W (cA p M k)
 | 0,_=>⟨rfl,fun v hv=>by simp [cA] at hv,fun v hv=>by simp [cA] at hv,fun i hi=>by simp [cA] at hi⟩
 | k + 1,hk=>Cf hp (fD hp h1 h2 k (by omega)) (h1 _ (aC (by omega))) (h2 _ (aC (by omega)))
theorem A3 (p:Nat) (S:List (List Int) × List Int) (r:List Int):(ph p S r).1.length≤S.1.length + 1:=by
 unfold ph; split
 ·omega
 simp [jG]
theorem gQ (p:Nat) (M:List (List Int)):∀ k,(cA p M k).1.length≤k
 | 0=>Nat.le_refl _
 | k + 1=>by have:=A3 p (cA p M k) (M.getD k []); have:=gQ p M k; rw [cA]; omega
theorem cH {α:Type} (l:List α) (x d:α):(l++[x]).getD l.length d=x:=by simp [List.getD]
theorem eS {α:Type} {l:List α} (x d:α) {i:Nat} (h:i < l.length):(l++[x]).getD i d=l.getD i d:=by simp [List.getD,List.getElem?_append_left h]
theorem gO {α:Type} (l:List α) (x y:α):(l++[x]).set l.length y=l++[y]:=by simp
theorem yL {p:Nat} (hp:p≤1000000) {x k b:Int} (h1:0≤x∧x < p) (h2:0≤k∧k < p) (h3:0≤b∧b < p):ah (k * b)∧ah (x - k * b):=by
 have:=jP hp h2.1 h2.2 h3.1 h3.2
 simp only [ah]; omega
theorem nv {S s:St} {W q L:Nat} {a:List Int} {M:List (List Int)} (hn:S.n=s.n) (hH:S.H=s.H) (e:s.H = .own (b8 2 W q) :: .own (ol a) :: tl M) (hL:M.length + 2=L) (hq:q≤M.length) (hsl:∀ p∈S.sl,s.get p.1=p.2∧bb L p.2=true):Le (List.range L) S s:=by
 have e1:s.H.length=L:=by rw [e]; simp [aD]; omega
 subst e1
 refine nW hn hH (fun b hb=>?_) hsl
 rw [e] at hb
 rcases List.mem_cons.1 hb with rfl | hb
 ·exact ji (by omega)
 rcases List.mem_cons.1 hb with rfl | hb
 ·exact fV _ _
 exact qY _ _ b hb
set_option maxHeartbeats 4000000 in
set_option maxRecDepth 20000 in
theorem sF {p W:Nat} (hp2:2≤p) (hp:p≤1000000) (hW:0 < W) (hW2:W≤1000) (M:List (List Int)) (hM:M.length≤1000) (h1:∀ v∈M,v.length=W) (h2:∀ v∈M,eB p v) :
  bL Tryd.prog 77 [.int .i64 p,.list (ll M)] (.tup [.list (ll (cA p M M.length).1),.list (il (cA p M M.length).2)]):=by
 refine aK ae Tryd.func77 rfl (by kernel_rfl) (by rw [Tryd.ntmps77]; exact Nat.le_add_left 2 _) ?_; rw [Tryd.ntmps77]
 refine qm ?_
 refine ab fun K hK=>aa ae ?_
 simp only [ak,fl,gp,aj,simprocAttr]
 refine af trivial (hK _ ?_)<;>clear hK K
 refine qa (qm ?_)
 refine ab fun K hK=>aa ae ?_
 simp only [ak,fl,gp,aj,simprocAttr]
 refine af trivial (hK _ ?_)<;>clear hK K
 refine qa (qm ?_)
 refine ab fun K hK=>aa ae ?_
 simp only [ak,fl,gp,aj,simprocAttr]
 refine af trivial (hK _ ?_)<;>clear hK K
 refine qa (qm (qm ?_))
 refine cu 6 rfl ?_
 refine cu 7 rfl ?_
 refine ab fun K hK=>aa ae ?_
 simp only [ak,fl,gp,aj,simprocAttr,ay]
 refine af trivial (hK _ ?_)<;>clear hK K
 refine qa (ql ?_)
 refine aB (ι:=Nat) (fun k=>⟨153,[(0,.p (.int .i64 p)),(6,.sl 0 0 (cA p M k).1.length),(7,.sl 1 0 (cA p M k).1.length),(21,.p (.list (ll M))),(22,.p (.int .i64 M.length)),(23,.p (.int .i64 k))],.own (b8 2 W (cA p M k).1.length) :: .own (ol (cA p M k).2) :: tl (cA p M k).1⟩) (fun k=>k≤M.length) (fun k=>M.length - k) 0 (Nat.zero_le _) [0,1] (by simp only [leq,bw,ak,fl,gp,aj,simprocAttr]<;>simp [cA,b8,tl,km,kf]) fun k hk=>?_
 have hri:=fD (W:=W) (p:=p) (by omega) h1 h2 k hk
 have hql:=gQ p M k
 have hsucc:cA p M (k + 1)=ph p (cA p M k) (M.getD k []):=rfl
 generalize hS:cA p M k=S at *
 obtain ⟨out,at'⟩:=S
 obtain ⟨l1,l2,l3,l4⟩:=hri
 simp only at l1 l2 l3 l4 hql hsucc
 obtain ⟨q,hq⟩:∃ q,out.length=q:=⟨_,rfl⟩
 simp only [hq] at l1 ⊢
 refine qm ?_
 refine ab fun K hK=>aa ae ?_
 simp only [ak,fl,gp,aj,simprocAttr]
 refine af trivial (hK _ ?_)<;>clear hK K
 refine qa (qm ?_)
 refine ao rfl (fun hC1=>?_) (fun hC1=>?_)
 ·(try simp only [aH] at hC1)
  have hkl:k < M.length:=by omega
  obtain ⟨r,hr⟩:∃ r,M.getD k []=r:=⟨_,rfl⟩
  have hrl:r.length=W:=by rw [← hr]; exact h1 _ (aC hkl)
  have hrg:eB p r:=by rw [← hr]; exact h2 _ (aC hkl)
  have hrn:r ≠ []:=by intro e; rw [e] at hrl; simp at hrl; omega
  rw [hr] at hsucc
  refine qh (qa (qm (ql (qm ?_))))
  refine ab fun K hK=>aa ae ?_
  simp only [ak,fl,gp,aj,simprocAttr,ay,dI hkl,hr]
  refine af ?_ (hK _ ?_)<;>clear hK K
  ·omega
  refine qa (qm ?_)
  refine ab fun K hK=>aa ae ?_
  simp only [ak,fl,gp,aj,simprocAttr]
  refine an trivial (kC (wY r hrn (by omega)) rfl rfl (by first|rfl|(simp [Ec,bb,bq,bF]; done)|(simp only [Ec,List.all_cons,List.all_nil,fV,Bool.and_true]; rfl)) (by simp only [au,Nat.reduceLT]) (by repeat (first|exact trivial|constructor)) (aa ae ?_))
  simp only [Go.Pv.jU,List.range',aM.bg,k7,bg,bu,ak,fl,gp,aj,simprocAttr,aD,hq]
  refine af trivial (hK _ ?_)<;>clear hK K
  refine qa (qm (qm ?_))
  refine ab fun K hK=>aa ae ?_
  simp only [ak,fl,gp,aj,simprocAttr]
  refine af trivial (hK _ ?_)<;>clear hK K
  refine qa (ql ?_)
  refine aB (ι:=Nat) (fun i=>⟨153,[(0,.p (.int .i64 p)),(6,.sl 0 0 q),(7,.sl 1 0 q),(9,.sl (q + 2) 0 W),(21,.p (.list (ll M))),(22,.p (.int .i64 M.length)),(23,.p (.int .i64 k)),(29,.sl 0 0 q),(30,.p (.int .i64 q)),(31,.p (.int .i64 i))],.own (b8 2 W q) :: .own (ol at') :: tl (out++[mT p out at' r i])⟩) (fun i=>i≤q) (fun i=>q - i) 0 (Nat.zero_le _) (List.range (q + 3)) (nv (W:=W) (q:=q) (a:=at') (M:=out++[r]) rfl (by simp [mT,tl]) (by simp [tl]) (by simp [hq]) (by simp [hq]) (by
   simp [St.get,lk,bb,bq,hrl])) fun i hi=>?_
  obtain ⟨x,hx⟩:∃ x,mT p out at' r i=x:=⟨_,rfl⟩
  have hxl:x.length=W:=by rw [← hx,iC,hrl]
  have hxg:eB p x:=by rw [← hx]; exact lR (by omega) hrg i
  rw [hx]
  refine qm ?_
  refine ab fun K hK=>aa ae ?_
  simp only [ak,fl,gp,aj,simprocAttr]
  refine af trivial (hK _ ?_)<;>clear hK K
  refine qa (qm ?_)
  refine ao rfl (fun hC2=>?_) (fun hC2=>?_)
  ·(try simp only [aH] at hC2)
   have hiq:i < q:=by omega
   obtain ⟨b,hb⟩:∃ b,out.getD i []=b:=⟨_,rfl⟩
   have hbl:b.length=W:=by rw [← hb]; exact l2 _ (aC (by omega))
   have hbg:eB p b:=by rw [← hb]; exact l3 _ (aC (by omega))
   obtain ⟨c,hc⟩:∃ c:Nat,at'.getD i 0=(c:Int):=⟨(at'.getD i 0).toNat,by have:=l4 i (by omega); omega⟩
   have hcW:c < W:=by have:=l4 i (by omega); omega
   have hgx:aq (tl (out++[x])) q = .own (ol x):=by rw [aU (by simp [hq]),← hq,cH]
   have hgb:∀ y,aq (tl (out++[y])) i = .own (ol b):=fun y=>by rw [aU (by simp [hq]; omega),eS _ _ (by omega),hb]
   have hsx:mT p out at' r (i + 1)=if x.getD c 0=0 then x else Bg p (x.getD c 0) x b:=by
    rw [mT,hx,hc,Int.toNat_natCast,hb]
   have hxc:=hxg c
   refine qh (qa (qm (ql (qm ?_))))
   refine ab fun K hK=>aa ae ?_
   simp only [ak,fl,gp,aj,simprocAttr,br,lC hiq]
   refine af ?_ (hK _ ?_)<;>clear hK K
   ·omega
   refine qa (qm ?_)
   refine ab fun K hK=>aa ae ?_
   simp only [ak,fl,gp,aj,simprocAttr,bB (show i < at'.length by omega),hc,gS,hgx,bB (show c < x.length by omega)]
   refine af ?_ (hK _ ?_)<;>clear hK K
   ·omega
   refine qa (qm ?_)
   refine ab fun K hK=>aa ae ?_
   simp only [ak,fl,gp,aj,simprocAttr]
   refine af trivial (hK _ ?_)<;>clear hK K
   refine qa ?_
   refine ao rfl (fun hC3=>?_) (fun hC3=>?_)
   ·(try simp only [aH] at hC3)
    have hne:¬ x.getD c 0=0:=by omega
    rw [if_neg hne] at hsx
    refine qm ?_
    refine ab fun K hK=>aa ae ?_
    simp only [ak,fl,gp,aj,simprocAttr]
    refine af trivial (hK _ ?_)<;>clear hK K
    refine qa (ql ?_)
    refine aB (ι:=Nat) (fun j=>⟨153,[(0,.p (.int .i64 p)),(6,.sl 0 0 q),(7,.sl 1 0 q),(9,.sl (q + 2) 0 W),(11,.sl (i + 2) 0 W),(12,.p (.int .i64 (x.getD c 0))),(21,.p (.list (ll M))),(22,.p (.int .i64 M.length)),(23,.p (.int .i64 k)),(29,.sl 0 0 q),(30,.p (.int .i64 q)),(31,.p (.int .i64 i)),(46,.p (.int .i64 W)),(47,.p (.int .i64 j))],.own (b8 2 W q) :: .own (ol at') :: tl (out++[cN (yB p (x.getD c 0) x b) 0 j x])⟩) (fun j=>j≤W) (fun j=>W - j) 0 (Nat.zero_le _) (List.range (q + 3)) (nv (W:=W) (q:=q) (a:=at') (M:=out++[x]) rfl (by rw [db]) rfl (by simp [hq]) (by simp [hq]) (by
     simp [St.get,lk,bb,bq]<;>omega)) fun j hj=>?_
    obtain ⟨y,hy⟩:∃ y,cN (yB p (x.getD c 0) x b) 0 j x=y:=⟨_,rfl⟩
    have hyl:y.length=W:=by rw [← hy,bC,hxl]
    rw [hy]
    refine qm ?_
    refine ab fun K hK=>aa ae ?_
    simp only [ak,fl,gp,aj,simprocAttr]
    refine af trivial (hK _ ?_)<;>clear hK K
    refine qa (qm ?_)
    refine ao rfl (fun hC4=>?_) (fun hC4=>?_)
    ·(try simp only [aH] at hC4)
     have hjW:j < W:=by omega
     have hyj:y.getD j 0=x.getD j 0:=by rw [← hy,dh (by omega),if_neg (by omega)]
     have hgy:aq (tl (out++[y])) q = .own (ol y):=by rw [aU (by simp [hq]),← hq,cH]
     have hsy:∀ w,aE (tl (out++[y])) q (.own (ol w))=tl (out++[w]):=fun w=>by rw [ie,← hq,gO]
     have hst:y.set j ((x.getD j 0 - x.getD c 0 * b.getD j 0) % (p:Int))=cN (yB p (x.getD c 0) x b) 0 (j + 1) x:=by
      rw [← hy]; exact fY (f:=yB p (x.getD c 0) x b) (Nat.zero_le j) (by omega)
     have hrn:=yL hp (hxg j) hxc (hbg j)
     have ht1:=Int.lt_tmod_of_pos (x.getD j 0 - x.getD c 0 * b.getD j 0) (show (0:Int) < p by omega)
     have ht2:=Int.tmod_lt_of_pos (x.getD j 0 - x.getD c 0 * b.getD j 0) (show (0:Int) < p by omega)
     refine qh (qa (qm (ql (qm ?_))))
     refine ab fun K hK=>aa ae ?_
     simp only [ak,fl,gp,aj,simprocAttr]
     refine af trivial (hK _ ?_)<;>clear hK K
     refine qa ?_
     refine ba mixed (by kernel_rfl) fun K hK=>aa ae ?_
     simp only [ak,fl,gp,aj,simprocAttr,gS,Bd,hgy,hgb,bB (show j < y.length by omega),bB (show j < b.length by omega),hyj,AK (show 0 < p by omega),dV,hsy,hst]
     refine af ?_ (hK _ ?_)<;>clear hK K
     ·simp only [ah] at *; omega
     refine qd (qa ?_)
     refine ab fun K hK=>aa ae ?_
     simp only [ak,fl,gp,aj,simprocAttr]
     refine af ?_ (hK _ ?_)<;>clear hK K
     ·first|exact trivial|omega|(simp only [ah] at *; omega)|(simp [ah] at *; omega)|simp_all
     refine qa ?_
     refine ⟨j + 1,List.range (q + 3),by omega,by omega,nv (W:=W) (q:=q) (a:=at') (M:=out++[cN (yB p (x.getD c 0) x b) 0 (j + 1) x]) rfl rfl rfl (by simp [hq]) (by simp [hq]) (by
      simp [St.get,lk,bb,bq]<;>omega)⟩
    (try simp only [aH] at hC4)
    have hjW:j=W:=by omega
    have hye:Bg p (x.getD c 0) x b=y:=by rw [← hy,Bg,hxl,hjW]
    rw [hye] at hsx
    refine qj (qc (qc (qf (qd (qa ?_)))))
    refine ab fun K hK=>aa ae ?_
    simp only [ak,fl,gp,aj,simprocAttr]
    refine af ?_ (hK _ ?_)<;>clear hK K
    ·first|exact trivial|omega|(simp only [ah] at *; omega)|(simp [ah] at *; omega)|simp_all
    refine qa ?_
    refine ⟨i + 1,List.range (q + 3),by omega,by omega,nv (W:=W) (q:=q) (a:=at') (M:=out++[y]) rfl (by rw [hsx]) rfl (by simp [hq]) (by simp [hq]) (by
     simp [St.get,lk,bb,bq]<;>omega)⟩
   (try simp only [aH] at hC3)
   have hze:x.getD c 0=0:=by omega
   rw [if_pos hze] at hsx
   refine qh (qd (qa ?_))
   refine ab fun K hK=>aa ae ?_
   simp only [ak,fl,gp,aj,simprocAttr]
   refine af ?_ (hK _ ?_)<;>clear hK K
   ·first|exact trivial|omega|(simp only [ah] at *; omega)|(simp [ah] at *; omega)|simp_all
   refine qa ?_
   refine ⟨i + 1,List.range (q + 3),by omega,by omega,nv (W:=W) (q:=q) (a:=at') (M:=out++[x]) rfl (by rw [hsx]) rfl (by simp [hq]) (by simp [hq]) (by
    simp [St.get,lk,bb,bq]<;>omega)⟩
  (try simp only [aH] at hC2)
  have hiq:i=q:=by omega
  have hxq:mT p out at' r out.length=x:=by rw [hq,← hiq]; exact hx
  have hixf:HN (fun z=>decide (¬ z=0)) x=match Ep x with | some i=>(i:Int) | none=>-1:=rfl
  have hgx:∀ y,aq (tl (out++[y])) q = .own (ol y):=fun y=>by rw [aU (by simp [hq]),← hq,cH]
  have htk:List.take W x=x:=List.take_of_length_le (by omega)
  refine qj (qc (qc (qf (qa (qm ?_)))))
  refine ab fun K hK=>aa ae ?_
  simp only [ak,fl,gp,aj,simprocAttr]
  refine an ?_ (al (b:=false) (tI x _ [] (fun z=>decide (¬ z=0)) (by omega) (fun z _=>ym z)) rfl (by simp only [gk,cq,dK,dB,List.map_cons,List.map_nil,List.append_nil,bY,ak,fl,gp,aj,simprocAttr,gS,hgx,htk,List.drop_zero,r9,wC,fZ,jF,iF,aI,List.length_replicate,List.take_replicate,Nat.min_self]; rfl) rfl (by simp only [au,Nat.reduceLT]) ?_ (aa ae ?_))
  ·first|exact trivial|omega|(simp only [ah] at *; omega)|(simp [ah] at *; omega)|simp_all
  ·first|exact trivial|omega|(simp only [ah] at *; omega)|(simp [ah] at *; omega)|simp_all
  simp only [ak,fl,gp,aj,simprocAttr]
  refine af trivial (hK _ ?_)<;>clear hK K
  refine qa (qm (qm ?_))
  refine ab fun K hK=>aa ae ?_
  simp only [ak,fl,gp,aj,simprocAttr]
  refine af trivial (hK _ ?_)<;>clear hK K
  refine qa ?_
  refine ao rfl (fun hC5=>?_) (fun hC5=>?_)
  ·(try simp only [aH] at hC5)
   have hf:Ep x=none:=by
    cases hf:Ep x with
    | none=>rfl
    | some j=>rw [hf] at hixf; simp only at hixf; rw [hixf] at hC5; omega
   have hst:cA p M (k + 1)=(out,at'):=by rw [hsucc]; unfold ph; simp only [hxq,hf]
   refine qj (qc (qf (qa ?_)))
   refine ab fun K hK=>aa ae ?_
   simp only [ak,fl,gp,aj,simprocAttr]
   refine af ?_ (hK _ ?_)<;>clear hK K
   ·first|exact trivial|omega|(simp only [ah] at *; omega)|(simp [ah] at *; omega)|simp_all
   refine qa ?_
   refine ⟨k + 1,0 :: 1 :: List.range' 2 q,by omega,by omega,?_⟩
   rw [hst]
   simp only [hq]
   refine xa (W:=W) (q:=q) (a:=at') (M:=out) rfl rfl hq ⟨by omega,by omega,by omega⟩ rfl rfl (fun i hi=>?_) (by simp [jS,St.get,lk,Go.Pv.bg,bu,bb,bq])
   rw [Nat.add_comm 2 i,gS,aU (by simp [hq]; omega),eS _ _ (by omega)]
  (try simp only [aH] at hC5)
  obtain ⟨j,hj⟩:∃ j,Ep x=some j:=by
   cases hf:Ep x with
   | none=>rw [hf] at hixf; simp only at hixf; rw [hixf] at hC5; omega
   | some j=>exact ⟨j,rfl⟩
  rw [hj] at hixf
  simp only at hixf
  have hjW:j < W:=by have:=(cF hj).1; omega
  rw [hixf]
  obtain ⟨kk,hkk⟩:∃ kk,dL p (x.getD j 0)=kk:=⟨_,rfl⟩
  have hkr:0≤kk∧kk < p:=by rw [← hkk]; exact kL hp2 _
  refine qh (qa (qm ?_))
  refine ab fun K hK=>aa ae ?_
  simp only [ak,fl,gp,aj,simprocAttr,gS,hgx,bB (show j < x.length by omega)]
  refine an ?_ (al (tM hp2 hp (hxg j).1 (by have:=(hxg j).2; omega)) rfl rfl rfl (by simp only [au,Nat.reduceLT]) (by repeat (first|exact trivial|constructor)) (aa ae ?_))
  ·omega
  simp only [ak,fl,gp,aj,simprocAttr,hkk,gS,hgx,bB (show j < x.length by omega)]
  refine af ?_ (hK _ ?_)<;>clear hK K
  ·first|exact trivial|omega|(simp only [ah] at *; omega)|(simp [ah] at *; omega)|simp_all
  refine qa (qm (qm ?_))
  refine ab fun K hK=>aa ae ?_
  simp only [ak,fl,gp,aj,simprocAttr]
  refine af trivial (hK _ ?_)<;>clear hK K
  refine qa (ql ?_)
  refine aB (ι:=Nat) (fun i=>⟨153,[(0,.p (.int .i64 p)),(6,.sl 0 0 q),(7,.sl 1 0 q),(9,.sl (q + 2) 0 W),(14,.p (.int .i64 j)),(15,.p (.int .i64 kk)),(21,.p (.list (ll M))),(22,.p (.int .i64 M.length)),(23,.p (.int .i64 k)),(83,.p (.int .i64 W)),(84,.p (.int .i64 i))],.own (b8 2 W q) :: .own (ol at') :: tl (out++[cN (yN p kk x) 0 i x])⟩) (fun i=>i≤W) (fun i=>W - i) 0 (Nat.zero_le _) (List.range (q + 3)) (nv (W:=W) (q:=q) (a:=at') (M:=out++[x]) rfl (by rw [db]) rfl (by simp [hq]) (by simp [hq]) (by
   simp [St.get,lk,bb,bq]<;>omega)) fun i hi=>?_
  obtain ⟨y,hy⟩:∃ y,cN (yN p kk x) 0 i x=y:=⟨_,rfl⟩
  have hyl:y.length=W:=by rw [← hy,bC,hxl]
  rw [hy]
  refine qm ?_
  refine ab fun K hK=>aa ae ?_
  simp only [ak,fl,gp,aj,simprocAttr]
  refine af trivial (hK _ ?_)<;>clear hK K
  refine qa (qm ?_)
  refine ao rfl (fun hC6=>?_) (fun hC6=>?_)
  ·(try simp only [aH] at hC6)
   have hiW:i < W:=by omega
   have hyi:y.getD i 0=x.getD i 0:=by rw [← hy,dh (by omega),if_neg (by omega)]
   have hsy:∀ w,aE (tl (out++[y])) q (.own (ol w))=tl (out++[w]):=fun w=>by rw [ie,← hq,gO]
   have hst:y.set i (x.getD i 0 * kk % (p:Int))=cN (yN p kk x) 0 (i + 1) x:=by
    rw [← hy]; exact fY (f:=yN p kk x) (Nat.zero_le i) (by omega)
   have hm:=jP hp (hxg i).1 (hxg i).2 hkr.1 hkr.2
   have htm:Int.tmod (x.getD i 0 * kk) p=x.getD i 0 * kk % p:=Int.tmod_eq_emod_of_nonneg hm.1
   refine qh (qa (qm (ql (qm ?_))))
   refine ab fun K hK=>aa ae ?_
   simp only [ak,fl,gp,aj,simprocAttr]
   refine af trivial (hK _ ?_)<;>clear hK K
   refine qa ?_
   refine ab fun K hK=>aa ae ?_
   simp only [ak,fl,gp,aj,simprocAttr,gS,Bd,hgx,bB (show i < y.length by omega),hyi,htm,dV,hsy,hst]
   refine af ?_ (hK _ ?_)<;>clear hK K
   ·simp only [ah] at *; omega
   refine qd (qa ?_)
   refine ab fun K hK=>aa ae ?_
   simp only [ak,fl,gp,aj,simprocAttr]
   refine af ?_ (hK _ ?_)<;>clear hK K
   ·first|exact trivial|omega|(simp only [ah] at *; omega)|(simp [ah] at *; omega)|simp_all
   refine qa ?_
   refine ⟨i + 1,List.range (q + 3),by omega,by omega,nv (W:=W) (q:=q) (a:=at') (M:=out++[cN (yN p kk x) 0 (i + 1) x]) rfl rfl rfl (by simp [hq]) (by simp [hq]) (by
    simp [St.get,lk,bb,bq]<;>omega)⟩
  (try simp only [aH] at hC6)
  have hiW:i=W:=by omega
  have hye:As p kk x=y:=by rw [← hy,As,hxl,hiW]
  have hyg:eB p y:=by rw [← hye]; exact vg (by omega) hxg
  have hsuc2:cA p M (k + 1)=(fp p j y out q++[y],at'++[(j:Int)]):=by
   rw [hsucc]; unfold ph; simp only [hq] at hxq ⊢; simp only [hxq,hj,hkk,hye]
  refine qj (qc (qc (qf (qa (qm (qm ?_))))))
  refine ab fun K hK=>aa ae ?_
  simp only [ak,fl,gp,aj,simprocAttr]
  refine af trivial (hK _ ?_)<;>clear hK K
  refine qa (ql ?_)
  refine aB (ι:=Nat) (fun i=>⟨153,[(0,.p (.int .i64 p)),(6,.sl 0 0 q),(7,.sl 1 0 q),(9,.sl (q + 2) 0 W),(14,.p (.int .i64 j)),(21,.p (.list (ll M))),(22,.p (.int .i64 M.length)),(23,.p (.int .i64 k)),(99,.sl 0 0 q),(100,.p (.int .i64 q)),(101,.p (.int .i64 i))],.own (b8 2 W q) :: .own (ol at') :: tl (fp p j y out i++[y])⟩) (fun i=>i≤q) (fun i=>q - i) 0 (Nat.zero_le _) (List.range (q + 3)) (nv (W:=W) (q:=q) (a:=at') (M:=out++[y]) rfl (by rw [Bj]) rfl (by simp [hq]) (by simp [hq]) (by
   simp [St.get,lk,bb,bq]<;>omega)) fun i hi=>?_
  have hbl:=jG p j y out i
  refine qm ?_
  refine ab fun K hK=>aa ae ?_
  simp only [ak,fl,gp,aj,simprocAttr]
  refine af trivial (hK _ ?_)<;>clear hK K
  refine qa (qm ?_)
  refine ao rfl (fun hC7=>?_) (fun hC7=>?_)
  ·(try simp only [aH] at hC7)
   have hiq:i < q:=by omega
   obtain ⟨b,hb⟩:∃ b,out.getD i []=b:=⟨_,rfl⟩
   have hbl2:b.length=W:=by rw [← hb]; exact l2 _ (aC (by omega))
   have hbg:eB p b:=by rw [← hb]; exact l3 _ (aC (by omega))
   have hbi:(fp p j y out i).getD i []=b:=by rw [wb (by omega),if_neg (by omega),hb]
   have hgb:aq (tl (fp p j y out i++[y])) i = .own (ol b):=by rw [aU (by simp [hbl]; omega),eS _ _ (by omega),hbi]
   have hsn:=Dh (p:=p) (j:=j) (r:=y) (show i < out.length by omega)
   rw [hb] at hsn
   have hbj:=hbg j
   refine qh (qa (qm (ql (qm ?_))))
   refine ab fun K hK=>aa ae ?_
   simp only [ak,fl,gp,aj,simprocAttr,br,lC hiq]
   refine af ?_ (hK _ ?_)<;>clear hK K
   ·omega
   refine qa (qm ?_)
   refine ab fun K hK=>aa ae ?_
   simp only [ak,fl,gp,aj,simprocAttr,gS,hgb,bB (show j < b.length by omega)]
   refine af ?_ (hK _ ?_)<;>clear hK K
   ·omega
   refine qa (qm ?_)
   refine ab fun K hK=>aa ae ?_
   simp only [ak,fl,gp,aj,simprocAttr]
   refine af trivial (hK _ ?_)<;>clear hK K
   refine qa ?_
   refine ao rfl (fun hC8=>?_) (fun hC8=>?_)
   ·(try simp only [aH] at hC8)
    have hne:¬ b.getD j 0=0:=by omega
    have hbk:uO p j y b=Bg p (b.getD j 0) b y:=by unfold uO; rw [if_neg hne]
    have hset0:(fp p j y out i).set i b=fp p j y out i:=by
     refine List.ext_getElem (by simp) fun t g1 g2=>?_
     rw [List.getElem_set]
     split
     ·rename_i e
      subst e
      rw [List.getD_eq_getElem?_getD,List.getElem?_eq_getElem g2] at hbi
      exact hbi.symm
     rfl
    refine qm ?_
    refine ab fun K hK=>aa ae ?_
    simp only [ak,fl,gp,aj,simprocAttr]
    refine af trivial (hK _ ?_)<;>clear hK K
    refine qa (ql ?_)
    refine aB (ι:=Nat) (fun m=>⟨153,[(0,.p (.int .i64 p)),(6,.sl 0 0 q),(7,.sl 1 0 q),(9,.sl (q + 2) 0 W),(14,.p (.int .i64 j)),(17,.p (.int .i64 i)),(18,.sl (i + 2) 0 W),(19,.p (.int .i64 (b.getD j 0))),(21,.p (.list (ll M))),(22,.p (.int .i64 M.length)),(23,.p (.int .i64 k)),(99,.sl 0 0 q),(100,.p (.int .i64 q)),(101,.p (.int .i64 i)),(113,.p (.int .i64 W)),(114,.p (.int .i64 m))],.own (b8 2 W q) :: .own (ol at') :: tl ((fp p j y out i).set i (cN (yB p (b.getD j 0) b y) 0 m b)++[y])⟩) (fun m=>m≤W) (fun m=>W - m) 0 (Nat.zero_le _) (List.range (q + 3)) (nv (W:=W) (q:=q) (a:=at') (M:=fp p j y out i++[y]) rfl (by rw [db,hset0]) rfl (by simp [hq,hbl]) (by simp [hq,hbl]) (by
     simp [St.get,lk,bb,bq]<;>omega)) fun m hm=>?_
    obtain ⟨z,hz⟩:∃ z,cN (yB p (b.getD j 0) b y) 0 m b=z:=⟨_,rfl⟩
    have hzl:z.length=W:=by rw [← hz,bC,hbl2]
    rw [hz]
    refine qm ?_
    refine ab fun K hK=>aa ae ?_
    simp only [ak,fl,gp,aj,simprocAttr]
    refine af trivial (hK _ ?_)<;>clear hK K
    refine qa (qm ?_)
    refine ao rfl (fun hC9=>?_) (fun hC9=>?_)
    ·(try simp only [aH] at hC9)
     have hmW:m < W:=by omega
     have hzm:z.getD m 0=b.getD m 0:=by rw [← hz,dh (by omega),if_neg (by omega)]
     have hgz:aq (tl ((fp p j y out i).set i z++[y])) i = .own (ol z):=by rw [aU (by simp [hbl]; omega),eS _ _ (by simp [hbl]; omega)]; simp [List.getD,hbl,hq,hiq]
     have hgy:aq (tl ((fp p j y out i).set i z++[y])) q = .own (ol y):=by
      rw [aU (by simp [hbl,hq]),show q=((fp p j y out i).set i z).length by simp [hbl,hq],cH]
     have hsz:∀ w,aE (tl ((fp p j y out i).set i z++[y])) i (.own (ol w))=tl ((fp p j y out i).set i w++[y]):=fun w=>by rw [ie,List.set_append_left _ _ (by simp [hbl]; omega),List.set_set]
     have hst:z.set m ((b.getD m 0 - b.getD j 0 * y.getD m 0) % (p:Int))=cN (yB p (b.getD j 0) b y) 0 (m + 1) b:=by
      rw [← hz]; exact fY (f:=yB p (b.getD j 0) b y) (Nat.zero_le m) (by omega)
     have hrn:=yL hp (hbg m) hbj (hyg m)
     have ht1:=Int.lt_tmod_of_pos (b.getD m 0 - b.getD j 0 * y.getD m 0) (show (0:Int) < p by omega)
     have ht2:=Int.tmod_lt_of_pos (b.getD m 0 - b.getD j 0 * y.getD m 0) (show (0:Int) < p by omega)
     refine qh (qa (qm (ql (qm ?_))))
     refine ab fun K hK=>aa ae ?_
     simp only [ak,fl,gp,aj,simprocAttr]
     refine af trivial (hK _ ?_)<;>clear hK K
     refine qa ?_
     refine ba mixed (by kernel_rfl) fun K hK=>aa ae ?_
     simp only [ak,fl,gp,aj,simprocAttr,br,lC hiq,gS,Bd,hgz,hgy,bB (show m < z.length by omega),bB (show m < y.length by omega),hzm,AK (show 0 < p by omega),dV,hsz,hst]
     refine af ?_ (hK _ ?_)<;>clear hK K
     ·simp only [ah] at *; omega
     refine qd (qa ?_)
     refine ab fun K hK=>aa ae ?_
     simp only [ak,fl,gp,aj,simprocAttr]
     refine af ?_ (hK _ ?_)<;>clear hK K
     ·first|exact trivial|omega|(simp only [ah] at *; omega)|(simp [ah] at *; omega)|simp_all
     refine qa ?_
     refine ⟨m + 1,List.range (q + 3),by omega,by omega,nv (W:=W) (q:=q) (a:=at') (M:=(fp p j y out i).set i (cN (yB p (b.getD j 0) b y) 0 (m + 1) b)++[y]) rfl rfl rfl (by simp [hq,hbl]) (by simp [hq,hbl]) (by
      simp [St.get,lk,bb,bq]<;>omega)⟩
    (try simp only [aH] at hC9)
    have hmW:m=W:=by omega
    have hze:uO p j y b=z:=by rw [hbk,← hz,Bg,hbl2,hmW]
    rw [hze] at hsn
    refine qj (qc (qc (qf (qd (qa ?_)))))
    refine ab fun K hK=>aa ae ?_
    simp only [ak,fl,gp,aj,simprocAttr]
    refine af ?_ (hK _ ?_)<;>clear hK K
    ·first|exact trivial|omega|(simp only [ah] at *; omega)|(simp [ah] at *; omega)|simp_all
    refine qa ?_
    refine ⟨i + 1,List.range (q + 3),by omega,by omega,nv (W:=W) (q:=q) (a:=at') (M:=(fp p j y out i).set i z++[y]) rfl (by rw [hsn]) rfl (by simp [hq,hbl]) (by simp [hq,hbl]) (by
     simp [St.get,lk,bb,bq]<;>omega)⟩
   (try simp only [aH] at hC8)
   have hze:b.getD j 0=0:=by omega
   have hbk:uO p j y b=b:=by unfold uO; rw [if_pos hze]
   have hset0:(fp p j y out i).set i b=fp p j y out i:=by
    refine List.ext_getElem (by simp) fun t g1 g2=>?_
    rw [List.getElem_set]
    split
    ·rename_i e
     subst e
     rw [List.getD_eq_getElem?_getD,List.getElem?_eq_getElem g2] at hbi
     exact hbi.symm
    rfl
   rw [hbk,hset0] at hsn
   refine qh (qd (qa ?_))
   refine ab fun K hK=>aa ae ?_
   simp only [ak,fl,gp,aj,simprocAttr]
   refine af ?_ (hK _ ?_)<;>clear hK K
   ·first|exact trivial|omega|(simp only [ah] at *; omega)|(simp [ah] at *; omega)|simp_all
   refine qa ?_
   refine ⟨i + 1,List.range (q + 3),by omega,by omega,nv (W:=W) (q:=q) (a:=at') (M:=fp p j y out i++[y]) rfl (by rw [hsn]) rfl (by simp [hq,hbl]) (by simp [hq,hbl]) (by
    simp [St.get,lk,bb,bq]<;>omega)⟩
  (try simp only [aH] at hC7)
  have hiq:i=q:=by omega
  rw [hiq]
  obtain ⟨X,hX⟩:∃ X,tl (fp p j y out q++[y])=X:=⟨_,rfl⟩
  have hXl:X.length=q + 1:=by rw [← hX,aD]; simp [jG,hq]
  have hXg:∀ b,aq (X++[b]) (q + 1)=b:=fun b=>by rw [← hXl]; exact a8 X b
  have hat:List.take q at' = at':=List.take_of_length_le (by omega)
  have hrw:List.take q (b8 2 W q)=b8 2 W q:=kS rfl
  rw [hX]
  refine qj (qc (qc (qf (qa ?_))))
  refine ab fun K hK=>aa ae ?_
  simp only [ak,fl,gp,aj,simprocAttr,hXl,gS,hXg,List.length_append,hat,hrw,gh,qW,br,l1]
  refine an ?_ (eM (ca ae rfl rfl rfl rfl rfl rfl) rfl (by simp only [au,Nat.reduceLT]) (aa ae ?_))
  ·first|exact trivial|omega|(simp only [ah] at *; omega)|(simp [ah] at *; omega)|simp_all
  simp only [ak,fl,gp,aj,simprocAttr,hXl,List.length_append,hXl,gS,hXg,List.length_append,hat,hrw,gh,qW,br,l1]
  refine af ?_ (hK _ ?_)<;>clear hK K
  ·exact ⟨⟨vE _ _ _,by omega,by omega,by omega⟩,by omega,by omega,by omega⟩
  refine qd (qa ?_)
  refine ab fun K hK=>aa ae ?_
  simp only [ak,fl,gp,aj,simprocAttr]
  refine af ?_ (hK _ ?_)<;>clear hK K
  ·first|exact trivial|omega|(simp only [ah] at *; omega)|(simp [ah] at *; omega)|simp_all
  refine qa ?_
  refine ⟨k + 1,(q + 4) :: (q + 5) :: List.range' 2 (q + 1),by omega,by omega,?_⟩
  rw [hsuc2]
  have e1:(fp p j y out q++[y]).length=q + 1:=by simp [jG,hq]
  simp only [e1]
  refine xa (W:=W) (q:=q + 1) (a:=at'++[(j:Int)]) (M:=fp p j y out q++[y]) rfl rfl e1 ⟨by omega,by omega,by omega⟩ ?_ ?_ (fun i hi=>?_) (by simp [jS,St.get,lk,Go.Pv.bg,bu,bb,bq])
  ·exact GG hXl _ _ _
  ·exact GP hXl _ _ _
  rw [Nat.add_comm 2 i]
  show aq (X++_++_++_) i=_
  rw [Ff (by omega),← hX,aU (by omega)]
 (try simp only [aH] at hC1)
 have hkM:k=M.length:=by omega
 refine qj (qc (qc (qf (qa (qm ?_)))))
 have hMk:cA p M M.length=(out,at'):=by rw [← hkM]; exact hS
 refine kY 6 0 2 q hq l2 rfl (.inl (by omega)) rfl (fun i hi=>?_) fun H' a1 a2=>?_
 ·rw [Nat.add_comm 2 i,gS,aU (by omega)]
 refine n4 7 1 (w:=at') ?_ ?_ ?_
 ·simp [St.get,lk,l1]
 ·show aq H' 1=_
  rw [a2 1 (by omega) (by omega)]; rfl
 rw [hMk]
 refine ab fun K hK=>aa ae ?_
 simp only [ak,fl,gp,aj,simprocAttr]
 refine af trivial (hK _ ?_)<;>clear hK K
 refine qa (qk ?_)
 simp only [Tryd.results77,bY,ak,fl,gp,aj,simprocAttr]
 all_goals ((first|exact rfl|exact ⟨rfl,rfl⟩|exact ⟨rfl,rfl,rfl⟩|exact ⟨trivial,rfl⟩|exact ⟨Nat.le_refl _,rfl⟩|trivial|(simp; done)))
end Go.Proofs.YtjlmpmidchddjaaDoor
namespace Go.Pv
open Go.RowKit
section
variable {P:Program} {T:TypeId→Option TI} {s:St}
section
variable {C:Ctx} {m:Map} {tmps:Array Value} {w:World}
end
end
open Go.RowKit
section
variable {P:Program} {T:TypeId→Option TI} {s:St}
theorem xA (hT:∀ t ti,T t=some ti→bp P t=some ti) {o:Oper} {t t2:TypeId} {x y:Operand} (ho:o.op = .call { callee:=.builtin .copy,args:=#[x,y],argTypes:=#[t,t2] }) {ti te:TI} (ht:T t=some ti) {e:TypeId} (hk:ti.kind = .slice e) (hte:T e=some te) (hsz:te.size=1)
  {k L:Nat} {c:List AV} {v:List Int} (hx:s.ev x = .sl k 0 L) (hy:s.ev y = .p (.list (il v))) (hg:aq s.H k = .own c) (hle:L≤c.length) (hv0:v.length≤L) (hv1:0 < v.length):eZ P o s (.p (.int .i64 v.length)) (aE s.H k (.own (iD c 0 (ol v)))):=by
 intro C m a w K Q R hK
 obtain ⟨dst,op,type,pos,after,guard⟩:=o
 simp only at ho
 subst ho
 have hu:=cR (hT _ _ ht) hk
 obtain ⟨i,d,z',h1,h2,h3,h4,h5,h6,h7,h8⟩:=aY (hT _ _ hte)
 have hv:=R.ev x
 rw [hx] at hv
 obtain ⟨news,⟨⟨ax,cx,hsl⟩,hfc⟩,hnl,hnv⟩:=fM (P:=P) R (x:=y) (p:=(il v).all PV.one=true) (xs:=(il v).map .p) (by rw [hy]; rfl) (iF v)
 have hnl' : news.length=v.length:=by rw [hnl]; simp [il]
 have hnint:∀ j,j < v.length→news.getD j undef = .int .i64 (v.getD j 0):=fun j hj=>by
  have h:=hnv j (by simp [il]; exact hj)
  have e:((il v).map AV.p)[j]'(by simp [il]; exact hj) = .p (.int .i64 (v.getD j 0)):=by
   simp [il,List.getD,List.getElem?_eq_getElem hj]
  rw [e] at h
  exact h.aP.dy
 refine eF (by rfl) ?_
 unfold Oper.wp
 generalize hvx:a.eval x=vx at hv
 cases hv with
 | sl _ _ _ _ hkl hs =>
  rcases hs with ⟨hn,_⟩ | ⟨l,cap,hm,rfl,hc1,hc2⟩
  ·omega
  rcases R.blk k c (bh hg) with ⟨_,hn⟩ | ⟨l',cur,e',hm2,hB,hh,hs1,hs3,hs2,hcells⟩
  ·rw [hm] at hn; cases hn
  rw [hm] at hm2; cases hm2
  have hst:=run_storeCells_at P l.g (l.o + 0) e' news 0 cur w hh (by simp; omega) (fun u hu=>by
   obtain ⟨j,hj⟩:=List.getElem?_of_mem hu
   have hjl:j < v.length:=by have:=(List.getElem?_eq_some_iff.1 hj).1; omega
   have:=hnint j hjl
   rw [List.getD_eq_getElem?_getD,hj,Option.getD_some] at this
   rw [this]; rfl)
  simp only [Nat.add_zero] at hst
  have hf:=hfc w rfl
  have hmin:v.length.min L=v.length:=Nat.min_eq_left (by omega)
  rw [hnl'] at hf
  have hlo:(Builtin.lenOf (a.eval y)).run P w = .ok news.length w:=by rw [hsl]; rfl
  have hss:(sizeOf e).run P w = .ok 1 w:=by simp [sizeOf,typeInfo,h1,h4,hsz]
  have hc:(Builtin.copy_ #[t,t2] type #[.slice (some ⟨l.g,l.o,none⟩) L cap,a.eval y]).run P w = .ok (.int .i64 v.length) (w.setRow l.g (cur.toList.take l.o++news++cur.toList.drop (l.o + news.length)).toArray):=by
   simp [Builtin.copy_,run_underlying hu,hlo,hss,hnl',hmin,hf,hst,goInt]
  have hrun:(execOp a.eval { dst:=dst,op:=.call { callee:=.builtin .copy,args:=#[x,y],argTypes:=#[t,t2] },type:=type,pos:=pos,after:=after,guard:=guard }).run P w = .ok (.value (.int .i64 v.length)) (w.setRow l.g (cur.toList.take l.o++news++cur.toList.drop (l.o + news.length)).toArray):=by
   simp only [BigFrame.execOp_builtin,BigFrame.builtin_copy,List.map_toArray,List.map_cons,List.map_nil,hvx,Nat.add_zero,Sem.run_bind,hc,Result.andThen_ok,Sem.run_pure]
  rw [hrun]
  have g3:0 + (ol v).length≤c.length:=by rw [cV]; omega
  refine hK _ m _ ?_ (.p _ _ (.int _ _))
  refine R.vt (bh hg) hm ?_ ?_ (setRow_heap w l.g cur _ e' _ hh) ?_ ?_ ?_
  ·exact ⟨rfl,rfl,rfl,by simp [World.setRow],fun b hb=>setRow_other w l.g b _ (fun e=>hb (by rw [e]; exact hB)),Nat.le_refl _⟩
  ·exact fun b hb=>setRow_other w l.g b _ hb
  ·simp only [List.size_toArray,List.length_append,List.length_take,List.length_drop,Array.length_toList]
   omega
  ·rw [gw _ _ _ g3]; exact hs2
  refine pn g3 (fun j hj hn=>?_) fun j hj=>?_
  ·have:=@eV cur news l.o (l.o + j) (by omega)
   rw [cV] at hn
   rw [this,if_neg (by omega)]
   exact hcells j hj
  have:=@eV cur news l.o (l.o + (0 + j)) (by omega)
  rw [cV] at hj
  rw [this,if_pos (by omega),show l.o + (0 + j) - l.o=j by omega]
  have h:=hnv j (by simp [il]; exact hj)
  have e:(ol v)[j]'(by rw [cV]; exact hj)=((il v).map AV.p)[j]'(by simp [il]; exact hj):=rfl
  rw [e]
  rw [hnint j hj]
  have e2:((il v).map AV.p)[j]'(by simp [il]; exact hj) = .p (.int .i64 (v.getD j 0)):=by
   simp [il,List.getD,List.getElem?_eq_getElem hj]
  rw [e2]
  exact .p _ _ (.int _ _)
end
end Go.Pv
namespace Go.Proofs.YtjlmpmidchddjaaDoor
open Go.Pv
theorem bj (ls:List (List Int)):(ll ls).take ls.length=ll ls:=List.take_of_length_le (by rw [ay]; exact Nat.le_refl _)
theorem ez (ls:List (List Int)) (x:List Int):(ll (ls++[x])).take (ls.length + 1)=ll (ls++[x]):=List.take_of_length_le (by rw [ay]; simp)
theorem Br {n:Nat} {r:List Int} (h:r.length=n) (h0:0 < n):iD (ol (List.replicate (n + n) 0)) 0 (ol r)=ol (r++List.replicate n 0):=by
 have e:(ol (List.replicate (n + n) 0)).drop n=ol (List.replicate n 0):=by rw [r9,List.drop_replicate,Nat.add_sub_cancel]
 unfold iD
 split
 ·rename_i x hx
  have h1:r.length=1:=by rw [← cV r,hx]; rfl
  have hn:n=1:=by omega
  subst hn
  match r,h1 with
  | [y],_ =>
   simp only [ol,il,List.map_cons,List.map_nil,List.cons.injEq,and_true] at hx
   subst hx
   rfl
 rw [List.take_zero,List.nil_append,Nat.zero_add,cV,h,e,qD]
theorem C5 {n:Nat} {r:List Int} {i:Nat} (h:r.length=n):(r++List.replicate n 0).set (n + i) 1=r++(List.replicate n (0:Int)).set i 1:=by
 rw [List.set_append_right _ _ (by omega),h,Nat.add_sub_cancel_left]
theorem yJ {n:Nat} {m:List (List Int)} (hm:∀ v∈m,v.length=n) {i:Nat} (hi:i < m.length):(oC n m i).length=n + n:=by
 have:=hm _ (aC (d:=[]) hi)
 simp only [oC,List.length_append,List.length_set,List.length_replicate,this]
theorem Bz {p n:Nat} (hp:2≤p) {m:List (List Int)} (hm:∀ v∈m,v.length=n) (hg:∀ v∈m,eB p v) {i:Nat} (hi:i < m.length):eB p (oC n m i):=fun j=>by
 have hl:=hm _ (aC (d:=[]) hi)
 have h1:=hg _ (aC (d:=[]) hi)
 unfold oC
 by_cases hj:j < n
 ·rw [List.getD_eq_getElem?_getD,List.getElem?_append_left (by omega),← List.getD_eq_getElem?_getD]; exact h1 j
 rw [List.getD_eq_getElem?_getD,List.getElem?_append_right (by omega),List.getElem?_set]
 split
 ·split
  ·simp only [Option.getD_some]; omega
  simp only [Option.getD_none]; omega
 rw [List.getElem?_replicate]
 split
 ·simp only [Option.getD_some]; omega
 simp only [Option.getD_none]; omega
theorem dm (n:Nat) (m:List (List Int)) (i:Nat):(exts n m i).length=i:=by simp [exts]
theorem xO (n:Nat) (m:List (List Int)) (i:Nat):exts n m (i + 1)=exts n m i++[oC n m i]:=by simp [exts,List.range_succ]
theorem pq {n:Nat} {m:List (List Int)} (hm:∀ v∈m,v.length=n) {i:Nat} (hi:i≤m.length):∀ v∈exts n m i,v.length=n + n:=fun v hv=>by
 obtain ⟨t,ht,rfl⟩:=List.mem_map.1 hv
 exact yJ hm (by have:=List.mem_range.1 ht; omega)
theorem sd {p n:Nat} (hp:2≤p) {m:List (List Int)} (hm:∀ v∈m,v.length=n) (hg:∀ v∈m,eB p v) {i:Nat} (hi:i≤m.length):∀ v∈exts n m i,eB p v:=fun v hv=>by
 obtain ⟨t,ht,rfl⟩:=List.mem_map.1 hv
 exact Bz hp hm hg (by have:=List.mem_range.1 ht; omega)
theorem oD (n:Nat) (S:List (List Int) × List Int):∀ i,(gm n S i).length≤i
 | 0=>Nat.le_refl _
 | i + 1=>by
  have:=oD n S i
  rw [gm]; split
  ·simp; omega
  omega
set_option maxHeartbeats 4000000 in
set_option maxRecDepth 20000 in
theorem y9 {p n:Nat} (hp2:2≤p) (hp:p≤1000000) (hn:0 < n) (hn2:n≤100) (m:List (List Int)) (hm:m.length=n) (h1:∀ v∈m,v.length=n) (h2:∀ v∈m,eB p v) :
  bL Tryd.prog 79 [.int .i64 p,.list (ll m)] (.list (ll (dY p m))):=by
 have hmn:(m.length:Int)=(n:Int):=by omega
 have h2n:(2:Int) * (n:Int)=((n + n:Nat):Int):=by omega
 refine aK ae Tryd.func79 rfl (by kernel_rfl) (by rw [Tryd.ntmps79]; exact Nat.le_add_left 2 _) ?_; rw [Tryd.ntmps79]
 refine qm ?_
 refine ab fun K hK=>aa ae ?_
 simp only [ak,fl,gp,aj,simprocAttr]
 refine af trivial (hK _ ?_)<;>clear hK K
 refine qa (qm ?_)
 refine ab fun K hK=>aa ae ?_
 simp only [ak,fl,gp,aj,simprocAttr,ay,hmn]
 refine af trivial (hK _ ?_)<;>clear hK K
 refine qa (qm ?_)
 refine ab fun K hK=>aa ae ?_
 simp only [ak,fl,gp,aj,simprocAttr]
 refine af trivial (hK _ ?_)<;>clear hK K
 refine qa (qm (qm ?_))
 refine cu 6 rfl ?_
 refine ab fun K hK=>aa ae ?_
 simp only [ak,fl,gp,aj,simprocAttr,ay,hmn]
 refine af trivial (hK _ ?_)<;>clear hK K
 refine qa (ql ?_)
 refine aB (ι:=Nat) (fun k=>⟨67,[(0,.p (.int .i64 p)),(5,.p (.int .i64 n)),(6,.sl 0 0 k),(17,.p (.list (ll m))),(18,.p (.int .i64 n)),(19,.p (.int .i64 k))],.own (b8 1 (n + n) k) :: tl (exts n m k)⟩) (fun k=>k≤n) (fun k=>n - k) 0 (Nat.zero_le _) [0] (by simp only [leq,bw,ak,fl,gp,aj,simprocAttr]<;>simp [exts,b8,tl,kf]) fun k hk=>?_
 refine qm ?_
 refine ab fun K hK=>aa ae ?_
 simp only [ak,fl,gp,aj,simprocAttr]
 refine af trivial (hK _ ?_)<;>clear hK K
 refine qa (qm ?_)
 refine ao rfl (fun hC1=>?_) (fun hC1=>?_)
 ·(try simp only [aH] at hC1)
  have hkn:k < m.length:=by omega
  obtain ⟨r,hr⟩:∃ r,m.getD k []=r:=⟨_,rfl⟩
  have hrl:r.length=n:=by rw [← hr]; exact h1 _ (aC hkn)
  have hgX:∀ y,aq (tl (exts n m k)++[y]) k=y:=fun y=>by
   have:=a8 (tl (exts n m k)) y
   rwa [aD,dm] at this
  have hsX:∀ y z,aE (tl (exts n m k)++[y]) k z=tl (exts n m k)++[z]:=fun y z=>by
   rw [c6,List.set_append_right _ _ (by rw [aD,dm]; exact Nat.le_refl _),aD,dm,Nat.sub_self]; rfl
  have hex:(r++List.replicate n 0).set (n + k) 1=oC n m k:=by rw [C5 hrl,oC,hr]
  refine qh (qa (qm (ql (qm ?_))))
  refine ab fun K hK=>aa ae ?_
  simp only [ak,fl,gp,aj,simprocAttr,ay,dI hkn,hr]
  refine af ?_ (hK _ ?_)<;>clear hK K
  ·omega
  refine qa (qm ?_)
  refine ab fun K hK=>aa ae ?_
  simp only [ak,fl,gp,aj,simprocAttr,h2n,aD,dm,b9]
  refine af ?_ (hK _ ?_)<;>clear hK K
  ·simp only [ah]; omega
  refine qa (qm ?_)
  refine ab fun K hK=>aa ae ?_
  simp only [ak,fl,gp,aj,simprocAttr]
  refine an ?_ (eM (xA (k:=k + 1) (L:=n + n) (v:=r) (c:=ol (List.replicate (n + n) 0)) ae rfl rfl rfl rfl rfl rfl rfl (hgX _) (by rw [cV,List.length_replicate]; exact Nat.le_refl _) (by omega) (by omega)) rfl (by simp only [au,Nat.reduceLT]) (aa ae ?_))
  ·first|exact trivial|omega|(simp only [ah] at *; omega)|(simp [ah] at *; omega)|simp_all
  simp only [ak,fl,gp,aj,simprocAttr]
  refine af ?_ (hK _ ?_)<;>clear hK K
  ·first|exact trivial|omega|(simp only [ah] at *; omega)|(simp [ah] at *; omega)|simp_all
  refine qa (qm ?_)
  rw [hsX,Br hrl hn]
  have htn:((n:Int) + (k:Int)).toNat=n + k:=by omega
  refine ab fun K hK=>aa ae ?_
  simp only [ak,fl,gp,aj,simprocAttr,htn,hex,dE,uh,hgX,hsX,cV,dV]
  refine af ?_ (hK _ ?_)<;>clear hK K
  ·simp only [ah,List.length_append,List.length_replicate,hrl]; omega
  refine qa ?_
  obtain ⟨X,hX⟩:∃ X,tl (exts n m k)++[.own (ol (oC n m k))]=X:=⟨_,rfl⟩
  have hXl:X.length=k + 1:=by rw [← hX]; simp [aD,dm]
  have hXg:∀ b,aq (X++[b]) (k + 1)=b:=fun b=>by rw [← hXl]; exact a8 X b
  have hrw:List.take k (b8 1 (n + n) k)=b8 1 (n + n) k:=kS rfl
  rw [hX]
  refine ab fun K hK=>aa ae ?_
  simp only [ak,fl,gp,aj,simprocAttr,hXl,dE,hXg,List.length_append,hrw,gh,br]
  refine an ?_ (eM (ca ae rfl rfl rfl rfl rfl rfl) rfl (by simp only [au,Nat.reduceLT]) (aa ae ?_))
  ·first|exact trivial|omega|(simp only [ah] at *; omega)|(simp [ah] at *; omega)|simp_all
  simp only [ak,fl,gp,aj,simprocAttr,hXl,List.length_append,hXl,dE,hXg,List.length_append,hrw,gh,br]
  refine af ?_ (hK _ ?_)<;>clear hK K
  ·exact ⟨vE _ _ _,by omega,by omega,by omega⟩
  refine qd (qa ?_)
  refine ab fun K hK=>aa ae ?_
  simp only [ak,fl,gp,aj,simprocAttr]
  refine af ?_ (hK _ ?_)<;>clear hK K
  ·first|exact trivial|omega|(simp only [ah] at *; omega)|(simp [ah] at *; omega)|simp_all
  refine qa ?_
  refine ⟨k + 1,(k + 3) :: List.range' 1 (k + 1),by omega,by omega,?_⟩
  refine Ah (W:=n + n) (q:=k + 1) (M:=exts n m (k + 1)) rfl rfl (dm _ _ _) (.inr (by omega)) ?_ (fun i hi=>?_) (by simp [jS,St.get,lk,Go.Pv.bg,bu,bb,bq])
  ·exact G6 hXl _ _
  rw [Nat.add_comm 1 i]
  show aq (X++_++_) i=_
  rw [Gu (by omega),← hX,ln,← xO,aU (by rw [dm]; omega)]
 (try simp only [aH] at hC1)
 have hkn:k=n:=by omega
 rw [hkn]
 have hml:(exts n m n).length=n:=dm _ _ _
 have hMr:=pq (n:=n) h1 (i:=n) (by omega)
 have hMg:=sd (n:=n) hp2 h1 h2 (i:=n) (by omega)
 refine qj (qc (qc (qf (qa (qm ?_)))))
 refine kY 6 0 1 n hml hMr rfl (.inl (by omega)) rfl (fun i hi=>?_) fun H' a1 a2=>?_
 ·rw [Nat.add_comm 1 i,dE,aU (by omega)]
 refine ab fun K hK=>aa ae ?_
 simp only [ak,fl,gp,aj,simprocAttr]
 refine an trivial (al (sF hp2 hp (show 0 < n + n by omega) (by omega) (exts n m n) (by omega) hMr hMg) rfl rfl rfl (by simp only [au,Nat.reduceLT]) (by repeat (first|exact trivial|constructor)) (aa ae ?_))
 simp only [ak,fl,gp,aj,simprocAttr]
 refine af trivial (hK _ ?_)<;>clear hK K
 refine qa (qm ?_)
 obtain ⟨S,hS⟩:∃ S,cA p (exts n m n) (exts n m n).length=S:=⟨_,rfl⟩
 have hri:=fD (W:=n + n) (p:=p) (by omega) hMr hMg (exts n m n).length (Nat.le_refl _)
 have hql:=gQ p (exts n m n) (exts n m n).length
 have hker:dY p m=gm n S S.1.length:=by unfold dY; rw [hm,← hS,hml]
 rw [hker]
 rw [hS] at hri hql ⊢
 rw [hml] at hql
 clear hker hS
 obtain ⟨out,at'⟩:=S
 obtain ⟨l1,l2,l3,l4⟩:=hri
 simp only at l1 l2 l3 l4 hql ⊢
 have hHl:H'.length=n + 1:=by rw [a1]; simp [aD,dm]
 refine ab fun K hK=>aa ae ?_
 simp only [ak,fl,gp,aj,simprocAttr]
 refine af trivial (hK _ ?_)<;>clear hK K
 refine qa (qm (qm ?_))
 refine cu 12 rfl ?_
 refine ab fun K hK=>aa ae ?_
 simp only [ak,fl,gp,aj,simprocAttr,ay,hHl]
 refine af trivial (hK _ ?_)<;>clear hK K
 refine qa (ql ?_)
 refine aB (ι:=Nat) (fun i=>⟨67,[(5,.p (.int .i64 n)),(11,.p (.list (il at'))),(12,.sl 0 0 (gm n (out,at') i).length),(46,.p (.list (ll out))),(47,.p (.int .i64 out.length)),(48,.p (.int .i64 i))],[.own (bF (ll (gm n (out,at') i)))]⟩) (fun i=>i≤out.length) (fun i=>out.length - i) 0 (Nat.zero_le _) [n + 1] (mL rfl (by simp) rfl (fun j hj=>by
  have:j=0:=by simpa using hj
  subst this
  exact rz (l:=[]) (by show aq (H'++[.own []]) (n + 1)=_; rw [← hHl]; exact a8 H' _)) (by simp [jS,St.get,lk,Go.Pv.bg,bu,bb,bq,gm])) fun i hi=>?_
 have hkl:=oD n (out,at') i
 refine qm ?_
 refine ab fun K hK=>aa ae ?_
 simp only [ak,fl,gp,aj,simprocAttr]
 refine af trivial (hK _ ?_)<;>clear hK K
 refine qa (qm ?_)
 refine ao rfl (fun hC2=>?_) (fun hC2=>?_)
 ·(try simp only [aH] at hC2)
  have hil:i < out.length:=by omega
  refine qh (qa (qm (ql (qm ?_))))
  refine ab fun K hK=>aa ae ?_
  simp only [ak,fl,gp,aj,simprocAttr,ay,dI hil]
  refine af ?_ (hK _ ?_)<;>clear hK K
  ·first|exact trivial|omega|(simp only [ah] at *; omega)|(simp [ah] at *; omega)|simp_all
  refine qa (qm ?_)
  refine ab fun K hK=>aa ae ?_
  simp only [ak,fl,gp,aj,simprocAttr,aT (show i < at'.length by omega)]
  refine af ?_ (hK _ ?_)<;>clear hK K
  ·first|exact trivial|omega|(simp only [ah] at *; omega)|(simp [ah] at *; omega)|simp_all
  refine qa ?_
  refine ao rfl (fun hC3=>?_) (fun hC3=>?_)
  ·(try simp only [aH] at hC3)
   have hge:(n:Int)≤at'.getD i 0:=by omega
   have hker:gm n (out,at') (i + 1)=gm n (out,at') i++[(out.getD i []).drop n]:=by rw [gm,if_pos hge]
   have hol:(out.getD i []).length=n + n:=l2 _ (aC hil)
   refine ab fun K hK=>aa ae ?_
   simp only [ak,fl,gp,aj,simprocAttr]
   refine af ?_ (hK _ ?_)<;>clear hK K
   ·exact ⟨by omega,uU (by rw [bj]; exact jf _),by omega,by omega,by omega⟩
   refine qd (qa ?_)
   rw [bj,cB,← hker,show (gm n (out,at') i).length + 1=(gm n (out,at') (i + 1)).length by rw [hker]; simp]
   refine ab fun K hK=>aa ae ?_
   simp only [ak,fl,gp,aj,simprocAttr]
   refine af ?_ (hK _ ?_)<;>clear hK K
   ·first|exact trivial|omega|(simp only [ah] at *; omega)|(simp [ah] at *; omega)|simp_all
   refine qa ?_
   refine ⟨i + 1,[1],by omega,by omega,?_⟩
   simp only [leq,bw,ak,fl,gp,aj,simprocAttr]<;>first|trivial|(rw [bj]; done)|skip
  (try simp only [aH] at hC3)
  have hge:¬ (n:Int)≤at'.getD i 0:=by omega
  have hker:gm n (out,at') (i + 1)=gm n (out,at') i:=by rw [gm,if_neg hge]
  refine qh (qd (qa ?_))
  refine ab fun K hK=>aa ae ?_
  simp only [ak,fl,gp,aj,simprocAttr]
  refine af ?_ (hK _ ?_)<;>clear hK K
  ·first|exact trivial|omega|(simp only [ah] at *; omega)|(simp [ah] at *; omega)|simp_all
  refine qa ?_
  refine ⟨i + 1,[0],by omega,by omega,?_⟩
  rw [hker]
  simp only [leq,bw,ak,fl,gp,aj,simprocAttr]<;>first|trivial|(rw [bj]; done)|skip
 (try simp only [aH] at hC2)
 have hio:i=out.length:=by omega
 rw [hio]
 refine qj (qc (qc (qf (qa (qm ?_)))))
 refine ab fun K hK=>aa ae ?_
 simp only [ak,fl,gp,aj,simprocAttr]
 refine af trivial (hK _ ?_)<;>clear hK K
 refine qa (qk ?_)
 simp only [Tryd.results79,bY,ak,fl,gp,aj,simprocAttr]
 all_goals (exact ⟨⟨Nat.le_refl _,by rw [bj]; exact jf _⟩,bj _⟩)
def cU:List (List (List Int))→Nat
 | []=>0
 | s :: r=>1 + s.length + cU r
def gF (b:Nat):List (List (List Int))→List AV
 | []=>[]
 | s :: r=>.sl b 0 s.length :: gF (b + 1 + s.length) r
def im (W b:Nat):List (List (List Int))→aw
 | []=>[]
 | s :: r=>.own (b8 (b + 1) W s.length) :: (tl s++im W (b + 1 + s.length) r)
theorem so (b:Nat):∀ Sp,(gF b Sp).length=Sp.length:=fun Sp=>by
 induction Sp generalizing b with
 | nil=>rfl
 | cons s r ih=>simp [gF,ih]
theorem cD (W b:Nat):∀ Sp,(im W b Sp).length=cU Sp:=fun Sp=>by
 induction Sp generalizing b with
 | nil=>rfl
 | cons s r ih=>simp [im,cU,ih,aD]; omega
theorem z7 (Sp:List (List (List Int))) (s:List (List Int)):cU (Sp++[s])=cU Sp + (1 + s.length):=by
 induction Sp with
 | nil=>simp [cU]
 | cons t r ih=>simp [cU,ih]; omega
theorem Bi (b:Nat) (Sp:List (List (List Int))) (s:List (List Int)):gF b (Sp++[s])=gF b Sp++[.sl (b + cU Sp) 0 s.length]:=by
 induction Sp generalizing b with
 | nil=>simp [gF,cU]
 | cons t r ih=>simp [gF,cU,ih]; omega
theorem AT (W b:Nat) (Sp:List (List (List Int))) (s:List (List Int)):im W b (Sp++[s])=im W b Sp++(.own (b8 (b + cU Sp + 1) W s.length) :: tl s):=by
 induction Sp generalizing b with
 | nil=>simp [im,cU]
 | cons t r ih =>
  simp only [List.cons_append,im,ih,cU,List.append_assoc]
  rw [show b + 1 + t.length + cU r + 1=b + (1 + t.length + cU r) + 1 by omega]
theorem nK (W b:Nat) (Sp:List (List (List Int))):∀ j,j < cU Sp→(∃ v,aq (im W b Sp) j = .own (ol v))∨∃ d q,aq (im W b Sp) j = .own (b8 d W q)∧b≤d∧d + q≤b + cU Sp:=by
 induction Sp generalizing b with
 | nil=>intro j hj; simp [cU] at hj
 | cons s r ih =>
  intro j hj
  simp only [cU] at hj
  match j,hj with
  | 0,_=>exact .inr ⟨b + 1,s.length,rfl,by omega,by simp only [cU]; omega⟩
  | j + 1,hj =>
   simp only [im,dE]
   by_cases h:j < s.length
   ·exact .inl ⟨_,zA h⟩
   rw [aX (by rw [aD]; omega),aD]
   rcases ih (b + 1 + s.length) (j - s.length) (by omega) with h | ⟨d,q,h1,h2,h3⟩
   ·exact .inl h
   exact .inr ⟨d,q,h1,by omega,by simp only [cU]; omega⟩
theorem rO (b:Nat) (Sp:List (List (List Int))):∀ x∈gF b Sp,∃ c l,x = .sl c 0 l∧b≤c∧c < b + cU Sp:=by
 induction Sp generalizing b with
 | nil=>intro x hx; simp [gF] at hx
 | cons s r ih =>
  intro x hx
  rcases List.mem_cons.1 hx with rfl | hx
  ·exact ⟨b,s.length,rfl,Nat.le_refl _,by simp only [cU]; omega⟩
  obtain ⟨c,l,e,h1,h2⟩:=ih _ x hx
  exact ⟨c,l,e,by omega,by simp only [cU]; omega⟩
theorem ED (b:Nat) (Sp:List (List (List Int))):(gF b Sp).all bn=true:=by
 rw [List.all_eq_true]
 intro x hx
 obtain ⟨c,l,rfl,_⟩:=rO b Sp x hx
 rfl
theorem zZ {π:List Nat} {H:aw} {k b:Nat} {Sp:List (List (List Int))} (h:aq H k = .own (gF b Sp)) (hp:∀ c,b≤c→c < b + cU Sp→c < π.length∧π.getD c 0=c):jN π H k (.own (gF b Sp)):=by
 simp only [jN,h]
 refine ⟨?_,?_⟩
 ·rw [List.take_of_length_le (Nat.le_refl _)]
  have:=List.map_congr_left (f:=Go.Pv.bg π) (g:=id) (l:=gF b Sp) fun x hx=>by
   obtain ⟨c,l,rfl,h1,h2⟩:=rO b Sp x hx
   simp only [Go.Pv.bg,bu,(hp c h1 h2).2,id]
  rw [this,List.map_id]
 rw [List.all_eq_true]
 intro x hx
 obtain ⟨c,l,rfl,h1,h2⟩:=rO b Sp x hx
 have:=(hp c h1 h2).1
 simp [bb,bq]; omega
theorem yM {π:List Nat} {H:aw} {W b k j:Nat} {Sp:List (List (List Int))} (hj:j < cU Sp) (h:aq H k=aq (im W b Sp) j) (hp:∀ c,b≤c→c < b + cU Sp→c < π.length∧π.getD c 0=c):jN π H k (aq (im W b Sp) j):=by
 rcases nK W b Sp j hj with ⟨v,hv⟩ | ⟨d,q,hv,h1,h2⟩
 ·rw [hv] at h ⊢; exact iE h
 rw [hv] at h ⊢; exact jv h fun i hi=>hp _ (by omega) (by omega)
theorem jt {κ a n c:Nat} {r:List Nat} (h1:1≤c) (h2:c < 1 + n):c < (κ :: (List.range' 1 n++r)).length∧(κ :: (List.range' 1 n++r)).getD c 0=c:=by
 obtain ⟨c,rfl⟩:∃ d,c=d + 1:=⟨c - 1,by omega⟩
 refine ⟨by simp; omega,?_⟩
 rw [List.getD_cons_succ,List.getD_eq_getElem?_getD,List.getElem?_append_left (by simp; omega),List.getElem?_range' (by omega)]
 simp; omega
theorem nX {κ n:Nat} {r:List Nat} {j:Nat} : (κ :: (List.range' 1 n++r)).getD (1 + n + j) 0=r.getD j 0:=by
 rw [show 1 + n + j=n + j + 1 by omega,List.getD_cons_succ,List.getD_eq_getElem?_getD,List.getElem?_append_right (by simp),List.length_range',Nat.add_sub_cancel_left,List.getD_eq_getElem?_getD]
theorem oX {S s:St} {κ0 W:Nat} {Sp:List (List (List Int))} (hn:S.n=s.n) (hS:S.H = .own (gF 1 Sp) :: im W 1 Sp) (hd:κ0 < 1∨1 + cU Sp≤κ0) (g0:aq s.H κ0 = .own (gF 1 Sp)) (g1:∀ j,j < cU Sp→aq s.H (1 + j)=aq (im W 1 Sp) j)
  (hsl:jS (κ0 :: (List.range' 1 (cU Sp)++[])) S.sl s):Le (κ0 :: (List.range' 1 (cU Sp)++[])) S s:=by
 refine mL hn ?_ ?_ (fun j hj=>?_) hsl
 ·rw [List.append_nil]
  refine List.nodup_cons.2 ⟨?_,List.nodup_range'⟩
  simp only [List.mem_range'_1]; omega
 ·rw [hS]; simp [cD]
 rw [hS] at hj ⊢
 match j,hj with
 | 0,_=>exact zZ g0 fun c h1 h2=>jt (a:=0) h1 h2
 | j + 1,hj =>
  have hjq:j < cU Sp:=by simpa [cD] using hj
  have:=(jt (κ:=κ0) (a:=0) (n:=cU Sp) (c:=j + 1) (r:=[]) (by omega) (by omega)).2
  rw [this,dE]
  exact yM hjq (by rw [Nat.add_comm j 1]; exact g1 j hjq) fun c h1 h2=>jt (a:=0) h1 h2
theorem vN {S s:St} {κ0 κ1 d k W z:Nat} {Sp:List (List (List Int))} {M:List (List Int)} (hz:cU Sp=z) (hM:M.length=k) (hn:S.n=s.n) (hS:S.H = .own (gF 1 Sp) :: (im W 1 Sp++(.own (b8 (z + 2) W k) :: tl M)))
  (hd:(κ0 < 1∨1 + z≤κ0)∧1 + z≤κ1∧1 + z≤d∧κ0 ≠ κ1∧(κ0 < d∨d + k≤κ0)∧(κ1 < d∨d + k≤κ1)) (g0:aq s.H κ0 = .own (gF 1 Sp)) (g1:∀ j,j < z→aq s.H (1 + j)=aq (im W 1 Sp) j) (g2:aq s.H κ1 = .own (b8 d W k)) (g3:∀ i,i < k→aq s.H (d + i) = .own (ol (M.getD i [])))
  (hsl:jS (κ0 :: (List.range' 1 z++(κ1 :: List.range' d k))) S.sl s):Le (κ0 :: (List.range' 1 z++(κ1 :: List.range' d k))) S s:=by
 subst hz
 refine mL hn ?_ ?_ (fun j hj=>?_) hsl
 ·refine List.nodup_cons.2 ⟨?_,List.nodup_append.2 ⟨List.nodup_range',List.nodup_cons.2 ⟨?_,List.nodup_range'⟩,fun a ha b hb=>?_⟩⟩
  ·simp only [List.mem_append,List.mem_cons,List.mem_range'_1]; omega
  ·simp only [List.mem_range'_1]; omega
  simp only [List.mem_cons,List.mem_range'_1] at ha hb; omega
 ·rw [hS]; simp [cD,aD,hM]
 rw [hS] at hj ⊢
 match j,hj with
 | 0,_=>exact zZ g0 fun c h1 h2=>jt (a:=0) h1 h2
 | j + 1,hj =>
  rw [dE]
  by_cases hjq:j < cU Sp
  ·have:=(jt (κ:=κ0) (a:=0) (n:=cU Sp) (c:=j + 1) (r:=κ1 :: List.range' d k) (by omega) (by omega)).2
   rw [this,aF (by rw [cD]; exact hjq)]
   exact yM hjq (by rw [Nat.add_comm j 1]; exact g1 j hjq) fun c h1 h2=>jt (a:=0) h1 h2
  have hjl:j < cU Sp + (1 + k):=by
   simp only [List.length_cons,List.length_append,cD,aD,hM] at hj; omega
  obtain ⟨i,rfl⟩:∃ i,j=cU Sp + i:=⟨j - cU Sp,by omega⟩
  rw [show cU Sp + i + 1=1 + cU Sp + i by omega,nX,aX (by rw [cD]; omega),cD,Nat.add_sub_cancel_left]
  match i with
  | 0 =>
   refine jv g2 fun t ht=>⟨by simp; omega,?_⟩
   rw [show cU Sp + 2 + t=1 + cU Sp + (t + 1) by omega,nX,List.getD_cons_succ,eG ht]
  | i + 1 =>
   have hik:i < k:=by omega
   rw [dE,aU (by omega),List.getD_cons_succ,eG hik]
   exact iE (g3 i hik)
def vI (p:Nat) (m:List (List Int)) (w:List Int) (j k:Nat):List Int:=(List.range m.length).map fun t=>if t < j then Hh p m w t else if t=j then ik p (m.getD t []) w k else 0
theorem Ej (p:Nat) (m:List (List Int)) (w:List Int) (j k:Nat):(vI p m w j k).length=m.length:=by simp [vI]
theorem EC {p:Nat} {m:List (List Int)} {w:List Int} {j k:Nat} (h:j < m.length):(vI p m w j k).getD j 0=ik p (m.getD j []) w k:=by
 simp [vI,List.getD,List.getElem?_map,List.getElem?_range h]
theorem ES {p:Nat} {m:List (List Int)} {w:List Int} {j k:Nat} : (vI p m w j k).set j (ik p (m.getD j []) w (k + 1))=vI p m w j (k + 1):=by
 refine List.ext_getElem (by simp [vI]) fun t h1 h2=>?_
 rw [List.getElem_set]
 by_cases e:j=t
 ·subst e; simp [vI]
 rw [if_neg e]
 simp only [vI,List.getElem_map,List.getElem_range]
 by_cases e2:t < j
 ·rw [if_pos e2,if_pos e2]
 rw [if_neg e2,if_neg e2,if_neg (fun h=>e h.symm),if_neg (fun h=>e h.symm)]
theorem CU {p:Nat} {m:List (List Int)} {w:List Int} {j:Nat} : vI p m w j w.length=vI p m w (j + 1) 0:=by
 refine List.ext_getElem (by simp [vI]) fun t h1 h2=>?_
 simp only [vI,List.getElem_map,List.getElem_range]
 by_cases e2:t < j
 ·rw [if_pos e2,if_pos (by omega)]
 rw [if_neg e2]
 by_cases e3:t=j
 ·rw [if_pos e3,if_pos (by omega),Hh]
 rw [if_neg e3,if_neg (by omega),ik]; split<;>rfl
theorem BO {p:Nat} {m:List (List Int)} {w:List Int} : vI p m w 0 0=List.replicate m.length 0:=by
 refine List.ext_getElem (by simp [vI]) fun t h1 h2=>?_
 simp [vI,ik]
theorem FU {p:Nat} {m:List (List Int)} {w:List Int} {k:Nat} : vI p m w m.length k=qU p m w:=by
 refine List.ext_getElem (by simp [vI,qU]) fun t h1 h2=>?_
 have:t < m.length:=by simpa [qU] using h2
 simp [vI,qU,this]
theorem xp {p:Nat} (hp:0 < p) (b w:List Int):∀ k,0≤ik p b w k∧ik p b w k < p
 | 0=>by simp only [ik]; omega
 | k + 1=>bE hp _
theorem rZ (p:Nat) (m:List (List Int)) (w:List Int):(qU p m w).length=m.length:=by simp [qU]
theorem yZ {p:Nat} (hp:0 < p) (m:List (List Int)) (w:List Int):eB p (qU p m w):=fun j=>by
 by_cases h:j < m.length
 ·have:(qU p m w).getD j 0=ik p (m.getD j []) w w.length:=by simp [qU,Hh,List.getD,List.getElem?_map,List.getElem?_range h]
  rw [this]; exact xp hp _ _ _
 simp [List.getD,List.getElem?_eq_none (show (qU p m w).length≤j by rw [rZ]; omega)]; omega
def rv (v at' : List Int) (q:Nat):List Int:=cN (fun t=>v.getD (at'.getD t 0).toNat 0) 0 q (List.replicate at'.length 0)
theorem Bl {p:Nat} {m:List (List Int)} {at' w:List Int} : rv (qU p m w) at' at'.length=iR p m at' w:=by
 refine List.ext_getElem (by simp [rv,iR,cN]) fun t h1 h2=>?_
 have ht:t < at'.length:=by simpa [iR] using h2
 simp [rv,iR,cN,ht]
theorem jl (p:Nat) (m:List (List Int)) (at' w:List Int):(iR p m at' w).length=at'.length:=by simp [iR]
theorem rM {p:Nat} (hp:0 < p) (m:List (List Int)) (at' w:List Int):eB p (iR p m at' w):=fun j=>by
 by_cases h:j < at'.length
 ·have:(iR p m at' w).getD j 0=(qU p m w).getD (at'.getD j 0).toNat 0:=by simp [iR,List.getD,List.getElem?_map,List.getElem?_eq_getElem h]
  rw [this]; exact yZ hp m w _
 simp [List.getD,List.getElem?_eq_none (show (iR p m at' w).length≤j by rw [jl]; omega)]; omega
theorem lz (p:Nat) (m s:List (List Int)) (at' : List Int) (i:Nat):(fi p m s at' i).length=i:=by simp [fi]
theorem xT (p:Nat) (m s:List (List Int)) (at' : List Int) (i:Nat):fi p m s at' (i + 1)=fi p m s at' i++[iR p m at' (s.getD i [])]:=by simp [fi,List.range_succ]
theorem oY {p:Nat} {m s:List (List Int)} {at' : List Int} {i j:Nat} (h:j < i):(fi p m s at' i).getD j []=iR p m at' (s.getD j []):=by
 simp [fi,List.getD,List.getElem?_map,List.getElem?_range h]
theorem qP (p v:Nat) (a:List (List Int)) (i:Nat):(jM p v a i).length=i:=by simp [jM]
theorem zJ (p v:Nat) (a:List (List Int)) (i:Nat):jM p v a (i + 1)=jM p v a i++[yw p v a i]:=by simp [jM,List.range_succ]
theorem rf (p v:Nat) (a:List (List Int)) (i:Nat):(yw p v a i).length=(a.getD i []).length:=by simp [yw]
theorem vk {p:Nat} (hp:0 < p) {v:Nat} {a:List (List Int)} {i:Nat} (h:eB p (a.getD i [])):eB p (yw p v a i):=fun j=>by
 unfold yw
 rw [List.getD_eq_getElem?_getD,List.getElem?_set]
 split
 ·split
  ·exact bE hp _
  simp only [Option.getD_none]; omega
 rw [← List.getD_eq_getElem?_getD]; exact h j
theorem C3 (p:Nat) (x:Int) (w b:List Int):(Gl p x w b).length=w.length:=bC _ _ _ _
theorem EV {p:Nat} (hp:0 < p) {x:Int} {w b:List Int} (h:eB p w):eB p (Gl p x w b):=nV (fun _=>bE hp _) h
theorem nE (p W:Nat) (s:List (List Int)) (v:List Int):∀ i,(qo p W s v i).length=W
 | 0=>by simp [qo]
 | i + 1=>by rw [qo,C3]; exact nE p W s v i
theorem uY {p:Nat} (hp:0 < p) (W:Nat) (s:List (List Int)) (v:List Int):∀ i,eB p (qo p W s v i)
 | 0=>fun j=>by
  rw [qo,List.getD_eq_getElem?_getD,List.getElem?_replicate]
  split
  ·simp only [Option.getD_some]; omega
  simp only [Option.getD_none]; omega
 | i + 1=>EV hp (uY hp W s v i)
theorem pG {n:Nat} {S:List (List Int) × List Int} : ∀ i,i≤S.1.length→∀ v∈gm n S i,∃ r∈S.1,v=r.drop n
 | 0,_,v,hv=>by simp [gm] at hv
 | i + 1,hi,v,hv=>by
  rw [gm] at hv
  split at hv
  ·rcases List.mem_append.1 hv with hv | hv
   ·exact pG i (by omega) v hv
   exact ⟨_,aC (by omega),List.mem_singleton.1 hv⟩
  exact pG i (by omega) v hv
theorem pH {p n:Nat} (hp:2≤p) {m:List (List Int)} (hm:m.length=n) (h1:∀ v∈m,v.length=n) (h2:∀ v∈m,eB p v):(∀ v∈dY p m,v.length=n∧eB p v)∧(dY p m).length≤n:=by
 have hMr:=pq (n:=n) h1 (i:=n) (by omega)
 have hMg:=sd (n:=n) hp h1 h2 (i:=n) (by omega)
 have hml:(exts n m n).length=n:=dm _ _ _
 have hri:=fD (W:=n + n) (p:=p) (by omega) hMr hMg n (by omega)
 have hql:=gQ p (exts n m n) n
 unfold dY
 rw [hm]
 refine ⟨fun v hv=>?_,Nat.le_trans (oD _ _ _) hql⟩
 obtain ⟨r,r1,rfl⟩:=pG _ (Nat.le_refl _) v hv
 refine ⟨by rw [List.length_drop,hri.l2 r r1]; omega,fun j=>?_⟩
 have:=hri.l3 r r1 (n + j)
 simpa [List.getD,List.getElem?_drop] using this
end Go.Proofs.YtjlmpmidchddjaaDoor
namespace Go.Proofs.YtjlmpmidchddjaaDoor
open Lean.Grind
attribute [local instance] Lean.Grind.Semiring.natCast Lean.Grind.Ring.intCast
section
variable {K:Type} [CommRing K]
structure Rd (K:Type) [CommRing K] (p:Nat):Prop where
 two:2≤p
 fld:my K
 ker:∀ x:Int,(x:K)=0↔x % (p:Int)=0
 fer:∀ x:Int,¬ x % (p:Int)=0→((x ^ (p - 2):Int):K) * (x:K)=1
theorem Rd.mod {p:Nat} (R:Rd K p) (x:Int):((x % (p:Int):Int):K)=(x:K):=by
 have h:(((x - x % (p:Int)):Int):K)=0:=(R.ker _).2 (by rw [Int.sub_emod,qt,Int.sub_self]; rfl)
 rw [Ring.intCast_sub] at h
 grind
theorem Rd.zero {p:Nat} (R:Rd K p) {x:Int} (h:0≤x∧x < p):(x:K)=0↔x=0:=by
 rw [R.ker,Int.emod_eq_of_lt h.1 h.2]
theorem Rd.inv {p:Nat} (R:Rd K p) {x:Int} (h:0≤x∧x < p) (h0:¬ x=0):(x:K) * (dL p x:K)=1:=by
 have:=R.fer x (by rw [Int.emod_eq_of_lt h.1 h.2]; exact h0)
 unfold dL
 rw [R.mod]; grind
def vc (r:List Int) (j:Nat):K:=((r.getD j 0:Int):K)
theorem gB {r:List Int} {j:Nat} (h:r.length≤j):(vc r j:K)=0:=by
 unfold vc
 rw [List.getD_eq_getElem?_getD,List.getElem?_eq_none h]
 exact Ring.intCast_zero
theorem vo {p:Nat} {f:Nat→Int} {r:List Int} {g:Nat→K} (hf:∀ j,j < r.length→((f j:Int):K)=g j) (hg:∀ j,r.length≤j→g j=0):(vc (cN f 0 r.length r):Nat→K)=g:=by
 funext j
 by_cases h:j < r.length
 ·unfold vc
  rw [dh h,if_pos ⟨Nat.zero_le _,h⟩,hf j h]
 rw [gB (by rw [bC]; omega),hg j (by omega)]
theorem DX {p:Nat} (R:Rd K p) {k:Int} {r b:List Int} (h:r.length=b.length):(vc (Bg p k r b):Nat→K)=fun j=>vc r j - (k:K) * vc b j:=by
 unfold Bg
 refine vo (p:=p) (fun j hj=>?_) fun j hj=>?_
 ·unfold yB
  rw [R.mod,Ring.intCast_sub,Ring.intCast_mul]; rfl
 rw [gB hj,gB (by omega)]; grind
theorem DD {p:Nat} (R:Rd K p) {k:Int} {r:List Int} : (vc (As p k r):Nat→K)=fun j=>vc r j * (k:K):=by
 unfold As
 refine vo (p:=p) (fun j hj=>?_) fun j hj=>?_
 ·unfold yN
  rw [R.mod,Ring.intCast_mul]; rfl
 rw [gB hj]; grind
theorem Gx {p:Nat} (R:Rd K p) {x:Int} {w b:List Int} (h:b.length≤w.length):(vc (Gl p x w b):Nat→K)=fun j=>vc w j + (x:K) * vc b j:=by
 unfold Gl
 refine vo (p:=p) (fun j hj=>?_) fun j hj=>?_
 ·unfold Ez
  rw [R.mod,Ring.intCast_add,Ring.intCast_mul]; rfl
 rw [gB hj,gB (by omega)]; grind
theorem G7 {p:Nat} (R:Rd K p) {r:List Int} (h:eB p r) (j:Nat):(vc r j:K)=0↔r.getD j 0=0:=R.zero (h j)
structure iu (S:(Nat→K)→Prop):Prop where
 zero:S fun _=>0
 add:∀ u v,S u→S v→S fun j=>u j + v j
 smul:∀ k u,S u→S fun j=>k * u j
theorem iu.sum {S:(Nat→K)→Prop} (h:iu S) {y:Nat→Nat→K} {c:Nat→K} : ∀ {n:Nat},(∀ i,i < n→S (y i))→S fun j=>sm (fun i=>c i * y i j) n
 | 0,_=>h.zero
 | n + 1,hy=>h.add _ _ (h.sum fun i hi=>hy i (by omega)) (h.smul _ _ (hy n (by omega)))
theorem iu.sub {S:(Nat→K)→Prop} (h:iu S) {u v:Nat→K} (hu:S u) (hv:S v):S fun j=>u j - v j:=by
 have:=h.add _ _ hu (h.smul (-1) _ hv)
 have e:(fun j=>u j - v j)=fun j=>u j + -1 * v j:=by funext j; grind
 rw [e]; exact this
def bM (L:List (List Int)) (i:Nat):Nat→K:=vc (L.getD i [])
def bx (L:List (List Int)) (u:Nat→K):Prop:=∃ C:Nat→K,∀ j,u j=sm (fun i=>C i * bM L i j) L.length
theorem bx.ma (L : List (List Int)) : iu (bx (K := K) L) :=
  ⟨⟨fun _ => 0, fun j => (aV fun i _ => by grind).symm⟩,
   fun u v ⟨C, hC⟩ ⟨D, hD⟩ => ⟨fun i => C i + D i, fun j => by show u j + v j = _; rw [hC, hD, ← jX]; exact ai fun i _ => by grind⟩,
   fun k u ⟨C, hC⟩ => ⟨fun i => k * C i, fun j => by show k * u j = _; rw [hC, ← aL]; exact ai fun i _ => by grind⟩⟩
theorem bx.least {L:List (List Int)} {S:(Nat→K)→Prop} (h:iu S) (hL:∀ r∈L,S (vc r)) {u:Nat→K} (hu:bx L u):S u:=by
 obtain ⟨C,hC⟩:=hu
 have:u=fun j=>sm (fun i=>C i * bM L i j) L.length:=funext hC
 rw [this]
 exact h.sum fun i hi=>hL _ (aC hi)
theorem bx.get {L:List (List Int)} {i:Nat} (hi:i < L.length):bx L (bM (K:=K) L i):=
 ⟨fun t=>if t=i then 1 else 0,fun j=>by
  rw [bc (i:=i) hi fun t ht hne=>by show (if t=i then (1:K) else 0) * _=0; rw [if_neg hne]; grind]
  show _=(if i=i then (1:K) else 0) * _
  rw [if_pos rfl]; grind⟩
theorem bx.mem {L:List (List Int)} {r:List Int} (h:r∈L):bx L (vc (K:=K) r):=by
 obtain ⟨i,hi,e⟩:=List.getElem_of_mem h
 have:bM (K:=K) L i=vc r:=by unfold bM; rw [← e]; simp [List.getD,List.getElem?_eq_getElem hi]
 rw [← this]; exact bx.get hi
theorem bx.mono {L L' : List (List Int)} (h:∀ r∈L,bx L' (vc (K:=K) r)) {u:Nat→K} (hu:bx L u):bx L' u:=bx.least (bx.ma L') h hu
structure RE (S:List (List Int) × List Int):Prop where
 at' : ∀ i k,i < S.1.length→k < S.1.length→(bM (K:=K) S.1 i (S.2.getD k 0).toNat)=if i=k then 1 else 0
 bef:∀ i j,i < S.1.length→j < (S.2.getD i 0).toNat→bM (K:=K) S.1 i j=0
theorem tO {p W:Nat} (R:Rd K p) {S:List (List Int) × List Int} (hri:RI p W S) (he:RE (K:=K) S) {r:List Int} (hr:r.length=W) (hg:eB p r):∀ i,i≤S.1.length→(∀ k,k < i→(vc (mT p S.1 S.2 r i) (S.2.getD k 0).toNat:K)=0)∧bx S.1 fun j=>(vc (mT p S.1 S.2 r i) j:K) - vc r j
 | 0,_=>⟨fun k hk=>absurd hk (Nat.not_lt_zero _),by
   have:=(bx.ma (K:=K) S.1).zero
   have e:(fun j=>(vc (mT p S.1 S.2 r 0) j:K) - vc r j)=fun _=>0:=by funext j; simp only [mT]; grind
   rw [e]; exact this⟩
 | i + 1,hi=>by
  obtain ⟨h1,h2⟩:=tO R hri he hr hg i (by omega)
  have hgx:=lR (by have:=R.two; omega) hg (p:=p) (out:=S.1) (at':=S.2) i
  have hxl:=iC p S.1 S.2 r i
  rw [mT]
  generalize mT p S.1 S.2 r i=x at *
  split
  ·rename_i h0
   refine ⟨fun k hk=>?_,h2⟩
   by_cases e:k=i
   ·rw [e]; unfold vc; rw [h0]; exact Ring.intCast_zero
   exact h1 k (by omega)
  have hb:(S.1.getD i []).length=x.length:=by rw [hri.l2 _ (aC (by omega)),hxl,hr]
  have e:=DX R (k:=x.getD (S.2.getD i 0).toNat 0) hb.symm
  rw [e]
  refine ⟨fun k hk=>?_,?_⟩
  ·have h3:=he.at' i k (by omega) (by omega)
   unfold bM at h3
   simp only
   rw [h3]
   by_cases e2:i=k
   ·subst e2
    rw [if_pos rfl]
    show vc x _ - vc x _ * 1=0
    grind
   rw [if_neg e2,h1 k (by omega)]; grind
  have h3:=(bx.ma S.1).smul ((x.getD (S.2.getD i 0).toNat 0:Int):K) _ (bx.get (K:=K) (show i < S.1.length by omega))
  have h4:=(bx.ma S.1).sub h2 h3
  have e2:(fun j=>(vc x j:K) - ((x.getD (S.2.getD i 0).toNat 0:Int):K) * vc (S.1.getD i []) j - vc r j)=fun j=>vc x j - vc r j - ((x.getD (S.2.getD i 0).toNat 0:Int):K) * bM S.1 i j:=by funext j; unfold bM; grind
  rw [e2]; exact h4
theorem Gy {p:Nat} (R:Rd K p) {j:Nat} {r b:List Int} (h:b.length=r.length):(vc (uO p j r b):Nat→K)=fun t=>vc b t - vc b j * vc r t:=by
 unfold uO
 split
 ·rename_i h0
  have:(vc b j:K)=0:=by unfold vc; rw [h0]; exact Ring.intCast_zero
  funext t; rw [this]; grind
 rw [DX R h]; rfl
theorem xL {p W:Nat} (R:Rd K p) {S:List (List Int) × List Int} (hri:RI p W S) (he:RE (K:=K) S) {L:List (List Int)} (hs:∀ u:Nat→K,bx S.1 u↔bx L u) {r:List Int} (hr:r.length=W) (hg:eB p r) :
  RE (K:=K) (ph p S r)∧∀ u:Nat→K,bx (ph p S r).1 u↔bx (L++[r]) u:=by
 have hp0:0 < p:=by have:=R.two; omega
 obtain ⟨c1,c2⟩:=tO (K:=K) R hri he hr hg S.1.length (Nat.le_refl _)
 have hgx:=lR hp0 hg (p:=p) (out:=S.1) (at':=S.2) S.1.length
 have hxl:=iC p S.1 S.2 r S.1.length
 have hLr:∀ u:Nat→K,bx L u→bx (L++[r]) u:=fun u hu=>bx.mono (fun q hq=>bx.mem (by simp [hq])) hu
 have hrr:bx (L++[r]) (vc (K:=K) r):=bx.mem (by simp)
 unfold ph
 generalize mT p S.1 S.2 r S.1.length=x at *
 have hxr:bx (L++[r]) (vc (K:=K) x):=by
  have:=(bx.ma (L++[r])).add _ _ (hLr _ ((hs _).1 c2)) hrr
  have e:(fun j=>(vc x j:K) - vc r j + vc r j)=vc x:=by funext j; grind
  rw [e] at this; exact this
 cases hf:Ep x with
 | none =>
  have hx0:∀ j,(vc x j:K)=0:=fun j=>by
   by_cases hj:j < x.length
   ·have:=bZ hf j hj
    simp only [decide_eq_false_iff_not,Classical.not_not] at this
    unfold vc; rw [this]; exact Ring.intCast_zero
   exact gB (by omega)
  refine ⟨he,fun u=>⟨fun hu=>hLr u ((hs u).1 hu),fun hu=>bx.mono (fun q hq=>?_) hu⟩⟩
  rcases List.mem_append.1 hq with hq | hq
  ·exact (hs _).2 (bx.mem hq)
  rw [List.mem_singleton.1 hq]
  have:=(bx.ma (K:=K) S.1).smul (-1) _ c2
  have e:(fun j=>(-1:K) * (vc x j - vc r j))=vc r:=by funext j; rw [hx0]; grind
  rw [e] at this; exact this
 | some j =>
  obtain ⟨j1,j2,j3⟩:=cF hf
  simp only [decide_eq_true_eq] at j2
  simp only
  have hiv:=R.inv (hgx j) j2
  obtain ⟨k,hk⟩:∃ k:K,((dL p (x.getD j 0):Int):K)=k:=⟨_,rfl⟩
  obtain ⟨y,hy⟩:∃ y,As p (dL p (x.getD j 0)) x=y:=⟨_,rfl⟩
  have hyv:(vc y:Nat→K)=fun t=>vc x t * k:=by rw [← hy,DD R,hk]
  have hxj:(vc x j:K) * k=1:=by rw [← hk]; exact hiv
  have hyl:y.length=W:=by rw [← hy,wJ,hxl,hr]
  have hyj:(vc y j:K)=1:=by rw [hyv]; exact hxj
  have hyb:∀ t,t < j→(vc y t:K)=0:=fun t ht=>by
   rw [hyv]
   have:=j3 t ht
   simp only [decide_eq_false_iff_not,Classical.not_not] at this
   have e:(vc x t:K)=0:=by unfold vc; rw [this]; exact Ring.intCast_zero
   simp only; rw [e]; grind
  have hyk:∀ i,i < S.1.length→(vc y (S.2.getD i 0).toNat:K)=0:=fun i hi=>by
   rw [hyv]; simp only; rw [c1 i hi]; grind
  rw [hy]
  have hol:(fp p j y S.1 S.1.length).length=S.1.length:=jG _ _ _ _ _
  have hog:∀ i,i < S.1.length→bM (K:=K) (fp p j y S.1 S.1.length++[y]) i=fun t=>bM S.1 i t - bM S.1 i j * vc y t:=fun i hi=>by
   unfold bM
   rw [eS _ _ (by omega),wb hi,if_pos hi]
   exact Gy R (by rw [hri.l2 _ (aC hi),hyl])
  have hoy:bM (K:=K) (fp p j y S.1 S.1.length++[y]) S.1.length=vc y:=by
   unfold bM
   have:=cH (fp p j y S.1 S.1.length) y []
   rw [hol] at this
   rw [this]
  have hai:∀ i,i < S.1.length→(S.2++[(j:Int)]).getD i 0=S.2.getD i 0:=fun i hi=>eS _ _ (by rw [hri.l1]; exact hi)
  have haj:(S.2++[(j:Int)]).getD S.1.length 0=(j:Int):=by
   have:=cH S.2 (j:Int) 0
   rwa [hri.l1] at this
  have hnl:(fp p j y S.1 S.1.length++[y]).length=S.1.length + 1:=by simp [hol]
  refine ⟨⟨fun i k hi hk=>?_,fun i t hi ht=>?_⟩,fun u=>⟨fun hu=>bx.mono (fun q hq=>?_) hu,fun hu=>?_⟩⟩
  ·simp only [hnl] at hi hk
   simp only
   by_cases ei:i=S.1.length
   ·rw [ei,hoy]
    by_cases ek:k=S.1.length
    ·rw [ek,haj,Int.toNat_natCast,hyj,if_pos rfl]
    rw [hai k (by omega),hyk k (by omega),if_neg (fun h=>ek h.symm)]
   rw [hog i (by omega)]
   by_cases ek:k=S.1.length
   ·rw [ek,haj,Int.toNat_natCast]
    simp only
    rw [hyj,if_neg ei]; grind
   rw [hai k (by omega)]
   simp only
   rw [hyk k (by omega),he.at' i k (by omega) (by omega)]; grind
  ·simp only [hnl] at hi
   simp only at ht ⊢
   by_cases ei:i=S.1.length
   ·rw [ei,haj,Int.toNat_natCast] at ht
    rw [ei,hoy]; exact hyb t ht
   rw [hai i (by omega)] at ht
   rw [hog i (by omega)]
   simp only
   rw [he.bef i t (by omega) ht]
   by_cases htj:t < j
   ·rw [hyb t htj]; grind
   rw [he.bef i j (by omega) (by omega)]; grind
  ·have hyL:bx (L++[r]) (vc (K:=K) y):=by
    have:=(bx.ma (L++[r])).smul k _ hxr
    rw [hyv]
    have e:(fun t=>(vc x t:K) * k)=fun t=>k * vc x t:=by funext t; grind
    rw [e]; exact this
   rcases List.mem_append.1 hq with hq | hq
   ·obtain ⟨i,hi,e⟩:=List.getElem_of_mem hq
    rw [hol] at hi
    have h1:=hog i hi
    have h2:bM (K:=K) (fp p j y S.1 S.1.length++[y]) i=vc q:=by
     unfold bM; rw [eS _ _ (by omega),← e]; simp [List.getD,List.getElem?_eq_getElem (show i < (fp p j y S.1 S.1.length).length by omega)]
    rw [← h2,h1]
    exact (bx.ma (L++[r])).sub (hLr _ ((hs _).1 (bx.get hi))) ((bx.ma (L++[r])).smul _ _ hyL)
   rw [List.mem_singleton.1 hq]; exact hyL
  have hy' : bx (fp p j y S.1 S.1.length++[y]) (vc (K:=K) y):=bx.mem (by simp)
  have ho' : ∀ i,i < S.1.length→bx (fp p j y S.1 S.1.length++[y]) (bM (K:=K) S.1 i):=fun i hi=>by
   have h1:=bx.get (K:=K) (L:=fp p j y S.1 S.1.length++[y]) (i:=i) (by omega)
   have h2:=(bx.ma (fp p j y S.1 S.1.length++[y])).add _ _ h1 ((bx.ma _).smul (bM S.1 i j) _ hy')
   rw [hog i hi] at h2
   have e:(fun t=>bM (K:=K) S.1 i t - bM S.1 i j * vc y t + bM S.1 i j * vc y t)=bM S.1 i:=by funext t; grind
   rw [e] at h2; exact h2
  have hS' : ∀ v:Nat→K,bx S.1 v→bx (fp p j y S.1 S.1.length++[y]) v:=fun v hv=>by
   obtain ⟨C,hC⟩:=hv
   have:v=fun t=>sm (fun i=>C i * bM S.1 i t) S.1.length:=funext hC
   rw [this]
   exact (bx.ma _).sum ho'
  refine bx.mono (fun q hq=>?_) hu
  rcases List.mem_append.1 hq with hq | hq
  ·exact hS' _ ((hs _).2 (bx.mem hq))
  rw [List.mem_singleton.1 hq]
  have h1:=hS' _ c2
  have h2:=(bx.ma (fp p j y S.1 S.1.length++[y])).smul (vc x j) _ hy'
  have h3:=(bx.ma (fp p j y S.1 S.1.length++[y])).sub h2 h1
  have e:(fun t=>(vc x j:K) * vc y t - (vc x t - vc r t))=vc r:=by
   funext t
   rw [hyv]
   simp only
   have:(vc x j:K) * (vc x t * k)=vc x t:=by
    have:(vc x j:K) * (vc x t * k)=(vc x j * k) * vc x t:=by grind
    rw [this,hxj]; grind
   rw [this]; grind
  rw [e] at h3; exact h3
theorem lV {p W:Nat} (R:Rd K p) {M:List (List Int)} (h1:∀ v∈M,v.length=W) (h2:∀ v∈M,eB p v):∀ k,k≤M.length→RE (K:=K) (cA p M k)∧∀ u:Nat→K,bx (cA p M k).1 u↔bx (M.take k) u
 | 0,_=>⟨⟨fun i k hi=>absurd hi (Nat.not_lt_zero _),fun i j hi=>absurd hi (Nat.not_lt_zero _)⟩,fun u=>by rw [List.take_zero]; exact Iff.rfl⟩
 | k + 1,hk=>by
  obtain ⟨a1,a2⟩:=lV R h1 h2 k (by omega)
  have hri:=fD (p:=p) (by have:=R.two; omega) h1 h2 k (by omega)
  have:=xL (K:=K) R hri a1 a2 (h1 _ (aC (d:=[]) (show k < M.length by omega))) (h2 _ (aC (by omega)))
  have e:M.take (k + 1)=M.take k++[M.getD k []]:=by
   rw [List.take_succ_eq_append_getElem (by omega)]; simp [List.getD,List.getElem?_eq_getElem (show k < M.length by omega)]
  rw [e,cA]; exact this
end
end Go.Proofs.YtjlmpmidchddjaaDoor
namespace Go.Proofs.YtjlmpmidchddjaaDoor
open Lean.Grind
attribute [local instance] Lean.Grind.Semiring.natCast Lean.Grind.Ring.intCast
section
variable {K:Type} [CommRing K]
def yf (n:Nat) (S:List (List Int) × List Int) (i:Nat):List Nat:=(List.range i).filter fun s=>decide ((n:Int)≤S.2.getD s 0)
theorem vW (n:Nat) (S:List (List Int) × List Int):∀ i,gm n S i=(yf n S i).map fun s=>(S.1.getD s []).drop n
 | 0=>rfl
 | i + 1=>by
  rw [gm,vW n S i]
  unfold yf
  rw [List.range_succ,List.filter_append,List.map_append]
  by_cases h:(n:Int)≤S.2.getD i 0
  ·rw [if_pos h]
   have:[i].filter (fun s=>decide ((n:Int)≤S.2.getD s 0))=[i]:=by simp only [List.filter_cons,decide_eq_true h]; rfl
   rw [this]; rfl
  rw [if_neg h]
  have:[i].filter (fun s=>decide ((n:Int)≤S.2.getD s 0))=[]:=by simp only [List.filter_cons,decide_eq_false h]; rfl
  rw [this]; simp
theorem Bp {n:Nat} {S:List (List Int) × List Int} {i s:Nat} : s∈yf n S i↔s < i∧(n:Int)≤S.2.getD s 0:=by
 unfold yf
 rw [List.mem_filter,List.mem_range,decide_eq_true_iff]
theorem CB (n:Nat) (S:List (List Int) × List Int) (i:Nat):(yf n S i).Nodup:=List.nodup_range.filter _
theorem nG (n:Nat) (r:List Int) (j:Nat):(vc (r.drop n) j:K)=vc r (n + j):=by
 unfold vc
 simp [List.getD,List.getElem?_drop]
theorem EJ (r r' : List Int) (j:Nat):(vc (r++r') j:K)=if j < r.length then vc r j else vc r' (j - r.length):=by
 unfold vc
 by_cases h:j < r.length
 ·rw [if_pos h]; simp [List.getD,List.getElem?_append_left h]
 rw [if_neg h]; simp [List.getD,List.getElem?_append_right (show r.length≤j by omega)]
theorem wB {n i j:Nat} (hi:i < n):(vc ((List.replicate n (0:Int)).set i 1) j:K)=if j=i then 1 else 0:=by
 unfold vc
 rw [List.getD_eq_getElem?_getD,List.getElem?_set]
 by_cases e:i=j
 ·subst e
  rw [if_pos rfl,if_pos (by simpa using hi),if_pos rfl]
  exact Ring.intCast_one
 rw [if_neg e,if_neg (fun h=>e h.symm),List.getElem?_replicate]
 split
 ·exact Ring.intCast_zero
 exact Ring.intCast_zero
theorem ic {n:Nat} {m:List (List Int)} (hm:m.length=n) (h1:∀ v∈m,v.length=n) {i:Nat} (hi:i < n) (j:Nat):bM (K:=K) (exts n m n) i j=if j < n then bM m i j else if j=n + i then 1 else 0:=by
 have e:(exts n m n).getD i []=oC n m i:=by simp [exts,List.getD,List.getElem?_map,List.getElem?_range hi]
 unfold bM
 rw [e]
 unfold oC
 rw [EJ,h1 _ (aC (by omega))]
 by_cases hj:j < n
 ·rw [if_pos hj,if_pos hj]
 rw [if_neg hj,if_neg hj,wB hi]
 by_cases e:j=n + i
 ·rw [if_pos e,if_pos (by omega)]
 rw [if_neg e,if_neg (by omega)]
def vJ (n:Nat) (m:List (List Int)) (u:Nat→K):Prop:=(∀ j,n≤j→u j=0)∧∀ j,j < n→sm (fun i=>u i * bM m i j) n=0
theorem vJ.ma (n : Nat) (m : List (List Int)) : iu (vJ (K := K) n m) :=
  ⟨⟨fun _ _ => rfl, fun j _ => aV fun i _ => by grind⟩,
   fun u v ⟨a, b⟩ ⟨c, d⟩ => ⟨fun j hj => by show u j + v j = 0; rw [a j hj, c j hj]; grind, fun j hj => by
     have : sm (fun i => (u i + v i) * bM m i j) n = sm (fun i => u i * bM m i j) n + sm (fun i => v i * bM m i j) n := by rw [← jX]; exact ai fun i _ => by grind
     show sm (fun i => (u i + v i) * bM m i j) n = 0
     rw [this, b j hj, d j hj]; grind⟩,
   fun k u ⟨a, b⟩ => ⟨fun j hj => by show k * u j = 0; rw [a j hj]; grind, fun j hj => by
     have : sm (fun i => (k * u i) * bM m i j) n = k * sm (fun i => u i * bM m i j) n := by rw [← aL]; exact ai fun i _ => by grind
     show sm (fun i => (k * u i) * bM m i j) n = 0
     rw [this, b j hj]; grind⟩⟩
theorem zr {p n:Nat} (R:Rd K p) {m:List (List Int)} (hm:m.length=n) (h1:∀ v∈m,v.length=n) (h2:∀ v∈m,eB p v) :
  (∀ u:Nat→K,bx (dY p m) u↔vJ n m u)∧iQ (bM (K:=K) (dY p m)) (dY p m).length:=by
 have hMr:=pq (n:=n) h1 (i:=n) (by omega)
 have hMg:=sd (n:=n) R.two h1 h2 (i:=n) (by omega)
 have hml:(exts n m n).length=n:=dm _ _ _
 have hri:=fD (W:=n + n) (p:=p) (by have:=R.two; omega) hMr hMg n (by omega)
 obtain ⟨he,hsp⟩:=lV (K:=K) R hMr hMg n (by omega)
 rw [List.take_of_length_le (by omega)] at hsp
 have hk:dY p m=gm n (cA p (exts n m n) n) (cA p (exts n m n) n).1.length:=by unfold dY; rw [hm]
 rw [hk]
 generalize cA p (exts n m n) n=S at *
 rw [vW]
 have hXm:=fun s=>Bp (n:=n) (S:=S) (i:=S.1.length) (s:=s)
 have hXn:=CB n S S.1.length
 generalize yf n S S.1.length=X at *
 have hat:∀ i,i < S.1.length→(S.2.getD i 0).toNat < n + n∧((S.2.getD i 0).toNat:Int)=S.2.getD i 0:=fun i hi=>by
  have:=hri.l4 i (by rw [hri.l1]; exact hi)
  omega
 have hrl:∀ s,s∈X→((S.1.getD s []).length=n + n):=fun s hs=>hri.l2 _ (aC ((hXm s).1 hs).1)
 have hex:∀ w:Nat→K,bx S.1 w→∀ j,j < n→w j=sm (fun i=>w (n + i) * bM m i j) n:=fun w hw j hj=>by
  obtain ⟨C,hC⟩:=(hsp w).1 hw
  rw [hml] at hC
  have e1:∀ i,i < n→w (n + i)=C i:=fun i hi=>by
   rw [hC,bc (i:=i) hi fun t ht hne=>?_,ic hm h1 hi,if_neg (by omega),if_pos rfl]
   ·grind
   rw [ic hm h1 ht,if_neg (by omega),if_neg (by omega)]; grind
  rw [hC]
  refine ai fun i hi=>?_
  rw [e1 i hi,ic hm h1 hi,if_pos hj]
 have hrow:∀ s∈X,vJ n m (vc (K:=K) ((S.1.getD s []).drop n)):=fun s hs=>by
  obtain ⟨s1,s2⟩:=(hXm s).1 hs
  refine ⟨fun j hj=>?_,fun j hj=>?_⟩
  ·rw [nG]; exact gB (by rw [hrl s hs]; omega)
  have h3:=hex _ (bx.get s1) j hj
  have h4:=he.bef s j s1 (by have:=(hat s s1).2; omega)
  rw [h4] at h3
  rw [ai (g:=fun i=>bM S.1 s (n + i) * bM m i j) fun i _=>by rw [nG]; rfl,← h3]
 refine ⟨fun u=>⟨fun hu=>bx.least (vJ.ma n m) (fun r hr=>?_) hu,fun hu=>?_⟩,?_⟩
 ·obtain ⟨s,hs,rfl⟩:=List.mem_map.1 hr
  exact hrow s hs
 ·obtain ⟨k1,k2⟩:=hu
  have hw:bx (exts n m n) fun j=>if j < n then (0:K) else u (j - n):=by
   refine ⟨u,fun j=>?_⟩
   rw [hml]
   by_cases hj:j < n
   ·show (if j < n then (0:K) else u (j - n))=_
    rw [if_pos hj,← k2 j hj]
    exact ai fun i hi=>by rw [ic hm h1 hi,if_pos hj]
   show (if j < n then (0:K) else u (j - n))=_
   rw [if_neg hj]
   by_cases hj2:j - n < n
   ·rw [bc (i:=j - n) hj2 fun t ht hne=>?_,ic hm h1 hj2,if_neg hj,if_pos (by omega)]
    ·grind
    rw [ic hm h1 ht,if_neg hj,if_neg (by omega)]; grind
   rw [k1 _ (by omega)]
   refine (aV fun t ht=>?_).symm
   rw [ic hm h1 ht,if_neg hj,if_neg (by omega)]; grind
  obtain ⟨C,hC⟩:=(hsp _).2 hw
  have hCk:∀ k,k < S.1.length→k ∉ X→C k=0:=fun k hk hkX=>by
   have h3:=hC (S.2.getD k 0).toNat
   have h4:¬ (n:Int)≤S.2.getD k 0:=fun h=>hkX ((hXm k).2 ⟨hk,h⟩)
   have h5:=(hat k hk).2
   simp only at h3
   rw [if_pos (by omega),bc (i:=k) hk fun t ht hne=>by rw [he.at' t k ht hk,if_neg hne]; grind,he.at' k k hk hk,if_pos rfl] at h3
   grind
  have hu2:u=fun j=>sm (fun k=>C k * (if k∈X then bM S.1 k (n + j) else 0)) S.1.length:=by
   funext j
   have h3:=hC (n + j)
   simp only at h3
   rw [if_neg (by omega),Nat.add_sub_cancel_left] at h3
   rw [h3]
   refine ai fun k hk=>?_
   by_cases hkX:k∈X
   ·rw [if_pos hkX]
   rw [if_neg hkX,hCk k hk hkX]; grind
  rw [hu2]
  refine (bx.ma _).sum (y:=fun k j=>if k∈X then bM S.1 k (n + j) else 0) fun k hk=>?_
  by_cases hkX:k∈X
  ·have e:(fun j=>if k∈X then bM (K:=K) S.1 k (n + j) else 0)=vc ((S.1.getD k []).drop n):=by
    funext j; rw [if_pos hkX,nG]; rfl
   rw [e]
   exact bx.mem (List.mem_map.2 ⟨k,hkX,rfl⟩)
  have e:(fun j=>if k∈X then bM (K:=K) S.1 k (n + j) else 0)=fun _=>0:=by funext j; rw [if_neg hkX]
  rw [e]; exact (bx.ma _).zero
 intro x hx t ht
 rw [List.length_map] at ht hx
 have hXt:X.getD t 0∈X:=aC ht
 obtain ⟨s1,s2⟩:=(hXm _).1 hXt
 have h5:=(hat _ s1).2
 have h3:=hx ((S.2.getD (X.getD t 0) 0).toNat - n)
 have hg:∀ i,i < X.length→bM (K:=K) (X.map fun s=>(S.1.getD s []).drop n) i ((S.2.getD (X.getD t 0) 0).toNat - n)=bM S.1 (X.getD i 0) (S.2.getD (X.getD t 0) 0).toNat:=fun i hi=>by
  have e:(X.map fun s=>(S.1.getD s []).drop n).getD i []=(S.1.getD (X.getD i 0) []).drop n:=by
   simp [List.getD,List.getElem?_map,List.getElem?_eq_getElem hi]
  unfold bM
  rw [e,nG]
  congr 1; omega
 rw [bc (i:=t) ht fun i hi hne=>?_,hg t ht,he.at' _ _ s1 s1,if_pos rfl] at h3
 ·grind
 rw [hg i hi,he.at' _ _ ((hXm _).1 (aC (d:=0) hi)).1 s1,if_neg]
 ·grind
 intro e
 refine hne ?_
 exact AL hXn hi ht e
end
end Go.Proofs.YtjlmpmidchddjaaDoor
namespace Go.Proofs.YtjlmpmidchddjaaDoor
open Go.Pv
def nB (d n i k:Nat):List AV:=b8 d n i++List.replicate k (.p .nil)
theorem kO (d n i k:Nat):(nB d n i k).length=i + k:=by simp [nB,br]
theorem qR {d n i k x:Nat} : (nB d n i (k + 1)).set i (.sl x 0 n)=b8 d n i++(.sl x 0 n :: List.replicate k (.p .nil)):=by
 unfold nB
 rw [List.set_append_right _ _ (by rw [br]; exact Nat.le_refl _),br,Nat.sub_self,List.replicate_succ,List.set_cons_zero]
theorem n8 {d n i k:Nat} : b8 d n i++(.sl (i + d) 0 n :: List.replicate k (.p .nil))=nB d n (i + 1) k:=by
 unfold nB
 rw [← gh,List.append_assoc]; rfl
theorem FI {d n i k x:Nat} (e:AV):(b8 d n i++(AV.sl x 0 n :: List.replicate k (AV.p .nil))).getD i e=AV.sl x 0 n:=by
 simp [List.getD,br]
theorem w6 {d n i k x L:Nat} (h:d + i≤L) (hx:x < L):(b8 d n i++(.sl x 0 n :: List.replicate k (AV.p .nil))).all (bb L)=true:=by
 rw [List.all_append,ji (by omega),Bool.true_and,List.all_cons,Bool.and_eq_true]
 refine ⟨by simp [bb,bq,hx],List.all_eq_true.2 fun y hy=>?_⟩
 rw [List.eq_of_mem_replicate hy]; rfl
theorem kp {d n i k L:Nat} (h:d + i≤L):(nB d n i k).all (bb L)=true:=by
 unfold nB
 rw [List.all_append,ji (by omega),Bool.true_and]
 refine List.all_eq_true.2 fun y hy=>?_
 rw [List.eq_of_mem_replicate hy]; rfl
theorem B1 {d n i k t:Nat} (h:t < i) (e:AV):(nB d n i k).getD t e = .sl (t + d) 0 n:=by
 unfold nB
 rw [List.getD_eq_getElem?_getD,List.getElem?_append_left (by rw [br]; exact h),← List.getD_eq_getElem?_getD,lC h]
theorem o6 (d n k:Nat):nB d n 0 k=List.replicate k (.p .nil):=by simp [nB,b8]
theorem uw (d n i:Nat):nB d n i 0=b8 d n i:=by simp [nB]
theorem yi {S s:St} {c:List AV} {M:List (List Int)} {L:Nat} (hn:S.n=s.n) (hH:S.H=s.H) (e:s.H = .own c :: tl M) (hL:M.length + 1=L) (hc:c.all (bb L)=true) (hsl:∀ p∈S.sl,s.get p.1=p.2∧bb L p.2=true):Le (List.range L) S s:=by
 have e1:s.H.length=L:=by rw [e]; simp [aD]; omega
 subst e1
 refine nW hn hH (fun b hb=>?_) hsl
 rw [e] at hb
 rcases List.mem_cons.1 hb with rfl | hb
 ·exact hc
 exact qY _ _ b hb
theorem Fb {S s:St} {n i k:Nat} {M:List (List Int)} (hi:M.length=i) (hn:S.n=s.n) {x v:List Int} (hS:S.H = .own (nB 1 n (i + 1) k) :: tl (M++[x])) (e:s.H = .own (b8 1 n i++(.sl (i + 2) 0 n :: List.replicate k (.p .nil))) :: tl (M++[v]++[x]))
  (hsl:jS (0 :: (List.range' 1 i++[i + 2])) S.sl s):Le (0 :: (List.range' 1 i++[i + 2])) S s:=by
 subst hi
 refine mL hn ?_ ?_ (fun j hj=>?_) hsl
 ·refine List.nodup_cons.2 ⟨?_,List.nodup_append.2 ⟨List.nodup_range',by simp,fun a ha b hb=>?_⟩⟩
  ·simp only [List.mem_append,List.mem_singleton,List.mem_range'_1]; omega
  simp only [List.mem_singleton,List.mem_range'_1] at ha hb; omega
 ·rw [hS]; simp [aD]
 rw [hS] at hj ⊢
 rw [e]
 match j,hj with
 | 0,_ =>
  simp only [jN,aq,List.getD_cons_zero]
  rw [List.take_of_length_le (by simp [kO,br]; omega)]
  refine ⟨?_,kp (by simp; omega)⟩
  rw [← n8,List.map_append,List.map_cons]
  congr 1
  ·refine List.ext_getElem (by simp) fun t h1 h2=>?_
   have ht:t < M.length:=by simpa [br] using h2
   simp only [b8,List.getElem_map,List.getElem_range,Go.Pv.bg,bu,List.getD_cons_succ]
   rw [List.getD_eq_getElem?_getD,List.getElem?_append_left (by simp; exact ht),List.getElem?_range' ht]
   simp; omega
  congr 1
  ·simp only [Go.Pv.bg,bu,List.getD_cons_succ]
   rw [List.getD_eq_getElem?_getD,List.getElem?_append_right (by simp)]
   simp
  rw [List.map_replicate]; rfl
 | j + 1,hj =>
  have hjq:j < M.length + 1:=by simpa [aD] using hj
  simp only [List.getD_cons_succ,dE]
  rw [aU (by simpa using hjq)]
  by_cases h:j < M.length
  ·rw [List.getD_eq_getElem?_getD,List.getElem?_append_left (by simp; exact h),List.getElem?_range' h]
   refine iE ?_
   simp only [Option.getD_some,Nat.one_mul]
   rw [Nat.add_comm 1 j,dE,aU (by simp; omega),List.append_assoc]
   simp [List.getD,List.getElem?_append_left h]
  obtain rfl:j=M.length:=by omega
  rw [List.getD_eq_getElem?_getD,List.getElem?_append_right (by simp)]
  refine iE ?_
  simp only [List.length_range',Nat.sub_self,List.getElem?_cons_zero,Option.getD_some]
  rw [dE,aU (by simp)]
  simp [List.getD]
theorem Gi {X:aw} {z:Nat} (h:X.length=z) (o h' : aM) (T:aw):aq (o :: (X++(h' :: T))) (z + 1)=h':=by
 rw [dE,aX (by omega),h,Nat.sub_self]; rfl
theorem Iu {X:aw} {z i:Nat} (h:X.length=z) (o h' : aM) {M:List (List Int)} (hi:i < M.length):aq (o :: (X++(h' :: tl M))) (i + (z + 2)) = .own (ol (M.getD i [])):=by
 rw [show i + (z + 2)=z + (i + 1) + 1 by omega,dE,aX (by omega),h,Nat.add_sub_cancel_left,dE,aU hi]
theorem HP {X:aw} {z:Nat} (h:X.length=z) (o h' b:aM) (T:aw):aE (o :: (X++(h' :: T))) (z + 1) b=o :: (X++(b :: T)):=by
 rw [uh,c6,List.set_append_right _ _ (by omega),h,Nat.sub_self]; rfl
theorem IC {X:aw} {z i:Nat} (h:X.length=z) (o h' : aM) {M:List (List Int)} (w:List Int):aE (o :: (X++(h' :: tl M))) (i + (z + 2)) (.own (ol w))=o :: (X++(h' :: tl (M.set i w))):=by
 rw [show i + (z + 2)=z + (i + 1) + 1 by omega,uh,c6,List.set_append_right _ _ (by omega),h,Nat.add_sub_cancel_left,List.set_cons_succ,← c6,ie]
theorem G3 {X:aw} {T:aw} {z t:Nat} (h:X.length=z) (ht:T.length=t) (o h' b:aM):aq (o :: (X++(h' :: (T++[b])))) (z + (t + 1) + 1)=b:=by
 rw [dE,aX (by omega),h,Nat.add_sub_cancel_left,dE,aX (by omega),ht,Nat.sub_self]; rfl
theorem IV {X:aw} {T:aw} {z t:Nat} (h:X.length=z) (ht:T.length=t) (o h' a b:aM):aq (o :: (X++(h' :: (T++([a]++[b]))))) (z + (t + 1 + 1) + 1)=b:=by
 rw [show T++([a]++[b])=(T++[a])++[b] by simp]
 exact G3 h (by simp [ht]) o h' b
theorem Jc {X:aw} {T:aw} {z i:Nat} (h:X.length=z) (hi:i < T.length) (o h' : aM) (Y:aw):aq (o :: (X++(h' :: (T++Y)))) (z + 2 + i)=aq T i:=by
 rw [show z + 2 + i=z + (i + 1) + 1 by omega,dE,aX (by omega),h,Nat.add_sub_cancel_left,dE,aF hi]
theorem xZ {S s:St} {c:List AV} {X:aw} {o:List AV} {M:List (List Int)} {z L:Nat} (hX:X.length=z) (hn:S.n=s.n) (hH:S.H=s.H) (e:s.H = .own o :: (X++(.own c :: tl M))) (hL:M.length + z + 2=L) (hc:c.all (bb L)=true) (ho:o.all (bb L)=true) (hXs:∀ b∈X,eA L b=true) (hsl:∀ p∈S.sl,s.get p.1=p.2∧bb L p.2=true):Le (List.range L) S s:=by
 have e1:s.H.length=L:=by rw [e]; simp [aD,hX]; omega
 subst e1
 refine nW hn hH (fun b hb=>?_) hsl
 rw [e] at hb
 rcases List.mem_cons.1 hb with rfl | hb
 ·exact ho
 rcases List.mem_append.1 hb with hb | hb
 ·exact hXs b hb
 rcases List.mem_cons.1 hb with rfl | hb
 ·exact hc
 exact qY _ _ b hb
theorem rF {W b L:Nat} {Sp:List (List (List Int))} (h:b + cU Sp≤L):∀ x∈im W b Sp,eA L x=true:=fun x hx=>by
 obtain ⟨j,hj⟩:=List.getElem?_of_mem hx
 have hjl:=(List.getElem?_eq_some_iff.1 hj).1
 rw [cD] at hjl
 have e:aq (im W b Sp) j=x:=by rw [fI,List.getD_eq_getElem?_getD,hj]; rfl
 rcases nK W b Sp j hjl with ⟨v,hv⟩ | ⟨d,q,hv,h1,h2⟩
 ·rw [← e,hv]; exact fV _ _
 rw [← e,hv]; exact ji (by omega)
theorem rm {b L:Nat} {Sp:List (List (List Int))} (h:b + cU Sp≤L):(gF b Sp).all (bb L)=true:=by
 rw [List.all_eq_true]
 intro x hx
 obtain ⟨c,l,rfl,h1,h2⟩:=rO b Sp x hx
 simp [bb,bq]; omega
theorem x8 {p : Nat} {s a : List (List Int)} {left : Int} {v : Nat} {out : List (List (List Int))} (h1 : v < p) (h2 : 0 < left) : iw p s a (p - v) left v out = if dY p (jM p v a s.length) = [] then iw p s a (p - (v + 1)) left (v + 1) out
       else iw p s a (p - (v + 1)) (left - (dY p (jM p v a s.length)).length) (v + 1) (out ++ [(dY p (jM p v a s.length)).map (uR p s)]) := by
  rw [show p - v = (p - (v + 1)) + 1 by omega, iw, if_pos ⟨h1, h2⟩]
theorem mi {p:Nat} {s a:List (List Int)} {f:Nat} {left:Int} {v:Nat} {out:List (List (List Int))} (h:f=0∨¬ (v < p∧0 < left)):iw p s a f left v out=out:=by
 cases f with
 | zero=>rfl
 | succ f=>rw [iw,if_neg (by rcases h with h | h; cases h; exact h)]
theorem AS {p W:Nat} (w:List Int) (m:PV):Gg Tryd.prog 44 [.p (.int .i64 p),.sl 0 0 1,.p m] [.own (b8 1 W 1),.own (ol w)] (.sl 2 0 1) [.own (b8 1 W 1),.own (ol w),.own [.sl 0 0 1]]:=by
 refine FY ae Tryd.func44 rfl (by kernel_rfl) (by rw [Tryd.ntmps44]; exact Nat.le_add_left 3 _) ?_; rw [Tryd.ntmps44]; simp only [dJ,mr,List.length_cons,List.length_nil,List.cons_append,List.nil_append,Nat.reduceAdd,Nat.zero_add]
 refine qm ?_
 refine ab fun K hK=>aa ae ?_
 simp only [ak,fl,gp,aj,simprocAttr]
 refine af trivial (hK _ ?_)<;>clear hK K
 refine qa (qm (qm ?_))
 refine ab fun K hK=>aa ae ?_
 simp only [ak,fl,gp,aj,simprocAttr]
 refine af trivial (hK _ ?_)<;>clear hK K
 refine qa ?_
 refine ao rfl (fun hC1=>?_) (fun hC1=>?_)
 ·(try simp only [aH] at hC1)
  refine qm ?_
  refine ab fun K hK=>aa ae ?_
  simp only [ak,fl,gp,aj,simprocAttr]
  refine an ?_ (eM (ca ae rfl rfl rfl rfl rfl rfl) rfl (by simp only [au,Nat.reduceLT]) (aa ae ?_))
  ·first|exact trivial|omega|(simp only [ah] at *; omega)|(simp [ah] at *; omega)|simp_all
  simp only [ak,fl,gp,aj,simprocAttr]
  refine af ?_ (hK _ ?_)<;>clear hK K
  ·first|exact trivial|omega|(simp only [ah] at *; omega)|(simp [ah] at *; omega)|simp_all
  refine qa (qk (qb ?_))
  simp only [Tryd.results44,oS,oe,mc,Ag,iW,ak,fl,gp,aj,simprocAttr]
  refine ⟨[0,1,4,2,3],rfl,rfl,mL rfl (by decide) rfl (fun j hj=>?_) trivial⟩
  match j,hj with
  | 0,_=>exact jv rfl fun i hi=>⟨by simp; omega,by have h0:i=0:=(by omega); subst h0; rfl⟩
  | 1,_=>exact iE rfl
  | 2,_=>exact ⟨rfl,rfl⟩
  | 3,_=>exact wM rfl (by decide) rfl
  | 4,_=>exact wM rfl (by decide) rfl
 (try simp only [aH] at hC1)
 first|exact absurd rfl hC1|exact hC1.elim|cases hC1|(simp at hC1; done)
theorem CC {p:Nat} (hp:p≤1000000) {v a x:Int} (h1:0≤v∧v < p) (h2:0≤a∧a≤1000) (h3:0≤x∧x < p):0≤v + a * x∧ah (a * x)∧ah (v + a * x):=by
 have h4:=Int.mul_nonneg h2.1 h3.1
 have h5:a * x≤1000 * 1000000:=Int.mul_le_mul h2.2 (by omega) h3.1 (by omega)
 simp only [ah]; omega
set_option maxHeartbeats 8000000 in
set_option maxRecDepth 20000 in
theorem AZ {p W:Nat} (hp2:2≤p) (hp:p≤1000000) (hW:0 < W) (hW2:W≤100) (s m:List (List Int)) (hs1:s.length ≠ 1) (hs2:s.length≤100) (h1:∀ v∈s,v.length=W) (h2:∀ v∈s,eB p v) (hm:m.length=W) (hm1:∀ v∈m,v.length=W) (hm2:∀ v∈m,∀ j,0≤v.getD j 0∧v.getD j 0≤1000) :
  D0 Tryd.prog 44 [.int .i64 p,.list (ll s),.list (ll m)] (.sl 0 0 (gr p s m).length) (.own (gF 1 (gr p s m)) :: im W 1 (gr p s m)):=by
 have hsi:¬ (s.length:Int)=1:=by omega
 have hri:=fD (W:=W) (p:=p) (by omega) h1 h2 s.length (Nat.le_refl _)
 have hql:=gQ p s s.length
 have hred:=sF hp2 hp hW (by omega) s (by omega) h1 h2
 have hspl:gr p s m=iw p (cA p s s.length).1 (fi p m (cA p s s.length).1 (cA p s s.length).2 (cA p s s.length).1.length) p (cA p s s.length).1.length 0 []:=by rw [gr,if_neg hs1]
 rw [hspl]
 generalize cA p s s.length=Z at *
 obtain ⟨s',at'⟩:=Z
 obtain ⟨l1,l2,l3,l4⟩:=hri
 simp only at l1 l2 l3 l4 hql hred ⊢
 obtain ⟨n,hn⟩:∃ n,s'.length=n:=⟨_,rfl⟩
 rw [hn] at l1 hql ⊢
 have hn100:n≤100:=by omega
 refine vj ae Tryd.func44 rfl (by kernel_rfl) (by rw [Tryd.ntmps44]; exact Nat.le_add_left 3 _) ?_; rw [Tryd.ntmps44]
 refine qm ?_
 refine ab fun K hK=>aa ae ?_
 simp only [ak,fl,gp,aj,simprocAttr]
 refine af trivial (hK _ ?_)<;>clear hK K
 refine qa (qm (qm ?_))
 refine ab fun K hK=>aa ae ?_
 simp only [ak,fl,gp,aj,simprocAttr,ay]
 refine af trivial (hK _ ?_)<;>clear hK K
 refine qa ?_
 refine ao rfl (fun hC1=>?_) (fun hC1=>?_)
 ·(try simp only [aH] at hC1)
  omega
 (try simp only [aH] at hC1)
 refine qh (qa (qm ?_))
 refine ab fun K hK=>aa ae ?_
 simp only [ak,fl,gp,aj,simprocAttr]
 refine an trivial (al (hred) rfl rfl rfl (by simp only [au,Nat.reduceLT]) (by repeat (first|exact trivial|constructor)) (aa ae ?_))
 simp only [ak,fl,gp,aj,simprocAttr]
 refine af trivial (hK _ ?_)<;>clear hK K
 refine qa (qm ?_)
 refine ab fun K hK=>aa ae ?_
 simp only [ak,fl,gp,aj,simprocAttr,ay,hn]
 refine af trivial (hK _ ?_)<;>clear hK K
 refine qa (qm ?_)
 refine ab fun K hK=>aa ae ?_
 simp only [ak,fl,gp,aj,simprocAttr]
 refine af ?_ (hK _ ?_)<;>clear hK K
 ·first|exact trivial|omega|(simp only [ah] at *; omega)|(simp [ah] at *; omega)|simp_all
 refine qa (qm (qm ?_))
 refine ab fun K hK=>aa ae ?_
 simp only [ak,fl,gp,aj,simprocAttr,ay,hn]
 refine af trivial (hK _ ?_)<;>clear hK K
 refine qa (ql ?_)
 refine aB (ι:=Nat) (fun i=>⟨224,[(0,.p (.int .i64 p)),(1,.p (.list (ll s'))),(2,.p (.list (ll m))),(7,.p (.list (il at'))),(8,.p (.int .i64 n)),(9,.sl 0 0 n),(47,.p (.list (ll s'))),(48,.p (.int .i64 n)),(49,.p (.int .i64 i))],.own (nB 1 n i (n - i)) :: tl (fi p m s' at' i)⟩) (fun i=>i≤n) (fun i=>n - i) 0 (Nat.zero_le _) [0] (by simp only [leq,bw,ak,fl,gp,aj,simprocAttr]<;>simp [o6,fi,tl,kf,Go.Pv.bg,bu,bb,bq]) fun i hi=>?_
 refine qm ?_
 refine ab fun K hK=>aa ae ?_
 simp only [ak,fl,gp,aj,simprocAttr]
 refine af trivial (hK _ ?_)<;>clear hK K
 refine qa (qm ?_)
 refine ao rfl (fun hC2=>?_) (fun hC2=>?_)
 ·(try simp only [aH] at hC2)
  have hin:i < n:=by omega
  obtain ⟨w,hw⟩:∃ w,s'.getD i []=w:=⟨_,rfl⟩
  have hwl:w.length=W:=by rw [← hw]; exact l2 _ (aC (by omega))
  have hwg:eB p w:=by rw [← hw]; exact l3 _ (aC (by omega))
  obtain ⟨A,hA⟩:∃ A,fi p m s' at' i=A:=⟨_,rfl⟩
  have hAl:A.length=i:=by rw [← hA,lz]
  rw [hA]
  refine qh (qa (qm (ql (qm ?_))))
  refine ab fun K hK=>aa ae ?_
  simp only [ak,fl,gp,aj,simprocAttr,ay,dI (show i < s'.length by omega),hw]
  refine af ?_ (hK _ ?_)<;>clear hK K
  ·omega
  refine qa (qm ?_)
  refine ab fun K hK=>aa ae ?_
  simp only [ak,fl,gp,aj,simprocAttr,ay,hm,aD,hAl,b9]
  refine af ?_ (hK _ ?_)<;>clear hK K
  ·first|exact trivial|omega|(simp only [ah] at *; omega)|(simp [ah] at *; omega)|simp_all
  refine qa (qm (qm ?_))
  refine ab fun K hK=>aa ae ?_
  simp only [ak,fl,gp,aj,simprocAttr,ay,hm]
  refine af trivial (hK _ ?_)<;>clear hK K
  refine qa (ql ?_)
  refine aB (ι:=Nat) (fun j=>⟨224,[(0,.p (.int .i64 p)),(1,.p (.list (ll s'))),(2,.p (.list (ll m))),(7,.p (.list (il at'))),(8,.p (.int .i64 n)),(9,.sl 0 0 n),(10,.p (.int .i64 i)),(11,.p (.list (il w))),(12,.sl (i + 1) 0 W),(47,.p (.list (ll s'))),(48,.p (.int .i64 n)),(49,.p (.int .i64 i)),(58,.p (.int .i64 W)),(59,.p (.int .i64 j))],.own (nB 1 n i (n - i)) :: tl (A++[vI p m w j 0])⟩) (fun j=>j≤W) (fun j=>W - j) 0 (Nat.zero_le _) (List.range (i + 2)) (yi (c:=nB 1 n i (n - i)) (M:=A++[List.replicate W 0]) rfl (by simp [BO,hm,tl]) (by simp [tl]) (by simp [hAl]) (kp (by omega)) (by
   simp [St.get,lk,bb,bq,hm]<;>omega)) fun j hj=>?_
  refine qm ?_
  refine ab fun K hK=>aa ae ?_
  simp only [ak,fl,gp,aj,simprocAttr]
  refine af trivial (hK _ ?_)<;>clear hK K
  refine qa (qm ?_)
  refine ao rfl (fun hC3=>?_) (fun hC3=>?_)
  ·(try simp only [aH] at hC3)
   have hjW:j < W:=by omega
   obtain ⟨b,hb⟩:∃ b,m.getD j []=b:=⟨_,rfl⟩
   have hbl:b.length=W:=by rw [← hb]; exact hm1 _ (aC (by omega))
   have hbg:∀ t,0≤b.getD t 0∧b.getD t 0≤1000:=by rw [← hb]; exact hm2 _ (aC (by omega))
   refine qh (qa (qm (ql (qm ?_))))
   refine ab fun K hK=>aa ae ?_
   simp only [ak,fl,gp,aj,simprocAttr]
   refine af trivial (hK _ ?_)<;>clear hK K
   refine qa (qm ?_)
   refine ab fun K hK=>aa ae ?_
   simp only [ak,fl,gp,aj,simprocAttr]
   refine af trivial (hK _ ?_)<;>clear hK K
   refine qa (ql ?_)
   refine aB (ι:=Nat) (fun k=>⟨224,[(0,.p (.int .i64 p)),(1,.p (.list (ll s'))),(2,.p (.list (ll m))),(7,.p (.list (il at'))),(8,.p (.int .i64 n)),(9,.sl 0 0 n),(10,.p (.int .i64 i)),(11,.p (.list (il w))),(12,.sl (i + 1) 0 W),(13,.p (.int .i64 j)),(47,.p (.list (ll s'))),(48,.p (.int .i64 n)),(49,.p (.int .i64 i)),(58,.p (.int .i64 W)),(59,.p (.int .i64 j)),(62,.p (.list (il w))),(63,.p (.int .i64 W)),(64,.p (.int .i64 k))],.own (nB 1 n i (n - i)) :: tl (A++[vI p m w j k])⟩) (fun k=>k≤W) (fun k=>W - k) 0 (Nat.zero_le _) (List.range (i + 2)) (yi (c:=nB 1 n i (n - i)) (M:=A++[vI p m w j 0]) rfl rfl rfl (by simp [hAl]) (kp (by omega)) (by
    simp [St.get,lk,bb,bq,aI,hwl]<;>omega)) fun k hk=>?_
   obtain ⟨v,hv⟩:∃ v,vI p m w j k=v:=⟨_,rfl⟩
   have hvl:v.length=W:=by rw [← hv,Ej,hm]
   rw [hv]
   refine qm ?_
   refine ab fun K hK=>aa ae ?_
   simp only [ak,fl,gp,aj,simprocAttr]
   refine af trivial (hK _ ?_)<;>clear hK K
   refine qa (qm ?_)
   refine ao rfl (fun hC4=>?_) (fun hC4=>?_)
   ·(try simp only [aH] at hC4)
    have hkW:k < W:=by omega
    have hvj:v.getD j 0=ik p b w k:=by rw [← hv,EC (by omega),hb]
    have hgv:aq (tl (A++[v])) i = .own (ol v):=by rw [aU (by simp [hAl]),← hAl,cH]
    have hsv:∀ x,aE (tl (A++[v])) i (.own (ol x))=tl (A++[x]):=fun x=>by rw [ie,← hAl,gO]
    have hst:v.set j ((ik p b w k + b.getD k 0 * w.getD k 0) % (p:Int))=vI p m w j (k + 1):=by
     have:=ES (p:=p) (m:=m) (w:=w) (j:=j) (k:=k)
     rw [hv,hb] at this
     rw [← this,ik]
    have hd:=xp (p:=p) (by omega) b w k
    have hr:=CC hp hd (hbg k) (hwg k)
    have htm:Int.tmod (ik p b w k + b.getD k 0 * w.getD k 0) p=(ik p b w k + b.getD k 0 * w.getD k 0) % p:=Int.tmod_eq_emod_of_nonneg hr.1
    refine qh (qa (qm (ql (qm ?_))))
    refine ab fun K hK=>aa ae ?_
    simp only [ak,fl,gp,aj,simprocAttr,aT (show k < w.length by omega)]
    refine af ?_ (hK _ ?_)<;>clear hK K
    ·omega
    refine qa ?_
    refine ba mixed (by kernel_rfl) fun K hK=>aa ae ?_
    simp only [ak,fl,gp,aj,simprocAttr,dE,uh,hgv,bB (show j < v.length by omega),dI (show j < m.length by omega),hb,aT (show k < b.length by omega),hvj,htm,dV,hsv,hst]
    refine af ?_ (hK _ ?_)<;>clear hK K
    ·obtain ⟨_,r2,r3⟩:=hr
     simp only [ah] at *; omega
    refine qd (qa ?_)
    refine ab fun K hK=>aa ae ?_
    simp only [ak,fl,gp,aj,simprocAttr]
    refine af ?_ (hK _ ?_)<;>clear hK K
    ·first|exact trivial|omega|(simp only [ah] at *; omega)|(simp [ah] at *; omega)|simp_all
    refine qa ?_
    refine ⟨k + 1,List.range (i + 2),by omega,by omega,yi (c:=nB 1 n i (n - i)) (M:=A++[vI p m w j (k + 1)]) rfl rfl rfl (by simp [hAl]) (kp (by omega)) (by
     simp [St.get,lk,bb,bq]<;>omega)⟩
   (try simp only [aH] at hC4)
   have hkW:k=W:=by omega
   have hvn:v=vI p m w (j + 1) 0:=by rw [← hv,hkW,← hwl,CU]
   refine qj (qc (qc (qf (qd (qa ?_)))))
   refine ab fun K hK=>aa ae ?_
   simp only [ak,fl,gp,aj,simprocAttr]
   refine af ?_ (hK _ ?_)<;>clear hK K
   ·first|exact trivial|omega|(simp only [ah] at *; omega)|(simp [ah] at *; omega)|simp_all
   refine qa ?_
   refine ⟨j + 1,List.range (i + 2),by omega,by omega,yi (c:=nB 1 n i (n - i)) (M:=A++[v]) rfl (by rw [hvn]) rfl (by simp [hAl]) (kp (by omega)) (by
    simp [St.get,lk,bb,bq]<;>omega)⟩
  (try simp only [aH] at hC3)
  have hjW:j=W:=by omega
  have hve:vI p m w j 0=qU p m w:=by rw [hjW,← hm,FU]
  have hnk:n - i=(n - i - 1) + 1:=by omega
  rw [hve]
  obtain ⟨v,hv⟩:∃ v,qU p m w=v:=⟨_,rfl⟩
  have hvl:v.length=W:=by rw [← hv,rZ,hm]
  rw [hv]
  obtain ⟨c,hc⟩:∃ c,n - i=c + 1:=⟨n - i - 1,by omega⟩
  rw [hc]
  have hvg:eB p v:=by rw [← hv]; exact yZ (by omega) m w
  refine qj (qc (qc (qf (qa (qm ?_)))))
  refine ab fun K hK=>aa ae ?_
  simp only [ak,fl,gp,aj,simprocAttr,aD,hAl,List.length_append,b9,qR,kO]
  refine af ?_ (hK _ ?_)<;>clear hK K
  ·omega
  refine qa (qm ?_)
  refine ab fun K hK=>aa ae ?_
  simp only [ak,fl,gp,aj,simprocAttr,aI,l1]
  refine af trivial (hK _ ?_)<;>clear hK K
  refine qa (ql ?_)
  refine aB (ι:=Nat) (fun q=>⟨224,[(0,.p (.int .i64 p)),(1,.p (.list (ll s'))),(2,.p (.list (ll m))),(7,.p (.list (il at'))),(8,.p (.int .i64 n)),(9,.sl 0 0 n),(10,.p (.int .i64 i)),(12,.sl (i + 1) 0 W),(47,.p (.list (ll s'))),(48,.p (.int .i64 n)),(49,.p (.int .i64 i)),(95,.p (.list (il at'))),(96,.p (.int .i64 n)),(97,.p (.int .i64 q))],.own (b8 1 n i++(.sl (i + 2) 0 n :: List.replicate c (.p .nil))) :: tl (A++[v]++[rv v at' q])⟩) (fun q=>q≤n) (fun q=>n - q) 0 (Nat.zero_le _) (List.range (i + 3)) (yi (c:=b8 1 n i++(.sl (i + 2) 0 n :: List.replicate c (.p .nil))) (M:=A++[v]++[List.replicate n 0]) rfl (by simp [rv,db,l1,tl]) (by simp [tl]) (by simp [hAl]) (w6 (by omega) (by omega)) (by
   simp [St.get,lk,bb,bq]<;>omega)) fun q hq=>?_
  obtain ⟨x,hx⟩:∃ x,rv v at' q=x:=⟨_,rfl⟩
  have hxl:x.length=n:=by rw [← hx,rv,bC,List.length_replicate,l1]
  rw [hx]
  refine qm ?_
  refine ab fun K hK=>aa ae ?_
  simp only [ak,fl,gp,aj,simprocAttr]
  refine af trivial (hK _ ?_)<;>clear hK K
  refine qa (qm ?_)
  refine ao rfl (fun hC5=>?_) (fun hC5=>?_)
  ·(try simp only [aH] at hC5)
   have hqn:q < n:=by omega
   obtain ⟨t,ht⟩:∃ t:Nat,at'.getD q 0=(t:Int):=⟨(at'.getD q 0).toNat,by have:=l4 q (by omega); omega⟩
   have htW:t < W:=by have:=l4 q (by omega); omega
   have hgv:aq (tl (A++[v]++[x])) i = .own (ol v):=by rw [aU (by simp [hAl]<;>omega),eS _ _ (by simp [hAl]<;>omega),← hAl,cH]
   have hgx:aq (tl (A++[v]++[x])) (i + 1) = .own (ol x):=by rw [aU (by simp [hAl]),show i + 1=(A++[v]).length by simp [hAl],cH]
   have hsx:∀ y,aE (tl (A++[v]++[x])) (i + 1) (.own (ol y))=tl (A++[v]++[y]):=fun y=>by rw [ie,show i + 1=(A++[v]).length by simp [hAl],gO]
   have hst:x.set q (v.getD t 0)=rv v at' (q + 1):=by
    rw [← hx]
    have:=fY (f:=fun t=>v.getD (at'.getD t 0).toNat 0) (u:=List.replicate at'.length 0) (Nat.zero_le q) (by rw [List.length_replicate]; omega)
    rw [ht,Int.toNat_natCast] at this
    exact this
   have hcl:(b8 1 n i++(AV.sl (i + 2) 0 n :: List.replicate c (AV.p .nil))).length=n:=by simp [br]; omega
   refine qh (qa (qm (ql (qm ?_))))
   refine ab fun K hK=>aa ae ?_
   simp only [ak,fl,gp,aj,simprocAttr,aT (show q < at'.length by omega),ht]
   refine af ?_ (hK _ ?_)<;>clear hK K
   ·omega
   refine qa ?_
   refine ba mixed (by kernel_rfl) fun K hK=>aa ae ?_
   simp only [ak,fl,gp,aj,simprocAttr,FI,hcl,dE,uh,hgv,hgx,bB (show t < v.length by omega),dV,hsx,hst]
   refine af ?_ (hK _ ?_)<;>clear hK K
   ·omega
   refine qd (qa ?_)
   refine ab fun K hK=>aa ae ?_
   simp only [ak,fl,gp,aj,simprocAttr]
   refine af ?_ (hK _ ?_)<;>clear hK K
   ·first|exact trivial|omega|(simp only [ah] at *; omega)|(simp [ah] at *; omega)|simp_all
   refine qa ?_
   refine ⟨q + 1,List.range (i + 3),by omega,by omega,yi (c:=b8 1 n i++(.sl (i + 2) 0 n :: List.replicate c (.p .nil))) (M:=A++[v]++[rv v at' (q + 1)]) rfl rfl rfl (by simp [hAl]) (w6 (by omega) (by omega)) (by
    simp [St.get,lk,bb,bq]<;>omega)⟩
  (try simp only [aH] at hC5)
  have hqn:q=n:=by omega
  have hxe:x=iR p m at' w:=by rw [← hx,hqn,← hv,← l1,Bl]
  have hA1:fi p m s' at' (i + 1)=A++[x]:=by rw [xT,hA,hw,hxe]
  refine qj (qc (qc (qf (qd (qa ?_)))))
  refine ab fun K hK=>aa ae ?_
  simp only [ak,fl,gp,aj,simprocAttr]
  refine af ?_ (hK _ ?_)<;>clear hK K
  ·first|exact trivial|omega|(simp only [ah] at *; omega)|(simp [ah] at *; omega)|simp_all
  refine qa ?_
  refine ⟨i + 1,0 :: (List.range' 1 i++[i + 2]),by omega,by omega,?_⟩
  refine Fb (n:=n) (k:=c) (x:=x) (v:=v) hAl rfl ?_ rfl (by simp [jS,St.get,lk,Go.Pv.bg,bu,bb,bq])
  show _=_
  rw [hA1,show n - (i + 1)=c by omega]
 (try simp only [aH] at hC2)
 have hin:i=n:=by omega
 rw [hin,Nat.sub_self,uw]
 obtain ⟨a,ha⟩:∃ a,fi p m s' at' n=a:=⟨_,rfl⟩
 have hal:a.length=n:=by rw [← ha,lz]
 have har:∀ v∈a,v.length=n:=fun v hv=>by
  rw [← ha] at hv
  obtain ⟨t,_,rfl⟩:=List.mem_map.1 hv
  rw [jl,l1]
 have hag:∀ v∈a,eB p v:=fun v hv=>by
  rw [← ha] at hv
  obtain ⟨t,_,rfl⟩:=List.mem_map.1 hv
  exact rM (by omega) m at' _
 rw [ha]
 refine qj (qc (qc (qf (qa (qm ?_)))))
 refine kY 9 0 1 n hal har rfl (.inl (by omega)) rfl (fun i hi=>?_) fun H' a1 a2=>?_
 ·rw [Nat.add_comm 1 i,dE,aU (by omega)]
 have hHl:H'.length=n + 1:=by rw [a1]; simp [aD,hal]
 refine ab fun K hK=>aa ae ?_
 simp only [ak,fl,gp,aj,simprocAttr]
 refine af trivial (hK _ ?_)<;>clear hK K
 refine qa (qm ?_)
 refine cu 18 rfl ?_
 refine ab fun K hK=>aa ae ?_
 simp only [ak,fl,gp,aj,simprocAttr]
 refine af trivial (hK _ ?_)<;>clear hK K
 refine qa (qm (qm ?_))
 refine ab fun K hK=>aa ae ?_
 simp only [ak,fl,gp,aj,simprocAttr]
 refine af trivial (hK _ ?_)<;>clear hK K
 refine qa (ql ?_)
 refine aB (ι:=Nat × Int × List (List (List Int))) (fun x=>⟨224,[(0,.p (.int .i64 p)),(1,.p (.list (ll s'))),(8,.p (.int .i64 n)),(9,.p (.list (ll a))),(18,.sl 0 0 x.2.2.length),(19,.p (.int .i64 x.2.1)),(20,.p (.int .i64 x.1))],.own (gF 1 x.2.2) :: im W 1 x.2.2⟩) (fun x=>x.1≤p∧-1000≤x.2.1∧x.2.1≤n∧x.2.2.length≤x.1∧iw p s' a (p - x.1) x.2.1 x.1 x.2.2=iw p s' a p n 0 []) (fun x=>p - x.1) (0,(n:Int),[]) ⟨Nat.zero_le _,by simp only; omega,by simp only; omega,Nat.le_refl _,rfl⟩ ((n + 1) :: (List.range' 1 (cU [])++[])) (oX (W:=W) (Sp:=[]) rfl rfl (.inr (by simp [cU])) (by show aq (H'++[.own []]) (n + 1)=_; rw [← hHl]; exact a8 H' _) (fun j hj=>by simp [cU] at hj) (by simp [jS,St.get,lk,Go.Pv.bg,bu,bb,bq,cU,hHl])) fun x hx=>?_
 obtain ⟨v,left,Out⟩:=x
 obtain ⟨x1,x2,x3,x4,x5⟩:=hx
 simp only at x1 x2 x3 x4 x5
 obtain ⟨z,hz⟩:∃ z,cU Out=z:=⟨_,rfl⟩
 obtain ⟨X,hX⟩:∃ X,im W 1 Out=X:=⟨_,rfl⟩
 have hXl:X.length=z:=by rw [← hX,cD,hz]
 rw [hX]
 refine qm (qm ?_)
 rcases Nat.lt_or_ge v p with hvp | hvp
 ·refine ab fun K hK=>aa ae ?_
  simp only [ak,fl,gp,aj,simprocAttr,decide_eq_true (show (v:Int) < (p:Int) by omega)]
  refine af trivial (hK _ ?_)<;>clear hK K
  refine qa ?_
  refine ao rfl (fun hC6=>?_) (fun hC6=>?_)
  ·(try simp only [aH] at hC6)
   have hlp:0 < left:=by simpa using hC6
   have hstep:=x8 (s:=s') (a:=a) (out:=Out) hvp hlp
   rw [x5,hn] at hstep
   refine qh (qa (qm (ql (qm ?_))))
   refine ab fun K hK=>aa ae ?_
   simp only [ak,fl,gp,aj,simprocAttr,hXl,List.length_append]
   refine af ?_ (hK _ ?_)<;>clear hK K
   ·first|exact trivial|omega|(simp only [ah] at *; omega)|(simp [ah] at *; omega)|simp_all
   refine qa (qm (qm ?_))
   refine ab fun K hK=>aa ae ?_
   simp only [ak,fl,gp,aj,simprocAttr,ay,hal]
   refine af trivial (hK _ ?_)<;>clear hK K
   refine qa (ql ?_)
   refine aB (ι:=Nat) (fun i=>⟨224,[(0,.p (.int .i64 p)),(1,.p (.list (ll s'))),(8,.p (.int .i64 n)),(9,.p (.list (ll a))),(18,.sl 0 0 Out.length),(19,.p (.int .i64 left)),(20,.p (.int .i64 v)),(21,.sl (z + 1) 0 n),(127,.p (.int .i64 n)),(128,.p (.int .i64 i))],.own (gF 1 Out) :: (X++(.own (nB (z + 2) n i (n - i)) :: tl (jM p v a i)))⟩) (fun i=>i≤n) (fun i=>n - i) 0 (Nat.zero_le _) (List.range (z + 2)) (xZ (c:=List.replicate n (.p .nil)) (M:=[]) (X:=X) (o:=gF 1 Out) hXl rfl (by simp [o6,jM,tl]) rfl (by simp) (by rw [← o6 1 1]; exact kp (by omega)) (rm (by omega)) (by rw [← hX]; exact rF (by omega)) (by
    simp [St.get,lk,bb,bq,hXl]<;>omega)) fun i hi=>?_
   obtain ⟨B,hB⟩:∃ B,jM p v a i=B:=⟨_,rfl⟩
   have hBl:B.length=i:=by rw [← hB,qP]
   rw [hB]
   refine qm ?_
   refine ab fun K hK=>aa ae ?_
   simp only [ak,fl,gp,aj,simprocAttr]
   refine af trivial (hK _ ?_)<;>clear hK K
   refine qa (qm ?_)
   refine ao rfl (fun hC7=>?_) (fun hC7=>?_)
   ·(try simp only [aH] at hC7)
    have hin:i < n:=by omega
    obtain ⟨r,hr⟩:∃ r,a.getD i []=r:=⟨_,rfl⟩
    have hrl:r.length=n:=by rw [← hr]; exact har _ (aC (by omega))
    have hrg:eB p r:=by rw [← hr]; exact hag _ (aC (by omega))
    have hrn:r ≠ []:=by intro e; rw [e] at hrl; simp at hrl; omega
    obtain ⟨c,hc⟩:∃ c,n - i=c + 1:=⟨n - i - 1,by omega⟩
    rw [hc]
    have hix:z + (i + 1) + 1=i + (z + 2):=by omega
    refine qh (qa (qm (ql (qm ?_))))
    refine ab fun K hK=>aa ae ?_
    simp only [ak,fl,gp,aj,simprocAttr]
    refine af trivial (hK _ ?_)<;>clear hK K
    refine qa (qm ?_)
    refine ab fun K hK=>aa ae ?_
    simp only [ak,fl,gp,aj,simprocAttr,ay,hal,dI (show i < a.length by omega),hr,hrl,List.length_append,List.length_cons,hXl,aD,hBl,hix,List.append_assoc,List.cons_append,ln,Gi hXl,HP hXl,qR,n8,kO]
    refine an ?_ (kC (wY r hrn (by omega)) rfl rfl (by first|rfl|(simp [Ec,bb,bq,bF]; done)|(simp only [Ec,List.all_cons,List.all_nil,fV,Bool.and_true]; rfl)) (by simp only [au,Nat.reduceLT]) (by repeat (first|exact trivial|constructor)) (aa ae ?_))
    ·omega
    simp only [Go.Pv.jU,List.range',aM.bg,k7,bg,bu,ak,fl,gp,aj,simprocAttr,ay,hal,dI (show i < a.length by omega),hr,hrl,List.length_append,List.length_cons,hXl,aD,hBl,hix,List.append_assoc,List.cons_append,ln,Gi hXl,HP hXl,qR,n8,kO]
    refine af ?_ (hK _ ?_)<;>clear hK K
    ·omega
    refine qa ?_
    have hBr:(B++[r]).getD i []=r:=by rw [← hBl,cH]
    have hsB:∀ y,(B++[r]).set i y=B++[y]:=fun y=>by rw [← hBl,gO]
    have hsb:r.set i ((r.getD i 0 - (v:Int)) % (p:Int))=yw p v a i:=by rw [yw,hr]
    have hri:=hrg i
    have ht1:=Int.lt_tmod_of_pos (r.getD i 0 - (v:Int)) (show (0:Int) < p by omega)
    have ht2:=Int.tmod_lt_of_pos (r.getD i 0 - (v:Int)) (show (0:Int) < p by omega)
    have hBS:jM p v a (i + 1)=B++[yw p v a i]:=by rw [zJ,hB]
    refine ba mixed (by kernel_rfl) fun K hK=>aa ae ?_
    simp only [ak,fl,gp,aj,simprocAttr,kO,B1 (Nat.lt_succ_self i),Gi hXl,Iu hXl _ _ (show i < (B++[r]).length by simp [hBl]),hBr,bB (show i < r.length by omega),AK (show 0 < p by omega),dV,IC hXl,hsB,hsb]
    refine af ?_ (hK _ ?_)<;>clear hK K
    ·simp only [ah] at *; omega
    refine qd (qa ?_)
    refine ab fun K hK=>aa ae ?_
    simp only [ak,fl,gp,aj,simprocAttr]
    refine af ?_ (hK _ ?_)<;>clear hK K
    ·first|exact trivial|omega|(simp only [ah] at *; omega)|(simp [ah] at *; omega)|simp_all
    refine qa ?_
    refine ⟨i + 1,List.range (z + 2 + (i + 1)),by omega,by omega,xZ (c:=nB (z + 2) n (i + 1) c) (M:=B++[yw p v a i]) (X:=X) (o:=gF 1 Out) hXl rfl (by rw [hBS,show n - (i + 1)=c by omega]) rfl (by simp [hBl]; omega) (kp (by omega)) (rm (by omega)) (by rw [← hX]; exact rF (by omega)) (by
     simp [St.get,lk,bb,bq]<;>omega)⟩
   (try simp only [aH] at hC7)
   have hin:i=n:=by omega
   rw [hin] at hB hBl ⊢
   rw [Nat.sub_self,uw]
   have hBr:∀ y∈B,y.length=n∧eB p y:=fun y hy=>by
    rw [← hB] at hy
    obtain ⟨t,ht,rfl⟩:=List.mem_map.1 hy
    have ht:=List.mem_range.1 ht
    exact ⟨by rw [rf]; exact har _ (aC (by omega)),vk (by omega) (hag _ (aC (by omega)))⟩
   have hkr:=pH hp2 hBl (fun v hv=>(hBr v hv).1) (fun v hv=>(hBr v hv).2)
   rw [hB] at hstep
   refine qj (qc (qc (qf (qa (qm ?_)))))
   refine kY 21 (z + 1) (z + 2) n hBl (fun v hv=>(hBr v hv).1) rfl (.inl (by omega)) (Gi hXl _ _ _) (fun i hi=>?_) fun H2 b1 b2=>?_
   ·rw [Nat.add_comm (z + 2) i]; exact Iu hXl _ _ (by omega)
   have hg0:aq H2 0 = .own (gF 1 Out):=by rw [b2 0 (by omega) (by omega)]; rfl
   have hgj:∀ j,j < z→aq H2 (1 + j)=aq (im W 1 Out) j:=fun j hj=>by
    rw [b2 (1 + j) (by omega) (by omega),Nat.add_comm 1 j,hX]
    show aq (X++_) j=_
    rw [aF (by omega)]
   have hH2:H2.length=z + 2 + n:=by rw [b1]; simp [hXl,aD,hBl]; omega
   obtain ⟨Kr,hKr⟩:∃ Kr,dY p B=Kr:=⟨_,rfl⟩
   rw [hKr] at hstep hkr
   refine ab fun K hK=>aa ae ?_
   simp only [ak,fl,gp,aj,simprocAttr]
   refine an trivial (al (y9 hp2 hp (show 0 < n by omega) hn100 B hBl (fun v hv=>(hBr v hv).1) (fun v hv=>(hBr v hv).2)) rfl rfl rfl (by simp only [au,Nat.reduceLT]) (by repeat (first|exact trivial|constructor)) (aa ae ?_))
   simp only [ak,fl,gp,aj,simprocAttr,hKr]
   refine af trivial (hK _ ?_)<;>clear hK K
   refine qa (qm (qm ?_))
   refine ab fun K hK=>aa ae ?_
   simp only [ak,fl,gp,aj,simprocAttr,ay]
   refine af trivial (hK _ ?_)<;>clear hK K
   refine qa ?_
   refine ao rfl (fun hC8=>?_) (fun hC8=>?_)
   ·(try simp only [aH] at hC8)
    have hK0:Kr=[]:=List.length_eq_zero_iff.1 (by omega)
    rw [if_pos hK0] at hstep
    refine qj (qc (qf (qa ?_)))
    refine ab fun K hK=>aa ae ?_
    simp only [ak,fl,gp,aj,simprocAttr]
    refine af ?_ (hK _ ?_)<;>clear hK K
    ·first|exact trivial|omega|(simp only [ah] at *; omega)|(simp [ah] at *; omega)|simp_all
    refine qa ?_
    refine ⟨(v + 1,left,Out),0 :: (List.range' 1 (cU Out)++[]),⟨by simp only; omega,by simp only; omega,by simp only; omega,by simp only; omega,hstep.symm⟩,by simp only; omega,?_⟩
    refine oX (W:=W) rfl rfl (.inl (by omega)) hg0 (by rw [hz]; exact hgj) (by simp [jS,St.get,lk,Go.Pv.bg,bu,bb,bq])
   (try simp only [aH] at hC8)
   have hK0:¬ Kr=[]:=fun e=>hC8 (by rw [e]; rfl)
   rw [if_neg hK0] at hstep
   refine qh (qa (qm ?_))
   refine ab fun K hK=>aa ae ?_
   simp only [ak,fl,gp,aj,simprocAttr,ay]
   refine af ?_ (hK _ ?_)<;>clear hK K
   ·simp only [ah]; omega
   refine qa (qm ?_)
   refine ab fun K hK=>aa ae ?_
   simp only [ak,fl,gp,aj,simprocAttr]
   refine af trivial (hK _ ?_)<;>clear hK K
   refine qa (qm (qm ?_))
   refine cu 24 rfl ?_
   refine ab fun K hK=>aa ae ?_
   simp only [ak,fl,gp,aj,simprocAttr,ay]
   refine af trivial (hK _ ?_)<;>clear hK K
   refine qa (ql ?_)
   have hs0:s'.getD 0 []∈s':=aC (by omega)
   have hs0l:(s'.getD 0 []).length=W:=l2 _ hs0
   have hcmr:∀ vv,uR p s' vv=qo p W s' vv vv.length:=fun vv=>by rw [uR,hs0l]
   obtain ⟨q,hq⟩:∃ q,Kr.length=q:=⟨_,rfl⟩
   obtain ⟨RW,hRW⟩:∃ RW,Kr.map (uR p s')=RW:=⟨_,rfl⟩
   have hRWl:RW.length=q:=by rw [← hRW,List.length_map,hq]
   rw [hq]
   rw [hq,hRW] at hstep
   refine aB (ι:=Nat) (fun k=>⟨224,[(0,.p (.int .i64 p)),(1,.p (.list (ll s'))),(8,.p (.int .i64 n)),(9,.p (.list (ll a))),(18,.sl 0 0 Out.length),(19,.p (.int .i64 (left - (q:Int)))),(20,.p (.int .i64 v)),(24,.sl (z + 1) 0 k),(171,.p (.list (ll Kr))),(172,.p (.int .i64 q)),(173,.p (.int .i64 k))],.own (gF 1 Out) :: (im W 1 Out++(.own (b8 (z + 2) W k) :: tl (RW.take k)))⟩) (fun k=>k≤q) (fun k=>q - k) 0 (Nat.zero_le _) (0 :: (List.range' 1 z++(H2.length :: List.range' (z + 1) 0))) (vN (W:=W) hz (M:=[]) rfl rfl (by simp [tl]) ⟨.inl (by omega),by omega,by omega,by omega,.inl (by omega),.inr (by omega)⟩ (by show aq (H2++_) 0=_; rw [aF (by omega)]; exact hg0) (fun j hj=>by show aq (H2++_) _=_; rw [aF (by omega)]; exact hgj j hj) (by show aq (H2++[.own []]) _=_; rw [a8]; rfl) (fun i hi=>absurd hi (Nat.not_lt_zero _)) (by
    have e1:(0 :: (List.range' 1 z++(H2.length :: List.range' (z + 1) 0))).getD (z + 1) 0=H2.length:=by
     have:=nX (κ:=0) (n:=z) (r:=H2.length :: List.range' (z + 1) 0) (j:=0)
     rw [show 1 + z + 0=z + 1 by omega] at this
     exact this
    simp only [jS,St.get,lk,Go.Pv.bg,bu,bb,bq,e1]
    simp)) fun k hk=>?_
   rw [hX]
   obtain ⟨D,hD⟩:∃ D,RW.take k=D:=⟨_,rfl⟩
   have hDl:D.length=k:=by rw [← hD,List.length_take]; omega
   rw [hD]
   refine qm ?_
   refine ab fun K hK=>aa ae ?_
   simp only [ak,fl,gp,aj,simprocAttr]
   refine af trivial (hK _ ?_)<;>clear hK K
   refine qa (qm ?_)
   refine ao rfl (fun hC9=>?_) (fun hC9=>?_)
   ·(try simp only [aH] at hC9)
    have hkq:k < q:=by omega
    obtain ⟨vv,hvv⟩:∃ vv,Kr.getD k []=vv:=⟨_,rfl⟩
    have hvm:vv∈Kr:=by rw [← hvv]; exact aC (by omega)
    have hvl:vv.length=n:=(hkr.1 vv hvm).1
    have hvg:eB p vv:=(hkr.1 vv hvm).2
    have hRk:RW.take (k + 1)=D++[qo p W s' vv n]:=by
     rw [List.take_succ_eq_append_getElem (by omega),hD]
     congr 2
     have e:Kr[k]'(by omega)=vv:=by rw [← hvv]; simp [List.getD,List.getElem?_eq_getElem (show k < Kr.length by omega)]
     simp only [← hRW,List.getElem_map,e]
     rw [hcmr,hvl]
    refine qh (qa (qm (ql (qm ?_))))
    refine ab fun K hK=>aa ae ?_
    simp only [ak,fl,gp,aj,simprocAttr,ay,dI (show k < Kr.length by omega),hvv]
    refine af ?_ (hK _ ?_)<;>clear hK K
    ·omega
    refine qa (qm ?_)
    refine ab fun K hK=>aa ae ?_
    simp only [ak,fl,gp,aj,simprocAttr,ay,dI (show 0 < s'.length by omega),aI,hs0l,List.length_append,List.length_cons,hXl,aD,hDl,b9]
    refine af ?_ (hK _ ?_)<;>clear hK K
    ·omega
    refine qa (qm (qm ?_))
    refine ab fun K hK=>aa ae ?_
    simp only [ak,fl,gp,aj,simprocAttr,aI,hvl]
    refine af trivial (hK _ ?_)<;>clear hK K
    refine qa (ql ?_)
    have hDc:(b8 (z + 2) W k).all (bb (z + 3 + k))=true:=ji (by omega)
    have hOc:(gF 1 Out).all (bb (z + 3 + k))=true:=rm (by omega)
    have hXc:∀ b∈X,eA (z + 3 + k) b=true:=by rw [← hX]; exact rF (by omega)
    refine aB (ι:=Nat) (fun i=>⟨224,[(0,.p (.int .i64 p)),(1,.p (.list (ll s'))),(8,.p (.int .i64 n)),(9,.p (.list (ll a))),(18,.sl 0 0 Out.length),(19,.p (.int .i64 (left - (q:Int)))),(20,.p (.int .i64 v)),(24,.sl (z + 1) 0 k),(27,.sl (k + (z + 2)) 0 W),(171,.p (.list (ll Kr))),(172,.p (.int .i64 q)),(173,.p (.int .i64 k)),(182,.p (.list (il vv))),(183,.p (.int .i64 n)),(184,.p (.int .i64 i))],.own (gF 1 Out) :: (X++(.own (b8 (z + 2) W k) :: tl (D++[qo p W s' vv i])))⟩) (fun i=>i≤n) (fun i=>n - i) 0 (Nat.zero_le _) (List.range (z + 3 + k)) (xZ (c:=b8 (z + 2) W k) (M:=D++[qo p W s' vv 0]) (X:=X) (o:=gF 1 Out) hXl rfl (by simp [tl,qo]) (by simp [tl,qo]) (by simp [hDl]; omega) hDc hOc hXc (by
     simp [St.get,lk,bb,bq]<;>omega)) fun i hi=>?_
    obtain ⟨w0,hw0⟩:∃ w0,qo p W s' vv i=w0:=⟨_,rfl⟩
    have hw0l:w0.length=W:=by rw [← hw0,nE]
    have hw0g:eB p w0:=by rw [← hw0]; exact uY (by omega) _ _ _ _
    rw [hw0]
    refine qm ?_
    refine ab fun K hK=>aa ae ?_
    simp only [ak,fl,gp,aj,simprocAttr]
    refine af trivial (hK _ ?_)<;>clear hK K
    refine qa (qm ?_)
    refine ao rfl (fun hC10=>?_) (fun hC10=>?_)
    ·(try simp only [aH] at hC10)
     have hin:i < n:=by omega
     obtain ⟨b,hb⟩:∃ b,s'.getD i []=b:=⟨_,rfl⟩
     have hbl:b.length=W:=by rw [← hb]; exact l2 _ (aC (by omega))
     have hbg:eB p b:=by rw [← hb]; exact l3 _ (aC (by omega))
     obtain ⟨x,hx⟩:∃ x,vv.getD i 0=x:=⟨_,rfl⟩
     have hxg:0≤x∧x < p:=by rw [← hx]; exact hvg i
     refine qh (qa (qm (ql (qm ?_))))
     refine ab fun K hK=>aa ae ?_
     simp only [ak,fl,gp,aj,simprocAttr,aT (show i < vv.length by omega),hx]
     refine af ?_ (hK _ ?_)<;>clear hK K
     ·omega
     refine qa (qm ?_)
     refine ab fun K hK=>aa ae ?_
     simp only [ak,fl,gp,aj,simprocAttr,ay,dI (show i < s'.length by omega),hb,aI,hbl]
     refine af ?_ (hK _ ?_)<;>clear hK K
     ·omega
     refine qa (ql ?_)
     refine aB (ι:=Nat) (fun j=>⟨224,[(0,.p (.int .i64 p)),(1,.p (.list (ll s'))),(8,.p (.int .i64 n)),(9,.p (.list (ll a))),(18,.sl 0 0 Out.length),(19,.p (.int .i64 (left - (q:Int)))),(20,.p (.int .i64 v)),(24,.sl (z + 1) 0 k),(27,.sl (k + (z + 2)) 0 W),(29,.p (.int .i64 x)),(171,.p (.list (ll Kr))),(172,.p (.int .i64 q)),(173,.p (.int .i64 k)),(182,.p (.list (il vv))),(183,.p (.int .i64 n)),(184,.p (.int .i64 i)),(192,.p (.list (il b))),(193,.p (.int .i64 W)),(194,.p (.int .i64 j))],.own (gF 1 Out) :: (X++(.own (b8 (z + 2) W k) :: tl (D++[cN (Ez p x w0 b) 0 j w0])))⟩) (fun j=>j≤W) (fun j=>W - j) 0 (Nat.zero_le _) (List.range (z + 3 + k)) (xZ (c:=b8 (z + 2) W k) (M:=D++[w0]) (X:=X) (o:=gF 1 Out) hXl rfl (by rw [db]) rfl (by simp [hDl]; omega) hDc hOc hXc (by
      simp [St.get,lk,bb,bq]<;>omega)) fun j hj=>?_
     obtain ⟨y,hy⟩:∃ y,cN (Ez p x w0 b) 0 j w0=y:=⟨_,rfl⟩
     have hyl:y.length=W:=by rw [← hy,bC,hw0l]
     rw [hy]
     refine qm ?_
     refine ab fun K hK=>aa ae ?_
     simp only [ak,fl,gp,aj,simprocAttr]
     refine af trivial (hK _ ?_)<;>clear hK K
     refine qa (qm ?_)
     refine ao rfl (fun hC11=>?_) (fun hC11=>?_)
     ·(try simp only [aH] at hC11)
      have hjW:j < W:=by omega
      have hyj:y.getD j 0=w0.getD j 0:=by rw [← hy,dh (by omega),if_neg (by omega)]
      have hDy:(D++[y]).getD k []=y:=by rw [← hDl,cH]
      have hDs:∀ u,(D++[y]).set k u=D++[u]:=fun u=>by rw [← hDl,gO]
      have hst:y.set j ((w0.getD j 0 + x * b.getD j 0) % (p:Int))=cN (Ez p x w0 b) 0 (j + 1) w0:=by
       rw [← hy]; exact fY (f:=Ez p x w0 b) (Nat.zero_le j) (by omega)
      have hm1:=jP hp hxg.1 hxg.2 (hbg j).1 (hbg j).2
      have hwj:=hw0g j
      have htm:Int.tmod (w0.getD j 0 + x * b.getD j 0) p=(w0.getD j 0 + x * b.getD j 0) % p:=Int.tmod_eq_emod_of_nonneg (by omega)
      refine qh (qa (qm (ql (qm ?_))))
      refine ab fun K hK=>aa ae ?_
      simp only [ak,fl,gp,aj,simprocAttr,aT (show j < b.length by omega)]
      refine af ?_ (hK _ ?_)<;>clear hK K
      ·omega
      refine qa ?_
      refine ab fun K hK=>aa ae ?_
      simp only [ak,fl,gp,aj,simprocAttr,Iu hXl _ _ (show k < (D++[y]).length by simp [hDl]),hDy,bB (show j < y.length by omega),hyj,htm,dV,IC hXl,hDs,hst]
      refine af ?_ (hK _ ?_)<;>clear hK K
      ·simp only [ah] at *; omega
      refine qd (qa ?_)
      refine ab fun K hK=>aa ae ?_
      simp only [ak,fl,gp,aj,simprocAttr]
      refine af ?_ (hK _ ?_)<;>clear hK K
      ·first|exact trivial|omega|(simp only [ah] at *; omega)|(simp [ah] at *; omega)|simp_all
      refine qa ?_
      refine ⟨j + 1,List.range (z + 3 + k),by omega,by omega,xZ (c:=b8 (z + 2) W k) (M:=D++[cN (Ez p x w0 b) 0 (j + 1) w0]) (X:=X) (o:=gF 1 Out) hXl rfl rfl rfl (by simp [hDl]; omega) hDc hOc hXc (by
       simp [St.get,lk,bb,bq]<;>omega)⟩
     (try simp only [aH] at hC11)
     have hjW:j=W:=by omega
     have hye:qo p W s' vv (i + 1)=y:=by rw [qo,hw0,hx,hb,Gl,hw0l,← hjW,hy]
     refine qj (qc (qc (qf (qd (qa ?_)))))
     refine ab fun K hK=>aa ae ?_
     simp only [ak,fl,gp,aj,simprocAttr]
     refine af ?_ (hK _ ?_)<;>clear hK K
     ·first|exact trivial|omega|(simp only [ah] at *; omega)|(simp [ah] at *; omega)|simp_all
     refine qa ?_
     refine ⟨i + 1,List.range (z + 3 + k),by omega,by omega,xZ (c:=b8 (z + 2) W k) (M:=D++[y]) (X:=X) (o:=gF 1 Out) hXl rfl (by rw [hye]) rfl (by simp [hDl]; omega) hDc hOc hXc (by
      simp [St.get,lk,bb,bq]<;>omega)⟩
    (try simp only [aH] at hC10)
    have hin:i=n:=by omega
    rw [hin] at hw0
    rw [hw0] at hRk
    obtain ⟨T,hT⟩:∃ T,tl (D++[w0])=T:=⟨_,rfl⟩
    have hTl:T.length=k + 1:=by rw [← hT,aD]; simp [hDl]
    have hrw:List.take k (b8 (z + 2) W k)=b8 (z + 2) W k:=kS rfl
    rw [hT]
    refine qj (qc (qc (qf (qa ?_))))
    refine ab fun K hK=>aa ae ?_
    simp only [ak,fl,gp,aj,simprocAttr,List.append_assoc,List.cons_append,hXl,hTl,List.length_append,List.length_cons,Gi hXl,HP hXl,G3 hXl hTl,hrw,gh,br]
    refine an ?_ (eM (ca ae rfl rfl rfl rfl rfl rfl) rfl (by simp only [au,Nat.reduceLT]) (aa ae ?_))
    ·first|exact trivial|omega|(simp only [ah] at *; omega)|(simp [ah] at *; omega)|simp_all
    simp only [ak,fl,gp,aj,simprocAttr,hXl,hTl,List.length_append,List.length_cons,List.append_assoc,List.cons_append,hXl,hTl,List.length_append,List.length_cons,Gi hXl,HP hXl,G3 hXl hTl,hrw,gh,br]
    refine af ?_ (hK _ ?_)<;>clear hK K
    ·exact ⟨vE _ _ _,by omega,by omega,by omega⟩
    refine qd (qa ?_)
    refine ab fun K hK=>aa ae ?_
    simp only [ak,fl,gp,aj,simprocAttr]
    refine af ?_ (hK _ ?_)<;>clear hK K
    ·first|exact trivial|omega|(simp only [ah] at *; omega)|(simp [ah] at *; omega)|simp_all
    refine qa ?_
    refine ⟨k + 1,0 :: (List.range' 1 z++((z + (k + 1 + 1 + 1) + 1) :: List.range' (z + 2) (k + 1))),by omega,by omega,?_⟩
    rw [hRk]
    refine vN (W:=W) hz (M:=D++[w0]) (by simp [hDl]) rfl (by rw [hX]) ⟨.inl (by omega),by omega,by omega,by omega,.inl (by omega),.inr (by omega)⟩ rfl (fun j hj=>?_) (IV hXl hTl _ _ _ _) (fun i hi=>?_) ?_
    ·rw [Nat.add_comm 1 j,hX]
     show aq (X++_) j=_
     rw [aF (by omega)]
    ·refine (Jc hXl (by omega) _ _ _).trans ?_
     rw [← hT,aU (by simp [hDl]; omega)]
    have e1:(0 :: (List.range' 1 z++((z + (k + 1 + 1 + 1) + 1) :: List.range' (z + 2) (k + 1)))).getD (z + 1) 0=z + (k + 1 + 1 + 1) + 1:=by
     have:=nX (κ:=0) (n:=z) (r:=(z + (k + 1 + 1 + 1) + 1) :: List.range' (z + 2) (k + 1)) (j:=0)
     rw [show 1 + z + 0=z + 1 by omega] at this
     exact this
    simp only [jS,St.get,lk,Go.Pv.bg,bu,bb,bq,e1]
    simp
   (try simp only [aH] at hC9)
   have hkq:k=q:=by omega
   have hDR:D=RW:=by rw [← hD,hkq,← hRWl,List.take_length]
   rw [hkq,hDR]
   have hht:List.take Out.length (gF 1 Out)=gF 1 Out:=List.take_of_length_le (by rw [so]; exact Nat.le_refl _)
   have hsn:gF 1 Out++[.sl (z + 1) 0 q]=gF 1 (Out++[RW]):=by rw [Bi,hz,hRWl,Nat.add_comm 1 z]
   have htR:(tl RW).length=q:=by rw [aD,hRWl]
   refine qj (qc (qc (qf (qa ?_))))
   refine ab fun K hK=>aa ae ?_
   simp only [ak,fl,gp,aj,simprocAttr,List.append_assoc,List.cons_append,hXl,htR,List.length_append,List.length_cons,G3 hXl htR,hht,hsn,so]
   refine an ?_ (eM (ca ae rfl rfl rfl rfl rfl rfl) rfl (by simp only [au,Nat.reduceLT]) (aa ae ?_))
   ·first|exact trivial|omega|(simp only [ah] at *; omega)|(simp [ah] at *; omega)|simp_all
   simp only [ak,fl,gp,aj,simprocAttr,hXl,htR,List.length_append,List.length_cons,List.append_assoc,List.cons_append,hXl,htR,List.length_append,List.length_cons,G3 hXl htR,hht,hsn,so]
   refine af ?_ (hK _ ?_)<;>clear hK K
   ·exact ⟨ED _ _,by omega,by omega,by omega⟩
   refine qd (qa ?_)
   refine ab fun K hK=>aa ae ?_
   simp only [ak,fl,gp,aj,simprocAttr]
   refine af ?_ (hK _ ?_)<;>clear hK K
   ·first|exact trivial|omega|(simp only [ah] at *; omega)|(simp [ah] at *; omega)|simp_all
   refine qa ?_
   have hzS:cU (Out++[RW])=z + (1 + q):=by rw [z7,hz,hRWl]
   refine ⟨(v + 1,left - (q:Int),Out++[RW]),(z + (q + 1 + 1) + 1) :: (List.range' 1 (cU (Out++[RW]))++[]),⟨by simp only; omega,by simp only; omega,by simp only; omega,by simp only [List.length_append,List.length_singleton]; omega,hstep.symm⟩,by simp only; omega,?_⟩
   have hch:im W 1 (Out++[RW])=X++(.own (b8 (z + 2) W q) :: tl RW):=by rw [AT,hX,hz,hRWl,show 1 + z + 1=z + 2 by omega]
   refine oX (W:=W) rfl rfl (.inr (by omega)) (IV hXl htR _ _ _ _) (fun j hj=>?_) (by simp [jS,St.get,lk,Go.Pv.bg,bu,bb,bq])
   rw [Nat.add_comm 1 j,hch]
   show aq (X++(_ :: (tl RW++_))) j=_
   rw [← List.cons_append,← List.append_assoc,aF (by simp [hXl,htR]; omega)]
  (try simp only [aH] at hC6)
  refine qj (qc (qc (qf (qa (qm ?_)))))
  refine ab fun K hK=>aa ae ?_
  simp only [ak,fl,gp,aj,simprocAttr]
  refine af trivial (hK _ ?_)<;>clear hK K
  refine qa (qk ?_)
  simp only [Tryd.results44,oS,oe,mc,Ag,iW,ak,fl,gp,aj,simprocAttr]
  have hR:iw p s' a p n 0 []=Out:=by rw [← x5]; exact mi (by first|(left; omega)|(right; simp at hC6; omega))
  rw [hR]
  refine ⟨0 :: (List.range' 1 (cU Out)++[]),rfl,by simp [bb,bq],oX (W:=W) rfl rfl (.inl (by omega)) rfl (fun j hj=>?_) trivial⟩
  rw [Nat.add_comm 1 j,hX]; rfl
 refine ab fun K hK=>aa ae ?_
 simp only [ak,fl,gp,aj,simprocAttr,decide_eq_false (show ¬ (v:Int) < (p:Int) by omega)]
 refine af trivial (hK _ ?_)<;>clear hK K
 refine qa ?_
 refine ao rfl (fun hC6=>?_) (fun hC6=>?_)
 ·cases hC6
 refine qj (qc (qc (qf (qa (qm ?_)))))
 refine ab fun K hK=>aa ae ?_
 simp only [ak,fl,gp,aj,simprocAttr]
 refine af trivial (hK _ ?_)<;>clear hK K
 refine qa (qk ?_)
 simp only [Tryd.results44,oS,oe,mc,Ag,iW,ak,fl,gp,aj,simprocAttr]
 have hR:iw p s' a p n 0 []=Out:=by rw [← x5]; exact mi (by first|(left; omega)|(right; simp at hC6; omega))
 rw [hR]
 refine ⟨0 :: (List.range' 1 (cU Out)++[]),rfl,by simp [bb,bq],oX (W:=W) rfl rfl (.inl (by omega)) rfl (fun j hj=>?_) trivial⟩
 rw [Nat.add_comm 1 j,hX]; rfl
section
variable {n:Nat} {f:Nat→Nat→Nat} {e:Nat}
end
theorem ud (m:List Int) (n e:Nat):(xG m n e).length=n:=sj _ _
theorem Bn (m:List Int) {n e a:Nat} (ha:a < n):(xG m n e).getD a 0=((ord n (op m n) e a:Nat):Int):=yH _ ha
open Go.Pv
def fx (m:List Int) (n e:Nat):Nat→Nat
 | 0=>1
 | i + 1=>Nat.lcm (fx m n e i) (ord n (op m n) e i)
theorem jh {m:List Int} {n e:Nat} (h:GT n m n e):∀ i,i≤n→fx m n e i ∣ n
 | 0,_=>Nat.one_dvd n
 | i + 1,hi=>Nat.lcm_dvd (jh h i (by omega)) (h.2.2.Cb (by omega))
theorem pD {m:List Int} {n e:Nat} (h:GT n m n e) {i:Nat} (hi:i≤n):1≤fx m n e i∧fx m n e i≤60:=by
 have hp:=h.2.1.pos
 have hb:=h.2.1.big
 have hd:=jh h i hi
 exact ⟨Nat.pos_of_dvd_of_pos hd hp,Nat.le_trans (Nat.le_of_dvd hp hd) hb⟩
theorem tY {n e:Nat} {m:List Int} (h:GT n m n e):bL Tryd.prog 75 [gp n m] (.tup [.int .i64 (fx m n e n:Nat),fl (0,0)]):=by
 have G:=h.2.2
 have hb:=h.2.1.big
 have ll:=ud m n e
 refine aK ae Tryd.func75 rfl (by kernel_rfl) (by rw [Tryd.ntmps75]; exact Nat.le_add_left 1 _) ?_; rw [Tryd.ntmps75]
 refine qm ?_
 refine ab fun K hK=>aa ae ?_
 simp only [ak,fl,gp,aj,simprocAttr]
 refine af ?_ (hK _ ?_)<;>clear hK K
 ·first|exact trivial|omega|(simp only [ah] at *; omega)|(simp [ah] at *; omega)|simp_all
 refine qa (qm ?_)
 refine ab fun K hK=>aa ae ?_
 simp only [ak,fl,gp,aj,simprocAttr]
 refine an trivial (al (xQ h) rfl rfl rfl (by simp only [au,Nat.reduceLT]) (by repeat (first|exact trivial|constructor)) (aa ae ?_))
 simp only [ak,fl,gp,aj,simprocAttr]
 refine af ?_ (hK _ ?_)<;>clear hK K
 ·first|exact trivial|omega|(simp only [ah] at *; omega)|(simp [ah] at *; omega)|simp_all
 refine qa (qm (qm ?_))
 refine ab fun K hK=>aa ae ?_
 simp only [ak,fl,gp,aj,simprocAttr]
 refine af ?_ (hK _ ?_)<;>clear hK K
 ·first|exact trivial|omega|(simp only [ah] at *; omega)|(simp [ah] at *; omega)|simp_all
 refine qa ?_
 refine ao rfl (fun hC1=>?_) (fun hC1=>?_)
 ·cases hC1
 (try simp only [aH] at hC1)
 refine qh (qa (qm ?_))
 refine ab fun K hK=>aa ae ?_
 simp only [ak,fl,gp,aj,simprocAttr]
 refine af trivial (hK _ ?_)<;>clear hK K
 refine qa (qm (qm ?_))
 refine ab fun K hK=>aa ae ?_
 simp only [ak,fl,gp,aj,simprocAttr,ud]
 refine af trivial (hK _ ?_)<;>clear hK K
 refine qa (ql ?_)
 refine aB (ι:=Nat) (fun i=>⟨37,[(3,.ptr 0 0),(5,.ptr 1 0),(6,.p (.int .i64 (fx m n e i:Nat))),(19,.p (.list (il (xG m n e)))),(20,.p (.int .i64 n)),(21,.p (.int .i64 i))],[.own [.p (.int .i64 0),.p (.int .i64 0)],.own [.p (.int .i64 0),.p (.int .i64 0)]]⟩) (fun i=>i≤n) (fun i=>n - i) 0 (Nat.zero_le _) [1,2] (by simp only [leq,bw,ak,fl,gp,aj,simprocAttr]<;>trivial) fun i hi=>?_
 refine qm ?_
 refine ab fun K hK=>aa ae ?_
 simp only [ak,fl,gp,aj,simprocAttr]
 refine af trivial (hK _ ?_)<;>clear hK K
 refine qa (qm ?_)
 refine ao rfl (fun hC2=>?_) (fun hC2=>?_)
 ·(try simp only [aH] at hC2)
  have hlt:i < n:=by omega
  have hg:=Bn m (e:=e) hlt
  have o1:=G.nC hlt
  obtain ⟨e1,e2⟩:=pD h hi
  obtain ⟨_,l2⟩:=pD h (show i + 1≤n from hlt)
  have hL:fx m n e (i + 1)=Nat.lcm (fx m n e i) (ord n (op m n) e i):=rfl
  obtain ⟨q,hq⟩:=Nat.dvd_lcm_left (fx m n e i) (ord n (op m n) e i)
  have hdo:=Nat.dvd_lcm_right (fx m n e i) (ord n (op m n) e i)
  have hleast:∀ j,ord n (op m n) e i ∣ fx m n e i * j→Nat.lcm (fx m n e i) (ord n (op m n) e i) ∣ fx m n e i * j:=fun j hj=>Nat.lcm_dvd (Nat.dvd_mul_right _ _) hj
  rw [hL] at l2
  rw [hq] at l2 hdo hleast hL
  have hq1:1≤q:=by
   rcases Nat.eq_zero_or_pos q with h0 | h0
   ·subst h0
    have:=(pD h (show i + 1≤n from hlt)).1
    rw [hL] at this; omega
   exact h0
  generalize hx:fx m n e i=x at *
  refine qh (qa (qm (ql (qm ?_))))
  refine ab fun K hK=>aa ae ?_
  simp only [ak,fl,gp,aj,simprocAttr,aT (show i < (xG m n e).length by omega),hg]
  refine af ?_ (hK _ ?_)<;>clear hK K
  ·first|exact trivial|omega|(simp only [ah] at *; omega)|(simp [ah] at *; omega)|simp_all
  refine qa (qm ?_)
  refine ab fun K hK=>aa ae ?_
  simp only [ak,fl,gp,aj,simprocAttr]
  refine af trivial (hK _ ?_)<;>clear hK K
  refine qa (qm (ql ?_))
  refine aB (ι:=Nat) (fun j=>⟨37,[(3,.ptr 0 0),(5,.ptr 1 0),(6,.p (.int .i64 (x:Nat))),(8,.p (.int .i64 (ord n (op m n) e i:Nat))),(9,.p (.int .i64 (x * j:Nat))),(19,.p (.list (il (xG m n e)))),(20,.p (.int .i64 n)),(21,.p (.int .i64 i))],[.own [.p (.int .i64 0),.p (.int .i64 0)],.own [.p (.int .i64 0),.p (.int .i64 0)]]⟩) (fun j=>1≤j∧j≤q) (fun j=>q - j) 1 ⟨Nat.le_refl _,hq1⟩ [0,1] (by rw [Nat.mul_one]; simp only [leq,bw,ak,fl,gp,aj,simprocAttr]<;>trivial) fun j hj=>?_
  obtain ⟨hj1,hj2⟩:=hj
  have hxj:x * j≤x * q:=Nat.mul_le_mul_left _ hj2
  refine qm (qm ?_)
  refine ab fun K hK=>aa ae ?_
  simp only [ak,fl,gp,aj,simprocAttr,oc]
  refine af ?_ (hK _ ?_)<;>clear hK K
  ·omega
  refine qa ?_
  refine ao rfl (fun hC3=>?_) (fun hC3=>?_)
  ·(try simp only [aH] at hC3)
   have hjq:j ≠ q:=by
    intro hh
    subst hh
    have:=Nat.mod_eq_zero_of_dvd hdo
    omega
   refine qh (qa (ql ?_))
   refine ab fun K hK=>aa ae ?_
   simp only [ak,fl,gp,aj,simprocAttr]
   refine af ?_ (hK _ ?_)<;>clear hK K
   ·first|exact trivial|omega|(simp only [ah] at *; omega)|(simp [ah] at *; omega)|simp_all
   refine qd (qa ?_)
   refine ⟨j + 1,[0,1],⟨by omega,by omega⟩,by omega,?_⟩
   rw [Nat.mul_succ]
   simp only [leq,bw,ak,fl,gp,aj,simprocAttr]<;>first|trivial|omega
  (try simp only [aH] at hC3)
  have hjq:j=q:=by
   have hd:=hleast j (Nat.dvd_of_mod_eq_zero (by omega))
   have hpos:0 < x * j:=Nat.mul_pos e1 hj1
   have:=Nat.le_of_dvd hpos hd
   have:=Nat.le_of_mul_le_mul_left this e1
   omega
  refine qj (qc (qc (qf (qa ?_))))
  refine ab fun K hK=>aa ae ?_
  simp only [ak,fl,gp,aj,simprocAttr]
  refine af trivial (hK _ ?_)<;>clear hK K
  refine qd (qa ?_)
  refine ab fun K hK=>aa ae ?_
  simp only [ak,fl,gp,aj,simprocAttr]
  refine af ?_ (hK _ ?_)<;>clear hK K
  ·first|exact trivial|omega|(simp only [ah] at *; omega)|(simp [ah] at *; omega)|simp_all
  refine qa ?_
  refine ⟨i + 1,[0,1],by omega,by omega,?_⟩
  rw [hL,← hjq]
  simp only [leq,bw,ak,fl,gp,aj,simprocAttr]<;>first|trivial|omega
 (try simp only [aH] at hC2)
 have hin:i=n:=by omega
 refine qj (qc (qc (qf (qa (qm ?_)))))
 refine ba mixed (by kernel_rfl) fun K hK=>aa ae ?_
 simp only [ak,fl,gp,aj,simprocAttr]
 refine af ?_ (hK _ ?_)<;>clear hK K
 ·first|exact trivial|omega|(simp only [ah] at *; omega)|(simp [ah] at *; omega)|simp_all
 refine qa (qk ?_)
 simp only [Tryd.results75,bY,ak,fl,gp,aj,simprocAttr]
 all_goals (rw [hin])
def Af (E N k:Nat):Bool:=decide (2 * N < E * (k + 1) + 1) && pK (E * (k + 1) + 1)
def xR (E N:Nat):Nat:=(bR (Af E N) 200).getD 0
def By (E N:Nat):Nat:=E * (xR E N + 1) + 1
def HF:Bool:=(List.range 61).all fun N=>(List.range 61).all fun E=>decide (N=0) || decide (¬ N % E=0) || (bR (Af E N) 200).isSome
theorem Ds:HF=true:=by decide +kernel
theorem E4 {E N:Nat} (h1:1≤N) (h2:N≤60) (hd:E ∣ N):bR (Af E N) 200=some (xR E N):=by
 have h:=List.all_eq_true.1 Ds N (List.mem_range.2 (by omega))
 have hE:=Nat.le_of_dvd (by omega) hd
 have h:=List.all_eq_true.1 h E (List.mem_range.2 (by omega))
 simp only [Bool.or_eq_true,decide_eq_true_eq] at h
 rcases h with (h | h) | h
 ·omega
 ·exact absurd (Nat.mod_eq_zero_of_dvd hd) h
 unfold xR
 obtain ⟨k,hk⟩:=Option.isSome_iff_exists.1 h
 rw [hk]; rfl
theorem tq {E N:Nat} (h1:1≤N) (h2:N≤60) (hd:E ∣ N):xR E N < 200∧Af E N (xR E N)=true∧∀ j,j < xR E N→Af E N j=false:=cF (E4 h1 h2 hd)
theorem FT {E N:Nat} (h1:1≤N) (h2:N≤60) (hd:E ∣ N):2 * N < By E N∧By E N≤20000∧pK (By E N)=true:=by
 obtain ⟨k1,k2,_⟩:=tq h1 h2 hd
 have hE:=Nat.le_of_dvd (by omega) hd
 have:=Nat.mul_le_mul hE (show xR E N + 1≤200 by omega)
 simp only [Af,Bool.and_eq_true,decide_eq_true_eq] at k2
 exact ⟨k2.1,by unfold By; omega,k2.2⟩
theorem yh {n e:Nat} {m:List Int} (h:GT n m n e):bL Tryd.prog 43 [gp n m] (.int .i64 (By (fx m n e n) n:Nat)):=by
 have hb:=h.2.1.big
 have hp:=h.2.1.pos
 have hd:=jh h n (Nat.le_refl _)
 obtain ⟨k1,k2,k3⟩:=tq hp hb hd
 have hEl:=Nat.le_of_dvd (by omega) hd
 have hmr:By (fx m n e n) n=fx m n e n * (xR (fx m n e n) n + 1) + 1:=rfl
 have hexp:=tY h
 generalize fx m n e n=E at *
 have e0:(E:Int) + 1=((E * (0 + 1) + 1:Nat):Int):=by simp
 refine aK ae Tryd.func43 rfl (by kernel_rfl) (by rw [Tryd.ntmps43]; exact Nat.le_add_left 1 _) ?_; rw [Tryd.ntmps43]
 refine qm ?_
 refine ab fun K hK=>aa ae ?_
 simp only [ak,fl,gp,aj,simprocAttr]
 refine af ?_ (hK _ ?_)<;>clear hK K
 ·first|exact trivial|omega|(simp only [ah] at *; omega)|(simp [ah] at *; omega)|simp_all
 refine qa (qm ?_)
 refine ab fun K hK=>aa ae ?_
 simp only [ak,fl,gp,aj,simprocAttr]
 refine an trivial (al (hexp) rfl rfl rfl (by simp only [au,Nat.reduceLT]) (by repeat (first|exact trivial|constructor)) (aa ae ?_))
 simp only [ak,fl,gp,aj,simprocAttr]
 refine af ?_ (hK _ ?_)<;>clear hK K
 ·first|exact trivial|omega|(simp only [ah] at *; omega)|(simp [ah] at *; omega)|simp_all
 refine qa (qm ?_)
 refine ab fun K hK=>aa ae ?_
 simp only [ak,fl,gp,aj,simprocAttr,e0]
 refine af ?_ (hK _ ?_)<;>clear hK K
 ·first|exact trivial|omega|(simp only [ah] at *; omega)|(simp [ah] at *; omega)|simp_all
 refine qa (qm (ql ?_))
 refine aB (ι:=Nat) (fun k=>⟨27,[(1,.ptr 0 0),(3,.p (.int .i64 E)),(5,.p (.int .i64 (E * (k + 1) + 1:Nat)))],[.own [.p (.int .i64 n),.p (.list (il m))]]⟩) (fun k=>k≤xR E n) (fun k=>xR E n - k) 0 (Nat.zero_le _) [0] (by simp only [leq,bw,ak,fl,gp,aj,simprocAttr]) fun k hk=>?_
 have hEk:E * (k + 1)≤60 * 200:=Nat.mul_le_mul (by omega) (by omega)
 obtain ⟨q,hq⟩:∃ q,E * (k + 1) + 1=q:=⟨_,rfl⟩
 have hpr:=Dm (p:=q) (by omega)
 have hmc:Af E n k=(decide (2 * n < q) && pK q):=by rw [Af,hq]
 have hnx:E * (k + 1 + 1)=E * (k + 1) + E:=Nat.mul_succ _ _
 rw [hq]
 refine qm (qm ?_)
 rcases Nat.lt_or_ge (2 * n) q with hlt | hlt
 ·refine ab fun K hK=>aa ae ?_
  simp only [ak,fl,gp,aj,simprocAttr,decide_eq_false (show ¬ (q:Int)≤2 * (n:Int) by omega)]
  refine an ?_ (al (hpr) rfl rfl rfl (by simp only [au,Nat.reduceLT]) (by repeat (first|exact trivial|constructor)) (aa ae ?_))
  ·(first|omega|(simp only [ah] at *; done)|(simp only [ah] at *; omega))
  simp only [ak,fl,gp,aj,simprocAttr,decide_eq_false (show ¬ (q:Int)≤2 * (n:Int) by omega)]
  refine af ?_ (hK _ ?_)<;>clear hK K
  ·first|exact trivial|omega|(simp only [ah] at *; omega)|(simp [ah] at *; omega)|simp_all
  refine qa ?_
  refine ao rfl (fun hC1=>?_) (fun hC1=>?_)
  ·(try simp only [aH] at hC1)
   have hmf:Af E n k=false:=by
    rw [hmc]
    cases hb:pK q with
    | false=>simp
    | true=>rw [hb] at hC1; simp at hC1
   have hkl:k < xR E n:=by
    refine Nat.lt_of_le_of_ne hk fun e=>?_
    rw [e,k2] at hmf; cases hmf
   refine qh (qa (ql ?_))
   refine ab fun K hK=>aa ae ?_
   simp only [ak,fl,gp,aj,simprocAttr]
   refine af ?_ (hK _ ?_)<;>clear hK K
   ·(first|omega|(simp only [ah] at *; done)|(simp only [ah] at *; omega))
   refine qd (qa ?_)
   refine ⟨k + 1,[0],by omega,by omega,by simp only [leq,bw,ak,fl,gp,aj,simprocAttr]<;>omega⟩
  (try simp only [aH] at hC1)
  have hmt:Af E n k=true:=by
   rw [hmc,decide_eq_true hlt,Bool.true_and]
   cases hb:pK q with
   | true=>rfl
   | false=>rw [hb] at hC1; simp at hC1
  have hkl:k=xR E n:=by
   refine Nat.le_antisymm hk (Nat.le_of_not_lt fun hl=>?_)
   rw [k3 k hl] at hmt; cases hmt
  refine qj (qc (qc (qf (qa (qm ?_)))))
  refine ab fun K hK=>aa ae ?_
  simp only [ak,fl,gp,aj,simprocAttr]
  refine af trivial (hK _ ?_)<;>clear hK K
  refine qa (qk ?_)
  simp only [Tryd.results43,bY,ak,fl,gp,aj,simprocAttr]
  congr 2
  rw [hmr,← hkl,hq]
 refine ab fun K hK=>aa ae ?_
 simp only [ak,fl,gp,aj,simprocAttr,decide_eq_true (show (q:Int)≤2 * (n:Int) by omega)]
 refine af ?_ (hK _ ?_)<;>clear hK K
 ·first|exact trivial|omega|(simp only [ah] at *; omega)|(simp [ah] at *; omega)|simp_all
 refine qa ?_
 refine ao rfl (fun hC1=>?_) (fun hC1=>?_)
 ·have hmf:Af E n k=false:=by rw [hmc,decide_eq_false (by omega),Bool.false_and]
  have hkl:k < xR E n:=by
   refine Nat.lt_of_le_of_ne hk fun e=>?_
   rw [e,k2] at hmf; cases hmf
  refine qh (qa (ql ?_))
  refine ab fun K hK=>aa ae ?_
  simp only [ak,fl,gp,aj,simprocAttr]
  refine af ?_ (hK _ ?_)<;>clear hK K
  ·(first|omega|(simp only [ah] at *; done)|(simp only [ah] at *; omega))
  refine qd (qa ?_)
  refine ⟨k + 1,[0],by omega,by omega,by simp only [leq,bw,ak,fl,gp,aj,simprocAttr]<;>omega⟩
 cases hC1
section
variable {n:Nat} {f:Nat→Nat→Nat} {e:Nat}
end
open Go.Pv
theorem gW {α β:Type} (R:α→β→Bool) (L1:List α):∀ L2:List β,(L1.map fun a=>(L2.filter (R a)).length).sum=(L2.map fun b=>(L1.filter fun a=>R a b).length).sum
 | []=>by induction L1 with
  | nil=>rfl
  | cons a t ih=>simpa using ih
 | b :: t=>by
  have ih:=gW R L1 t
  have:(L1.map fun a=>((b :: t).filter (R a)).length).sum=(L1.filter fun a=>R a b).length + (L1.map fun a=>(t.filter (R a)).length).sum:=by
   clear ih
   induction L1 with
   | nil=>rfl
   | cons a u ihu =>
    have h1:((b :: t).filter (R a)).length=(if R a b then 1 else 0) + (t.filter (R a)).length:=by
     rw [List.filter_cons]; cases R a b<;>simp<;>omega
    have h2:((a :: u).filter fun a=>R a b).length=(if R a b then 1 else 0) + (u.filter fun a=>R a b).length:=by
     rw [List.filter_cons]; cases R a b<;>simp<;>omega
    rw [List.map_cons,List.sum_cons,ihu,List.map_cons,List.sum_cons,h1,h2]
    omega
  rw [this,ih]; simp
theorem jw {α:Type} {g:α→Nat} {c:Nat} : ∀ {l:List α},(∀ a∈l,g a=c)→(l.map g).sum=l.length * c
 | [],_=>by simp
 | a :: t,h=>by
  rw [List.map_cons,List.sum_cons,h a (by simp),jw (fun x hx=>h x (by simp [hx])),List.length_cons,Nat.succ_mul]; omega
theorem IW {α β:Type} (R:α→β→Bool) {L1:List α} {L2:List β} {c1 c2:Nat} (h1:∀ a∈L1,(L2.filter (R a)).length=c1) (h2:∀ b∈L2,(L1.filter fun a=>R a b).length=c2):L1.length * c1=L2.length * c2:=by
 rw [← jw h1,← jw h2,gW]
section
variable {n:Nat} {f:Nat→Nat→Nat} {e:Nat}
def DL (f:Nat→Nat→Nat) (y x:Nat):Bool:=decide (f x y=f y x)
theorem kH {y x:Nat} : DL f y x=true↔f x y=f y x:=by simp [DL]
end
open Go.Pv
section
variable {n:Nat} {f:Nat→Nat→Nat} {e:Nat}
theorem Sub.and {a b:Nat→Bool} (ha:Sub n f e a) (hb:Sub n f e b):Sub n f e fun x=>a x && b x where
 one:=by simp [ha.one,hb.one]
 mul x y hx hy h1 h2:=by
  rw [Bool.and_eq_true] at *
  exact ⟨ha.mul x y hx hy h1.1 h2.1,hb.mul x y hx hy h1.2 h2.2⟩
 inv x hx h:=by
  rw [Bool.and_eq_true] at *
  exact ⟨ha.inv x hx h.1,hb.inv x hx h.2⟩
theorem B3 {p:Nat→Bool} (he:e < n) (h:∀ a,a < n→(p a=true↔a=e)):(mem n p).length=1:=by
 have:(mem n p).length=[e].length:=fb (List.nodup_range.filter _) (by simp) fun x=>by
  rw [aQ,List.mem_singleton]
  constructor
  ·rintro ⟨h1,h2⟩; exact (h x h1).1 h2
  rintro rfl; exact ⟨he,(h x he).2 rfl⟩
 exact this
theorem CX {p:Nat→Bool} : (mem n p).length=n↔∀ a,a < n→p a=true:=by
 constructor
 ·intro h a ha
  have h1:(mem n p).length=(List.range n).length:=by rw [h,List.length_range]
  have h2:=List.length_filter_eq_length_iff.1 h1
  exact h2 a (List.mem_range.2 ha)
 intro h
 have:mem n p=List.range n:=List.filter_eq_self.2 fun a ha=>h a (List.mem_range.1 ha)
 rw [this,List.length_range]
end
open Go.Pv
def lead (r:Nat→Nat→Bool) (a:Nat):Bool:=r a a && decide (∀ b,b < a→r a b=false)
theorem gI {r:Nat→Nat→Bool} {a:Nat} : lead r a=true↔r a a=true∧∀ b,b < a→r a b=false:=by
 unfold lead; rw [Bool.and_eq_true,decide_eq_true_eq]
structure uG (n:Nat) (r:Nat→Nat→Bool):Prop where
 refl:∀ a,a < n→r a a=true
 symm:∀ a b,a < n→b < n→r a b=true→r b a=true
 trans:∀ a b c,a < n→b < n→c < n→r a b=true→r b c=true→r a c=true
theorem uG.least {n:Nat} {r:Nat→Nat→Bool} (h:uG n r) {y:Nat} (hy:y < n):∃ x,x < n∧lead r x=true∧r x y=true:=by
 cases hf:bR (r y) n with
 | none=>have:=bZ hf y hy; rw [h.refl y hy] at this; cases this
 | some x =>
  obtain ⟨h1,h2,h3⟩:=cF hf
  refine ⟨x,h1,gI.2 ⟨h.refl x h1,fun b hb=>?_⟩,h.symm y x hy h1 h2⟩
  cases hb2:r x b with
  | false=>rfl
  | true=>have:=h.trans y x b hy h1 (by omega) h2 hb2; rw [h3 b hb] at this; cases this
theorem uG.wF {n:Nat} {r:Nat→Nat→Bool} (h:uG n r) {x y:Nat} (hx:x < n) (hy:y < n) (lx:lead r x=true) (ly:lead r y=true) (hr:r x y=true):x=y:=by
 rcases Nat.lt_trichotomy x y with h1 | h1 | h1
 ·have:=(gI.1 ly).2 x h1; rw [h.symm x y hx hy hr] at this; cases this
 ·exact h1
 have:=(gI.1 lx).2 y h1; rw [hr] at this; cases this
theorem uG.one {n:Nat} {r:Nat→Nat→Bool} (h:uG n r) {y:Nat} (hy:y < n):((mem n (lead r)).filter fun x=>r x y).length=1:=by
 obtain ⟨x,x1,x2,x3⟩:=h.least hy
 have:((mem n (lead r)).filter fun x=>r x y).length=[x].length:=fb ((List.nodup_range.filter _).filter _) (by simp) fun z=>by
  rw [List.mem_filter,aQ,List.mem_singleton]
  constructor
  ·rintro ⟨⟨z1,z2⟩,z3⟩
   exact h.wF z1 x1 z2 x2 (h.trans z y x z1 hy x1 z3 (h.symm x y x1 hy x3))
  rintro rfl
  exact ⟨⟨x1,x2⟩,x3⟩
 exact this
theorem uG.sum {n:Nat} {r:Nat→Nat→Bool} (h:uG n r):((mem n (lead r)).map fun x=>(mem n (r x)).length).sum=n:=by
 have h1:=gW (fun x y=>r x y) (mem n (lead r)) (List.range n)
 have h2:((List.range n).map fun y=>((mem n (lead r)).filter fun x=>r x y).length).sum=(List.range n).length * 1:=jw fun y hy=>h.one (List.mem_range.1 hy)
 rw [List.length_range,Nat.mul_one] at h2
 exact h1.trans h2
theorem sS {l:List Nat} (h:l.Nodup) {a:Nat} (ha:a∈l):(l.filter fun w=>decide (a=w)).length=1:=by
 have:(l.filter fun w=>decide (a=w)).length=[a].length:=fb (h.filter _) (by simp) fun x=>by
  rw [List.mem_filter,decide_eq_true_eq,List.mem_singleton]
  constructor
  ·rintro ⟨_,h⟩; exact h.symm
  rintro rfl; exact ⟨ha,rfl⟩
 exact this
section
variable {n:Nat} {f:Nat→Nat→Nat} {e:Nat}
def bQ (n:Nat) (f:Nat→Nat→Nat) (e x y:Nat):Bool:=decide (∃ a,a < n∧f (f (iv n f e a) x) a=y)
theorem dR {x y:Nat} : bQ n f e x y=true↔∃ a,a < n∧f (f (iv n f e a) x) a=y:=by unfold bQ; exact decide_eq_true_iff
theorem cy.wz (G:cy n f e) {x a b:Nat} (hx:x < n) (ha:a < n) (hb:b < n):f (f (iv n f e b) (f (f (iv n f e a) x) a)) b=f (f (iv n f e (f a b)) x) (f a b):=by
 have ia:=G.az ha
 have ib:=G.az hb
 have h1:=G.cl _ _ ia hx
 rw [G.cC ha hb,← G.assoc _ (f (iv n f e a) x) a ib h1 ha,G.assoc (f (iv n f e b) (f (iv n f e a) x)) a b (G.cl _ _ ib h1) ha hb,← G.assoc _ _ x ib ia hx]
theorem cy.fy (G:cy n f e):uG n (bQ n f e) where
 refl a ha:=dR.2 ⟨e,G.el,by rw [G.fk,G.one_l a ha,G.one_r a ha]⟩
 symm a b ha hb h:=by
  obtain ⟨c,hc,rfl⟩:=dR.1 h
  refine dR.2 ⟨iv n f e c,G.az hc,?_⟩
  rw [G.wz ha hc (G.az hc),G.dg hc,G.fk,G.one_l a ha,G.one_r a ha]
 trans a b c ha hb hc h1 h2:=by
  obtain ⟨x,hx,rfl⟩:=dR.1 h1
  obtain ⟨y,hy,rfl⟩:=dR.1 h2
  exact dR.2 ⟨f x y,G.cl _ _ hx hy,(G.wz ha hx hy).symm⟩
theorem cy.p7 (G:cy n f e) {x:Nat} (hx:x < n):(mem n (DL f x)).length * (mem n (bQ n f e x)).length=n:=by
 have hl:∀ a,a < n→f (f (iv n f e a) x) a < n:=fun a ha=>G.cl _ _ (G.cl _ _ (G.az ha) hx) ha
 have:=IW (fun a y=>decide (f (f (iv n f e a) x) a=y)) (L1:=List.range n) (L2:=mem n (bQ n f e x)) (c1:=1) (c2:=(mem n (DL f x)).length) (fun a ha=>?_) fun y hy=>?_
 ·rw [List.length_range,Nat.mul_one] at this
  rw [Nat.mul_comm]; exact this.symm
 ·have a1:=List.mem_range.1 ha
  exact sS (List.nodup_range.filter _) (aQ.2 ⟨hl a a1,dR.2 ⟨a,a1,rfl⟩⟩)
 obtain ⟨y1,y2⟩:=aQ.1 hy
 obtain ⟨a0,a1,rfl⟩:=dR.1 y2
 rw [← List.length_map (f:=fun c=>f c a0) («as»:=mem n (DL f x))]
 refine fb (List.nodup_range.filter _) (fP (List.nodup_range.filter _) fun u hu v hv he=>G.lG a1 (aQ.1 hu).1 (aQ.1 hv).1 he) fun b=>?_
 rw [List.mem_filter,List.mem_range,decide_eq_true_eq,List.mem_map]
 have key:∀ b,b < n→(f (f (iv n f e b) x) b=f (f (iv n f e a0) x) a0↔f (f b (iv n f e a0)) x=f x (f b (iv n f e a0))):=by
  intro b hb
  have ib:=G.az hb
  have ia:=G.az a1
  have hbi:=G.cl _ _ hb ia
  constructor
  ·intro h
   have h1:f b (f (f (iv n f e b) x) b)=f b (f (f (iv n f e a0) x) a0):=by rw [h]
   rw [← G.assoc b _ b hb (G.cl _ _ ib hx) hb,← G.assoc b _ x hb ib hx,G.dg hb,G.one_l x hx,← G.assoc b _ a0 hb (G.cl _ _ ia hx) a1,← G.assoc b _ x hb ia hx] at h1
   have h2:f (f x b) (iv n f e a0)=f (f (f (f b (iv n f e a0)) x) a0) (iv n f e a0):=by rw [h1]
   rw [G.assoc _ a0 _ (G.cl _ _ hbi hx) a1 ia,G.dg a1,G.one_r _ (G.cl _ _ hbi hx),G.assoc x b _ hx hb ia] at h2
   exact h2.symm
  intro h
  refine G.gl hb (G.cl _ _ (G.cl _ _ ib hx) hb) (G.cl _ _ (G.cl _ _ ia hx) a1) ?_
  rw [← G.assoc b _ b hb (G.cl _ _ ib hx) hb,← G.assoc b _ x hb ib hx,G.dg hb,G.one_l x hx,← G.assoc b _ a0 hb (G.cl _ _ ia hx) a1,← G.assoc b _ x hb ia hx,h,G.assoc x _ a0 hx hbi a1,G.assoc b _ a0 hb ia a1,G.eb a1,G.one_r b hb]
 constructor
 ·rintro ⟨b1,b2⟩
  refine ⟨f b (iv n f e a0),aQ.2 ⟨G.cl _ _ b1 (G.az a1),kH.2 ((key b b1).1 b2)⟩,?_⟩
  show f (f b (iv n f e a0)) a0=b
  rw [G.assoc b _ a0 b1 (G.az a1) a1,G.eb a1,G.one_r b b1]
 rintro ⟨c,hc,rfl⟩
 obtain ⟨c1,c2⟩:=aQ.1 hc
 rw [kH] at c2
 have hca:=G.cl _ _ c1 a1
 refine ⟨hca,(key _ hca).2 ?_⟩
 rw [G.assoc c a0 _ c1 a1 (G.az a1),G.dg a1,G.one_r c c1]
 exact c2
end
open Go.Pv
section
variable {n:Nat} {f:Nat→Nat→Nat} {e:Nat}
def sQ (p:Nat):Prop:=2≤p∧p≤100∧∀ d,d < p→2≤d→¬ p % d=0
instance (p:Nat):Decidable (sQ p):=by unfold sQ; infer_instance
theorem sQ.div {p:Nat} (h:sQ p) {d:Nat} (hd:d ∣ p):d=1∨d=p:=by
 obtain ⟨h1,_,h3⟩:=h
 have hp:=Nat.pos_of_dvd_of_pos hd (by omega)
 have hl:=Nat.le_of_dvd (by omega) hd
 by_cases hd1:d=1
 ·exact .inl hd1
 by_cases hd2:d=p
 ·exact .inr hd2
 exact absurd (Nat.mod_eq_zero_of_dvd hd) (h3 d (by omega) (by omega))
theorem sQ.I9 {p:Nat} (h:sQ p) {s:Nat} (hs:¬ p ∣ s):Nat.gcd p s=1:=by
 rcases h.div (Nat.gcd_dvd_left p s) with h1 | h1
 ·exact h1
 exact absurd (h1 ▸ Nat.gcd_dvd_right p s) hs
theorem sQ.part {p:Nat} (h:sQ p) {k d:Nat} (hd:d ∣ p ^ k) (h1:d ≠ 1):p ∣ d:=by
 by_cases hp:p ∣ d
 ·exact hp
 exfalso
 have hc:Nat.Coprime d (p ^ k):=Nat.Coprime.pow_right _ (Nat.Coprime.symm (h.I9 hp))
 have:d ∣ Nat.gcd d (p ^ k):=Nat.dvd_gcd (Nat.dvd_refl d) hd
 rw [hc] at this
 exact h1 (Nat.dvd_one.1 this)
end
open Go.Pv
def Ai (n:Nat) (f:Nat→Nat→Nat) (e x a:Nat):Nat:=f (f (iv n f e a) x) a
def G8 (n:Nat) (f:Nat→Nat→Nat) (e a b:Nat):Nat:=f (f (iv n f e a) (iv n f e b)) (f a b)
def ID (n:Nat) (f:Nat→Nat→Nat) (e:Nat) (p:Nat→Bool):Prop:=∀ a,a < n→∀ x,x < n→p x=true→p (Ai n f e x a)=true
section
variable {n:Nat} {f:Nat→Nat→Nat} {e:Nat}
theorem cy.EI (G:cy n f e) {x a:Nat} (hx:x < n) (ha:a < n):Ai n f e x a < n:=G.cl _ _ (G.cl _ _ (G.az ha) hx) ha
theorem cy.CG (G:cy n f e) {x a:Nat} (hx:x < n) (ha:a < n):f (iv n f e a) (f x a)=Ai n f e x a:=(G.assoc _ _ _ (G.az ha) hx ha).symm
end
open Go.Pv
theorem FR {n e:Nat} {m:List Int} (h:GT n m n e) {x a:Nat} (hx:x < n) (ha:a < n):bL Tryd.prog 74 [gp n m,.int .i64 x,.int .i64 a] (.int .i64 (Ai n (op m n) e x a:Nat)):=by
 have G:=h.2.2
 have ia:=G.az ha
 refine aK ae Tryd.func74 rfl (by kernel_rfl) (by rw [Tryd.ntmps74]; exact Nat.le_add_left 3 _) ?_; rw [Tryd.ntmps74]
 refine qm ?_
 refine ab fun K hK=>aa ae ?_
 simp only [ak,fl,gp,aj,simprocAttr]
 refine af ?_ (hK _ ?_)<;>clear hK K
 ·first|exact trivial|omega|(simp only [ah] at *; omega)|(simp [ah] at *; omega)|simp_all
 refine qa (qm ?_)
 refine ba mixed (by kernel_rfl) fun K hK=>aa ae ?_
 simp only [ak,fl,gp,aj,simprocAttr]
 refine an trivial (al (rh h ha) rfl rfl rfl (by simp only [au,Nat.reduceLT]) (by repeat (first|exact trivial|constructor)) (aa ae ?_))
 simp only [ak,fl,gp,aj,simprocAttr]
 refine an trivial (al (kX h.2.1 ia hx) rfl rfl rfl (by simp only [au,Nat.reduceLT]) (by repeat (first|exact trivial|constructor)) (aa ae ?_))
 simp only [ak,fl,gp,aj,simprocAttr]
 refine an trivial (al (kX h.2.1 (G.cl _ _ ia hx) ha) rfl rfl rfl (by simp only [au,Nat.reduceLT]) (by repeat (first|exact trivial|constructor)) (aa ae ?_))
 simp only [ak,fl,gp,aj,simprocAttr]
 refine af ?_ (hK _ ?_)<;>clear hK K
 ·first|exact trivial|omega|(simp only [ah] at *; omega)|(simp [ah] at *; omega)|simp_all
 refine qa (qk ?_)
 simp only [Tryd.results74,bY,ak,fl,gp,aj,simprocAttr]
 all_goals (rfl)
theorem IZ {n e:Nat} {m:List Int} (h:GT n m n e) {x a:Nat} (hx:x < n) (ha:a < n):bL Tryd.prog 87 [gp n m,.int .i64 x,.int .i64 a] (.int .i64 (Ai n (op m n) e x a:Nat)):=by
 have G:=h.2.2
 have ia:=G.az ha
 refine aK ae Tryd.func87 rfl (by kernel_rfl) (by rw [Tryd.ntmps87]; exact Nat.le_add_left 3 _) ?_; rw [Tryd.ntmps87]
 refine qm ?_
 refine ab fun K hK=>aa ae ?_
 simp only [ak,fl,gp,aj,simprocAttr]
 refine af ?_ (hK _ ?_)<;>clear hK K
 ·first|exact trivial|omega|(simp only [ah] at *; omega)|(simp [ah] at *; omega)|simp_all
 refine qa (qm ?_)
 refine ba mixed (by kernel_rfl) fun K hK=>aa ae ?_
 simp only [ak,fl,gp,aj,simprocAttr]
 refine an trivial (al (IU h.2.1 ha) rfl rfl rfl (by simp only [au,Nat.reduceLT]) (by repeat (first|exact trivial|constructor)) (aa ae ?_))
 simp only [ak,fl,gp,aj,simprocAttr,h.iI ha]
 refine an trivial (al (yr h.2.1 hx ha) rfl rfl rfl (by simp only [au,Nat.reduceLT]) (by repeat (first|exact trivial|constructor)) (aa ae ?_))
 simp only [ak,fl,gp,aj,simprocAttr]
 refine an trivial (al (yr h.2.1 ia (G.cl _ _ hx ha)) rfl rfl rfl (by simp only [au,Nat.reduceLT]) (by repeat (first|exact trivial|constructor)) (aa ae ?_))
 simp only [ak,fl,gp,aj,simprocAttr]
 refine af ?_ (hK _ ?_)<;>clear hK K
 ·first|exact trivial|omega|(simp only [ah] at *; omega)|(simp [ah] at *; omega)|simp_all
 refine qa (qk ?_)
 simp only [Tryd.results87,bY,ak,fl,gp,aj,simprocAttr]
 all_goals (rw [G.CG hx ha])
def gu (n:Nat) (r:Nat→Nat→Bool) (a:Nat):List (List Int):=((List.range a).filter (lead r)).map fun x=>dH n (r x)
def dU (n:Nat) (r:Nat→Nat→Bool):List (List Int):=gu n r n
theorem qw (n:Nat) (r:Nat→Nat→Bool) (a:Nat):gu n r (a + 1)=gu n r a++if lead r a=true then [dH n (r a)] else []:=by
 unfold gu
 rw [List.range_succ,List.filter_append,List.map_append]
 congr 1
 cases h:lead r a<;>simp [h]
theorem gL (n:Nat) (r:Nat→Nat→Bool) (a:Nat):(gu n r a).length≤a:=by
 unfold gu
 rw [List.length_map]
 have:=List.length_filter_le (lead r) (List.range a)
 rwa [List.length_range] at this
theorem ir {n:Nat} {r:Nat→Nat→Bool} {i:Nat} (hi:i < (dU n r).length):∃ x,x < n∧lead r x=true∧(dU n r).getD i []=dH n (r x)∧(mem n (lead r)).getD i 0=x:=by
 unfold dU gu at hi ⊢
 rw [List.length_map] at hi
 have hm:=List.getElem_mem hi
 obtain ⟨h1,h2⟩:=List.mem_filter.1 hm
 refine ⟨_,List.mem_range.1 h1,h2,?_,?_⟩
 ·simp [List.getD,List.getElem?_eq_getElem hi]
 unfold mem
 simp [List.getD,List.getElem?_eq_getElem hi]
theorem yE {n:Nat} {p:Nat→Bool} {a:Nat} (ha:a < n) (h1:p a=true) (h2:∀ b,b < a→p b=false):0 < (dH n p).length∧(dH n p).getD 0 0=(a:Int):=by
 have:dH n p=(a:Int) :: (jL n fun i=>p i && !decide (i=a)).map (fun (a:Nat)=>(a:Int)):=by
  unfold dH
  rw [p3 ha h1 h2]; rfl
 rw [this]
 exact ⟨by simp,rfl⟩
theorem Bo {n:Nat} {p:Nat→Bool} {a:Nat} (ha:a < n) (h0:0 < (dH n p).length) (h:(dH n p).getD 0 0=(a:Int)):p a=true∧∀ b,b < a→p b=false:=by
 obtain ⟨x,x1,x2,x3⟩:=rQ h0
 have:x=a:=by omega
 subst this
 refine ⟨x2,fun b hb=>?_⟩
 cases hpb:p b with
 | false=>rfl
 | true =>
  exfalso
  obtain ⟨i,i1,i2⟩:=zy (n:=n) (p:=p) (show b < n by omega) hpb
  rcases Nat.eq_zero_or_pos i with h' | h'
  ·subst h'; omega
  have:=ur (n:=n) (p:=p) h' i1
  omega
theorem jK {n:Nat} {r:Nat→Nat→Bool} {a:Nat} (ha:a < n):lead r a=true↔0 < (dH n (r a)).length∧(dH n (r a)).getD 0 0=(a:Int):=by
 rw [gI]
 exact ⟨fun h=>yE ha h.1 h.2,fun h=>Bo ha h.1 h.2⟩
theorem xX (F:FuncId) (caps:List PV) (a b:Nat) (v:Bool) (hF:bL Tryd.prog F (.int .i64 a :: .int .i64 b :: caps) (.bool v)):bL Tryd.prog 115 [.int .i64 b,.ptr [.fn F caps],.ptr [.int .i64 a]] (.bool v):=by
 refine aK ae Tryd.func115 rfl (by kernel_rfl) (by rw [Tryd.ntmps115]; exact Nat.le_add_left 3 _) ?_; rw [Tryd.ntmps115]
 refine qm ?_
 refine ab fun K hK=>aa ae ?_
 simp only [ak,fl,gp,aj,simprocAttr]
 refine af trivial (hK _ ?_)<;>clear hK K
 refine qa (qm ?_)
 refine ab fun K hK=>aa ae ?_
 simp only [ak,fl,gp,aj,simprocAttr]
 refine an trivial (al (hF) rfl rfl rfl (by simp only [au,Nat.reduceLT]) (by repeat (first|exact trivial|constructor)) (aa ae ?_))
 simp only [ak,fl,gp,aj,simprocAttr]
 refine af ?_ (hK _ ?_)<;>clear hK K
 ·first|exact trivial|omega|(simp only [ah] at *; omega)|(simp [ah] at *; omega)|simp_all
 refine qa (qk ?_)
 simp only [Tryd.results115,bY,ak,fl,gp,aj,simprocAttr]
 all_goals (rfl)
theorem Gs {n:Nat} {r:Nat→Nat→Bool} {a:Nat} (ha:a < n):lead r a=true∨(lead r a=false∧(dH n (r a)).length=0)∨(lead r a=false∧0 < (dH n (r a)).length∧¬ (dH n (r a)).getD 0 0=(a:Int)):=by
 cases h:lead r a with
 | true=>exact .inl rfl
 | false =>
  right
  rcases Nat.eq_zero_or_pos (dH n (r a)).length with h0 | h0
  ·exact .inl ⟨rfl,h0⟩
  refine .inr ⟨rfl,h0,fun he=>?_⟩
  have:=(jK ha).2 ⟨h0,he⟩
  rw [h] at this; cases this
theorem Ap (n:Nat) (m:List Int) (F:FuncId) (caps:List PV) (r:Nat→Nat→Bool) (hn:n≤1000000) (hF:∀ a b,a < n→b < n→bL Tryd.prog F (.int .i64 a :: .int .i64 b :: caps) (.bool (r a b))):bL Tryd.prog 85 [gp n m,.fn F caps] (.list (ll (dU n r))):=by
 refine aK ae Tryd.func85 rfl (by kernel_rfl) (by rw [Tryd.ntmps85]; exact Nat.le_add_left 2 _) ?_; rw [Tryd.ntmps85]
 refine qm ?_
 refine ab fun K hK=>aa ae ?_
 simp only [ak,fl,gp,aj,simprocAttr]
 refine af ?_ (hK _ ?_)<;>clear hK K
 ·first|exact trivial|omega|(simp only [ah] at *; omega)|(simp [ah] at *; omega)|simp_all
 refine qa (qm ?_)
 refine ab fun K hK=>aa ae ?_
 simp only [ak,fl,gp,aj,simprocAttr]
 refine af trivial (hK _ ?_)<;>clear hK K
 refine qa (qm (qm ?_))
 refine bX 1 rfl rfl ?_
 simp only [aE]
 refine cu 5 rfl ?_
 refine ab fun K hK=>aa ae ?_
 simp only [ak,fl,gp,aj,simprocAttr]
 refine af ?_ (hK _ ?_)<;>clear hK K
 ·first|exact trivial|omega|(simp only [ah] at *; omega)|(simp [ah] at *; omega)|simp_all
 refine qa (ql ?_)
 refine aB (ι:=Nat) (fun a=>⟨33,[(2,.ptr 0 0),(3,.ptr 1 0),(5,.sl 2 0 (gu n r a).length),(6,.ptr 3 0)],[.own [.p (.int .i64 n),.p (.list (il m))],.fro [.fn F caps],.own (bF (ll (gu n r a))),.own [.p (.int .i64 a)]]⟩) (fun a=>a≤n) (fun a=>n - a) 0 (Nat.zero_le _) [0,1,2,3] (by simp only [leq,bw,ak,fl,gp,aj,simprocAttr,bj,cB,ez]<;>first|trivial|(simp [gu,ll,bF]; done)) fun a ha=>?_
 have hlen:=gL n r a
 have hll:=ay (gu n r a)
 refine qm (qm ?_)
 refine ab fun K hK=>aa ae ?_
 simp only [ak,fl,gp,aj,simprocAttr]
 refine af ?_ (hK _ ?_)<;>clear hK K
 ·first|exact trivial|omega|(simp only [ah] at *; omega)|(simp [ah] at *; omega)|simp_all
 refine qa ?_
 refine ao rfl (fun hC1=>?_) (fun hC1=>?_)
 ·(try simp only [aH] at hC1)
  have hlt:a < n:=by omega
  have hs:=qw n r a
  have htl:=ku n (r a)
  refine qh (qa (qm (ql (qm ?_))))
  refine bX 3 rfl rfl ?_
  simp only [aE]
  refine ab fun K hK=>aa ae ?_
  simp only [ak,fl,gp,aj,simprocAttr]
  refine an trivial (al (Dc n m _ _ (r a) hn (fun b hb=>xX F caps a b (r a b) (hF a b hlt hb))) rfl rfl rfl (by simp only [au,Nat.reduceLT]) (by repeat (first|exact trivial|constructor)) (aa ae ?_))
  simp only [ak,fl,gp,aj,simprocAttr]
  refine af ?_ (hK _ ?_)<;>clear hK K
  ·first|exact trivial|omega|(simp only [ah] at *; omega)|(simp [ah] at *; omega)|simp_all
  refine qa (qm ?_)
  rcases Gs (r:=r) hlt with hld | ⟨hld,h0⟩ | ⟨hld,h0,h1⟩
  ·rw [if_pos hld] at hs
   obtain ⟨h0,h1⟩:=(jK hlt).1 hld
   refine ba mixed (by kernel_rfl) fun K hK=>aa ae ?_
   simp only [ak,fl,gp,aj,simprocAttr,aI,decide_eq_true (show ((dH n (r a)).length:Int) > 0 by omega),aT h0,h1,decide_eq_true (show ((a:Nat):Int)=(a:Nat) from rfl)]
   refine af ?_ (hK _ ?_)<;>clear hK K
   ·first|exact trivial|omega|(simp only [ah] at *; omega)|(simp [ah] at *; omega)|simp_all
   refine qa ?_
   refine ao rfl (fun hC2=>?_) (fun hC2=>?_)
   ·(try simp only [aH] at hC2)
    refine ab fun K hK=>aa ae ?_
    simp only [ak,fl,gp,aj,simprocAttr,bj,oR,cB]
    refine af ?_ (hK _ ?_)<;>clear hK K
    ·first|exact trivial|omega|(simp only [ah] at *; omega)|(simp [ah] at *; omega)|simp_all
    refine qd (qa (qm (qm ?_)))
    refine ab fun K hK=>aa ae ?_
    simp only [ak,fl,gp,aj,simprocAttr]
    refine af ?_ (hK _ ?_)<;>clear hK K
    ·first|exact trivial|omega|(simp only [ah] at *; omega)|(simp [ah] at *; omega)|simp_all
    refine qa ?_
    refine ab fun K hK=>aa ae ?_
    simp only [ak,fl,gp,aj,simprocAttr]
    refine af ?_ (hK _ ?_)<;>clear hK K
    ·first|exact trivial|omega|(simp only [ah] at *; omega)|(simp [ah] at *; omega)|simp_all
    refine qa ?_
    refine ab fun K hK=>aa ae ?_
    simp only [ak,fl,gp,aj,simprocAttr]
    refine af ?_ (hK _ ?_)<;>clear hK K
    ·first|exact trivial|omega|(simp only [ah] at *; omega)|(simp [ah] at *; omega)|simp_all
    refine qa ?_
    refine ⟨a + 1,[0,1,4,5],by omega,by omega,?_⟩
    rw [hs]
    simp only [leq,bw,ak,fl,gp,aj,simprocAttr,bj,cB,ez]<;>first|trivial|omega|(simp [ll]; done)
   cases hC2
  ·rw [if_neg (by rw [hld]; simp),List.append_nil] at hs
   refine ba mixed (by kernel_rfl) fun K hK=>aa ae ?_
   simp only [ak,fl,gp,aj,simprocAttr,aI,decide_eq_false (show ¬ ((dH n (r a)).length:Int) > 0 by omega)]
   refine af trivial (hK _ ?_)<;>clear hK K
   refine qa ?_
   refine ao rfl (fun hC2=>?_) (fun hC2=>?_)
   ·cases hC2
   refine qh (qd (qa (qm (qm ?_))))
   refine ab fun K hK=>aa ae ?_
   simp only [ak,fl,gp,aj,simprocAttr]
   refine af ?_ (hK _ ?_)<;>clear hK K
   ·first|exact trivial|omega|(simp only [ah] at *; omega)|(simp [ah] at *; omega)|simp_all
   refine qa ?_
   refine ab fun K hK=>aa ae ?_
   simp only [ak,fl,gp,aj,simprocAttr]
   refine af ?_ (hK _ ?_)<;>clear hK K
   ·first|exact trivial|omega|(simp only [ah] at *; omega)|(simp [ah] at *; omega)|simp_all
   refine qa ?_
   refine ab fun K hK=>aa ae ?_
   simp only [ak,fl,gp,aj,simprocAttr]
   refine af ?_ (hK _ ?_)<;>clear hK K
   ·first|exact trivial|omega|(simp only [ah] at *; omega)|(simp [ah] at *; omega)|simp_all
   refine qa ?_
   refine ⟨a + 1,[0,1,2,4],by omega,by omega,?_⟩
   rw [hs]
   simp only [leq,bw,ak,fl,gp,aj,simprocAttr,bj,cB,ez]<;>first|trivial|omega
  rw [if_neg (by rw [hld]; simp),List.append_nil] at hs
  refine ba mixed (by kernel_rfl) fun K hK=>aa ae ?_
  simp only [ak,fl,gp,aj,simprocAttr,aI,decide_eq_true (show ((dH n (r a)).length:Int) > 0 by omega),aT h0,decide_eq_false h1]
  refine af ?_ (hK _ ?_)<;>clear hK K
  ·first|exact trivial|omega|(simp only [ah] at *; omega)|(simp [ah] at *; omega)|simp_all
  refine qa ?_
  refine ao rfl (fun hC2=>?_) (fun hC2=>?_)
  ·cases hC2
  (try simp only [aH] at hC2)
  refine qh (qd (qa (qm (qm ?_))))
  refine ab fun K hK=>aa ae ?_
  simp only [ak,fl,gp,aj,simprocAttr]
  refine af ?_ (hK _ ?_)<;>clear hK K
  ·first|exact trivial|omega|(simp only [ah] at *; omega)|(simp [ah] at *; omega)|simp_all
  refine qa ?_
  refine ab fun K hK=>aa ae ?_
  simp only [ak,fl,gp,aj,simprocAttr]
  refine af ?_ (hK _ ?_)<;>clear hK K
  ·first|exact trivial|omega|(simp only [ah] at *; omega)|(simp [ah] at *; omega)|simp_all
  refine qa ?_
  refine ab fun K hK=>aa ae ?_
  simp only [ak,fl,gp,aj,simprocAttr]
  refine af ?_ (hK _ ?_)<;>clear hK K
  ·first|exact trivial|omega|(simp only [ah] at *; omega)|(simp [ah] at *; omega)|simp_all
  refine qa ?_
  refine ⟨a + 1,[0,1,2,4],by omega,by omega,?_⟩
  rw [hs]
  simp only [leq,bw,ak,fl,gp,aj,simprocAttr,bj,cB,ez]<;>first|trivial|omega
 (try simp only [aH] at hC1)
 have han:a=n:=by omega
 subst han
 rw [← ay (gu a r a)]
 refine oN 5 2 (jf _) rfl rfl ?_
 refine qj (qc (qc (qf (qa (qm ?_)))))
 refine ab fun K hK=>aa ae ?_
 simp only [ak,fl,gp,aj,simprocAttr]
 refine af trivial (hK _ ?_)<;>clear hK K
 refine qa (qk ?_)
 simp only [Tryd.results85,bY,ak,fl,gp,aj,simprocAttr]
 all_goals (rfl)
theorem A4 {n e:Nat} {m:List Int} (h:GT n m n e) {a b:Nat} (ha:a < n) (hb' : b < n):bL Tryd.prog 86 [.int .i64 a,.int .i64 b,.ptr [.int .i64 n,.list (il m)]] (.bool (bQ n (op m n) e a b)):=by
 have hb:=h.2.1.big
 refine aK ae Tryd.func86 rfl (by kernel_rfl) (by rw [Tryd.ntmps86]; exact Nat.le_add_left 3 _) ?_; rw [Tryd.ntmps86]
 refine qm ?_
 refine ab fun K hK=>aa ae ?_
 simp only [ak,fl,gp,aj,simprocAttr]
 refine af trivial (hK _ ?_)<;>clear hK K
 refine qa (qm (qm ?_))
 refine ab fun K hK=>aa ae ?_
 simp only [ak,fl,gp,aj,simprocAttr]
 refine af trivial (hK _ ?_)<;>clear hK K
 refine qa (ql ?_)
 refine aB (ι:=Nat) (fun x=>⟨19,[(0,.p (.int .i64 a)),(1,.p (.int .i64 b)),(2,.p (.ptr [.int .i64 n,.list (il m)])),(6,.p (.int .i64 x))],[]⟩) (fun x=>x≤n∧∀ c,c < x→¬ Ai n (op m n) e a c=b) (fun x=>n - x) 0 ⟨Nat.zero_le _,fun j hj=>by omega⟩ [] (by simp only [leq,bw,ak,fl,gp,aj,simprocAttr]<;>trivial) fun x hx=>?_
 obtain ⟨hx1,hx2⟩:=hx
 refine qm (qm ?_)
 refine ab fun K hK=>aa ae ?_
 simp only [ak,fl,gp,aj,simprocAttr]
 refine af ?_ (hK _ ?_)<;>clear hK K
 ·first|exact trivial|omega|(simp only [ah] at *; omega)|(simp [ah] at *; omega)|simp_all
 refine qa ?_
 refine ao rfl (fun hC1=>?_) (fun hC1=>?_)
 ·(try simp only [aH] at hC1)
  have hlt:x < n:=by omega
  refine qh (qa (qm (ql (qm ?_))))
  refine ab fun K hK=>aa ae ?_
  simp only [ak,fl,gp,aj,simprocAttr]
  refine an trivial (al (IZ h ha hlt) rfl rfl rfl (by simp only [au,Nat.reduceLT]) (by repeat (first|exact trivial|constructor)) (aa ae ?_))
  simp only [ak,fl,gp,aj,simprocAttr]
  refine af ?_ (hK _ ?_)<;>clear hK K
  ·first|exact trivial|omega|(simp only [ah] at *; omega)|(simp [ah] at *; omega)|simp_all
  refine qa ?_
  refine ao rfl (fun hC2=>?_) (fun hC2=>?_)
  ·(try simp only [aH] at hC2)
   refine qm ?_
   refine ab fun K hK=>aa ae ?_
   simp only [ak,fl,gp,aj,simprocAttr]
   refine af trivial (hK _ ?_)<;>clear hK K
   refine qa (qk (qe (qb (qb (qe (qb ?_))))))
   simp only [Tryd.results86,bY,ak,fl,gp,aj,simprocAttr]
   all_goals (rw [eq_comm,dR]; exact ⟨x,hlt,(show Ai n (op m n) e a x=b by omega)⟩)
  (try simp only [aH] at hC2)
  refine qh (qd (qa ?_))
  refine ab fun K hK=>aa ae ?_
  simp only [ak,fl,gp,aj,simprocAttr]
  refine af ?_ (hK _ ?_)<;>clear hK K
  ·first|exact trivial|omega|(simp only [ah] at *; omega)|(simp [ah] at *; omega)|simp_all
  refine qa ?_
  refine ⟨x + 1,[],⟨by omega,fun j hj=>?_⟩,by omega,?_⟩
  ·by_cases hj2:j=x
   ·subst hj2; omega
   exact hx2 j (by omega)
  simp only [leq,bw,ak,fl,gp,aj,simprocAttr]<;>omega
 (try simp only [aH] at hC1)
 refine qj (qc (qc (qf (qa (qm ?_)))))
 refine ab fun K hK=>aa ae ?_
 simp only [ak,fl,gp,aj,simprocAttr]
 refine af trivial (hK _ ?_)<;>clear hK K
 refine qa (qk ?_)
 simp only [Tryd.results86,bY,ak,fl,gp,aj,simprocAttr]
 rw [eq_comm]
 cases hv:bQ n (op m n) e a b with
 | false=>rfl
 | true =>
  obtain ⟨c,c1,c2⟩:=dR.1 hv
  exact absurd c2 (hx2 c (by omega))
theorem mF {n e:Nat} {m:List Int} (h:GT n m n e):bL Tryd.prog 53 [gp n m] (.list (ll (dU n (bQ n (op m n) e)))):=by
 have hb:=h.2.1.big
 refine aK ae Tryd.func53 rfl (by kernel_rfl) (by rw [Tryd.ntmps53]; exact Nat.le_add_left 1 _) ?_; rw [Tryd.ntmps53]
 refine qm ?_
 refine ab fun K hK=>aa ae ?_
 simp only [ak,fl,gp,aj,simprocAttr]
 refine af ?_ (hK _ ?_)<;>clear hK K
 ·first|exact trivial|omega|(simp only [ah] at *; omega)|(simp [ah] at *; omega)|simp_all
 refine qa (qm ?_)
 refine bX 0 rfl rfl ?_
 simp only [aE]
 refine ab fun K hK=>aa ae ?_
 simp only [ak,fl,gp,aj,simprocAttr]
 refine an trivial (al (Ap n m _ _ (bQ n (op m n) e) (by omega) (fun a b ha hb'=>A4 h ha hb')) rfl rfl rfl (by simp only [au,Nat.reduceLT]) (by repeat (first|exact trivial|constructor)) (aa ae ?_))
 simp only [ak,fl,gp,aj,simprocAttr]
 refine af ?_ (hK _ ?_)<;>clear hK K
 ·first|exact trivial|omega|(simp only [ah] at *; omega)|(simp [ah] at *; omega)|simp_all
 refine qa (qk ?_)
 simp only [Tryd.results53,bY,ak,fl,gp,aj,simprocAttr]
 all_goals (rfl)
theorem HD (n:Nat) (p q:Nat→Bool):bo n p ||| bo n q=bo n fun a=>p a || q a:=by
 refine Nat.eq_of_testBit_eq fun i=>?_
 rw [Nat.testBit_or,iV,iV,iV]
 cases decide (i < n)<;>simp
theorem Fh {n:Nat} {p:Nat→Bool} {c:Nat} (hc:c < n):bo n p ||| 2 ^ c=bo n (HT p c):=by
 refine Nat.eq_of_testBit_eq fun i=>?_
 rw [F8,iV,iV]
 unfold HT
 by_cases hi:i=c
 ·subst hi; simp [hc]
 have h1:decide (c=i)=false:=by simp; omega
 have h2:decide (i=c)=false:=by simpa using hi
 rw [h1,h2]; simp
def jg (r:Nat→Nat→Bool) (x y:Nat):Bool:=decide (∃ z,z < x∧r z y=true)
def sp (n:Nat) (f:Nat→Nat→Nat) (e x a y:Nat):Bool:=decide (∃ b,b < a∧Ai n f e x b=y)
theorem Cx (n:Nat) (f:Nat→Nat→Nat) (e x a:Nat):sp n f e x (a + 1)=HT (sp n f e x a) (Ai n f e x a):=by
 funext y
 unfold sp HT
 rw [← Bool.decide_or]
 refine decide_eq_decide.2 ⟨?_,?_⟩
 ·rintro ⟨b,hb,rfl⟩
  by_cases h:b=a
  ·subst h; exact .inr rfl
  exact .inl ⟨b,by omega,rfl⟩
 rintro (⟨b,hb,rfl⟩ | rfl)
 ·exact ⟨b,by omega,rfl⟩
 exact ⟨a,by omega,rfl⟩
theorem wR (n:Nat):bo n (fun _=>false)=0:=by
 refine Nat.eq_of_testBit_eq fun i=>?_
 rw [iV]; simp
set_option maxHeartbeats 2000000 in
theorem lQ {n e:Nat} {m:List Int} (h:GT n m n e):bL Tryd.prog 40 [gp n m] (.list (ll (dU n (bQ n (op m n) e)))):=by
 have G:=h.2.2
 have hb:=h.2.1.big
 have E:=G.fy
 have hz:bo n (jg (bQ n (op m n) e) 0)=0:=by
  have h1:bo n (jg (bQ n (op m n) e) 0)=bo n fun _=>false:=lj fun a _=>by simp [jg]
  rw [h1,wR]
 have hsp0:∀ x,bo n (sp n (op m n) e x 0)=0:=fun x=>by
  have h1:bo n (sp n (op m n) e x 0)=bo n fun _=>false:=lj fun a _=>by simp [sp]
  rw [h1,wR]
 have hlead:∀ x,x < n→lead (bQ n (op m n) e) x = !jg (bQ n (op m n) e) x x:=by
  intro x hx
  rw [Bool.eq_iff_iff,gI,Bool.not_eq_true']
  unfold jg
  rw [decide_eq_false_iff_not]
  constructor
  ·rintro ⟨_,h2⟩ ⟨z,z1,z2⟩
   have:=E.symm z x (by omega) hx z2
   rw [h2 z z1] at this; cases this
  intro h1
  refine ⟨E.refl x hx,fun b hb'=>?_⟩
  cases hv:bQ n (op m n) e x b with
  | false=>rfl
  | true=>exact absurd ⟨b,hb',E.symm x b hx (by omega) hv⟩ h1
 refine aK ae Tryd.func40 rfl (by kernel_rfl) (by rw [Tryd.ntmps40]; exact Nat.le_add_left 1 _) ?_; rw [Tryd.ntmps40]
 refine qm ?_
 refine ab fun K hK=>aa ae ?_
 simp only [ak,fl,gp,aj,simprocAttr]
 refine af ?_ (hK _ ?_)<;>clear hK K
 ·first|exact trivial|omega|(simp only [ah] at *; omega)|(simp [ah] at *; omega)|simp_all
 refine qa (qm ?_)
 refine ab fun K hK=>aa ae ?_
 simp only [ak,fl,gp,aj,simprocAttr]
 refine af trivial (hK _ ?_)<;>clear hK K
 refine qa (qm ?_)
 refine cu 3 rfl ?_
 refine ab fun K hK=>aa ae ?_
 simp only [ak,fl,gp,aj,simprocAttr]
 refine af trivial (hK _ ?_)<;>clear hK K
 refine qa (qm (qm ?_))
 refine ab fun K hK=>aa ae ?_
 simp only [ak,fl,gp,aj,simprocAttr]
 refine af ?_ (hK _ ?_)<;>clear hK K
 ·first|exact trivial|omega|(simp only [ah] at *; omega)|(simp [ah] at *; omega)|simp_all
 refine qa (ql ?_)
 refine aB (ι:=Nat) (fun x=>⟨39,[(1,.ptr 0 0),(3,.sl 1 0 (gu n (bQ n (op m n) e) x).length),(4,.p (.int .u64 (bo n (jg (bQ n (op m n) e) x)))),(9,.p (.int .i64 n)),(10,.p (.int .i64 x))],[.own [.p (.int .i64 n),.p (.list (il m))],.own (bF (ll (gu n (bQ n (op m n) e) x)))]⟩) (fun x=>x≤n) (fun x=>n - x) 0 (Nat.zero_le _) [0,1] (by simp only [leq,bw,ak,fl,gp,aj,simprocAttr,bj,cB,ez]<;>first|trivial|(simp [gu,ll,bF,hz]; done)|(simp [gu,ll,bF]; done)) fun x hx=>?_
 have hlen:=gL n (bQ n (op m n) e) x
 have hll:=ay (gu n (bQ n (op m n) e) x)
 refine qm ?_
 refine ab fun K hK=>aa ae ?_
 simp only [ak,fl,gp,aj,simprocAttr]
 refine af trivial (hK _ ?_)<;>clear hK K
 refine qa (qm ?_)
 refine ao rfl (fun hC1=>?_) (fun hC1=>?_)
 ·(try simp only [aH] at hC1)
  have hlt:x < n:=by omega
  have hs:=qw n (bQ n (op m n) e) x
  have hhb:(bo n (jg (bQ n (op m n) e) x)).testBit x=jg (bQ n (op m n) e) x x:=by rw [iV]; simp [hlt]
  refine qh (qa (qm (ql (qm ?_))))
  refine ab fun K hK=>aa ae ?_
  simp only [ak,fl,gp,aj,simprocAttr]
  refine af trivial (hK _ ?_)<;>clear hK K
  refine qa (qm (qm ?_))
  refine ab fun K hK=>aa ae ?_
  simp only [ak,fl,gp,aj,simprocAttr]
  refine an trivial (al (GH (bo n (jg (bQ n (op m n) e) x)) x (nY hb _) (by omega)) rfl rfl rfl (by simp only [au,Nat.reduceLT]) (by repeat (first|exact trivial|constructor)) (aa ae ?_))
  simp only [ak,fl,gp,aj,simprocAttr,hhb]
  refine af trivial (hK _ ?_)<;>clear hK K
  refine qa ?_
  refine ao rfl (fun hC2=>?_) (fun hC2=>?_)
  ·(try simp only [aH] at hC2)
   have hld:lead (bQ n (op m n) e) x=false:=by rw [hlead x hlt,hC2]; rfl
   rw [if_neg (by rw [hld]; simp),List.append_nil] at hs
   have hh:bo n (jg (bQ n (op m n) e) (x + 1))=bo n (jg (bQ n (op m n) e) x):=lj fun y hy=>by
    unfold jg at hC2 ⊢
    rw [decide_eq_true_eq] at hC2
    refine decide_eq_decide.2 ⟨?_,fun ⟨z,z1,z2⟩=>⟨z,by omega,z2⟩⟩
    rintro ⟨z,z1,z2⟩
    by_cases hzx:z=x
    ·subst hzx
     obtain ⟨w,w1,w2⟩:=hC2
     exact ⟨w,w1,E.trans w z y (by omega) hlt hy w2 z2⟩
    exact ⟨z,by omega,z2⟩
   refine qj (qc (qf (qa ?_)))
   refine ab fun K hK=>aa ae ?_
   simp only [ak,fl,gp,aj,simprocAttr]
   refine af ?_ (hK _ ?_)<;>clear hK K
   ·first|exact trivial|omega|(simp only [ah] at *; omega)|(simp [ah] at *; omega)|simp_all
   refine qa ?_
   refine ⟨x + 1,[0,1],by omega,by omega,?_⟩
   rw [hs,hh]
   simp only [leq,bw,ak,fl,gp,aj,simprocAttr,bj,cB,ez]<;>first|trivial|omega
  (try simp only [aH] at hC2)
  have hld:lead (bQ n (op m n) e) x=true:=by rw [hlead x hlt,hC2]; rfl
  rw [if_pos hld] at hs
  refine qh (qa (qm ?_))
  refine ab fun K hK=>aa ae ?_
  simp only [ak,fl,gp,aj,simprocAttr]
  refine af trivial (hK _ ?_)<;>clear hK K
  refine qa (qm (qm ?_))
  refine ab fun K hK=>aa ae ?_
  simp only [ak,fl,gp,aj,simprocAttr]
  refine af ?_ (hK _ ?_)<;>clear hK K
  ·first|exact trivial|omega|(simp only [ah] at *; omega)|(simp [ah] at *; omega)|simp_all
  refine qa (ql ?_)
  refine aB (ι:=Nat) (fun a=>⟨39,[(1,.ptr 0 0),(3,.sl 1 0 (gu n (bQ n (op m n) e) x).length),(4,.p (.int .u64 (bo n (jg (bQ n (op m n) e) x)))),(5,.p (.int .i64 x)),(6,.p (.int .u64 (bo n (sp n (op m n) e x a)))),(9,.p (.int .i64 n)),(10,.p (.int .i64 x)),(17,.p (.int .i64 n)),(18,.p (.int .i64 a))],[.own [.p (.int .i64 n),.p (.list (il m))],.own (bF (ll (gu n (bQ n (op m n) e) x)))]⟩) (fun a=>a≤n) (fun a=>n - a) 0 (Nat.zero_le _) [0,1] (by simp only [leq,bw,ak,fl,gp,aj,simprocAttr,bj,cB,ez]<;>first|trivial|exact (congrArg (fun t:Nat=>(t:Int)) (hsp0 x)).symm) fun a ha=>?_
  refine qm ?_
  refine ab fun K hK=>aa ae ?_
  simp only [ak,fl,gp,aj,simprocAttr]
  refine af trivial (hK _ ?_)<;>clear hK K
  refine qa (qm ?_)
  refine ao rfl (fun hC3=>?_) (fun hC3=>?_)
  ·(try simp only [aH] at hC3)
   have hal:a < n:=by omega
   have hc:=G.EI hlt hal
   have hp:=A2 (b:=Ai n (op m n) e x a) (by omega)
   have hsb:=nY hb (sp n (op m n) e x a)
   refine qh (qa (qm (ql (qm ?_))))
   refine ab fun K hK=>aa ae ?_
   simp only [ak,fl,gp,aj,simprocAttr]
   refine af trivial (hK _ ?_)<;>clear hK K
   refine qa ?_
   refine ab fun K hK=>aa ae ?_
   simp only [ak,fl,gp,aj,simprocAttr]
   refine an trivial (al (FR h hlt hal) rfl rfl rfl (by simp only [au,Nat.reduceLT]) (by repeat (first|exact trivial|constructor)) (aa ae ?_))
   simp only [ak,fl,gp,aj,simprocAttr,CT (show Ai n (op m n) e x a < 64 by omega),DQ hsb hp,Fh hc]
   refine af ?_ (hK _ ?_)<;>clear hK K
   ·first|exact trivial|omega|(simp only [ah] at *; omega)|(simp [ah] at *; omega)|simp_all
   refine qd (qa ?_)
   refine ab fun K hK=>aa ae ?_
   simp only [ak,fl,gp,aj,simprocAttr]
   refine af ?_ (hK _ ?_)<;>clear hK K
   ·first|exact trivial|omega|(simp only [ah] at *; omega)|(simp [ah] at *; omega)|simp_all
   refine qa ?_
   refine ⟨a + 1,[0,1],by omega,by omega,?_⟩
   rw [Cx]
   simp only [leq,bw,ak,fl,gp,aj,simprocAttr,bj,cB,ez]<;>first|trivial|omega
  (try simp only [aH] at hC3)
  have han:a=n:=by omega
  have hfull:bo n (sp n (op m n) e x a)=bo n (bQ n (op m n) e x):=by rw [han]; rfl
  rw [hfull]
  have hb1:=nY hb (jg (bQ n (op m n) e) x)
  have hb2:=nY hb (bQ n (op m n) e x)
  have hh:bo n (jg (bQ n (op m n) e) (x + 1))=bo n (fun y=>jg (bQ n (op m n) e) x y || bQ n (op m n) e x y):=lj fun y hy=>by
   unfold jg
   rw [Bool.eq_iff_iff,Bool.or_eq_true,decide_eq_true_eq,decide_eq_true_eq]
   constructor
   ·rintro ⟨z,z1,z2⟩
    by_cases hzx:z=x
    ·subst hzx; exact .inr z2
    exact .inl ⟨z,by omega,z2⟩
   rintro (⟨z,z1,z2⟩ | h')
   ·exact ⟨z,by omega,z2⟩
   exact ⟨x,by omega,h'⟩
  refine qj (qc (qc (qf (qa (qm ?_)))))
  refine ab fun K hK=>aa ae ?_
  simp only [ak,fl,gp,aj,simprocAttr,DQ hb1 hb2,HD]
  refine af ?_ (hK _ ?_)<;>clear hK K
  ·first|exact trivial|omega|(simp only [ah] at *; omega)|(simp [ah] at *; omega)|simp_all
  refine qa ?_
  refine ab fun K hK=>aa ae ?_
  simp only [ak,fl,gp,aj,simprocAttr,bj,oR,cB]
  refine an trivial (al (EX (bo n (bQ n (op m n) e x)) hb2) rfl rfl rfl (by simp only [au,Nat.reduceLT]) (by repeat (first|exact trivial|constructor)) (aa ae ?_))
  simp only [ak,fl,gp,aj,simprocAttr,FC hb,bj,oR,cB]
  refine af ?_ (hK _ ?_)<;>clear hK K
  ·first|exact trivial|omega|(simp only [ah] at *; omega)|(simp [ah] at *; omega)|simp_all
  refine qd (qa ?_)
  refine ab fun K hK=>aa ae ?_
  simp only [ak,fl,gp,aj,simprocAttr]
  refine af ?_ (hK _ ?_)<;>clear hK K
  ·first|exact trivial|omega|(simp only [ah] at *; omega)|(simp [ah] at *; omega)|simp_all
  refine qa ?_
  refine ⟨x + 1,[0,2],by omega,by omega,?_⟩
  rw [hs,hh]
  simp only [leq,bw,ak,fl,gp,aj,simprocAttr,bj,cB,ez]<;>first|trivial|omega|(simp [ll]; done)
 (try simp only [aH] at hC1)
 have hxn:x=n:=by omega
 subst hxn
 rw [← ay (gu x (bQ x (op m x) e) x)]
 refine oN 3 1 (jf _) rfl rfl ?_
 refine qj (qc (qc (qf (qa (qm ?_)))))
 refine ab fun K hK=>aa ae ?_
 simp only [ak,fl,gp,aj,simprocAttr]
 refine af trivial (hK _ ?_)<;>clear hK K
 refine qa (qk ?_)
 simp only [Tryd.results40,bY,ak,fl,gp,aj,simprocAttr]
 all_goals (rfl)
theorem wW (n:Nat) (r:Nat→Nat→Bool):(dU n r).length=(mem n (lead r)).length:=by
 unfold dU gu mem
 rw [List.length_map]
def Gk (l:List (List Int)) (x:Int):Int:=match bR (fun i=>decide (x∈l.getD i [])) l.length with | some i=>(i:Int) | none=>-1
def gH (n:Nat) (g:Nat→Int):List Int:=(List.range n).map g
theorem dT (n:Nat) (g:Nat→Int):(gH n g).length=n:=by simp [gH]
theorem fG {n:Nat} {g:Nat→Int} {a:Nat} (ha:a < n):(gH n g).getD a 0=g a:=by
 simp [gH,List.getD,List.getElem?_map,List.getElem?_range ha]
theorem dx {n:Nat} {g g' : Nat→Int} (h:∀ a,a < n→g a=g' a):gH n g=gH n g':=List.map_congr_left fun a ha=>h a (List.mem_range.1 ha)
theorem nO (n:Nat) (g:Nat→Int) (c:Nat) (x:Int):(gH n g).set c x=gH n fun a=>if a=c then x else g a:=by
 refine List.ext_getElem (by simp [gH]) fun i h1 h2=>?_
 rw [List.getElem_set]
 by_cases e:c=i
 ·subst e; simp [gH]
 rw [if_neg e]
 simp [gH,Ne.symm e]
theorem vX (n:Nat):List.replicate n (AV.p (.int .i64 0))=ol (gH n fun _=>0):=by
 refine List.ext_getElem (by simp [ol,il,gH]) fun i h1 h2=>?_
 simp [ol,il,gH]
def pJ (n:Nat) (r:Nat→Nat→Bool):List Int:=gH n fun a=>Gk (dU n r) a
theorem pX {n:Nat} {r:Nat→Nat→Bool} (h:uG n r) {i j a:Nat} (hi:i < (dU n r).length) (hj:j < (dU n r).length) (ha:a < n) (h1:((a:Nat):Int)∈(dU n r).getD i []) (h2:((a:Nat):Int)∈(dU n r).getD j []):i=j:=by
 obtain ⟨x,x1,x2,x3,x4⟩:=ir hi
 obtain ⟨y,y1,y2,y3,y4⟩:=ir hj
 rw [x3,eK ha] at h1
 rw [y3,eK ha] at h2
 have hxy:x=y:=h.wF x1 y1 x2 y2 (h.trans x a y x1 ha y1 h1 (h.symm y a y1 ha h2))
 subst hxy
 have hn:(mem n (lead r)).Nodup:=List.nodup_range.filter _
 have hl:=wW n r
 exact AL hn (by omega) (by omega) (x4.trans y4.symm)
theorem ru {n:Nat} {r:Nat→Nat→Bool} (h:uG n r) {a:Nat} (ha:a < n):∃ i,i < (dU n r).length∧((a:Nat):Int)∈(dU n r).getD i []:=by
 obtain ⟨x,x1,x2,x3⟩:=h.least ha
 obtain ⟨i,hi,e⟩:=List.getElem_of_mem (aQ.2 ⟨x1,x2⟩:x∈mem n (lead r))
 have hl:=wW n r
 refine ⟨i,by omega,?_⟩
 obtain ⟨y,y1,y2,y3,y4⟩:=ir (n:=n) (r:=r) (i:=i) (by omega)
 rw [y3,eK ha]
 have:y=x:=by rw [← y4]; simp [List.getD,List.getElem?_eq_getElem hi,e]
 rw [this]; exact x3
theorem oy {n:Nat} {r:Nat→Nat→Bool} (h:uG n r) {i a:Nat} (hi:i < (dU n r).length) (ha:a < n) (h1:((a:Nat):Int)∈(dU n r).getD i []):Gk (dU n r) a=(i:Int):=by
 have e:bR (fun k=>decide (((a:Nat):Int)∈(dU n r).getD k [])) (dU n r).length=some i:=dM hi (decide_eq_true h1) fun j hj=>decide_eq_false fun h2=>by
  have:=pX h hi (by omega) ha h1 h2
  omega
 simp only [Gk,e]
theorem rS {n:Nat} (m:List Int) (hn:n≤60) {r:Nat→Nat→Bool} (h:uG n r):bL Tryd.prog 45 [gp n m,.list (ll (dU n r))] (.list (il (pJ n r))):=by
 have hcl:(dU n r).length≤n:=gL _ _ _
 refine aK ae Tryd.func45 rfl (by kernel_rfl) (by rw [Tryd.ntmps45]; exact Nat.le_add_left 2 _) ?_; rw [Tryd.ntmps45]
 refine qm ?_
 refine ab fun K hK=>aa ae ?_
 simp only [ak,fl,gp,aj,simprocAttr]
 refine af ?_ (hK _ ?_)<;>clear hK K
 ·first|exact trivial|omega|(simp only [ah] at *; omega)|(simp [ah] at *; omega)|simp_all
 refine qa (qm ?_)
 refine ab fun K hK=>aa ae ?_
 simp only [ak,fl,gp,aj,simprocAttr,eE.eq_def,vX]
 refine af ?_ (hK _ ?_)<;>clear hK K
 ·omega
 refine qa (qm (qm ?_))
 refine ab fun K hK=>aa ae ?_
 simp only [ak,fl,gp,aj,simprocAttr]
 refine af trivial (hK _ ?_)<;>clear hK K
 refine qa (ql ?_)
 refine aB (ι:=Nat × (Nat→Int)) (fun p=>⟨33,[(5,.sl 1 0 n),(13,.p (.list (ll (dU n r)))),(14,.p (.int .i64 (dU n r).length)),(15,.p (.int .i64 p.1))],[.own [.p (.int .i64 n),.p (.list (il m))],.own (ol (gH n p.2))]⟩) (fun p=>p.1≤(dU n r).length∧∀ a,a < n→∀ k,k < p.1→((a:Nat):Int)∈(dU n r).getD k []→p.2 a=(k:Int)) (fun p=>(dU n r).length - p.1) (0,fun _=>0) ⟨Nat.zero_le _,fun a _ k hk=>by simp only at hk; omega⟩ [0,1] (by simp only [leq,bw,ak,fl,gp,aj,simprocAttr,ay]<;>first|trivial|(simp; done)) fun p hp=>?_
 obtain ⟨i,g⟩:=p
 obtain ⟨hi1,hi2⟩:=hp
 simp only at hi1 hi2
 refine qm ?_
 refine ab fun K hK=>aa ae ?_
 simp only [ak,fl,gp,aj,simprocAttr]
 refine af trivial (hK _ ?_)<;>clear hK K
 refine qa (qm ?_)
 refine ao rfl (fun hC1=>?_) (fun hC1=>?_)
 ·(try simp only [aH] at hC1)
  have hlt:i < (dU n r).length:=by omega
  obtain ⟨x,x1,x2,x3,x4⟩:=ir hlt
  have l1:=ku n (r x)
  refine qh (qa (qm (ql (qm ?_))))
  refine ab fun K hK=>aa ae ?_
  simp only [ak,fl,gp,aj,simprocAttr,ay,dI hlt,x3]
  refine af ?_ (hK _ ?_)<;>clear hK K
  ·first|exact trivial|omega|(simp only [ah] at *; omega)|(simp [ah] at *; omega)|simp_all
  refine qa (qm ?_)
  refine ab fun K hK=>aa ae ?_
  simp only [ak,fl,gp,aj,simprocAttr,aI]
  refine af trivial (hK _ ?_)<;>clear hK K
  refine qa (ql ?_)
  refine aB (ι:=Nat × (Nat→Int)) (fun p=>⟨33,[(5,.sl 1 0 n),(6,.p (.int .i64 i)),(13,.p (.list (ll (dU n r)))),(14,.p (.int .i64 (dU n r).length)),(15,.p (.int .i64 i)),(20,.p (.list (il (dH n (r x))))),(21,.p (.int .i64 (dH n (r x)).length)),(22,.p (.int .i64 p.1))],[.own [.p (.int .i64 n),.p (.list (il m))],.own (ol (gH n p.2))]⟩) (fun p=>p.1≤(dH n (r x)).length∧(∀ a,a < n→∀ k,k < i→((a:Nat):Int)∈(dU n r).getD k []→p.2 a=(k:Int))∧∀ a,a < n→∀ k,k < p.1→(dH n (r x)).getD k 0=(a:Int)→p.2 a=(i:Int)) (fun p=>(dH n (r x)).length - p.1) (0,g) ⟨Nat.zero_le _,hi2,fun a _ k hk=>by simp only at hk; omega⟩ [0,1] (by simp only [leq,bw,ak,fl,gp,aj,simprocAttr]<;>first|trivial|(simp; done)) fun p hp=>?_
  obtain ⟨j,g'⟩:=p
  obtain ⟨hj1,hj2,hj3⟩:=hp
  simp only at hj1 hj2 hj3
  refine qm ?_
  refine ab fun K hK=>aa ae ?_
  simp only [ak,fl,gp,aj,simprocAttr]
  refine af trivial (hK _ ?_)<;>clear hK K
  refine qa (qm ?_)
  refine ao rfl (fun hC2=>?_) (fun hC2=>?_)
  ·(try simp only [aH] at hC2)
   have hjl:j < (dH n (r x)).length:=by omega
   obtain ⟨c,c1,c2,c3⟩:=rQ hjl
   refine qh (qa (qm (ql (qm ?_))))
   refine ab fun K hK=>aa ae ?_
   simp only [ak,fl,gp,aj,simprocAttr,aT hjl,c3]
   refine af ?_ (hK _ ?_)<;>clear hK K
   ·first|exact trivial|omega|(simp only [ah] at *; omega)|(simp [ah] at *; omega)|simp_all
   refine qa ?_
   refine ab fun K hK=>aa ae ?_
   simp only [ak,fl,gp,aj,simprocAttr]
   refine af ?_ (hK _ ?_)<;>clear hK K
   ·rw [dT]; omega
   refine qd (qa ?_)
   rw [dV,nO]
   refine ab fun K hK=>aa ae ?_
   simp only [ak,fl,gp,aj,simprocAttr]
   refine af ?_ (hK _ ?_)<;>clear hK K
   ·first|exact trivial|omega|(simp only [ah] at *; omega)|(simp [ah] at *; omega)|simp_all
   refine qa ?_
   refine ⟨(j + 1,fun a=>if a=c then (i:Int) else g' a),[0,1],⟨by simp only; omega,fun a ha k hk hm=>?_,fun a ha k hk hm=>?_⟩,by simp only; omega,?_⟩
   ·have hne:a ≠ c:=by
     intro he
     subst he
     have h3:((a:Nat):Int)∈(dU n r).getD i []:=by rw [x3,eK ha]; exact c2
     have:=pX h hlt (by omega) ha h3 hm
     omega
    simp only [if_neg hne]
    exact hj2 a ha k hk hm
   ·simp only at hk ⊢
    by_cases hac:a=c
    ·rw [if_pos hac]
    rw [if_neg hac]
    have hkj:k ≠ j:=by intro he; rw [he,c3] at hm; omega
    exact hj3 a ha k (by omega) hm
   simp only [leq,bw,ak,fl,gp,aj,simprocAttr]<;>first|trivial|omega|(simp [gH]; done)
  (try simp only [aH] at hC2)
  have hjn:j=(dH n (r x)).length:=by omega
  refine qj (qc (qc (qf (qd (qa ?_)))))
  refine ab fun K hK=>aa ae ?_
  simp only [ak,fl,gp,aj,simprocAttr]
  refine af ?_ (hK _ ?_)<;>clear hK K
  ·first|exact trivial|omega|(simp only [ah] at *; omega)|(simp [ah] at *; omega)|simp_all
  refine qa ?_
  refine ⟨(i + 1,g'),[0,1],⟨by simp only; omega,fun a ha k hk hm=>?_⟩,by simp only; omega,?_⟩
  ·by_cases hki:k=i
   ·subst hki
    rw [x3] at hm
    obtain ⟨q,q1,q2⟩:=zy (n:=n) (p:=r x) ha ((eK ha).1 hm)
    exact hj3 a ha q (by omega) q2
   exact hj2 a ha k (by simp only at hk; omega) hm
  simp only [leq,bw,ak,fl,gp,aj,simprocAttr]<;>first|trivial|omega|(simp [gH]; done)
 (try simp only [aH] at hC1)
 have hin:i=(dU n r).length:=by omega
 have hfin:gH n g=pJ n r:=dx fun a ha=>by
  obtain ⟨k,k1,k2⟩:=ru h ha
  rw [hi2 a ha k (by omega) k2,oy h k1 ha k2]
 rw [hfin]
 have hwl:(pJ n r).length=n:=dT _ _
 refine n4 5 1 (by show AV.sl 1 0 n=AV.sl 1 0 _; rw [hwl]) rfl ?_
 refine qj (qc (qc (qf (qa (qm ?_)))))
 refine ab fun K hK=>aa ae ?_
 simp only [ak,fl,gp,aj,simprocAttr]
 refine af trivial (hK _ ?_)<;>clear hK K
 refine qa (qk ?_)
 simp only [Tryd.results45,bY,ak,fl,gp,aj,simprocAttr]
 all_goals (rfl)
end Go.Proofs.YtjlmpmidchddjaaDoor
