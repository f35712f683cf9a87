/-
  Texts of this proof, one behind the other: what each says stands at its head. Conditions: none.
-/
import Derived.Test.YtjlmpmidchddjaaDoorB6
import Derived.Test.YtjlmpmidchddjaaDoorRows
import Derived.Test.YtjlmpmidchddjaaDoorB2
import Derived.ProofKit
import Derived.LaidMore
import Derived.OpenShut
import Derived.Stop.Joined
set_option linter.all false
namespace Go.Proofs.YtjlmpmidchddjaaDoor
open Go.Pv
theorem nt (N:Int) (m:List Int) (N' : Int) (m' : List Int) (hm:m.length≤1000000000000000) (hm' : m'.length≤1000000000000000) (hf:¬ (pf N m N' m').1=0):bL Tryd.prog 8 [gp N m,gp N' m'] (.bool true):=by
 refine aK ae Tryd.func8 rfl (by kernel_rfl) (by rw [Tryd.ntmps8]; exact Nat.le_add_left 2 _) ?_; rw [Tryd.ntmps8]
 refine qm ?_
 refine ab fun K hK=>aa ae ?_
 simp only [ak,fl,gp,aj,simprocAttr]
 refine af ?_ (hK _ ?_)<;>clear hK K
 ·first|exact trivial|omega|(simp only [ah] at *; omega)|(simp [ah] at *; omega)|simp_all
 refine qa (qm (qm ?_))
 refine ab fun K hK=>aa ae ?_
 simp only [ak,fl,gp,aj,simprocAttr]
 refine an trivial (al (eX) rfl rfl rfl (by simp only [au,Nat.reduceLT]) (by repeat (first|exact trivial|constructor)) (aa ae ?_))
 simp only [ak,fl,gp,aj,simprocAttr]
 refine af trivial (hK _ ?_)<;>clear hK K
 refine qa ?_
 refine ao rfl (fun hC1=>?_) (fun hC1=>?_)
 ·(try simp only [aH] at hC1)
  first|exact absurd rfl hC1|exact hC1.elim|cases hC1|(simp at hC1; done)
 (try simp only [aH] at hC1)
 refine qh (qa (qm ?_))
 refine ab fun K hK=>aa ae ?_
 simp only [ak,fl,gp,aj,simprocAttr]
 refine an trivial (al (uW N m N' m' hm hm' hf) rfl rfl rfl (by simp only [au,Nat.reduceLT]) (by repeat (first|exact trivial|constructor)) (aa ae ?_))
 simp only [ak,fl,gp,aj,simprocAttr]
 refine af ?_ (hK _ ?_)<;>clear hK K
 ·first|exact trivial|omega|(simp only [ah] at *; omega)|(simp [ah] at *; omega)|simp_all
 refine qa (qm (qm ?_))
 refine ab fun K hK=>aa ae ?_
 simp only [ak,fl,gp,aj,simprocAttr]
 refine af ?_ (hK _ ?_)<;>clear hK K
 ·first|exact trivial|omega|(simp only [ah] at *; omega)|(simp [ah] at *; omega)|simp_all
 refine qa ?_
 refine ao rfl (fun hC2=>?_) (fun hC2=>?_)
 ·(try simp only [aH] at hC2)
  refine qm ?_
  refine ab fun K hK=>aa ae ?_
  simp only [ak,fl,gp,aj,simprocAttr]
  refine af trivial (hK _ ?_)<;>clear hK K
  refine qa (qk (qb ?_))
  simp only [Tryd.results8,bY,ak,fl,gp,aj,simprocAttr]
  all_goals ((first|exact rfl|exact ⟨rfl,rfl⟩|exact ⟨rfl,rfl,rfl⟩|exact ⟨trivial,rfl⟩|exact ⟨Nat.le_refl _,rfl⟩|trivial|(simp; done)))
 (try simp only [aH] at hC2)
 exact absurd hC2 hf
theorem sw {n e:Nat} {m:List Int} (h:GT n m n e):∃ (D:List PV) (c a:Int),bL Tryd.prog 13 [gp n m] (.tup [.list D,fl (c,a)])∧bL Tryd.prog 14 [gp n m] (fl (c,a))∧(c=0→aS m n e≤24):=by
 by_cases hc:aS m n e≤24
 ·exact ⟨_,_,_,gR h hc,Gv h hc,fun _=>hc⟩
 exact ⟨_,_,_,rB h (by omega),Dl h (by omega),fun h=>by cases h⟩
section
variable {n e n' e' : Nat} {m m' : List Int} {D1 D2 D3:List PV} {c1 a1 c2 a2 c3 a3:Int}
theorem nr (h:GT n m n e) (h' : GT n' m' n' e') (hle:n * n'≤60) {M:List Int} (hM:M=sx (fun a b=>(lI n' (op m n) (op m' n') a b:Nat)) (n * n'))
  (d1:bL Tryd.prog 13 [gp n m] (.tup [.list D1,fl (c1,a1)])) (d2:bL Tryd.prog 13 [gp n' m'] (.tup [.list D2,fl (c2,a2)])) (d3:bL Tryd.prog 13 [gp (n * n' : Nat) M] (.tup [.list D3,fl (c3,a3)]))
  (f1:bL Tryd.prog 14 [gp n m] (fl (c1,a1))) (hc:¬ c1=0):bL Tryd.prog 8 [gp n m,gp n' m'] (.bool true):=by
 have hpr:=iq h h' hle
 rw [← hM] at hpr
 refine aK ae Tryd.func8 rfl (by kernel_rfl) (by rw [Tryd.ntmps8]; exact Nat.le_add_left 2 _) ?_; rw [Tryd.ntmps8]
 refine qm ?_
 refine ab fun K hK=>aa ae ?_
 simp only [ak,fl,gp,aj,simprocAttr]
 refine af ?_ (hK _ ?_)<;>clear hK K
 ·first|exact trivial|omega|(simp only [ah] at *; omega)|(simp [ah] at *; omega)|simp_all
 refine qa (qm (qm ?_))
 refine ab fun K hK=>aa ae ?_
 simp only [ak,fl,gp,aj,simprocAttr]
 refine an trivial (al (eX) rfl rfl rfl (by simp only [au,Nat.reduceLT]) (by repeat (first|exact trivial|constructor)) (aa ae ?_))
 simp only [ak,fl,gp,aj,simprocAttr]
 refine af trivial (hK _ ?_)<;>clear hK K
 refine qa ?_
 refine ao rfl (fun hC1=>?_) (fun hC1=>?_)
 ·(try simp only [aH] at hC1)
  first|exact absurd rfl hC1|exact hC1.elim|cases hC1|(simp at hC1; done)
 (try simp only [aH] at hC1)
 refine qh (qa (qm ?_))
 refine ab fun K hK=>aa ae ?_
 simp only [ak,fl,gp,aj,simprocAttr]
 refine an trivial (al (hpr) rfl rfl rfl (by simp only [au,Nat.reduceLT]) (by repeat (first|exact trivial|constructor)) (aa ae ?_))
 simp only [ak,fl,gp,aj,simprocAttr]
 refine af ?_ (hK _ ?_)<;>clear hK K
 ·first|exact trivial|omega|(simp only [ah] at *; omega)|(simp [ah] at *; omega)|simp_all
 refine qa (qm (qm ?_))
 refine ab fun K hK=>aa ae ?_
 simp only [ak,fl,gp,aj,simprocAttr]
 refine af ?_ (hK _ ?_)<;>clear hK K
 ·first|exact trivial|omega|(simp only [ah] at *; omega)|(simp [ah] at *; omega)|simp_all
 refine qa ?_
 refine ao rfl (fun hC2=>?_) (fun hC2=>?_)
 ·cases hC2
 (try simp only [aH] at hC2)
 refine qh (qa (qm ?_))
 refine ab fun K hK=>aa ae ?_
 simp only [ak,fl,gp,aj,simprocAttr]
 refine an trivial (al (d1) rfl rfl rfl (by simp only [au,Nat.reduceLT]) (by repeat (first|exact trivial|constructor)) (aa ae ?_))
 simp only [ak,fl,gp,aj,simprocAttr]
 refine af ?_ (hK _ ?_)<;>clear hK K
 ·first|exact trivial|omega|(simp only [ah] at *; omega)|(simp [ah] at *; omega)|simp_all
 refine qa (qm ?_)
 refine ab fun K hK=>aa ae ?_
 simp only [ak,fl,gp,aj,simprocAttr]
 refine an trivial (al (d2) rfl rfl rfl (by simp only [au,Nat.reduceLT]) (by repeat (first|exact trivial|constructor)) (aa ae ?_))
 simp only [ak,fl,gp,aj,simprocAttr]
 refine af ?_ (hK _ ?_)<;>clear hK K
 ·first|exact trivial|omega|(simp only [ah] at *; omega)|(simp [ah] at *; omega)|simp_all
 refine qa (qm ?_)
 refine ab fun K hK=>aa ae ?_
 simp only [ak,fl,gp,aj,simprocAttr]
 refine an trivial (al (d3) rfl rfl rfl (by simp only [au,Nat.reduceLT]) (by repeat (first|exact trivial|constructor)) (aa ae ?_))
 simp only [ak,fl,gp,aj,simprocAttr]
 refine af ?_ (hK _ ?_)<;>clear hK K
 ·first|exact trivial|omega|(simp only [ah] at *; omega)|(simp [ah] at *; omega)|simp_all
 refine qa (qm (qm ?_))
 refine ab fun K hK=>aa ae ?_
 simp only [ak,fl,gp,aj,simprocAttr,decide_eq_false hc]
 refine af ?_ (hK _ ?_)<;>clear hK K
 ·first|exact trivial|omega|(simp only [ah] at *; omega)|(simp [ah] at *; omega)|simp_all
 refine qa ?_
 refine ao rfl (fun hC3=>?_) (fun hC3=>?_)
 ·refine qm ?_
  refine ab fun K hK=>aa ae ?_
  simp only [ak,fl,gp,aj,simprocAttr,decide_eq_false hc]
  refine an trivial (al (f1) rfl rfl rfl (by simp only [au,Nat.reduceLT]) (by repeat (first|exact trivial|constructor)) (aa ae ?_))
  simp only [ak,fl,gp,aj,simprocAttr,decide_eq_false hc]
  refine af ?_ (hK _ ?_)<;>clear hK K
  ·first|exact trivial|omega|(simp only [ah] at *; omega)|(simp [ah] at *; omega)|simp_all
  refine qa (qk (qb ?_))
  simp only [Tryd.results8,bY,ak,fl,gp,aj,simprocAttr]
  all_goals ((first|exact rfl|exact ⟨rfl,rfl⟩|exact ⟨rfl,rfl,rfl⟩|exact ⟨trivial,rfl⟩|exact ⟨Nat.le_refl _,rfl⟩|trivial|(simp; done)))
 cases hC3
theorem mZ (h:GT n m n e) (h' : GT n' m' n' e') (hle:n * n'≤60) {M:List Int} (hM:M=sx (fun a b=>(lI n' (op m n) (op m' n') a b:Nat)) (n * n'))
  (d1:bL Tryd.prog 13 [gp n m] (.tup [.list D1,fl (0,a1)])) (d2:bL Tryd.prog 13 [gp n' m'] (.tup [.list D2,fl (c2,a2)])) (d3:bL Tryd.prog 13 [gp (n * n' : Nat) M] (.tup [.list D3,fl (c3,a3)]))
  (f1:bL Tryd.prog 14 [gp n m] (fl (0,a1))) (f2:bL Tryd.prog 14 [gp n' m'] (fl (c2,a2))) (hc:¬ c2=0):bL Tryd.prog 8 [gp n m,gp n' m'] (.bool true):=by
 have hpr:=iq h h' hle
 rw [← hM] at hpr
 refine aK ae Tryd.func8 rfl (by kernel_rfl) (by rw [Tryd.ntmps8]; exact Nat.le_add_left 2 _) ?_; rw [Tryd.ntmps8]
 refine qm ?_
 refine ab fun K hK=>aa ae ?_
 simp only [ak,fl,gp,aj,simprocAttr]
 refine af ?_ (hK _ ?_)<;>clear hK K
 ·first|exact trivial|omega|(simp only [ah] at *; omega)|(simp [ah] at *; omega)|simp_all
 refine qa (qm (qm ?_))
 refine ab fun K hK=>aa ae ?_
 simp only [ak,fl,gp,aj,simprocAttr]
 refine an trivial (al (eX) rfl rfl rfl (by simp only [au,Nat.reduceLT]) (by repeat (first|exact trivial|constructor)) (aa ae ?_))
 simp only [ak,fl,gp,aj,simprocAttr]
 refine af trivial (hK _ ?_)<;>clear hK K
 refine qa ?_
 refine ao rfl (fun hC1=>?_) (fun hC1=>?_)
 ·(try simp only [aH] at hC1)
  first|exact absurd rfl hC1|exact hC1.elim|cases hC1|(simp at hC1; done)
 (try simp only [aH] at hC1)
 refine qh (qa (qm ?_))
 refine ab fun K hK=>aa ae ?_
 simp only [ak,fl,gp,aj,simprocAttr]
 refine an trivial (al (hpr) rfl rfl rfl (by simp only [au,Nat.reduceLT]) (by repeat (first|exact trivial|constructor)) (aa ae ?_))
 simp only [ak,fl,gp,aj,simprocAttr]
 refine af ?_ (hK _ ?_)<;>clear hK K
 ·first|exact trivial|omega|(simp only [ah] at *; omega)|(simp [ah] at *; omega)|simp_all
 refine qa (qm (qm ?_))
 refine ab fun K hK=>aa ae ?_
 simp only [ak,fl,gp,aj,simprocAttr]
 refine af ?_ (hK _ ?_)<;>clear hK K
 ·first|exact trivial|omega|(simp only [ah] at *; omega)|(simp [ah] at *; omega)|simp_all
 refine qa ?_
 refine ao rfl (fun hC2=>?_) (fun hC2=>?_)
 ·cases hC2
 (try simp only [aH] at hC2)
 refine qh (qa (qm ?_))
 refine ab fun K hK=>aa ae ?_
 simp only [ak,fl,gp,aj,simprocAttr]
 refine an trivial (al (d1) rfl rfl rfl (by simp only [au,Nat.reduceLT]) (by repeat (first|exact trivial|constructor)) (aa ae ?_))
 simp only [ak,fl,gp,aj,simprocAttr]
 refine af ?_ (hK _ ?_)<;>clear hK K
 ·first|exact trivial|omega|(simp only [ah] at *; omega)|(simp [ah] at *; omega)|simp_all
 refine qa (qm ?_)
 refine ab fun K hK=>aa ae ?_
 simp only [ak,fl,gp,aj,simprocAttr]
 refine an trivial (al (d2) rfl rfl rfl (by simp only [au,Nat.reduceLT]) (by repeat (first|exact trivial|constructor)) (aa ae ?_))
 simp only [ak,fl,gp,aj,simprocAttr]
 refine af ?_ (hK _ ?_)<;>clear hK K
 ·first|exact trivial|omega|(simp only [ah] at *; omega)|(simp [ah] at *; omega)|simp_all
 refine qa (qm ?_)
 refine ab fun K hK=>aa ae ?_
 simp only [ak,fl,gp,aj,simprocAttr]
 refine an trivial (al (d3) rfl rfl rfl (by simp only [au,Nat.reduceLT]) (by repeat (first|exact trivial|constructor)) (aa ae ?_))
 simp only [ak,fl,gp,aj,simprocAttr]
 refine af ?_ (hK _ ?_)<;>clear hK K
 ·first|exact trivial|omega|(simp only [ah] at *; omega)|(simp [ah] at *; omega)|simp_all
 refine qa (qm (qm ?_))
 refine ab fun K hK=>aa ae ?_
 simp only [ak,fl,gp,aj,simprocAttr,decide_eq_false hc]
 refine af ?_ (hK _ ?_)<;>clear hK K
 ·first|exact trivial|omega|(simp only [ah] at *; omega)|(simp [ah] at *; omega)|simp_all
 refine qa ?_
 refine ao rfl (fun hC3=>?_) (fun hC3=>?_)
 ·refine qm ?_
  refine ab fun K hK=>aa ae ?_
  simp only [ak,fl,gp,aj,simprocAttr,decide_eq_false hc]
  refine an trivial (al (f1) rfl rfl rfl (by simp only [au,Nat.reduceLT]) (by repeat (first|exact trivial|constructor)) (aa ae ?_))
  simp only [ak,fl,gp,aj,simprocAttr,decide_eq_false hc]
  refine an trivial (al (f2) rfl rfl rfl (by simp only [au,Nat.reduceLT]) (by repeat (first|exact trivial|constructor)) (aa ae ?_))
  simp only [ak,fl,gp,aj,simprocAttr,decide_eq_false hc]
  refine af ?_ (hK _ ?_)<;>clear hK K
  ·first|exact trivial|omega|(simp only [ah] at *; omega)|(simp [ah] at *; omega)|simp_all
  refine qa (qk (qb ?_))
  simp only [Tryd.results8,bY,ak,fl,gp,aj,simprocAttr]
  all_goals ((first|exact rfl|exact ⟨rfl,rfl⟩|exact ⟨rfl,rfl,rfl⟩|exact ⟨trivial,rfl⟩|exact ⟨Nat.le_refl _,rfl⟩|trivial|(simp; done)))
 cases hC3
theorem nu (h:GT n m n e) (h' : GT n' m' n' e') (hle:n * n'≤60) {M:List Int} (hM:M=sx (fun a b=>(lI n' (op m n) (op m' n') a b:Nat)) (n * n'))
  (d1:bL Tryd.prog 13 [gp n m] (.tup [.list D1,fl (0,a1)])) (d2:bL Tryd.prog 13 [gp n' m'] (.tup [.list D2,fl (0,a2)])) (d3:bL Tryd.prog 13 [gp (n * n' : Nat) M] (.tup [.list D3,fl (c3,a3)]))
  (f1:bL Tryd.prog 14 [gp n m] (fl (0,a1))) (f2:bL Tryd.prog 14 [gp n' m'] (fl (0,a2))) (f3:bL Tryd.prog 14 [gp (n * n' : Nat) M] (fl (c3,a3))) (hc:¬ c3=0):bL Tryd.prog 8 [gp n m,gp n' m'] (.bool true):=by
 have hpr:=iq h h' hle
 rw [← hM] at hpr
 refine aK ae Tryd.func8 rfl (by kernel_rfl) (by rw [Tryd.ntmps8]; exact Nat.le_add_left 2 _) ?_; rw [Tryd.ntmps8]
 refine qm ?_
 refine ab fun K hK=>aa ae ?_
 simp only [ak,fl,gp,aj,simprocAttr]
 refine af ?_ (hK _ ?_)<;>clear hK K
 ·first|exact trivial|omega|(simp only [ah] at *; omega)|(simp [ah] at *; omega)|simp_all
 refine qa (qm (qm ?_))
 refine ab fun K hK=>aa ae ?_
 simp only [ak,fl,gp,aj,simprocAttr]
 refine an trivial (al (eX) rfl rfl rfl (by simp only [au,Nat.reduceLT]) (by repeat (first|exact trivial|constructor)) (aa ae ?_))
 simp only [ak,fl,gp,aj,simprocAttr]
 refine af trivial (hK _ ?_)<;>clear hK K
 refine qa ?_
 refine ao rfl (fun hC1=>?_) (fun hC1=>?_)
 ·(try simp only [aH] at hC1)
  first|exact absurd rfl hC1|exact hC1.elim|cases hC1|(simp at hC1; done)
 (try simp only [aH] at hC1)
 refine qh (qa (qm ?_))
 refine ab fun K hK=>aa ae ?_
 simp only [ak,fl,gp,aj,simprocAttr]
 refine an trivial (al (hpr) rfl rfl rfl (by simp only [au,Nat.reduceLT]) (by repeat (first|exact trivial|constructor)) (aa ae ?_))
 simp only [ak,fl,gp,aj,simprocAttr]
 refine af ?_ (hK _ ?_)<;>clear hK K
 ·first|exact trivial|omega|(simp only [ah] at *; omega)|(simp [ah] at *; omega)|simp_all
 refine qa (qm (qm ?_))
 refine ab fun K hK=>aa ae ?_
 simp only [ak,fl,gp,aj,simprocAttr]
 refine af ?_ (hK _ ?_)<;>clear hK K
 ·first|exact trivial|omega|(simp only [ah] at *; omega)|(simp [ah] at *; omega)|simp_all
 refine qa ?_
 refine ao rfl (fun hC2=>?_) (fun hC2=>?_)
 ·cases hC2
 (try simp only [aH] at hC2)
 refine qh (qa (qm ?_))
 refine ab fun K hK=>aa ae ?_
 simp only [ak,fl,gp,aj,simprocAttr]
 refine an trivial (al (d1) rfl rfl rfl (by simp only [au,Nat.reduceLT]) (by repeat (first|exact trivial|constructor)) (aa ae ?_))
 simp only [ak,fl,gp,aj,simprocAttr]
 refine af ?_ (hK _ ?_)<;>clear hK K
 ·first|exact trivial|omega|(simp only [ah] at *; omega)|(simp [ah] at *; omega)|simp_all
 refine qa (qm ?_)
 refine ab fun K hK=>aa ae ?_
 simp only [ak,fl,gp,aj,simprocAttr]
 refine an trivial (al (d2) rfl rfl rfl (by simp only [au,Nat.reduceLT]) (by repeat (first|exact trivial|constructor)) (aa ae ?_))
 simp only [ak,fl,gp,aj,simprocAttr]
 refine af ?_ (hK _ ?_)<;>clear hK K
 ·first|exact trivial|omega|(simp only [ah] at *; omega)|(simp [ah] at *; omega)|simp_all
 refine qa (qm ?_)
 refine ab fun K hK=>aa ae ?_
 simp only [ak,fl,gp,aj,simprocAttr]
 refine an trivial (al (d3) rfl rfl rfl (by simp only [au,Nat.reduceLT]) (by repeat (first|exact trivial|constructor)) (aa ae ?_))
 simp only [ak,fl,gp,aj,simprocAttr]
 refine af ?_ (hK _ ?_)<;>clear hK K
 ·first|exact trivial|omega|(simp only [ah] at *; omega)|(simp [ah] at *; omega)|simp_all
 refine qa (qm (qm ?_))
 refine ab fun K hK=>aa ae ?_
 simp only [ak,fl,gp,aj,simprocAttr,decide_eq_false hc]
 refine af ?_ (hK _ ?_)<;>clear hK K
 ·first|exact trivial|omega|(simp only [ah] at *; omega)|(simp [ah] at *; omega)|simp_all
 refine qa ?_
 refine ao rfl (fun hC3=>?_) (fun hC3=>?_)
 ·(try simp only [aH] at hC3)
  refine qm ?_
  refine ab fun K hK=>aa ae ?_
  simp only [ak,fl,gp,aj,simprocAttr,decide_eq_false hc]
  refine an trivial (al (f1) rfl rfl rfl (by simp only [au,Nat.reduceLT]) (by repeat (first|exact trivial|constructor)) (aa ae ?_))
  simp only [ak,fl,gp,aj,simprocAttr,decide_eq_false hc]
  refine an trivial (al (f2) rfl rfl rfl (by simp only [au,Nat.reduceLT]) (by repeat (first|exact trivial|constructor)) (aa ae ?_))
  simp only [ak,fl,gp,aj,simprocAttr,decide_eq_false hc]
  refine an trivial (al (f3) rfl rfl rfl (by simp only [au,Nat.reduceLT]) (by repeat (first|exact trivial|constructor)) (aa ae ?_))
  simp only [ak,fl,gp,aj,simprocAttr,decide_eq_false hc]
  refine af ?_ (hK _ ?_)<;>clear hK K
  ·first|exact trivial|omega|(simp only [ah] at *; omega)|(simp [ah] at *; omega)|simp_all
  refine qa (qk (qb ?_))
  simp only [Tryd.results8,bY,ak,fl,gp,aj,simprocAttr]
  all_goals ((first|exact rfl|exact ⟨rfl,rfl⟩|exact ⟨rfl,rfl,rfl⟩|exact ⟨trivial,rfl⟩|exact ⟨Nat.le_refl _,rfl⟩|trivial|(simp; done)))
 (try simp only [aH] at hC3)
 first|exact absurd rfl hC3|exact hC3.elim|cases hC3|(simp at hC3; done)
def n5 (V v w:Nat→Nat) (c'' c' i k d:Nat):Int:=((cn V c'' d:Nat):Int) - ((Ga v w c' d i + sn (fun k=>if v i * w k=d then 1 else 0) k:Nat):Int)
theorem Cq (V v w:Nat→Nat) (c'' c' i d:Nat):n5 V v w c'' c' i c' d=n5 V v w c'' c' (i + 1) 0 d:=rfl
theorem EY (V v w:Nat→Nat) {c'' c' i k d:Nat} (h1:c''≤60) (h2:c'≤60) (h3:i≤60) (h4:k≤60) : -10000≤n5 V v w c'' c' i k d∧n5 V v w c'' c' i k d≤10000:=by
 have a1:=qy V d c''
 have a2:Ga v w c' d i≤i * c':=qs fun j _=>by
  refine Nat.le_trans (qs (B:=1) fun q _=>?_) (by omega)
  split<;>omega
 have a3:i * c'≤60 * 60:=Nat.mul_le_mul h3 h2
 have a4:sn (fun k=>if v i * w k=d then 1 else 0) k≤k * 1:=qs fun q _=>by split<;>omega
 unfold n5
 omega
set_option maxHeartbeats 4000000 in
set_option maxRecDepth 20000 in
theorem nk (h:GT n m n e) (h' : GT n' m' n' e') (hle:n * n'≤60) {M:List Int} (hM:M=sx (fun a b=>(lI n' (op m n) (op m' n') a b:Nat)) (n * n')) (hc1:aS m n e≤24) (hc2:aS m' n' e'≤24) (hc3:aS M (n * n') (e * n' + e')≤24):bL Tryd.prog 8 [gp n m,gp n' m'] (.bool true):=by
 have hpr:=iq h h' hle
 rw [← hM] at hpr
 have h'':=Bk h h' hle
 rw [← hM] at h''
 have hn60:=h.2.1.big
 have hn60':=h'.2.1.big
 have d1:=gR h hc1
 have d2:=gR h' hc2
 have d3:=gR h'' hc3
 have hdl:∀ {n e:Nat} {m:List Int},GT n m n e→(me m n e).length=aS m n e∧∀ i,i < aS m n e→(me m n e).getD i 0=((kV m n e).getD i []).getD (pC m n e) 0:=fun {n e m} h=>by
  obtain ⟨P,p1,p2⟩:=sM h
  have hp3:=P.three
  have hrow:(kV m n e).length=aS m n e:=by
   haveI:NeZero (aJ m n e):=⟨by omega⟩
   exact (k6 h).2.2.1
  refine ⟨by unfold me; rw [List.length_map]; exact hrow,fun i hi=>?_⟩
  unfold me
  have hi2:i < (kV m n e).length:=by rw [hrow]; exact hi
  simp [List.getD,List.getElem?_map,List.getElem?_eq_getElem hi2]
 obtain ⟨l1,g1⟩:=hdl h
 obtain ⟨l2,g2⟩:=hdl h'
 obtain ⟨l3,g3⟩:=hdl h''
 obtain ⟨v,w,V,v1,w1,V1,hfin⟩:=yp h h' hle hM
 have v2:∀ i,i < aS m n e→(me m n e).getD i 0=(v i:Nat)∧1≤v i∧v i≤60:=fun i hi=>by
  have:=v1 i hi
  exact ⟨(g1 i hi).trans this.1,this.2.1,by omega⟩
 have w2:∀ i,i < aS m' n' e'→(me m' n' e').getD i 0=(w i:Nat)∧1≤w i∧w i≤60:=fun i hi=>by
  have:=w1 i hi
  exact ⟨(g2 i hi).trans this.1,this.2.1,by omega⟩
 have V2:∀ i,i < aS M (n * n') (e * n' + e')→(me M (n * n') (e * n' + e')).getD i 0=(V i:Nat)∧1≤V i∧V i≤60:=fun i hi=>by
  have:=V1 i hi
  exact ⟨(g3 i hi).trans this.1,this.2.1,by omega⟩
 clear v1 w1 V1 g1 g2 g3 hdl
 generalize me m n e=A at *
 generalize me m' n' e' = B at *
 generalize me M (n * n') (e * n' + e')=C at *
 generalize aS m n e=ka at *
 generalize aS m' n' e' = kb at *
 generalize aS M (n * n') (e * n' + e')=kc at *
 refine aK ae Tryd.func8 rfl (by kernel_rfl) (by rw [Tryd.ntmps8]; exact Nat.le_add_left 2 _) ?_; rw [Tryd.ntmps8]
 refine qm ?_
 refine ab fun K hK=>aa ae ?_
 simp only [ak,fl,gp,aj,simprocAttr]
 refine af ?_ (hK _ ?_)<;>clear hK K
 ·first|exact trivial|omega|(simp only [ah] at *; omega)|(simp [ah] at *; omega)|simp_all
 refine qa (qm (qm ?_))
 refine ab fun K hK=>aa ae ?_
 simp only [ak,fl,gp,aj,simprocAttr]
 refine an trivial (al (eX) rfl rfl rfl (by simp only [au,Nat.reduceLT]) (by repeat (first|exact trivial|constructor)) (aa ae ?_))
 simp only [ak,fl,gp,aj,simprocAttr]
 refine af trivial (hK _ ?_)<;>clear hK K
 refine qa ?_
 refine ao rfl (fun hC1=>?_) (fun hC1=>?_)
 ·(try simp only [aH] at hC1)
  first|exact absurd rfl hC1|exact hC1.elim|cases hC1|(simp at hC1; done)
 (try simp only [aH] at hC1)
 refine qh (qa (qm ?_))
 refine ab fun K hK=>aa ae ?_
 simp only [ak,fl,gp,aj,simprocAttr]
 refine an trivial (al (hpr) rfl rfl rfl (by simp only [au,Nat.reduceLT]) (by repeat (first|exact trivial|constructor)) (aa ae ?_))
 simp only [ak,fl,gp,aj,simprocAttr]
 refine af ?_ (hK _ ?_)<;>clear hK K
 ·first|exact trivial|omega|(simp only [ah] at *; omega)|(simp [ah] at *; omega)|simp_all
 refine qa (qm (qm ?_))
 refine ab fun K hK=>aa ae ?_
 simp only [ak,fl,gp,aj,simprocAttr]
 refine af ?_ (hK _ ?_)<;>clear hK K
 ·first|exact trivial|omega|(simp only [ah] at *; omega)|(simp [ah] at *; omega)|simp_all
 refine qa ?_
 refine ao rfl (fun hC2=>?_) (fun hC2=>?_)
 ·cases hC2
 (try simp only [aH] at hC2)
 refine qh (qa (qm ?_))
 refine ab fun K hK=>aa ae ?_
 simp only [ak,fl,gp,aj,simprocAttr]
 refine an trivial (al (d1) rfl rfl rfl (by simp only [au,Nat.reduceLT]) (by repeat (first|exact trivial|constructor)) (aa ae ?_))
 simp only [ak,fl,gp,aj,simprocAttr]
 refine af ?_ (hK _ ?_)<;>clear hK K
 ·first|exact trivial|omega|(simp only [ah] at *; omega)|(simp [ah] at *; omega)|simp_all
 refine qa (qm ?_)
 refine ab fun K hK=>aa ae ?_
 simp only [ak,fl,gp,aj,simprocAttr]
 refine an trivial (al (d2) rfl rfl rfl (by simp only [au,Nat.reduceLT]) (by repeat (first|exact trivial|constructor)) (aa ae ?_))
 simp only [ak,fl,gp,aj,simprocAttr]
 refine af ?_ (hK _ ?_)<;>clear hK K
 ·first|exact trivial|omega|(simp only [ah] at *; omega)|(simp [ah] at *; omega)|simp_all
 refine qa (qm ?_)
 refine ab fun K hK=>aa ae ?_
 simp only [ak,fl,gp,aj,simprocAttr]
 refine an trivial (al (d3) rfl rfl rfl (by simp only [au,Nat.reduceLT]) (by repeat (first|exact trivial|constructor)) (aa ae ?_))
 simp only [ak,fl,gp,aj,simprocAttr]
 refine af ?_ (hK _ ?_)<;>clear hK K
 ·first|exact trivial|omega|(simp only [ah] at *; omega)|(simp [ah] at *; omega)|simp_all
 refine qa (qm (qm ?_))
 refine ab fun K hK=>aa ae ?_
 simp only [ak,fl,gp,aj,simprocAttr]
 refine af ?_ (hK _ ?_)<;>clear hK K
 ·first|exact trivial|omega|(simp only [ah] at *; omega)|(simp [ah] at *; omega)|simp_all
 refine qa ?_
 refine ao rfl (fun hC3=>?_) (fun hC3=>?_)
 ·(try simp only [aH] at hC3)
  first|exact absurd rfl hC3|exact hC3.elim|cases hC3|(simp at hC3; done)
 (try simp only [aH] at hC3)
 refine qh (qa (qm ?_))
 refine ab fun K hK=>aa ae ?_
 simp only [ak,fl,gp,aj,simprocAttr,eE.eq_def,-List.reduceReplicate,(show (4000:Int).toNat=4000 from rfl),vX]
 refine af ?_ (hK _ ?_)<;>clear hK K
 ·first|exact trivial|omega|(simp only [ah] at *; omega)|(simp [ah] at *; omega)|simp_all
 refine qa (qm (qm ?_))
 refine ab fun K hK=>aa ae ?_
 simp only [ak,fl,gp,aj,simprocAttr]
 refine af trivial (hK _ ?_)<;>clear hK K
 refine qa (ql ?_)
 refine aB (ι:=Nat) (fun i=>⟨164,[(7,.p (.list (il A))),(9,.p (.list (il B))),(11,.p (.list (il C))),(13,.sl 0 0 4000),(14,.p (.int .i64 i))],[.own (ol (gH 4000 fun d=>((cn V i d:Nat):Int)))]⟩) (fun i=>i≤kc) (fun i=>kc - i) 0 (Nat.zero_le _) [7] (by
  rw [dx (g:=fun d=>((cn V 0 d:Nat):Int)) (g':=fun _=>0) fun d _=>rfl]
  simp only [leq,bw,ak,fl,gp,aj,simprocAttr]<;>first|trivial|rfl|skip) fun i hi=>?_
 refine qm (qm ?_)
 refine ab fun K hK=>aa ae ?_
 simp only [ak,fl,gp,aj,simprocAttr,aI,l3]
 refine af trivial (hK _ ?_)<;>clear hK K
 refine qa ?_
 refine ao rfl (fun hC4=>?_) (fun hC4=>?_)
 ·(try simp only [aH] at hC4)
  have hik:i < kc:=by omega
  obtain ⟨x1,x2,x3⟩:=V2 i hik
  have hz:∀ d,cn V (i + 1) d=cn V i d + if V i=d then 1 else 0:=fun d=>rfl
  have hci:=qy V (V i) i
  have hrl:=dT 4000 fun d=>((cn V i d:Nat):Int)
  have hset' : (gH 4000 fun d=>((cn V i d:Nat):Int)).set (V i) (((cn V i (V i):Nat):Int) + 1)=gH 4000 fun d=>((cn V (i + 1) d:Nat):Int):=by
   rw [nO]
   refine dx fun d _=>?_
   by_cases hd:d=V i
   ·subst hd; rw [if_pos rfl,hz,if_pos rfl]; simp
   rw [if_neg hd,hz,if_neg fun h=>hd h.symm]; simp
  refine qh (qa (qm (ql (qm (qm ?_)))))
  refine ab fun K hK=>aa ae ?_
  simp only [ak,fl,gp,aj,simprocAttr,aI,l3,aT (show i < C.length by omega),x1,decide_eq_false (show ¬ ((V i:Nat):Int) < 0 by omega),decide_eq_false (show ¬ (60:Int) < ((V i:Nat):Int) by omega)]
  refine af ?_ (hK _ ?_)<;>clear hK K
  ·omega
  refine qa ?_
  refine ao rfl (fun hC5=>?_) (fun hC5=>?_)
  ·(try simp only [aH] at hC5)
   first|exact absurd rfl hC5|exact hC5.elim|cases hC5|(simp at hC5; done)
  (try simp only [aH] at hC5)
  refine qh (qa ?_)
  refine ab fun K hK=>aa ae ?_
  simp only [ak,fl,gp,aj,simprocAttr,aI,l3,aT (show i < C.length by omega),x1,bB (show V i < (gH 4000 fun d=>((cn V i d:Nat):Int)).length by omega),fG (show V i < 4000 by omega),dV,hset']
  refine af ?_ (hK _ ?_)<;>clear hK K
  ·simp only [ah]; omega
  refine qd (qa ?_)
  refine ab fun K hK=>aa ae ?_
  simp only [ak,fl,gp,aj,simprocAttr]
  refine af ?_ (hK _ ?_)<;>clear hK K
  ·first|exact trivial|omega|(simp only [ah] at *; omega)|(simp [ah] at *; omega)|simp_all
  refine qa ?_
  refine ⟨i + 1,[0],by omega,by omega,by simp only [leq,bw,ak,fl,gp,aj,simprocAttr]<;>first|trivial|omega|skip⟩
 (try simp only [aH] at hC4)
 have hik:i=kc:=by omega
 rw [hik]
 have hst:gH 4000 (fun d=>((cn V kc d:Nat):Int))=gH 4000 (n5 V v w kc kb 0 0):=dx fun d _=>by
  have:n5 V v w kc kb 0 0 d=((cn V kc d:Nat):Int) - ((0:Nat):Int):=rfl
  rw [this]; omega
 rw [hst]
 refine qj (qc (qc (qf (qa (qm (qm ?_))))))
 refine ab fun K hK=>aa ae ?_
 simp only [ak,fl,gp,aj,simprocAttr]
 refine af trivial (hK _ ?_)<;>clear hK K
 refine qa (ql ?_)
 refine aB (ι:=Nat) (fun i=>⟨164,[(7,.p (.list (il A))),(9,.p (.list (il B))),(13,.sl 0 0 4000),(15,.p (.int .i64 i))],[.own (ol (gH 4000 (n5 V v w kc kb i 0)))]⟩) (fun i=>i≤ka) (fun i=>ka - i) 0 (Nat.zero_le _) [0] (by simp only [leq,bw,ak,fl,gp,aj,simprocAttr]<;>first|trivial|rfl|skip) fun i hi=>?_
 refine qm (qm ?_)
 refine ab fun K hK=>aa ae ?_
 simp only [ak,fl,gp,aj,simprocAttr,aI,l1]
 refine af trivial (hK _ ?_)<;>clear hK K
 refine qa ?_
 refine ao rfl (fun hC6=>?_) (fun hC6=>?_)
 ·(try simp only [aH] at hC6)
  have hik2:i < ka:=by omega
  obtain ⟨x1,x2,x3⟩:=v2 i hik2
  refine qh (qa (qm (ql (qm ?_))))
  refine ab fun K hK=>aa ae ?_
  simp only [ak,fl,gp,aj,simprocAttr]
  refine af trivial (hK _ ?_)<;>clear hK K
  refine qa (ql ?_)
  refine aB (ι:=Nat) (fun k=>⟨164,[(7,.p (.list (il A))),(9,.p (.list (il B))),(13,.sl 0 0 4000),(15,.p (.int .i64 i)),(16,.p (.int .i64 k))],[.own (ol (gH 4000 (n5 V v w kc kb i k)))]⟩) (fun k=>k≤kb) (fun k=>kb - k) 0 (Nat.zero_le _) [0] (by simp only [leq,bw,ak,fl,gp,aj,simprocAttr]<;>first|trivial|rfl|skip) fun k hk=>?_
  refine qm (qm ?_)
  refine ab fun K hK=>aa ae ?_
  simp only [ak,fl,gp,aj,simprocAttr,aI,l2]
  refine af trivial (hK _ ?_)<;>clear hK K
  refine qa ?_
  refine ao rfl (fun hC7=>?_) (fun hC7=>?_)
  ·(try simp only [aH] at hC7)
   have hkk:k < kb:=by omega
   obtain ⟨y1,y2,y3⟩:=w2 k hkk
   have hpm:v i * w k≤60 * 60:=Nat.mul_le_mul x3 y3
   have hpc:((v i:Nat):Int) * ((w k:Nat):Int)=((v i * w k:Nat):Int):=by simp
   have hrl:=dT 4000 (n5 V v w kc kb i k)
   have hrg:=EY V v w (c'':=kc) (c':=kb) (i:=i) (k:=k) (d:=v i * w k) (by omega) (by omega) (by omega) (by omega)
   have hset' : (gH 4000 (n5 V v w kc kb i k)).set (v i * w k) (n5 V v w kc kb i k (v i * w k) - 1)=gH 4000 (n5 V v w kc kb i (k + 1)):=by
    rw [nO]
    refine dx fun d _=>?_
    have hz:n5 V v w kc kb i (k + 1) d=((cn V kc d:Nat):Int) - ((Ga v w kb d i + (sn (fun k=>if v i * w k=d then 1 else 0) k + if v i * w k=d then 1 else 0):Nat):Int):=rfl
    rw [hz]
    by_cases hd:d=v i * w k
    ·subst hd; rw [if_pos rfl,if_pos rfl]; unfold n5; omega
    rw [if_neg hd,if_neg fun h=>hd h.symm]; unfold n5; omega
   refine qh (qa (qm (ql (qm (qm ?_)))))
   refine ab fun K hK=>aa ae ?_
   simp only [ak,fl,gp,aj,simprocAttr,aI,l1,l2,aT (show i < A.length by omega),x1,aT (show k < B.length by omega),y1,decide_eq_false (show ¬ ((v i:Nat):Int) < 0 by omega),decide_eq_false (show ¬ (60:Int) < ((v i:Nat):Int) by omega),decide_eq_false (show ¬ ((w k:Nat):Int) < 0 by omega),decide_eq_false (show ¬ (60:Int) < ((w k:Nat):Int) by omega)]
   refine af ?_ (hK _ ?_)<;>clear hK K
   ·omega
   refine qa ?_
   refine ao rfl (fun hC8=>?_) (fun hC8=>?_)
   ·(try simp only [aH] at hC8)
    first|exact absurd rfl hC8|exact hC8.elim|cases hC8|(simp at hC8; done)
   (try simp only [aH] at hC8)
   refine qh (qa ?_)
   refine ba mixed (by kernel_rfl) fun K hK=>aa ae ?_
   simp only [ak,fl,gp,aj,simprocAttr,aI,l1,l2,aT (show i < A.length by omega),x1,aT (show k < B.length by omega),y1,hpc,bB (show v i * w k < (gH 4000 (n5 V v w kc kb i k)).length by omega),fG (show v i * w k < 4000 by omega),dV,hset']
   refine af ?_ (hK _ ?_)<;>clear hK K
   ·simp only [ah]; omega
   refine qd (qa ?_)
   refine ab fun K hK=>aa ae ?_
   simp only [ak,fl,gp,aj,simprocAttr]
   refine af ?_ (hK _ ?_)<;>clear hK K
   ·first|exact trivial|omega|(simp only [ah] at *; omega)|(simp [ah] at *; omega)|simp_all
   refine qa ?_
   refine ⟨k + 1,[0],by omega,by omega,by simp only [leq,bw,ak,fl,gp,aj,simprocAttr]<;>first|trivial|omega|skip⟩
  (try simp only [aH] at hC7)
  have hkk:k=kb:=by omega
  rw [hkk]
  have hst:gH 4000 (n5 V v w kc kb i kb)=gH 4000 (n5 V v w kc kb (i + 1) 0):=dx fun d _=>Cq V v w kc kb i d
  rw [hst]
  refine qj (qc (qc (qf (qd (qa ?_)))))
  refine ab fun K hK=>aa ae ?_
  simp only [ak,fl,gp,aj,simprocAttr]
  refine af ?_ (hK _ ?_)<;>clear hK K
  ·first|exact trivial|omega|(simp only [ah] at *; omega)|(simp [ah] at *; omega)|simp_all
  refine qa ?_
  refine ⟨i + 1,[0],by omega,by omega,by simp only [leq,bw,ak,fl,gp,aj,simprocAttr]<;>first|trivial|omega|skip⟩
 (try simp only [aH] at hC6)
 have hik2:i=ka:=by omega
 rw [hik2]
 have hze:∀ d,n5 V v w kc kb ka 0 d=0:=fun d=>by
  have hz:n5 V v w kc kb ka 0 d=((cn V kc d:Nat):Int) - ((Ga v w kb d ka + 0:Nat):Int):=rfl
  rw [hz,hfin d]; omega
 refine qj (qc (qc (qf (qa (qm (qm ?_))))))
 refine ab fun K hK=>aa ae ?_
 simp only [ak,fl,gp,aj,simprocAttr]
 refine af trivial (hK _ ?_)<;>clear hK K
 refine qa (ql ?_)
 refine aB (ι:=Nat) (fun i=>⟨164,[(13,.sl 0 0 4000),(17,.p (.int .i64 i))],[.own (ol (gH 4000 (n5 V v w kc kb ka 0)))]⟩) (fun i=>i≤4000) (fun i=>4000 - i) 0 (Nat.zero_le _) [0] (by simp only [leq,bw,ak,fl,gp,aj,simprocAttr]<;>first|trivial|rfl|skip) fun i hi=>?_
 refine qm (qm ?_)
 refine ab fun K hK=>aa ae ?_
 simp only [ak,fl,gp,aj,simprocAttr]
 refine af trivial (hK _ ?_)<;>clear hK K
 refine qa ?_
 refine ao rfl (fun hC9=>?_) (fun hC9=>?_)
 ·(try simp only [aH] at hC9)
  have hik3:i < 4000:=by omega
  have hrl:=dT 4000 (n5 V v w kc kb ka 0)
  refine qh (qa (qm (ql (qm ?_))))
  refine ab fun K hK=>aa ae ?_
  simp only [ak,fl,gp,aj,simprocAttr,bB (show i < (gH 4000 (n5 V v w kc kb ka 0)).length by omega),fG hik3,hze,tx,AB]
  refine af ?_ (hK _ ?_)<;>clear hK K
  ·omega
  refine qa ?_
  refine ao rfl (fun hC10=>?_) (fun hC10=>?_)
  ·(try simp only [aH] at hC10)
   first|exact absurd rfl hC10|exact hC10.elim|cases hC10|(simp at hC10; done)
  (try simp only [aH] at hC10)
  refine qh (qd (qa ?_))
  refine ab fun K hK=>aa ae ?_
  simp only [ak,fl,gp,aj,simprocAttr]
  refine af ?_ (hK _ ?_)<;>clear hK K
  ·first|exact trivial|omega|(simp only [ah] at *; omega)|(simp [ah] at *; omega)|simp_all
  refine qa ?_
  refine ⟨i + 1,[0],by omega,by omega,by simp only [leq,bw,ak,fl,gp,aj,simprocAttr]<;>first|trivial|omega|skip⟩
 (try simp only [aH] at hC9)
 refine qj (qc (qc (qf (qa (qm ?_)))))
 refine ab fun K hK=>aa ae ?_
 simp only [ak,fl,gp,aj,simprocAttr]
 refine af trivial (hK _ ?_)<;>clear hK K
 refine qa (qk ?_)
 simp only [Tryd.results8,bY,ak,fl,gp,aj,simprocAttr]
 all_goals ((first|exact rfl|exact ⟨rfl,rfl⟩|exact ⟨rfl,rfl,rfl⟩|exact ⟨trivial,rfl⟩|exact ⟨Nat.le_refl _,rfl⟩|trivial|(simp; done)))
theorem px (N:Int) (m:List Int) (N' : Int) (m' : List Int) (hm:m.length≤1000000000000000) (hm' : m'.length≤1000000000000000):bL Tryd.prog 8 [gp N m,gp N' m'] (.bool true):=by
 by_cases hf:(pf N m N' m').1=0
 ·have z1:(gf N m).1=0:=Classical.byContradiction fun h=>h (by unfold pf at hf; rwa [if_pos h] at hf)
  have z2:(gf N' m').1=0:=Classical.byContradiction fun h=>h (by unfold pf at hf; rwa [if_neg (by simpa using z1),if_pos h] at hf)
  obtain ⟨n,e,h,_⟩:=tV z1
  obtain ⟨n',e',h',_⟩:=tV z2
  obtain rfl:N=(n:Int):=h.1
  obtain rfl:N' = (n' : Int):=h'.1
  have hle:n * n'≤60:=by
   refine Nat.le_of_not_lt fun hc=>?_
   have h3:(n:Int) * (n' : Int) > 60:=by
    have:(n:Int) * (n' : Int)=((n * n' : Nat):Int):=by simp
    rw [this]; omega
   unfold pf at hf
   rw [if_neg (by simpa using z1),if_neg (by simpa using z2),if_pos h3] at hf
   cases hf
  obtain ⟨M,hM⟩:∃ M,M=sx (fun a b=>(lI n' (op m n) (op m' n') a b:Nat)) (n * n'):=⟨_,rfl⟩
  have h'':=Bk h h' hle
  rw [← hM] at h''
  obtain ⟨D1,c1,a1,d1,f1,k1⟩:=sw h
  obtain ⟨D2,c2,a2,d2,f2,k2⟩:=sw h'
  obtain ⟨D3,c3,a3,d3,f3,k3⟩:=sw h''
  by_cases q1:c1=0
  ·by_cases q2:c2=0
   ·by_cases q3:c3=0
    ·exact nk h h' hle hM (k1 q1) (k2 q2) (k3 q3)
    subst q1; subst q2
    exact nu h h' hle hM d1 d2 d3 f1 f2 f3 q3
   subst q1
   exact mZ h h' hle hM d1 d2 d3 f1 f2 q2
  exact nr h h' hle hM d1 d2 d3 f1 q1
 exact nt N m N' m' hm hm' hf
end
open Go.Pv Go.ChangeShapes Go.WideShapes Go.ChangeAt Go.WideElems Go.RowKit
theorem own:ownKnob Tryd.prog.godebug=none:=by kernel_rfl
theorem laidOut:laidOutB Tryd.prog=true:=by kernel_rfl
theorem gG:Tryd.prog.globalNamed "math/bits.deBruijn64tab" = some 0:=by kernel_rfl
theorem tG:(Tryd.prog.globals[0]?).map (·.type)=some 113:=by kernel_rfl
theorem cG:Tryd.prog.cellsOf 5=1:=by kernel_rfl
theorem Bh (os:Os) (args:Array Value):laidMetH Tryd.prog [("math/bits.deBruijn64tab",Rows.laid_math_bits_deBruijn64tab)] ((World.doorLaid Tryd.prog 4000 os).forCall (fun _ _=>0) ⟨#[],args,[]⟩).memory:=
 laidMetH_of_parts3 (fuel:=8) (laidMet_of_run' 8 (by kernel_rfl) (by kernel_rfl)) (by kernel_rfl) (by kernel_rfl)
def GV:DataW Unit→PV
 | .lit (.int k n)=>.int k n
 | _=>.nil
def datum:List (DataW Unit)→List PV:=List.map GV
theorem vF:(match (Rows.laid_math_bits_deBruijn64tab:DataW Unit) with | .agg l=>datum l | _=>[])=iN:=rfl
theorem CN {W:World} (h:laidMetH Tryd.prog [("math/bits.deBruijn64tab",Rows.laid_math_bits_deBruijn64tab)] W):pj (fun b=>b < W.heap.size) W:=by
 refine ⟨fun b h=>h,fun g l hg=>?_⟩
 have hg2:g=0∧l=iN:=by
  unfold gv at hg
  by_cases e:g=0
  ·subst e; exact ⟨rfl,(Option.some.inj hg).symm⟩
  have:(g == 0)=false:=by simpa using e
  rw [this] at hg; simp at hg
 obtain ⟨rfl,rfl⟩:=hg2
 rw [MakeChecks.laidMetH_plain _ _ _ (by kernel_rfl)] at h
 obtain ⟨ps,⟨g0,t0,cs0,f0,p0,q0,hg0,ht0,hv0,hd0,_,_⟩,_,_⟩:=h
 obtain rfl:=Option.some.inj (gG.symm.trans hg0)
 obtain rfl:=Option.some.inj (tG.symm.trans ht0)
 obtain ⟨xs,m1,rfl,hx1,hlen,hn3,hel⟩:=DataW.trod_array Tryd.underlying113 hd0
 have hd1:Rows.laid_math_bits_deBruijn64tab=DataW.agg (xs.map (·.1)):=congrArg Prod.fst hx1
 have hgl:iN=datum (xs.map (·.1)):=by
  rw [← vF,hd1]
 have key:∀ c (h:c < iN.length),W.cell? ⟨0,0 + c,none⟩=some ((cs0[c]?).getD undef)∧Reads (fun b=>b < W.heap.size) W iN[c] ((cs0[c]?).getD undef):=by
  intro c hc
  have hc2:c < 64:=Nat.lt_of_lt_of_le hc (by decide)
  have hcx:c < xs.length:=by omega
  have h1:=hel c hc2
  rw [List.getElem?_eq_getElem hcx] at h1
  obtain ⟨k,e1,e2,_⟩:=DataW.trod_int Tryd.underlying5 h1
  rw [cG] at e1
  have e3:cs0.toList[c]? = some (.int .u8 k):=by
   have:=congrArg (fun l=>l[0]?) e1
   simpa [List.getElem?_take,List.getElem?_drop] using this
  have e4:cs0[c]? = some (.int .u8 k):=by simpa using e3
  have e5:iN[c] = .int .u8 k:=by
   have:iN[c]? = (datum (xs.map (·.1)))[c]?:=by rw [hgl]
   rw [List.getElem?_eq_getElem hc] at this
   simp only [datum,List.getElem?_map,List.getElem?_eq_getElem hcx,Option.map_some,Option.some.injEq] at this
   exact this.trans (by rw [e2]; rfl)
  refine ⟨?_,?_⟩
  ·rw [e4,Nat.zero_add,World.var?_cell gG hv0 c,e4]; rfl
  rw [e4]
  exact e5 ▸ (Reads.int .u8 k)
 refine .ptr _ _ _ (fun c=>(cs0[c]?).getD undef) ?_ (fun c hc=>(key c hc).1) fun c hc=>(key c hc).2
 have:=(key 0 (by decide)).1
 unfold World.cell? at this
 rcases Nat.lt_or_ge 0 W.heap.size with h | h
 ·exact h
 exfalso
 rw [Array.getElem?_eq_none h] at this
 simp at this
end Go.Proofs.YtjlmpmidchddjaaDoor
