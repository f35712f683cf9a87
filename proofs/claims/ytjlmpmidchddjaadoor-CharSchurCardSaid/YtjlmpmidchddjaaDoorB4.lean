/-
  Texts of this proof, one behind the other: what each says stands at its head. Conditions: none.
-/
import Derived.Test.YtjlmpmidchddjaaDoorB3
import Derived.Lib.SliceRun
import Derived.Test.YtjlmpmidchddjaaDoorB2

set_option linter.all false
namespace Go.Proofs.YtjlmpmidchddjaaDoor
open Go.Pv
def bo (n:Nat) (p:Nat→Bool):Nat:=msk (thl n p)
theorem bo_bit (n:Nat) (p:Nat→Bool) (i:Nat):(bo n p).testBit i=(decide (i < n) && p i):=by
 unfold bo
 rw [msk_bit,Bool.eq_iff_iff,decide_eq_true_eq,Bool.and_eq_true,decide_eq_true_eq]
 constructor
 ·rintro ⟨x,hx,rfl⟩
  obtain ⟨a,h1,h2,rfl⟩:=mem_thl.1 hx
  exact ⟨h1,h2⟩
 rintro ⟨h1,h2⟩
 exact ⟨(i:Int),mem_thl.2 ⟨i,h1,h2,rfl⟩,rfl⟩
theorem bo_lt (n:Nat) (p:Nat→Bool):bo n p < 2 ^ n:=msk_lt fun x hx=>by
 obtain ⟨a,h1,_,rfl⟩:=mem_thl.1 hx
 exact h1
theorem bo_lt64 {n:Nat} (hn:n≤60) (p:Nat→Bool):bo n p < 2 ^ 64:=Nat.lt_of_lt_of_le (bo_lt n p) (Nat.pow_le_pow_right (by omega) (by omega))
theorem bo_congr {n:Nat} {p q:Nat→Bool} (h:∀ a,a < n→p a=q a):bo n p=bo n q:=by unfold bo; rw [thl_congr h]
theorem stl_bo {n:Nat} (hn:n≤60) (p:Nat→Bool):stl (bo n p)=thl n p:=by
 rw [stl_n (by omega) (bo_lt n p)]
 exact thl_congr fun a ha=>by rw [bo_bit]; simp [ha]
theorem pow_lt64 {b:Nat} (hb:b < 64):2 ^ b < 2 ^ 64:=Nat.pow_lt_pow_right (by omega) hb
theorem bit_ltn {n s i:Nat} (hs:s < 2 ^ n) (h:s.testBit i=true):i < n:=by
 rcases Nat.lt_or_ge i n with h1 | h1
 ·exact h1
 rw [Nat.testBit_lt_two_pow (Nat.lt_of_lt_of_le hs (Nat.pow_le_pow_right (by omega) h1))] at h; cases h
structure GrowI (n:Nat) (f:Nat→Nat→Nat) (e s out:Nat) (w:List Int):Prop where
 lt:out < 2 ^ n
 one:out.testBit e=true
 gen:∀ a,out.testBit a=true→Gen n f e s.testBit a
 wait:∀ x∈w,∃ a,x=((a:Nat):Int)∧out.testBit a=true
 nd:w.Nodup
theorem or_bit (s b i:Nat):(s ||| 2 ^ b).testBit i=(s.testBit i || decide (b=i)):=by rw [Nat.testBit_or,Nat.testBit_two_pow]
theorem GrowI.len {n e s out:Nat} {f:Nat→Nat→Nat} {w:List Int} (h:GrowI n f e s out w):w.length≤n:=by
 have h1:=List.Nodup.length_le_of_subset h.nd (l₂:=thl n fun _=>true) fun x hx=>by
  obtain ⟨a,rfl,ha⟩:=h.wait x hx
  exact mem_thl.2 ⟨a,bit_ltn h.lt ha,rfl,rfl⟩
 exact Nat.le_trans h1 (thl_le _ _)
theorem GrowI.add {n e s out a z:Nat} {f:Nat→Nat→Nat} {w:List Int} (h:GrowI n f e s out w) (ha:out.testBit a=true) (hz:s.testBit z=true) (hzn:z < n) (hn:f a z < n) (hno:out.testBit (f a z)=false) :
  GrowI n f e s (out ||| 2 ^ f a z) (w++[((f a z:Nat):Int)]) where
 lt:=Nat.or_lt_two_pow h.lt (Nat.pow_lt_pow_right (by omega) hn)
 one:=by rw [or_bit,h.one]; rfl
 gen y hy:=by
  rw [or_bit,Bool.or_eq_true,decide_eq_true_eq] at hy
  rcases hy with hy | rfl
  ·exact h.gen y hy
  exact .step a z (h.gen a ha) hzn hz
 wait x hx:=by
  rcases List.mem_append.1 hx with hx | hx
  ·obtain ⟨y,e1,e2⟩:=h.wait x hx
   exact ⟨y,e1,by rw [or_bit,e2]; rfl⟩
  exact ⟨_,List.mem_singleton.1 hx,by rw [or_bit]; simp⟩
 nd:=by
  refine List.nodup_append.2 ⟨h.nd,by simp,fun x hx y hy e=>?_⟩
  rw [List.mem_singleton] at hy
  obtain ⟨y',e1,e2⟩:=h.wait x hx
  have:y' = f a z:=by omega
  rw [this,hno] at e2; cases e2
end Go.Proofs.YtjlmpmidchddjaaDoor

namespace Go.Proofs.YtjlmpmidchddjaaDoor
open Go.Pv
theorem thl_get_asc {n:Nat} {p:Nat→Bool} {i j:Nat} (hij:i < j) (hj:j < (thl n p).length):(thl n p).getD i 0 < (thl n p).getD j 0:=by
 have:=List.pairwise_iff_getElem.1 (thl_asc n p) i j (by omega) hj hij
 simpa [List.getD,List.getElem?_eq_getElem hj,List.getElem?_eq_getElem (show i < (thl n p).length by omega)] using this
theorem thl_get {n:Nat} {p:Nat→Bool} {i:Nat} (hi:i < (thl n p).length):∃ a,a < n∧p a=true∧(thl n p).getD i 0=((a:Nat):Int):=by
 have:(thl n p).getD i 0∈thl n p:=by simp [List.getD,List.getElem?_eq_getElem hi]
 exact mem_thl.1 this
theorem thl_at {n:Nat} {p:Nat→Bool} {a:Nat} (ha:a < n) (h:p a=true):∃ i,i < (thl n p).length∧(thl n p).getD i 0=((a:Nat):Int):=by
 obtain ⟨i,hi,e⟩:=List.getElem_of_mem (mem_thl.2 ⟨a,ha,h,rfl⟩)
 exact ⟨i,hi,by simp [List.getD,List.getElem?_eq_getElem hi,e]⟩
theorem mem_thl_n {n:Nat} {p:Nat→Bool} {a:Nat} (ha:a < n):((a:Nat):Int)∈thl n p↔p a=true:=by
 rw [mem_thl]
 constructor
 ·rintro ⟨b,_,h2,e⟩
  have:a=b:=by omega
  subst this; exact h2
 exact fun h=>⟨a,ha,h,rfl⟩
def upd (r:Nat→Bool) (a i:Nat):Bool:=r i || decide (i=a)
end Go.Proofs.YtjlmpmidchddjaaDoor

namespace Go.Proofs.YtjlmpmidchddjaaDoor
open Go.Pv
def tbr (g:Nat→Nat→Int) (n:Nat):Nat→List Int:=rg fun i=>g (i / n) (i % n)
def tbl (g:Nat→Nat→Int) (n:Nat):List Int:=tbr g n (n * n)
theorem tbr_succ (g:Nat→Nat→Int) {n a b:Nat} (hb:b < n):tbr g n (a * n + (b + 1))=tbr g n (a * n + b)++[g a b]:=by
 unfold tbr
 rw [← Nat.add_assoc,rg_succ]
 have h1:(a * n + b) / n=a:=by
  rw [Nat.mul_comm,Nat.mul_add_div (by omega),Nat.div_eq_of_lt hb]; omega
 have h2:(a * n + b) % n=b:=by
  rw [Nat.mul_comm,Nat.mul_add_mod,Nat.mod_eq_of_lt hb]
 simp only [h1,h2]
theorem tbr_len (g:Nat→Nat→Int) (n k:Nat):(tbr g n k).length=k:=rg_len _ k
def dih (n a b:Nat):Nat:=(a % n + (if a / n=1 then n - b % n else b % n)) % n + (a / n + b / n) % 2 * n
theorem tm_lit (a:Nat):Int.tmod (a:Int) 2=((a % 2:Nat):Int):=rfl
end Go.Proofs.YtjlmpmidchddjaaDoor

namespace Go.Proofs.YtjlmpmidchddjaaDoor
open Go.Pv
def ixf (p:Int→Bool) (l:List Int):Int:=match fst' (fun i=>p (l.getD i 0)) l.length with | some i=>(i:Int) | none=>-1
theorem indexFunc_c (l:List Int) (F:FuncId) (caps:List PV) (p:Int→Bool) (hl:l.length≤1000000) (hF:∀ x∈l,FnC Tryd.prog F (.int .i64 x :: caps) (.bool (p x))):FnC Tryd.prog 102 [.list (il l),.fn F caps] (.int .i64 (ixf p l)):=by
 refine fnc_of tab_ok Tryd.func102 rfl (by kernel_rfl) (by rw [Tryd.ntmps102]; exact Nat.le_add_left 2 _) ?_; rw [Tryd.ntmps102]
 refine qm ?_
 refine hk_region fun K hK=>runs_eval tab_ok ?_
 simp only [evz,fl,gp,tab,simprocAttr]
 refine fin_run trivial (hK _ ?_)<;>clear hK K
 refine qa (qm (qm ?_))
 refine hk_region fun K hK=>runs_eval tab_ok ?_
 simp only [evz,fl,gp,tab,simprocAttr]
 refine fin_run trivial (hK _ ?_)<;>clear hK K
 refine qa (ql ?_)
 refine hk_loop (ι:=Nat) (fun i=>⟨19,[(0,.p (.list (il l))),(1,.p (.fn F caps)),(7,.p (.int .i64 l.length)),(8,.p (.int .i64 i))],[]⟩) (fun i=>i≤l.length∧∀ j,j < i→p (l.getD j 0)=false) (fun i=>l.length - i) 0 ⟨Nat.zero_le _,fun j hj=>by omega⟩ [] (by simp only [leq,leA,evz,fl,gp,tab,simprocAttr]<;>trivial) fun i hi=>?_
 obtain ⟨hi1,hi2⟩:=hi
 refine qm ?_
 refine hk_region fun K hK=>runs_eval tab_ok ?_
 simp only [evz,fl,gp,tab,simprocAttr]
 refine fin_run trivial (hK _ ?_)<;>clear hK K
 refine qa (qm ?_)
 refine hk_cond rfl (fun hC1=>?_) (fun hC1=>?_)
 ·(try simp only [nhs] at hC1)
  have hlt:i < l.length:=by omega
  have hmem:l.getD i 0∈l:=by simp [List.getD,List.getElem?_eq_getElem hlt]
  refine qh (qa (qm (ql (qm ?_))))
  refine hk_region fun K hK=>runs_eval tab_ok ?_
  simp only [evz,fl,gp,tab,simprocAttr]
  refine fin_run trivial (hK _ ?_)<;>clear hK K
  refine qa (qm ?_)
  refine hk_region fun K hK=>runs_eval tab_ok ?_
  simp only [evz,fl,gp,tab,simprocAttr,il_get hlt]
  refine fin_stop ?_ (runs_call (hF _ hmem) rfl rfl rfl (by simp only [dstOk,Nat.reduceLT]) (by repeat (first|exact trivial|constructor)) (runs_eval tab_ok ?_))
  ·(first|exact trivial|omega|(simp only [In64] at *; omega)|(simp [In64] at *; omega)|(simp_all; done)|skip)
  simp only [evz,fl,gp,tab,simprocAttr,il_get hlt]
  refine fin_run ?_ (hK _ ?_)<;>clear hK K
  ·(first|exact trivial|omega|(simp only [In64] at *; omega)|(simp [In64] at *; omega)|(simp_all; done)|skip)
  refine qa ?_
  refine hk_cond rfl (fun hC2=>?_) (fun hC2=>?_)
  ·(try simp only [nhs] at hC2)
   refine qm ?_
   refine hk_region fun K hK=>runs_eval tab_ok ?_
   simp only [evz,fl,gp,tab,simprocAttr]
   refine fin_run trivial (hK _ ?_)<;>clear hK K
   refine qa (qk (qe (qb (qb (qe (qb ?_))))))
   simp only [Tryd.results102,enA,evz,fl,gp,tab,simprocAttr]
   all_goals (unfold ixf; rw [fst_some hlt hC2 hi2])
  (try simp only [nhs] at hC2)
  refine qh (qd (qa ?_))
  refine hk_region fun K hK=>runs_eval tab_ok ?_
  simp only [evz,fl,gp,tab,simprocAttr]
  refine fin_run ?_ (hK _ ?_)<;>clear hK K
  ·(first|exact trivial|omega|(simp only [In64] at *; omega)|(simp [In64] at *; omega)|(simp_all; done)|skip)
  refine qa ?_
  refine ⟨i + 1,[],⟨by omega,fun j hj=>?_⟩,by omega,?_⟩
  ·by_cases hj2:j=i
   ·subst hj2; exact hC2
   exact hi2 j (by omega)
  simp only [leq,leA,evz,fl,gp,tab,simprocAttr]<;>omega
 (try simp only [nhs] at hC1)
 refine qj (qc (qc (qf (qa (qm ?_)))))
 refine hk_region fun K hK=>runs_eval tab_ok ?_
 simp only [evz,fl,gp,tab,simprocAttr]
 refine fin_run trivial (hK _ ?_)<;>clear hK K
 refine qa (qk ?_)
 simp only [Tryd.results102,enA,evz,fl,gp,tab,simprocAttr]
 all_goals (unfold ixf; rw [fst_none fun j hj=>hi2 j (by omega)])
def sq8:List Int:=tbl (fun a b=>(dih 4 a b:Nat)) 8
theorem sq8_gf:(gf 8 sq8).1=0:=by decide +kernel
theorem sq8_gt:∃ e,GT (8:Nat) sq8 8 e:=by
 obtain ⟨n,e,h,_⟩:=gf_ok sq8_gf
 obtain rfl:n=8:=by have:=h.1; omega
 exact ⟨e,h⟩
theorem tm4 (a:Nat):Int.tmod (a:Int) 4=((a % 4:Nat):Int):=rfl
theorem td4 (a:Nat):Int.tdiv (a:Int) 4=((a / 4:Nat):Int):=rfl
theorem square_c:FnC Tryd.prog 55 [] (gp 8 sq8):=by
 have hlen:=tbr_len (fun a b=>(dih 4 a b:Nat)) 8
 refine fnc_of tab_ok Tryd.func55 rfl (by kernel_rfl) (by rw [Tryd.ntmps55]; exact Nat.le_add_left 0 _) ?_; rw [Tryd.ntmps55]
 refine qm ?_
 refine hk_region fun K hK=>runs_eval tab_ok ?_
 simp only [evz,fl,gp,tab,simprocAttr]
 refine fin_run ?_ (hK _ ?_)<;>clear hK K
 ·(first|exact trivial|omega|(simp only [In64] at *; omega)|(simp [In64] at *; omega)|(simp_all; done)|skip)
 refine qa (qm ?_)
 refine hk_region fun K hK=>runs_eval tab_ok ?_
 simp only [evz,fl,gp,tab,simprocAttr]
 refine fin_run ?_ (hK _ ?_)<;>clear hK K
 ·(first|exact trivial|omega|(simp only [In64] at *; omega)|(simp [In64] at *; omega)|(simp_all; done)|skip)
 refine qa (qm (qm ?_))
 refine hk_own0c 1 1 rfl rfl ?_
 simp only [hset,List.cons_append,List.nil_append,List.set,List.length_cons,List.length_nil]
 refine hk_region fun K hK=>runs_eval tab_ok ?_
 simp only [evz,fl,gp,tab,simprocAttr]
 refine fin_run trivial (hK _ ?_)<;>clear hK K
 refine qa (ql ?_)
 refine hk_loop (ι:=Nat) (fun a=>⟨39,[(0,.ptr 0 0),(1,.ptr 1 0),(2,.p (.int .i64 a))],[.own [.p (.int .i64 0),.p .nil],.own [.p (.int .i64 8),.sl 2 0 (tbr (fun a b=>(dih 4 a b:Nat)) 8 (a * 8)).length],.own (ol (tbr (fun a b=>(dih 4 a b:Nat)) 8 (a * 8)))]⟩) (fun a=>a≤8) (fun a=>8 - a) 0 (Nat.zero_le _) [0,1,2] (by simp only [leq,leA,evz,fl,gp,tab,simprocAttr]<;>simp [tbr,rg,ol_nil]) fun a ha=>?_
 refine qm (qm ?_)
 refine hk_region fun K hK=>runs_eval tab_ok ?_
 simp only [evz,fl,gp,tab,simprocAttr]
 refine fin_run trivial (hK _ ?_)<;>clear hK K
 refine qa ?_
 refine hk_cond rfl (fun hC1=>?_) (fun hC1=>?_)
 ·(try simp only [nhs] at hC1)
  have hal:a < 8:=by omega
  refine qh (qa (qm (ql (qm ?_))))
  refine hk_region fun K hK=>runs_eval tab_ok ?_
  simp only [evz,fl,gp,tab,simprocAttr]
  refine fin_run trivial (hK _ ?_)<;>clear hK K
  refine qa (ql ?_)
  refine hk_loop (ι:=Nat) (fun b=>⟨39,[(0,.ptr 0 0),(1,.ptr 1 0),(2,.p (.int .i64 a)),(3,.p (.int .i64 b))],[.own [.p (.int .i64 0),.p .nil],.own [.p (.int .i64 8),.sl 2 0 (tbr (fun a b=>(dih 4 a b:Nat)) 8 (a * 8 + b)).length],.own (ol (tbr (fun a b=>(dih 4 a b:Nat)) 8 (a * 8 + b)))]⟩) (fun b=>b≤8) (fun b=>8 - b) 0 (Nat.zero_le _) [0,1,2] (by rw [Nat.add_zero]; simp only [leq,leA,evz,fl,gp,tab,simprocAttr]<;>trivial) fun b hb=>?_
  refine qm (qm ?_)
  refine hk_region fun K hK=>runs_eval tab_ok ?_
  simp only [evz,fl,gp,tab,simprocAttr]
  refine fin_run trivial (hK _ ?_)<;>clear hK K
  refine qa ?_
  refine hk_cond rfl (fun hC2=>?_) (fun hC2=>?_)
  ·(try simp only [nhs] at hC2)
   have hbl:b < 8:=by omega
   have hl:=hlen (a * 8 + b)
   have hs:(4:Int) - ((b % 4:Nat):Int)=((4 - b % 4:Nat):Int):=by omega
   have hm:(((a / 4 + b / 4) % 2:Nat):Int) * 4=(((a / 4 + b / 4) % 2 * 4:Nat):Int):=by omega
   refine qh (qa (qm (ql (qm ?_))))
   refine hk_region fun K hK=>runs_eval tab_ok ?_
   simp only [evz,fl,gp,tab,simprocAttr,tm4]
   refine fin_run ?_ (hK _ ?_)<;>clear hK K
   ·(first|exact trivial|omega|(simp only [In64] at *; omega)|(simp [In64] at *; omega)|(simp_all; done)|skip)
   refine qa (qm (qm ?_))
   refine hk_region fun K hK=>runs_eval tab_ok ?_
   simp only [evz,fl,gp,tab,simprocAttr]
   refine fin_run trivial (hK _ ?_)<;>clear hK K
   refine qa ?_
   refine hk_cond rfl (fun hC3=>?_) (fun hC3=>?_)
   ·(try simp only [nhs] at hC3)
    have hd:dih 4 a b=(a % 4 + (4 - b % 4)) % 4 + (a / 4 + b / 4) % 2 * 4:=by rw [dih,if_pos (by omega)]
    refine hk_region fun K hK=>runs_eval tab_ok ?_
    simp only [evz,fl,gp,tab,simprocAttr,hs]
    refine fin_run ?_ (hK _ ?_)<;>clear hK K
    ·(first|exact trivial|omega|(simp only [In64] at *; omega)|(simp [In64] at *; omega)|(simp_all; done)|skip)
    refine qa ?_
    refine hk_region fun K hK=>runs_eval tab_ok ?_
    simp only [evz,fl,gp,tab,simprocAttr,tm4,td4,← Int.natCast_add,tm_lit,hm]
    refine fin_run ?_ (hK _ ?_)<;>clear hK K
    ·simp only [In64]; omega
    refine qd (qa ?_)
    refine hk_region fun K hK=>runs_eval tab_ok ?_
    simp only [evz,fl,gp,tab,simprocAttr]
    refine fin_run ?_ (hK _ ?_)<;>clear hK K
    ·(first|exact trivial|omega|(simp only [In64] at *; omega)|(simp [In64] at *; omega)|(simp_all; done)|skip)
    refine qa ?_
    refine ⟨b + 1,[0,1,3],by omega,by omega,?_⟩
    rw [tbr_succ (fun a b=>(dih 4 a b:Nat)) hbl]
    simp only [hd]
    simp only [leq,leA,evz,fl,gp,tab,simprocAttr]<;>first|trivial|omega
   (try simp only [nhs] at hC3)
   have hd:dih 4 a b=(a % 4 + b % 4) % 4 + (a / 4 + b / 4) % 2 * 4:=by rw [dih,if_neg (by omega)]
   refine qh (qa ?_)
   refine hk_region fun K hK=>runs_eval tab_ok ?_
   simp only [evz,fl,gp,tab,simprocAttr,tm4,td4,← Int.natCast_add,tm_lit,hm]
   refine fin_run ?_ (hK _ ?_)<;>clear hK K
   ·simp only [In64]; omega
   refine qd (qa ?_)
   refine hk_region fun K hK=>runs_eval tab_ok ?_
   simp only [evz,fl,gp,tab,simprocAttr]
   refine fin_run ?_ (hK _ ?_)<;>clear hK K
   ·(first|exact trivial|omega|(simp only [In64] at *; omega)|(simp [In64] at *; omega)|(simp_all; done)|skip)
   refine qa ?_
   refine ⟨b + 1,[0,1,3],by omega,by omega,?_⟩
   rw [tbr_succ (fun a b=>(dih 4 a b:Nat)) hbl]
   simp only [hd]
   simp only [leq,leA,evz,fl,gp,tab,simprocAttr]<;>first|trivial|omega
  (try simp only [nhs] at hC2)
  have hbn:b=8:=by omega
  refine qj (qc (qc (qf (qd (qa ?_)))))
  refine hk_region fun K hK=>runs_eval tab_ok ?_
  simp only [evz,fl,gp,tab,simprocAttr]
  refine fin_run ?_ (hK _ ?_)<;>clear hK K
  ·(first|exact trivial|omega|(simp only [In64] at *; omega)|(simp [In64] at *; omega)|(simp_all; done)|skip)
  refine qa ?_
  refine ⟨a + 1,[0,1,2],by omega,by omega,?_⟩
  rw [hbn,show (a + 1) * 8=a * 8 + 8 by rw [Nat.add_mul,Nat.one_mul]]
  simp only [leq,leA,evz,fl,gp,tab,simprocAttr]<;>first|trivial|omega
 (try simp only [nhs] at hC1)
 have han:a=8:=by omega
 refine qj (qc (qc (qf (qa (qm ?_)))))
 refine hk_region fun K hK=>runs_eval tab_ok ?_
 simp only [evz,fl,gp,tab,simprocAttr]
 refine fin_run ?_ (hK _ ?_)<;>clear hK K
 ·(first|exact trivial|omega|(simp only [In64] at *; omega)|(simp [In64] at *; omega)|(simp_all; done)|skip)
 refine qa (qk ?_)
 simp only [Tryd.results55,enA,evz,fl,gp,tab,simprocAttr]
 all_goals (simp [han,sq8,tbl])
end Go.Proofs.YtjlmpmidchddjaaDoor

namespace Go.Proofs.YtjlmpmidchddjaaDoor
open Go.Pv
def rgp (p:Nat) (v:List Int):Prop:=∀ j,0≤v.getD j 0∧v.getD j 0 < p
theorem updR_rg {p:Nat} {f:Nat→Int} {i j:Nat} {u:List Int} (hf:∀ t,0≤f t∧f t < p) (hu:rgp p u):rgp p (updR f i j u):=fun t=>by
 by_cases ht:t < u.length
 ·rw [updR_get ht]
  split
  ·exact hf t
  exact hu t
 have:=hu t
 simp only [List.getD,List.getElem?_eq_none (show u.length≤t by omega),Option.getD_none] at this
 simpa [List.getD,List.getElem?_eq_none (show (updR f i j u).length≤t by rw [updR_len]; omega)] using this
theorem axR_len (p:Nat) (k:Int) (r b:List Int):(axR p k r b).length=r.length:=updR_len _ _ _ _
theorem axR_rg {p:Nat} (hp:0 < p) {k:Int} {r b:List Int} (h:rgp p r):rgp p (axR p k r b):=updR_rg (fun _=>emod_rng hp _) h
theorem nrR_len (p:Nat) (k:Int) (r:List Int):(nrR p k r).length=r.length:=updR_len _ _ _ _
theorem nrR_rg {p:Nat} (hp:0 < p) {k:Int} {r:List Int} (h:rgp p r):rgp p (nrR p k r):=updR_rg (fun _=>emod_rng hp _) h
theorem clR_len (p:Nat) (out:List (List Int)) (at' : List Int) (r:List Int):∀ i,(clR p out at' r i).length=r.length
 | 0=>rfl
 | i + 1=>by
  rw [clR]; split
  ·exact clR_len p out at' r i
  rw [axR_len]; exact clR_len p out at' r i
theorem clR_rg {p:Nat} (hp:0 < p) {out:List (List Int)} {at' : List Int} {r:List Int} (h:rgp p r):∀ i,rgp p (clR p out at' r i)
 | 0=>h
 | i + 1=>by
  rw [clR]; split
  ·exact clR_rg hp h i
  exact axR_rg hp (clR_rg hp h i)
theorem bkR_len (p j:Nat) (r b:List Int):(bkR p j r b).length=b.length:=by
 unfold bkR; split
 ·rfl
 exact axR_len _ _ _ _
theorem bkR_rg {p:Nat} (hp:0 < p) {j:Nat} {r b:List Int} (h:rgp p b):rgp p (bkR p j r b):=by
 unfold bkR; split
 ·exact h
 exact axR_rg hp h
theorem bkI_len (p j:Nat) (r:List Int) (out:List (List Int)) (i:Nat):(bkI p j r out i).length=out.length:=by simp [bkI]
theorem bkI_get {p j:Nat} {r:List Int} {out:List (List Int)} {i t:Nat} (h:t < out.length):(bkI p j r out i).getD t []=if t < i then bkR p j r (out.getD t []) else out.getD t []:=by
 simp [bkI,List.getD,List.getElem?_map,List.getElem?_range h]
theorem bkI_zero (p j:Nat) (r:List Int) (out:List (List Int)):bkI p j r out 0=out:=by
 refine List.ext_getElem (by simp [bkI]) fun t h1 h2=>?_
 simp [bkI,List.getD,List.getElem?_eq_getElem h2]
theorem bkI_set {p j:Nat} {r:List Int} {out:List (List Int)} {i:Nat} (h:i < out.length):(bkI p j r out i).set i (bkR p j r (out.getD i []))=bkI p j r out (i + 1):=by
 refine List.ext_getElem (by simp [bkI]) fun t h1 h2=>?_
 have ht:t < out.length:=by simpa [bkI] using h2
 rw [List.getElem_set]
 by_cases e:i=t
 ·subst e; simp [bkI]
 rw [if_neg e]
 simp only [bkI,List.getElem_map,List.getElem_range]
 by_cases e2:t < i
 ·rw [if_pos e2,if_pos (by omega)]
 rw [if_neg e2,if_neg (by omega)]
theorem mem_getD {α:Type} {l:List α} {i:Nat} {d:α} (h:i < l.length):l.getD i d∈l:=by simp [List.getD,List.getElem?_eq_getElem h]
structure RI (p W:Nat) (S:List (List Int) × List Int):Prop where
 l1:S.2.length=S.1.length
 l2:∀ v∈S.1,v.length=W
 l3:∀ v∈S.1,rgp p v
 l4:∀ i,i < S.2.length→0≤S.2.getD i 0∧S.2.getD i 0 < W
theorem bkI_mem {p j:Nat} {r:List Int} {out:List (List Int)} {i:Nat} {v:List Int} (h:v∈bkI p j r out i):∃ b∈out,v=b∨v=bkR p j r b:=by
 obtain ⟨t,ht,rfl⟩:=List.mem_map.1 h
 have:=List.mem_range.1 ht
 refine ⟨out.getD t [],mem_getD this,?_⟩
 split
 ·exact .inr rfl
 exact .inl rfl
theorem redS_ri {p W:Nat} (hp:0 < p) {S:List (List Int) × List Int} (h:RI p W S) {r:List Int} (hr:r.length=W) (hg:rgp p r):RI p W (redS p S r):=by
 unfold redS
 split
 ·exact h
 rename_i j hj
 obtain ⟨j1,j2,_⟩:=fst_spec hj
 rw [clR_len] at j1
 refine ⟨by simp [bkI_len,h.l1],fun v hv=>?_,fun v hv=>?_,fun i hi=>?_⟩
 ·rcases List.mem_append.1 hv with hv | hv
  ·obtain ⟨b,b1,rfl | rfl⟩:=bkI_mem hv
   ·exact h.l2 _ b1
   rw [bkR_len]; exact h.l2 _ b1
  rw [List.mem_singleton.1 hv,nrR_len,clR_len,hr]
 ·rcases List.mem_append.1 hv with hv | hv
  ·obtain ⟨b,b1,rfl | rfl⟩:=bkI_mem hv
   ·exact h.l3 _ b1
   exact bkR_rg hp (h.l3 _ b1)
  rw [List.mem_singleton.1 hv]; exact nrR_rg hp (clR_rg hp hg _)
 simp only [List.length_append,List.length_singleton] at hi
 by_cases e:i < S.2.length
 ·have:=h.l4 i e
  simpa [List.getD,List.getElem?_append_left e] using this
 have e2:i=S.2.length:=by omega
 subst e2
 simp [List.getD]
 omega
theorem redR_ri {p W:Nat} (hp:0 < p) {M:List (List Int)} (h1:∀ v∈M,v.length=W) (h2:∀ v∈M,rgp p v):∀ k,k≤M.length→RI p W (redR p M k)
 | 0,_=>⟨rfl,fun v hv=>by simp [redR] at hv,fun v hv=>by simp [redR] at hv,fun i hi=>by simp [redR] at hi⟩
 | k + 1,hk=>redS_ri hp (redR_ri hp h1 h2 k (by omega)) (h1 _ (mem_getD (by omega))) (h2 _ (mem_getD (by omega)))
theorem redS_len (p:Nat) (S:List (List Int) × List Int) (r:List Int):(redS p S r).1.length≤S.1.length + 1:=by
 unfold redS; split
 ·omega
 simp [bkI_len]
theorem redR_len (p:Nat) (M:List (List Int)):∀ k,(redR p M k).1.length≤k
 | 0=>Nat.le_refl _
 | k + 1=>by have:=redS_len p (redR p M k) (M.getD k []); have:=redR_len p M k; rw [redR]; omega
theorem getD_last {α:Type} (l:List α) (x d:α):(l++[x]).getD l.length d=x:=by simp [List.getD]
theorem getD_app {α:Type} {l:List α} (x d:α) {i:Nat} (h:i < l.length):(l++[x]).getD i d=l.getD i d:=by simp [List.getD,List.getElem?_append_left h]
theorem set_last {α:Type} (l:List α) (x y:α):(l++[x]).set l.length y=l++[y]:=by simp
theorem ax_rng {p:Nat} (hp:p≤1000000) {x k b:Int} (h1:0≤x∧x < p) (h2:0≤k∧k < p) (h3:0≤b∧b < p):In64 (k * b)∧In64 (x - k * b):=by
 have:=mulLt hp h2.1 h2.2 h3.1 h3.2
 simp only [In64]; omega
end Go.Proofs.YtjlmpmidchddjaaDoor

namespace Go.Proofs.YtjlmpmidchddjaaDoor
open Go.Pv
theorem leS3 {S s:St} {W q L:Nat} {a:List Int} {M:List (List Int)} (hn:S.n=s.n) (hH:S.H=s.H) (e:s.H = .own (rwo 2 W q) :: .own (ol a) :: tl M) (hL:M.length + 2=L) (hq:q≤M.length) (hsl:∀ p∈S.sl,s.get p.1=p.2∧scA L p.2=true):Le (List.range L) S s:=by
 have e1:s.H.length=L:=by rw [e]; simp [tl_length]; omega
 subst e1
 refine le_same hn hH (fun b hb=>?_) hsl
 rw [e] at hb
 rcases List.mem_cons.1 hb with rfl | hb
 ·exact rwo_sc (by omega)
 rcases List.mem_cons.1 hb with rfl | hb
 ·exact ol_sc _ _
 exact tl_hsc _ _ b hb
set_option maxHeartbeats 4000000 in
set_option maxRecDepth 20000 in
theorem reduce_c {p W:Nat} (hp2:2≤p) (hp:p≤1000000) (hW:0 < W) (hW2:W≤1000) (M:List (List Int)) (hM:M.length≤1000) (h1:∀ v∈M,v.length=W) (h2:∀ v∈M,rgp p v) :
  FnC Tryd.prog 77 [.int .i64 p,.list (ll M)] (.tup [.list (ll (redR p M M.length).1),.list (il (redR p M M.length).2)]):=by
 refine fnc_of tab_ok Tryd.func77 rfl (by kernel_rfl) (by rw [Tryd.ntmps77]; exact Nat.le_add_left 2 _) ?_; rw [Tryd.ntmps77]
 refine qm ?_
 refine hk_region fun K hK=>runs_eval tab_ok ?_
 simp only [evz,fl,gp,tab,simprocAttr]
 refine fin_run trivial (hK _ ?_)<;>clear hK K
 refine qa (qm ?_)
 refine hk_region fun K hK=>runs_eval tab_ok ?_
 simp only [evz,fl,gp,tab,simprocAttr]
 refine fin_run trivial (hK _ ?_)<;>clear hK K
 refine qa (qm ?_)
 refine hk_region fun K hK=>runs_eval tab_ok ?_
 simp only [evz,fl,gp,tab,simprocAttr]
 refine fin_run trivial (hK _ ?_)<;>clear hK K
 refine qa (qm (qm ?_))
 refine hk_own0 6 rfl ?_
 refine hk_own0 7 rfl ?_
 refine hk_region fun K hK=>runs_eval tab_ok ?_
 simp only [evz,fl,gp,tab,simprocAttr,ll_length]
 refine fin_run trivial (hK _ ?_)<;>clear hK K
 refine qa (ql ?_)
 refine hk_loop (ι:=Nat) (fun k=>⟨153,[(0,.p (.int .i64 p)),(6,.sl 0 0 (redR p M k).1.length),(7,.sl 1 0 (redR p M k).1.length),(21,.p (.list (ll M))),(22,.p (.int .i64 M.length)),(23,.p (.int .i64 k))],.own (rwo 2 W (redR p M k).1.length) :: .own (ol (redR p M k).2) :: tl (redR p M k).1⟩) (fun k=>k≤M.length) (fun k=>M.length - k) 0 (Nat.zero_le _) [0,1] (by simp only [leq,leA,evz,fl,gp,tab,simprocAttr]<;>simp [redR,rwo,tl,ol_nil,LeH]) fun k hk=>?_
 have hri:=redR_ri (W:=W) (p:=p) (by omega) h1 h2 k hk
 have hql:=redR_len p M k
 have hsucc:redR p M (k + 1)=redS p (redR p M k) (M.getD k []):=rfl
 generalize hS:redR p M k=S at *
 obtain ⟨out,at'⟩:=S
 obtain ⟨l1,l2,l3,l4⟩:=hri
 simp only at l1 l2 l3 l4 hql hsucc
 obtain ⟨q,hq⟩:∃ q,out.length=q:=⟨_,rfl⟩
 simp only [hq] at l1 ⊢
 refine qm ?_
 refine hk_region fun K hK=>runs_eval tab_ok ?_
 simp only [evz,fl,gp,tab,simprocAttr]
 refine fin_run trivial (hK _ ?_)<;>clear hK K
 refine qa (qm ?_)
 refine hk_cond rfl (fun hC1=>?_) (fun hC1=>?_)
 ·(try simp only [nhs] at hC1)
  have hkl:k < M.length:=by omega
  obtain ⟨r,hr⟩:∃ r,M.getD k []=r:=⟨_,rfl⟩
  have hrl:r.length=W:=by rw [← hr]; exact h1 _ (mem_getD hkl)
  have hrg:rgp p r:=by rw [← hr]; exact h2 _ (mem_getD hkl)
  have hrn:r ≠ []:=by intro e; rw [e] at hrl; simp at hrl; omega
  rw [hr] at hsucc
  refine qh (qa (qm (ql (qm ?_))))
  refine hk_region fun K hK=>runs_eval tab_ok ?_
  simp only [evz,fl,gp,tab,simprocAttr,ll_length,ll_get hkl,hr]
  refine fin_run ?_ (hK _ ?_)<;>clear hK K
  ·omega
  refine qa (qm ?_)
  refine hk_region fun K hK=>runs_eval tab_ok ?_
  simp only [evz,fl,gp,tab,simprocAttr]
  refine fin_stop trivial (runs_callG (clone_c r hrn (by omega)) rfl rfl (by first|rfl|(simp [scG,scA,sc1,opl]; done)|(simp only [scG,List.all_cons,List.all_nil,ol_sc,Bool.and_true]; rfl)) (by simp only [dstOk,Nat.reduceLT]) (by repeat (first|exact trivial|constructor)) (runs_eval tab_ok ?_))
  simp only [Go.Pv.shf,List.range',Blk.ren,opl_ren,ren,ren1,evz,fl,gp,tab,simprocAttr,tl_length,hq]
  refine fin_run trivial (hK _ ?_)<;>clear hK K
  refine qa (qm (qm ?_))
  refine hk_region fun K hK=>runs_eval tab_ok ?_
  simp only [evz,fl,gp,tab,simprocAttr]
  refine fin_run trivial (hK _ ?_)<;>clear hK K
  refine qa (ql ?_)
  refine hk_loop (ι:=Nat) (fun i=>⟨153,[(0,.p (.int .i64 p)),(6,.sl 0 0 q),(7,.sl 1 0 q),(9,.sl (q + 2) 0 W),(21,.p (.list (ll M))),(22,.p (.int .i64 M.length)),(23,.p (.int .i64 k)),(29,.sl 0 0 q),(30,.p (.int .i64 q)),(31,.p (.int .i64 i))],.own (rwo 2 W q) :: .own (ol at') :: tl (out++[clR p out at' r i])⟩) (fun i=>i≤q) (fun i=>q - i) 0 (Nat.zero_le _) (List.range (q + 3)) (leS3 (W:=W) (q:=q) (a:=at') (M:=out++[r]) rfl (by simp [clR,tl]) (by simp [tl]) (by simp [hq]) (by simp [hq]) (by
   simp [St.get,lk,scA,sc1,hrl])) fun i hi=>?_
  obtain ⟨x,hx⟩:∃ x,clR p out at' r i=x:=⟨_,rfl⟩
  have hxl:x.length=W:=by rw [← hx,clR_len,hrl]
  have hxg:rgp p x:=by rw [← hx]; exact clR_rg (by omega) hrg i
  rw [hx]
  refine qm ?_
  refine hk_region fun K hK=>runs_eval tab_ok ?_
  simp only [evz,fl,gp,tab,simprocAttr]
  refine fin_run trivial (hK _ ?_)<;>clear hK K
  refine qa (qm ?_)
  refine hk_cond rfl (fun hC2=>?_) (fun hC2=>?_)
  ·(try simp only [nhs] at hC2)
   have hiq:i < q:=by omega
   obtain ⟨b,hb⟩:∃ b,out.getD i []=b:=⟨_,rfl⟩
   have hbl:b.length=W:=by rw [← hb]; exact l2 _ (mem_getD (by omega))
   have hbg:rgp p b:=by rw [← hb]; exact l3 _ (mem_getD (by omega))
   obtain ⟨c,hc⟩:∃ c:Nat,at'.getD i 0=(c:Int):=⟨(at'.getD i 0).toNat,by have:=l4 i (by omega); omega⟩
   have hcW:c < W:=by have:=l4 i (by omega); omega
   have hgx:hget (tl (out++[x])) q = .own (ol x):=by rw [hget_tl (by simp [hq]),← hq,getD_last]
   have hgb:∀ y,hget (tl (out++[y])) i = .own (ol b):=fun y=>by rw [hget_tl (by simp [hq]; omega),getD_app _ _ (by omega),hb]
   have hsx:clR p out at' r (i + 1)=if x.getD c 0=0 then x else axR p (x.getD c 0) x b:=by
    rw [clR,hx,hc,Int.toNat_natCast,hb]
   have hxc:=hxg c
   refine qh (qa (qm (ql (qm ?_))))
   refine hk_region fun K hK=>runs_eval tab_ok ?_
   simp only [evz,fl,gp,tab,simprocAttr,rwo_len,rwo_get hiq]
   refine fin_run ?_ (hK _ ?_)<;>clear hK K
   ·omega
   refine qa (qm ?_)
   refine hk_region fun K hK=>runs_eval tab_ok ?_
   simp only [evz,fl,gp,tab,simprocAttr,ol_get (show i < at'.length by omega),hc,hget2,hgx,ol_get (show c < x.length by omega)]
   refine fin_run ?_ (hK _ ?_)<;>clear hK K
   ·omega
   refine qa (qm ?_)
   refine hk_region fun K hK=>runs_eval tab_ok ?_
   simp only [evz,fl,gp,tab,simprocAttr]
   refine fin_run trivial (hK _ ?_)<;>clear hK K
   refine qa ?_
   refine hk_cond rfl (fun hC3=>?_) (fun hC3=>?_)
   ·(try simp only [nhs] at hC3)
    have hne:¬ x.getD c 0=0:=by omega
    rw [if_neg hne] at hsx
    refine qm ?_
    refine hk_region fun K hK=>runs_eval tab_ok ?_
    simp only [evz,fl,gp,tab,simprocAttr]
    refine fin_run trivial (hK _ ?_)<;>clear hK K
    refine qa (ql ?_)
    refine hk_loop (ι:=Nat) (fun j=>⟨153,[(0,.p (.int .i64 p)),(6,.sl 0 0 q),(7,.sl 1 0 q),(9,.sl (q + 2) 0 W),(11,.sl (i + 2) 0 W),(12,.p (.int .i64 (x.getD c 0))),(21,.p (.list (ll M))),(22,.p (.int .i64 M.length)),(23,.p (.int .i64 k)),(29,.sl 0 0 q),(30,.p (.int .i64 q)),(31,.p (.int .i64 i)),(46,.p (.int .i64 W)),(47,.p (.int .i64 j))],.own (rwo 2 W q) :: .own (ol at') :: tl (out++[updR (axF p (x.getD c 0) x b) 0 j x])⟩) (fun j=>j≤W) (fun j=>W - j) 0 (Nat.zero_le _) (List.range (q + 3)) (leS3 (W:=W) (q:=q) (a:=at') (M:=out++[x]) rfl (by rw [updR_start]) rfl (by simp [hq]) (by simp [hq]) (by
     simp [St.get,lk,scA,sc1]<;>omega)) fun j hj=>?_
    obtain ⟨y,hy⟩:∃ y,updR (axF p (x.getD c 0) x b) 0 j x=y:=⟨_,rfl⟩
    have hyl:y.length=W:=by rw [← hy,updR_len,hxl]
    rw [hy]
    refine qm ?_
    refine hk_region fun K hK=>runs_eval tab_ok ?_
    simp only [evz,fl,gp,tab,simprocAttr]
    refine fin_run trivial (hK _ ?_)<;>clear hK K
    refine qa (qm ?_)
    refine hk_cond rfl (fun hC4=>?_) (fun hC4=>?_)
    ·(try simp only [nhs] at hC4)
     have hjW:j < W:=by omega
     have hyj:y.getD j 0=x.getD j 0:=by rw [← hy,updR_get (by omega),if_neg (by omega)]
     have hgy:hget (tl (out++[y])) q = .own (ol y):=by rw [hget_tl (by simp [hq]),← hq,getD_last]
     have hsy:∀ w,hset (tl (out++[y])) q (.own (ol w))=tl (out++[w]):=fun w=>by rw [hset_tl,← hq,set_last]
     have hst:y.set j ((x.getD j 0 - x.getD c 0 * b.getD j 0) % (p:Int))=updR (axF p (x.getD c 0) x b) 0 (j + 1) x:=by
      rw [← hy]; exact updR_set (f:=axF p (x.getD c 0) x b) (Nat.zero_le j) (by omega)
     have hrn:=ax_rng hp (hxg j) hxc (hbg j)
     have ht1:=Int.lt_tmod_of_pos (x.getD j 0 - x.getD c 0 * b.getD j 0) (show (0:Int) < p by omega)
     have ht2:=Int.tmod_lt_of_pos (x.getD j 0 - x.getD c 0 * b.getD j 0) (show (0:Int) < p by omega)
     refine qh (qa (qm (ql (qm ?_))))
     refine hk_region fun K hK=>runs_eval tab_ok ?_
     simp only [evz,fl,gp,tab,simprocAttr]
     refine fin_run trivial (hK _ ?_)<;>clear hK K
     refine qa ?_
     refine hk_draw mixed (by kernel_rfl) fun K hK=>runs_eval tab_ok ?_
     simp only [evz,fl,gp,tab,simprocAttr,hget2,hset2,hgy,hgb,ol_get (show j < y.length by omega),ol_get (show j < b.length by omega),hyj,tmod2 (show 0 < p by omega),ol_set,hsy,hst]
     refine fin_run ?_ (hK _ ?_)<;>clear hK K
     ·simp only [In64] at *; omega
     refine qd (qa ?_)
     refine hk_region fun K hK=>runs_eval tab_ok ?_
     simp only [evz,fl,gp,tab,simprocAttr]
     refine fin_run ?_ (hK _ ?_)<;>clear hK K
     ·(first|exact trivial|omega|(simp only [In64] at *; omega)|(simp [In64] at *; omega)|(simp_all; done)|skip)
     refine qa ?_
     refine ⟨j + 1,List.range (q + 3),by omega,by omega,leS3 (W:=W) (q:=q) (a:=at') (M:=out++[updR (axF p (x.getD c 0) x b) 0 (j + 1) x]) rfl rfl rfl (by simp [hq]) (by simp [hq]) (by
      simp [St.get,lk,scA,sc1]<;>omega)⟩
    (try simp only [nhs] at hC4)
    have hjW:j=W:=by omega
    have hye:axR p (x.getD c 0) x b=y:=by rw [← hy,axR,hxl,hjW]
    rw [hye] at hsx
    refine qj (qc (qc (qf (qd (qa ?_)))))
    refine hk_region fun K hK=>runs_eval tab_ok ?_
    simp only [evz,fl,gp,tab,simprocAttr]
    refine fin_run ?_ (hK _ ?_)<;>clear hK K
    ·(first|exact trivial|omega|(simp only [In64] at *; omega)|(simp [In64] at *; omega)|(simp_all; done)|skip)
    refine qa ?_
    refine ⟨i + 1,List.range (q + 3),by omega,by omega,leS3 (W:=W) (q:=q) (a:=at') (M:=out++[y]) rfl (by rw [hsx]) rfl (by simp [hq]) (by simp [hq]) (by
     simp [St.get,lk,scA,sc1]<;>omega)⟩
   (try simp only [nhs] at hC3)
   have hze:x.getD c 0=0:=by omega
   rw [if_pos hze] at hsx
   refine qh (qd (qa ?_))
   refine hk_region fun K hK=>runs_eval tab_ok ?_
   simp only [evz,fl,gp,tab,simprocAttr]
   refine fin_run ?_ (hK _ ?_)<;>clear hK K
   ·(first|exact trivial|omega|(simp only [In64] at *; omega)|(simp [In64] at *; omega)|(simp_all; done)|skip)
   refine qa ?_
   refine ⟨i + 1,List.range (q + 3),by omega,by omega,leS3 (W:=W) (q:=q) (a:=at') (M:=out++[x]) rfl (by rw [hsx]) rfl (by simp [hq]) (by simp [hq]) (by
    simp [St.get,lk,scA,sc1]<;>omega)⟩
  (try simp only [nhs] at hC2)
  have hiq:i=q:=by omega
  have hxq:clR p out at' r out.length=x:=by rw [hq,← hiq]; exact hx
  have hixf:ixf (fun z=>decide (¬ z=0)) x=match fnz x with | some i=>(i:Int) | none=>-1:=rfl
  have hgx:∀ y,hget (tl (out++[y])) q = .own (ol y):=fun y=>by rw [hget_tl (by simp [hq]),← hq,getD_last]
  have htk:List.take W x=x:=List.take_of_length_le (by omega)
  refine qj (qc (qc (qf (qa (qm ?_)))))
  refine hk_region fun K hK=>runs_eval tab_ok ?_
  simp only [evz,fl,gp,tab,simprocAttr]
  refine fin_stop ?_ (runs_call (b:=false) (indexFunc_c x _ [] (fun z=>decide (¬ z=0)) (by omega) (fun z _=>reduce1_c z)) rfl (by simp only [callA,peekList,peekG,peekS,List.map_cons,List.map_nil,List.append_nil,enA,evz,fl,gp,tab,simprocAttr,hget2,hgx,htk,List.drop_zero,ol_drop,ol_take,take_len,ol_allP,il_all,il_length,List.length_replicate,List.take_replicate,Nat.min_self]; rfl) rfl (by simp only [dstOk,Nat.reduceLT]) ?_ (runs_eval tab_ok ?_))
  ·(first|exact trivial|omega|(simp only [In64] at *; omega)|(simp [In64] at *; omega)|(simp_all; done)|skip)
  ·(first|exact trivial|omega|(simp only [In64] at *; omega)|(simp [In64] at *; omega)|(simp_all; done)|skip)
  simp only [evz,fl,gp,tab,simprocAttr]
  refine fin_run trivial (hK _ ?_)<;>clear hK K
  refine qa (qm (qm ?_))
  refine hk_region fun K hK=>runs_eval tab_ok ?_
  simp only [evz,fl,gp,tab,simprocAttr]
  refine fin_run trivial (hK _ ?_)<;>clear hK K
  refine qa ?_
  refine hk_cond rfl (fun hC5=>?_) (fun hC5=>?_)
  ·(try simp only [nhs] at hC5)
   have hf:fnz x=none:=by
    cases hf:fnz x with
    | none=>rfl
    | some j=>rw [hf] at hixf; simp only at hixf; rw [hixf] at hC5; omega
   have hst:redR p M (k + 1)=(out,at'):=by rw [hsucc]; unfold redS; simp only [hxq,hf]
   refine qj (qc (qf (qa ?_)))
   refine hk_region fun K hK=>runs_eval tab_ok ?_
   simp only [evz,fl,gp,tab,simprocAttr]
   refine fin_run ?_ (hK _ ?_)<;>clear hK K
   ·(first|exact trivial|omega|(simp only [In64] at *; omega)|(simp [In64] at *; omega)|(simp_all; done)|skip)
   refine qa ?_
   refine ⟨k + 1,0 :: 1 :: List.range' 2 q,by omega,by omega,?_⟩
   rw [hst]
   simp only [hq]
   refine le_pick (W:=W) (q:=q) (a:=at') (M:=out) rfl rfl hq ⟨by omega,by omega,by omega⟩ rfl rfl (fun i hi=>?_) (by simp [LeS,St.get,lk,Go.Pv.ren,ren1,scA,sc1])
   rw [Nat.add_comm 2 i,hget2,hget_tl (by simp [hq]; omega),getD_app _ _ (by omega)]
  (try simp only [nhs] at hC5)
  obtain ⟨j,hj⟩:∃ j,fnz x=some j:=by
   cases hf:fnz x with
   | none=>rw [hf] at hixf; simp only at hixf; rw [hixf] at hC5; omega
   | some j=>exact ⟨j,rfl⟩
  rw [hj] at hixf
  simp only at hixf
  have hjW:j < W:=by have:=(fst_spec hj).1; omega
  rw [hixf]
  obtain ⟨kk,hkk⟩:∃ kk,ivR p (x.getD j 0)=kk:=⟨_,rfl⟩
  have hkr:0≤kk∧kk < p:=by rw [← hkk]; exact ivR_rng hp2 _
  refine qh (qa (qm ?_))
  refine hk_region fun K hK=>runs_eval tab_ok ?_
  simp only [evz,fl,gp,tab,simprocAttr,hget2,hgx,ol_get (show j < x.length by omega)]
  refine fin_stop ?_ (runs_call (inv_c hp2 hp (hxg j).1 (by have:=(hxg j).2; omega)) rfl rfl rfl (by simp only [dstOk,Nat.reduceLT]) (by repeat (first|exact trivial|constructor)) (runs_eval tab_ok ?_))
  ·omega
  simp only [evz,fl,gp,tab,simprocAttr,hkk,hget2,hgx,ol_get (show j < x.length by omega)]
  refine fin_run ?_ (hK _ ?_)<;>clear hK K
  ·(first|exact trivial|omega|(simp only [In64] at *; omega)|(simp [In64] at *; omega)|(simp_all; done)|skip)
  refine qa (qm (qm ?_))
  refine hk_region fun K hK=>runs_eval tab_ok ?_
  simp only [evz,fl,gp,tab,simprocAttr]
  refine fin_run trivial (hK _ ?_)<;>clear hK K
  refine qa (ql ?_)
  refine hk_loop (ι:=Nat) (fun i=>⟨153,[(0,.p (.int .i64 p)),(6,.sl 0 0 q),(7,.sl 1 0 q),(9,.sl (q + 2) 0 W),(14,.p (.int .i64 j)),(15,.p (.int .i64 kk)),(21,.p (.list (ll M))),(22,.p (.int .i64 M.length)),(23,.p (.int .i64 k)),(83,.p (.int .i64 W)),(84,.p (.int .i64 i))],.own (rwo 2 W q) :: .own (ol at') :: tl (out++[updR (nrF p kk x) 0 i x])⟩) (fun i=>i≤W) (fun i=>W - i) 0 (Nat.zero_le _) (List.range (q + 3)) (leS3 (W:=W) (q:=q) (a:=at') (M:=out++[x]) rfl (by rw [updR_start]) rfl (by simp [hq]) (by simp [hq]) (by
   simp [St.get,lk,scA,sc1]<;>omega)) fun i hi=>?_
  obtain ⟨y,hy⟩:∃ y,updR (nrF p kk x) 0 i x=y:=⟨_,rfl⟩
  have hyl:y.length=W:=by rw [← hy,updR_len,hxl]
  rw [hy]
  refine qm ?_
  refine hk_region fun K hK=>runs_eval tab_ok ?_
  simp only [evz,fl,gp,tab,simprocAttr]
  refine fin_run trivial (hK _ ?_)<;>clear hK K
  refine qa (qm ?_)
  refine hk_cond rfl (fun hC6=>?_) (fun hC6=>?_)
  ·(try simp only [nhs] at hC6)
   have hiW:i < W:=by omega
   have hyi:y.getD i 0=x.getD i 0:=by rw [← hy,updR_get (by omega),if_neg (by omega)]
   have hsy:∀ w,hset (tl (out++[y])) q (.own (ol w))=tl (out++[w]):=fun w=>by rw [hset_tl,← hq,set_last]
   have hst:y.set i (x.getD i 0 * kk % (p:Int))=updR (nrF p kk x) 0 (i + 1) x:=by
    rw [← hy]; exact updR_set (f:=nrF p kk x) (Nat.zero_le i) (by omega)
   have hm:=mulLt hp (hxg i).1 (hxg i).2 hkr.1 hkr.2
   have htm:Int.tmod (x.getD i 0 * kk) p=x.getD i 0 * kk % p:=Int.tmod_eq_emod_of_nonneg hm.1
   refine qh (qa (qm (ql (qm ?_))))
   refine hk_region fun K hK=>runs_eval tab_ok ?_
   simp only [evz,fl,gp,tab,simprocAttr]
   refine fin_run trivial (hK _ ?_)<;>clear hK K
   refine qa ?_
   refine hk_region fun K hK=>runs_eval tab_ok ?_
   simp only [evz,fl,gp,tab,simprocAttr,hget2,hset2,hgx,ol_get (show i < y.length by omega),hyi,htm,ol_set,hsy,hst]
   refine fin_run ?_ (hK _ ?_)<;>clear hK K
   ·simp only [In64] at *; omega
   refine qd (qa ?_)
   refine hk_region fun K hK=>runs_eval tab_ok ?_
   simp only [evz,fl,gp,tab,simprocAttr]
   refine fin_run ?_ (hK _ ?_)<;>clear hK K
   ·(first|exact trivial|omega|(simp only [In64] at *; omega)|(simp [In64] at *; omega)|(simp_all; done)|skip)
   refine qa ?_
   refine ⟨i + 1,List.range (q + 3),by omega,by omega,leS3 (W:=W) (q:=q) (a:=at') (M:=out++[updR (nrF p kk x) 0 (i + 1) x]) rfl rfl rfl (by simp [hq]) (by simp [hq]) (by
    simp [St.get,lk,scA,sc1]<;>omega)⟩
  (try simp only [nhs] at hC6)
  have hiW:i=W:=by omega
  have hye:nrR p kk x=y:=by rw [← hy,nrR,hxl,hiW]
  have hyg:rgp p y:=by rw [← hye]; exact nrR_rg (by omega) hxg
  have hsuc2:redR p M (k + 1)=(bkI p j y out q++[y],at'++[(j:Int)]):=by
   rw [hsucc]; unfold redS; simp only [hq] at hxq ⊢; simp only [hxq,hj,hkk,hye]
  refine qj (qc (qc (qf (qa (qm (qm ?_))))))
  refine hk_region fun K hK=>runs_eval tab_ok ?_
  simp only [evz,fl,gp,tab,simprocAttr]
  refine fin_run trivial (hK _ ?_)<;>clear hK K
  refine qa (ql ?_)
  refine hk_loop (ι:=Nat) (fun i=>⟨153,[(0,.p (.int .i64 p)),(6,.sl 0 0 q),(7,.sl 1 0 q),(9,.sl (q + 2) 0 W),(14,.p (.int .i64 j)),(21,.p (.list (ll M))),(22,.p (.int .i64 M.length)),(23,.p (.int .i64 k)),(99,.sl 0 0 q),(100,.p (.int .i64 q)),(101,.p (.int .i64 i))],.own (rwo 2 W q) :: .own (ol at') :: tl (bkI p j y out i++[y])⟩) (fun i=>i≤q) (fun i=>q - i) 0 (Nat.zero_le _) (List.range (q + 3)) (leS3 (W:=W) (q:=q) (a:=at') (M:=out++[y]) rfl (by rw [bkI_zero]) rfl (by simp [hq]) (by simp [hq]) (by
   simp [St.get,lk,scA,sc1]<;>omega)) fun i hi=>?_
  have hbl:=bkI_len p j y out i
  refine qm ?_
  refine hk_region fun K hK=>runs_eval tab_ok ?_
  simp only [evz,fl,gp,tab,simprocAttr]
  refine fin_run trivial (hK _ ?_)<;>clear hK K
  refine qa (qm ?_)
  refine hk_cond rfl (fun hC7=>?_) (fun hC7=>?_)
  ·(try simp only [nhs] at hC7)
   have hiq:i < q:=by omega
   obtain ⟨b,hb⟩:∃ b,out.getD i []=b:=⟨_,rfl⟩
   have hbl2:b.length=W:=by rw [← hb]; exact l2 _ (mem_getD (by omega))
   have hbg:rgp p b:=by rw [← hb]; exact l3 _ (mem_getD (by omega))
   have hbi:(bkI p j y out i).getD i []=b:=by rw [bkI_get (by omega),if_neg (by omega),hb]
   have hgb:hget (tl (bkI p j y out i++[y])) i = .own (ol b):=by rw [hget_tl (by simp [hbl]; omega),getD_app _ _ (by omega),hbi]
   have hsn:=bkI_set (p:=p) (j:=j) (r:=y) (show i < out.length by omega)
   rw [hb] at hsn
   have hbj:=hbg j
   refine qh (qa (qm (ql (qm ?_))))
   refine hk_region fun K hK=>runs_eval tab_ok ?_
   simp only [evz,fl,gp,tab,simprocAttr,rwo_len,rwo_get hiq]
   refine fin_run ?_ (hK _ ?_)<;>clear hK K
   ·omega
   refine qa (qm ?_)
   refine hk_region fun K hK=>runs_eval tab_ok ?_
   simp only [evz,fl,gp,tab,simprocAttr,hget2,hgb,ol_get (show j < b.length by omega)]
   refine fin_run ?_ (hK _ ?_)<;>clear hK K
   ·omega
   refine qa (qm ?_)
   refine hk_region fun K hK=>runs_eval tab_ok ?_
   simp only [evz,fl,gp,tab,simprocAttr]
   refine fin_run trivial (hK _ ?_)<;>clear hK K
   refine qa ?_
   refine hk_cond rfl (fun hC8=>?_) (fun hC8=>?_)
   ·(try simp only [nhs] at hC8)
    have hne:¬ b.getD j 0=0:=by omega
    have hbk:bkR p j y b=axR p (b.getD j 0) b y:=by unfold bkR; rw [if_neg hne]
    have hset0:(bkI p j y out i).set i b=bkI p j y out i:=by
     refine List.ext_getElem (by simp) fun t g1 g2=>?_
     rw [List.getElem_set]
     split
     ·rename_i e
      subst e
      rw [List.getD_eq_getElem?_getD,List.getElem?_eq_getElem g2] at hbi
      exact hbi.symm
     rfl
    refine qm ?_
    refine hk_region fun K hK=>runs_eval tab_ok ?_
    simp only [evz,fl,gp,tab,simprocAttr]
    refine fin_run trivial (hK _ ?_)<;>clear hK K
    refine qa (ql ?_)
    refine hk_loop (ι:=Nat) (fun m=>⟨153,[(0,.p (.int .i64 p)),(6,.sl 0 0 q),(7,.sl 1 0 q),(9,.sl (q + 2) 0 W),(14,.p (.int .i64 j)),(17,.p (.int .i64 i)),(18,.sl (i + 2) 0 W),(19,.p (.int .i64 (b.getD j 0))),(21,.p (.list (ll M))),(22,.p (.int .i64 M.length)),(23,.p (.int .i64 k)),(99,.sl 0 0 q),(100,.p (.int .i64 q)),(101,.p (.int .i64 i)),(113,.p (.int .i64 W)),(114,.p (.int .i64 m))],.own (rwo 2 W q) :: .own (ol at') :: tl ((bkI p j y out i).set i (updR (axF p (b.getD j 0) b y) 0 m b)++[y])⟩) (fun m=>m≤W) (fun m=>W - m) 0 (Nat.zero_le _) (List.range (q + 3)) (leS3 (W:=W) (q:=q) (a:=at') (M:=bkI p j y out i++[y]) rfl (by rw [updR_start,hset0]) rfl (by simp [hq,hbl]) (by simp [hq,hbl]) (by
     simp [St.get,lk,scA,sc1]<;>omega)) fun m hm=>?_
    obtain ⟨z,hz⟩:∃ z,updR (axF p (b.getD j 0) b y) 0 m b=z:=⟨_,rfl⟩
    have hzl:z.length=W:=by rw [← hz,updR_len,hbl2]
    rw [hz]
    refine qm ?_
    refine hk_region fun K hK=>runs_eval tab_ok ?_
    simp only [evz,fl,gp,tab,simprocAttr]
    refine fin_run trivial (hK _ ?_)<;>clear hK K
    refine qa (qm ?_)
    refine hk_cond rfl (fun hC9=>?_) (fun hC9=>?_)
    ·(try simp only [nhs] at hC9)
     have hmW:m < W:=by omega
     have hzm:z.getD m 0=b.getD m 0:=by rw [← hz,updR_get (by omega),if_neg (by omega)]
     have hgz:hget (tl ((bkI p j y out i).set i z++[y])) i = .own (ol z):=by rw [hget_tl (by simp [hbl]; omega),getD_app _ _ (by simp [hbl]; omega)]; simp [List.getD,hbl,hq,hiq]
     have hgy:hget (tl ((bkI p j y out i).set i z++[y])) q = .own (ol y):=by
      rw [hget_tl (by simp [hbl,hq]),show q=((bkI p j y out i).set i z).length by simp [hbl,hq],getD_last]
     have hsz:∀ w,hset (tl ((bkI p j y out i).set i z++[y])) i (.own (ol w))=tl ((bkI p j y out i).set i w++[y]):=fun w=>by rw [hset_tl,List.set_append_left _ _ (by simp [hbl]; omega),List.set_set]
     have hst:z.set m ((b.getD m 0 - b.getD j 0 * y.getD m 0) % (p:Int))=updR (axF p (b.getD j 0) b y) 0 (m + 1) b:=by
      rw [← hz]; exact updR_set (f:=axF p (b.getD j 0) b y) (Nat.zero_le m) (by omega)
     have hrn:=ax_rng hp (hbg m) hbj (hyg m)
     have ht1:=Int.lt_tmod_of_pos (b.getD m 0 - b.getD j 0 * y.getD m 0) (show (0:Int) < p by omega)
     have ht2:=Int.tmod_lt_of_pos (b.getD m 0 - b.getD j 0 * y.getD m 0) (show (0:Int) < p by omega)
     refine qh (qa (qm (ql (qm ?_))))
     refine hk_region fun K hK=>runs_eval tab_ok ?_
     simp only [evz,fl,gp,tab,simprocAttr]
     refine fin_run trivial (hK _ ?_)<;>clear hK K
     refine qa ?_
     refine hk_draw mixed (by kernel_rfl) fun K hK=>runs_eval tab_ok ?_
     simp only [evz,fl,gp,tab,simprocAttr,rwo_len,rwo_get hiq,hget2,hset2,hgz,hgy,ol_get (show m < z.length by omega),ol_get (show m < y.length by omega),hzm,tmod2 (show 0 < p by omega),ol_set,hsz,hst]
     refine fin_run ?_ (hK _ ?_)<;>clear hK K
     ·simp only [In64] at *; omega
     refine qd (qa ?_)
     refine hk_region fun K hK=>runs_eval tab_ok ?_
     simp only [evz,fl,gp,tab,simprocAttr]
     refine fin_run ?_ (hK _ ?_)<;>clear hK K
     ·(first|exact trivial|omega|(simp only [In64] at *; omega)|(simp [In64] at *; omega)|(simp_all; done)|skip)
     refine qa ?_
     refine ⟨m + 1,List.range (q + 3),by omega,by omega,leS3 (W:=W) (q:=q) (a:=at') (M:=(bkI p j y out i).set i (updR (axF p (b.getD j 0) b y) 0 (m + 1) b)++[y]) rfl rfl rfl (by simp [hq,hbl]) (by simp [hq,hbl]) (by
      simp [St.get,lk,scA,sc1]<;>omega)⟩
    (try simp only [nhs] at hC9)
    have hmW:m=W:=by omega
    have hze:bkR p j y b=z:=by rw [hbk,← hz,axR,hbl2,hmW]
    rw [hze] at hsn
    refine qj (qc (qc (qf (qd (qa ?_)))))
    refine hk_region fun K hK=>runs_eval tab_ok ?_
    simp only [evz,fl,gp,tab,simprocAttr]
    refine fin_run ?_ (hK _ ?_)<;>clear hK K
    ·(first|exact trivial|omega|(simp only [In64] at *; omega)|(simp [In64] at *; omega)|(simp_all; done)|skip)
    refine qa ?_
    refine ⟨i + 1,List.range (q + 3),by omega,by omega,leS3 (W:=W) (q:=q) (a:=at') (M:=(bkI p j y out i).set i z++[y]) rfl (by rw [hsn]) rfl (by simp [hq,hbl]) (by simp [hq,hbl]) (by
     simp [St.get,lk,scA,sc1]<;>omega)⟩
   (try simp only [nhs] at hC8)
   have hze:b.getD j 0=0:=by omega
   have hbk:bkR p j y b=b:=by unfold bkR; rw [if_pos hze]
   have hset0:(bkI p j y out i).set i b=bkI p j y out i:=by
    refine List.ext_getElem (by simp) fun t g1 g2=>?_
    rw [List.getElem_set]
    split
    ·rename_i e
     subst e
     rw [List.getD_eq_getElem?_getD,List.getElem?_eq_getElem g2] at hbi
     exact hbi.symm
    rfl
   rw [hbk,hset0] at hsn
   refine qh (qd (qa ?_))
   refine hk_region fun K hK=>runs_eval tab_ok ?_
   simp only [evz,fl,gp,tab,simprocAttr]
   refine fin_run ?_ (hK _ ?_)<;>clear hK K
   ·(first|exact trivial|omega|(simp only [In64] at *; omega)|(simp [In64] at *; omega)|(simp_all; done)|skip)
   refine qa ?_
   refine ⟨i + 1,List.range (q + 3),by omega,by omega,leS3 (W:=W) (q:=q) (a:=at') (M:=bkI p j y out i++[y]) rfl (by rw [hsn]) rfl (by simp [hq,hbl]) (by simp [hq,hbl]) (by
    simp [St.get,lk,scA,sc1]<;>omega)⟩
  (try simp only [nhs] at hC7)
  have hiq:i=q:=by omega
  rw [hiq]
  obtain ⟨X,hX⟩:∃ X,tl (bkI p j y out q++[y])=X:=⟨_,rfl⟩
  have hXl:X.length=q + 1:=by rw [← hX,tl_length]; simp [bkI_len,hq]
  have hXg:∀ b,hget (X++[b]) (q + 1)=b:=fun b=>by rw [← hXl]; exact hget_snoc X b
  have hat:List.take q at' = at':=List.take_of_length_le (by omega)
  have hrw:List.take q (rwo 2 W q)=rwo 2 W q:=rwo_take rfl
  rw [hX]
  refine qj (qc (qc (qf (qa ?_))))
  refine hk_region fun K hK=>runs_eval tab_ok ?_
  simp only [evz,fl,gp,tab,simprocAttr,hXl,hget2,hXg,List.length_append,hat,hrw,rwo_snoc,ol_snoc,rwo_len,l1]
  refine fin_stop ?_ (runs_op (build1_does tab_ok rfl rfl rfl rfl rfl rfl) rfl (by simp only [dstOk,Nat.reduceLT]) (runs_eval tab_ok ?_))
  ·(first|exact trivial|omega|(simp only [In64] at *; omega)|(simp [In64] at *; omega)|(simp_all; done)|skip)
  simp only [evz,fl,gp,tab,simprocAttr,hXl,List.length_append,hXl,hget2,hXg,List.length_append,hat,hrw,rwo_snoc,ol_snoc,rwo_len,l1]
  refine fin_run ?_ (hK _ ?_)<;>clear hK K
  ·exact ⟨⟨rwo_ok _ _ _,by omega,by omega,by omega⟩,by omega,by omega,by omega⟩
  refine qd (qa ?_)
  refine hk_region fun K hK=>runs_eval tab_ok ?_
  simp only [evz,fl,gp,tab,simprocAttr]
  refine fin_run ?_ (hK _ ?_)<;>clear hK K
  ·(first|exact trivial|omega|(simp only [In64] at *; omega)|(simp [In64] at *; omega)|(simp_all; done)|skip)
  refine qa ?_
  refine ⟨k + 1,(q + 4) :: (q + 5) :: List.range' 2 (q + 1),by omega,by omega,?_⟩
  rw [hsuc2]
  have e1:(bkI p j y out q++[y]).length=q + 1:=by simp [bkI_len,hq]
  simp only [e1]
  refine le_pick (W:=W) (q:=q + 1) (a:=at'++[(j:Int)]) (M:=bkI p j y out q++[y]) rfl rfl e1 ⟨by omega,by omega,by omega⟩ ?_ ?_ (fun i hi=>?_) (by simp [LeS,St.get,lk,Go.Pv.ren,ren1,scA,sc1])
  ·exact hgA1 hXl _ _ _
  ·exact hgA2 hXl _ _ _
  rw [Nat.add_comm 2 i]
  show hget (X++_++_++_) i=_
  rw [hgA0 (by omega),← hX,hget_tl (by omega)]
 (try simp only [nhs] at hC1)
 have hkM:k=M.length:=by omega
 refine qj (qc (qc (qf (qa (qm ?_)))))
 have hMk:redR p M M.length=(out,at'):=by rw [← hkM]; exact hS
 refine hk_rowsX 6 0 2 q hq l2 rfl (.inl (by omega)) rfl (fun i hi=>?_) fun H' a1 a2=>?_
 ·rw [Nat.add_comm 2 i,hget2,hget_tl (by omega)]
 refine hk_seal 7 1 (w:=at') ?_ ?_ ?_
 ·simp [St.get,lk,l1]
 ·show hget H' 1=_
  rw [a2 1 (by omega) (by omega)]; rfl
 rw [hMk]
 refine hk_region fun K hK=>runs_eval tab_ok ?_
 simp only [evz,fl,gp,tab,simprocAttr]
 refine fin_run trivial (hK _ ?_)<;>clear hK K
 refine qa (qk ?_)
 simp only [Tryd.results77,enA,evz,fl,gp,tab,simprocAttr]
 all_goals ((first|exact rfl|exact ⟨rfl,rfl⟩|exact ⟨rfl,rfl,rfl⟩|exact ⟨trivial,rfl⟩|exact ⟨Nat.le_refl _,rfl⟩|trivial|(simp; done)))
end Go.Proofs.YtjlmpmidchddjaaDoor

namespace Go.Pv
open Go.RowKit
section
variable {P:Program} {T:TypeId→Option TI} {s:St}
section
variable {C:Ctx} {m:Map} {tmps:Array Value} {w:World}
end
end
end Go.Pv

namespace Go.Pv
open Go.RowKit
section
variable {P:Program} {T:TypeId→Option TI} {s:St}
theorem copy_does (hT:∀ t ti,T t=some ti→tiOf P t=some ti) {o:Oper} {t t2:TypeId} {x y:Operand} (ho:o.op = .call { callee:=.builtin .copy,args:=#[x,y],argTypes:=#[t,t2] }) {ti te:TI} (ht:T t=some ti) {e:TypeId} (hk:ti.kind = .slice e) (hte:T e=some te) (hsz:te.size=1)
  {k L:Nat} {c:List AV} {v:List Int} (hx:s.ev x = .sl k 0 L) (hy:s.ev y = .p (.list (il v))) (hg:hget s.H k = .own c) (hle:L≤c.length) (hv0:v.length≤L) (hv1:0 < v.length):DoesW P o s (.p (.int .i64 v.length)) (hset s.H k (.own (setC c 0 (ol v)))):=by
 intro C m a w K Q R hK
 obtain ⟨dst,op,type,pos,after,guard⟩:=o
 simp only at ho
 subst ho
 have hu:=ti_slice (hT _ _ ht) hk
 obtain ⟨i,d,z',h1,h2,h3,h4,h5,h6,h7,h8⟩:=tiOf_parts (hT _ _ hte)
 have hv:=R.ev x
 rw [hx] at hv
 obtain ⟨news,⟨⟨ax,cx,hsl⟩,hfc⟩,hnl,hnv⟩:=elems_val (P:=P) R (x:=y) (p:=(il v).all PV.one=true) (xs:=(il v).map .p) (by rw [hy]; rfl) (il_all v)
 have hnl' : news.length=v.length:=by rw [hnl]; simp [il]
 have hnint:∀ j,j < v.length→news.getD j undef = .int .i64 (v.getD j 0):=fun j hj=>by
  have h:=hnv j (by simp [il]; exact hj)
  have e:((il v).map AV.p)[j]'(by simp [il]; exact hj) = .p (.int .i64 (v.getD j 0)):=by
   simp [il,List.getD,List.getElem?_eq_getElem hj]
  rw [e] at h
  exact h.p_inv.int_inv
 refine opR_of_wp (by rfl) ?_
 unfold Oper.wp
 generalize hvx:a.eval x=vx at hv
 cases hv with
 | sl _ _ _ _ hkl hs =>
  rcases hs with ⟨hn,_⟩ | ⟨l,cap,hm,rfl,hc1,hc2⟩
  ·omega
  rcases R.blk k c (hget_mut hg) with ⟨_,hn⟩ | ⟨l',cur,e',hm2,hB,hh,hs1,hs3,hs2,hcells⟩
  ·rw [hm] at hn; cases hn
  rw [hm] at hm2; cases hm2
  have hst:=run_storeCells_at P l.g (l.o + 0) e' news 0 cur w hh (by simp; omega) (fun u hu=>by
   obtain ⟨j,hj⟩:=List.getElem?_of_mem hu
   have hjl:j < v.length:=by have:=(List.getElem?_eq_some_iff.1 hj).1; omega
   have:=hnint j hjl
   rw [List.getD_eq_getElem?_getD,hj,Option.getD_some] at this
   rw [this]; rfl)
  simp only [Nat.add_zero] at hst
  have hf:=hfc w rfl
  have hmin:v.length.min L=v.length:=Nat.min_eq_left (by omega)
  rw [hnl'] at hf
  have hlo:(Builtin.lenOf (a.eval y)).run P w = .ok news.length w:=by rw [hsl]; rfl
  have hss:(sizeOf e).run P w = .ok 1 w:=by simp [sizeOf,typeInfo,h1,h4,hsz]
  have hc:(Builtin.copy_ #[t,t2] type #[.slice (some ⟨l.g,l.o,none⟩) L cap,a.eval y]).run P w = .ok (.int .i64 v.length) (w.setRow l.g (cur.toList.take l.o++news++cur.toList.drop (l.o + news.length)).toArray):=by
   simp [Builtin.copy_,run_underlying hu,hlo,hss,hnl',hmin,hf,hst,goInt]
  have hrun:(execOp a.eval { dst:=dst,op:=.call { callee:=.builtin .copy,args:=#[x,y],argTypes:=#[t,t2] },type:=type,pos:=pos,after:=after,guard:=guard }).run P w = .ok (.value (.int .i64 v.length)) (w.setRow l.g (cur.toList.take l.o++news++cur.toList.drop (l.o + news.length)).toArray):=by
   simp only [BigFrame.execOp_builtin,BigFrame.builtin_copy,List.map_toArray,List.map_cons,List.map_nil,hvx,Nat.add_zero,Sem.run_bind,hc,Result.andThen_ok,Sem.run_pure]
  rw [hrun]
  have g3:0 + (ol v).length≤c.length:=by rw [ol_length]; omega
  refine hK _ m _ ?_ (.p _ _ (.int _ _))
  refine R.setBlk (hget_mut hg) hm ?_ ?_ (setRow_heap w l.g cur _ e' _ hh) ?_ ?_ ?_
  ·exact ⟨rfl,rfl,rfl,by simp [World.setRow],fun b hb=>setRow_other w l.g b _ (fun e=>hb (by rw [e]; exact hB)),Nat.le_refl _⟩
  ·exact fun b hb=>setRow_other w l.g b _ hb
  ·simp only [List.size_toArray,List.length_append,List.length_take,List.length_drop,Array.length_toList]
   omega
  ·rw [setC_length _ _ _ g3]; exact hs2
  refine setC_val g3 (fun j hj hn=>?_) fun j hj=>?_
  ·have:=@stored_getD cur news l.o (l.o + j) (by omega)
   rw [ol_length] at hn
   rw [this,if_neg (by omega)]
   exact hcells j hj
  have:=@stored_getD cur news l.o (l.o + (0 + j)) (by omega)
  rw [ol_length] at hj
  rw [this,if_pos (by omega),show l.o + (0 + j) - l.o=j by omega]
  have h:=hnv j (by simp [il]; exact hj)
  have e:(ol v)[j]'(by rw [ol_length]; exact hj)=((il v).map AV.p)[j]'(by simp [il]; exact hj):=rfl
  rw [e]
  rw [hnint j hj]
  have e2:((il v).map AV.p)[j]'(by simp [il]; exact hj) = .p (.int .i64 (v.getD j 0)):=by
   simp [il,List.getD,List.getElem?_eq_getElem hj]
  rw [e2]
  exact .p _ _ (.int _ _)
end
end Go.Pv

namespace Go.Proofs.YtjlmpmidchddjaaDoor
open Go.Pv
theorem ll_takeL (ls:List (List Int)):(ll ls).take ls.length=ll ls:=List.take_of_length_le (by rw [ll_length]; exact Nat.le_refl _)
theorem ll_takeS (ls:List (List Int)) (x:List Int):(ll (ls++[x])).take (ls.length + 1)=ll (ls++[x]):=List.take_of_length_le (by rw [ll_length]; simp)
end Go.Proofs.YtjlmpmidchddjaaDoor

namespace Go.Proofs.YtjlmpmidchddjaaDoor
open Go.Pv
theorem setC_row {n:Nat} {r:List Int} (h:r.length=n) (h0:0 < n):setC (ol (List.replicate (n + n) 0)) 0 (ol r)=ol (r++List.replicate n 0):=by
 have e:(ol (List.replicate (n + n) 0)).drop n=ol (List.replicate n 0):=by rw [ol_drop,List.drop_replicate,Nat.add_sub_cancel]
 unfold setC
 split
 ·rename_i x hx
  have h1:r.length=1:=by rw [← ol_length r,hx]; rfl
  have hn:n=1:=by omega
  subst hn
  match r,h1 with
  | [y],_ =>
   simp only [ol,il,List.map_cons,List.map_nil,List.cons.injEq,and_true] at hx
   subst hx
   rfl
 rw [List.take_zero,List.nil_append,Nat.zero_add,ol_length,h,e,ol_append]
theorem ext_set {n:Nat} {r:List Int} {i:Nat} (h:r.length=n):(r++List.replicate n 0).set (n + i) 1=r++(List.replicate n (0:Int)).set i 1:=by
 rw [List.set_append_right _ _ (by omega),h,Nat.add_sub_cancel_left]
theorem extR_len {n:Nat} {m:List (List Int)} (hm:∀ v∈m,v.length=n) {i:Nat} (hi:i < m.length):(extR n m i).length=n + n:=by
 have:=hm _ (mem_getD (d:=[]) hi)
 simp only [extR,List.length_append,List.length_set,List.length_replicate,this]
theorem extR_rg {p n:Nat} (hp:2≤p) {m:List (List Int)} (hm:∀ v∈m,v.length=n) (hg:∀ v∈m,rgp p v) {i:Nat} (hi:i < m.length):rgp p (extR n m i):=fun j=>by
 have hl:=hm _ (mem_getD (d:=[]) hi)
 have h1:=hg _ (mem_getD (d:=[]) hi)
 unfold extR
 by_cases hj:j < n
 ·rw [List.getD_eq_getElem?_getD,List.getElem?_append_left (by omega),← List.getD_eq_getElem?_getD]; exact h1 j
 rw [List.getD_eq_getElem?_getD,List.getElem?_append_right (by omega),List.getElem?_set]
 split
 ·split
  ·simp only [Option.getD_some]; omega
  simp only [Option.getD_none]; omega
 rw [List.getElem?_replicate]
 split
 ·simp only [Option.getD_some]; omega
 simp only [Option.getD_none]; omega
theorem exts_len (n:Nat) (m:List (List Int)) (i:Nat):(exts n m i).length=i:=by simp [exts]
theorem exts_succ (n:Nat) (m:List (List Int)) (i:Nat):exts n m (i + 1)=exts n m i++[extR n m i]:=by simp [exts,List.range_succ]
theorem exts_row {n:Nat} {m:List (List Int)} (hm:∀ v∈m,v.length=n) {i:Nat} (hi:i≤m.length):∀ v∈exts n m i,v.length=n + n:=fun v hv=>by
 obtain ⟨t,ht,rfl⟩:=List.mem_map.1 hv
 exact extR_len hm (by have:=List.mem_range.1 ht; omega)
theorem exts_rg {p n:Nat} (hp:2≤p) {m:List (List Int)} (hm:∀ v∈m,v.length=n) (hg:∀ v∈m,rgp p v) {i:Nat} (hi:i≤m.length):∀ v∈exts n m i,rgp p v:=fun v hv=>by
 obtain ⟨t,ht,rfl⟩:=List.mem_map.1 hv
 exact extR_rg hp hm hg (by have:=List.mem_range.1 ht; omega)
theorem kerI_len (n:Nat) (S:List (List Int) × List Int):∀ i,(kerI n S i).length≤i
 | 0=>Nat.le_refl _
 | i + 1=>by
  have:=kerI_len n S i
  rw [kerI]; split
  ·simp; omega
  omega
set_option maxHeartbeats 4000000 in
set_option maxRecDepth 20000 in
theorem kernel_c {p n:Nat} (hp2:2≤p) (hp:p≤1000000) (hn:0 < n) (hn2:n≤100) (m:List (List Int)) (hm:m.length=n) (h1:∀ v∈m,v.length=n) (h2:∀ v∈m,rgp p v) :
  FnC Tryd.prog 79 [.int .i64 p,.list (ll m)] (.list (ll (kerR p m))):=by
 have hmn:(m.length:Int)=(n:Int):=by omega
 have h2n:(2:Int) * (n:Int)=((n + n:Nat):Int):=by omega
 refine fnc_of tab_ok Tryd.func79 rfl (by kernel_rfl) (by rw [Tryd.ntmps79]; exact Nat.le_add_left 2 _) ?_; rw [Tryd.ntmps79]
 refine qm ?_
 refine hk_region fun K hK=>runs_eval tab_ok ?_
 simp only [evz,fl,gp,tab,simprocAttr]
 refine fin_run trivial (hK _ ?_)<;>clear hK K
 refine qa (qm ?_)
 refine hk_region fun K hK=>runs_eval tab_ok ?_
 simp only [evz,fl,gp,tab,simprocAttr,ll_length,hmn]
 refine fin_run trivial (hK _ ?_)<;>clear hK K
 refine qa (qm ?_)
 refine hk_region fun K hK=>runs_eval tab_ok ?_
 simp only [evz,fl,gp,tab,simprocAttr]
 refine fin_run trivial (hK _ ?_)<;>clear hK K
 refine qa (qm (qm ?_))
 refine hk_own0 6 rfl ?_
 refine hk_region fun K hK=>runs_eval tab_ok ?_
 simp only [evz,fl,gp,tab,simprocAttr,ll_length,hmn]
 refine fin_run trivial (hK _ ?_)<;>clear hK K
 refine qa (ql ?_)
 refine hk_loop (ι:=Nat) (fun k=>⟨67,[(0,.p (.int .i64 p)),(5,.p (.int .i64 n)),(6,.sl 0 0 k),(17,.p (.list (ll m))),(18,.p (.int .i64 n)),(19,.p (.int .i64 k))],.own (rwo 1 (n + n) k) :: tl (exts n m k)⟩) (fun k=>k≤n) (fun k=>n - k) 0 (Nat.zero_le _) [0] (by simp only [leq,leA,evz,fl,gp,tab,simprocAttr]<;>simp [exts,rwo,tl,LeH]) fun k hk=>?_
 refine qm ?_
 refine hk_region fun K hK=>runs_eval tab_ok ?_
 simp only [evz,fl,gp,tab,simprocAttr]
 refine fin_run trivial (hK _ ?_)<;>clear hK K
 refine qa (qm ?_)
 refine hk_cond rfl (fun hC1=>?_) (fun hC1=>?_)
 ·(try simp only [nhs] at hC1)
  have hkn:k < m.length:=by omega
  obtain ⟨r,hr⟩:∃ r,m.getD k []=r:=⟨_,rfl⟩
  have hrl:r.length=n:=by rw [← hr]; exact h1 _ (mem_getD hkn)
  have hgX:∀ y,hget (tl (exts n m k)++[y]) k=y:=fun y=>by
   have:=hget_snoc (tl (exts n m k)) y
   rwa [tl_length,exts_len] at this
  have hsX:∀ y z,hset (tl (exts n m k)++[y]) k z=tl (exts n m k)++[z]:=fun y z=>by
   rw [hset_eq,List.set_append_right _ _ (by rw [tl_length,exts_len]; exact Nat.le_refl _),tl_length,exts_len,Nat.sub_self]; rfl
  have hex:(r++List.replicate n 0).set (n + k) 1=extR n m k:=by rw [ext_set hrl,extR,hr]
  refine qh (qa (qm (ql (qm ?_))))
  refine hk_region fun K hK=>runs_eval tab_ok ?_
  simp only [evz,fl,gp,tab,simprocAttr,ll_length,ll_get hkn,hr]
  refine fin_run ?_ (hK _ ?_)<;>clear hK K
  ·omega
  refine qa (qm ?_)
  refine hk_region fun K hK=>runs_eval tab_ok ?_
  simp only [evz,fl,gp,tab,simprocAttr,h2n,tl_length,exts_len,ol_replicate]
  refine fin_run ?_ (hK _ ?_)<;>clear hK K
  ·simp only [In64]; omega
  refine qa (qm ?_)
  refine hk_region fun K hK=>runs_eval tab_ok ?_
  simp only [evz,fl,gp,tab,simprocAttr]
  refine fin_stop ?_ (runs_op (copy_does (k:=k + 1) (L:=n + n) (v:=r) (c:=ol (List.replicate (n + n) 0)) tab_ok rfl rfl rfl rfl rfl rfl rfl (hgX _) (by rw [ol_length,List.length_replicate]; exact Nat.le_refl _) (by omega) (by omega)) rfl (by simp only [dstOk,Nat.reduceLT]) (runs_eval tab_ok ?_))
  ·(first|exact trivial|omega|(simp only [In64] at *; omega)|(simp [In64] at *; omega)|(simp_all; done)|skip)
  simp only [evz,fl,gp,tab,simprocAttr]
  refine fin_run ?_ (hK _ ?_)<;>clear hK K
  ·(first|exact trivial|omega|(simp only [In64] at *; omega)|(simp [In64] at *; omega)|(simp_all; done)|skip)
  refine qa (qm ?_)
  rw [hsX,setC_row hrl hn]
  have htn:((n:Int) + (k:Int)).toNat=n + k:=by omega
  refine hk_region fun K hK=>runs_eval tab_ok ?_
  simp only [evz,fl,gp,tab,simprocAttr,htn,hex,hget1,hset1,hgX,hsX,ol_length,ol_set]
  refine fin_run ?_ (hK _ ?_)<;>clear hK K
  ·simp only [In64,List.length_append,List.length_replicate,hrl]; omega
  refine qa ?_
  obtain ⟨X,hX⟩:∃ X,tl (exts n m k)++[.own (ol (extR n m k))]=X:=⟨_,rfl⟩
  have hXl:X.length=k + 1:=by rw [← hX]; simp [tl_length,exts_len]
  have hXg:∀ b,hget (X++[b]) (k + 1)=b:=fun b=>by rw [← hXl]; exact hget_snoc X b
  have hrw:List.take k (rwo 1 (n + n) k)=rwo 1 (n + n) k:=rwo_take rfl
  rw [hX]
  refine hk_region fun K hK=>runs_eval tab_ok ?_
  simp only [evz,fl,gp,tab,simprocAttr,hXl,hget1,hXg,List.length_append,hrw,rwo_snoc,rwo_len]
  refine fin_stop ?_ (runs_op (build1_does tab_ok rfl rfl rfl rfl rfl rfl) rfl (by simp only [dstOk,Nat.reduceLT]) (runs_eval tab_ok ?_))
  ·(first|exact trivial|omega|(simp only [In64] at *; omega)|(simp [In64] at *; omega)|(simp_all; done)|skip)
  simp only [evz,fl,gp,tab,simprocAttr,hXl,List.length_append,hXl,hget1,hXg,List.length_append,hrw,rwo_snoc,rwo_len]
  refine fin_run ?_ (hK _ ?_)<;>clear hK K
  ·exact ⟨rwo_ok _ _ _,by omega,by omega,by omega⟩
  refine qd (qa ?_)
  refine hk_region fun K hK=>runs_eval tab_ok ?_
  simp only [evz,fl,gp,tab,simprocAttr]
  refine fin_run ?_ (hK _ ?_)<;>clear hK K
  ·(first|exact trivial|omega|(simp only [In64] at *; omega)|(simp [In64] at *; omega)|(simp_all; done)|skip)
  refine qa ?_
  refine ⟨k + 1,(k + 3) :: List.range' 1 (k + 1),by omega,by omega,?_⟩
  refine le_pick1 (W:=n + n) (q:=k + 1) (M:=exts n m (k + 1)) rfl rfl (exts_len _ _ _) (.inr (by omega)) ?_ (fun i hi=>?_) (by simp [LeS,St.get,lk,Go.Pv.ren,ren1,scA,sc1])
  ·exact hgB1 hXl _ _
  rw [Nat.add_comm 1 i]
  show hget (X++_++_) i=_
  rw [hgB0 (by omega),← hX,tl_snoc,← exts_succ,hget_tl (by rw [exts_len]; omega)]
 (try simp only [nhs] at hC1)
 have hkn:k=n:=by omega
 rw [hkn]
 have hml:(exts n m n).length=n:=exts_len _ _ _
 have hMr:=exts_row (n:=n) h1 (i:=n) (by omega)
 have hMg:=exts_rg (n:=n) hp2 h1 h2 (i:=n) (by omega)
 refine qj (qc (qc (qf (qa (qm ?_)))))
 refine hk_rowsX 6 0 1 n hml hMr rfl (.inl (by omega)) rfl (fun i hi=>?_) fun H' a1 a2=>?_
 ·rw [Nat.add_comm 1 i,hget1,hget_tl (by omega)]
 refine hk_region fun K hK=>runs_eval tab_ok ?_
 simp only [evz,fl,gp,tab,simprocAttr]
 refine fin_stop trivial (runs_call (reduce_c hp2 hp (show 0 < n + n by omega) (by omega) (exts n m n) (by omega) hMr hMg) rfl rfl rfl (by simp only [dstOk,Nat.reduceLT]) (by repeat (first|exact trivial|constructor)) (runs_eval tab_ok ?_))
 simp only [evz,fl,gp,tab,simprocAttr]
 refine fin_run trivial (hK _ ?_)<;>clear hK K
 refine qa (qm ?_)
 obtain ⟨S,hS⟩:∃ S,redR p (exts n m n) (exts n m n).length=S:=⟨_,rfl⟩
 have hri:=redR_ri (W:=n + n) (p:=p) (by omega) hMr hMg (exts n m n).length (Nat.le_refl _)
 have hql:=redR_len p (exts n m n) (exts n m n).length
 have hker:kerR p m=kerI n S S.1.length:=by unfold kerR; rw [hm,← hS,hml]
 rw [hker]
 rw [hS] at hri hql ⊢
 rw [hml] at hql
 clear hker hS
 obtain ⟨out,at'⟩:=S
 obtain ⟨l1,l2,l3,l4⟩:=hri
 simp only at l1 l2 l3 l4 hql ⊢
 have hHl:H'.length=n + 1:=by rw [a1]; simp [tl_length,exts_len]
 refine hk_region fun K hK=>runs_eval tab_ok ?_
 simp only [evz,fl,gp,tab,simprocAttr]
 refine fin_run trivial (hK _ ?_)<;>clear hK K
 refine qa (qm (qm ?_))
 refine hk_own0 12 rfl ?_
 refine hk_region fun K hK=>runs_eval tab_ok ?_
 simp only [evz,fl,gp,tab,simprocAttr,ll_length,hHl]
 refine fin_run trivial (hK _ ?_)<;>clear hK K
 refine qa (ql ?_)
 refine hk_loop (ι:=Nat) (fun i=>⟨67,[(5,.p (.int .i64 n)),(11,.p (.list (il at'))),(12,.sl 0 0 (kerI n (out,at') i).length),(46,.p (.list (ll out))),(47,.p (.int .i64 out.length)),(48,.p (.int .i64 i))],[.own (opl (ll (kerI n (out,at') i)))]⟩) (fun i=>i≤out.length) (fun i=>out.length - i) 0 (Nat.zero_le _) [n + 1] (le_of rfl (by simp) rfl (fun j hj=>by
  have:j=0:=by simpa using hj
  subst this
  exact leB_opl (l:=[]) (by show hget (H'++[.own []]) (n + 1)=_; rw [← hHl]; exact hget_snoc H' _)) (by simp [LeS,St.get,lk,Go.Pv.ren,ren1,scA,sc1,kerI])) fun i hi=>?_
 have hkl:=kerI_len n (out,at') i
 refine qm ?_
 refine hk_region fun K hK=>runs_eval tab_ok ?_
 simp only [evz,fl,gp,tab,simprocAttr]
 refine fin_run trivial (hK _ ?_)<;>clear hK K
 refine qa (qm ?_)
 refine hk_cond rfl (fun hC2=>?_) (fun hC2=>?_)
 ·(try simp only [nhs] at hC2)
  have hil:i < out.length:=by omega
  refine qh (qa (qm (ql (qm ?_))))
  refine hk_region fun K hK=>runs_eval tab_ok ?_
  simp only [evz,fl,gp,tab,simprocAttr,ll_length,ll_get hil]
  refine fin_run ?_ (hK _ ?_)<;>clear hK K
  ·(first|exact trivial|omega|(simp only [In64] at *; omega)|(simp [In64] at *; omega)|(simp_all; done)|skip)
  refine qa (qm ?_)
  refine hk_region fun K hK=>runs_eval tab_ok ?_
  simp only [evz,fl,gp,tab,simprocAttr,il_get (show i < at'.length by omega)]
  refine fin_run ?_ (hK _ ?_)<;>clear hK K
  ·(first|exact trivial|omega|(simp only [In64] at *; omega)|(simp [In64] at *; omega)|(simp_all; done)|skip)
  refine qa ?_
  refine hk_cond rfl (fun hC3=>?_) (fun hC3=>?_)
  ·(try simp only [nhs] at hC3)
   have hge:(n:Int)≤at'.getD i 0:=by omega
   have hker:kerI n (out,at') (i + 1)=kerI n (out,at') i++[(out.getD i []).drop n]:=by rw [kerI,if_pos hge]
   have hol:(out.getD i []).length=n + n:=l2 _ (mem_getD hil)
   refine hk_region fun K hK=>runs_eval tab_ok ?_
   simp only [evz,fl,gp,tab,simprocAttr]
   refine fin_run ?_ (hK _ ?_)<;>clear hK K
   ·exact ⟨by omega,opl_ok (by rw [ll_takeL]; exact ll_all _),by omega,by omega,by omega⟩
   refine qd (qa ?_)
   rw [ll_takeL,ll_snoc,← hker,show (kerI n (out,at') i).length + 1=(kerI n (out,at') (i + 1)).length by rw [hker]; simp]
   refine hk_region fun K hK=>runs_eval tab_ok ?_
   simp only [evz,fl,gp,tab,simprocAttr]
   refine fin_run ?_ (hK _ ?_)<;>clear hK K
   ·(first|exact trivial|omega|(simp only [In64] at *; omega)|(simp [In64] at *; omega)|(simp_all; done)|skip)
   refine qa ?_
   refine ⟨i + 1,[1],by omega,by omega,?_⟩
   simp only [leq,leA,evz,fl,gp,tab,simprocAttr]<;>first|trivial|(rw [ll_takeL]; done)|skip
  (try simp only [nhs] at hC3)
  have hge:¬ (n:Int)≤at'.getD i 0:=by omega
  have hker:kerI n (out,at') (i + 1)=kerI n (out,at') i:=by rw [kerI,if_neg hge]
  refine qh (qd (qa ?_))
  refine hk_region fun K hK=>runs_eval tab_ok ?_
  simp only [evz,fl,gp,tab,simprocAttr]
  refine fin_run ?_ (hK _ ?_)<;>clear hK K
  ·(first|exact trivial|omega|(simp only [In64] at *; omega)|(simp [In64] at *; omega)|(simp_all; done)|skip)
  refine qa ?_
  refine ⟨i + 1,[0],by omega,by omega,?_⟩
  rw [hker]
  simp only [leq,leA,evz,fl,gp,tab,simprocAttr]<;>first|trivial|(rw [ll_takeL]; done)|skip
 (try simp only [nhs] at hC2)
 have hio:i=out.length:=by omega
 rw [hio]
 refine qj (qc (qc (qf (qa (qm ?_)))))
 refine hk_region fun K hK=>runs_eval tab_ok ?_
 simp only [evz,fl,gp,tab,simprocAttr]
 refine fin_run trivial (hK _ ?_)<;>clear hK K
 refine qa (qk ?_)
 simp only [Tryd.results79,enA,evz,fl,gp,tab,simprocAttr]
 all_goals (exact ⟨⟨Nat.le_refl _,by rw [ll_takeL]; exact ll_all _⟩,ll_takeL _⟩)
end Go.Proofs.YtjlmpmidchddjaaDoor

namespace Go.Proofs.YtjlmpmidchddjaaDoor
open Go.Pv
def szS:List (List (List Int))→Nat
 | []=>0
 | s :: r=>1 + s.length + szS r
def hdS (b:Nat):List (List (List Int))→List AV
 | []=>[]
 | s :: r=>.sl b 0 s.length :: hdS (b + 1 + s.length) r
def chS (W b:Nat):List (List (List Int))→Heap
 | []=>[]
 | s :: r=>.own (rwo (b + 1) W s.length) :: (tl s++chS W (b + 1 + s.length) r)
theorem hdS_len (b:Nat):∀ Sp,(hdS b Sp).length=Sp.length:=fun Sp=>by
 induction Sp generalizing b with
 | nil=>rfl
 | cons s r ih=>simp [hdS,ih]
theorem chS_len (W b:Nat):∀ Sp,(chS W b Sp).length=szS Sp:=fun Sp=>by
 induction Sp generalizing b with
 | nil=>rfl
 | cons s r ih=>simp [chS,szS,ih,tl_length]; omega
theorem szS_snoc (Sp:List (List (List Int))) (s:List (List Int)):szS (Sp++[s])=szS Sp + (1 + s.length):=by
 induction Sp with
 | nil=>simp [szS]
 | cons t r ih=>simp [szS,ih]; omega
theorem hdS_snoc (b:Nat) (Sp:List (List (List Int))) (s:List (List Int)):hdS b (Sp++[s])=hdS b Sp++[.sl (b + szS Sp) 0 s.length]:=by
 induction Sp generalizing b with
 | nil=>simp [hdS,szS]
 | cons t r ih=>simp [hdS,szS,ih]; omega
theorem chS_snoc (W b:Nat) (Sp:List (List (List Int))) (s:List (List Int)):chS W b (Sp++[s])=chS W b Sp++(.own (rwo (b + szS Sp + 1) W s.length) :: tl s):=by
 induction Sp generalizing b with
 | nil=>simp [chS,szS]
 | cons t r ih =>
  simp only [List.cons_append,chS,ih,szS,List.append_assoc]
  rw [show b + 1 + t.length + szS r + 1=b + (1 + t.length + szS r) + 1 by omega]
theorem chS_blk (W b:Nat) (Sp:List (List (List Int))):∀ j,j < szS Sp→(∃ v,hget (chS W b Sp) j = .own (ol v))∨∃ d q,hget (chS W b Sp) j = .own (rwo d W q)∧b≤d∧d + q≤b + szS Sp:=by
 induction Sp generalizing b with
 | nil=>intro j hj; simp [szS] at hj
 | cons s r ih =>
  intro j hj
  simp only [szS] at hj
  match j,hj with
  | 0,_=>exact .inr ⟨b + 1,s.length,rfl,by omega,by simp only [szS]; omega⟩
  | j + 1,hj =>
   simp only [chS,hget1]
   by_cases h:j < s.length
   ·exact .inl ⟨_,hget_tlX h⟩
   rw [hget_app2 (by rw [tl_length]; omega),tl_length]
   rcases ih (b + 1 + s.length) (j - s.length) (by omega) with h | ⟨d,q,h1,h2,h3⟩
   ·exact .inl h
   exact .inr ⟨d,q,h1,by omega,by simp only [szS]; omega⟩
theorem hdS_sl (b:Nat) (Sp:List (List (List Int))):∀ x∈hdS b Sp,∃ c l,x = .sl c 0 l∧b≤c∧c < b + szS Sp:=by
 induction Sp generalizing b with
 | nil=>intro x hx; simp [hdS] at hx
 | cons s r ih =>
  intro x hx
  rcases List.mem_cons.1 hx with rfl | hx
  ·exact ⟨b,s.length,rfl,Nat.le_refl _,by simp only [szS]; omega⟩
  obtain ⟨c,l,e,h1,h2⟩:=ih _ x hx
  exact ⟨c,l,e,by omega,by simp only [szS]; omega⟩
theorem hdS_ok (b:Nat) (Sp:List (List (List Int))):(hdS b Sp).all cellOk=true:=by
 rw [List.all_eq_true]
 intro x hx
 obtain ⟨c,l,rfl,_⟩:=hdS_sl b Sp x hx
 rfl
theorem leB_hd {π:List Nat} {H:Heap} {k b:Nat} {Sp:List (List (List Int))} (h:hget H k = .own (hdS b Sp)) (hp:∀ c,b≤c→c < b + szS Sp→c < π.length∧π.getD c 0=c):LeB π H k (.own (hdS b Sp)):=by
 simp only [LeB,h]
 refine ⟨?_,?_⟩
 ·rw [List.take_of_length_le (Nat.le_refl _)]
  have:=List.map_congr_left (f:=Go.Pv.ren π) (g:=id) (l:=hdS b Sp) fun x hx=>by
   obtain ⟨c,l,rfl,h1,h2⟩:=hdS_sl b Sp x hx
   simp only [Go.Pv.ren,ren1,(hp c h1 h2).2,id]
  rw [this,List.map_id]
 rw [List.all_eq_true]
 intro x hx
 obtain ⟨c,l,rfl,h1,h2⟩:=hdS_sl b Sp x hx
 have:=(hp c h1 h2).1
 simp [scA,sc1]; omega
theorem leB_ch {π:List Nat} {H:Heap} {W b k j:Nat} {Sp:List (List (List Int))} (hj:j < szS Sp) (h:hget H k=hget (chS W b Sp) j) (hp:∀ c,b≤c→c < b + szS Sp→c < π.length∧π.getD c 0=c):LeB π H k (hget (chS W b Sp) j):=by
 rcases chS_blk W b Sp j hj with ⟨v,hv⟩ | ⟨d,q,hv,h1,h2⟩
 ·rw [hv] at h ⊢; exact leB_ol h
 rw [hv] at h ⊢; exact leB_rwo h fun i hi=>hp _ (by omega) (by omega)
theorem rg_get1 {κ a n c:Nat} {r:List Nat} (h1:1≤c) (h2:c < 1 + n):c < (κ :: (List.range' 1 n++r)).length∧(κ :: (List.range' 1 n++r)).getD c 0=c:=by
 obtain ⟨c,rfl⟩:∃ d,c=d + 1:=⟨c - 1,by omega⟩
 refine ⟨by simp; omega,?_⟩
 rw [List.getD_cons_succ,List.getD_eq_getElem?_getD,List.getElem?_append_left (by simp; omega),List.getElem?_range' (by omega)]
 simp; omega
theorem rg_get2 {κ n:Nat} {r:List Nat} {j:Nat} : (κ :: (List.range' 1 n++r)).getD (1 + n + j) 0=r.getD j 0:=by
 rw [show 1 + n + j=n + j + 1 by omega,List.getD_cons_succ,List.getD_eq_getElem?_getD,List.getElem?_append_right (by simp),List.length_range',Nat.add_sub_cancel_left,List.getD_eq_getElem?_getD]
theorem le_chs {S s:St} {κ0 W:Nat} {Sp:List (List (List Int))} (hn:S.n=s.n) (hS:S.H = .own (hdS 1 Sp) :: chS W 1 Sp) (hd:κ0 < 1∨1 + szS Sp≤κ0) (g0:hget s.H κ0 = .own (hdS 1 Sp)) (g1:∀ j,j < szS Sp→hget s.H (1 + j)=hget (chS W 1 Sp) j)
  (hsl:LeS (κ0 :: (List.range' 1 (szS Sp)++[])) S.sl s):Le (κ0 :: (List.range' 1 (szS Sp)++[])) S s:=by
 refine le_of hn ?_ ?_ (fun j hj=>?_) hsl
 ·rw [List.append_nil]
  refine List.nodup_cons.2 ⟨?_,List.nodup_range'⟩
  simp only [List.mem_range'_1]; omega
 ·rw [hS]; simp [chS_len]
 rw [hS] at hj ⊢
 match j,hj with
 | 0,_=>exact leB_hd g0 fun c h1 h2=>rg_get1 (a:=0) h1 h2
 | j + 1,hj =>
  have hjq:j < szS Sp:=by simpa [chS_len] using hj
  have:=(rg_get1 (κ:=κ0) (a:=0) (n:=szS Sp) (c:=j + 1) (r:=[]) (by omega) (by omega)).2
  rw [this,hget1]
  exact leB_ch hjq (by rw [Nat.add_comm j 1]; exact g1 j hjq) fun c h1 h2=>rg_get1 (a:=0) h1 h2
theorem le_chs2 {S s:St} {κ0 κ1 d k W z:Nat} {Sp:List (List (List Int))} {M:List (List Int)} (hz:szS Sp=z) (hM:M.length=k) (hn:S.n=s.n) (hS:S.H = .own (hdS 1 Sp) :: (chS W 1 Sp++(.own (rwo (z + 2) W k) :: tl M)))
  (hd:(κ0 < 1∨1 + z≤κ0)∧1 + z≤κ1∧1 + z≤d∧κ0 ≠ κ1∧(κ0 < d∨d + k≤κ0)∧(κ1 < d∨d + k≤κ1)) (g0:hget s.H κ0 = .own (hdS 1 Sp)) (g1:∀ j,j < z→hget s.H (1 + j)=hget (chS W 1 Sp) j) (g2:hget s.H κ1 = .own (rwo d W k)) (g3:∀ i,i < k→hget s.H (d + i) = .own (ol (M.getD i [])))
  (hsl:LeS (κ0 :: (List.range' 1 z++(κ1 :: List.range' d k))) S.sl s):Le (κ0 :: (List.range' 1 z++(κ1 :: List.range' d k))) S s:=by
 subst hz
 refine le_of hn ?_ ?_ (fun j hj=>?_) hsl
 ·refine List.nodup_cons.2 ⟨?_,List.nodup_append.2 ⟨List.nodup_range',List.nodup_cons.2 ⟨?_,List.nodup_range'⟩,fun a ha b hb=>?_⟩⟩
  ·simp only [List.mem_append,List.mem_cons,List.mem_range'_1]; omega
  ·simp only [List.mem_range'_1]; omega
  simp only [List.mem_cons,List.mem_range'_1] at ha hb; omega
 ·rw [hS]; simp [chS_len,tl_length,hM]
 rw [hS] at hj ⊢
 match j,hj with
 | 0,_=>exact leB_hd g0 fun c h1 h2=>rg_get1 (a:=0) h1 h2
 | j + 1,hj =>
  rw [hget1]
  by_cases hjq:j < szS Sp
  ·have:=(rg_get1 (κ:=κ0) (a:=0) (n:=szS Sp) (c:=j + 1) (r:=κ1 :: List.range' d k) (by omega) (by omega)).2
   rw [this,hget_app1 (by rw [chS_len]; exact hjq)]
   exact leB_ch hjq (by rw [Nat.add_comm j 1]; exact g1 j hjq) fun c h1 h2=>rg_get1 (a:=0) h1 h2
  have hjl:j < szS Sp + (1 + k):=by
   simp only [List.length_cons,List.length_append,chS_len,tl_length,hM] at hj; omega
  obtain ⟨i,rfl⟩:∃ i,j=szS Sp + i:=⟨j - szS Sp,by omega⟩
  rw [show szS Sp + i + 1=1 + szS Sp + i by omega,rg_get2,hget_app2 (by rw [chS_len]; omega),chS_len,Nat.add_sub_cancel_left]
  match i with
  | 0 =>
   refine leB_rwo g2 fun t ht=>⟨by simp; omega,?_⟩
   rw [show szS Sp + 2 + t=1 + szS Sp + (t + 1) by omega,rg_get2,List.getD_cons_succ,range'_get ht]
  | i + 1 =>
   have hik:i < k:=by omega
   rw [hget1,hget_tl (by omega),List.getD_cons_succ,range'_get hik]
   exact leB_ol (g3 i hik)
def vI (p:Nat) (m:List (List Int)) (w:List Int) (j k:Nat):List Int:=(List.range m.length).map fun t=>if t < j then mvF p m w t else if t=j then dotI p (m.getD t []) w k else 0
theorem vI_len (p:Nat) (m:List (List Int)) (w:List Int) (j k:Nat):(vI p m w j k).length=m.length:=by simp [vI]
theorem vI_get {p:Nat} {m:List (List Int)} {w:List Int} {j k:Nat} (h:j < m.length):(vI p m w j k).getD j 0=dotI p (m.getD j []) w k:=by
 simp [vI,List.getD,List.getElem?_map,List.getElem?_range h]
theorem vI_set {p:Nat} {m:List (List Int)} {w:List Int} {j k:Nat} : (vI p m w j k).set j (dotI p (m.getD j []) w (k + 1))=vI p m w j (k + 1):=by
 refine List.ext_getElem (by simp [vI]) fun t h1 h2=>?_
 rw [List.getElem_set]
 by_cases e:j=t
 ·subst e; simp [vI]
 rw [if_neg e]
 simp only [vI,List.getElem_map,List.getElem_range]
 by_cases e2:t < j
 ·rw [if_pos e2,if_pos e2]
 rw [if_neg e2,if_neg e2,if_neg (fun h=>e h.symm),if_neg (fun h=>e h.symm)]
theorem vI_next {p:Nat} {m:List (List Int)} {w:List Int} {j:Nat} : vI p m w j w.length=vI p m w (j + 1) 0:=by
 refine List.ext_getElem (by simp [vI]) fun t h1 h2=>?_
 simp only [vI,List.getElem_map,List.getElem_range]
 by_cases e2:t < j
 ·rw [if_pos e2,if_pos (by omega)]
 rw [if_neg e2]
 by_cases e3:t=j
 ·rw [if_pos e3,if_pos (by omega),mvF]
 rw [if_neg e3,if_neg (by omega),dotI]; split<;>rfl
theorem vI_zero {p:Nat} {m:List (List Int)} {w:List Int} : vI p m w 0 0=List.replicate m.length 0:=by
 refine List.ext_getElem (by simp [vI]) fun t h1 h2=>?_
 simp [vI,dotI]
theorem vI_end {p:Nat} {m:List (List Int)} {w:List Int} {k:Nat} : vI p m w m.length k=mvR p m w:=by
 refine List.ext_getElem (by simp [vI,mvR]) fun t h1 h2=>?_
 have:t < m.length:=by simpa [mvR] using h2
 simp [vI,mvR,this]
theorem dotI_rg {p:Nat} (hp:0 < p) (b w:List Int):∀ k,0≤dotI p b w k∧dotI p b w k < p
 | 0=>by simp only [dotI]; omega
 | k + 1=>emod_rng hp _
theorem mvR_len (p:Nat) (m:List (List Int)) (w:List Int):(mvR p m w).length=m.length:=by simp [mvR]
theorem mvR_rg {p:Nat} (hp:0 < p) (m:List (List Int)) (w:List Int):rgp p (mvR p m w):=fun j=>by
 by_cases h:j < m.length
 ·have:(mvR p m w).getD j 0=dotI p (m.getD j []) w w.length:=by simp [mvR,mvF,List.getD,List.getElem?_map,List.getElem?_range h]
  rw [this]; exact dotI_rg hp _ _ _
 simp [List.getD,List.getElem?_eq_none (show (mvR p m w).length≤j by rw [mvR_len]; omega)]; omega
def actI (v at' : List Int) (q:Nat):List Int:=updR (fun t=>v.getD (at'.getD t 0).toNat 0) 0 q (List.replicate at'.length 0)
theorem actI_end {p:Nat} {m:List (List Int)} {at' w:List Int} : actI (mvR p m w) at' at'.length=actR p m at' w:=by
 refine List.ext_getElem (by simp [actI,actR,updR]) fun t h1 h2=>?_
 have ht:t < at'.length:=by simpa [actR] using h2
 simp [actI,actR,updR,ht]
theorem actR_len (p:Nat) (m:List (List Int)) (at' w:List Int):(actR p m at' w).length=at'.length:=by simp [actR]
theorem actR_rg {p:Nat} (hp:0 < p) (m:List (List Int)) (at' w:List Int):rgp p (actR p m at' w):=fun j=>by
 by_cases h:j < at'.length
 ·have:(actR p m at' w).getD j 0=(mvR p m w).getD (at'.getD j 0).toNat 0:=by simp [actR,List.getD,List.getElem?_map,List.getElem?_eq_getElem h]
  rw [this]; exact mvR_rg hp m w _
 simp [List.getD,List.getElem?_eq_none (show (actR p m at' w).length≤j by rw [actR_len]; omega)]; omega
theorem actM_len (p:Nat) (m s:List (List Int)) (at' : List Int) (i:Nat):(actM p m s at' i).length=i:=by simp [actM]
theorem actM_succ (p:Nat) (m s:List (List Int)) (at' : List Int) (i:Nat):actM p m s at' (i + 1)=actM p m s at' i++[actR p m at' (s.getD i [])]:=by simp [actM,List.range_succ]
theorem actM_get {p:Nat} {m s:List (List Int)} {at' : List Int} {i j:Nat} (h:j < i):(actM p m s at' i).getD j []=actR p m at' (s.getD j []):=by
 simp [actM,List.getD,List.getElem?_map,List.getElem?_range h]
theorem sbM_len (p v:Nat) (a:List (List Int)) (i:Nat):(sbM p v a i).length=i:=by simp [sbM]
theorem sbM_succ (p v:Nat) (a:List (List Int)) (i:Nat):sbM p v a (i + 1)=sbM p v a i++[sbR p v a i]:=by simp [sbM,List.range_succ]
theorem sbR_len (p v:Nat) (a:List (List Int)) (i:Nat):(sbR p v a i).length=(a.getD i []).length:=by simp [sbR]
theorem sbR_rg {p:Nat} (hp:0 < p) {v:Nat} {a:List (List Int)} {i:Nat} (h:rgp p (a.getD i [])):rgp p (sbR p v a i):=fun j=>by
 unfold sbR
 rw [List.getD_eq_getElem?_getD,List.getElem?_set]
 split
 ·split
  ·exact emod_rng hp _
  simp only [Option.getD_none]; omega
 rw [← List.getD_eq_getElem?_getD]; exact h j
theorem adR_len (p:Nat) (x:Int) (w b:List Int):(adR p x w b).length=w.length:=updR_len _ _ _ _
theorem adR_rg {p:Nat} (hp:0 < p) {x:Int} {w b:List Int} (h:rgp p w):rgp p (adR p x w b):=updR_rg (fun _=>emod_rng hp _) h
theorem cmI_len (p W:Nat) (s:List (List Int)) (v:List Int):∀ i,(cmI p W s v i).length=W
 | 0=>by simp [cmI]
 | i + 1=>by rw [cmI,adR_len]; exact cmI_len p W s v i
theorem cmI_rg {p:Nat} (hp:0 < p) (W:Nat) (s:List (List Int)) (v:List Int):∀ i,rgp p (cmI p W s v i)
 | 0=>fun j=>by
  rw [cmI,List.getD_eq_getElem?_getD,List.getElem?_replicate]
  split
  ·simp only [Option.getD_some]; omega
  simp only [Option.getD_none]; omega
 | i + 1=>adR_rg hp (cmI_rg hp W s v i)
theorem kerI_get {n:Nat} {S:List (List Int) × List Int} : ∀ i,i≤S.1.length→∀ v∈kerI n S i,∃ r∈S.1,v=r.drop n
 | 0,_,v,hv=>by simp [kerI] at hv
 | i + 1,hi,v,hv=>by
  rw [kerI] at hv
  split at hv
  ·rcases List.mem_append.1 hv with hv | hv
   ·exact kerI_get i (by omega) v hv
   exact ⟨_,mem_getD (by omega),List.mem_singleton.1 hv⟩
  exact kerI_get i (by omega) v hv
theorem kerR_row {p n:Nat} (hp:2≤p) {m:List (List Int)} (hm:m.length=n) (h1:∀ v∈m,v.length=n) (h2:∀ v∈m,rgp p v):(∀ v∈kerR p m,v.length=n∧rgp p v)∧(kerR p m).length≤n:=by
 have hMr:=exts_row (n:=n) h1 (i:=n) (by omega)
 have hMg:=exts_rg (n:=n) hp h1 h2 (i:=n) (by omega)
 have hml:(exts n m n).length=n:=exts_len _ _ _
 have hri:=redR_ri (W:=n + n) (p:=p) (by omega) hMr hMg n (by omega)
 have hql:=redR_len p (exts n m n) n
 unfold kerR
 rw [hm]
 refine ⟨fun v hv=>?_,Nat.le_trans (kerI_len _ _ _) hql⟩
 obtain ⟨r,r1,rfl⟩:=kerI_get _ (Nat.le_refl _) v hv
 refine ⟨by rw [List.length_drop,hri.l2 r r1]; omega,fun j=>?_⟩
 have:=hri.l3 r r1 (n + j)
 simpa [List.getD,List.getElem?_drop] using this
end Go.Proofs.YtjlmpmidchddjaaDoor

namespace Go.Proofs.YtjlmpmidchddjaaDoor
open Lean.Grind
attribute [local instance] Lean.Grind.Semiring.natCast Lean.Grind.Ring.intCast
section
variable {K:Type} [CommRing K]
structure Rd (K:Type) [CommRing K] (p:Nat):Prop where
 two:2≤p
 fld:Fld K
 ker:∀ x:Int,(x:K)=0↔x % (p:Int)=0
 fer:∀ x:Int,¬ x % (p:Int)=0→((x ^ (p - 2):Int):K) * (x:K)=1
theorem Rd.mod {p:Nat} (R:Rd K p) (x:Int):((x % (p:Int):Int):K)=(x:K):=by
 have h:(((x - x % (p:Int)):Int):K)=0:=(R.ker _).2 (by rw [Int.sub_emod,em_em,Int.sub_self]; rfl)
 rw [Ring.intCast_sub] at h
 grind
theorem Rd.zero {p:Nat} (R:Rd K p) {x:Int} (h:0≤x∧x < p):(x:K)=0↔x=0:=by
 rw [R.ker,Int.emod_eq_of_lt h.1 h.2]
theorem Rd.inv {p:Nat} (R:Rd K p) {x:Int} (h:0≤x∧x < p) (h0:¬ x=0):(x:K) * (ivR p x:K)=1:=by
 have:=R.fer x (by rw [Int.emod_eq_of_lt h.1 h.2]; exact h0)
 unfold ivR
 rw [R.mod]; grind
def vc (r:List Int) (j:Nat):K:=((r.getD j 0:Int):K)
theorem vc_out {r:List Int} {j:Nat} (h:r.length≤j):(vc r j:K)=0:=by
 unfold vc
 rw [List.getD_eq_getElem?_getD,List.getElem?_eq_none h]
 exact Ring.intCast_zero
theorem vc_upd {p:Nat} {f:Nat→Int} {r:List Int} {g:Nat→K} (hf:∀ j,j < r.length→((f j:Int):K)=g j) (hg:∀ j,r.length≤j→g j=0):(vc (updR f 0 r.length r):Nat→K)=g:=by
 funext j
 by_cases h:j < r.length
 ·unfold vc
  rw [updR_get h,if_pos ⟨Nat.zero_le _,h⟩,hf j h]
 rw [vc_out (by rw [updR_len]; omega),hg j (by omega)]
theorem vc_ax {p:Nat} (R:Rd K p) {k:Int} {r b:List Int} (h:r.length=b.length):(vc (axR p k r b):Nat→K)=fun j=>vc r j - (k:K) * vc b j:=by
 unfold axR
 refine vc_upd (p:=p) (fun j hj=>?_) fun j hj=>?_
 ·unfold axF
  rw [R.mod,Ring.intCast_sub,Ring.intCast_mul]; rfl
 rw [vc_out hj,vc_out (by omega)]; grind
theorem vc_nr {p:Nat} (R:Rd K p) {k:Int} {r:List Int} : (vc (nrR p k r):Nat→K)=fun j=>vc r j * (k:K):=by
 unfold nrR
 refine vc_upd (p:=p) (fun j hj=>?_) fun j hj=>?_
 ·unfold nrF
  rw [R.mod,Ring.intCast_mul]; rfl
 rw [vc_out hj]; grind
theorem vc_ad {p:Nat} (R:Rd K p) {x:Int} {w b:List Int} (h:b.length≤w.length):(vc (adR p x w b):Nat→K)=fun j=>vc w j + (x:K) * vc b j:=by
 unfold adR
 refine vc_upd (p:=p) (fun j hj=>?_) fun j hj=>?_
 ·unfold adF
  rw [R.mod,Ring.intCast_add,Ring.intCast_mul]; rfl
 rw [vc_out hj,vc_out (by omega)]; grind
theorem vc_ne {p:Nat} (R:Rd K p) {r:List Int} (h:rgp p r) (j:Nat):(vc r j:K)=0↔r.getD j 0=0:=R.zero (h j)
structure LSub (S:(Nat→K)→Prop):Prop where
 zero:S fun _=>0
 add:∀ u v,S u→S v→S fun j=>u j + v j
 smul:∀ k u,S u→S fun j=>k * u j
theorem LSub.sum {S:(Nat→K)→Prop} (h:LSub S) {y:Nat→Nat→K} {c:Nat→K} : ∀ {n:Nat},(∀ i,i < n→S (y i))→S fun j=>sm (fun i=>c i * y i j) n
 | 0,_=>h.zero
 | n + 1,hy=>h.add _ _ (h.sum fun i hi=>hy i (by omega)) (h.smul _ _ (hy n (by omega)))
theorem LSub.sub {S:(Nat→K)→Prop} (h:LSub S) {u v:Nat→K} (hu:S u) (hv:S v):S fun j=>u j - v j:=by
 have:=h.add _ _ hu (h.smul (-1) _ hv)
 have e:(fun j=>u j - v j)=fun j=>u j + -1 * v j:=by funext j; grind
 rw [e]; exact this
def gvK (L:List (List Int)) (i:Nat):Nat→K:=vc (L.getD i [])
def SpL (L:List (List Int)) (u:Nat→K):Prop:=∃ C:Nat→K,∀ j,u j=sm (fun i=>C i * gvK L i j) L.length
theorem SpL.lin (L : List (List Int)) : LSub (SpL (K := K) L) :=
  ⟨⟨fun _ => 0, fun j => (sm_zero fun i _ => by grind).symm⟩,
   fun u v ⟨C, hC⟩ ⟨D, hD⟩ => ⟨fun i => C i + D i, fun j => by show u j + v j = _; rw [hC, hD, ← sm_add]; exact sm_congr fun i _ => by grind⟩,
   fun k u ⟨C, hC⟩ => ⟨fun i => k * C i, fun j => by show k * u j = _; rw [hC, ← sm_mul]; exact sm_congr fun i _ => by grind⟩⟩
theorem SpL.least {L:List (List Int)} {S:(Nat→K)→Prop} (h:LSub S) (hL:∀ r∈L,S (vc r)) {u:Nat→K} (hu:SpL L u):S u:=by
 obtain ⟨C,hC⟩:=hu
 have:u=fun j=>sm (fun i=>C i * gvK L i j) L.length:=funext hC
 rw [this]
 exact h.sum fun i hi=>hL _ (mem_getD hi)
theorem SpL.get {L:List (List Int)} {i:Nat} (hi:i < L.length):SpL L (gvK (K:=K) L i):=
 ⟨fun t=>if t=i then 1 else 0,fun j=>by
  rw [sm_one (i:=i) hi fun t ht hne=>by show (if t=i then (1:K) else 0) * _=0; rw [if_neg hne]; grind]
  show _=(if i=i then (1:K) else 0) * _
  rw [if_pos rfl]; grind⟩
theorem SpL.mem {L:List (List Int)} {r:List Int} (h:r∈L):SpL L (vc (K:=K) r):=by
 obtain ⟨i,hi,e⟩:=List.getElem_of_mem h
 have:gvK (K:=K) L i=vc r:=by unfold gvK; rw [← e]; simp [List.getD,List.getElem?_eq_getElem hi]
 rw [← this]; exact SpL.get hi
theorem SpL.mono {L L' : List (List Int)} (h:∀ r∈L,SpL L' (vc (K:=K) r)) {u:Nat→K} (hu:SpL L u):SpL L' u:=SpL.least (SpL.lin L') h hu
structure RE (S:List (List Int) × List Int):Prop where
 at' : ∀ i k,i < S.1.length→k < S.1.length→(gvK (K:=K) S.1 i (S.2.getD k 0).toNat)=if i=k then 1 else 0
 bef:∀ i j,i < S.1.length→j < (S.2.getD i 0).toNat→gvK (K:=K) S.1 i j=0
theorem clR_spec {p W:Nat} (R:Rd K p) {S:List (List Int) × List Int} (hri:RI p W S) (he:RE (K:=K) S) {r:List Int} (hr:r.length=W) (hg:rgp p r):∀ i,i≤S.1.length→(∀ k,k < i→(vc (clR p S.1 S.2 r i) (S.2.getD k 0).toNat:K)=0)∧SpL S.1 fun j=>(vc (clR p S.1 S.2 r i) j:K) - vc r j
 | 0,_=>⟨fun k hk=>absurd hk (Nat.not_lt_zero _),by
   have:=(SpL.lin (K:=K) S.1).zero
   have e:(fun j=>(vc (clR p S.1 S.2 r 0) j:K) - vc r j)=fun _=>0:=by funext j; simp only [clR]; grind
   rw [e]; exact this⟩
 | i + 1,hi=>by
  obtain ⟨h1,h2⟩:=clR_spec R hri he hr hg i (by omega)
  have hgx:=clR_rg (by have:=R.two; omega) hg (p:=p) (out:=S.1) (at':=S.2) i
  have hxl:=clR_len p S.1 S.2 r i
  rw [clR]
  generalize clR p S.1 S.2 r i=x at *
  split
  ·rename_i h0
   refine ⟨fun k hk=>?_,h2⟩
   by_cases e:k=i
   ·rw [e]; unfold vc; rw [h0]; exact Ring.intCast_zero
   exact h1 k (by omega)
  have hb:(S.1.getD i []).length=x.length:=by rw [hri.l2 _ (mem_getD (by omega)),hxl,hr]
  have e:=vc_ax R (k:=x.getD (S.2.getD i 0).toNat 0) hb.symm
  rw [e]
  refine ⟨fun k hk=>?_,?_⟩
  ·have h3:=he.at' i k (by omega) (by omega)
   unfold gvK at h3
   simp only
   rw [h3]
   by_cases e2:i=k
   ·subst e2
    rw [if_pos rfl]
    show vc x _ - vc x _ * 1=0
    grind
   rw [if_neg e2,h1 k (by omega)]; grind
  have h3:=(SpL.lin S.1).smul ((x.getD (S.2.getD i 0).toNat 0:Int):K) _ (SpL.get (K:=K) (show i < S.1.length by omega))
  have h4:=(SpL.lin S.1).sub h2 h3
  have e2:(fun j=>(vc x j:K) - ((x.getD (S.2.getD i 0).toNat 0:Int):K) * vc (S.1.getD i []) j - vc r j)=fun j=>vc x j - vc r j - ((x.getD (S.2.getD i 0).toNat 0:Int):K) * gvK S.1 i j:=by funext j; unfold gvK; grind
  rw [e2]; exact h4
theorem bk_vc {p:Nat} (R:Rd K p) {j:Nat} {r b:List Int} (h:b.length=r.length):(vc (bkR p j r b):Nat→K)=fun t=>vc b t - vc b j * vc r t:=by
 unfold bkR
 split
 ·rename_i h0
  have:(vc b j:K)=0:=by unfold vc; rw [h0]; exact Ring.intCast_zero
  funext t; rw [this]; grind
 rw [vc_ax R h]; rfl
theorem redS_spec {p W:Nat} (R:Rd K p) {S:List (List Int) × List Int} (hri:RI p W S) (he:RE (K:=K) S) {L:List (List Int)} (hs:∀ u:Nat→K,SpL S.1 u↔SpL L u) {r:List Int} (hr:r.length=W) (hg:rgp p r) :
  RE (K:=K) (redS p S r)∧∀ u:Nat→K,SpL (redS p S r).1 u↔SpL (L++[r]) u:=by
 have hp0:0 < p:=by have:=R.two; omega
 obtain ⟨c1,c2⟩:=clR_spec (K:=K) R hri he hr hg S.1.length (Nat.le_refl _)
 have hgx:=clR_rg hp0 hg (p:=p) (out:=S.1) (at':=S.2) S.1.length
 have hxl:=clR_len p S.1 S.2 r S.1.length
 have hLr:∀ u:Nat→K,SpL L u→SpL (L++[r]) u:=fun u hu=>SpL.mono (fun q hq=>SpL.mem (by simp [hq])) hu
 have hrr:SpL (L++[r]) (vc (K:=K) r):=SpL.mem (by simp)
 unfold redS
 generalize clR p S.1 S.2 r S.1.length=x at *
 have hxr:SpL (L++[r]) (vc (K:=K) x):=by
  have:=(SpL.lin (L++[r])).add _ _ (hLr _ ((hs _).1 c2)) hrr
  have e:(fun j=>(vc x j:K) - vc r j + vc r j)=vc x:=by funext j; grind
  rw [e] at this; exact this
 cases hf:fnz x with
 | none =>
  have hx0:∀ j,(vc x j:K)=0:=fun j=>by
   by_cases hj:j < x.length
   ·have:=fst_spec0 hf j hj
    simp only [decide_eq_false_iff_not,Classical.not_not] at this
    unfold vc; rw [this]; exact Ring.intCast_zero
   exact vc_out (by omega)
  refine ⟨he,fun u=>⟨fun hu=>hLr u ((hs u).1 hu),fun hu=>SpL.mono (fun q hq=>?_) hu⟩⟩
  rcases List.mem_append.1 hq with hq | hq
  ·exact (hs _).2 (SpL.mem hq)
  rw [List.mem_singleton.1 hq]
  have:=(SpL.lin (K:=K) S.1).smul (-1) _ c2
  have e:(fun j=>(-1:K) * (vc x j - vc r j))=vc r:=by funext j; rw [hx0]; grind
  rw [e] at this; exact this
 | some j =>
  obtain ⟨j1,j2,j3⟩:=fst_spec hf
  simp only [decide_eq_true_eq] at j2
  simp only
  have hiv:=R.inv (hgx j) j2
  obtain ⟨k,hk⟩:∃ k:K,((ivR p (x.getD j 0):Int):K)=k:=⟨_,rfl⟩
  obtain ⟨y,hy⟩:∃ y,nrR p (ivR p (x.getD j 0)) x=y:=⟨_,rfl⟩
  have hyv:(vc y:Nat→K)=fun t=>vc x t * k:=by rw [← hy,vc_nr R,hk]
  have hxj:(vc x j:K) * k=1:=by rw [← hk]; exact hiv
  have hyl:y.length=W:=by rw [← hy,nrR_len,hxl,hr]
  have hyj:(vc y j:K)=1:=by rw [hyv]; exact hxj
  have hyb:∀ t,t < j→(vc y t:K)=0:=fun t ht=>by
   rw [hyv]
   have:=j3 t ht
   simp only [decide_eq_false_iff_not,Classical.not_not] at this
   have e:(vc x t:K)=0:=by unfold vc; rw [this]; exact Ring.intCast_zero
   simp only; rw [e]; grind
  have hyk:∀ i,i < S.1.length→(vc y (S.2.getD i 0).toNat:K)=0:=fun i hi=>by
   rw [hyv]; simp only; rw [c1 i hi]; grind
  rw [hy]
  have hol:(bkI p j y S.1 S.1.length).length=S.1.length:=bkI_len _ _ _ _ _
  have hog:∀ i,i < S.1.length→gvK (K:=K) (bkI p j y S.1 S.1.length++[y]) i=fun t=>gvK S.1 i t - gvK S.1 i j * vc y t:=fun i hi=>by
   unfold gvK
   rw [getD_app _ _ (by omega),bkI_get hi,if_pos hi]
   exact bk_vc R (by rw [hri.l2 _ (mem_getD hi),hyl])
  have hoy:gvK (K:=K) (bkI p j y S.1 S.1.length++[y]) S.1.length=vc y:=by
   unfold gvK
   have:=getD_last (bkI p j y S.1 S.1.length) y []
   rw [hol] at this
   rw [this]
  have hai:∀ i,i < S.1.length→(S.2++[(j:Int)]).getD i 0=S.2.getD i 0:=fun i hi=>getD_app _ _ (by rw [hri.l1]; exact hi)
  have haj:(S.2++[(j:Int)]).getD S.1.length 0=(j:Int):=by
   have:=getD_last S.2 (j:Int) 0
   rwa [hri.l1] at this
  have hnl:(bkI p j y S.1 S.1.length++[y]).length=S.1.length + 1:=by simp [hol]
  refine ⟨⟨fun i k hi hk=>?_,fun i t hi ht=>?_⟩,fun u=>⟨fun hu=>SpL.mono (fun q hq=>?_) hu,fun hu=>?_⟩⟩
  ·simp only [hnl] at hi hk
   simp only
   by_cases ei:i=S.1.length
   ·rw [ei,hoy]
    by_cases ek:k=S.1.length
    ·rw [ek,haj,Int.toNat_natCast,hyj,if_pos rfl]
    rw [hai k (by omega),hyk k (by omega),if_neg (fun h=>ek h.symm)]
   rw [hog i (by omega)]
   by_cases ek:k=S.1.length
   ·rw [ek,haj,Int.toNat_natCast]
    simp only
    rw [hyj,if_neg ei]; grind
   rw [hai k (by omega)]
   simp only
   rw [hyk k (by omega),he.at' i k (by omega) (by omega)]; grind
  ·simp only [hnl] at hi
   simp only at ht ⊢
   by_cases ei:i=S.1.length
   ·rw [ei,haj,Int.toNat_natCast] at ht
    rw [ei,hoy]; exact hyb t ht
   rw [hai i (by omega)] at ht
   rw [hog i (by omega)]
   simp only
   rw [he.bef i t (by omega) ht]
   by_cases htj:t < j
   ·rw [hyb t htj]; grind
   rw [he.bef i j (by omega) (by omega)]; grind
  ·have hyL:SpL (L++[r]) (vc (K:=K) y):=by
    have:=(SpL.lin (L++[r])).smul k _ hxr
    rw [hyv]
    have e:(fun t=>(vc x t:K) * k)=fun t=>k * vc x t:=by funext t; grind
    rw [e]; exact this
   rcases List.mem_append.1 hq with hq | hq
   ·obtain ⟨i,hi,e⟩:=List.getElem_of_mem hq
    rw [hol] at hi
    have h1:=hog i hi
    have h2:gvK (K:=K) (bkI p j y S.1 S.1.length++[y]) i=vc q:=by
     unfold gvK; rw [getD_app _ _ (by omega),← e]; simp [List.getD,List.getElem?_eq_getElem (show i < (bkI p j y S.1 S.1.length).length by omega)]
    rw [← h2,h1]
    exact (SpL.lin (L++[r])).sub (hLr _ ((hs _).1 (SpL.get hi))) ((SpL.lin (L++[r])).smul _ _ hyL)
   rw [List.mem_singleton.1 hq]; exact hyL
  have hy' : SpL (bkI p j y S.1 S.1.length++[y]) (vc (K:=K) y):=SpL.mem (by simp)
  have ho' : ∀ i,i < S.1.length→SpL (bkI p j y S.1 S.1.length++[y]) (gvK (K:=K) S.1 i):=fun i hi=>by
   have h1:=SpL.get (K:=K) (L:=bkI p j y S.1 S.1.length++[y]) (i:=i) (by omega)
   have h2:=(SpL.lin (bkI p j y S.1 S.1.length++[y])).add _ _ h1 ((SpL.lin _).smul (gvK S.1 i j) _ hy')
   rw [hog i hi] at h2
   have e:(fun t=>gvK (K:=K) S.1 i t - gvK S.1 i j * vc y t + gvK S.1 i j * vc y t)=gvK S.1 i:=by funext t; grind
   rw [e] at h2; exact h2
  have hS' : ∀ v:Nat→K,SpL S.1 v→SpL (bkI p j y S.1 S.1.length++[y]) v:=fun v hv=>by
   obtain ⟨C,hC⟩:=hv
   have:v=fun t=>sm (fun i=>C i * gvK S.1 i t) S.1.length:=funext hC
   rw [this]
   exact (SpL.lin _).sum ho'
  refine SpL.mono (fun q hq=>?_) hu
  rcases List.mem_append.1 hq with hq | hq
  ·exact hS' _ ((hs _).2 (SpL.mem hq))
  rw [List.mem_singleton.1 hq]
  have h1:=hS' _ c2
  have h2:=(SpL.lin (bkI p j y S.1 S.1.length++[y])).smul (vc x j) _ hy'
  have h3:=(SpL.lin (bkI p j y S.1 S.1.length++[y])).sub h2 h1
  have e:(fun t=>(vc x j:K) * vc y t - (vc x t - vc r t))=vc r:=by
   funext t
   rw [hyv]
   simp only
   have:(vc x j:K) * (vc x t * k)=vc x t:=by
    have:(vc x j:K) * (vc x t * k)=(vc x j * k) * vc x t:=by grind
    rw [this,hxj]; grind
   rw [this]; grind
  rw [e] at h3; exact h3
theorem redR_spec {p W:Nat} (R:Rd K p) {M:List (List Int)} (h1:∀ v∈M,v.length=W) (h2:∀ v∈M,rgp p v):∀ k,k≤M.length→RE (K:=K) (redR p M k)∧∀ u:Nat→K,SpL (redR p M k).1 u↔SpL (M.take k) u
 | 0,_=>⟨⟨fun i k hi=>absurd hi (Nat.not_lt_zero _),fun i j hi=>absurd hi (Nat.not_lt_zero _)⟩,fun u=>by rw [List.take_zero]; exact Iff.rfl⟩
 | k + 1,hk=>by
  obtain ⟨a1,a2⟩:=redR_spec R h1 h2 k (by omega)
  have hri:=redR_ri (p:=p) (by have:=R.two; omega) h1 h2 k (by omega)
  have:=redS_spec (K:=K) R hri a1 a2 (h1 _ (mem_getD (d:=[]) (show k < M.length by omega))) (h2 _ (mem_getD (by omega)))
  have e:M.take (k + 1)=M.take k++[M.getD k []]:=by
   rw [List.take_succ_eq_append_getElem (by omega)]; simp [List.getD,List.getElem?_eq_getElem (show k < M.length by omega)]
  rw [e,redR]; exact this
end
end Go.Proofs.YtjlmpmidchddjaaDoor

namespace Go.Proofs.YtjlmpmidchddjaaDoor
open Lean.Grind
attribute [local instance] Lean.Grind.Semiring.natCast Lean.Grind.Ring.intCast
section
variable {K:Type} [CommRing K]
def kerX (n:Nat) (S:List (List Int) × List Int) (i:Nat):List Nat:=(List.range i).filter fun s=>decide ((n:Int)≤S.2.getD s 0)
theorem kerI_eq (n:Nat) (S:List (List Int) × List Int):∀ i,kerI n S i=(kerX n S i).map fun s=>(S.1.getD s []).drop n
 | 0=>rfl
 | i + 1=>by
  rw [kerI,kerI_eq n S i]
  unfold kerX
  rw [List.range_succ,List.filter_append,List.map_append]
  by_cases h:(n:Int)≤S.2.getD i 0
  ·rw [if_pos h]
   have:[i].filter (fun s=>decide ((n:Int)≤S.2.getD s 0))=[i]:=by simp only [List.filter_cons,decide_eq_true h]; rfl
   rw [this]; rfl
  rw [if_neg h]
  have:[i].filter (fun s=>decide ((n:Int)≤S.2.getD s 0))=[]:=by simp only [List.filter_cons,decide_eq_false h]; rfl
  rw [this]; simp
theorem kerX_mem {n:Nat} {S:List (List Int) × List Int} {i s:Nat} : s∈kerX n S i↔s < i∧(n:Int)≤S.2.getD s 0:=by
 unfold kerX
 rw [List.mem_filter,List.mem_range,decide_eq_true_iff]
theorem kerX_nd (n:Nat) (S:List (List Int) × List Int) (i:Nat):(kerX n S i).Nodup:=List.nodup_range.filter _
theorem vc_drop (n:Nat) (r:List Int) (j:Nat):(vc (r.drop n) j:K)=vc r (n + j):=by
 unfold vc
 simp [List.getD,List.getElem?_drop]
theorem vc_app (r r' : List Int) (j:Nat):(vc (r++r') j:K)=if j < r.length then vc r j else vc r' (j - r.length):=by
 unfold vc
 by_cases h:j < r.length
 ·rw [if_pos h]; simp [List.getD,List.getElem?_append_left h]
 rw [if_neg h]; simp [List.getD,List.getElem?_append_right (show r.length≤j by omega)]
theorem vc_unit {n i j:Nat} (hi:i < n):(vc ((List.replicate n (0:Int)).set i 1) j:K)=if j=i then 1 else 0:=by
 unfold vc
 rw [List.getD_eq_getElem?_getD,List.getElem?_set]
 by_cases e:i=j
 ·subst e
  rw [if_pos rfl,if_pos (by simpa using hi),if_pos rfl]
  exact Ring.intCast_one
 rw [if_neg e,if_neg (fun h=>e h.symm),List.getElem?_replicate]
 split
 ·exact Ring.intCast_zero
 exact Ring.intCast_zero
theorem exts_gv {n:Nat} {m:List (List Int)} (hm:m.length=n) (h1:∀ v∈m,v.length=n) {i:Nat} (hi:i < n) (j:Nat):gvK (K:=K) (exts n m n) i j=if j < n then gvK m i j else if j=n + i then 1 else 0:=by
 have e:(exts n m n).getD i []=extR n m i:=by simp [exts,List.getD,List.getElem?_map,List.getElem?_range hi]
 unfold gvK
 rw [e]
 unfold extR
 rw [vc_app,h1 _ (mem_getD (by omega))]
 by_cases hj:j < n
 ·rw [if_pos hj,if_pos hj]
 rw [if_neg hj,if_neg hj,vc_unit hi]
 by_cases e:j=n + i
 ·rw [if_pos e,if_pos (by omega)]
 rw [if_neg e,if_neg (by omega)]
def KerS (n:Nat) (m:List (List Int)) (u:Nat→K):Prop:=(∀ j,n≤j→u j=0)∧∀ j,j < n→sm (fun i=>u i * gvK m i j) n=0
theorem KerS.lin (n : Nat) (m : List (List Int)) : LSub (KerS (K := K) n m) :=
  ⟨⟨fun _ _ => rfl, fun j _ => sm_zero fun i _ => by grind⟩,
   fun u v ⟨a, b⟩ ⟨c, d⟩ => ⟨fun j hj => by show u j + v j = 0; rw [a j hj, c j hj]; grind, fun j hj => by
     have : sm (fun i => (u i + v i) * gvK m i j) n = sm (fun i => u i * gvK m i j) n + sm (fun i => v i * gvK m i j) n := by rw [← sm_add]; exact sm_congr fun i _ => by grind
     show sm (fun i => (u i + v i) * gvK m i j) n = 0
     rw [this, b j hj, d j hj]; grind⟩,
   fun k u ⟨a, b⟩ => ⟨fun j hj => by show k * u j = 0; rw [a j hj]; grind, fun j hj => by
     have : sm (fun i => (k * u i) * gvK m i j) n = k * sm (fun i => u i * gvK m i j) n := by rw [← sm_mul]; exact sm_congr fun i _ => by grind
     show sm (fun i => (k * u i) * gvK m i j) n = 0
     rw [this, b j hj]; grind⟩⟩
theorem ker_spec {p n:Nat} (R:Rd K p) {m:List (List Int)} (hm:m.length=n) (h1:∀ v∈m,v.length=n) (h2:∀ v∈m,rgp p v) :
  (∀ u:Nat→K,SpL (kerR p m) u↔KerS n m u)∧IndV (gvK (K:=K) (kerR p m)) (kerR p m).length:=by
 have hMr:=exts_row (n:=n) h1 (i:=n) (by omega)
 have hMg:=exts_rg (n:=n) R.two h1 h2 (i:=n) (by omega)
 have hml:(exts n m n).length=n:=exts_len _ _ _
 have hri:=redR_ri (W:=n + n) (p:=p) (by have:=R.two; omega) hMr hMg n (by omega)
 obtain ⟨he,hsp⟩:=redR_spec (K:=K) R hMr hMg n (by omega)
 rw [List.take_of_length_le (by omega)] at hsp
 have hk:kerR p m=kerI n (redR p (exts n m n) n) (redR p (exts n m n) n).1.length:=by unfold kerR; rw [hm]
 rw [hk]
 generalize redR p (exts n m n) n=S at *
 rw [kerI_eq]
 have hXm:=fun s=>kerX_mem (n:=n) (S:=S) (i:=S.1.length) (s:=s)
 have hXn:=kerX_nd n S S.1.length
 generalize kerX n S S.1.length=X at *
 have hat:∀ i,i < S.1.length→(S.2.getD i 0).toNat < n + n∧((S.2.getD i 0).toNat:Int)=S.2.getD i 0:=fun i hi=>by
  have:=hri.l4 i (by rw [hri.l1]; exact hi)
  omega
 have hrl:∀ s,s∈X→((S.1.getD s []).length=n + n):=fun s hs=>hri.l2 _ (mem_getD ((hXm s).1 hs).1)
 have hex:∀ w:Nat→K,SpL S.1 w→∀ j,j < n→w j=sm (fun i=>w (n + i) * gvK m i j) n:=fun w hw j hj=>by
  obtain ⟨C,hC⟩:=(hsp w).1 hw
  rw [hml] at hC
  have e1:∀ i,i < n→w (n + i)=C i:=fun i hi=>by
   rw [hC,sm_one (i:=i) hi fun t ht hne=>?_,exts_gv hm h1 hi,if_neg (by omega),if_pos rfl]
   ·grind
   rw [exts_gv hm h1 ht,if_neg (by omega),if_neg (by omega)]; grind
  rw [hC]
  refine sm_congr fun i hi=>?_
  rw [e1 i hi,exts_gv hm h1 hi,if_pos hj]
 have hrow:∀ s∈X,KerS n m (vc (K:=K) ((S.1.getD s []).drop n)):=fun s hs=>by
  obtain ⟨s1,s2⟩:=(hXm s).1 hs
  refine ⟨fun j hj=>?_,fun j hj=>?_⟩
  ·rw [vc_drop]; exact vc_out (by rw [hrl s hs]; omega)
  have h3:=hex _ (SpL.get s1) j hj
  have h4:=he.bef s j s1 (by have:=(hat s s1).2; omega)
  rw [h4] at h3
  rw [sm_congr (g:=fun i=>gvK S.1 s (n + i) * gvK m i j) fun i _=>by rw [vc_drop]; rfl,← h3]
 refine ⟨fun u=>⟨fun hu=>SpL.least (KerS.lin n m) (fun r hr=>?_) hu,fun hu=>?_⟩,?_⟩
 ·obtain ⟨s,hs,rfl⟩:=List.mem_map.1 hr
  exact hrow s hs
 ·obtain ⟨k1,k2⟩:=hu
  have hw:SpL (exts n m n) fun j=>if j < n then (0:K) else u (j - n):=by
   refine ⟨u,fun j=>?_⟩
   rw [hml]
   by_cases hj:j < n
   ·show (if j < n then (0:K) else u (j - n))=_
    rw [if_pos hj,← k2 j hj]
    exact sm_congr fun i hi=>by rw [exts_gv hm h1 hi,if_pos hj]
   show (if j < n then (0:K) else u (j - n))=_
   rw [if_neg hj]
   by_cases hj2:j - n < n
   ·rw [sm_one (i:=j - n) hj2 fun t ht hne=>?_,exts_gv hm h1 hj2,if_neg hj,if_pos (by omega)]
    ·grind
    rw [exts_gv hm h1 ht,if_neg hj,if_neg (by omega)]; grind
   rw [k1 _ (by omega)]
   refine (sm_zero fun t ht=>?_).symm
   rw [exts_gv hm h1 ht,if_neg hj,if_neg (by omega)]; grind
  obtain ⟨C,hC⟩:=(hsp _).2 hw
  have hCk:∀ k,k < S.1.length→k ∉ X→C k=0:=fun k hk hkX=>by
   have h3:=hC (S.2.getD k 0).toNat
   have h4:¬ (n:Int)≤S.2.getD k 0:=fun h=>hkX ((hXm k).2 ⟨hk,h⟩)
   have h5:=(hat k hk).2
   simp only at h3
   rw [if_pos (by omega),sm_one (i:=k) hk fun t ht hne=>by rw [he.at' t k ht hk,if_neg hne]; grind,he.at' k k hk hk,if_pos rfl] at h3
   grind
  have hu2:u=fun j=>sm (fun k=>C k * (if k∈X then gvK S.1 k (n + j) else 0)) S.1.length:=by
   funext j
   have h3:=hC (n + j)
   simp only at h3
   rw [if_neg (by omega),Nat.add_sub_cancel_left] at h3
   rw [h3]
   refine sm_congr fun k hk=>?_
   by_cases hkX:k∈X
   ·rw [if_pos hkX]
   rw [if_neg hkX,hCk k hk hkX]; grind
  rw [hu2]
  refine (SpL.lin _).sum (y:=fun k j=>if k∈X then gvK S.1 k (n + j) else 0) fun k hk=>?_
  by_cases hkX:k∈X
  ·have e:(fun j=>if k∈X then gvK (K:=K) S.1 k (n + j) else 0)=vc ((S.1.getD k []).drop n):=by
    funext j; rw [if_pos hkX,vc_drop]; rfl
   rw [e]
   exact SpL.mem (List.mem_map.2 ⟨k,hkX,rfl⟩)
  have e:(fun j=>if k∈X then gvK (K:=K) S.1 k (n + j) else 0)=fun _=>0:=by funext j; rw [if_neg hkX]
  rw [e]; exact (SpL.lin _).zero
 intro x hx t ht
 rw [List.length_map] at ht hx
 have hXt:X.getD t 0∈X:=mem_getD ht
 obtain ⟨s1,s2⟩:=(hXm _).1 hXt
 have h5:=(hat _ s1).2
 have h3:=hx ((S.2.getD (X.getD t 0) 0).toNat - n)
 have hg:∀ i,i < X.length→gvK (K:=K) (X.map fun s=>(S.1.getD s []).drop n) i ((S.2.getD (X.getD t 0) 0).toNat - n)=gvK S.1 (X.getD i 0) (S.2.getD (X.getD t 0) 0).toNat:=fun i hi=>by
  have e:(X.map fun s=>(S.1.getD s []).drop n).getD i []=(S.1.getD (X.getD i 0) []).drop n:=by
   simp [List.getD,List.getElem?_map,List.getElem?_eq_getElem hi]
  unfold gvK
  rw [e,vc_drop]
  congr 1; omega
 rw [sm_one (i:=t) ht fun i hi hne=>?_,hg t ht,he.at' _ _ s1 s1,if_pos rfl] at h3
 ·grind
 rw [hg i hi,he.at' _ _ ((hXm _).1 (mem_getD (d:=0) hi)).1 s1,if_neg]
 ·grind
 intro e
 refine hne ?_
 exact at_inj hXn hi ht e
end
end Go.Proofs.YtjlmpmidchddjaaDoor

namespace Go.Proofs.YtjlmpmidchddjaaDoor
open Go.Pv
def hdN (d n i k:Nat):List AV:=rwo d n i++List.replicate k (.p .nil)
theorem hdN_len (d n i k:Nat):(hdN d n i k).length=i + k:=by simp [hdN,rwo_len]
theorem hdN_set {d n i k x:Nat} : (hdN d n i (k + 1)).set i (.sl x 0 n)=rwo d n i++(.sl x 0 n :: List.replicate k (.p .nil)):=by
 unfold hdN
 rw [List.set_append_right _ _ (by rw [rwo_len]; exact Nat.le_refl _),rwo_len,Nat.sub_self,List.replicate_succ,List.set_cons_zero]
theorem hdN_next {d n i k:Nat} : rwo d n i++(.sl (i + d) 0 n :: List.replicate k (.p .nil))=hdN d n (i + 1) k:=by
 unfold hdN
 rw [← rwo_snoc,List.append_assoc]; rfl
theorem hdN_at {d n i k x:Nat} (e:AV):(rwo d n i++(AV.sl x 0 n :: List.replicate k (AV.p .nil))).getD i e=AV.sl x 0 n:=by
 simp [List.getD,rwo_len]
theorem hdN_hsc {d n i k x L:Nat} (h:d + i≤L) (hx:x < L):(rwo d n i++(.sl x 0 n :: List.replicate k (AV.p .nil))).all (scA L)=true:=by
 rw [List.all_append,rwo_sc (by omega),Bool.true_and,List.all_cons,Bool.and_eq_true]
 refine ⟨by simp [scA,sc1,hx],List.all_eq_true.2 fun y hy=>?_⟩
 rw [List.eq_of_mem_replicate hy]; rfl
theorem hdN_sc {d n i k L:Nat} (h:d + i≤L):(hdN d n i k).all (scA L)=true:=by
 unfold hdN
 rw [List.all_append,rwo_sc (by omega),Bool.true_and]
 refine List.all_eq_true.2 fun y hy=>?_
 rw [List.eq_of_mem_replicate hy]; rfl
theorem hdN_get {d n i k t:Nat} (h:t < i) (e:AV):(hdN d n i k).getD t e = .sl (t + d) 0 n:=by
 unfold hdN
 rw [List.getD_eq_getElem?_getD,List.getElem?_append_left (by rw [rwo_len]; exact h),← List.getD_eq_getElem?_getD,rwo_get h]
theorem hdN_zero (d n k:Nat):hdN d n 0 k=List.replicate k (.p .nil):=by simp [hdN,rwo]
theorem hdN_full (d n i:Nat):hdN d n i 0=rwo d n i:=by simp [hdN]
theorem leSx {S s:St} {c:List AV} {M:List (List Int)} {L:Nat} (hn:S.n=s.n) (hH:S.H=s.H) (e:s.H = .own c :: tl M) (hL:M.length + 1=L) (hc:c.all (scA L)=true) (hsl:∀ p∈S.sl,s.get p.1=p.2∧scA L p.2=true):Le (List.range L) S s:=by
 have e1:s.H.length=L:=by rw [e]; simp [tl_length]; omega
 subst e1
 refine le_same hn hH (fun b hb=>?_) hsl
 rw [e] at hb
 rcases List.mem_cons.1 hb with rfl | hb
 ·exact hc
 exact tl_hsc _ _ b hb
theorem le_act {S s:St} {n i k:Nat} {M:List (List Int)} (hi:M.length=i) (hn:S.n=s.n) {x v:List Int} (hS:S.H = .own (hdN 1 n (i + 1) k) :: tl (M++[x])) (e:s.H = .own (rwo 1 n i++(.sl (i + 2) 0 n :: List.replicate k (.p .nil))) :: tl (M++[v]++[x]))
  (hsl:LeS (0 :: (List.range' 1 i++[i + 2])) S.sl s):Le (0 :: (List.range' 1 i++[i + 2])) S s:=by
 subst hi
 refine le_of hn ?_ ?_ (fun j hj=>?_) hsl
 ·refine List.nodup_cons.2 ⟨?_,List.nodup_append.2 ⟨List.nodup_range',by simp,fun a ha b hb=>?_⟩⟩
  ·simp only [List.mem_append,List.mem_singleton,List.mem_range'_1]; omega
  simp only [List.mem_singleton,List.mem_range'_1] at ha hb; omega
 ·rw [hS]; simp [tl_length]
 rw [hS] at hj ⊢
 rw [e]
 match j,hj with
 | 0,_ =>
  simp only [LeB,hget,List.getD_cons_zero]
  rw [List.take_of_length_le (by simp [hdN_len,rwo_len]; omega)]
  refine ⟨?_,hdN_sc (by simp; omega)⟩
  rw [← hdN_next,List.map_append,List.map_cons]
  congr 1
  ·refine List.ext_getElem (by simp) fun t h1 h2=>?_
   have ht:t < M.length:=by simpa [rwo_len] using h2
   simp only [rwo,List.getElem_map,List.getElem_range,Go.Pv.ren,ren1,List.getD_cons_succ]
   rw [List.getD_eq_getElem?_getD,List.getElem?_append_left (by simp; exact ht),List.getElem?_range' ht]
   simp; omega
  congr 1
  ·simp only [Go.Pv.ren,ren1,List.getD_cons_succ]
   rw [List.getD_eq_getElem?_getD,List.getElem?_append_right (by simp)]
   simp
  rw [List.map_replicate]; rfl
 | j + 1,hj =>
  have hjq:j < M.length + 1:=by simpa [tl_length] using hj
  simp only [List.getD_cons_succ,hget1]
  rw [hget_tl (by simpa using hjq)]
  by_cases h:j < M.length
  ·rw [List.getD_eq_getElem?_getD,List.getElem?_append_left (by simp; exact h),List.getElem?_range' h]
   refine leB_ol ?_
   simp only [Option.getD_some,Nat.one_mul]
   rw [Nat.add_comm 1 j,hget1,hget_tl (by simp; omega),List.append_assoc]
   simp [List.getD,List.getElem?_append_left h]
  obtain rfl:j=M.length:=by omega
  rw [List.getD_eq_getElem?_getD,List.getElem?_append_right (by simp)]
  refine leB_ol ?_
  simp only [List.length_range',Nat.sub_self,List.getElem?_cons_zero,Option.getD_some]
  rw [hget1,hget_tl (by simp)]
  simp [List.getD]
theorem gX1 {X:Heap} {z:Nat} (h:X.length=z) (o h' : Blk) (T:Heap):hget (o :: (X++(h' :: T))) (z + 1)=h':=by
 rw [hget1,hget_app2 (by omega),h,Nat.sub_self]; rfl
theorem gX2 {X:Heap} {z i:Nat} (h:X.length=z) (o h' : Blk) {M:List (List Int)} (hi:i < M.length):hget (o :: (X++(h' :: tl M))) (i + (z + 2)) = .own (ol (M.getD i [])):=by
 rw [show i + (z + 2)=z + (i + 1) + 1 by omega,hget1,hget_app2 (by omega),h,Nat.add_sub_cancel_left,hget1,hget_tl hi]
theorem sX1 {X:Heap} {z:Nat} (h:X.length=z) (o h' b:Blk) (T:Heap):hset (o :: (X++(h' :: T))) (z + 1) b=o :: (X++(b :: T)):=by
 rw [hset1,hset_eq,List.set_append_right _ _ (by omega),h,Nat.sub_self]; rfl
theorem sX2 {X:Heap} {z i:Nat} (h:X.length=z) (o h' : Blk) {M:List (List Int)} (w:List Int):hset (o :: (X++(h' :: tl M))) (i + (z + 2)) (.own (ol w))=o :: (X++(h' :: tl (M.set i w))):=by
 rw [show i + (z + 2)=z + (i + 1) + 1 by omega,hset1,hset_eq,List.set_append_right _ _ (by omega),h,Nat.add_sub_cancel_left,List.set_cons_succ,← hset_eq,hset_tl]
theorem gX3 {X:Heap} {T:Heap} {z t:Nat} (h:X.length=z) (ht:T.length=t) (o h' b:Blk):hget (o :: (X++(h' :: (T++[b])))) (z + (t + 1) + 1)=b:=by
 rw [hget1,hget_app2 (by omega),h,Nat.add_sub_cancel_left,hget1,hget_app2 (by omega),ht,Nat.sub_self]; rfl
theorem gX4 {X:Heap} {T:Heap} {z t:Nat} (h:X.length=z) (ht:T.length=t) (o h' a b:Blk):hget (o :: (X++(h' :: (T++([a]++[b]))))) (z + (t + 1 + 1) + 1)=b:=by
 rw [show T++([a]++[b])=(T++[a])++[b] by simp]
 exact gX3 h (by simp [ht]) o h' b
theorem gX5 {X:Heap} {T:Heap} {z i:Nat} (h:X.length=z) (hi:i < T.length) (o h' : Blk) (Y:Heap):hget (o :: (X++(h' :: (T++Y)))) (z + 2 + i)=hget T i:=by
 rw [show z + 2 + i=z + (i + 1) + 1 by omega,hget1,hget_app2 (by omega),h,Nat.add_sub_cancel_left,hget1,hget_app1 hi]
theorem leSy {S s:St} {c:List AV} {X:Heap} {o:List AV} {M:List (List Int)} {z L:Nat} (hX:X.length=z) (hn:S.n=s.n) (hH:S.H=s.H) (e:s.H = .own o :: (X++(.own c :: tl M))) (hL:M.length + z + 2=L) (hc:c.all (scA L)=true) (ho:o.all (scA L)=true) (hXs:∀ b∈X,hsc L b=true) (hsl:∀ p∈S.sl,s.get p.1=p.2∧scA L p.2=true):Le (List.range L) S s:=by
 have e1:s.H.length=L:=by rw [e]; simp [tl_length,hX]; omega
 subst e1
 refine le_same hn hH (fun b hb=>?_) hsl
 rw [e] at hb
 rcases List.mem_cons.1 hb with rfl | hb
 ·exact ho
 rcases List.mem_append.1 hb with hb | hb
 ·exact hXs b hb
 rcases List.mem_cons.1 hb with rfl | hb
 ·exact hc
 exact tl_hsc _ _ b hb
theorem chS_hsc {W b L:Nat} {Sp:List (List (List Int))} (h:b + szS Sp≤L):∀ x∈chS W b Sp,hsc L x=true:=fun x hx=>by
 obtain ⟨j,hj⟩:=List.getElem?_of_mem hx
 have hjl:=(List.getElem?_eq_some_iff.1 hj).1
 rw [chS_len] at hjl
 have e:hget (chS W b Sp) j=x:=by rw [hget_eq,List.getD_eq_getElem?_getD,hj]; rfl
 rcases chS_blk W b Sp j hjl with ⟨v,hv⟩ | ⟨d,q,hv,h1,h2⟩
 ·rw [← e,hv]; exact ol_sc _ _
 rw [← e,hv]; exact rwo_sc (by omega)
theorem hdS_sc {b L:Nat} {Sp:List (List (List Int))} (h:b + szS Sp≤L):(hdS b Sp).all (scA L)=true:=by
 rw [List.all_eq_true]
 intro x hx
 obtain ⟨c,l,rfl,h1,h2⟩:=hdS_sl b Sp x hx
 simp [scA,sc1]; omega
theorem splI_step {p : Nat} {s a : List (List Int)} {left : Int} {v : Nat} {out : List (List (List Int))} (h1 : v < p) (h2 : 0 < left) : splI p s a (p - v) left v out = if kerR p (sbM p v a s.length) = [] then splI p s a (p - (v + 1)) left (v + 1) out
       else splI p s a (p - (v + 1)) (left - (kerR p (sbM p v a s.length)).length) (v + 1) (out ++ [(kerR p (sbM p v a s.length)).map (cmR p s)]) := by
  rw [show p - v = (p - (v + 1)) + 1 by omega, splI, if_pos ⟨h1, h2⟩]
theorem splI_stop {p:Nat} {s a:List (List Int)} {f:Nat} {left:Int} {v:Nat} {out:List (List (List Int))} (h:f=0∨¬ (v < p∧0 < left)):splI p s a f left v out=out:=by
 cases f with
 | zero=>rfl
 | succ f=>rw [splI,if_neg (by rcases h with h | h; cases h; exact h)]
theorem split1_c {p W : Nat} (w : List Int) (m : PV) : FnM Tryd.prog 44 [.p (.int .i64 p), .sl 0 0 1, .p m] [.own (rwo 1 W 1), .own (ol w)] (.sl 2 0 1) [.own (rwo 1 W 1), .own (ol w), .own [.sl 0 0 1]] := by
  refine fnm_of tab_ok Tryd.func44 rfl (by kernel_rfl) (by rw [Tryd.ntmps44]; exact Nat.le_add_left 3 _) ?_; rw [Tryd.ntmps44]; simp only [ancs, entA, List.length_cons, List.length_nil, List.cons_append, List.nil_append, Nat.reduceAdd, Nat.zero_add]
  refine qm ?_
  refine hk_region fun K hK => runs_eval tab_ok ?_
  simp only [evz, fl, gp, tab, simprocAttr]
  refine fin_run trivial (hK _ ?_) <;> clear hK <;> clear K
  refine qa (qm (qm ?_))
  refine hk_region fun K hK => runs_eval tab_ok ?_
  simp only [evz, fl, gp, tab, simprocAttr]
  refine fin_run trivial (hK _ ?_) <;> clear hK <;> clear K
  refine qa ?_
  refine hk_cond rfl (fun hC1 => ?_) (fun hC1 => ?_)
  · (try simp only [nhs] at hC1)
    refine qm ?_
    refine hk_region fun K hK => runs_eval tab_ok ?_
    simp only [evz, fl, gp, tab, simprocAttr]
    refine fin_stop ?_ (runs_op (build1_does tab_ok rfl rfl rfl rfl rfl rfl) rfl (by simp only [dstOk, Nat.reduceLT]) (runs_eval tab_ok ?_))
    · (first | exact trivial | omega | (simp only [In64] at *; omega) | (simp [In64] at *; omega) | (simp_all; done) | skip)
    simp only [evz, fl, gp, tab, simprocAttr]
    refine fin_run ?_ (hK _ ?_) <;> clear hK <;> clear K
    · (first | exact trivial | omega | (simp only [In64] at *; omega) | (simp [In64] at *; omega) | (simp_all; done) | skip)
    refine qa (qk (qb ?_))
    simp only [Tryd.results44, PostG, endG, rvsA, rvA, mkTup, evz, fl, gp, tab, simprocAttr]
    refine ⟨[0, 1, 4, 2, 3], rfl, rfl, le_of rfl (by decide) rfl (fun j hj => ?_) trivial⟩
    match j, hj with
    | 0, _ => exact leB_rwo rfl fun i hi => ⟨by simp; omega, by obtain rfl : i = 0 := by omega
                                                                rfl⟩
    | 1, _ => exact leB_ol rfl
    | 2, _ => exact ⟨rfl, rfl⟩
    | 3, _ => exact leB_anc rfl (by decide) rfl
    | 4, _ => exact leB_anc rfl (by decide) rfl
  · (try simp only [nhs] at hC1)
    first | exact absurd rfl hC1 | exact hC1.elim | cases hC1 | (simp at hC1; done)
theorem dot_rng {p:Nat} (hp:p≤1000000) {v a x:Int} (h1:0≤v∧v < p) (h2:0≤a∧a≤1000) (h3:0≤x∧x < p):0≤v + a * x∧In64 (a * x)∧In64 (v + a * x):=by
 have h4:=Int.mul_nonneg h2.1 h3.1
 have h5:a * x≤1000 * 1000000:=Int.mul_le_mul h2.2 (by omega) h3.1 (by omega)
 simp only [In64]; omega
set_option maxHeartbeats 8000000 in
set_option maxRecDepth 20000 in
theorem split2_c {p W:Nat} (hp2:2≤p) (hp:p≤1000000) (hW:0 < W) (hW2:W≤100) (s m:List (List Int)) (hs1:s.length ≠ 1) (hs2:s.length≤100) (h1:∀ v∈s,v.length=W) (h2:∀ v∈s,rgp p v) (hm:m.length=W) (hm1:∀ v∈m,v.length=W) (hm2:∀ v∈m,∀ j,0≤v.getD j 0∧v.getD j 0≤1000) :
  FnG Tryd.prog 44 [.int .i64 p,.list (ll s),.list (ll m)] (.sl 0 0 (splR p s m).length) (.own (hdS 1 (splR p s m)) :: chS W 1 (splR p s m)):=by
 have hsi:¬ (s.length:Int)=1:=by omega
 have hri:=redR_ri (W:=W) (p:=p) (by omega) h1 h2 s.length (Nat.le_refl _)
 have hql:=redR_len p s s.length
 have hred:=reduce_c hp2 hp hW (by omega) s (by omega) h1 h2
 have hspl:splR p s m=splI p (redR p s s.length).1 (actM p m (redR p s s.length).1 (redR p s s.length).2 (redR p s s.length).1.length) p (redR p s s.length).1.length 0 []:=by rw [splR,if_neg hs1]
 rw [hspl]
 generalize redR p s s.length=Z at *
 obtain ⟨s',at'⟩:=Z
 obtain ⟨l1,l2,l3,l4⟩:=hri
 simp only at l1 l2 l3 l4 hql hred ⊢
 obtain ⟨n,hn⟩:∃ n,s'.length=n:=⟨_,rfl⟩
 rw [hn] at l1 hql ⊢
 have hn100:n≤100:=by omega
 refine fng_of tab_ok Tryd.func44 rfl (by kernel_rfl) (by rw [Tryd.ntmps44]; exact Nat.le_add_left 3 _) ?_; rw [Tryd.ntmps44]
 refine qm ?_
 refine hk_region fun K hK=>runs_eval tab_ok ?_
 simp only [evz,fl,gp,tab,simprocAttr]
 refine fin_run trivial (hK _ ?_)<;>clear hK K
 refine qa (qm (qm ?_))
 refine hk_region fun K hK=>runs_eval tab_ok ?_
 simp only [evz,fl,gp,tab,simprocAttr,ll_length]
 refine fin_run trivial (hK _ ?_)<;>clear hK K
 refine qa ?_
 refine hk_cond rfl (fun hC1=>?_) (fun hC1=>?_)
 ·(try simp only [nhs] at hC1)
  omega
 (try simp only [nhs] at hC1)
 refine qh (qa (qm ?_))
 refine hk_region fun K hK=>runs_eval tab_ok ?_
 simp only [evz,fl,gp,tab,simprocAttr]
 refine fin_stop trivial (runs_call (hred) rfl rfl rfl (by simp only [dstOk,Nat.reduceLT]) (by repeat (first|exact trivial|constructor)) (runs_eval tab_ok ?_))
 simp only [evz,fl,gp,tab,simprocAttr]
 refine fin_run trivial (hK _ ?_)<;>clear hK K
 refine qa (qm ?_)
 refine hk_region fun K hK=>runs_eval tab_ok ?_
 simp only [evz,fl,gp,tab,simprocAttr,ll_length,hn]
 refine fin_run trivial (hK _ ?_)<;>clear hK K
 refine qa (qm ?_)
 refine hk_region fun K hK=>runs_eval tab_ok ?_
 simp only [evz,fl,gp,tab,simprocAttr]
 refine fin_run ?_ (hK _ ?_)<;>clear hK K
 ·(first|exact trivial|omega|(simp only [In64] at *; omega)|(simp [In64] at *; omega)|(simp_all; done)|skip)
 refine qa (qm (qm ?_))
 refine hk_region fun K hK=>runs_eval tab_ok ?_
 simp only [evz,fl,gp,tab,simprocAttr,ll_length,hn]
 refine fin_run trivial (hK _ ?_)<;>clear hK K
 refine qa (ql ?_)
 refine hk_loop (ι:=Nat) (fun i=>⟨224,[(0,.p (.int .i64 p)),(1,.p (.list (ll s'))),(2,.p (.list (ll m))),(7,.p (.list (il at'))),(8,.p (.int .i64 n)),(9,.sl 0 0 n),(47,.p (.list (ll s'))),(48,.p (.int .i64 n)),(49,.p (.int .i64 i))],.own (hdN 1 n i (n - i)) :: tl (actM p m s' at' i)⟩) (fun i=>i≤n) (fun i=>n - i) 0 (Nat.zero_le _) [0] (by simp only [leq,leA,evz,fl,gp,tab,simprocAttr]<;>simp [hdN_zero,actM,tl,LeH,Go.Pv.ren,ren1,scA,sc1]) fun i hi=>?_
 refine qm ?_
 refine hk_region fun K hK=>runs_eval tab_ok ?_
 simp only [evz,fl,gp,tab,simprocAttr]
 refine fin_run trivial (hK _ ?_)<;>clear hK K
 refine qa (qm ?_)
 refine hk_cond rfl (fun hC2=>?_) (fun hC2=>?_)
 ·(try simp only [nhs] at hC2)
  have hin:i < n:=by omega
  obtain ⟨w,hw⟩:∃ w,s'.getD i []=w:=⟨_,rfl⟩
  have hwl:w.length=W:=by rw [← hw]; exact l2 _ (mem_getD (by omega))
  have hwg:rgp p w:=by rw [← hw]; exact l3 _ (mem_getD (by omega))
  obtain ⟨A,hA⟩:∃ A,actM p m s' at' i=A:=⟨_,rfl⟩
  have hAl:A.length=i:=by rw [← hA,actM_len]
  rw [hA]
  refine qh (qa (qm (ql (qm ?_))))
  refine hk_region fun K hK=>runs_eval tab_ok ?_
  simp only [evz,fl,gp,tab,simprocAttr,ll_length,ll_get (show i < s'.length by omega),hw]
  refine fin_run ?_ (hK _ ?_)<;>clear hK K
  ·omega
  refine qa (qm ?_)
  refine hk_region fun K hK=>runs_eval tab_ok ?_
  simp only [evz,fl,gp,tab,simprocAttr,ll_length,hm,tl_length,hAl,ol_replicate]
  refine fin_run ?_ (hK _ ?_)<;>clear hK K
  ·(first|exact trivial|omega|(simp only [In64] at *; omega)|(simp [In64] at *; omega)|(simp_all; done)|skip)
  refine qa (qm (qm ?_))
  refine hk_region fun K hK=>runs_eval tab_ok ?_
  simp only [evz,fl,gp,tab,simprocAttr,ll_length,hm]
  refine fin_run trivial (hK _ ?_)<;>clear hK K
  refine qa (ql ?_)
  refine hk_loop (ι:=Nat) (fun j=>⟨224,[(0,.p (.int .i64 p)),(1,.p (.list (ll s'))),(2,.p (.list (ll m))),(7,.p (.list (il at'))),(8,.p (.int .i64 n)),(9,.sl 0 0 n),(10,.p (.int .i64 i)),(11,.p (.list (il w))),(12,.sl (i + 1) 0 W),(47,.p (.list (ll s'))),(48,.p (.int .i64 n)),(49,.p (.int .i64 i)),(58,.p (.int .i64 W)),(59,.p (.int .i64 j))],.own (hdN 1 n i (n - i)) :: tl (A++[vI p m w j 0])⟩) (fun j=>j≤W) (fun j=>W - j) 0 (Nat.zero_le _) (List.range (i + 2)) (leSx (c:=hdN 1 n i (n - i)) (M:=A++[List.replicate W 0]) rfl (by simp [vI_zero,hm,tl]) (by simp [tl]) (by simp [hAl]) (hdN_sc (by omega)) (by
   simp [St.get,lk,scA,sc1,hm]<;>omega)) fun j hj=>?_
  refine qm ?_
  refine hk_region fun K hK=>runs_eval tab_ok ?_
  simp only [evz,fl,gp,tab,simprocAttr]
  refine fin_run trivial (hK _ ?_)<;>clear hK K
  refine qa (qm ?_)
  refine hk_cond rfl (fun hC3=>?_) (fun hC3=>?_)
  ·(try simp only [nhs] at hC3)
   have hjW:j < W:=by omega
   obtain ⟨b,hb⟩:∃ b,m.getD j []=b:=⟨_,rfl⟩
   have hbl:b.length=W:=by rw [← hb]; exact hm1 _ (mem_getD (by omega))
   have hbg:∀ t,0≤b.getD t 0∧b.getD t 0≤1000:=by rw [← hb]; exact hm2 _ (mem_getD (by omega))
   refine qh (qa (qm (ql (qm ?_))))
   refine hk_region fun K hK=>runs_eval tab_ok ?_
   simp only [evz,fl,gp,tab,simprocAttr]
   refine fin_run trivial (hK _ ?_)<;>clear hK K
   refine qa (qm ?_)
   refine hk_region fun K hK=>runs_eval tab_ok ?_
   simp only [evz,fl,gp,tab,simprocAttr]
   refine fin_run trivial (hK _ ?_)<;>clear hK K
   refine qa (ql ?_)
   refine hk_loop (ι:=Nat) (fun k=>⟨224,[(0,.p (.int .i64 p)),(1,.p (.list (ll s'))),(2,.p (.list (ll m))),(7,.p (.list (il at'))),(8,.p (.int .i64 n)),(9,.sl 0 0 n),(10,.p (.int .i64 i)),(11,.p (.list (il w))),(12,.sl (i + 1) 0 W),(13,.p (.int .i64 j)),(47,.p (.list (ll s'))),(48,.p (.int .i64 n)),(49,.p (.int .i64 i)),(58,.p (.int .i64 W)),(59,.p (.int .i64 j)),(62,.p (.list (il w))),(63,.p (.int .i64 W)),(64,.p (.int .i64 k))],.own (hdN 1 n i (n - i)) :: tl (A++[vI p m w j k])⟩) (fun k=>k≤W) (fun k=>W - k) 0 (Nat.zero_le _) (List.range (i + 2)) (leSx (c:=hdN 1 n i (n - i)) (M:=A++[vI p m w j 0]) rfl rfl rfl (by simp [hAl]) (hdN_sc (by omega)) (by
    simp [St.get,lk,scA,sc1,il_length,hwl]<;>omega)) fun k hk=>?_
   obtain ⟨v,hv⟩:∃ v,vI p m w j k=v:=⟨_,rfl⟩
   have hvl:v.length=W:=by rw [← hv,vI_len,hm]
   rw [hv]
   refine qm ?_
   refine hk_region fun K hK=>runs_eval tab_ok ?_
   simp only [evz,fl,gp,tab,simprocAttr]
   refine fin_run trivial (hK _ ?_)<;>clear hK K
   refine qa (qm ?_)
   refine hk_cond rfl (fun hC4=>?_) (fun hC4=>?_)
   ·(try simp only [nhs] at hC4)
    have hkW:k < W:=by omega
    have hvj:v.getD j 0=dotI p b w k:=by rw [← hv,vI_get (by omega),hb]
    have hgv:hget (tl (A++[v])) i = .own (ol v):=by rw [hget_tl (by simp [hAl]),← hAl,getD_last]
    have hsv:∀ x,hset (tl (A++[v])) i (.own (ol x))=tl (A++[x]):=fun x=>by rw [hset_tl,← hAl,set_last]
    have hst:v.set j ((dotI p b w k + b.getD k 0 * w.getD k 0) % (p:Int))=vI p m w j (k + 1):=by
     have:=vI_set (p:=p) (m:=m) (w:=w) (j:=j) (k:=k)
     rw [hv,hb] at this
     rw [← this,dotI]
    have hd:=dotI_rg (p:=p) (by omega) b w k
    have hr:=dot_rng hp hd (hbg k) (hwg k)
    have htm:Int.tmod (dotI p b w k + b.getD k 0 * w.getD k 0) p=(dotI p b w k + b.getD k 0 * w.getD k 0) % p:=Int.tmod_eq_emod_of_nonneg hr.1
    refine qh (qa (qm (ql (qm ?_))))
    refine hk_region fun K hK=>runs_eval tab_ok ?_
    simp only [evz,fl,gp,tab,simprocAttr,il_get (show k < w.length by omega)]
    refine fin_run ?_ (hK _ ?_)<;>clear hK K
    ·omega
    refine qa ?_
    refine hk_draw mixed (by kernel_rfl) fun K hK=>runs_eval tab_ok ?_
    simp only [evz,fl,gp,tab,simprocAttr,hget1,hset1,hgv,ol_get (show j < v.length by omega),ll_get (show j < m.length by omega),hb,il_get (show k < b.length by omega),hvj,htm,ol_set,hsv,hst]
    refine fin_run ?_ (hK _ ?_)<;>clear hK K
    ·obtain ⟨_,r2,r3⟩:=hr
     simp only [In64] at *; omega
    refine qd (qa ?_)
    refine hk_region fun K hK=>runs_eval tab_ok ?_
    simp only [evz,fl,gp,tab,simprocAttr]
    refine fin_run ?_ (hK _ ?_)<;>clear hK K
    ·(first|exact trivial|omega|(simp only [In64] at *; omega)|(simp [In64] at *; omega)|(simp_all; done)|skip)
    refine qa ?_
    refine ⟨k + 1,List.range (i + 2),by omega,by omega,leSx (c:=hdN 1 n i (n - i)) (M:=A++[vI p m w j (k + 1)]) rfl rfl rfl (by simp [hAl]) (hdN_sc (by omega)) (by
     simp [St.get,lk,scA,sc1]<;>omega)⟩
   (try simp only [nhs] at hC4)
   have hkW:k=W:=by omega
   have hvn:v=vI p m w (j + 1) 0:=by rw [← hv,hkW,← hwl,vI_next]
   refine qj (qc (qc (qf (qd (qa ?_)))))
   refine hk_region fun K hK=>runs_eval tab_ok ?_
   simp only [evz,fl,gp,tab,simprocAttr]
   refine fin_run ?_ (hK _ ?_)<;>clear hK K
   ·(first|exact trivial|omega|(simp only [In64] at *; omega)|(simp [In64] at *; omega)|(simp_all; done)|skip)
   refine qa ?_
   refine ⟨j + 1,List.range (i + 2),by omega,by omega,leSx (c:=hdN 1 n i (n - i)) (M:=A++[v]) rfl (by rw [hvn]) rfl (by simp [hAl]) (hdN_sc (by omega)) (by
    simp [St.get,lk,scA,sc1]<;>omega)⟩
  (try simp only [nhs] at hC3)
  have hjW:j=W:=by omega
  have hve:vI p m w j 0=mvR p m w:=by rw [hjW,← hm,vI_end]
  have hnk:n - i=(n - i - 1) + 1:=by omega
  rw [hve]
  obtain ⟨v,hv⟩:∃ v,mvR p m w=v:=⟨_,rfl⟩
  have hvl:v.length=W:=by rw [← hv,mvR_len,hm]
  rw [hv]
  obtain ⟨c,hc⟩:∃ c,n - i=c + 1:=⟨n - i - 1,by omega⟩
  rw [hc]
  have hvg:rgp p v:=by rw [← hv]; exact mvR_rg (by omega) m w
  refine qj (qc (qc (qf (qa (qm ?_)))))
  refine hk_region fun K hK=>runs_eval tab_ok ?_
  simp only [evz,fl,gp,tab,simprocAttr,tl_length,hAl,List.length_append,ol_replicate,hdN_set,hdN_len]
  refine fin_run ?_ (hK _ ?_)<;>clear hK K
  ·omega
  refine qa (qm ?_)
  refine hk_region fun K hK=>runs_eval tab_ok ?_
  simp only [evz,fl,gp,tab,simprocAttr,il_length,l1]
  refine fin_run trivial (hK _ ?_)<;>clear hK K
  refine qa (ql ?_)
  refine hk_loop (ι:=Nat) (fun q=>⟨224,[(0,.p (.int .i64 p)),(1,.p (.list (ll s'))),(2,.p (.list (ll m))),(7,.p (.list (il at'))),(8,.p (.int .i64 n)),(9,.sl 0 0 n),(10,.p (.int .i64 i)),(12,.sl (i + 1) 0 W),(47,.p (.list (ll s'))),(48,.p (.int .i64 n)),(49,.p (.int .i64 i)),(95,.p (.list (il at'))),(96,.p (.int .i64 n)),(97,.p (.int .i64 q))],.own (rwo 1 n i++(.sl (i + 2) 0 n :: List.replicate c (.p .nil))) :: tl (A++[v]++[actI v at' q])⟩) (fun q=>q≤n) (fun q=>n - q) 0 (Nat.zero_le _) (List.range (i + 3)) (leSx (c:=rwo 1 n i++(.sl (i + 2) 0 n :: List.replicate c (.p .nil))) (M:=A++[v]++[List.replicate n 0]) rfl (by simp [actI,updR_start,l1,tl]) (by simp [tl]) (by simp [hAl]) (hdN_hsc (by omega) (by omega)) (by
   simp [St.get,lk,scA,sc1]<;>omega)) fun q hq=>?_
  obtain ⟨x,hx⟩:∃ x,actI v at' q=x:=⟨_,rfl⟩
  have hxl:x.length=n:=by rw [← hx,actI,updR_len,List.length_replicate,l1]
  rw [hx]
  refine qm ?_
  refine hk_region fun K hK=>runs_eval tab_ok ?_
  simp only [evz,fl,gp,tab,simprocAttr]
  refine fin_run trivial (hK _ ?_)<;>clear hK K
  refine qa (qm ?_)
  refine hk_cond rfl (fun hC5=>?_) (fun hC5=>?_)
  ·(try simp only [nhs] at hC5)
   have hqn:q < n:=by omega
   obtain ⟨t,ht⟩:∃ t:Nat,at'.getD q 0=(t:Int):=⟨(at'.getD q 0).toNat,by have:=l4 q (by omega); omega⟩
   have htW:t < W:=by have:=l4 q (by omega); omega
   have hgv:hget (tl (A++[v]++[x])) i = .own (ol v):=by rw [hget_tl (by simp [hAl]<;>omega),getD_app _ _ (by simp [hAl]<;>omega),← hAl,getD_last]
   have hgx:hget (tl (A++[v]++[x])) (i + 1) = .own (ol x):=by rw [hget_tl (by simp [hAl]),show i + 1=(A++[v]).length by simp [hAl],getD_last]
   have hsx:∀ y,hset (tl (A++[v]++[x])) (i + 1) (.own (ol y))=tl (A++[v]++[y]):=fun y=>by rw [hset_tl,show i + 1=(A++[v]).length by simp [hAl],set_last]
   have hst:x.set q (v.getD t 0)=actI v at' (q + 1):=by
    rw [← hx]
    have:=updR_set (f:=fun t=>v.getD (at'.getD t 0).toNat 0) (u:=List.replicate at'.length 0) (Nat.zero_le q) (by rw [List.length_replicate]; omega)
    rw [ht,Int.toNat_natCast] at this
    exact this
   have hcl:(rwo 1 n i++(AV.sl (i + 2) 0 n :: List.replicate c (AV.p .nil))).length=n:=by simp [rwo_len]; omega
   refine qh (qa (qm (ql (qm ?_))))
   refine hk_region fun K hK=>runs_eval tab_ok ?_
   simp only [evz,fl,gp,tab,simprocAttr,il_get (show q < at'.length by omega),ht]
   refine fin_run ?_ (hK _ ?_)<;>clear hK K
   ·omega
   refine qa ?_
   refine hk_draw mixed (by kernel_rfl) fun K hK=>runs_eval tab_ok ?_
   simp only [evz,fl,gp,tab,simprocAttr,hdN_at,hcl,hget1,hset1,hgv,hgx,ol_get (show t < v.length by omega),ol_set,hsx,hst]
   refine fin_run ?_ (hK _ ?_)<;>clear hK K
   ·omega
   refine qd (qa ?_)
   refine hk_region fun K hK=>runs_eval tab_ok ?_
   simp only [evz,fl,gp,tab,simprocAttr]
   refine fin_run ?_ (hK _ ?_)<;>clear hK K
   ·(first|exact trivial|omega|(simp only [In64] at *; omega)|(simp [In64] at *; omega)|(simp_all; done)|skip)
   refine qa ?_
   refine ⟨q + 1,List.range (i + 3),by omega,by omega,leSx (c:=rwo 1 n i++(.sl (i + 2) 0 n :: List.replicate c (.p .nil))) (M:=A++[v]++[actI v at' (q + 1)]) rfl rfl rfl (by simp [hAl]) (hdN_hsc (by omega) (by omega)) (by
    simp [St.get,lk,scA,sc1]<;>omega)⟩
  (try simp only [nhs] at hC5)
  have hqn:q=n:=by omega
  have hxe:x=actR p m at' w:=by rw [← hx,hqn,← hv,← l1,actI_end]
  have hA1:actM p m s' at' (i + 1)=A++[x]:=by rw [actM_succ,hA,hw,hxe]
  refine qj (qc (qc (qf (qd (qa ?_)))))
  refine hk_region fun K hK=>runs_eval tab_ok ?_
  simp only [evz,fl,gp,tab,simprocAttr]
  refine fin_run ?_ (hK _ ?_)<;>clear hK K
  ·(first|exact trivial|omega|(simp only [In64] at *; omega)|(simp [In64] at *; omega)|(simp_all; done)|skip)
  refine qa ?_
  refine ⟨i + 1,0 :: (List.range' 1 i++[i + 2]),by omega,by omega,?_⟩
  refine le_act (n:=n) (k:=c) (x:=x) (v:=v) hAl rfl ?_ rfl (by simp [LeS,St.get,lk,Go.Pv.ren,ren1,scA,sc1])
  show _=_
  rw [hA1,show n - (i + 1)=c by omega]
 (try simp only [nhs] at hC2)
 have hin:i=n:=by omega
 rw [hin,Nat.sub_self,hdN_full]
 obtain ⟨a,ha⟩:∃ a,actM p m s' at' n=a:=⟨_,rfl⟩
 have hal:a.length=n:=by rw [← ha,actM_len]
 have har:∀ v∈a,v.length=n:=fun v hv=>by
  rw [← ha] at hv
  obtain ⟨t,_,rfl⟩:=List.mem_map.1 hv
  rw [actR_len,l1]
 have hag:∀ v∈a,rgp p v:=fun v hv=>by
  rw [← ha] at hv
  obtain ⟨t,_,rfl⟩:=List.mem_map.1 hv
  exact actR_rg (by omega) m at' _
 rw [ha]
 refine qj (qc (qc (qf (qa (qm ?_)))))
 refine hk_rowsX 9 0 1 n hal har rfl (.inl (by omega)) rfl (fun i hi=>?_) fun H' a1 a2=>?_
 ·rw [Nat.add_comm 1 i,hget1,hget_tl (by omega)]
 have hHl:H'.length=n + 1:=by rw [a1]; simp [tl_length,hal]
 refine hk_region fun K hK=>runs_eval tab_ok ?_
 simp only [evz,fl,gp,tab,simprocAttr]
 refine fin_run trivial (hK _ ?_)<;>clear hK K
 refine qa (qm ?_)
 refine hk_own0 18 rfl ?_
 refine hk_region fun K hK=>runs_eval tab_ok ?_
 simp only [evz,fl,gp,tab,simprocAttr]
 refine fin_run trivial (hK _ ?_)<;>clear hK K
 refine qa (qm (qm ?_))
 refine hk_region fun K hK=>runs_eval tab_ok ?_
 simp only [evz,fl,gp,tab,simprocAttr]
 refine fin_run trivial (hK _ ?_)<;>clear hK K
 refine qa (ql ?_)
 refine hk_loop (ι:=Nat × Int × List (List (List Int))) (fun x=>⟨224,[(0,.p (.int .i64 p)),(1,.p (.list (ll s'))),(8,.p (.int .i64 n)),(9,.p (.list (ll a))),(18,.sl 0 0 x.2.2.length),(19,.p (.int .i64 x.2.1)),(20,.p (.int .i64 x.1))],.own (hdS 1 x.2.2) :: chS W 1 x.2.2⟩) (fun x=>x.1≤p∧-1000≤x.2.1∧x.2.1≤n∧x.2.2.length≤x.1∧splI p s' a (p - x.1) x.2.1 x.1 x.2.2=splI p s' a p n 0 []) (fun x=>p - x.1) (0,(n:Int),[]) ⟨Nat.zero_le _,by simp only; omega,by simp only; omega,Nat.le_refl _,rfl⟩ ((n + 1) :: (List.range' 1 (szS [])++[])) (le_chs (W:=W) (Sp:=[]) rfl rfl (.inr (by simp [szS])) (by show hget (H'++[.own []]) (n + 1)=_; rw [← hHl]; exact hget_snoc H' _) (fun j hj=>by simp [szS] at hj) (by simp [LeS,St.get,lk,Go.Pv.ren,ren1,scA,sc1,szS,hHl])) fun x hx=>?_
 obtain ⟨v,left,Out⟩:=x
 obtain ⟨x1,x2,x3,x4,x5⟩:=hx
 simp only at x1 x2 x3 x4 x5
 obtain ⟨z,hz⟩:∃ z,szS Out=z:=⟨_,rfl⟩
 obtain ⟨X,hX⟩:∃ X,chS W 1 Out=X:=⟨_,rfl⟩
 have hXl:X.length=z:=by rw [← hX,chS_len,hz]
 rw [hX]
 refine qm (qm ?_)
 rcases Nat.lt_or_ge v p with hvp | hvp
 ·refine hk_region fun K hK=>runs_eval tab_ok ?_
  simp only [evz,fl,gp,tab,simprocAttr,decide_eq_true (show (v:Int) < (p:Int) by omega)]
  refine fin_run trivial (hK _ ?_)<;>clear hK K
  refine qa ?_
  refine hk_cond rfl (fun hC6=>?_) (fun hC6=>?_)
  ·(try simp only [nhs] at hC6)
   have hlp:0 < left:=by simpa using hC6
   have hstep:=splI_step (s:=s') (a:=a) (out:=Out) hvp hlp
   rw [x5,hn] at hstep
   refine qh (qa (qm (ql (qm ?_))))
   refine hk_region fun K hK=>runs_eval tab_ok ?_
   simp only [evz,fl,gp,tab,simprocAttr,hXl,List.length_append]
   refine fin_run ?_ (hK _ ?_)<;>clear hK K
   ·(first|exact trivial|omega|(simp only [In64] at *; omega)|(simp [In64] at *; omega)|(simp_all; done)|skip)
   refine qa (qm (qm ?_))
   refine hk_region fun K hK=>runs_eval tab_ok ?_
   simp only [evz,fl,gp,tab,simprocAttr,ll_length,hal]
   refine fin_run trivial (hK _ ?_)<;>clear hK K
   refine qa (ql ?_)
   refine hk_loop (ι:=Nat) (fun i=>⟨224,[(0,.p (.int .i64 p)),(1,.p (.list (ll s'))),(8,.p (.int .i64 n)),(9,.p (.list (ll a))),(18,.sl 0 0 Out.length),(19,.p (.int .i64 left)),(20,.p (.int .i64 v)),(21,.sl (z + 1) 0 n),(127,.p (.int .i64 n)),(128,.p (.int .i64 i))],.own (hdS 1 Out) :: (X++(.own (hdN (z + 2) n i (n - i)) :: tl (sbM p v a i)))⟩) (fun i=>i≤n) (fun i=>n - i) 0 (Nat.zero_le _) (List.range (z + 2)) (leSy (c:=List.replicate n (.p .nil)) (M:=[]) (X:=X) (o:=hdS 1 Out) hXl rfl (by simp [hdN_zero,sbM,tl]) rfl (by simp) (by rw [← hdN_zero 1 1]; exact hdN_sc (by omega)) (hdS_sc (by omega)) (by rw [← hX]; exact chS_hsc (by omega)) (by
    simp [St.get,lk,scA,sc1,hXl]<;>omega)) fun i hi=>?_
   obtain ⟨B,hB⟩:∃ B,sbM p v a i=B:=⟨_,rfl⟩
   have hBl:B.length=i:=by rw [← hB,sbM_len]
   rw [hB]
   refine qm ?_
   refine hk_region fun K hK=>runs_eval tab_ok ?_
   simp only [evz,fl,gp,tab,simprocAttr]
   refine fin_run trivial (hK _ ?_)<;>clear hK K
   refine qa (qm ?_)
   refine hk_cond rfl (fun hC7=>?_) (fun hC7=>?_)
   ·(try simp only [nhs] at hC7)
    have hin:i < n:=by omega
    obtain ⟨r,hr⟩:∃ r,a.getD i []=r:=⟨_,rfl⟩
    have hrl:r.length=n:=by rw [← hr]; exact har _ (mem_getD (by omega))
    have hrg:rgp p r:=by rw [← hr]; exact hag _ (mem_getD (by omega))
    have hrn:r ≠ []:=by intro e; rw [e] at hrl; simp at hrl; omega
    obtain ⟨c,hc⟩:∃ c,n - i=c + 1:=⟨n - i - 1,by omega⟩
    rw [hc]
    have hix:z + (i + 1) + 1=i + (z + 2):=by omega
    refine qh (qa (qm (ql (qm ?_))))
    refine hk_region fun K hK=>runs_eval tab_ok ?_
    simp only [evz,fl,gp,tab,simprocAttr]
    refine fin_run trivial (hK _ ?_)<;>clear hK K
    refine qa (qm ?_)
    refine hk_region fun K hK=>runs_eval tab_ok ?_
    simp only [evz,fl,gp,tab,simprocAttr,ll_length,hal,ll_get (show i < a.length by omega),hr,hrl,List.length_append,List.length_cons,hXl,tl_length,hBl,hix,List.append_assoc,List.cons_append,tl_snoc,gX1 hXl,sX1 hXl,hdN_set,hdN_next,hdN_len]
    refine fin_stop ?_ (runs_callG (clone_c r hrn (by omega)) rfl rfl (by first|rfl|(simp [scG,scA,sc1,opl]; done)|(simp only [scG,List.all_cons,List.all_nil,ol_sc,Bool.and_true]; rfl)) (by simp only [dstOk,Nat.reduceLT]) (by repeat (first|exact trivial|constructor)) (runs_eval tab_ok ?_))
    ·omega
    simp only [Go.Pv.shf,List.range',Blk.ren,opl_ren,ren,ren1,evz,fl,gp,tab,simprocAttr,ll_length,hal,ll_get (show i < a.length by omega),hr,hrl,List.length_append,List.length_cons,hXl,tl_length,hBl,hix,List.append_assoc,List.cons_append,tl_snoc,gX1 hXl,sX1 hXl,hdN_set,hdN_next,hdN_len]
    refine fin_run ?_ (hK _ ?_)<;>clear hK K
    ·omega
    refine qa ?_
    have hBr:(B++[r]).getD i []=r:=by rw [← hBl,getD_last]
    have hsB:∀ y,(B++[r]).set i y=B++[y]:=fun y=>by rw [← hBl,set_last]
    have hsb:r.set i ((r.getD i 0 - (v:Int)) % (p:Int))=sbR p v a i:=by rw [sbR,hr]
    have hri:=hrg i
    have ht1:=Int.lt_tmod_of_pos (r.getD i 0 - (v:Int)) (show (0:Int) < p by omega)
    have ht2:=Int.tmod_lt_of_pos (r.getD i 0 - (v:Int)) (show (0:Int) < p by omega)
    have hBS:sbM p v a (i + 1)=B++[sbR p v a i]:=by rw [sbM_succ,hB]
    refine hk_draw mixed (by kernel_rfl) fun K hK=>runs_eval tab_ok ?_
    simp only [evz,fl,gp,tab,simprocAttr,hdN_len,hdN_get (Nat.lt_succ_self i),gX1 hXl,gX2 hXl _ _ (show i < (B++[r]).length by simp [hBl]),hBr,ol_get (show i < r.length by omega),tmod2 (show 0 < p by omega),ol_set,sX2 hXl,hsB,hsb]
    refine fin_run ?_ (hK _ ?_)<;>clear hK K
    ·simp only [In64] at *; omega
    refine qd (qa ?_)
    refine hk_region fun K hK=>runs_eval tab_ok ?_
    simp only [evz,fl,gp,tab,simprocAttr]
    refine fin_run ?_ (hK _ ?_)<;>clear hK K
    ·(first|exact trivial|omega|(simp only [In64] at *; omega)|(simp [In64] at *; omega)|(simp_all; done)|skip)
    refine qa ?_
    refine ⟨i + 1,List.range (z + 2 + (i + 1)),by omega,by omega,leSy (c:=hdN (z + 2) n (i + 1) c) (M:=B++[sbR p v a i]) (X:=X) (o:=hdS 1 Out) hXl rfl (by rw [hBS,show n - (i + 1)=c by omega]) rfl (by simp [hBl]; omega) (hdN_sc (by omega)) (hdS_sc (by omega)) (by rw [← hX]; exact chS_hsc (by omega)) (by
     simp [St.get,lk,scA,sc1]<;>omega)⟩
   (try simp only [nhs] at hC7)
   have hin:i=n:=by omega
   rw [hin] at hB hBl ⊢
   rw [Nat.sub_self,hdN_full]
   have hBr:∀ y∈B,y.length=n∧rgp p y:=fun y hy=>by
    rw [← hB] at hy
    obtain ⟨t,ht,rfl⟩:=List.mem_map.1 hy
    have ht:=List.mem_range.1 ht
    exact ⟨by rw [sbR_len]; exact har _ (mem_getD (by omega)),sbR_rg (by omega) (hag _ (mem_getD (by omega)))⟩
   have hkr:=kerR_row hp2 hBl (fun v hv=>(hBr v hv).1) (fun v hv=>(hBr v hv).2)
   rw [hB] at hstep
   refine qj (qc (qc (qf (qa (qm ?_)))))
   refine hk_rowsX 21 (z + 1) (z + 2) n hBl (fun v hv=>(hBr v hv).1) rfl (.inl (by omega)) (gX1 hXl _ _ _) (fun i hi=>?_) fun H2 b1 b2=>?_
   ·rw [Nat.add_comm (z + 2) i]; exact gX2 hXl _ _ (by omega)
   have hg0:hget H2 0 = .own (hdS 1 Out):=by rw [b2 0 (by omega) (by omega)]; rfl
   have hgj:∀ j,j < z→hget H2 (1 + j)=hget (chS W 1 Out) j:=fun j hj=>by
    rw [b2 (1 + j) (by omega) (by omega),Nat.add_comm 1 j,hX]
    show hget (X++_) j=_
    rw [hget_app1 (by omega)]
   have hH2:H2.length=z + 2 + n:=by rw [b1]; simp [hXl,tl_length,hBl]; omega
   obtain ⟨Kr,hKr⟩:∃ Kr,kerR p B=Kr:=⟨_,rfl⟩
   rw [hKr] at hstep hkr
   refine hk_region fun K hK=>runs_eval tab_ok ?_
   simp only [evz,fl,gp,tab,simprocAttr]
   refine fin_stop trivial (runs_call (kernel_c hp2 hp (show 0 < n by omega) hn100 B hBl (fun v hv=>(hBr v hv).1) (fun v hv=>(hBr v hv).2)) rfl rfl rfl (by simp only [dstOk,Nat.reduceLT]) (by repeat (first|exact trivial|constructor)) (runs_eval tab_ok ?_))
   simp only [evz,fl,gp,tab,simprocAttr,hKr]
   refine fin_run trivial (hK _ ?_)<;>clear hK K
   refine qa (qm (qm ?_))
   refine hk_region fun K hK=>runs_eval tab_ok ?_
   simp only [evz,fl,gp,tab,simprocAttr,ll_length]
   refine fin_run trivial (hK _ ?_)<;>clear hK K
   refine qa ?_
   refine hk_cond rfl (fun hC8=>?_) (fun hC8=>?_)
   ·(try simp only [nhs] at hC8)
    have hK0:Kr=[]:=List.length_eq_zero_iff.1 (by omega)
    rw [if_pos hK0] at hstep
    refine qj (qc (qf (qa ?_)))
    refine hk_region fun K hK=>runs_eval tab_ok ?_
    simp only [evz,fl,gp,tab,simprocAttr]
    refine fin_run ?_ (hK _ ?_)<;>clear hK K
    ·(first|exact trivial|omega|(simp only [In64] at *; omega)|(simp [In64] at *; omega)|(simp_all; done)|skip)
    refine qa ?_
    refine ⟨(v + 1,left,Out),0 :: (List.range' 1 (szS Out)++[]),⟨by simp only; omega,by simp only; omega,by simp only; omega,by simp only; omega,hstep.symm⟩,by simp only; omega,?_⟩
    refine le_chs (W:=W) rfl rfl (.inl (by omega)) hg0 (by rw [hz]; exact hgj) (by simp [LeS,St.get,lk,Go.Pv.ren,ren1,scA,sc1])
   (try simp only [nhs] at hC8)
   have hK0:¬ Kr=[]:=fun e=>hC8 (by rw [e]; rfl)
   rw [if_neg hK0] at hstep
   refine qh (qa (qm ?_))
   refine hk_region fun K hK=>runs_eval tab_ok ?_
   simp only [evz,fl,gp,tab,simprocAttr,ll_length]
   refine fin_run ?_ (hK _ ?_)<;>clear hK K
   ·simp only [In64]; omega
   refine qa (qm ?_)
   refine hk_region fun K hK=>runs_eval tab_ok ?_
   simp only [evz,fl,gp,tab,simprocAttr]
   refine fin_run trivial (hK _ ?_)<;>clear hK K
   refine qa (qm (qm ?_))
   refine hk_own0 24 rfl ?_
   refine hk_region fun K hK=>runs_eval tab_ok ?_
   simp only [evz,fl,gp,tab,simprocAttr,ll_length]
   refine fin_run trivial (hK _ ?_)<;>clear hK K
   refine qa (ql ?_)
   have hs0:s'.getD 0 []∈s':=mem_getD (by omega)
   have hs0l:(s'.getD 0 []).length=W:=l2 _ hs0
   have hcmr:∀ vv,cmR p s' vv=cmI p W s' vv vv.length:=fun vv=>by rw [cmR,hs0l]
   obtain ⟨q,hq⟩:∃ q,Kr.length=q:=⟨_,rfl⟩
   obtain ⟨RW,hRW⟩:∃ RW,Kr.map (cmR p s')=RW:=⟨_,rfl⟩
   have hRWl:RW.length=q:=by rw [← hRW,List.length_map,hq]
   rw [hq]
   rw [hq,hRW] at hstep
   refine hk_loop (ι:=Nat) (fun k=>⟨224,[(0,.p (.int .i64 p)),(1,.p (.list (ll s'))),(8,.p (.int .i64 n)),(9,.p (.list (ll a))),(18,.sl 0 0 Out.length),(19,.p (.int .i64 (left - (q:Int)))),(20,.p (.int .i64 v)),(24,.sl (z + 1) 0 k),(171,.p (.list (ll Kr))),(172,.p (.int .i64 q)),(173,.p (.int .i64 k))],.own (hdS 1 Out) :: (chS W 1 Out++(.own (rwo (z + 2) W k) :: tl (RW.take k)))⟩) (fun k=>k≤q) (fun k=>q - k) 0 (Nat.zero_le _) (0 :: (List.range' 1 z++(H2.length :: List.range' (z + 1) 0))) (le_chs2 (W:=W) hz (M:=[]) rfl rfl (by simp [tl]) ⟨.inl (by omega),by omega,by omega,by omega,.inl (by omega),.inr (by omega)⟩ (by show hget (H2++_) 0=_; rw [hget_app1 (by omega)]; exact hg0) (fun j hj=>by show hget (H2++_) _=_; rw [hget_app1 (by omega)]; exact hgj j hj) (by show hget (H2++[.own []]) _=_; rw [hget_snoc]; rfl) (fun i hi=>absurd hi (Nat.not_lt_zero _)) (by
    have e1:(0 :: (List.range' 1 z++(H2.length :: List.range' (z + 1) 0))).getD (z + 1) 0=H2.length:=by
     have:=rg_get2 (κ:=0) (n:=z) (r:=H2.length :: List.range' (z + 1) 0) (j:=0)
     rw [show 1 + z + 0=z + 1 by omega] at this
     exact this
    simp only [LeS,St.get,lk,Go.Pv.ren,ren1,scA,sc1,e1]
    simp)) fun k hk=>?_
   rw [hX]
   obtain ⟨D,hD⟩:∃ D,RW.take k=D:=⟨_,rfl⟩
   have hDl:D.length=k:=by rw [← hD,List.length_take]; omega
   rw [hD]
   refine qm ?_
   refine hk_region fun K hK=>runs_eval tab_ok ?_
   simp only [evz,fl,gp,tab,simprocAttr]
   refine fin_run trivial (hK _ ?_)<;>clear hK K
   refine qa (qm ?_)
   refine hk_cond rfl (fun hC9=>?_) (fun hC9=>?_)
   ·(try simp only [nhs] at hC9)
    have hkq:k < q:=by omega
    obtain ⟨vv,hvv⟩:∃ vv,Kr.getD k []=vv:=⟨_,rfl⟩
    have hvm:vv∈Kr:=by rw [← hvv]; exact mem_getD (by omega)
    have hvl:vv.length=n:=(hkr.1 vv hvm).1
    have hvg:rgp p vv:=(hkr.1 vv hvm).2
    have hRk:RW.take (k + 1)=D++[cmI p W s' vv n]:=by
     rw [List.take_succ_eq_append_getElem (by omega),hD]
     congr 2
     have e:Kr[k]'(by omega)=vv:=by rw [← hvv]; simp [List.getD,List.getElem?_eq_getElem (show k < Kr.length by omega)]
     simp only [← hRW,List.getElem_map,e]
     rw [hcmr,hvl]
    refine qh (qa (qm (ql (qm ?_))))
    refine hk_region fun K hK=>runs_eval tab_ok ?_
    simp only [evz,fl,gp,tab,simprocAttr,ll_length,ll_get (show k < Kr.length by omega),hvv]
    refine fin_run ?_ (hK _ ?_)<;>clear hK K
    ·omega
    refine qa (qm ?_)
    refine hk_region fun K hK=>runs_eval tab_ok ?_
    simp only [evz,fl,gp,tab,simprocAttr,ll_length,ll_get (show 0 < s'.length by omega),il_length,hs0l,List.length_append,List.length_cons,hXl,tl_length,hDl,ol_replicate]
    refine fin_run ?_ (hK _ ?_)<;>clear hK K
    ·omega
    refine qa (qm (qm ?_))
    refine hk_region fun K hK=>runs_eval tab_ok ?_
    simp only [evz,fl,gp,tab,simprocAttr,il_length,hvl]
    refine fin_run trivial (hK _ ?_)<;>clear hK K
    refine qa (ql ?_)
    have hDc:(rwo (z + 2) W k).all (scA (z + 3 + k))=true:=rwo_sc (by omega)
    have hOc:(hdS 1 Out).all (scA (z + 3 + k))=true:=hdS_sc (by omega)
    have hXc:∀ b∈X,hsc (z + 3 + k) b=true:=by rw [← hX]; exact chS_hsc (by omega)
    refine hk_loop (ι:=Nat) (fun i=>⟨224,[(0,.p (.int .i64 p)),(1,.p (.list (ll s'))),(8,.p (.int .i64 n)),(9,.p (.list (ll a))),(18,.sl 0 0 Out.length),(19,.p (.int .i64 (left - (q:Int)))),(20,.p (.int .i64 v)),(24,.sl (z + 1) 0 k),(27,.sl (k + (z + 2)) 0 W),(171,.p (.list (ll Kr))),(172,.p (.int .i64 q)),(173,.p (.int .i64 k)),(182,.p (.list (il vv))),(183,.p (.int .i64 n)),(184,.p (.int .i64 i))],.own (hdS 1 Out) :: (X++(.own (rwo (z + 2) W k) :: tl (D++[cmI p W s' vv i])))⟩) (fun i=>i≤n) (fun i=>n - i) 0 (Nat.zero_le _) (List.range (z + 3 + k)) (leSy (c:=rwo (z + 2) W k) (M:=D++[cmI p W s' vv 0]) (X:=X) (o:=hdS 1 Out) hXl rfl (by simp [tl,cmI]) (by simp [tl,cmI]) (by simp [hDl]; omega) hDc hOc hXc (by
     simp [St.get,lk,scA,sc1]<;>omega)) fun i hi=>?_
    obtain ⟨w0,hw0⟩:∃ w0,cmI p W s' vv i=w0:=⟨_,rfl⟩
    have hw0l:w0.length=W:=by rw [← hw0,cmI_len]
    have hw0g:rgp p w0:=by rw [← hw0]; exact cmI_rg (by omega) _ _ _ _
    rw [hw0]
    refine qm ?_
    refine hk_region fun K hK=>runs_eval tab_ok ?_
    simp only [evz,fl,gp,tab,simprocAttr]
    refine fin_run trivial (hK _ ?_)<;>clear hK K
    refine qa (qm ?_)
    refine hk_cond rfl (fun hC10=>?_) (fun hC10=>?_)
    ·(try simp only [nhs] at hC10)
     have hin:i < n:=by omega
     obtain ⟨b,hb⟩:∃ b,s'.getD i []=b:=⟨_,rfl⟩
     have hbl:b.length=W:=by rw [← hb]; exact l2 _ (mem_getD (by omega))
     have hbg:rgp p b:=by rw [← hb]; exact l3 _ (mem_getD (by omega))
     obtain ⟨x,hx⟩:∃ x,vv.getD i 0=x:=⟨_,rfl⟩
     have hxg:0≤x∧x < p:=by rw [← hx]; exact hvg i
     refine qh (qa (qm (ql (qm ?_))))
     refine hk_region fun K hK=>runs_eval tab_ok ?_
     simp only [evz,fl,gp,tab,simprocAttr,il_get (show i < vv.length by omega),hx]
     refine fin_run ?_ (hK _ ?_)<;>clear hK K
     ·omega
     refine qa (qm ?_)
     refine hk_region fun K hK=>runs_eval tab_ok ?_
     simp only [evz,fl,gp,tab,simprocAttr,ll_length,ll_get (show i < s'.length by omega),hb,il_length,hbl]
     refine fin_run ?_ (hK _ ?_)<;>clear hK K
     ·omega
     refine qa (ql ?_)
     refine hk_loop (ι:=Nat) (fun j=>⟨224,[(0,.p (.int .i64 p)),(1,.p (.list (ll s'))),(8,.p (.int .i64 n)),(9,.p (.list (ll a))),(18,.sl 0 0 Out.length),(19,.p (.int .i64 (left - (q:Int)))),(20,.p (.int .i64 v)),(24,.sl (z + 1) 0 k),(27,.sl (k + (z + 2)) 0 W),(29,.p (.int .i64 x)),(171,.p (.list (ll Kr))),(172,.p (.int .i64 q)),(173,.p (.int .i64 k)),(182,.p (.list (il vv))),(183,.p (.int .i64 n)),(184,.p (.int .i64 i)),(192,.p (.list (il b))),(193,.p (.int .i64 W)),(194,.p (.int .i64 j))],.own (hdS 1 Out) :: (X++(.own (rwo (z + 2) W k) :: tl (D++[updR (adF p x w0 b) 0 j w0])))⟩) (fun j=>j≤W) (fun j=>W - j) 0 (Nat.zero_le _) (List.range (z + 3 + k)) (leSy (c:=rwo (z + 2) W k) (M:=D++[w0]) (X:=X) (o:=hdS 1 Out) hXl rfl (by rw [updR_start]) rfl (by simp [hDl]; omega) hDc hOc hXc (by
      simp [St.get,lk,scA,sc1]<;>omega)) fun j hj=>?_
     obtain ⟨y,hy⟩:∃ y,updR (adF p x w0 b) 0 j w0=y:=⟨_,rfl⟩
     have hyl:y.length=W:=by rw [← hy,updR_len,hw0l]
     rw [hy]
     refine qm ?_
     refine hk_region fun K hK=>runs_eval tab_ok ?_
     simp only [evz,fl,gp,tab,simprocAttr]
     refine fin_run trivial (hK _ ?_)<;>clear hK K
     refine qa (qm ?_)
     refine hk_cond rfl (fun hC11=>?_) (fun hC11=>?_)
     ·(try simp only [nhs] at hC11)
      have hjW:j < W:=by omega
      have hyj:y.getD j 0=w0.getD j 0:=by rw [← hy,updR_get (by omega),if_neg (by omega)]
      have hDy:(D++[y]).getD k []=y:=by rw [← hDl,getD_last]
      have hDs:∀ u,(D++[y]).set k u=D++[u]:=fun u=>by rw [← hDl,set_last]
      have hst:y.set j ((w0.getD j 0 + x * b.getD j 0) % (p:Int))=updR (adF p x w0 b) 0 (j + 1) w0:=by
       rw [← hy]; exact updR_set (f:=adF p x w0 b) (Nat.zero_le j) (by omega)
      have hm1:=mulLt hp hxg.1 hxg.2 (hbg j).1 (hbg j).2
      have hwj:=hw0g j
      have htm:Int.tmod (w0.getD j 0 + x * b.getD j 0) p=(w0.getD j 0 + x * b.getD j 0) % p:=Int.tmod_eq_emod_of_nonneg (by omega)
      refine qh (qa (qm (ql (qm ?_))))
      refine hk_region fun K hK=>runs_eval tab_ok ?_
      simp only [evz,fl,gp,tab,simprocAttr,il_get (show j < b.length by omega)]
      refine fin_run ?_ (hK _ ?_)<;>clear hK K
      ·omega
      refine qa ?_
      refine hk_region fun K hK=>runs_eval tab_ok ?_
      simp only [evz,fl,gp,tab,simprocAttr,gX2 hXl _ _ (show k < (D++[y]).length by simp [hDl]),hDy,ol_get (show j < y.length by omega),hyj,htm,ol_set,sX2 hXl,hDs,hst]
      refine fin_run ?_ (hK _ ?_)<;>clear hK K
      ·simp only [In64] at *; omega
      refine qd (qa ?_)
      refine hk_region fun K hK=>runs_eval tab_ok ?_
      simp only [evz,fl,gp,tab,simprocAttr]
      refine fin_run ?_ (hK _ ?_)<;>clear hK K
      ·(first|exact trivial|omega|(simp only [In64] at *; omega)|(simp [In64] at *; omega)|(simp_all; done)|skip)
      refine qa ?_
      refine ⟨j + 1,List.range (z + 3 + k),by omega,by omega,leSy (c:=rwo (z + 2) W k) (M:=D++[updR (adF p x w0 b) 0 (j + 1) w0]) (X:=X) (o:=hdS 1 Out) hXl rfl rfl rfl (by simp [hDl]; omega) hDc hOc hXc (by
       simp [St.get,lk,scA,sc1]<;>omega)⟩
     (try simp only [nhs] at hC11)
     have hjW:j=W:=by omega
     have hye:cmI p W s' vv (i + 1)=y:=by rw [cmI,hw0,hx,hb,adR,hw0l,← hjW,hy]
     refine qj (qc (qc (qf (qd (qa ?_)))))
     refine hk_region fun K hK=>runs_eval tab_ok ?_
     simp only [evz,fl,gp,tab,simprocAttr]
     refine fin_run ?_ (hK _ ?_)<;>clear hK K
     ·(first|exact trivial|omega|(simp only [In64] at *; omega)|(simp [In64] at *; omega)|(simp_all; done)|skip)
     refine qa ?_
     refine ⟨i + 1,List.range (z + 3 + k),by omega,by omega,leSy (c:=rwo (z + 2) W k) (M:=D++[y]) (X:=X) (o:=hdS 1 Out) hXl rfl (by rw [hye]) rfl (by simp [hDl]; omega) hDc hOc hXc (by
      simp [St.get,lk,scA,sc1]<;>omega)⟩
    (try simp only [nhs] at hC10)
    have hin:i=n:=by omega
    rw [hin] at hw0
    rw [hw0] at hRk
    obtain ⟨T,hT⟩:∃ T,tl (D++[w0])=T:=⟨_,rfl⟩
    have hTl:T.length=k + 1:=by rw [← hT,tl_length]; simp [hDl]
    have hrw:List.take k (rwo (z + 2) W k)=rwo (z + 2) W k:=rwo_take rfl
    rw [hT]
    refine qj (qc (qc (qf (qa ?_))))
    refine hk_region fun K hK=>runs_eval tab_ok ?_
    simp only [evz,fl,gp,tab,simprocAttr,List.append_assoc,List.cons_append,hXl,hTl,List.length_append,List.length_cons,gX1 hXl,sX1 hXl,gX3 hXl hTl,hrw,rwo_snoc,rwo_len]
    refine fin_stop ?_ (runs_op (build1_does tab_ok rfl rfl rfl rfl rfl rfl) rfl (by simp only [dstOk,Nat.reduceLT]) (runs_eval tab_ok ?_))
    ·(first|exact trivial|omega|(simp only [In64] at *; omega)|(simp [In64] at *; omega)|(simp_all; done)|skip)
    simp only [evz,fl,gp,tab,simprocAttr,hXl,hTl,List.length_append,List.length_cons,List.append_assoc,List.cons_append,hXl,hTl,List.length_append,List.length_cons,gX1 hXl,sX1 hXl,gX3 hXl hTl,hrw,rwo_snoc,rwo_len]
    refine fin_run ?_ (hK _ ?_)<;>clear hK K
    ·exact ⟨rwo_ok _ _ _,by omega,by omega,by omega⟩
    refine qd (qa ?_)
    refine hk_region fun K hK=>runs_eval tab_ok ?_
    simp only [evz,fl,gp,tab,simprocAttr]
    refine fin_run ?_ (hK _ ?_)<;>clear hK K
    ·(first|exact trivial|omega|(simp only [In64] at *; omega)|(simp [In64] at *; omega)|(simp_all; done)|skip)
    refine qa ?_
    refine ⟨k + 1,0 :: (List.range' 1 z++((z + (k + 1 + 1 + 1) + 1) :: List.range' (z + 2) (k + 1))),by omega,by omega,?_⟩
    rw [hRk]
    refine le_chs2 (W:=W) hz (M:=D++[w0]) (by simp [hDl]) rfl (by rw [hX]) ⟨.inl (by omega),by omega,by omega,by omega,.inl (by omega),.inr (by omega)⟩ rfl (fun j hj=>?_) (gX4 hXl hTl _ _ _ _) (fun i hi=>?_) ?_
    ·rw [Nat.add_comm 1 j,hX]
     show hget (X++_) j=_
     rw [hget_app1 (by omega)]
    ·refine (gX5 hXl (by omega) _ _ _).trans ?_
     rw [← hT,hget_tl (by simp [hDl]; omega)]
    have e1:(0 :: (List.range' 1 z++((z + (k + 1 + 1 + 1) + 1) :: List.range' (z + 2) (k + 1)))).getD (z + 1) 0=z + (k + 1 + 1 + 1) + 1:=by
     have:=rg_get2 (κ:=0) (n:=z) (r:=(z + (k + 1 + 1 + 1) + 1) :: List.range' (z + 2) (k + 1)) (j:=0)
     rw [show 1 + z + 0=z + 1 by omega] at this
     exact this
    simp only [LeS,St.get,lk,Go.Pv.ren,ren1,scA,sc1,e1]
    simp
   (try simp only [nhs] at hC9)
   have hkq:k=q:=by omega
   have hDR:D=RW:=by rw [← hD,hkq,← hRWl,List.take_length]
   rw [hkq,hDR]
   have hht:List.take Out.length (hdS 1 Out)=hdS 1 Out:=List.take_of_length_le (by rw [hdS_len]; exact Nat.le_refl _)
   have hsn:hdS 1 Out++[.sl (z + 1) 0 q]=hdS 1 (Out++[RW]):=by rw [hdS_snoc,hz,hRWl,Nat.add_comm 1 z]
   have htR:(tl RW).length=q:=by rw [tl_length,hRWl]
   refine qj (qc (qc (qf (qa ?_))))
   refine hk_region fun K hK=>runs_eval tab_ok ?_
   simp only [evz,fl,gp,tab,simprocAttr,List.append_assoc,List.cons_append,hXl,htR,List.length_append,List.length_cons,gX3 hXl htR,hht,hsn,hdS_len]
   refine fin_stop ?_ (runs_op (build1_does tab_ok rfl rfl rfl rfl rfl rfl) rfl (by simp only [dstOk,Nat.reduceLT]) (runs_eval tab_ok ?_))
   ·(first|exact trivial|omega|(simp only [In64] at *; omega)|(simp [In64] at *; omega)|(simp_all; done)|skip)
   simp only [evz,fl,gp,tab,simprocAttr,hXl,htR,List.length_append,List.length_cons,List.append_assoc,List.cons_append,hXl,htR,List.length_append,List.length_cons,gX3 hXl htR,hht,hsn,hdS_len]
   refine fin_run ?_ (hK _ ?_)<;>clear hK K
   ·exact ⟨hdS_ok _ _,by omega,by omega,by omega⟩
   refine qd (qa ?_)
   refine hk_region fun K hK=>runs_eval tab_ok ?_
   simp only [evz,fl,gp,tab,simprocAttr]
   refine fin_run ?_ (hK _ ?_)<;>clear hK K
   ·(first|exact trivial|omega|(simp only [In64] at *; omega)|(simp [In64] at *; omega)|(simp_all; done)|skip)
   refine qa ?_
   have hzS:szS (Out++[RW])=z + (1 + q):=by rw [szS_snoc,hz,hRWl]
   refine ⟨(v + 1,left - (q:Int),Out++[RW]),(z + (q + 1 + 1) + 1) :: (List.range' 1 (szS (Out++[RW]))++[]),⟨by simp only; omega,by simp only; omega,by simp only; omega,by simp only [List.length_append,List.length_singleton]; omega,hstep.symm⟩,by simp only; omega,?_⟩
   have hch:chS W 1 (Out++[RW])=X++(.own (rwo (z + 2) W q) :: tl RW):=by rw [chS_snoc,hX,hz,hRWl,show 1 + z + 1=z + 2 by omega]
   refine le_chs (W:=W) rfl rfl (.inr (by omega)) (gX4 hXl htR _ _ _ _) (fun j hj=>?_) (by simp [LeS,St.get,lk,Go.Pv.ren,ren1,scA,sc1])
   rw [Nat.add_comm 1 j,hch]
   show hget (X++(_ :: (tl RW++_))) j=_
   rw [← List.cons_append,← List.append_assoc,hget_app1 (by simp [hXl,htR]; omega)]
  (try simp only [nhs] at hC6)
  refine qj (qc (qc (qf (qa (qm ?_)))))
  refine hk_region fun K hK=>runs_eval tab_ok ?_
  simp only [evz,fl,gp,tab,simprocAttr]
  refine fin_run trivial (hK _ ?_)<;>clear hK K
  refine qa (qk ?_)
  simp only [Tryd.results44,PostG,endG,rvsA,rvA,mkTup,evz,fl,gp,tab,simprocAttr]
  have hR:splI p s' a p n 0 []=Out:=by rw [← x5]; exact splI_stop (by first|(left; omega)|(right; simp at hC6; omega))
  rw [hR]
  refine ⟨0 :: (List.range' 1 (szS Out)++[]),rfl,by simp [scA,sc1],le_chs (W:=W) rfl rfl (.inl (by omega)) rfl (fun j hj=>?_) trivial⟩
  rw [Nat.add_comm 1 j,hX]; rfl
 refine hk_region fun K hK=>runs_eval tab_ok ?_
 simp only [evz,fl,gp,tab,simprocAttr,decide_eq_false (show ¬ (v:Int) < (p:Int) by omega)]
 refine fin_run trivial (hK _ ?_)<;>clear hK K
 refine qa ?_
 refine hk_cond rfl (fun hC6=>?_) (fun hC6=>?_)
 ·cases hC6
 refine qj (qc (qc (qf (qa (qm ?_)))))
 refine hk_region fun K hK=>runs_eval tab_ok ?_
 simp only [evz,fl,gp,tab,simprocAttr]
 refine fin_run trivial (hK _ ?_)<;>clear hK K
 refine qa (qk ?_)
 simp only [Tryd.results44,PostG,endG,rvsA,rvA,mkTup,evz,fl,gp,tab,simprocAttr]
 have hR:splI p s' a p n 0 []=Out:=by rw [← x5]; exact splI_stop (by first|(left; omega)|(right; simp at hC6; omega))
 rw [hR]
 refine ⟨0 :: (List.range' 1 (szS Out)++[]),rfl,by simp [scA,sc1],le_chs (W:=W) rfl rfl (.inl (by omega)) rfl (fun j hj=>?_) trivial⟩
 rw [Nat.add_comm 1 j,hX]; rfl
end Go.Proofs.YtjlmpmidchddjaaDoor

namespace Go.Proofs.YtjlmpmidchddjaaDoor
open Go.Pv
end Go.Proofs.YtjlmpmidchddjaaDoor

namespace Go.Proofs.YtjlmpmidchddjaaDoor
open Go.Pv
section
variable {n:Nat} {f:Nat→Nat→Nat} {e:Nat}
end
theorem ordl_len (m:List Int) (n e:Nat):(ordl m n e).length=n:=rg_len _ _
theorem ordl_get (m:List Int) {n e a:Nat} (ha:a < n):(ordl m n e).getD a 0=((ord n (op m n) e a:Nat):Int):=rg_get _ ha
end Go.Proofs.YtjlmpmidchddjaaDoor

namespace Go.Proofs.YtjlmpmidchddjaaDoor
open Go.Pv
def expo (m:List Int) (n e:Nat):Nat→Nat
 | 0=>1
 | i + 1=>Nat.lcm (expo m n e i) (ord n (op m n) e i)
theorem expo_dvd {m:List Int} {n e:Nat} (h:GT n m n e):∀ i,i≤n→expo m n e i ∣ n
 | 0,_=>Nat.one_dvd n
 | i + 1,hi=>Nat.lcm_dvd (expo_dvd h i (by omega)) (h.2.2.ord_dvd (by omega))
theorem expo_pos {m:List Int} {n e:Nat} (h:GT n m n e) {i:Nat} (hi:i≤n):1≤expo m n e i∧expo m n e i≤60:=by
 have hp:=h.2.1.pos
 have hb:=h.2.1.big
 have hd:=expo_dvd h i hi
 exact ⟨Nat.pos_of_dvd_of_pos hd hp,Nat.le_trans (Nat.le_of_dvd hp hd) hb⟩
theorem lcm_alt (x y:Nat):x / Nat.gcd x y * y=Nat.lcm x y:=by
 unfold Nat.lcm
 rw [Nat.div_mul_right_comm (Nat.gcd_dvd_left x y)]
theorem exponent_ok {n e:Nat} {m:List Int} (h:GT n m n e):FnC Tryd.prog 75 [gp n m] (.tup [.int .i64 (expo m n e n:Nat),fl (0,0)]):=by
 have G:=h.2.2
 have hb:=h.2.1.big
 have ll:=ordl_len m n e
 refine fnc_of tab_ok Tryd.func75 rfl (by kernel_rfl) (by rw [Tryd.ntmps75]; exact Nat.le_add_left 1 _) ?_; rw [Tryd.ntmps75]
 refine qm ?_
 refine hk_region fun K hK=>runs_eval tab_ok ?_
 simp only [evz,fl,gp,tab,simprocAttr]
 refine fin_run ?_ (hK _ ?_)<;>clear hK K
 ·(first|exact trivial|omega|(simp only [In64] at *; omega)|(simp [In64] at *; omega)|(simp_all; done)|skip)
 refine qa (qm ?_)
 refine hk_region fun K hK=>runs_eval tab_ok ?_
 simp only [evz,fl,gp,tab,simprocAttr]
 refine fin_stop trivial (runs_call (orders_ok h) rfl rfl rfl (by simp only [dstOk,Nat.reduceLT]) (by repeat (first|exact trivial|constructor)) (runs_eval tab_ok ?_))
 simp only [evz,fl,gp,tab,simprocAttr]
 refine fin_run ?_ (hK _ ?_)<;>clear hK K
 ·(first|exact trivial|omega|(simp only [In64] at *; omega)|(simp [In64] at *; omega)|(simp_all; done)|skip)
 refine qa (qm (qm ?_))
 refine hk_region fun K hK=>runs_eval tab_ok ?_
 simp only [evz,fl,gp,tab,simprocAttr]
 refine fin_run ?_ (hK _ ?_)<;>clear hK K
 ·(first|exact trivial|omega|(simp only [In64] at *; omega)|(simp [In64] at *; omega)|(simp_all; done)|skip)
 refine qa ?_
 refine hk_cond rfl (fun hC1=>?_) (fun hC1=>?_)
 ·cases hC1
 (try simp only [nhs] at hC1)
 refine qh (qa (qm ?_))
 refine hk_region fun K hK=>runs_eval tab_ok ?_
 simp only [evz,fl,gp,tab,simprocAttr]
 refine fin_run trivial (hK _ ?_)<;>clear hK K
 refine qa (qm (qm ?_))
 refine hk_region fun K hK=>runs_eval tab_ok ?_
 simp only [evz,fl,gp,tab,simprocAttr,ordl_len]
 refine fin_run trivial (hK _ ?_)<;>clear hK K
 refine qa (ql ?_)
 refine hk_loop (ι:=Nat) (fun i=>⟨37,[(3,.ptr 0 0),(5,.ptr 1 0),(6,.p (.int .i64 (expo m n e i:Nat))),(19,.p (.list (il (ordl m n e)))),(20,.p (.int .i64 n)),(21,.p (.int .i64 i))],[.own [.p (.int .i64 0),.p (.int .i64 0)],.own [.p (.int .i64 0),.p (.int .i64 0)]]⟩) (fun i=>i≤n) (fun i=>n - i) 0 (Nat.zero_le _) [1,2] (by simp only [leq,leA,evz,fl,gp,tab,simprocAttr]<;>trivial) fun i hi=>?_
 refine qm ?_
 refine hk_region fun K hK=>runs_eval tab_ok ?_
 simp only [evz,fl,gp,tab,simprocAttr]
 refine fin_run trivial (hK _ ?_)<;>clear hK K
 refine qa (qm ?_)
 refine hk_cond rfl (fun hC2=>?_) (fun hC2=>?_)
 ·(try simp only [nhs] at hC2)
  have hlt:i < n:=by omega
  have hg:=ordl_get m (e:=e) hlt
  have o1:=G.ord_pos hlt
  obtain ⟨e1,e2⟩:=expo_pos h hi
  obtain ⟨_,l2⟩:=expo_pos h (show i + 1≤n from hlt)
  have hL:expo m n e (i + 1)=Nat.lcm (expo m n e i) (ord n (op m n) e i):=rfl
  obtain ⟨q,hq⟩:=Nat.dvd_lcm_left (expo m n e i) (ord n (op m n) e i)
  have hdo:=Nat.dvd_lcm_right (expo m n e i) (ord n (op m n) e i)
  have hleast:∀ j,ord n (op m n) e i ∣ expo m n e i * j→Nat.lcm (expo m n e i) (ord n (op m n) e i) ∣ expo m n e i * j:=fun j hj=>Nat.lcm_dvd (Nat.dvd_mul_right _ _) hj
  rw [hL] at l2
  rw [hq] at l2 hdo hleast hL
  have hq1:1≤q:=by
   rcases Nat.eq_zero_or_pos q with h0 | h0
   ·subst h0
    have:=(expo_pos h (show i + 1≤n from hlt)).1
    rw [hL] at this; omega
   exact h0
  generalize hx:expo m n e i=x at *
  refine qh (qa (qm (ql (qm ?_))))
  refine hk_region fun K hK=>runs_eval tab_ok ?_
  simp only [evz,fl,gp,tab,simprocAttr,il_get (show i < (ordl m n e).length by omega),hg]
  refine fin_run ?_ (hK _ ?_)<;>clear hK K
  ·(first|exact trivial|omega|(simp only [In64] at *; omega)|(simp [In64] at *; omega)|(simp_all; done)|skip)
  refine qa (qm ?_)
  refine hk_region fun K hK=>runs_eval tab_ok ?_
  simp only [evz,fl,gp,tab,simprocAttr]
  refine fin_run trivial (hK _ ?_)<;>clear hK K
  refine qa (qm (ql ?_))
  refine hk_loop (ι:=Nat) (fun j=>⟨37,[(3,.ptr 0 0),(5,.ptr 1 0),(6,.p (.int .i64 (x:Nat))),(8,.p (.int .i64 (ord n (op m n) e i:Nat))),(9,.p (.int .i64 (x * j:Nat))),(19,.p (.list (il (ordl m n e)))),(20,.p (.int .i64 n)),(21,.p (.int .i64 i))],[.own [.p (.int .i64 0),.p (.int .i64 0)],.own [.p (.int .i64 0),.p (.int .i64 0)]]⟩) (fun j=>1≤j∧j≤q) (fun j=>q - j) 1 ⟨Nat.le_refl _,hq1⟩ [0,1] (by rw [Nat.mul_one]; simp only [leq,leA,evz,fl,gp,tab,simprocAttr]<;>trivial) fun j hj=>?_
  obtain ⟨hj1,hj2⟩:=hj
  have hxj:x * j≤x * q:=Nat.mul_le_mul_left _ hj2
  refine qm (qm ?_)
  refine hk_region fun K hK=>runs_eval tab_ok ?_
  simp only [evz,fl,gp,tab,simprocAttr,tm_nat]
  refine fin_run ?_ (hK _ ?_)<;>clear hK K
  ·omega
  refine qa ?_
  refine hk_cond rfl (fun hC3=>?_) (fun hC3=>?_)
  ·(try simp only [nhs] at hC3)
   have hjq:j ≠ q:=by
    intro hh
    subst hh
    have:=Nat.mod_eq_zero_of_dvd hdo
    omega
   refine qh (qa (ql ?_))
   refine hk_region fun K hK=>runs_eval tab_ok ?_
   simp only [evz,fl,gp,tab,simprocAttr]
   refine fin_run ?_ (hK _ ?_)<;>clear hK K
   ·(first|exact trivial|omega|(simp only [In64] at *; omega)|(simp [In64] at *; omega)|(simp_all; done)|skip)
   refine qd (qa ?_)
   refine ⟨j + 1,[0,1],⟨by omega,by omega⟩,by omega,?_⟩
   rw [Nat.mul_succ]
   simp only [leq,leA,evz,fl,gp,tab,simprocAttr]<;>first|trivial|omega
  (try simp only [nhs] at hC3)
  have hjq:j=q:=by
   have hd:=hleast j (Nat.dvd_of_mod_eq_zero (by omega))
   have hpos:0 < x * j:=Nat.mul_pos e1 hj1
   have:=Nat.le_of_dvd hpos hd
   have:=Nat.le_of_mul_le_mul_left this e1
   omega
  refine qj (qc (qc (qf (qa ?_))))
  refine hk_region fun K hK=>runs_eval tab_ok ?_
  simp only [evz,fl,gp,tab,simprocAttr]
  refine fin_run trivial (hK _ ?_)<;>clear hK K
  refine qd (qa ?_)
  refine hk_region fun K hK=>runs_eval tab_ok ?_
  simp only [evz,fl,gp,tab,simprocAttr]
  refine fin_run ?_ (hK _ ?_)<;>clear hK K
  ·(first|exact trivial|omega|(simp only [In64] at *; omega)|(simp [In64] at *; omega)|(simp_all; done)|skip)
  refine qa ?_
  refine ⟨i + 1,[0,1],by omega,by omega,?_⟩
  rw [hL,← hjq]
  simp only [leq,leA,evz,fl,gp,tab,simprocAttr]<;>first|trivial|omega
 (try simp only [nhs] at hC2)
 have hin:i=n:=by omega
 refine qj (qc (qc (qf (qa (qm ?_)))))
 refine hk_draw mixed (by kernel_rfl) fun K hK=>runs_eval tab_ok ?_
 simp only [evz,fl,gp,tab,simprocAttr]
 refine fin_run ?_ (hK _ ?_)<;>clear hK K
 ·(first|exact trivial|omega|(simp only [In64] at *; omega)|(simp [In64] at *; omega)|(simp_all; done)|skip)
 refine qa (qk ?_)
 simp only [Tryd.results75,enA,evz,fl,gp,tab,simprocAttr]
 all_goals (rw [hin])
end Go.Proofs.YtjlmpmidchddjaaDoor

namespace Go.Proofs.YtjlmpmidchddjaaDoor
open Go.Pv
def mdC (E N k:Nat):Bool:=decide (2 * N < E * (k + 1) + 1) && prmB (E * (k + 1) + 1)
def mdK (E N:Nat):Nat:=(fst' (mdC E N) 200).getD 0
def mdR (E N:Nat):Nat:=E * (mdK E N + 1) + 1
def mdAll:Bool:=(List.range 61).all fun N=>(List.range 61).all fun E=>decide (N=0) || decide (¬ N % E=0) || (fst' (mdC E N) 200).isSome
theorem mdAll_t:mdAll=true:=by decide +kernel
theorem mdK_ex {E N:Nat} (h1:1≤N) (h2:N≤60) (hd:E ∣ N):fst' (mdC E N) 200=some (mdK E N):=by
 have h:=List.all_eq_true.1 mdAll_t N (List.mem_range.2 (by omega))
 have hE:=Nat.le_of_dvd (by omega) hd
 have h:=List.all_eq_true.1 h E (List.mem_range.2 (by omega))
 simp only [Bool.or_eq_true,decide_eq_true_eq] at h
 rcases h with (h | h) | h
 ·omega
 ·exact absurd (Nat.mod_eq_zero_of_dvd hd) h
 unfold mdK
 obtain ⟨k,hk⟩:=Option.isSome_iff_exists.1 h
 rw [hk]; rfl
theorem mdK_spec {E N:Nat} (h1:1≤N) (h2:N≤60) (hd:E ∣ N):mdK E N < 200∧mdC E N (mdK E N)=true∧∀ j,j < mdK E N→mdC E N j=false:=fst_spec (mdK_ex h1 h2 hd)
theorem mdR_le {E N:Nat} (h1:1≤N) (h2:N≤60) (hd:E ∣ N):2 * N < mdR E N∧mdR E N≤20000∧prmB (mdR E N)=true:=by
 obtain ⟨k1,k2,_⟩:=mdK_spec h1 h2 hd
 have hE:=Nat.le_of_dvd (by omega) hd
 have:=Nat.mul_le_mul hE (show mdK E N + 1≤200 by omega)
 simp only [mdC,Bool.and_eq_true,decide_eq_true_eq] at k2
 exact ⟨k2.1,by unfold mdR; omega,k2.2⟩
theorem modulus_c {n e:Nat} {m:List Int} (h:GT n m n e):FnC Tryd.prog 43 [gp n m] (.int .i64 (mdR (expo m n e n) n:Nat)):=by
 have hb:=h.2.1.big
 have hp:=h.2.1.pos
 have hd:=expo_dvd h n (Nat.le_refl _)
 obtain ⟨k1,k2,k3⟩:=mdK_spec hp hb hd
 have hEl:=Nat.le_of_dvd (by omega) hd
 have hmr:mdR (expo m n e n) n=expo m n e n * (mdK (expo m n e n) n + 1) + 1:=rfl
 have hexp:=exponent_ok h
 generalize expo m n e n=E at *
 have e0:(E:Int) + 1=((E * (0 + 1) + 1:Nat):Int):=by simp
 refine fnc_of tab_ok Tryd.func43 rfl (by kernel_rfl) (by rw [Tryd.ntmps43]; exact Nat.le_add_left 1 _) ?_; rw [Tryd.ntmps43]
 refine qm ?_
 refine hk_region fun K hK=>runs_eval tab_ok ?_
 simp only [evz,fl,gp,tab,simprocAttr]
 refine fin_run ?_ (hK _ ?_)<;>clear hK K
 ·(first|exact trivial|omega|(simp only [In64] at *; omega)|(simp [In64] at *; omega)|(simp_all; done)|skip)
 refine qa (qm ?_)
 refine hk_region fun K hK=>runs_eval tab_ok ?_
 simp only [evz,fl,gp,tab,simprocAttr]
 refine fin_stop trivial (runs_call (hexp) rfl rfl rfl (by simp only [dstOk,Nat.reduceLT]) (by repeat (first|exact trivial|constructor)) (runs_eval tab_ok ?_))
 simp only [evz,fl,gp,tab,simprocAttr]
 refine fin_run ?_ (hK _ ?_)<;>clear hK K
 ·(first|exact trivial|omega|(simp only [In64] at *; omega)|(simp [In64] at *; omega)|(simp_all; done)|skip)
 refine qa (qm ?_)
 refine hk_region fun K hK=>runs_eval tab_ok ?_
 simp only [evz,fl,gp,tab,simprocAttr,e0]
 refine fin_run ?_ (hK _ ?_)<;>clear hK K
 ·(first|exact trivial|omega|(simp only [In64] at *; omega)|(simp [In64] at *; omega)|(simp_all; done)|skip)
 refine qa (qm (ql ?_))
 refine hk_loop (ι:=Nat) (fun k=>⟨27,[(1,.ptr 0 0),(3,.p (.int .i64 E)),(5,.p (.int .i64 (E * (k + 1) + 1:Nat)))],[.own [.p (.int .i64 n),.p (.list (il m))]]⟩) (fun k=>k≤mdK E n) (fun k=>mdK E n - k) 0 (Nat.zero_le _) [0] (by simp only [leq,leA,evz,fl,gp,tab,simprocAttr]) fun k hk=>?_
 have hEk:E * (k + 1)≤60 * 200:=Nat.mul_le_mul (by omega) (by omega)
 obtain ⟨q,hq⟩:∃ q,E * (k + 1) + 1=q:=⟨_,rfl⟩
 have hpr:=prime_c (p:=q) (by omega)
 have hmc:mdC E n k=(decide (2 * n < q) && prmB q):=by rw [mdC,hq]
 have hnx:E * (k + 1 + 1)=E * (k + 1) + E:=Nat.mul_succ _ _
 rw [hq]
 refine qm (qm ?_)
 rcases Nat.lt_or_ge (2 * n) q with hlt | hlt
 ·refine hk_region fun K hK=>runs_eval tab_ok ?_
  simp only [evz,fl,gp,tab,simprocAttr,decide_eq_false (show ¬ (q:Int)≤2 * (n:Int) by omega)]
  refine fin_stop ?_ (runs_call (hpr) rfl rfl rfl (by simp only [dstOk,Nat.reduceLT]) (by repeat (first|exact trivial|constructor)) (runs_eval tab_ok ?_))
  ·(first|omega|(simp only [In64] at *; done)|(simp only [In64] at *; omega))
  simp only [evz,fl,gp,tab,simprocAttr,decide_eq_false (show ¬ (q:Int)≤2 * (n:Int) by omega)]
  refine fin_run ?_ (hK _ ?_)<;>clear hK K
  ·(first|exact trivial|omega|(simp only [In64] at *; omega)|(simp [In64] at *; omega)|(simp_all; done)|skip)
  refine qa ?_
  refine hk_cond rfl (fun hC1=>?_) (fun hC1=>?_)
  ·(try simp only [nhs] at hC1)
   have hmf:mdC E n k=false:=by
    rw [hmc]
    cases hb:prmB q with
    | false=>simp
    | true=>rw [hb] at hC1; simp at hC1
   have hkl:k < mdK E n:=by
    refine Nat.lt_of_le_of_ne hk fun e=>?_
    rw [e,k2] at hmf; cases hmf
   refine qh (qa (ql ?_))
   refine hk_region fun K hK=>runs_eval tab_ok ?_
   simp only [evz,fl,gp,tab,simprocAttr]
   refine fin_run ?_ (hK _ ?_)<;>clear hK K
   ·(first|omega|(simp only [In64] at *; done)|(simp only [In64] at *; omega))
   refine qd (qa ?_)
   refine ⟨k + 1,[0],by omega,by omega,by simp only [leq,leA,evz,fl,gp,tab,simprocAttr]<;>omega⟩
  (try simp only [nhs] at hC1)
  have hmt:mdC E n k=true:=by
   rw [hmc,decide_eq_true hlt,Bool.true_and]
   cases hb:prmB q with
   | true=>rfl
   | false=>rw [hb] at hC1; simp at hC1
  have hkl:k=mdK E n:=by
   refine Nat.le_antisymm hk (Nat.le_of_not_lt fun hl=>?_)
   rw [k3 k hl] at hmt; cases hmt
  refine qj (qc (qc (qf (qa (qm ?_)))))
  refine hk_region fun K hK=>runs_eval tab_ok ?_
  simp only [evz,fl,gp,tab,simprocAttr]
  refine fin_run trivial (hK _ ?_)<;>clear hK K
  refine qa (qk ?_)
  simp only [Tryd.results43,enA,evz,fl,gp,tab,simprocAttr]
  congr 2
  rw [hmr,← hkl,hq]
 refine hk_region fun K hK=>runs_eval tab_ok ?_
 simp only [evz,fl,gp,tab,simprocAttr,decide_eq_true (show (q:Int)≤2 * (n:Int) by omega)]
 refine fin_run ?_ (hK _ ?_)<;>clear hK K
 ·(first|exact trivial|omega|(simp only [In64] at *; omega)|(simp [In64] at *; omega)|(simp_all; done)|skip)
 refine qa ?_
 refine hk_cond rfl (fun hC1=>?_) (fun hC1=>?_)
 ·have hmf:mdC E n k=false:=by rw [hmc,decide_eq_false (by omega),Bool.false_and]
  have hkl:k < mdK E n:=by
   refine Nat.lt_of_le_of_ne hk fun e=>?_
   rw [e,k2] at hmf; cases hmf
  refine qh (qa (ql ?_))
  refine hk_region fun K hK=>runs_eval tab_ok ?_
  simp only [evz,fl,gp,tab,simprocAttr]
  refine fin_run ?_ (hK _ ?_)<;>clear hK K
  ·(first|omega|(simp only [In64] at *; done)|(simp only [In64] at *; omega))
  refine qd (qa ?_)
  refine ⟨k + 1,[0],by omega,by omega,by simp only [leq,leA,evz,fl,gp,tab,simprocAttr]<;>omega⟩
 cases hC1
end Go.Proofs.YtjlmpmidchddjaaDoor

namespace Go.Proofs.YtjlmpmidchddjaaDoor
open Go.Pv
section
variable {n:Nat} {f:Nat→Nat→Nat} {e:Nat}
end
end Go.Proofs.YtjlmpmidchddjaaDoor

namespace Go.Proofs.YtjlmpmidchddjaaDoor
open Go.Pv
theorem sum_filter {α β:Type} (R:α→β→Bool) (L1:List α):∀ L2:List β,(L1.map fun a=>(L2.filter (R a)).length).sum=(L2.map fun b=>(L1.filter fun a=>R a b).length).sum
 | []=>by induction L1 with
  | nil=>rfl
  | cons a t ih=>simpa using ih
 | b :: t=>by
  have ih:=sum_filter R L1 t
  have:(L1.map fun a=>((b :: t).filter (R a)).length).sum=(L1.filter fun a=>R a b).length + (L1.map fun a=>(t.filter (R a)).length).sum:=by
   clear ih
   induction L1 with
   | nil=>rfl
   | cons a u ihu =>
    have h1:((b :: t).filter (R a)).length=(if R a b then 1 else 0) + (t.filter (R a)).length:=by
     rw [List.filter_cons]; cases R a b<;>simp<;>omega
    have h2:((a :: u).filter fun a=>R a b).length=(if R a b then 1 else 0) + (u.filter fun a=>R a b).length:=by
     rw [List.filter_cons]; cases R a b<;>simp<;>omega
    rw [List.map_cons,List.sum_cons,ihu,List.map_cons,List.sum_cons,h1,h2]
    omega
  rw [this,ih]; simp
theorem sum_const {α:Type} {g:α→Nat} {c:Nat} : ∀ {l:List α},(∀ a∈l,g a=c)→(l.map g).sum=l.length * c
 | [],_=>by simp
 | a :: t,h=>by
  rw [List.map_cons,List.sum_cons,h a (by simp),sum_const (fun x hx=>h x (by simp [hx])),List.length_cons,Nat.succ_mul]; omega
theorem dbl {α β:Type} (R:α→β→Bool) {L1:List α} {L2:List β} {c1 c2:Nat} (h1:∀ a∈L1,(L2.filter (R a)).length=c1) (h2:∀ b∈L2,(L1.filter fun a=>R a b).length=c2):L1.length * c1=L2.length * c2:=by
 rw [← sum_const h1,← sum_const h2,sum_filter]
section
variable {n:Nat} {f:Nat→Nat→Nat} {e:Nat}
def cen (f:Nat→Nat→Nat) (y x:Nat):Bool:=decide (f x y=f y x)
theorem cen_iff {y x:Nat} : cen f y x=true↔f x y=f y x:=by simp [cen]
end
end Go.Proofs.YtjlmpmidchddjaaDoor

namespace Go.Proofs.YtjlmpmidchddjaaDoor
open Go.Pv
section
variable {n:Nat} {f:Nat→Nat→Nat} {e:Nat}
def pr2 (n:Nat) (f:Nat→Nat→Nat) (e:Nat) (a b:Nat→Bool) (x:Nat):Bool:=decide (∃ i,i < n∧a i=true∧b (f (iv n f e i) x)=true)
theorem Sub.and {a b:Nat→Bool} (ha:Sub n f e a) (hb:Sub n f e b):Sub n f e fun x=>a x && b x where
 one:=by simp [ha.one,hb.one]
 mul x y hx hy h1 h2:=by
  rw [Bool.and_eq_true] at *
  exact ⟨ha.mul x y hx hy h1.1 h2.1,hb.mul x y hx hy h1.2 h2.2⟩
 inv x hx h:=by
  rw [Bool.and_eq_true] at *
  exact ⟨ha.inv x hx h.1,hb.inv x hx h.2⟩
theorem mem_one {p:Nat→Bool} (he:e < n) (h:∀ a,a < n→(p a=true↔a=e)):(mem n p).length=1:=by
 have:(mem n p).length=[e].length:=same_len (List.nodup_range.filter _) (by simp) fun x=>by
  rw [mem_mem,List.mem_singleton]
  constructor
  ·rintro ⟨h1,h2⟩; exact (h x h1).1 h2
  rintro rfl; exact ⟨he,(h x he).2 rfl⟩
 exact this
theorem mem_all {p:Nat→Bool} : (mem n p).length=n↔∀ a,a < n→p a=true:=by
 constructor
 ·intro h a ha
  have h1:(mem n p).length=(List.range n).length:=by rw [h,List.length_range]
  have h2:=List.length_filter_eq_length_iff.1 h1
  exact h2 a (List.mem_range.2 ha)
 intro h
 have:mem n p=List.range n:=List.filter_eq_self.2 fun a ha=>h a (List.mem_range.1 ha)
 rw [this,List.length_range]
end
end Go.Proofs.YtjlmpmidchddjaaDoor

namespace Go.Proofs.YtjlmpmidchddjaaDoor
open Go.Pv
def lead (r:Nat→Nat→Bool) (a:Nat):Bool:=r a a && decide (∀ b,b < a→r a b=false)
theorem lead_iff {r:Nat→Nat→Bool} {a:Nat} : lead r a=true↔r a a=true∧∀ b,b < a→r a b=false:=by
 unfold lead; rw [Bool.and_eq_true,decide_eq_true_eq]
structure Eqv (n:Nat) (r:Nat→Nat→Bool):Prop where
 refl:∀ a,a < n→r a a=true
 symm:∀ a b,a < n→b < n→r a b=true→r b a=true
 trans:∀ a b c,a < n→b < n→c < n→r a b=true→r b c=true→r a c=true
theorem Eqv.least {n:Nat} {r:Nat→Nat→Bool} (h:Eqv n r) {y:Nat} (hy:y < n):∃ x,x < n∧lead r x=true∧r x y=true:=by
 cases hf:fst' (r y) n with
 | none=>have:=fst_spec0 hf y hy; rw [h.refl y hy] at this; cases this
 | some x =>
  obtain ⟨h1,h2,h3⟩:=fst_spec hf
  refine ⟨x,h1,lead_iff.2 ⟨h.refl x h1,fun b hb=>?_⟩,h.symm y x hy h1 h2⟩
  cases hb2:r x b with
  | false=>rfl
  | true=>have:=h.trans y x b hy h1 (by omega) h2 hb2; rw [h3 b hb] at this; cases this
theorem Eqv.lead_eq {n:Nat} {r:Nat→Nat→Bool} (h:Eqv n r) {x y:Nat} (hx:x < n) (hy:y < n) (lx:lead r x=true) (ly:lead r y=true) (hr:r x y=true):x=y:=by
 rcases Nat.lt_trichotomy x y with h1 | h1 | h1
 ·have:=(lead_iff.1 ly).2 x h1; rw [h.symm x y hx hy hr] at this; cases this
 ·exact h1
 have:=(lead_iff.1 lx).2 y h1; rw [hr] at this; cases this
theorem Eqv.one {n:Nat} {r:Nat→Nat→Bool} (h:Eqv n r) {y:Nat} (hy:y < n):((mem n (lead r)).filter fun x=>r x y).length=1:=by
 obtain ⟨x,x1,x2,x3⟩:=h.least hy
 have:((mem n (lead r)).filter fun x=>r x y).length=[x].length:=same_len ((List.nodup_range.filter _).filter _) (by simp) fun z=>by
  rw [List.mem_filter,mem_mem,List.mem_singleton]
  constructor
  ·rintro ⟨⟨z1,z2⟩,z3⟩
   exact h.lead_eq z1 x1 z2 x2 (h.trans z y x z1 hy x1 z3 (h.symm x y x1 hy x3))
  rintro rfl
  exact ⟨⟨x1,x2⟩,x3⟩
 exact this
theorem Eqv.sum {n:Nat} {r:Nat→Nat→Bool} (h:Eqv n r):((mem n (lead r)).map fun x=>(mem n (r x)).length).sum=n:=by
 have h1:=sum_filter (fun x y=>r x y) (mem n (lead r)) (List.range n)
 have h2:((List.range n).map fun y=>((mem n (lead r)).filter fun x=>r x y).length).sum=(List.range n).length * 1:=sum_const fun y hy=>h.one (List.mem_range.1 hy)
 rw [List.length_range,Nat.mul_one] at h2
 exact h1.trans h2
theorem filter_one' {l:List Nat} (h:l.Nodup) {a:Nat} (ha:a∈l):(l.filter fun w=>decide (a=w)).length=1:=by
 have:(l.filter fun w=>decide (a=w)).length=[a].length:=same_len (h.filter _) (by simp) fun x=>by
  rw [List.mem_filter,decide_eq_true_eq,List.mem_singleton]
  constructor
  ·rintro ⟨_,h⟩; exact h.symm
  rintro rfl; exact ⟨ha,rfl⟩
 exact this
section
variable {n:Nat} {f:Nat→Nat→Nat} {e:Nat}
def cjb (n:Nat) (f:Nat→Nat→Nat) (e x y:Nat):Bool:=decide (∃ a,a < n∧f (f (iv n f e a) x) a=y)
theorem cjb_iff {x y:Nat} : cjb n f e x y=true↔∃ a,a < n∧f (f (iv n f e a) x) a=y:=by unfold cjb; exact decide_eq_true_iff
theorem Grp.cjr_mul (G:Grp n f e) {x a b:Nat} (hx:x < n) (ha:a < n) (hb:b < n):f (f (iv n f e b) (f (f (iv n f e a) x) a)) b=f (f (iv n f e (f a b)) x) (f a b):=by
 have ia:=G.iv_lt ha
 have ib:=G.iv_lt hb
 have h1:=G.cl _ _ ia hx
 rw [G.iv_prod ha hb,← G.assoc _ (f (iv n f e a) x) a ib h1 ha,G.assoc (f (iv n f e b) (f (iv n f e a) x)) a b (G.cl _ _ ib h1) ha hb,← G.assoc _ _ x ib ia hx]
theorem Grp.cjb_eqv (G:Grp n f e):Eqv n (cjb n f e) where
 refl a ha:=cjb_iff.2 ⟨e,G.el,by rw [G.iv_one,G.one_l a ha,G.one_r a ha]⟩
 symm a b ha hb h:=by
  obtain ⟨c,hc,rfl⟩:=cjb_iff.1 h
  refine cjb_iff.2 ⟨iv n f e c,G.iv_lt hc,?_⟩
  rw [G.cjr_mul ha hc (G.iv_lt hc),G.mul_iv hc,G.iv_one,G.one_l a ha,G.one_r a ha]
 trans a b c ha hb hc h1 h2:=by
  obtain ⟨x,hx,rfl⟩:=cjb_iff.1 h1
  obtain ⟨y,hy,rfl⟩:=cjb_iff.1 h2
  exact cjb_iff.2 ⟨f x y,G.cl _ _ hx hy,(G.cjr_mul ha hx hy).symm⟩
theorem Grp.cls_count (G:Grp n f e) {x:Nat} (hx:x < n):(mem n (cen f x)).length * (mem n (cjb n f e x)).length=n:=by
 have hl:∀ a,a < n→f (f (iv n f e a) x) a < n:=fun a ha=>G.cl _ _ (G.cl _ _ (G.iv_lt ha) hx) ha
 have:=dbl (fun a y=>decide (f (f (iv n f e a) x) a=y)) (L1:=List.range n) (L2:=mem n (cjb n f e x)) (c1:=1) (c2:=(mem n (cen f x)).length) (fun a ha=>?_) fun y hy=>?_
 ·rw [List.length_range,Nat.mul_one] at this
  rw [Nat.mul_comm]; exact this.symm
 ·have a1:=List.mem_range.1 ha
  exact filter_one' (List.nodup_range.filter _) (mem_mem.2 ⟨hl a a1,cjb_iff.2 ⟨a,a1,rfl⟩⟩)
 obtain ⟨y1,y2⟩:=mem_mem.1 hy
 obtain ⟨a0,a1,rfl⟩:=cjb_iff.1 y2
 rw [← List.length_map (f:=fun c=>f c a0) («as»:=mem n (cen f x))]
 refine same_len (List.nodup_range.filter _) (nodup_map (List.nodup_range.filter _) fun u hu v hv he=>G.cancel_r a1 (mem_mem.1 hu).1 (mem_mem.1 hv).1 he) fun b=>?_
 rw [List.mem_filter,List.mem_range,decide_eq_true_eq,List.mem_map]
 have key:∀ b,b < n→(f (f (iv n f e b) x) b=f (f (iv n f e a0) x) a0↔f (f b (iv n f e a0)) x=f x (f b (iv n f e a0))):=by
  intro b hb
  have ib:=G.iv_lt hb
  have ia:=G.iv_lt a1
  have hbi:=G.cl _ _ hb ia
  constructor
  ·intro h
   have h1:f b (f (f (iv n f e b) x) b)=f b (f (f (iv n f e a0) x) a0):=by rw [h]
   rw [← G.assoc b _ b hb (G.cl _ _ ib hx) hb,← G.assoc b _ x hb ib hx,G.mul_iv hb,G.one_l x hx,← G.assoc b _ a0 hb (G.cl _ _ ia hx) a1,← G.assoc b _ x hb ia hx] at h1
   have h2:f (f x b) (iv n f e a0)=f (f (f (f b (iv n f e a0)) x) a0) (iv n f e a0):=by rw [h1]
   rw [G.assoc _ a0 _ (G.cl _ _ hbi hx) a1 ia,G.mul_iv a1,G.one_r _ (G.cl _ _ hbi hx),G.assoc x b _ hx hb ia] at h2
   exact h2.symm
  intro h
  refine G.cancel_l hb (G.cl _ _ (G.cl _ _ ib hx) hb) (G.cl _ _ (G.cl _ _ ia hx) a1) ?_
  rw [← G.assoc b _ b hb (G.cl _ _ ib hx) hb,← G.assoc b _ x hb ib hx,G.mul_iv hb,G.one_l x hx,← G.assoc b _ a0 hb (G.cl _ _ ia hx) a1,← G.assoc b _ x hb ia hx,h,G.assoc x _ a0 hx hbi a1,G.assoc b _ a0 hb ia a1,G.iv_mul a1,G.one_r b hb]
 constructor
 ·rintro ⟨b1,b2⟩
  refine ⟨f b (iv n f e a0),mem_mem.2 ⟨G.cl _ _ b1 (G.iv_lt a1),cen_iff.2 ((key b b1).1 b2)⟩,?_⟩
  show f (f b (iv n f e a0)) a0=b
  rw [G.assoc b _ a0 b1 (G.iv_lt a1) a1,G.iv_mul a1,G.one_r b b1]
 rintro ⟨c,hc,rfl⟩
 obtain ⟨c1,c2⟩:=mem_mem.1 hc
 rw [cen_iff] at c2
 have hca:=G.cl _ _ c1 a1
 refine ⟨hca,(key _ hca).2 ?_⟩
 rw [G.assoc c a0 _ c1 a1 (G.iv_lt a1),G.mul_iv a1,G.one_r c c1]
 exact c2
end
end Go.Proofs.YtjlmpmidchddjaaDoor

namespace Go.Proofs.YtjlmpmidchddjaaDoor
open Go.Pv
section
variable {n:Nat} {f:Nat→Nat→Nat} {e:Nat}
theorem Eqv.row {r:Nat→Nat→Bool} (h:Eqv n r) {x y:Nat} (hx:x < n) (hy:y < n) (hr:r x y=true):mem n (r x)=mem n (r y):=by
 unfold mem
 refine List.filter_congr fun z hz=>?_
 have z1:=List.mem_range.1 hz
 rw [Bool.eq_iff_iff]
 exact ⟨fun h1=>h.trans y x z hy hx z1 (h.symm x y hx hy hr) h1,fun h1=>h.trans x y z hx hy z1 hr h1⟩
def isPr (p:Nat):Prop:=2≤p∧p≤100∧∀ d,d < p→2≤d→¬ p % d=0
instance (p:Nat):Decidable (isPr p):=by unfold isPr; infer_instance
theorem isPr.div {p:Nat} (h:isPr p) {d:Nat} (hd:d ∣ p):d=1∨d=p:=by
 obtain ⟨h1,_,h3⟩:=h
 have hp:=Nat.pos_of_dvd_of_pos hd (by omega)
 have hl:=Nat.le_of_dvd (by omega) hd
 by_cases hd1:d=1
 ·exact .inl hd1
 by_cases hd2:d=p
 ·exact .inr hd2
 exact absurd (Nat.mod_eq_zero_of_dvd hd) (h3 d (by omega) (by omega))
theorem isPr.cop {p:Nat} (h:isPr p) {s:Nat} (hs:¬ p ∣ s):Nat.gcd p s=1:=by
 rcases h.div (Nat.gcd_dvd_left p s) with h1 | h1
 ·exact h1
 exact absurd (h1 ▸ Nat.gcd_dvd_right p s) hs
theorem isPr.part {p:Nat} (h:isPr p) {k d:Nat} (hd:d ∣ p ^ k) (h1:d ≠ 1):p ∣ d:=by
 by_cases hp:p ∣ d
 ·exact hp
 exfalso
 have hc:Nat.Coprime d (p ^ k):=Nat.Coprime.pow_right _ (Nat.Coprime.symm (h.cop hp))
 have:d ∣ Nat.gcd d (p ^ k):=Nat.dvd_gcd (Nat.dvd_refl d) hd
 rw [hc] at this
 exact h1 (Nat.dvd_one.1 this)
end
end Go.Proofs.YtjlmpmidchddjaaDoor

namespace Go.Proofs.YtjlmpmidchddjaaDoor
open Go.Pv
def cjr (n:Nat) (f:Nat→Nat→Nat) (e x a:Nat):Nat:=f (f (iv n f e a) x) a
def shf (n:Nat) (f:Nat→Nat→Nat) (e:Nat) (p:Nat→Bool) (a y:Nat):Bool:=decide (∃ x,x < n∧p x=true∧cjr n f e x a=y)
section
variable {n:Nat} {f:Nat→Nat→Nat} {e:Nat}
theorem Grp.cjr_lt (G:Grp n f e) {x a:Nat} (hx:x < n) (ha:a < n):cjr n f e x a < n:=G.cl _ _ (G.cl _ _ (G.iv_lt ha) hx) ha
theorem Grp.cjr_alt (G:Grp n f e) {x a:Nat} (hx:x < n) (ha:a < n):f (iv n f e a) (f x a)=cjr n f e x a:=(G.assoc _ _ _ (G.iv_lt ha) hx ha).symm
end
end Go.Proofs.YtjlmpmidchddjaaDoor

namespace Go.Proofs.YtjlmpmidchddjaaDoor
open Go.Pv
theorem conj_s {n e:Nat} {m:List Int} (h:GT n m n e) {x a:Nat} (hx:x < n) (ha:a < n):FnC Tryd.prog 74 [gp n m,.int .i64 x,.int .i64 a] (.int .i64 (cjr n (op m n) e x a:Nat)):=by
 have G:=h.2.2
 have ia:=G.iv_lt ha
 refine fnc_of tab_ok Tryd.func74 rfl (by kernel_rfl) (by rw [Tryd.ntmps74]; exact Nat.le_add_left 3 _) ?_; rw [Tryd.ntmps74]
 refine qm ?_
 refine hk_region fun K hK=>runs_eval tab_ok ?_
 simp only [evz,fl,gp,tab,simprocAttr]
 refine fin_run ?_ (hK _ ?_)<;>clear hK K
 ·(first|exact trivial|omega|(simp only [In64] at *; omega)|(simp [In64] at *; omega)|(simp_all; done)|skip)
 refine qa (qm ?_)
 refine hk_draw mixed (by kernel_rfl) fun K hK=>runs_eval tab_ok ?_
 simp only [evz,fl,gp,tab,simprocAttr]
 refine fin_stop trivial (runs_call (invOf_c h ha) rfl rfl rfl (by simp only [dstOk,Nat.reduceLT]) (by repeat (first|exact trivial|constructor)) (runs_eval tab_ok ?_))
 simp only [evz,fl,gp,tab,simprocAttr]
 refine fin_stop trivial (runs_call (of_c h.2.1 ia hx) rfl rfl rfl (by simp only [dstOk,Nat.reduceLT]) (by repeat (first|exact trivial|constructor)) (runs_eval tab_ok ?_))
 simp only [evz,fl,gp,tab,simprocAttr]
 refine fin_stop trivial (runs_call (of_c h.2.1 (G.cl _ _ ia hx) ha) rfl rfl rfl (by simp only [dstOk,Nat.reduceLT]) (by repeat (first|exact trivial|constructor)) (runs_eval tab_ok ?_))
 simp only [evz,fl,gp,tab,simprocAttr]
 refine fin_run ?_ (hK _ ?_)<;>clear hK K
 ·(first|exact trivial|omega|(simp only [In64] at *; omega)|(simp [In64] at *; omega)|(simp_all; done)|skip)
 refine qa (qk ?_)
 simp only [Tryd.results74,enA,evz,fl,gp,tab,simprocAttr]
 all_goals (rfl)
theorem c_r {n e:Nat} {m:List Int} (h:GT n m n e) {x a:Nat} (hx:x < n) (ha:a < n):FnC Tryd.prog 87 [gp n m,.int .i64 x,.int .i64 a] (.int .i64 (cjr n (op m n) e x a:Nat)):=by
 have G:=h.2.2
 have ia:=G.iv_lt ha
 refine fnc_of tab_ok Tryd.func87 rfl (by kernel_rfl) (by rw [Tryd.ntmps87]; exact Nat.le_add_left 3 _) ?_; rw [Tryd.ntmps87]
 refine qm ?_
 refine hk_region fun K hK=>runs_eval tab_ok ?_
 simp only [evz,fl,gp,tab,simprocAttr]
 refine fin_run ?_ (hK _ ?_)<;>clear hK K
 ·(first|exact trivial|omega|(simp only [In64] at *; omega)|(simp [In64] at *; omega)|(simp_all; done)|skip)
 refine qa (qm ?_)
 refine hk_draw mixed (by kernel_rfl) fun K hK=>runs_eval tab_ok ?_
 simp only [evz,fl,gp,tab,simprocAttr]
 refine fin_stop trivial (runs_call (i_c h.2.1 ha) rfl rfl rfl (by simp only [dstOk,Nat.reduceLT]) (by repeat (first|exact trivial|constructor)) (runs_eval tab_ok ?_))
 simp only [evz,fl,gp,tab,simprocAttr,h.iI ha]
 refine fin_stop trivial (runs_call (m_c h.2.1 hx ha) rfl rfl rfl (by simp only [dstOk,Nat.reduceLT]) (by repeat (first|exact trivial|constructor)) (runs_eval tab_ok ?_))
 simp only [evz,fl,gp,tab,simprocAttr]
 refine fin_stop trivial (runs_call (m_c h.2.1 ia (G.cl _ _ hx ha)) rfl rfl rfl (by simp only [dstOk,Nat.reduceLT]) (by repeat (first|exact trivial|constructor)) (runs_eval tab_ok ?_))
 simp only [evz,fl,gp,tab,simprocAttr]
 refine fin_run ?_ (hK _ ?_)<;>clear hK K
 ·(first|exact trivial|omega|(simp only [In64] at *; omega)|(simp [In64] at *; omega)|(simp_all; done)|skip)
 refine qa (qk ?_)
 simp only [Tryd.results87,enA,evz,fl,gp,tab,simprocAttr]
 all_goals (rw [G.cjr_alt hx ha])
end Go.Proofs.YtjlmpmidchddjaaDoor

namespace Go.Proofs.YtjlmpmidchddjaaDoor
open Go.Pv
def cstp (n:Nat) (r:Nat→Nat→Bool) (a:Nat):List (List Int):=((List.range a).filter (lead r)).map fun x=>thl n (r x)
def cst (n:Nat) (r:Nat→Nat→Bool):List (List Int):=cstp n r n
theorem cstp_succ (n:Nat) (r:Nat→Nat→Bool) (a:Nat):cstp n r (a + 1)=cstp n r a++if lead r a=true then [thl n (r a)] else []:=by
 unfold cstp
 rw [List.range_succ,List.filter_append,List.map_append]
 congr 1
 cases h:lead r a<;>simp [h]
theorem cstp_len (n:Nat) (r:Nat→Nat→Bool) (a:Nat):(cstp n r a).length≤a:=by
 unfold cstp
 rw [List.length_map]
 have:=List.length_filter_le (lead r) (List.range a)
 rwa [List.length_range] at this
theorem cst_get {n:Nat} {r:Nat→Nat→Bool} {i:Nat} (hi:i < (cst n r).length):∃ x,x < n∧lead r x=true∧(cst n r).getD i []=thl n (r x)∧(mem n (lead r)).getD i 0=x:=by
 unfold cst cstp at hi ⊢
 rw [List.length_map] at hi
 have hm:=List.getElem_mem hi
 obtain ⟨h1,h2⟩:=List.mem_filter.1 hm
 refine ⟨_,List.mem_range.1 h1,h2,?_,?_⟩
 ·simp [List.getD,List.getElem?_eq_getElem hi]
 unfold mem
 simp [List.getD,List.getElem?_eq_getElem hi]
theorem thl_head {n:Nat} {p:Nat→Bool} {a:Nat} (ha:a < n) (h1:p a=true) (h2:∀ b,b < a→p b=false):0 < (thl n p).length∧(thl n p).getD 0 0=(a:Int):=by
 have:thl n p=(a:Int) :: (thn' n fun i=>p i && !decide (i=a)).map (fun (a:Nat)=>(a:Int)):=by
  unfold thl
  rw [thn_first ha h1 h2]; rfl
 rw [this]
 exact ⟨by simp,rfl⟩
theorem head_thl {n:Nat} {p:Nat→Bool} {a:Nat} (ha:a < n) (h0:0 < (thl n p).length) (h:(thl n p).getD 0 0=(a:Int)):p a=true∧∀ b,b < a→p b=false:=by
 obtain ⟨x,x1,x2,x3⟩:=thl_get h0
 have:x=a:=by omega
 subst this
 refine ⟨x2,fun b hb=>?_⟩
 cases hpb:p b with
 | false=>rfl
 | true =>
  exfalso
  obtain ⟨i,i1,i2⟩:=thl_at (n:=n) (p:=p) (show b < n by omega) hpb
  rcases Nat.eq_zero_or_pos i with h' | h'
  ·subst h'; omega
  have:=thl_get_asc (n:=n) (p:=p) h' i1
  omega
theorem lead_head {n:Nat} {r:Nat→Nat→Bool} {a:Nat} (ha:a < n):lead r a=true↔0 < (thl n (r a)).length∧(thl n (r a)).getD 0 0=(a:Int):=by
 rw [lead_iff]
 exact ⟨fun h=>thl_head ha h.1 h.2,fun h=>head_thl ha h.1 h.2⟩
theorem cosets1_c (F:FuncId) (caps:List PV) (a b:Nat) (v:Bool) (hF:FnC Tryd.prog F (.int .i64 a :: .int .i64 b :: caps) (.bool v)):FnC Tryd.prog 115 [.int .i64 b,.ptr [.fn F caps],.ptr [.int .i64 a]] (.bool v):=by
 refine fnc_of tab_ok Tryd.func115 rfl (by kernel_rfl) (by rw [Tryd.ntmps115]; exact Nat.le_add_left 3 _) ?_; rw [Tryd.ntmps115]
 refine qm ?_
 refine hk_region fun K hK=>runs_eval tab_ok ?_
 simp only [evz,fl,gp,tab,simprocAttr]
 refine fin_run trivial (hK _ ?_)<;>clear hK K
 refine qa (qm ?_)
 refine hk_region fun K hK=>runs_eval tab_ok ?_
 simp only [evz,fl,gp,tab,simprocAttr]
 refine fin_stop trivial (runs_call (hF) rfl rfl rfl (by simp only [dstOk,Nat.reduceLT]) (by repeat (first|exact trivial|constructor)) (runs_eval tab_ok ?_))
 simp only [evz,fl,gp,tab,simprocAttr]
 refine fin_run ?_ (hK _ ?_)<;>clear hK K
 ·(first|exact trivial|omega|(simp only [In64] at *; omega)|(simp [In64] at *; omega)|(simp_all; done)|skip)
 refine qa (qk ?_)
 simp only [Tryd.results115,enA,evz,fl,gp,tab,simprocAttr]
 all_goals (rfl)
theorem lead3 {n:Nat} {r:Nat→Nat→Bool} {a:Nat} (ha:a < n):lead r a=true∨(lead r a=false∧(thl n (r a)).length=0)∨(lead r a=false∧0 < (thl n (r a)).length∧¬ (thl n (r a)).getD 0 0=(a:Int)):=by
 cases h:lead r a with
 | true=>exact .inl rfl
 | false =>
  right
  rcases Nat.eq_zero_or_pos (thl n (r a)).length with h0 | h0
  ·exact .inl ⟨rfl,h0⟩
  refine .inr ⟨rfl,h0,fun he=>?_⟩
  have:=(lead_head ha).2 ⟨h0,he⟩
  rw [h] at this; cases this
theorem cosets_c (n:Nat) (m:List Int) (F:FuncId) (caps:List PV) (r:Nat→Nat→Bool) (hn:n≤1000000) (hF:∀ a b,a < n→b < n→FnC Tryd.prog F (.int .i64 a :: .int .i64 b :: caps) (.bool (r a b))):FnC Tryd.prog 85 [gp n m,.fn F caps] (.list (ll (cst n r))):=by
 refine fnc_of tab_ok Tryd.func85 rfl (by kernel_rfl) (by rw [Tryd.ntmps85]; exact Nat.le_add_left 2 _) ?_; rw [Tryd.ntmps85]
 refine qm ?_
 refine hk_region fun K hK=>runs_eval tab_ok ?_
 simp only [evz,fl,gp,tab,simprocAttr]
 refine fin_run ?_ (hK _ ?_)<;>clear hK K
 ·(first|exact trivial|omega|(simp only [In64] at *; omega)|(simp [In64] at *; omega)|(simp_all; done)|skip)
 refine qa (qm ?_)
 refine hk_region fun K hK=>runs_eval tab_ok ?_
 simp only [evz,fl,gp,tab,simprocAttr]
 refine fin_run trivial (hK _ ?_)<;>clear hK K
 refine qa (qm (qm ?_))
 refine hk_freeze 1 rfl rfl ?_
 simp only [hset]
 refine hk_own0 5 rfl ?_
 refine hk_region fun K hK=>runs_eval tab_ok ?_
 simp only [evz,fl,gp,tab,simprocAttr]
 refine fin_run ?_ (hK _ ?_)<;>clear hK K
 ·(first|exact trivial|omega|(simp only [In64] at *; omega)|(simp [In64] at *; omega)|(simp_all; done)|skip)
 refine qa (ql ?_)
 refine hk_loop (ι:=Nat) (fun a=>⟨33,[(2,.ptr 0 0),(3,.ptr 1 0),(5,.sl 2 0 (cstp n r a).length),(6,.ptr 3 0)],[.own [.p (.int .i64 n),.p (.list (il m))],.fro [.fn F caps],.own (opl (ll (cstp n r a))),.own [.p (.int .i64 a)]]⟩) (fun a=>a≤n) (fun a=>n - a) 0 (Nat.zero_le _) [0,1,2,3] (by simp only [leq,leA,evz,fl,gp,tab,simprocAttr,ll_takeL,ll_snoc,ll_takeS]<;>first|trivial|(simp [cstp,ll,opl]; done)) fun a ha=>?_
 have hlen:=cstp_len n r a
 have hll:=ll_length (cstp n r a)
 refine qm (qm ?_)
 refine hk_region fun K hK=>runs_eval tab_ok ?_
 simp only [evz,fl,gp,tab,simprocAttr]
 refine fin_run ?_ (hK _ ?_)<;>clear hK K
 ·(first|exact trivial|omega|(simp only [In64] at *; omega)|(simp [In64] at *; omega)|(simp_all; done)|skip)
 refine qa ?_
 refine hk_cond rfl (fun hC1=>?_) (fun hC1=>?_)
 ·(try simp only [nhs] at hC1)
  have hlt:a < n:=by omega
  have hs:=cstp_succ n r a
  have htl:=thl_le n (r a)
  refine qh (qa (qm (ql (qm ?_))))
  refine hk_freeze 3 rfl rfl ?_
  simp only [hset]
  refine hk_region fun K hK=>runs_eval tab_ok ?_
  simp only [evz,fl,gp,tab,simprocAttr]
  refine fin_stop trivial (runs_call (those_c n m _ _ (r a) hn (fun b hb=>cosets1_c F caps a b (r a b) (hF a b hlt hb))) rfl rfl rfl (by simp only [dstOk,Nat.reduceLT]) (by repeat (first|exact trivial|constructor)) (runs_eval tab_ok ?_))
  simp only [evz,fl,gp,tab,simprocAttr]
  refine fin_run ?_ (hK _ ?_)<;>clear hK K
  ·(first|exact trivial|omega|(simp only [In64] at *; omega)|(simp [In64] at *; omega)|(simp_all; done)|skip)
  refine qa (qm ?_)
  rcases lead3 (r:=r) hlt with hld | ⟨hld,h0⟩ | ⟨hld,h0,h1⟩
  ·rw [if_pos hld] at hs
   obtain ⟨h0,h1⟩:=(lead_head hlt).1 hld
   refine hk_draw mixed (by kernel_rfl) fun K hK=>runs_eval tab_ok ?_
   simp only [evz,fl,gp,tab,simprocAttr,il_length,decide_eq_true (show ((thl n (r a)).length:Int) > 0 by omega),il_get h0,h1,decide_eq_true (show ((a:Nat):Int)=(a:Nat) from rfl)]
   refine fin_run ?_ (hK _ ?_)<;>clear hK K
   ·(first|exact trivial|omega|(simp only [In64] at *; omega)|(simp [In64] at *; omega)|(simp_all; done)|skip)
   refine qa ?_
   refine hk_cond rfl (fun hC2=>?_) (fun hC2=>?_)
   ·(try simp only [nhs] at hC2)
    refine hk_region fun K hK=>runs_eval tab_ok ?_
    simp only [evz,fl,gp,tab,simprocAttr,ll_takeL,oll_ok,ll_snoc]
    refine fin_run ?_ (hK _ ?_)<;>clear hK K
    ·(first|exact trivial|omega|(simp only [In64] at *; omega)|(simp [In64] at *; omega)|(simp_all; done)|skip)
    refine qd (qa (qm (qm ?_)))
    refine hk_region fun K hK=>runs_eval tab_ok ?_
    simp only [evz,fl,gp,tab,simprocAttr]
    refine fin_run ?_ (hK _ ?_)<;>clear hK K
    ·(first|exact trivial|omega|(simp only [In64] at *; omega)|(simp [In64] at *; omega)|(simp_all; done)|skip)
    refine qa ?_
    refine hk_region fun K hK=>runs_eval tab_ok ?_
    simp only [evz,fl,gp,tab,simprocAttr]
    refine fin_run ?_ (hK _ ?_)<;>clear hK K
    ·(first|exact trivial|omega|(simp only [In64] at *; omega)|(simp [In64] at *; omega)|(simp_all; done)|skip)
    refine qa ?_
    refine hk_region fun K hK=>runs_eval tab_ok ?_
    simp only [evz,fl,gp,tab,simprocAttr]
    refine fin_run ?_ (hK _ ?_)<;>clear hK K
    ·(first|exact trivial|omega|(simp only [In64] at *; omega)|(simp [In64] at *; omega)|(simp_all; done)|skip)
    refine qa ?_
    refine ⟨a + 1,[0,1,4,5],by omega,by omega,?_⟩
    rw [hs]
    simp only [leq,leA,evz,fl,gp,tab,simprocAttr,ll_takeL,ll_snoc,ll_takeS]<;>first|trivial|omega|(simp [ll]; done)
   cases hC2
  ·rw [if_neg (by rw [hld]; simp),List.append_nil] at hs
   refine hk_draw mixed (by kernel_rfl) fun K hK=>runs_eval tab_ok ?_
   simp only [evz,fl,gp,tab,simprocAttr,il_length,decide_eq_false (show ¬ ((thl n (r a)).length:Int) > 0 by omega)]
   refine fin_run trivial (hK _ ?_)<;>clear hK K
   refine qa ?_
   refine hk_cond rfl (fun hC2=>?_) (fun hC2=>?_)
   ·cases hC2
   refine qh (qd (qa (qm (qm ?_))))
   refine hk_region fun K hK=>runs_eval tab_ok ?_
   simp only [evz,fl,gp,tab,simprocAttr]
   refine fin_run ?_ (hK _ ?_)<;>clear hK K
   ·(first|exact trivial|omega|(simp only [In64] at *; omega)|(simp [In64] at *; omega)|(simp_all; done)|skip)
   refine qa ?_
   refine hk_region fun K hK=>runs_eval tab_ok ?_
   simp only [evz,fl,gp,tab,simprocAttr]
   refine fin_run ?_ (hK _ ?_)<;>clear hK K
   ·(first|exact trivial|omega|(simp only [In64] at *; omega)|(simp [In64] at *; omega)|(simp_all; done)|skip)
   refine qa ?_
   refine hk_region fun K hK=>runs_eval tab_ok ?_
   simp only [evz,fl,gp,tab,simprocAttr]
   refine fin_run ?_ (hK _ ?_)<;>clear hK K
   ·(first|exact trivial|omega|(simp only [In64] at *; omega)|(simp [In64] at *; omega)|(simp_all; done)|skip)
   refine qa ?_
   refine ⟨a + 1,[0,1,2,4],by omega,by omega,?_⟩
   rw [hs]
   simp only [leq,leA,evz,fl,gp,tab,simprocAttr,ll_takeL,ll_snoc,ll_takeS]<;>first|trivial|omega
  rw [if_neg (by rw [hld]; simp),List.append_nil] at hs
  refine hk_draw mixed (by kernel_rfl) fun K hK=>runs_eval tab_ok ?_
  simp only [evz,fl,gp,tab,simprocAttr,il_length,decide_eq_true (show ((thl n (r a)).length:Int) > 0 by omega),il_get h0,decide_eq_false h1]
  refine fin_run ?_ (hK _ ?_)<;>clear hK K
  ·(first|exact trivial|omega|(simp only [In64] at *; omega)|(simp [In64] at *; omega)|(simp_all; done)|skip)
  refine qa ?_
  refine hk_cond rfl (fun hC2=>?_) (fun hC2=>?_)
  ·cases hC2
  (try simp only [nhs] at hC2)
  refine qh (qd (qa (qm (qm ?_))))
  refine hk_region fun K hK=>runs_eval tab_ok ?_
  simp only [evz,fl,gp,tab,simprocAttr]
  refine fin_run ?_ (hK _ ?_)<;>clear hK K
  ·(first|exact trivial|omega|(simp only [In64] at *; omega)|(simp [In64] at *; omega)|(simp_all; done)|skip)
  refine qa ?_
  refine hk_region fun K hK=>runs_eval tab_ok ?_
  simp only [evz,fl,gp,tab,simprocAttr]
  refine fin_run ?_ (hK _ ?_)<;>clear hK K
  ·(first|exact trivial|omega|(simp only [In64] at *; omega)|(simp [In64] at *; omega)|(simp_all; done)|skip)
  refine qa ?_
  refine hk_region fun K hK=>runs_eval tab_ok ?_
  simp only [evz,fl,gp,tab,simprocAttr]
  refine fin_run ?_ (hK _ ?_)<;>clear hK K
  ·(first|exact trivial|omega|(simp only [In64] at *; omega)|(simp [In64] at *; omega)|(simp_all; done)|skip)
  refine qa ?_
  refine ⟨a + 1,[0,1,2,4],by omega,by omega,?_⟩
  rw [hs]
  simp only [leq,leA,evz,fl,gp,tab,simprocAttr,ll_takeL,ll_snoc,ll_takeS]<;>first|trivial|omega
 (try simp only [nhs] at hC1)
 have han:a=n:=by omega
 subst han
 rw [← ll_length (cstp a r a)]
 refine hk_sealp 5 2 (ll_all _) rfl rfl ?_
 refine qj (qc (qc (qf (qa (qm ?_)))))
 refine hk_region fun K hK=>runs_eval tab_ok ?_
 simp only [evz,fl,gp,tab,simprocAttr]
 refine fin_run trivial (hK _ ?_)<;>clear hK K
 refine qa (qk ?_)
 simp only [Tryd.results85,enA,evz,fl,gp,tab,simprocAttr]
 all_goals (rfl)
theorem clsOf1_c {n e:Nat} {m:List Int} (h:GT n m n e) {a b:Nat} (ha:a < n) (hb' : b < n):FnC Tryd.prog 86 [.int .i64 a,.int .i64 b,.ptr [.int .i64 n,.list (il m)]] (.bool (cjb n (op m n) e a b)):=by
 have hb:=h.2.1.big
 refine fnc_of tab_ok Tryd.func86 rfl (by kernel_rfl) (by rw [Tryd.ntmps86]; exact Nat.le_add_left 3 _) ?_; rw [Tryd.ntmps86]
 refine qm ?_
 refine hk_region fun K hK=>runs_eval tab_ok ?_
 simp only [evz,fl,gp,tab,simprocAttr]
 refine fin_run trivial (hK _ ?_)<;>clear hK K
 refine qa (qm (qm ?_))
 refine hk_region fun K hK=>runs_eval tab_ok ?_
 simp only [evz,fl,gp,tab,simprocAttr]
 refine fin_run trivial (hK _ ?_)<;>clear hK K
 refine qa (ql ?_)
 refine hk_loop (ι:=Nat) (fun x=>⟨19,[(0,.p (.int .i64 a)),(1,.p (.int .i64 b)),(2,.p (.ptr [.int .i64 n,.list (il m)])),(6,.p (.int .i64 x))],[]⟩) (fun x=>x≤n∧∀ c,c < x→¬ cjr n (op m n) e a c=b) (fun x=>n - x) 0 ⟨Nat.zero_le _,fun j hj=>by omega⟩ [] (by simp only [leq,leA,evz,fl,gp,tab,simprocAttr]<;>trivial) fun x hx=>?_
 obtain ⟨hx1,hx2⟩:=hx
 refine qm (qm ?_)
 refine hk_region fun K hK=>runs_eval tab_ok ?_
 simp only [evz,fl,gp,tab,simprocAttr]
 refine fin_run ?_ (hK _ ?_)<;>clear hK K
 ·(first|exact trivial|omega|(simp only [In64] at *; omega)|(simp [In64] at *; omega)|(simp_all; done)|skip)
 refine qa ?_
 refine hk_cond rfl (fun hC1=>?_) (fun hC1=>?_)
 ·(try simp only [nhs] at hC1)
  have hlt:x < n:=by omega
  refine qh (qa (qm (ql (qm ?_))))
  refine hk_region fun K hK=>runs_eval tab_ok ?_
  simp only [evz,fl,gp,tab,simprocAttr]
  refine fin_stop trivial (runs_call (c_r h ha hlt) rfl rfl rfl (by simp only [dstOk,Nat.reduceLT]) (by repeat (first|exact trivial|constructor)) (runs_eval tab_ok ?_))
  simp only [evz,fl,gp,tab,simprocAttr]
  refine fin_run ?_ (hK _ ?_)<;>clear hK K
  ·(first|exact trivial|omega|(simp only [In64] at *; omega)|(simp [In64] at *; omega)|(simp_all; done)|skip)
  refine qa ?_
  refine hk_cond rfl (fun hC2=>?_) (fun hC2=>?_)
  ·(try simp only [nhs] at hC2)
   refine qm ?_
   refine hk_region fun K hK=>runs_eval tab_ok ?_
   simp only [evz,fl,gp,tab,simprocAttr]
   refine fin_run trivial (hK _ ?_)<;>clear hK K
   refine qa (qk (qe (qb (qb (qe (qb ?_))))))
   simp only [Tryd.results86,enA,evz,fl,gp,tab,simprocAttr]
   all_goals (rw [eq_comm,cjb_iff]; exact ⟨x,hlt,(show cjr n (op m n) e a x=b by omega)⟩)
  (try simp only [nhs] at hC2)
  refine qh (qd (qa ?_))
  refine hk_region fun K hK=>runs_eval tab_ok ?_
  simp only [evz,fl,gp,tab,simprocAttr]
  refine fin_run ?_ (hK _ ?_)<;>clear hK K
  ·(first|exact trivial|omega|(simp only [In64] at *; omega)|(simp [In64] at *; omega)|(simp_all; done)|skip)
  refine qa ?_
  refine ⟨x + 1,[],⟨by omega,fun j hj=>?_⟩,by omega,?_⟩
  ·by_cases hj2:j=x
   ·subst hj2; omega
   exact hx2 j (by omega)
  simp only [leq,leA,evz,fl,gp,tab,simprocAttr]<;>omega
 (try simp only [nhs] at hC1)
 refine qj (qc (qc (qf (qa (qm ?_)))))
 refine hk_region fun K hK=>runs_eval tab_ok ?_
 simp only [evz,fl,gp,tab,simprocAttr]
 refine fin_run trivial (hK _ ?_)<;>clear hK K
 refine qa (qk ?_)
 simp only [Tryd.results86,enA,evz,fl,gp,tab,simprocAttr]
 rw [eq_comm]
 cases hv:cjb n (op m n) e a b with
 | false=>rfl
 | true =>
  obtain ⟨c,c1,c2⟩:=cjb_iff.1 hv
  exact absurd c2 (hx2 c (by omega))
theorem classesOf_c {n e:Nat} {m:List Int} (h:GT n m n e):FnC Tryd.prog 53 [gp n m] (.list (ll (cst n (cjb n (op m n) e)))):=by
 have hb:=h.2.1.big
 refine fnc_of tab_ok Tryd.func53 rfl (by kernel_rfl) (by rw [Tryd.ntmps53]; exact Nat.le_add_left 1 _) ?_; rw [Tryd.ntmps53]
 refine qm ?_
 refine hk_region fun K hK=>runs_eval tab_ok ?_
 simp only [evz,fl,gp,tab,simprocAttr]
 refine fin_run ?_ (hK _ ?_)<;>clear hK K
 ·(first|exact trivial|omega|(simp only [In64] at *; omega)|(simp [In64] at *; omega)|(simp_all; done)|skip)
 refine qa (qm ?_)
 refine hk_freeze 0 rfl rfl ?_
 simp only [hset]
 refine hk_region fun K hK=>runs_eval tab_ok ?_
 simp only [evz,fl,gp,tab,simprocAttr]
 refine fin_stop trivial (runs_call (cosets_c n m _ _ (cjb n (op m n) e) (by omega) (fun a b ha hb'=>clsOf1_c h ha hb')) rfl rfl rfl (by simp only [dstOk,Nat.reduceLT]) (by repeat (first|exact trivial|constructor)) (runs_eval tab_ok ?_))
 simp only [evz,fl,gp,tab,simprocAttr]
 refine fin_run ?_ (hK _ ?_)<;>clear hK K
 ·(first|exact trivial|omega|(simp only [In64] at *; omega)|(simp [In64] at *; omega)|(simp_all; done)|skip)
 refine qa (qk ?_)
 simp only [Tryd.results53,enA,evz,fl,gp,tab,simprocAttr]
 all_goals (rfl)
theorem bo_or (n:Nat) (p q:Nat→Bool):bo n p ||| bo n q=bo n fun a=>p a || q a:=by
 refine Nat.eq_of_testBit_eq fun i=>?_
 rw [Nat.testBit_or,bo_bit,bo_bit,bo_bit]
 cases decide (i < n)<;>simp
theorem bo_upd {n:Nat} {p:Nat→Bool} {c:Nat} (hc:c < n):bo n p ||| 2 ^ c=bo n (upd p c):=by
 refine Nat.eq_of_testBit_eq fun i=>?_
 rw [or_bit,bo_bit,bo_bit]
 unfold upd
 by_cases hi:i=c
 ·subst hi; simp [hc]
 have h1:decide (c=i)=false:=by simp; omega
 have h2:decide (i=c)=false:=by simpa using hi
 rw [h1,h2]; simp
def hadp (r:Nat→Nat→Bool) (x y:Nat):Bool:=decide (∃ z,z < x∧r z y=true)
def sp (n:Nat) (f:Nat→Nat→Nat) (e x a y:Nat):Bool:=decide (∃ b,b < a∧cjr n f e x b=y)
theorem sp_succ (n:Nat) (f:Nat→Nat→Nat) (e x a:Nat):sp n f e x (a + 1)=upd (sp n f e x a) (cjr n f e x a):=by
 funext y
 unfold sp upd
 rw [← Bool.decide_or]
 refine decide_eq_decide.2 ⟨?_,?_⟩
 ·rintro ⟨b,hb,rfl⟩
  by_cases h:b=a
  ·subst h; exact .inr rfl
  exact .inl ⟨b,by omega,rfl⟩
 rintro (⟨b,hb,rfl⟩ | rfl)
 ·exact ⟨b,by omega,rfl⟩
 exact ⟨a,by omega,rfl⟩
theorem bo_zero (n:Nat):bo n (fun _=>false)=0:=by
 refine Nat.eq_of_testBit_eq fun i=>?_
 rw [bo_bit]; simp
set_option maxHeartbeats 2000000 in
theorem classOf_s {n e:Nat} {m:List Int} (h:GT n m n e):FnC Tryd.prog 40 [gp n m] (.list (ll (cst n (cjb n (op m n) e)))):=by
 have G:=h.2.2
 have hb:=h.2.1.big
 have E:=G.cjb_eqv
 have hz:bo n (hadp (cjb n (op m n) e) 0)=0:=by
  have h1:bo n (hadp (cjb n (op m n) e) 0)=bo n fun _=>false:=bo_congr fun a _=>by simp [hadp]
  rw [h1,bo_zero]
 have hsp0:∀ x,bo n (sp n (op m n) e x 0)=0:=fun x=>by
  have h1:bo n (sp n (op m n) e x 0)=bo n fun _=>false:=bo_congr fun a _=>by simp [sp]
  rw [h1,bo_zero]
 have hlead:∀ x,x < n→lead (cjb n (op m n) e) x = !hadp (cjb n (op m n) e) x x:=by
  intro x hx
  rw [Bool.eq_iff_iff,lead_iff,Bool.not_eq_true']
  unfold hadp
  rw [decide_eq_false_iff_not]
  constructor
  ·rintro ⟨_,h2⟩ ⟨z,z1,z2⟩
   have:=E.symm z x (by omega) hx z2
   rw [h2 z z1] at this; cases this
  intro h1
  refine ⟨E.refl x hx,fun b hb'=>?_⟩
  cases hv:cjb n (op m n) e x b with
  | false=>rfl
  | true=>exact absurd ⟨b,hb',E.symm x b hx (by omega) hv⟩ h1
 refine fnc_of tab_ok Tryd.func40 rfl (by kernel_rfl) (by rw [Tryd.ntmps40]; exact Nat.le_add_left 1 _) ?_; rw [Tryd.ntmps40]
 refine qm ?_
 refine hk_region fun K hK=>runs_eval tab_ok ?_
 simp only [evz,fl,gp,tab,simprocAttr]
 refine fin_run ?_ (hK _ ?_)<;>clear hK K
 ·(first|exact trivial|omega|(simp only [In64] at *; omega)|(simp [In64] at *; omega)|(simp_all; done)|skip)
 refine qa (qm ?_)
 refine hk_region fun K hK=>runs_eval tab_ok ?_
 simp only [evz,fl,gp,tab,simprocAttr]
 refine fin_run trivial (hK _ ?_)<;>clear hK K
 refine qa (qm ?_)
 refine hk_own0 3 rfl ?_
 refine hk_region fun K hK=>runs_eval tab_ok ?_
 simp only [evz,fl,gp,tab,simprocAttr]
 refine fin_run trivial (hK _ ?_)<;>clear hK K
 refine qa (qm (qm ?_))
 refine hk_region fun K hK=>runs_eval tab_ok ?_
 simp only [evz,fl,gp,tab,simprocAttr]
 refine fin_run ?_ (hK _ ?_)<;>clear hK K
 ·(first|exact trivial|omega|(simp only [In64] at *; omega)|(simp [In64] at *; omega)|(simp_all; done)|skip)
 refine qa (ql ?_)
 refine hk_loop (ι:=Nat) (fun x=>⟨39,[(1,.ptr 0 0),(3,.sl 1 0 (cstp n (cjb n (op m n) e) x).length),(4,.p (.int .u64 (bo n (hadp (cjb n (op m n) e) x)))),(9,.p (.int .i64 n)),(10,.p (.int .i64 x))],[.own [.p (.int .i64 n),.p (.list (il m))],.own (opl (ll (cstp n (cjb n (op m n) e) x)))]⟩) (fun x=>x≤n) (fun x=>n - x) 0 (Nat.zero_le _) [0,1] (by simp only [leq,leA,evz,fl,gp,tab,simprocAttr,ll_takeL,ll_snoc,ll_takeS]<;>first|trivial|(simp [cstp,ll,opl,hz]; done)|(simp [cstp,ll,opl]; done)) fun x hx=>?_
 have hlen:=cstp_len n (cjb n (op m n) e) x
 have hll:=ll_length (cstp n (cjb n (op m n) e) x)
 refine qm ?_
 refine hk_region fun K hK=>runs_eval tab_ok ?_
 simp only [evz,fl,gp,tab,simprocAttr]
 refine fin_run trivial (hK _ ?_)<;>clear hK K
 refine qa (qm ?_)
 refine hk_cond rfl (fun hC1=>?_) (fun hC1=>?_)
 ·(try simp only [nhs] at hC1)
  have hlt:x < n:=by omega
  have hs:=cstp_succ n (cjb n (op m n) e) x
  have hhb:(bo n (hadp (cjb n (op m n) e) x)).testBit x=hadp (cjb n (op m n) e) x x:=by rw [bo_bit]; simp [hlt]
  refine qh (qa (qm (ql (qm ?_))))
  refine hk_region fun K hK=>runs_eval tab_ok ?_
  simp only [evz,fl,gp,tab,simprocAttr]
  refine fin_run trivial (hK _ ?_)<;>clear hK K
  refine qa (qm (qm ?_))
  refine hk_region fun K hK=>runs_eval tab_ok ?_
  simp only [evz,fl,gp,tab,simprocAttr]
  refine fin_stop trivial (runs_call (has_s (bo n (hadp (cjb n (op m n) e) x)) x (bo_lt64 hb _) (by omega)) rfl rfl rfl (by simp only [dstOk,Nat.reduceLT]) (by repeat (first|exact trivial|constructor)) (runs_eval tab_ok ?_))
  simp only [evz,fl,gp,tab,simprocAttr,hhb]
  refine fin_run trivial (hK _ ?_)<;>clear hK K
  refine qa ?_
  refine hk_cond rfl (fun hC2=>?_) (fun hC2=>?_)
  ·(try simp only [nhs] at hC2)
   have hld:lead (cjb n (op m n) e) x=false:=by rw [hlead x hlt,hC2]; rfl
   rw [if_neg (by rw [hld]; simp),List.append_nil] at hs
   have hh:bo n (hadp (cjb n (op m n) e) (x + 1))=bo n (hadp (cjb n (op m n) e) x):=bo_congr fun y hy=>by
    unfold hadp at hC2 ⊢
    rw [decide_eq_true_eq] at hC2
    refine decide_eq_decide.2 ⟨?_,fun ⟨z,z1,z2⟩=>⟨z,by omega,z2⟩⟩
    rintro ⟨z,z1,z2⟩
    by_cases hzx:z=x
    ·subst hzx
     obtain ⟨w,w1,w2⟩:=hC2
     exact ⟨w,w1,E.trans w z y (by omega) hlt hy w2 z2⟩
    exact ⟨z,by omega,z2⟩
   refine qj (qc (qf (qa ?_)))
   refine hk_region fun K hK=>runs_eval tab_ok ?_
   simp only [evz,fl,gp,tab,simprocAttr]
   refine fin_run ?_ (hK _ ?_)<;>clear hK K
   ·(first|exact trivial|omega|(simp only [In64] at *; omega)|(simp [In64] at *; omega)|(simp_all; done)|skip)
   refine qa ?_
   refine ⟨x + 1,[0,1],by omega,by omega,?_⟩
   rw [hs,hh]
   simp only [leq,leA,evz,fl,gp,tab,simprocAttr,ll_takeL,ll_snoc,ll_takeS]<;>first|trivial|omega
  (try simp only [nhs] at hC2)
  have hld:lead (cjb n (op m n) e) x=true:=by rw [hlead x hlt,hC2]; rfl
  rw [if_pos hld] at hs
  refine qh (qa (qm ?_))
  refine hk_region fun K hK=>runs_eval tab_ok ?_
  simp only [evz,fl,gp,tab,simprocAttr]
  refine fin_run trivial (hK _ ?_)<;>clear hK K
  refine qa (qm (qm ?_))
  refine hk_region fun K hK=>runs_eval tab_ok ?_
  simp only [evz,fl,gp,tab,simprocAttr]
  refine fin_run ?_ (hK _ ?_)<;>clear hK K
  ·(first|exact trivial|omega|(simp only [In64] at *; omega)|(simp [In64] at *; omega)|(simp_all; done)|skip)
  refine qa (ql ?_)
  refine hk_loop (ι:=Nat) (fun a=>⟨39,[(1,.ptr 0 0),(3,.sl 1 0 (cstp n (cjb n (op m n) e) x).length),(4,.p (.int .u64 (bo n (hadp (cjb n (op m n) e) x)))),(5,.p (.int .i64 x)),(6,.p (.int .u64 (bo n (sp n (op m n) e x a)))),(9,.p (.int .i64 n)),(10,.p (.int .i64 x)),(17,.p (.int .i64 n)),(18,.p (.int .i64 a))],[.own [.p (.int .i64 n),.p (.list (il m))],.own (opl (ll (cstp n (cjb n (op m n) e) x)))]⟩) (fun a=>a≤n) (fun a=>n - a) 0 (Nat.zero_le _) [0,1] (by simp only [leq,leA,evz,fl,gp,tab,simprocAttr,ll_takeL,ll_snoc,ll_takeS]<;>first|trivial|exact (congrArg (fun t:Nat=>(t:Int)) (hsp0 x)).symm) fun a ha=>?_
  refine qm ?_
  refine hk_region fun K hK=>runs_eval tab_ok ?_
  simp only [evz,fl,gp,tab,simprocAttr]
  refine fin_run trivial (hK _ ?_)<;>clear hK K
  refine qa (qm ?_)
  refine hk_cond rfl (fun hC3=>?_) (fun hC3=>?_)
  ·(try simp only [nhs] at hC3)
   have hal:a < n:=by omega
   have hc:=G.cjr_lt hlt hal
   have hp:=pow_lt64 (b:=cjr n (op m n) e x a) (by omega)
   have hsb:=bo_lt64 hb (sp n (op m n) e x a)
   refine qh (qa (qm (ql (qm ?_))))
   refine hk_region fun K hK=>runs_eval tab_ok ?_
   simp only [evz,fl,gp,tab,simprocAttr]
   refine fin_run trivial (hK _ ?_)<;>clear hK K
   refine qa ?_
   refine hk_region fun K hK=>runs_eval tab_ok ?_
   simp only [evz,fl,gp,tab,simprocAttr]
   refine fin_stop trivial (runs_call (conj_s h hlt hal) rfl rfl rfl (by simp only [dstOk,Nat.reduceLT]) (by repeat (first|exact trivial|constructor)) (runs_eval tab_ok ?_))
   simp only [evz,fl,gp,tab,simprocAttr,shl_one (show cjr n (op m n) e x a < 64 by omega),bv_or hsb hp,bo_upd hc]
   refine fin_run ?_ (hK _ ?_)<;>clear hK K
   ·(first|exact trivial|omega|(simp only [In64] at *; omega)|(simp [In64] at *; omega)|(simp_all; done)|skip)
   refine qd (qa ?_)
   refine hk_region fun K hK=>runs_eval tab_ok ?_
   simp only [evz,fl,gp,tab,simprocAttr]
   refine fin_run ?_ (hK _ ?_)<;>clear hK K
   ·(first|exact trivial|omega|(simp only [In64] at *; omega)|(simp [In64] at *; omega)|(simp_all; done)|skip)
   refine qa ?_
   refine ⟨a + 1,[0,1],by omega,by omega,?_⟩
   rw [sp_succ]
   simp only [leq,leA,evz,fl,gp,tab,simprocAttr,ll_takeL,ll_snoc,ll_takeS]<;>first|trivial|omega
  (try simp only [nhs] at hC3)
  have han:a=n:=by omega
  have hfull:bo n (sp n (op m n) e x a)=bo n (cjb n (op m n) e x):=by rw [han]; rfl
  rw [hfull]
  have hb1:=bo_lt64 hb (hadp (cjb n (op m n) e) x)
  have hb2:=bo_lt64 hb (cjb n (op m n) e x)
  have hh:bo n (hadp (cjb n (op m n) e) (x + 1))=bo n (fun y=>hadp (cjb n (op m n) e) x y || cjb n (op m n) e x y):=bo_congr fun y hy=>by
   unfold hadp
   rw [Bool.eq_iff_iff,Bool.or_eq_true,decide_eq_true_eq,decide_eq_true_eq]
   constructor
   ·rintro ⟨z,z1,z2⟩
    by_cases hzx:z=x
    ·subst hzx; exact .inr z2
    exact .inl ⟨z,by omega,z2⟩
   rintro (⟨z,z1,z2⟩ | h')
   ·exact ⟨z,by omega,z2⟩
   exact ⟨x,by omega,h'⟩
  refine qj (qc (qc (qf (qa (qm ?_)))))
  refine hk_region fun K hK=>runs_eval tab_ok ?_
  simp only [evz,fl,gp,tab,simprocAttr,bv_or hb1 hb2,bo_or]
  refine fin_run ?_ (hK _ ?_)<;>clear hK K
  ·(first|exact trivial|omega|(simp only [In64] at *; omega)|(simp [In64] at *; omega)|(simp_all; done)|skip)
  refine qa ?_
  refine hk_region fun K hK=>runs_eval tab_ok ?_
  simp only [evz,fl,gp,tab,simprocAttr,ll_takeL,oll_ok,ll_snoc]
  refine fin_stop trivial (runs_call (list_s (bo n (cjb n (op m n) e x)) hb2) rfl rfl rfl (by simp only [dstOk,Nat.reduceLT]) (by repeat (first|exact trivial|constructor)) (runs_eval tab_ok ?_))
  simp only [evz,fl,gp,tab,simprocAttr,stl_bo hb,ll_takeL,oll_ok,ll_snoc]
  refine fin_run ?_ (hK _ ?_)<;>clear hK K
  ·(first|exact trivial|omega|(simp only [In64] at *; omega)|(simp [In64] at *; omega)|(simp_all; done)|skip)
  refine qd (qa ?_)
  refine hk_region fun K hK=>runs_eval tab_ok ?_
  simp only [evz,fl,gp,tab,simprocAttr]
  refine fin_run ?_ (hK _ ?_)<;>clear hK K
  ·(first|exact trivial|omega|(simp only [In64] at *; omega)|(simp [In64] at *; omega)|(simp_all; done)|skip)
  refine qa ?_
  refine ⟨x + 1,[0,2],by omega,by omega,?_⟩
  rw [hs,hh]
  simp only [leq,leA,evz,fl,gp,tab,simprocAttr,ll_takeL,ll_snoc,ll_takeS]<;>first|trivial|omega|(simp [ll]; done)
 (try simp only [nhs] at hC1)
 have hxn:x=n:=by omega
 subst hxn
 rw [← ll_length (cstp x (cjb x (op m x) e) x)]
 refine hk_sealp 3 1 (ll_all _) rfl rfl ?_
 refine qj (qc (qc (qf (qa (qm ?_)))))
 refine hk_region fun K hK=>runs_eval tab_ok ?_
 simp only [evz,fl,gp,tab,simprocAttr]
 refine fin_run trivial (hK _ ?_)<;>clear hK K
 refine qa (qk ?_)
 simp only [Tryd.results40,enA,evz,fl,gp,tab,simprocAttr]
 all_goals (rfl)
end Go.Proofs.YtjlmpmidchddjaaDoor

namespace Go.Proofs.YtjlmpmidchddjaaDoor
open Go.Pv
theorem cst_len (n:Nat) (r:Nat→Nat→Bool):(cst n r).length=(mem n (lead r)).length:=by
 unfold cst cstp mem
 rw [List.length_map]
def wch (l:List (List Int)) (x:Int):Int:=match fst' (fun i=>decide (x∈l.getD i [])) l.length with | some i=>(i:Int) | none=>-1
def rgz (n:Nat) (g:Nat→Int):List Int:=(List.range n).map g
theorem rgz_len (n:Nat) (g:Nat→Int):(rgz n g).length=n:=by simp [rgz]
theorem rgz_get {n:Nat} {g:Nat→Int} {a:Nat} (ha:a < n):(rgz n g).getD a 0=g a:=by
 simp [rgz,List.getD,List.getElem?_map,List.getElem?_range ha]
theorem rgz_congr {n:Nat} {g g' : Nat→Int} (h:∀ a,a < n→g a=g' a):rgz n g=rgz n g':=List.map_congr_left fun a ha=>h a (List.mem_range.1 ha)
theorem rgz_set (n:Nat) (g:Nat→Int) (c:Nat) (x:Int):(rgz n g).set c x=rgz n fun a=>if a=c then x else g a:=by
 refine List.ext_getElem (by simp [rgz]) fun i h1 h2=>?_
 rw [List.getElem_set]
 by_cases e:c=i
 ·subst e; simp [rgz]
 rw [if_neg e]
 simp [rgz,Ne.symm e]
theorem rgz_new (n:Nat):List.replicate n (AV.p (.int .i64 0))=ol (rgz n fun _=>0):=by
 refine List.ext_getElem (by simp [ol,il,rgz]) fun i h1 h2=>?_
 simp [ol,il,rgz]
def whl (n:Nat) (r:Nat→Nat→Bool):List Int:=rgz n fun a=>wch (cst n r) a
theorem cst_apart {n:Nat} {r:Nat→Nat→Bool} (h:Eqv n r) {i j a:Nat} (hi:i < (cst n r).length) (hj:j < (cst n r).length) (ha:a < n) (h1:((a:Nat):Int)∈(cst n r).getD i []) (h2:((a:Nat):Int)∈(cst n r).getD j []):i=j:=by
 obtain ⟨x,x1,x2,x3,x4⟩:=cst_get hi
 obtain ⟨y,y1,y2,y3,y4⟩:=cst_get hj
 rw [x3,mem_thl_n ha] at h1
 rw [y3,mem_thl_n ha] at h2
 have hxy:x=y:=h.lead_eq x1 y1 x2 y2 (h.trans x a y x1 ha y1 h1 (h.symm y a y1 ha h2))
 subst hxy
 have hn:(mem n (lead r)).Nodup:=List.nodup_range.filter _
 have hl:=cst_len n r
 exact at_inj hn (by omega) (by omega) (x4.trans y4.symm)
theorem cst_in {n:Nat} {r:Nat→Nat→Bool} (h:Eqv n r) {a:Nat} (ha:a < n):∃ i,i < (cst n r).length∧((a:Nat):Int)∈(cst n r).getD i []:=by
 obtain ⟨x,x1,x2,x3⟩:=h.least ha
 obtain ⟨i,hi,e⟩:=List.getElem_of_mem (mem_mem.2 ⟨x1,x2⟩:x∈mem n (lead r))
 have hl:=cst_len n r
 refine ⟨i,by omega,?_⟩
 obtain ⟨y,y1,y2,y3,y4⟩:=cst_get (n:=n) (r:=r) (i:=i) (by omega)
 rw [y3,mem_thl_n ha]
 have:y=x:=by rw [← y4]; simp [List.getD,List.getElem?_eq_getElem hi,e]
 rw [this]; exact x3
theorem wch_at {n:Nat} {r:Nat→Nat→Bool} (h:Eqv n r) {i a:Nat} (hi:i < (cst n r).length) (ha:a < n) (h1:((a:Nat):Int)∈(cst n r).getD i []):wch (cst n r) a=(i:Int):=by
 have e:fst' (fun k=>decide (((a:Nat):Int)∈(cst n r).getD k [])) (cst n r).length=some i:=fst_some hi (decide_eq_true h1) fun j hj=>decide_eq_false fun h2=>by
  have:=cst_apart h hi (by omega) ha h1 h2
  omega
 simp only [wch,e]
theorem where_s {n:Nat} (m:List Int) (hn:n≤60) {r:Nat→Nat→Bool} (h:Eqv n r):FnC Tryd.prog 45 [gp n m,.list (ll (cst n r))] (.list (il (whl n r))):=by
 have hcl:(cst n r).length≤n:=cstp_len _ _ _
 refine fnc_of tab_ok Tryd.func45 rfl (by kernel_rfl) (by rw [Tryd.ntmps45]; exact Nat.le_add_left 2 _) ?_; rw [Tryd.ntmps45]
 refine qm ?_
 refine hk_region fun K hK=>runs_eval tab_ok ?_
 simp only [evz,fl,gp,tab,simprocAttr]
 refine fin_run ?_ (hK _ ?_)<;>clear hK K
 ·(first|exact trivial|omega|(simp only [In64] at *; omega)|(simp [In64] at *; omega)|(simp_all; done)|skip)
 refine qa (qm ?_)
 refine hk_region fun K hK=>runs_eval tab_ok ?_
 simp only [evz,fl,gp,tab,simprocAttr,makeSliceA.eq_def,rgz_new]
 refine fin_run ?_ (hK _ ?_)<;>clear hK K
 ·omega
 refine qa (qm (qm ?_))
 refine hk_region fun K hK=>runs_eval tab_ok ?_
 simp only [evz,fl,gp,tab,simprocAttr]
 refine fin_run trivial (hK _ ?_)<;>clear hK K
 refine qa (ql ?_)
 refine hk_loop (ι:=Nat × (Nat→Int)) (fun p=>⟨33,[(5,.sl 1 0 n),(13,.p (.list (ll (cst n r)))),(14,.p (.int .i64 (cst n r).length)),(15,.p (.int .i64 p.1))],[.own [.p (.int .i64 n),.p (.list (il m))],.own (ol (rgz n p.2))]⟩) (fun p=>p.1≤(cst n r).length∧∀ a,a < n→∀ k,k < p.1→((a:Nat):Int)∈(cst n r).getD k []→p.2 a=(k:Int)) (fun p=>(cst n r).length - p.1) (0,fun _=>0) ⟨Nat.zero_le _,fun a _ k hk=>by simp only at hk; omega⟩ [0,1] (by simp only [leq,leA,evz,fl,gp,tab,simprocAttr,ll_length]<;>first|trivial|(simp; done)) fun p hp=>?_
 obtain ⟨i,g⟩:=p
 obtain ⟨hi1,hi2⟩:=hp
 simp only at hi1 hi2
 refine qm ?_
 refine hk_region fun K hK=>runs_eval tab_ok ?_
 simp only [evz,fl,gp,tab,simprocAttr]
 refine fin_run trivial (hK _ ?_)<;>clear hK K
 refine qa (qm ?_)
 refine hk_cond rfl (fun hC1=>?_) (fun hC1=>?_)
 ·(try simp only [nhs] at hC1)
  have hlt:i < (cst n r).length:=by omega
  obtain ⟨x,x1,x2,x3,x4⟩:=cst_get hlt
  have l1:=thl_le n (r x)
  refine qh (qa (qm (ql (qm ?_))))
  refine hk_region fun K hK=>runs_eval tab_ok ?_
  simp only [evz,fl,gp,tab,simprocAttr,ll_length,ll_get hlt,x3]
  refine fin_run ?_ (hK _ ?_)<;>clear hK K
  ·(first|exact trivial|omega|(simp only [In64] at *; omega)|(simp [In64] at *; omega)|(simp_all; done)|skip)
  refine qa (qm ?_)
  refine hk_region fun K hK=>runs_eval tab_ok ?_
  simp only [evz,fl,gp,tab,simprocAttr,il_length]
  refine fin_run trivial (hK _ ?_)<;>clear hK K
  refine qa (ql ?_)
  refine hk_loop (ι:=Nat × (Nat→Int)) (fun p=>⟨33,[(5,.sl 1 0 n),(6,.p (.int .i64 i)),(13,.p (.list (ll (cst n r)))),(14,.p (.int .i64 (cst n r).length)),(15,.p (.int .i64 i)),(20,.p (.list (il (thl n (r x))))),(21,.p (.int .i64 (thl n (r x)).length)),(22,.p (.int .i64 p.1))],[.own [.p (.int .i64 n),.p (.list (il m))],.own (ol (rgz n p.2))]⟩) (fun p=>p.1≤(thl n (r x)).length∧(∀ a,a < n→∀ k,k < i→((a:Nat):Int)∈(cst n r).getD k []→p.2 a=(k:Int))∧∀ a,a < n→∀ k,k < p.1→(thl n (r x)).getD k 0=(a:Int)→p.2 a=(i:Int)) (fun p=>(thl n (r x)).length - p.1) (0,g) ⟨Nat.zero_le _,hi2,fun a _ k hk=>by simp only at hk; omega⟩ [0,1] (by simp only [leq,leA,evz,fl,gp,tab,simprocAttr]<;>first|trivial|(simp; done)) fun p hp=>?_
  obtain ⟨j,g'⟩:=p
  obtain ⟨hj1,hj2,hj3⟩:=hp
  simp only at hj1 hj2 hj3
  refine qm ?_
  refine hk_region fun K hK=>runs_eval tab_ok ?_
  simp only [evz,fl,gp,tab,simprocAttr]
  refine fin_run trivial (hK _ ?_)<;>clear hK K
  refine qa (qm ?_)
  refine hk_cond rfl (fun hC2=>?_) (fun hC2=>?_)
  ·(try simp only [nhs] at hC2)
   have hjl:j < (thl n (r x)).length:=by omega
   obtain ⟨c,c1,c2,c3⟩:=thl_get hjl
   refine qh (qa (qm (ql (qm ?_))))
   refine hk_region fun K hK=>runs_eval tab_ok ?_
   simp only [evz,fl,gp,tab,simprocAttr,il_get hjl,c3]
   refine fin_run ?_ (hK _ ?_)<;>clear hK K
   ·(first|exact trivial|omega|(simp only [In64] at *; omega)|(simp [In64] at *; omega)|(simp_all; done)|skip)
   refine qa ?_
   refine hk_region fun K hK=>runs_eval tab_ok ?_
   simp only [evz,fl,gp,tab,simprocAttr]
   refine fin_run ?_ (hK _ ?_)<;>clear hK K
   ·rw [rgz_len]; omega
   refine qd (qa ?_)
   rw [ol_set,rgz_set]
   refine hk_region fun K hK=>runs_eval tab_ok ?_
   simp only [evz,fl,gp,tab,simprocAttr]
   refine fin_run ?_ (hK _ ?_)<;>clear hK K
   ·(first|exact trivial|omega|(simp only [In64] at *; omega)|(simp [In64] at *; omega)|(simp_all; done)|skip)
   refine qa ?_
   refine ⟨(j + 1,fun a=>if a=c then (i:Int) else g' a),[0,1],⟨by simp only; omega,fun a ha k hk hm=>?_,fun a ha k hk hm=>?_⟩,by simp only; omega,?_⟩
   ·have hne:a ≠ c:=by
     intro he
     subst he
     have h3:((a:Nat):Int)∈(cst n r).getD i []:=by rw [x3,mem_thl_n ha]; exact c2
     have:=cst_apart h hlt (by omega) ha h3 hm
     omega
    simp only [if_neg hne]
    exact hj2 a ha k hk hm
   ·simp only at hk ⊢
    by_cases hac:a=c
    ·rw [if_pos hac]
    rw [if_neg hac]
    have hkj:k ≠ j:=by intro he; rw [he,c3] at hm; omega
    exact hj3 a ha k (by omega) hm
   simp only [leq,leA,evz,fl,gp,tab,simprocAttr]<;>first|trivial|omega|(simp [rgz]; done)
  (try simp only [nhs] at hC2)
  have hjn:j=(thl n (r x)).length:=by omega
  refine qj (qc (qc (qf (qd (qa ?_)))))
  refine hk_region fun K hK=>runs_eval tab_ok ?_
  simp only [evz,fl,gp,tab,simprocAttr]
  refine fin_run ?_ (hK _ ?_)<;>clear hK K
  ·(first|exact trivial|omega|(simp only [In64] at *; omega)|(simp [In64] at *; omega)|(simp_all; done)|skip)
  refine qa ?_
  refine ⟨(i + 1,g'),[0,1],⟨by simp only; omega,fun a ha k hk hm=>?_⟩,by simp only; omega,?_⟩
  ·by_cases hki:k=i
   ·subst hki
    rw [x3] at hm
    obtain ⟨q,q1,q2⟩:=thl_at (n:=n) (p:=r x) ha ((mem_thl_n ha).1 hm)
    exact hj3 a ha q (by omega) q2
   exact hj2 a ha k (by simp only at hk; omega) hm
  simp only [leq,leA,evz,fl,gp,tab,simprocAttr]<;>first|trivial|omega|(simp [rgz]; done)
 (try simp only [nhs] at hC1)
 have hin:i=(cst n r).length:=by omega
 have hfin:rgz n g=whl n r:=rgz_congr fun a ha=>by
  obtain ⟨k,k1,k2⟩:=cst_in h ha
  rw [hi2 a ha k (by omega) k2,wch_at h k1 ha k2]
 rw [hfin]
 have hwl:(whl n r).length=n:=rgz_len _ _
 refine hk_seal 5 1 (by show AV.sl 1 0 n=AV.sl 1 0 _; rw [hwl]) rfl ?_
 refine qj (qc (qc (qf (qa (qm ?_)))))
 refine hk_region fun K hK=>runs_eval tab_ok ?_
 simp only [evz,fl,gp,tab,simprocAttr]
 refine fin_run trivial (hK _ ?_)<;>clear hK K
 refine qa (qk ?_)
 simp only [Tryd.results45,enA,evz,fl,gp,tab,simprocAttr]
 all_goals (rfl)
end Go.Proofs.YtjlmpmidchddjaaDoor
