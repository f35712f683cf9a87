/-
  Texts of this proof, one behind the other: what each says stands at its head. Conditions: none.
-/
import Derived.Test.YtboadfahlflmhaaDoorB3
import Derived.Test.YtboadfahlflmhaaDoorB2
import Derived.Shelf.SlSortCmp.Whole1
import Derived.Test.YtboadfahlflmhaaDoorProg
import Derived.Shelf.SlLaysF

/-
  Walks: the program's words of groups: things, powers, orders. Conditions: none.
-/
set_option linter.all false
namespace Go.Proofs.YtboadfahlflmhaaDoor
open Go.Pv

theorem oneOf_c {n e:Nat} {m:List Int} (h:GT n m n e):FnC Tryd.prog 102 [gp n m] (.int .i64 (e:Nat)):=by
 have G:=h.2.2
 have T:=h.2.1
 have hb:=T.big
 have hel:=G.el
 refine fnc_of tab_ok Tryd.func102 rfl (by kernel_rfl) (by rw [Tryd.ntmps102]; exact Nat.le_add_left 1 _) ?_; rw [Tryd.ntmps102]
 refine qm ?_
 refine hk_region fun K hK=>runs_eval tab_ok ?_
 simp only [ev0,evA,evB,evP,fl,gp,tab,simprocAttr,reduceCtorEq,reduceIte]
 refine fin_run ?_ (hK _ ?_)<;>clear hK<;>clear K
 ·(first|exact trivial|omega|(simp only [In64] at *; omega)|(simp [In64] at *; omega)|(simp_all; done)|skip)
 refine qa (qm (qm ?_))
 refine hk_region fun K hK=>runs_eval tab_ok ?_
 simp only [ev0,evA,evB,evP,fl,gp,tab,simprocAttr,reduceCtorEq,reduceIte]
 refine fin_run ?_ (hK _ ?_)<;>clear hK<;>clear K
 ·(first|exact trivial|omega|(simp only [In64] at *; omega)|(simp [In64] at *; omega)|(simp_all; done)|skip)
 refine qa (ql ?_)
 refine hk_loop (ι:=Nat) (fun i=>⟨17,[(1,.ptr 0 0),(5,.p (.int .i64 n)),(6,.p (.int .i64 i))],[.own [.p (.int .i64 n),.p (.list (il m))]]⟩) (fun i=>i≤e) (fun i=>n - i) 0 (Nat.zero_le _) [0] (by simp only [leq,leA,ev0,evA,evB,evP,fl,gp,tab,simprocAttr,reduceCtorEq,reduceIte]<;>trivial) fun i hi=>?_
 refine qm ?_
 refine hk_region fun K hK=>runs_eval tab_ok ?_
 simp only [ev0,evA,evB,evP,fl,gp,tab,simprocAttr,reduceCtorEq,reduceIte]
 refine fin_run trivial (hK _ ?_)<;>clear hK<;>clear K
 refine qa (qm ?_)
 refine hk_cond rfl (fun hC1=>?_) (fun hC1=>?_)
 ·(try simp only [nhs] at hC1)
  refine qh (qa (qm (ql (qm ?_))))
  refine hk_region fun K hK=>runs_eval tab_ok ?_
  simp only [ev0,evA,evB,evP,fl,gp,tab,simprocAttr,reduceCtorEq,reduceIte]
  refine fin_run trivial (hK _ ?_)<;>clear hK<;>clear K
  refine qa (qm ?_)
  refine hk_region fun K hK=>runs_eval tab_ok ?_
  simp only [ev0,evA,evB,evP,fl,gp,tab,simprocAttr,reduceCtorEq,reduceIte]
  refine fin_stop trivial (runs_call (of_c T (show i < n by omega) (show i < n by omega)) rfl rfl rfl (by simp only [dstOk,Nat.reduceLT]) (by repeat (first|exact trivial|constructor)) (runs_eval tab_ok ?_))
  simp only [ev0,evA,evB,evP,fl,gp,tab,simprocAttr,reduceCtorEq,reduceIte]
  refine fin_run ?_ (hK _ ?_)<;>clear hK<;>clear K
  ·(first|exact trivial|omega|(simp only [In64] at *; omega)|(simp [In64] at *; omega)|(simp_all; done)|skip)
  refine qa ?_
  refine hk_cond rfl (fun hC2=>?_) (fun hC2=>?_)
  ·(try simp only [nhs] at hC2)
   have hie:i=e:=(G.idem (by omega)).1 (by omega)
   refine qm ?_
   refine hk_region fun K hK=>runs_eval tab_ok ?_
   simp only [ev0,evA,evB,evP,fl,gp,tab,simprocAttr,reduceCtorEq,reduceIte]
   refine fin_run trivial (hK _ ?_)<;>clear hK<;>clear K
   refine qa (qk (qe (qb (qb (qe (qb ?_))))))
   simp only [Tryd.results102,enA,ev0,evA,evB,evP,fl,gp,tab,simprocAttr,reduceCtorEq,reduceIte]
   all_goals (rw [hie])
  ·(try simp only [nhs] at hC2)
   have hie:i ≠ e:=fun h=>hC2 (by rw [(G.idem (show i < n by omega)).2 h])
   refine qh (qd (qa ?_))
   refine hk_region fun K hK=>runs_eval tab_ok ?_
   simp only [ev0,evA,evB,evP,fl,gp,tab,simprocAttr,reduceCtorEq,reduceIte]
   refine fin_run ?_ (hK _ ?_)<;>clear hK<;>clear K
   ·(first|exact trivial|omega|(simp only [In64] at *; omega)|(simp [In64] at *; omega)|(simp_all; done)|skip)
   refine qa ?_
   refine ⟨i + 1,[0],by omega,by omega,?_⟩
   simp only [leq,leA,ev0,evA,evB,evP,fl,gp,tab,simprocAttr,reduceCtorEq,reduceIte]<;>first|trivial|omega
 ·(try simp only [nhs] at hC1)
  omega

/-! ### With their faults -/

theorem orderOf_c {n e:Nat} {m:List Int} (h:GT n m n e) {a:Nat} (ha:a < n):FnC Tryd.prog 94 [gp n m,.int .i64 a] (.int .i64 (ord n (op m n) e a:Nat)):=by
 have G:=h.2.2
 have T:=h.2.1
 have hb:=T.big
 obtain ⟨o1,o2,o3,o4⟩:=G.ord_spec ha
 refine fnc_of tab_ok Tryd.func94 rfl (by kernel_rfl) (by rw [Tryd.ntmps94]; exact Nat.le_add_left 2 _) ?_; rw [Tryd.ntmps94]
 refine qm ?_
 refine hk_region fun K hK=>runs_eval tab_ok ?_
 simp only [ev0,evA,evB,evP,fl,gp,tab,simprocAttr,reduceCtorEq,reduceIte]
 refine fin_run ?_ (hK _ ?_)<;>clear hK<;>clear K
 ·(first|exact trivial|omega|(simp only [In64] at *; omega)|(simp [In64] at *; omega)|(simp_all; done)|skip)
 refine qa (qm ?_)
 refine hk_region fun K hK=>runs_eval tab_ok ?_
 simp only [ev0,evA,evB,evP,fl,gp,tab,simprocAttr,reduceCtorEq,reduceIte]
 refine fin_run trivial (hK _ ?_)<;>clear hK<;>clear K
 refine qa (qm (qm ?_))
 refine hk_region fun K hK=>runs_eval tab_ok ?_
 simp only [ev0,evA,evB,evP,fl,gp,tab,simprocAttr,reduceCtorEq,reduceIte]
 refine fin_run trivial (hK _ ?_)<;>clear hK<;>clear K
 refine qa (ql ?_)
 refine hk_loop (ι:=Nat) (fun k=>⟨19,[(1,.p (.int .i64 a)),(2,.ptr 0 0),(5,.p (.int .i64 k)),(6,.p (.int .i64 (pw (op m n) e a k:Nat)))],[.own [.p (.int .i64 n),.p (.list (il m))]]⟩) (fun k=>1≤k∧k≤ord n (op m n) e a) (fun k=>ord n (op m n) e a - k) 1 ⟨Nat.le_refl _,o1⟩ [0] (by rw [G.pw_one ha]; simp only [leq,leA,ev0,evA,evB,evP,fl,gp,tab,simprocAttr,reduceCtorEq,reduceIte]<;>trivial) fun k hk=>?_
 obtain ⟨hk1,hk2⟩:=hk
 refine qm (qm ?_)
 refine hk_region fun K hK=>runs_eval tab_ok ?_
 simp only [ev0,evA,evB,evP,fl,gp,tab,simprocAttr,reduceCtorEq,reduceIte]
 refine fin_stop trivial (runs_call (oneOf_c h) rfl rfl rfl (by simp only [dstOk,Nat.reduceLT]) (by repeat (first|exact trivial|constructor)) (runs_eval tab_ok ?_))
 simp only [ev0,evA,evB,evP,fl,gp,tab,simprocAttr,reduceCtorEq,reduceIte]
 refine fin_run ?_ (hK _ ?_)<;>clear hK<;>clear K
 ·(first|exact trivial|omega|(simp only [In64] at *; omega)|(simp [In64] at *; omega)|(simp_all; done)|skip)
 refine qa ?_
 refine hk_cond rfl (fun hC1=>?_) (fun hC1=>?_)
 ·(try simp only [nhs] at hC1)
  have hne:k ≠ ord n (op m n) e a:=fun h=>hC1 (by rw [h,o3])
  refine qh (qa (qm (ql ?_)))
  refine hk_region fun K hK=>runs_eval tab_ok ?_
  simp only [ev0,evA,evB,evP,fl,gp,tab,simprocAttr,reduceCtorEq,reduceIte]
  refine fin_run ?_ (hK _ ?_)<;>clear hK<;>clear K
  ·(first|exact trivial|omega|(simp only [In64] at *; omega)|(simp [In64] at *; omega)|(simp_all; done)|skip)
  refine qd (qa ?_)
  refine hk_region fun K hK=>runs_eval tab_ok ?_
  simp only [ev0,evA,evB,evP,fl,gp,tab,simprocAttr,reduceCtorEq,reduceIte]
  refine fin_stop trivial (runs_call (of_c T (G.pw_lt ha k) ha) rfl rfl rfl (by simp only [dstOk,Nat.reduceLT]) (by repeat (first|exact trivial|constructor)) (runs_eval tab_ok ?_))
  simp only [ev0,evA,evB,evP,fl,gp,tab,simprocAttr,reduceCtorEq,reduceIte]
  refine fin_run ?_ (hK _ ?_)<;>clear hK<;>clear K
  ·(first|exact trivial|omega|(simp only [In64] at *; omega)|(simp [In64] at *; omega)|(simp_all; done)|skip)
  refine qa ?_
  refine ⟨k + 1,[0],⟨by omega,by omega⟩,by omega,?_⟩
  simp only [leq,leA,ev0,evA,evB,evP,fl,gp,tab,simprocAttr,reduceCtorEq,reduceIte]<;>first|trivial|omega
 ·(try simp only [nhs] at hC1)
  have hek:k=ord n (op m n) e a:=by
   rcases Nat.lt_or_ge k (ord n (op m n) e a) with hlt | hge
   ·exact absurd (by omega) (o4 k hk1 hlt)
   ·omega
  refine qj (qc (qc (qf (qa (qm ?_)))))
  refine hk_region fun K hK=>runs_eval tab_ok ?_
  simp only [ev0,evA,evB,evP,fl,gp,tab,simprocAttr,reduceCtorEq,reduceIte]
  refine fin_run trivial (hK _ ?_)<;>clear hK<;>clear K
  refine qa (qk ?_)
  simp only [Tryd.results94,enA,ev0,evA,evB,evP,fl,gp,tab,simprocAttr,reduceCtorEq,reduceIte]
  all_goals (rw [hek])

/-- A row by a rule. -/
def rg (g:Nat→Int) (i:Nat):List Int:=(List.range i).map g
theorem rg_succ (g:Nat→Int) (i:Nat):rg g (i + 1)=rg g i++[g i]:=by simp [rg,List.range_succ]
theorem rg_len (g:Nat→Int) (i:Nat):(rg g i).length=i:=by simp [rg]
theorem rg_get (g:Nat→Int) {n i:Nat} (h:i < n):(rg g n).getD i 0=g i:=by
 simp [rg,List.getD,List.getElem?_range h]

end Go.Proofs.YtboadfahlflmhaaDoor

/-
  Sets of things as bits: plain laws of bits; the words of package sub that reckon with them. Conditions: none.
-/
set_option linter.all false
namespace Go.Proofs.YtboadfahlflmhaaDoor
open Go.Pv

/-! ### Numbers of 64 bits -/

theorem wrap_u (z:Int):IntKind.u64.wrap z=z % 18446744073709551616:=rfl
theorem wrap_n {a:Nat} (h:a < 2 ^ 64):IntKind.u64.wrap (a:Int)=(a:Int):=by
 rw [wrap_u]; omega
theorem ofInt_n {a:Nat} (h:a < 2 ^ 64):(BitVec.ofInt 64 (a:Int)).toNat=a:=by
 rw [BitVec.toNat_ofInt]; omega

theorem bv_and {a b:Nat} (ha:a < 2 ^ 64) (hb:b < 2 ^ 64):bitsV (fun _ x y=>x &&& y) .u64 (a:Int) (b:Int) = .int .u64 ((a &&& b:Nat):Int):=by
 show PV.int .u64 (IntKind.u64.wrap ((BitVec.ofInt 64 (a:Int) &&& BitVec.ofInt 64 (b:Int)).toNat:Int))=_
 rw [BitVec.toNat_and,ofInt_n ha,ofInt_n hb,wrap_n (Nat.and_lt_two_pow a hb)]
theorem bv_or {a b:Nat} (ha:a < 2 ^ 64) (hb:b < 2 ^ 64):bitsV (fun _ x y=>x ||| y) .u64 (a:Int) (b:Int) = .int .u64 ((a ||| b:Nat):Int):=by
 show PV.int .u64 (IntKind.u64.wrap ((BitVec.ofInt 64 (a:Int) ||| BitVec.ofInt 64 (b:Int)).toNat:Int))=_
 rw [BitVec.toNat_or,ofInt_n ha,ofInt_n hb,wrap_n (Nat.or_lt_two_pow ha hb)]
theorem bits_u:IntKind.u64.bits=64:=rfl
theorem shl_one {b:Nat} (hb:b < 64):IntKind.u64.wrap (1 * 2 ^ (min b IntKind.u64.bits))=((2 ^ b:Nat):Int):=by
 rw [bits_u,Nat.min_eq_left (by omega),Int.one_mul,show (2:Int) ^ b=((2 ^ b:Nat):Int) by simp,wrap_n (Nat.pow_lt_pow_right (by omega) hb)]
theorem shr_n {a b:Nat} (hb:b < 64):(a:Int).fdiv (2 ^ (min b IntKind.u64.bits))=((a / 2 ^ b:Nat):Int):=by
 rw [bits_u,Nat.min_eq_left (by omega),show (2:Int) ^ b=((2 ^ b:Nat):Int) by simp,Int.fdiv_eq_ediv_of_nonneg _ (Int.natCast_nonneg _),← Int.natCast_ediv]

theorem bv_and1 {a:Nat} (ha:a < 2 ^ 64):bitsV (fun _ x y=>x &&& y) .u64 (a:Int) 1 = .int .u64 ((a % 2:Nat):Int):=by
 have:=bv_and ha (show 1 < 2 ^ 64 by omega)
 rwa [Nat.and_one_is_mod] at this

/-! ### The lowest bit -/

/-- The lowest bit that is set. -/
def tz (s:Nat):Nat:=(fst' s.testBit 64).getD 64

theorem bit_lt {s i:Nat} (hs:s < 2 ^ 64) (h:s.testBit i=true):i < 64:=by
 rcases Nat.lt_or_ge i 64 with h1 | h1
 ·exact h1
 ·have:=Nat.testBit_lt_two_pow (Nat.lt_of_lt_of_le hs (Nat.pow_le_pow_right (by omega) h1))
  rw [h] at this; cases this
theorem tz_spec {s:Nat} (hs:s < 2 ^ 64) (h0:s ≠ 0):tz s < 64∧s.testBit (tz s)=true∧∀ j,j < tz s→s.testBit j=false:=by
 cases h:fst' s.testBit 64 with
 | none =>
  obtain ⟨i,hi⟩:=Nat.exists_testBit_of_ne_zero h0
  have:=fst_spec0 h i (bit_lt hs hi)
  rw [hi] at this; cases this
 | some a =>
  have e:tz s=a:=by unfold tz; rw [h]; rfl
  rw [e]
  exact fst_spec h
theorem tz_split {s:Nat} (hs:s < 2 ^ 64) (h0:s ≠ 0):s=2 ^ (tz s + 1) * (s / 2 ^ (tz s + 1)) + 2 ^ tz s:=by
 obtain ⟨h1,h2,h3⟩:=tz_spec hs h0
 have e1:s % 2 ^ (tz s + 1)=2 ^ tz s:=by
  refine Nat.eq_of_testBit_eq fun i=>?_
  rw [Nat.testBit_mod_two_pow,Nat.testBit_two_pow]
  rcases Nat.lt_trichotomy i (tz s) with h | h | h
  ·rw [h3 i h]; simp; omega
  ·subst h; rw [h2]; simp
  ·have a1:decide (i < tz s + 1)=false:=by simp; omega
   have a2:decide (tz s=i)=false:=by simp; omega
   rw [a1,a2]; rfl
 have:=Nat.div_add_mod s (2 ^ (tz s + 1))
 omega
theorem bit_pred {s:Nat} (hs:s < 2 ^ 64) (h0:s ≠ 0) (i:Nat):(s - 1).testBit i=if i < tz s then true else if i=tz s then false else s.testBit i:=by
 have e:=tz_split hs h0
 have hp:0 < 2 ^ tz s:=Nat.two_pow_pos _
 have e1:s - 1=2 ^ (tz s + 1) * (s / 2 ^ (tz s + 1)) + (2 ^ tz s - 1):=by omega
 have hlt:2 ^ tz s < 2 ^ (tz s + 1):=Nat.pow_lt_pow_right (by omega) (by omega)
 have b1:s.testBit i=(2 ^ (tz s + 1) * (s / 2 ^ (tz s + 1)) + 2 ^ tz s).testBit i:=by rw [← e]
 rw [e1,Nat.testBit_two_pow_mul_add _ (by omega),b1,Nat.testBit_two_pow_mul_add _ hlt,Nat.testBit_two_pow_sub_one]
 rcases Nat.lt_trichotomy i (tz s) with h | h | h
 ·rw [if_pos (by omega),if_pos h]; simpa using h
 ·rw [if_pos (by omega),if_neg (by omega),if_pos h]; simp; omega
 ·rw [if_neg (by omega),if_neg (by omega),if_neg (by omega),if_neg (by omega)]
theorem low_bit {s:Nat} (hs:s < 2 ^ 64) (h0:s ≠ 0):s &&& (2 ^ 64 - s)=2 ^ tz s:=by
 obtain ⟨h1,h2,h3⟩:=tz_spec hs h0
 refine Nat.eq_of_testBit_eq fun i=>?_
 have e:2 ^ 64 - s=2 ^ 64 - ((s - 1) + 1):=by omega
 rw [Nat.testBit_and,e,Nat.testBit_two_pow_sub_succ (by omega),bit_pred hs h0,Nat.testBit_two_pow]
 rcases Nat.lt_trichotomy i (tz s) with h | h | h
 ·rw [h3 i h]; simp; omega
 ·subst h; rw [h2]; simp; omega
 ·rw [if_neg (by omega),if_neg (by omega)]
  cases s.testBit i<;>simp<;>omega
/-- Without its lowest bit. -/
def cut (s:Nat):Nat:=s &&& (s - 1)
theorem cut_bit {s:Nat} (hs:s < 2 ^ 64) (h0:s ≠ 0) (i:Nat):(cut s).testBit i=(s.testBit i && !decide (i=tz s)):=by
 obtain ⟨h1,h2,h3⟩:=tz_spec hs h0
 unfold cut
 rw [Nat.testBit_and,bit_pred hs h0]
 rcases Nat.lt_trichotomy i (tz s) with h | h | h
 ·rw [h3 i h]; simp
 ·rw [if_neg (by omega),if_pos h]; simp [h]
 ·rw [if_neg (by omega),if_neg (by omega)]
  have:decide (i=tz s)=false:=by simp; omega
  rw [this]; simp
theorem cut_lt {s:Nat} (h0:s ≠ 0):cut s < s:=by
 have:cut s≤s - 1:=Nat.and_le_right
 omega

/-! ### Lists of sets -/

/-- The things of which something holds, rising. -/
def thn' (n:Nat) (p:Nat→Bool):List Nat:=(List.range n).filter p
/-- As numbers of the program. -/
def thl (n:Nat) (p:Nat→Bool):List Int:=(thn' n p).map (fun (a:Nat)=>(a:Int))

theorem thl_len (n:Nat) (p:Nat→Bool):(thl n p).length=(thn' n p).length:=by simp [thl]
theorem thn_congr {n:Nat} {p q:Nat→Bool} (h:∀ a,a < n→p a=q a):thn' n p=thn' n q:=List.filter_congr fun a ha=>h a (List.mem_range.1 ha)
theorem thl_congr {n:Nat} {p q:Nat→Bool} (h:∀ a,a < n→p a=q a):thl n p=thl n q:=by unfold thl; rw [thn_congr h]
theorem thl_succ (n:Nat) (p:Nat→Bool):thl (n + 1) p=thl n p++if p n=true then [(n:Int)] else []:=by
 unfold thl thn'
 rw [List.range_succ,List.filter_append,List.map_append]
 congr 1
 cases h:p n<;>simp [h]
theorem thl_ext {n m : Nat} {p : Nat → Bool} (h : n ≤ m) (hp : ∀ a, n ≤ a → a < m → p a = false) : thl m p = thl n p := by
  induction m with
  | zero => have : n = 0 := by omega
            subst this; rfl
  | succ m ih =>
    by_cases e : n = m + 1
    · subst e; rfl
    · rw [thl_succ, hp m (by omega) (by omega), ih (by omega) fun a h1 h2 => hp a h1 (by omega)]; simp
theorem mem_thn {n:Nat} {p:Nat→Bool} {a:Nat} : a∈thn' n p↔a < n∧p a=true:=by simp [thn']
theorem thl_le (n:Nat) (p:Nat→Bool):(thl n p).length≤n:=by
 rw [thl_len]
 have:=List.length_filter_le p (List.range n)
 rwa [List.length_range] at this
theorem thl_inj {n:Nat} {p q:Nat→Bool} (h:thl n p=thl n q) {a:Nat} (ha:a < n):p a=q a:=by
 have h1:thn' n p=thn' n q:=List.map_inj_right (f:=fun (a:Nat)=>(a:Int)) (fun x y h=>by have h' : (x:Int)=(y:Int):=h; omega) |>.1 h
 have h2:a∈thn' n p↔a∈thn' n q:=by rw [h1]
 rw [mem_thn,mem_thn] at h2
 cases hp:p a<;>cases hq:q a<;>simp_all

/-- The list of a set of bits. -/
def stl (s:Nat):List Int:=thl 64 s.testBit

theorem stl_zero:stl 0=[]:=by
 unfold stl thl thn'
 simp
theorem thn_first {n k:Nat} {p:Nat→Bool} (hk:k < n) (h1:p k=true) (h2:∀ j,j < k→p j=false):thn' n p=k :: thn' n (fun i=>p i && !decide (i=k)):=by
 unfold thn'
 have e:n=k + ((n - k - 1) + 1):=by omega
 rw [e,List.range_add,List.filter_append,List.filter_append]
 have z:∀ q:Nat→Bool,(∀ j,j < k→q j=false)→(List.range k).filter q=[]:=by
  intro q hq
  rw [List.filter_eq_nil_iff]
  intro a ha
  rw [hq a (List.mem_range.1 ha)]; simp
 rw [z p h2,z _ (fun j hj=>by rw [h2 j hj]; rfl),List.nil_append,List.nil_append,List.range_succ_eq_map,List.map_cons,List.filter_cons,List.filter_cons]
 rw [if_pos (by simpa using h1),if_neg (by simp)]
 simp only [Nat.add_zero,List.cons.injEq,true_and]
 refine List.filter_congr fun a ha=>?_
 simp only [List.map_map,List.mem_map,List.mem_range,Function.comp] at ha
 obtain ⟨j,_,rfl⟩:=ha
 have:decide (k + (j + 1)=k)=false:=by simp
 simp [this]
theorem stl_cons {s:Nat} (hs:s < 2 ^ 64) (h0:s ≠ 0):stl s=(tz s:Int) :: stl (cut s):=by
 obtain ⟨h1,h2,h3⟩:=tz_spec hs h0
 unfold stl thl
 rw [thn_first h1 h2 h3,List.map_cons,thn_congr fun a _=>(cut_bit hs h0 a).symm]
theorem stl_len (s:Nat):(stl s).length≤64:=thl_le _ _

/-- Bits below n alone: the list is that of n things. -/
theorem stl_n {s n:Nat} (hn:n≤64) (hs:s < 2 ^ n):stl s=thl n s.testBit:=by
 unfold stl
 refine thl_ext hn fun a h1 _=>Nat.testBit_lt_two_pow (Nat.lt_of_lt_of_le hs (Nat.pow_le_pow_right (by omega) h1))

/-! ### The walks -/

theorem has_s (s a:Nat) (hs:s < 2 ^ 64) (ha:a < 64):FnC Tryd.prog 146 [.int .u64 s,.int .i64 a] (.bool (s.testBit a)):=by
 have h1:s / 2 ^ a < 2 ^ 64:=Nat.lt_of_le_of_lt (Nat.div_le_self _ _) hs
 refine fnc_of tab_ok Tryd.func146 rfl (by kernel_rfl) (by rw [Tryd.ntmps146]; exact Nat.le_add_left 2 _) ?_; rw [Tryd.ntmps146]
 refine qm ?_
 refine hk_region fun K hK=>runs_eval tab_ok ?_
 simp only [ev0,evA,evB,evP,fl,gp,tab,simprocAttr,reduceCtorEq,reduceIte]
 refine fin_run trivial (hK _ ?_)<;>clear hK<;>clear K
 refine qa (qm ?_)
 refine hk_region fun K hK=>runs_eval tab_ok ?_
 simp only [ev0,evA,evB,evP,fl,gp,tab,simprocAttr,reduceCtorEq,reduceIte,shr_n ha,bv_and1 h1]
 refine fin_run ?_ (hK _ ?_)<;>clear hK<;>clear K
 ·(first|exact trivial|omega|(simp only [In64] at *; omega)|(simp [In64] at *; omega)|(simp_all; done)|skip)
 refine qa (qk ?_)
 simp only [Tryd.results146,enA,ev0,evA,evB,evP,fl,gp,tab,simprocAttr,reduceCtorEq,reduceIte]
 all_goals (rw [Nat.testBit_eq_decide_div_mod_eq]; exact decide_eq_decide.2 (by omega))

theorem gva_0:gva 0 = .p (.ptr glob0):=rfl /- 145 -/
theorem glob0_len:glob0.length=64:=rfl /- 145 -/

/-- Where the table is asked. -/
def dix (k:Nat):Nat:=2 ^ k * 285870213051353865 % 18446744073709551616 / 2 ^ 58
theorem deb_ix (k:Nat):(IntKind.u64.wrap (((2 ^ k:Nat):Int) * 285870213051353865)).fdiv (2 ^ min 58 IntKind.u64.bits)=((dix k:Nat):Int):=by
 rw [wrap_u,bits_u,Int.fdiv_eq_ediv_of_nonneg _ (by decide)]
 show (((2 ^ k:Nat):Int) * ((285870213051353865:Nat):Int)) % ((18446744073709551616:Nat):Int) / (((2 ^ 58:Nat)):Int)=_
 rw [← Int.natCast_mul,← Int.natCast_emod,← Int.natCast_ediv]
 rfl
def isU8 (k:Nat):PV→Bool
 | .int .u8 i=>decide (i=(k:Int))
 | _=>false
theorem isU8_eq {k:Nat} {p:PV} (h:isU8 k p=true):p = .int .u8 (k:Nat):=by
 unfold isU8 at h
 split at h
 ·rw [of_decide_eq_true h]
 ·cases h
theorem deb_all:((List.range 64).all fun k=>isU8 k ((glob0.drop (dix k * 1)).headD default))=true:=by decide +kernel /- 145 -/
theorem deb_at {k:Nat} (hk:k < 64):(glob0.drop (dix k * 1)).headD default = .int .u8 (k:Nat):=
 isU8_eq (List.all_eq_true.1 deb_all k (List.mem_range.2 hk)) /- 145 -/
theorem dix_lt (k:Nat):dix k < 64:=by unfold dix; omega
theorem wrap_i8 {k:Nat} (hk:k < 64):IntKind.i64.wrap (k:Int)=(k:Int):=by
 show (if _ then _ else _)=_
 have h1:(k:Int) % (2 ^ IntKind.i64.bits:Int)=(k:Int):=by
  show (k:Int) % 18446744073709551616=_
  omega
 rw [h1,if_neg]
 show ¬ (_ && decide ((k:Int) ≥ 9223372036854775808))=true
 simp; omega

theorem tz_c (s:Nat) (hs:s < 2 ^ 64) (h0:s ≠ 0):FnC Tryd.prog 145 [.int .u64 s] (.int .i64 (tz s:Nat)):=by
 obtain ⟨h1,h2,h3⟩:=tz_spec hs h0
 have hneg:IntKind.u64.wrap (-(s:Int))=((2 ^ 64 - s:Nat):Int):=by
  rw [wrap_u]; omega
 have hd:=dix_lt (tz s)
 refine fnc_of tab_ok Tryd.func145 rfl (by kernel_rfl) (by rw [Tryd.ntmps145]; exact Nat.le_add_left 1 _) ?_; rw [Tryd.ntmps145]
 refine qm ?_
 refine hk_region fun K hK=>runs_eval tab_ok ?_
 simp only [ev0,evA,evB,evP,fl,gp,tab,simprocAttr,reduceCtorEq,reduceIte]
 refine fin_run trivial (hK _ ?_)<;>clear hK<;>clear K
 refine qa (qm (qm ?_))
 refine hk_region fun K hK=>runs_eval tab_ok ?_
 simp only [ev0,evA,evB,evP,fl,gp,tab,simprocAttr,reduceCtorEq,reduceIte]
 refine fin_run trivial (hK _ ?_)<;>clear hK<;>clear K
 refine qa ?_
 refine hk_cond rfl (fun hC1=>?_) (fun hC1=>?_)
 ·(try simp only [nhs] at hC1)
  omega
 ·(try simp only [nhs] at hC1)
  refine qh (qa (qm ?_))
  refine hk_region fun K hK=>runs_eval tab_ok ?_
  simp only [ev0,evA,evB,evP,fl,gp,tab,simprocAttr,reduceCtorEq,reduceIte,hneg,bv_and hs (show 2 ^ 64 - s < 2 ^ 64 by omega),low_bit hs h0,gva_0,deb_ix,deb_at h1,wrap_i8 h1,glob0_len,List.length_drop]
  refine fin_run ?_ (hK _ ?_)<;>clear hK<;>clear K
  ·(first|exact trivial|omega|(simp only [In64] at *; omega)|(simp [In64] at *; omega)|(simp_all; done)|skip)
  refine qa (qk ?_)
  simp only [Tryd.results145,enA,ev0,evA,evB,evP,fl,gp,tab,simprocAttr,reduceCtorEq,reduceIte]
  all_goals (rfl)
end Go.Proofs.YtboadfahlflmhaaDoor

/-
  How many bits are set: by sums of neighbours. Conditions: none.
-/
set_option linter.all false
namespace Go.Proofs.YtboadfahlflmhaaDoor
open Go.Pv

theorem land_byte {a c:Nat} (u v:Nat) (ha:a < 256) (hc:c < 256):(a + 256 * u) &&& (c + 256 * v)=(a &&& c) + 256 * (u &&& v):=by
 have e:∀ b w:Nat,b + 256 * w=2 ^ 8 * w + b:=fun b w=>by omega
 refine Nat.eq_of_testBit_eq fun i=>?_
 have hac:a &&& c < 2 ^ 8:=Nat.lt_of_le_of_lt Nat.and_le_left ha
 rw [e,e,e,Nat.testBit_and,Nat.testBit_two_pow_mul_add _ (show a < 2 ^ 8 from ha),Nat.testBit_two_pow_mul_add _ (show c < 2 ^ 8 from hc),Nat.testBit_two_pow_mul_add _ hac]
 by_cases hi:i < 8
 ·rw [if_pos hi,if_pos hi,if_pos hi,Nat.testBit_and]
 ·rw [if_neg hi,if_neg hi,if_neg hi,Nat.testBit_and]
def msk8 (c:Nat):Nat→Nat
 | 0=>0
 | k + 1=>c + 256 * msk8 c k
def p1 (M x:Nat):Nat:=(x / 2 &&& M) + (x &&& M)
def p2 (M x:Nat):Nat:=(x / 4 &&& M) + (x &&& M)
def p3 (M x:Nat):Nat:=(x / 16 + x) &&& M
theorem p1_step {a:Nat} (ha:a < 256) (u M:Nat):p1 (85 + 256 * M) (a + 256 * u)=p1 85 a + 256 * p1 M u:=by
 have h:∀ a,a < 256→∀ r,r < 2→(a / 2 + 128 * r) &&& 85=a / 2 &&& 85:=by decide +kernel
 have e:(a + 256 * u) / 2=(a / 2 + 128 * (u % 2)) + 256 * (u / 2):=by omega
 unfold p1
 rw [e,land_byte _ _ (by omega) (by omega),land_byte _ _ ha (by omega),h a ha _ (by omega)]
 omega
theorem p2_step {a:Nat} (ha:a < 256) (u M:Nat):p2 (51 + 256 * M) (a + 256 * u)=p2 51 a + 256 * p2 M u:=by
 have h:∀ a,a < 256→∀ r,r < 4→(a / 4 + 64 * r) &&& 51=a / 4 &&& 51:=by decide +kernel
 have e:(a + 256 * u) / 4=(a / 4 + 64 * (u % 4)) + 256 * (u / 4):=by omega
 unfold p2
 rw [e,land_byte _ _ (by omega) (by omega),land_byte _ _ ha (by omega),h a ha _ (by omega)]
 omega
theorem p3_step {a:Nat} (ha:a % 16≤4∧a / 16≤4) (u M:Nat) (hu:u % 16≤4):p3 (15 + 256 * M) (a + 256 * u)=p3 15 a + 256 * p3 M u:=by
 have e:(a + 256 * u) / 16 + (a + 256 * u)=(a / 16 + 16 * (u % 16) + a) + 256 * (u / 16 + u):=by omega
 have m15:∀ z,z &&& 15=z % 16:=fun z=>Nat.and_two_pow_sub_one_eq_mod z 4
 unfold p3
 rw [e,land_byte _ _ (by omega) (by omega),m15,m15]
 have:(a / 16 + 16 * (u % 16) + a) % 16=(a / 16 + a) % 16:=by omega
 rw [this]
def pT (k x:Nat):Nat:=p3 (msk8 15 k) (p2 (msk8 51 k) (p1 (msk8 85 k) x))
def pM (k x:Nat):Nat:=p2 (msk8 51 k) (p1 (msk8 85 k) x)
theorem p1_small:∀ a,a < 256→p1 85 a < 256:=by decide +kernel
theorem p2_small:∀ a,a < 256→p2 51 (p1 85 a) % 16≤4∧p2 51 (p1 85 a) / 16≤4:=by decide +kernel
def cnt (k x:Nat):Nat:=((List.range k).filter x.testBit).length
theorem p_byte:∀ a,a < 256→p3 15 (p2 51 (p1 85 a))=cnt 8 a:=by decide +kernel
theorem cnt_le (k x:Nat):cnt k x≤k:=by
 have:=List.length_filter_le x.testBit (List.range k)
 simpa [cnt] using this
theorem pM_step {a:Nat} (ha:a < 256) (k u:Nat):pM (k + 1) (a + 256 * u)=p2 51 (p1 85 a) + 256 * pM k u:=by
 show p2 (51 + 256 * msk8 51 k) (p1 (85 + 256 * msk8 85 k) (a + 256 * u))=_
 rw [p1_step ha,p2_step (p1_small a ha)]; rfl
theorem pM_low:∀ (k u:Nat),pM k u % 16≤4
 | 0,u=>by simp [pM,msk8,p2]
 | k + 1,u=>by
  have:=pM_step (a:=u % 256) (Nat.mod_lt _ (by omega)) k (u / 256)
  rw [show u % 256 + 256 * (u / 256)=u by omega] at this
  rw [this]
  have:=p2_small (u % 256) (Nat.mod_lt _ (by omega))
  omega
theorem pT_step (k x:Nat):pT (k + 1) x=cnt 8 (x % 256) + 256 * pT k (x / 256):=by
 have ha:x % 256 < 256:=Nat.mod_lt _ (by omega)
 have:=pM_step ha k (x / 256)
 rw [show x % 256 + 256 * (x / 256)=x by omega] at this
 show p3 (15 + 256 * msk8 15 k) (pM (k + 1) x)=_
 rw [this,p3_step (p2_small _ ha) _ _ (pM_low _ _),p_byte _ ha]; rfl
theorem cnt_step (k x:Nat):cnt (8 + k) x=cnt 8 (x % 256) + cnt k (x / 256):=by
 unfold cnt
 rw [List.range_add,List.filter_append,List.length_append]
 congr 1
 ·congr 1
  refine List.filter_congr fun i hi=>?_
  have hi:i < 8:=List.mem_range.1 hi
  show x.testBit i=(x % 2 ^ 8).testBit i
  rw [Nat.testBit_mod_two_pow]; simp [hi]
 ·rw [List.filter_map,List.length_map]
  congr 1
  refine List.filter_congr fun i _=>?_
  show x.testBit (8 + i)=(x / 2 ^ 8).testBit i
  rw [Nat.testBit_div_two_pow,Nat.add_comm]
theorem pT0 (x:Nat):pT 0 x=0:=by simp [pT,msk8,p3]
def pcf (x:Nat):Nat:=
 let y:=pT 8 x
 let y4:=y + y / 256
 let y5:=y4 + y4 / 65536
 let y6:=y5 + y5 / 4294967296
 y6 % 128
theorem dv {a B q:Nat} (h:a < B):(a + B * q) / B=q:=by
 rw [Nat.add_mul_div_left _ _ (Nat.lt_of_le_of_lt (Nat.zero_le _) h),Nat.div_eq_of_lt h,Nat.zero_add]
theorem l3 {E0 E1 E2 E3:Nat} (h0:E0≤5000) (h1:E1≤5000) (h2:E2≤5000) (h3:E3≤5000) :
  let y4:=E0 + 65536 * (E1 + 65536 * (E2 + 65536 * E3))
  let y5:=y4 + y4 / 65536
  (y5 + y5 / 4294967296) % 128=(E0 + E1 + E2 + E3) % 128:=by
 intro y4 y5
 have a1:y4 / 65536=E1 + 65536 * (E2 + 65536 * E3):=dv (by omega)
 have a2:y5=((E0 + E1) + 65536 * (E1 + E2)) + 4294967296 * ((E2 + E3) + 65536 * E3):=by
  show y4 + y4 / 65536=_
  rw [a1]; show E0 + 65536 * (E1 + 65536 * (E2 + 65536 * E3)) + _=_
  omega
 have a3:y5 / 4294967296=(E2 + E3) + 65536 * E3:=by rw [a2]; exact dv (by omega)
 rw [a3,a2]
 omega
theorem l1 {d0 d1 d2 d3 d4 d5 d6 d7:Nat} : d0 + 256 * (d1 + 256 * (d2 + 256 * (d3 + 256 * (d4 + 256 * (d5 + 256 * (d6 + 256 * d7)))))) + (d1 + 256 * (d2 + 256 * (d3 + 256 * (d4 + 256 * (d5 + 256 * (d6 + 256 * d7)))))) =
  (d0 + d1 + 256 * (d1 + d2)) + 65536 * ((d2 + d3 + 256 * (d3 + d4)) + 65536 * ((d4 + d5 + 256 * (d5 + d6)) + 65536 * (d6 + d7 + 256 * d7))):=by
 omega

theorem pcf_eq (x:Nat) (hx:x < 2 ^ 64):pcf x=cnt 64 x:=by
 have c0:∀ u,cnt 0 u=0:=fun u=>rfl
 have e:cnt 64 x=cnt (8 + (8 + (8 + (8 + (8 + (8 + (8 + (8 + 0)))))))) x:=rfl
 have e2:pT 8 x=pT (0 + 1 + 1 + 1 + 1 + 1 + 1 + 1 + 1) x:=rfl
 have key:∀ d0 d1 d2 d3 d4 d5 d6 d7:Nat,d0≤8→d1≤8→d2≤8→d3≤8→d4≤8→d5≤8→d6≤8→d7≤8→∀ Y,Y=d0 + 256 * (d1 + 256 * (d2 + 256 * (d3 + 256 * (d4 + 256 * (d5 + 256 * (d6 + 256 * d7)))))) →
   ((Y + Y / 256 + (Y + Y / 256) / 65536) + (Y + Y / 256 + (Y + Y / 256) / 65536) / 4294967296) % 128=d0 + (d1 + (d2 + (d3 + (d4 + (d5 + (d6 + d7)))))):=by
  intro d0 d1 d2 d3 d4 d5 d6 d7 b0 b1 b2 b3 b4 b5 b6 b7 Y hY
  have a1:Y / 256=d1 + 256 * (d2 + 256 * (d3 + 256 * (d4 + 256 * (d5 + 256 * (d6 + 256 * d7))))):=by rw [hY]; exact dv (by omega)
  rw [a1,hY,l1]
  have:=l3 (E0:=d0 + d1 + 256 * (d1 + d2)) (E1:=d2 + d3 + 256 * (d3 + d4)) (E2:=d4 + d5 + 256 * (d5 + d6)) (E3:=d6 + d7 + 256 * d7) (by omega) (by omega) (by omega) (by omega)
  simp only at this
  rw [this]
  omega
 unfold pcf
 rw [e,e2]
 simp only [cnt_step,c0,pT_step,pT0]
 refine (key _ _ _ _ _ _ _ _ (cnt_le _ _) (cnt_le _ _) (cnt_le _ _) (cnt_le _ _) (cnt_le _ _) (cnt_le _ _) (cnt_le _ _) (cnt_le _ _) _ rfl).trans ?_
 rw [Nat.add_zero]

end Go.Proofs.YtboadfahlflmhaaDoor

/-
  Sets of things: lists and bits; what is looked at first; what is chosen. Conditions: none.
-/
set_option linter.all false
namespace Go.Proofs.YtboadfahlflmhaaDoor
open Go.Pv

/-- A row of its own that is handed out reads as a row. -/
theorem FnG_fnc {P:Program} {f:FuncId} {args l:List PV} (h:FnG P f args (.sl 0 0 l.length) [.own (opl l)]) (hone:l.all PV.one=true):FnC P f args (.list l):=by
 refine ⟨h.1,fun okA w vals h1 h2 h3=>(h.2 okA w vals h1 h2 h3).mono fun e w' ⟨v,m',he,hbl,ho⟩=>⟨v,he,hbl,?_⟩⟩
 cases ho.val with
 | sl _ _ _ _ hk hs =>
  rcases hs with ⟨h0,ad,rfl⟩ | ⟨lc,cap,hm,rfl,hc1,hc2⟩
  ·have:l=[]:=List.eq_nil_of_length_eq_zero h0
   subst this
   exact .list0 _ _ fun _=>rfl
  ·rcases ho.blk 0 (opl l) rfl with ⟨hn,_⟩ | ⟨l',cur,e',hm2,hB,hh,hs1,hs3,hs2,hcells⟩
   ·have:l=[]:=List.map_eq_nil_iff.1 hn
    subst this
    exact .list0 _ _ fun h=>by cases h
   ·rw [hm] at hm2; cases hm2
    rw [opl_length] at hs2
    refine row_reads rfl hone ⟨.inr hB,(Array.getElem?_eq_some_iff.1 hh).1⟩ hc1 (fun j=>cur.getD (lc.o + j) undef) (fun j hj=>?_) fun j hj=>?_
    ·have:lc.o + 0 + j=lc.o + j:=by omega
     rw [this]; exact cell_of hh (by omega)
    ·have:=hcells j (by rw [opl_length]; exact hj)
     have e2:(opl l)[j]'(by rw [opl_length]; exact hj) = .p l[j]:=by simp [opl]
     rw [e2] at this
     exact this.p_inv.mono fun b hb=>⟨hb.1,hb.2.1⟩

/-! ### Lists and bits -/

theorem list_g (s:Nat) (hs:s < 2 ^ 64):FnG Tryd.prog 113 [.int .u64 s] (.sl 0 0 (stl s).length) [.own (opl (il (stl s)))]:=by
 refine fng_of tab_ok Tryd.func113 rfl (by kernel_rfl) (by rw [Tryd.ntmps113]; exact Nat.le_add_left 1 _) ?_; rw [Tryd.ntmps113]
 refine qm ?_
 refine hk_region fun K hK=>runs_eval tab_ok ?_
 simp only [ev0,evA,evB,evP,fl,gp,tab,simprocAttr,reduceCtorEq,reduceIte]
 refine fin_run trivial (hK _ ?_)<;>clear hK<;>clear K
 refine qa (qm ?_)
 refine hk_region fun K hK=>runs_eval tab_ok ?_
 simp only [ev0,evA,evB,evP,fl,gp,tab,simprocAttr,reduceCtorEq,reduceIte]
 refine fin_run trivial (hK _ ?_)<;>clear hK<;>clear K
 refine qa (qm (ql ?_))
 refine hk_own0 3 rfl ?_
 refine hk_loop (ι:=Nat × List Int) (fun p=>⟨16,[(0,.p (.int .u64 p.1)),(3,.sl 0 0 p.2.length)],[.own (ol p.2)]⟩) (fun p=>p.1 < 2 ^ 64∧p.2++stl p.1=stl s) (fun p=>p.1) (s,[]) ⟨hs,rfl⟩ [0] (by simp only [leq,leA,ev0,evA,evB,evP,fl,gp,tab,simprocAttr,reduceCtorEq,reduceIte]<;>simp [ol_nil]) fun p hp=>?_
 obtain ⟨t,out⟩:=p
 obtain ⟨ht,ho⟩:=hp
 simp only at ht ho
 refine qm (qm ?_)
 refine hk_region fun K hK=>runs_eval tab_ok ?_
 simp only [ev0,evA,evB,evP,fl,gp,tab,simprocAttr,reduceCtorEq,reduceIte]
 refine fin_run trivial (hK _ ?_)<;>clear hK<;>clear K
 refine qa ?_
 refine hk_cond rfl (fun hC1=>?_) (fun hC1=>?_)
 ·(try simp only [nhs] at hC1)
  have h0:t ≠ 0:=by omega
  have ht1:t - 1 < 2 ^ 64:=by omega
  have hsub:IntKind.u64.wrap ((t:Int) - 1)=((t - 1:Nat):Int):=by rw [wrap_u]; omega
  have hcut:t &&& (t - 1)=cut t:=rfl
  have hc:=stl_cons ht h0
  have hlen:out.length + 1≤64:=by
   have h1:=stl_len s
   rw [← ho,hc] at h1
   simp at h1; omega
  refine qh (qa (qm (ql ?_)))
  refine hk_region fun K hK=>runs_eval tab_ok ?_
  simp only [ev0,evA,evB,evP,fl,gp,tab,simprocAttr,reduceCtorEq,reduceIte]
  refine fin_stop trivial (runs_call (tz_c t ht h0) rfl rfl rfl (by simp only [dstOk,Nat.reduceLT]) (by repeat (first|exact trivial|constructor)) (runs_eval tab_ok ?_))
  simp only [ev0,evA,evB,evP,fl,gp,tab,simprocAttr,reduceCtorEq,reduceIte]
  refine fin_run ?_ (hK _ ?_)<;>clear hK<;>clear K
  ·(first|exact trivial|omega|(simp only [In64] at *; omega)|(simp [In64] at *; omega)|(simp_all; done)|skip)
  refine qd (qa ?_)
  refine hk_region fun K hK=>runs_eval tab_ok ?_
  simp only [ev0,evA,evB,evP,fl,gp,tab,simprocAttr,reduceCtorEq,reduceIte,hsub,bv_and ht ht1,hcut]
  refine fin_run ?_ (hK _ ?_)<;>clear hK<;>clear K
  ·(first|exact trivial|omega|(simp only [In64] at *; omega)|(simp [In64] at *; omega)|(simp_all; done)|skip)
  refine qa ?_
  refine ⟨(cut t,out++[(tz t:Int)]),[1],⟨?_,?_⟩,cut_lt h0,?_⟩
  ·exact Nat.lt_trans (cut_lt h0) ht
  ·show out++[(tz t:Int)]++stl (cut t)=stl s
   rw [← ho,hc]; simp
  ·simp only [leq,leA,ev0,evA,evB,evP,fl,gp,tab,simprocAttr,reduceCtorEq,reduceIte]<;>first|trivial|omega
 ·(try simp only [nhs] at hC1)
  have h0:t=0:=by omega
  rw [h0,stl_zero,List.append_nil] at ho
  refine qj (qc (qc (qf (qa (qm ?_)))))
  refine hk_region fun K hK=>runs_eval tab_ok ?_
  simp only [ev0,evA,evB,evP,fl,gp,tab,simprocAttr,reduceCtorEq,reduceIte]
  refine fin_run trivial (hK _ ?_)<;>clear hK<;>clear K
  refine qa (qk ?_)
  simp only [Tryd.results113,PostG,endG,rvsA,rvA,mkTup,ev0,evA,evB,evP,fl,gp,tab,simprocAttr,reduceCtorEq,reduceIte]
  all_goals (rw [← ho]; exact ⟨[0],by simp only [leq,leA,ev0,evA,evB,evP,fl,gp,tab,simprocAttr,reduceCtorEq,reduceIte]<;>simp [ol,opl]⟩)
theorem list_s (s:Nat) (hs:s < 2 ^ 64):FnC Tryd.prog 113 [.int .u64 s] (.list (il (stl s))):=by
 have h:=list_g s hs
 rw [← il_length] at h
 exact FnG_fnc h (il_all _)

/-- The bits of a list of things. -/
def msk (l:List Int):Nat:=l.foldl (fun s a=>s ||| 2 ^ a.toNat) 0
theorem msk_snoc (l:List Int) (a:Int):msk (l++[a])=msk l ||| 2 ^ a.toNat:=by simp [msk,List.foldl_append]
theorem msk_bit (l:List Int) (i:Nat):(msk l).testBit i=decide (∃ a∈l,a.toNat=i):=by
 have key:∀ (l:List Int) (s:Nat),(l.foldl (fun s a=>s ||| 2 ^ a.toNat) s).testBit i=(s.testBit i || decide (∃ a∈l,a.toNat=i)):=by
  intro l
  induction l with
  | nil=>intro s; simp
  | cons a r ih =>
   intro s
   rw [List.foldl_cons,ih,Nat.testBit_or,Nat.testBit_two_pow]
   by_cases h:a.toNat=i
   ·simp [h]
   ·simp [h]
 rw [msk,key]; simp
theorem msk_lt {l:List Int} {n:Nat} (h:∀ a∈l,a.toNat < n):msk l < 2 ^ n:=by
 refine Nat.lt_pow_two_of_testBit _ fun i hi=>?_
 rw [msk_bit,decide_eq_false_iff_not]
 rintro ⟨a,ha,rfl⟩
 have:=h a ha; omega

theorem of_s (l:List Int) (hl:l.length≤1000000) (h:∀ a∈l,0≤a∧a < 64):FnC Tryd.prog 112 [.list (il l)] (.int .u64 (msk l)):=by
 refine fnc_of tab_ok Tryd.func112 rfl (by kernel_rfl) (by rw [Tryd.ntmps112]; exact Nat.le_add_left 1 _) ?_; rw [Tryd.ntmps112]
 refine qm ?_
 refine hk_region fun K hK=>runs_eval tab_ok ?_
 simp only [ev0,evA,evB,evP,fl,gp,tab,simprocAttr,reduceCtorEq,reduceIte]
 refine fin_run trivial (hK _ ?_)<;>clear hK<;>clear K
 refine qa (qm ?_)
 refine hk_region fun K hK=>runs_eval tab_ok ?_
 simp only [ev0,evA,evB,evP,fl,gp,tab,simprocAttr,reduceCtorEq,reduceIte]
 refine fin_run trivial (hK _ ?_)<;>clear hK<;>clear K
 refine qa (qm (qm ?_))
 refine hk_region fun K hK=>runs_eval tab_ok ?_
 simp only [ev0,evA,evB,evP,fl,gp,tab,simprocAttr,reduceCtorEq,reduceIte]
 refine fin_run trivial (hK _ ?_)<;>clear hK<;>clear K
 refine qa (ql ?_)
 refine hk_loop (ι:=Nat) (fun i=>⟨18,[(3,.p (.int .u64 (msk (l.take i)))),(6,.p (.list (il l))),(7,.p (.int .i64 l.length)),(8,.p (.int .i64 i))],[]⟩) (fun i=>i≤l.length) (fun i=>l.length - i) 0 (Nat.zero_le _) [] (by simp only [leq,leA,ev0,evA,evB,evP,fl,gp,tab,simprocAttr,reduceCtorEq,reduceIte]<;>simp [msk]) fun i hi=>?_
 refine qm ?_
 refine hk_region fun K hK=>runs_eval tab_ok ?_
 simp only [ev0,evA,evB,evP,fl,gp,tab,simprocAttr,reduceCtorEq,reduceIte]
 refine fin_run trivial (hK _ ?_)<;>clear hK<;>clear K
 refine qa (qm ?_)
 refine hk_cond rfl (fun hC1=>?_) (fun hC1=>?_)
 ·(try simp only [nhs] at hC1)
  have hlt:i < l.length:=by omega
  have hmem:l.getD i 0∈l:=by simp [List.getD,List.getElem?_eq_getElem hlt]
  obtain ⟨a1,a2⟩:=h _ hmem
  obtain ⟨a,ha⟩:=Int.eq_ofNat_of_zero_le a1
  have ha64:a < 64:=by omega
  have hm:msk (l.take i) < 2 ^ 64:=msk_lt fun x hx=>by have:=h x (List.mem_of_mem_take hx); omega
  have hp:2 ^ a < 2 ^ 64:=Nat.pow_lt_pow_right (by omega) ha64
  have hs:msk (l.take (i + 1))=msk (l.take i) ||| 2 ^ a:=by
   rw [List.take_succ_eq_append_getElem hlt,msk_snoc]
   have:l[i]=(a:Int):=by rw [← ha]; simp [List.getD,List.getElem?_eq_getElem hlt]
   rw [this]; rfl
  refine qh (qa (qm (ql (qm ?_))))
  refine hk_region fun K hK=>runs_eval tab_ok ?_
  simp only [ev0,evA,evB,evP,fl,gp,tab,simprocAttr,reduceCtorEq,reduceIte,il_get hlt,ha]
  refine fin_run ?_ (hK _ ?_)<;>clear hK<;>clear K
  ·(first|exact trivial|omega|(simp only [In64] at *; omega)|(simp [In64] at *; omega)|(simp_all; done)|skip)
  refine qa ?_
  refine hk_region fun K hK=>runs_eval tab_ok ?_
  simp only [ev0,evA,evB,evP,fl,gp,tab,simprocAttr,reduceCtorEq,reduceIte,shl_one ha64,bv_or hm hp]
  refine fin_run ?_ (hK _ ?_)<;>clear hK<;>clear K
  ·(first|exact trivial|omega|(simp only [In64] at *; omega)|(simp [In64] at *; omega)|(simp_all; done)|skip)
  refine qd (qa ?_)
  refine hk_region fun K hK=>runs_eval tab_ok ?_
  simp only [ev0,evA,evB,evP,fl,gp,tab,simprocAttr,reduceCtorEq,reduceIte]
  refine fin_run ?_ (hK _ ?_)<;>clear hK<;>clear K
  ·(first|exact trivial|omega|(simp only [In64] at *; omega)|(simp [In64] at *; omega)|(simp_all; done)|skip)
  refine qa ?_
  refine ⟨i + 1,[],by omega,by omega,?_⟩
  rw [hs]
  simp only [leq,leA,ev0,evA,evB,evP,fl,gp,tab,simprocAttr,reduceCtorEq,reduceIte]<;>first|trivial|omega
 ·(try simp only [nhs] at hC1)
  have hin:i=l.length:=by omega
  refine qj (qc (qc (qf (qa (qm ?_)))))
  refine hk_region fun K hK=>runs_eval tab_ok ?_
  simp only [ev0,evA,evB,evP,fl,gp,tab,simprocAttr,reduceCtorEq,reduceIte]
  refine fin_run trivial (hK _ ?_)<;>clear hK<;>clear K
  refine qa (qk ?_)
  simp only [Tryd.results112,enA,ev0,evA,evB,evP,fl,gp,tab,simprocAttr,reduceCtorEq,reduceIte]
  all_goals (rw [hin,List.take_length])

/-! ### Lists that rise -/

theorem mem_thl {n:Nat} {p:Nat→Bool} {x:Int} : x∈thl n p↔∃ a,a < n∧p a=true∧x=(a:Int):=by
 unfold thl
 rw [List.mem_map]
 constructor
 ·rintro ⟨a,ha,rfl⟩
  obtain ⟨h1,h2⟩:=mem_thn.1 ha
  exact ⟨a,h1,h2,rfl⟩
 ·rintro ⟨a,h1,h2,rfl⟩
  exact ⟨a,mem_thn.2 ⟨h1,h2⟩,rfl⟩
theorem thl_asc (n:Nat) (p:Nat→Bool):(thl n p).Pairwise (· < ·):=by
 unfold thl thn'
 rw [List.pairwise_map]
 refine (List.Pairwise.filter p List.pairwise_lt_range).imp fun {a b} h=>by omega

/-- The test of a list. -/
def tst (l:List Int) (a:Nat):Bool:=decide ((a:Int)∈l)
/-- What is at fault in a list, at i. -/
def lfb (N:Int) (l:List Int) (i:Nat):Int × Int:=if ¬ okT N l i then (3,(i:Int)) else if 0 < i∧l.getD i 0≤l.getD (i - 1) 0 then (5,(i:Int)) else (0,0)
/-- The fault of a list. -/
def lf (N:Int) (l:List Int):Int × Int:=
 if (l.length:Int) > N then (2,0)
 else match fst' (fun i=>decide (¬ (lfb N l i).1=0)) l.length with
  | some i=>lfb N l i
  | none=>(0,0)
/-- The fault of a group and a list. -/
def sf (N:Int) (m l:List Int):Int × Int:=if ¬ (gf N m).1=0 then gf N m else lf N l

theorem lf_many {N:Int} {l:List Int} (h:(l.length:Int) > N):lf N l=(2,0):=by unfold lf; rw [if_pos h]
theorem lf_at {N:Int} {l:List Int} {i:Nat} {w:Int × Int} (h:¬ (l.length:Int) > N) (hi:i < l.length) (hw:lfb N l i=w) (hn:¬ w.1=0) (hj:∀ j,j < i→(lfb N l j).1=0):lf N l=w:=by
 have:fst' (fun i=>decide (¬ (lfb N l i).1=0)) l.length=some i:=fst_some hi (decide_eq_true (by rw [hw]; exact hn)) fun j h=>decide_eq_false fun h'=>h' (hj j h)
 unfold lf; rw [if_neg h,this]; exact hw
theorem lf_none {N:Int} {l:List Int} (h:¬ (l.length:Int) > N) (hj:∀ j,j < l.length→(lfb N l j).1=0):lf N l=(0,0):=by
 have:fst' (fun i=>decide (¬ (lfb N l i).1=0)) l.length=none:=fst_none fun j h=>decide_eq_false fun h'=>h' (hj j h)
 unfold lf; rw [if_neg h,this]
theorem lfb_3 {N:Int} {l:List Int} {i:Nat} (h:¬ okT N l i):lfb N l i=(3,(i:Int)):=by unfold lfb; rw [if_pos h]
theorem lfb_5 {N:Int} {l:List Int} {i:Nat} (h:okT N l i) (h2:0 < i) (h3:l.getD i 0≤l.getD (i - 1) 0):lfb N l i=(5,(i:Int)):=by unfold lfb; rw [if_neg (by simpa using h),if_pos ⟨h2,h3⟩]
theorem lfb_0 {N:Int} {l:List Int} {i:Nat} (h:okT N l i) (h2:0 < i→¬ l.getD i 0≤l.getD (i - 1) 0):(lfb N l i).1=0:=by unfold lfb; rw [if_neg (by simpa using h),if_neg (fun h'=>h2 h'.1 h'.2)]
theorem sfault_c (c a:Int):FnC Tryd.prog 115 [.int .i64 c,.int .i64 a] (fl (c,a)):=by
 refine fnc_of tab_ok Tryd.func115 rfl (by kernel_rfl) (by rw [Tryd.ntmps115]; exact Nat.le_add_left 2 _) ?_; rw [Tryd.ntmps115]
 refine qm ?_
 refine hk_region fun K hK=>runs_eval tab_ok ?_
 simp only [ev0,evA,evB,evP,fl,gp,tab,simprocAttr,reduceCtorEq,reduceIte]
 refine fin_run ?_ (hK _ ?_)<;>clear hK<;>clear K
 ·(first|exact trivial|omega|(simp only [In64] at *; omega)|(simp [In64] at *; omega)|(simp_all; done)|skip)
 refine qa (qm ?_)
 refine hk_region fun K hK=>runs_eval tab_ok ?_
 simp only [ev0,evA,evB,evP,fl,gp,tab,simprocAttr,reduceCtorEq,reduceIte]
 refine fin_run ?_ (hK _ ?_)<;>clear hK<;>clear K
 ·(first|exact trivial|omega|(simp only [In64] at *; omega)|(simp [In64] at *; omega)|(simp_all; done)|skip)
 refine qa (qk ?_)
 simp only [Tryd.results115,enA,ev0,evA,evB,evP,fl,gp,tab,simprocAttr,reduceCtorEq,reduceIte]
 all_goals (rfl)

set_option maxHeartbeats 2000000 in
theorem look_c (N:Int) (m l:List Int) (hm:m.length≤1000000000000000) (hl:l.length≤1000000000000000):FnC Tryd.prog 110 [gp N m,.list (il l)] (fl (sf N m l)):=by
 refine fnc_of tab_ok Tryd.func110 rfl (by kernel_rfl) (by rw [Tryd.ntmps110]; exact Nat.le_add_left 2 _) ?_; rw [Tryd.ntmps110]
 refine qm ?_
 refine hk_region fun K hK=>runs_eval tab_ok ?_
 simp only [ev0,evA,evB,evP,fl,gp,tab,simprocAttr,reduceCtorEq,reduceIte]
 refine fin_run ?_ (hK _ ?_)<;>clear hK<;>clear K
 ·(first|exact trivial|omega|(simp only [In64] at *; omega)|(simp [In64] at *; omega)|(simp_all; done)|skip)
 refine qa (qm (qm ?_))
 refine hk_region fun K hK=>runs_eval tab_ok ?_
 simp only [ev0,evA,evB,evP,fl,gp,tab,simprocAttr,reduceCtorEq,reduceIte]
 refine fin_stop trivial (runs_call (check_c N m hm) rfl rfl rfl (by simp only [dstOk,Nat.reduceLT]) (by repeat (first|exact trivial|constructor)) (runs_eval tab_ok ?_))
 simp only [ev0,evA,evB,evP,fl,gp,tab,simprocAttr,reduceCtorEq,reduceIte]
 refine fin_run ?_ (hK _ ?_)<;>clear hK<;>clear K
 ·(first|exact trivial|omega|(simp only [In64] at *; omega)|(simp [In64] at *; omega)|(simp_all; done)|skip)
 refine qa (qm ?_)
 refine hk_region fun K hK=>runs_eval tab_ok ?_
 simp only [ev0,evA,evB,evP,fl,gp,tab,simprocAttr,reduceCtorEq,reduceIte]
 refine fin_run ?_ (hK _ ?_)<;>clear hK<;>clear K
 ·(first|exact trivial|omega|(simp only [In64] at *; omega)|(simp [In64] at *; omega)|(simp_all; done)|skip)
 refine qa ?_
 refine hk_cond rfl (fun hC1=>?_) (fun hC1=>?_)
 ·(try simp only [nhs] at hC1)
  refine qm ?_
  refine hk_region fun K hK=>runs_eval tab_ok ?_
  simp only [ev0,evA,evB,evP,fl,gp,tab,simprocAttr,reduceCtorEq,reduceIte]
  refine fin_run ?_ (hK _ ?_)<;>clear hK<;>clear K
  ·(first|exact trivial|omega|(simp only [In64] at *; omega)|(simp [In64] at *; omega)|(simp_all; done)|skip)
  refine qa (qk (qb ?_))
  simp only [Tryd.results110,enA,ev0,evA,evB,evP,fl,gp,tab,simprocAttr,reduceCtorEq,reduceIte]
  all_goals (rw [sf,if_pos (by simpa using hC1)]; simp)
 ·(try simp only [nhs] at hC1)
  have hg:(gf N m).1=0:=hC1
  refine qh (qa (qm (qm ?_)))
  refine hk_region fun K hK=>runs_eval tab_ok ?_
  simp only [ev0,evA,evB,evP,fl,gp,tab,simprocAttr,reduceCtorEq,reduceIte]
  refine fin_run ?_ (hK _ ?_)<;>clear hK<;>clear K
  ·(first|exact trivial|omega|(simp only [In64] at *; omega)|(simp [In64] at *; omega)|(simp_all; done)|skip)
  refine qa ?_
  refine hk_cond rfl (fun hC2=>?_) (fun hC2=>?_)
  ·(try simp only [nhs] at hC2)
   refine qm ?_
   refine hk_region fun K hK=>runs_eval tab_ok ?_
   simp only [ev0,evA,evB,evP,fl,gp,tab,simprocAttr,reduceCtorEq,reduceIte]
   refine fin_stop trivial (runs_call (sfault_c 2 0) rfl rfl rfl (by simp only [dstOk,Nat.reduceLT]) (by repeat (first|exact trivial|constructor)) (runs_eval tab_ok ?_))
   simp only [ev0,evA,evB,evP,fl,gp,tab,simprocAttr,reduceCtorEq,reduceIte]
   refine fin_run ?_ (hK _ ?_)<;>clear hK<;>clear K
   ·(first|exact trivial|omega|(simp only [In64] at *; omega)|(simp [In64] at *; omega)|(simp_all; done)|skip)
   refine qa (qk (qb ?_))
   simp only [Tryd.results110,enA,ev0,evA,evB,evP,fl,gp,tab,simprocAttr,reduceCtorEq,reduceIte]
   all_goals (rw [sf,if_neg (by simpa using hg),lf_many hC2]; simp)
  ·(try simp only [nhs] at hC2)
   refine qh (qa (qm (qm ?_)))
   refine hk_region fun K hK=>runs_eval tab_ok ?_
   simp only [ev0,evA,evB,evP,fl,gp,tab,simprocAttr,reduceCtorEq,reduceIte]
   refine fin_run trivial (hK _ ?_)<;>clear hK<;>clear K
   refine qa (ql ?_)
   refine hk_loop (ι:=Nat) (fun i=>⟨52,[(1,.p (.list (il l))),(2,.ptr 0 0),(4,.ptr 1 0),(20,.p (.list (il l))),(21,.p (.int .i64 l.length)),(22,.p (.int .i64 i))],[.own [.p (.int .i64 N),.p (.list (il m))],.own [.p (.int .i64 0),.p (.int .i64 0)]]⟩) (fun i=>i≤l.length∧∀ j,j < i→(lfb N l j).1=0) (fun i=>l.length - i) 0 ⟨Nat.zero_le _,fun j hj=>by omega⟩ [0,1] (by simp only [leq,leA,ev0,evA,evB,evP,fl,gp,tab,simprocAttr,reduceCtorEq,reduceIte]<;>trivial) fun i hi=>?_
   obtain ⟨hi1,hi2⟩:=hi
   refine qm ?_
   refine hk_region fun K hK=>runs_eval tab_ok ?_
   simp only [ev0,evA,evB,evP,fl,gp,tab,simprocAttr,reduceCtorEq,reduceIte]
   refine fin_run trivial (hK _ ?_)<;>clear hK<;>clear K
   refine qa (qm ?_)
   refine hk_cond rfl (fun hC3=>?_) (fun hC3=>?_)
   ·(try simp only [nhs] at hC3)
    have hlt:i < l.length:=by omega
    refine qh (qa (qm (ql (qm ?_))))
    refine hk_region fun K hK=>runs_eval tab_ok ?_
    simp only [ev0,evA,evB,evP,fl,gp,tab,simprocAttr,reduceCtorEq,reduceIte,il_get hlt]
    refine fin_run ?_ (hK _ ?_)<;>clear hK<;>clear K
    ·(first|exact trivial|omega|(simp only [In64] at *; omega)|(simp [In64] at *; omega)|(simp_all; done)|skip)
    refine qa (qm (qm ?_))
    by_cases g9a:l.getD i 0 < 0
    ·refine hk_region fun K hK=>runs_eval tab_ok ?_
     simp only [ev0,evA,evB,evP,fl,gp,tab,simprocAttr,reduceCtorEq,reduceIte,decide_eq_true g9a]
     refine fin_run trivial (hK _ ?_)<;>clear hK<;>clear K
     refine qa ?_
     refine hk_cond rfl (fun hC4=>?_) (fun hC4=>?_)
     ·refine qm ?_
      refine hk_region fun K hK=>runs_eval tab_ok ?_
      simp only [ev0,evA,evB,evP,fl,gp,tab,simprocAttr,reduceCtorEq,reduceIte]
      refine fin_stop trivial (runs_call (sfault_c 3 i) rfl rfl rfl (by simp only [dstOk,Nat.reduceLT]) (by repeat (first|exact trivial|constructor)) (runs_eval tab_ok ?_))
      simp only [ev0,evA,evB,evP,fl,gp,tab,simprocAttr,reduceCtorEq,reduceIte]
      refine fin_run ?_ (hK _ ?_)<;>clear hK<;>clear K
      ·(first|exact trivial|omega|(simp only [In64] at *; omega)|(simp [In64] at *; omega)|(simp_all; done)|skip)
      refine qa (qk (qb (qe (qb (qb (qe (qb ?_)))))))
      simp only [Tryd.results110,enA,ev0,evA,evB,evP,fl,gp,tab,simprocAttr,reduceCtorEq,reduceIte]
      all_goals (rw [sf,if_neg (by simpa using hg),lf_at hC2 hlt (lfb_3 (fun h=>h (.inl g9a))) (by simp) hi2]; simp)
     ·cases hC4
    ·refine hk_region fun K hK=>runs_eval tab_ok ?_
     simp only [ev0,evA,evB,evP,fl,gp,tab,simprocAttr,reduceCtorEq,reduceIte,decide_eq_false g9a]
     refine fin_run ?_ (hK _ ?_)<;>clear hK<;>clear K
     ·(first|exact trivial|omega|(simp only [In64] at *; omega)|(simp [In64] at *; omega)|(simp_all; done)|skip)
     refine qa ?_
     refine hk_cond rfl (fun hC4=>?_) (fun hC4=>?_)
     ·(try simp only [nhs] at hC4)
      refine qm ?_
      refine hk_region fun K hK=>runs_eval tab_ok ?_
      simp only [ev0,evA,evB,evP,fl,gp,tab,simprocAttr,reduceCtorEq,reduceIte]
      refine fin_stop trivial (runs_call (sfault_c 3 i) rfl rfl rfl (by simp only [dstOk,Nat.reduceLT]) (by repeat (first|exact trivial|constructor)) (runs_eval tab_ok ?_))
      simp only [ev0,evA,evB,evP,fl,gp,tab,simprocAttr,reduceCtorEq,reduceIte]
      refine fin_run ?_ (hK _ ?_)<;>clear hK<;>clear K
      ·(first|exact trivial|omega|(simp only [In64] at *; omega)|(simp [In64] at *; omega)|(simp_all; done)|skip)
      refine qa (qk (qb (qe (qb (qb (qe (qb ?_)))))))
      simp only [Tryd.results110,enA,ev0,evA,evB,evP,fl,gp,tab,simprocAttr,reduceCtorEq,reduceIte]
      all_goals (rw [sf,if_neg (by simpa using hg),lf_at hC2 hlt (lfb_3 (fun h=>h (.inr hC4))) (by simp) hi2]; simp)
     ·(try simp only [nhs] at hC4)
      have hok:okT N l i:=by unfold okT; omega
      refine qh (qa (qm ?_))
      by_cases g11a:(i:Int) > 0
      ·refine hk_region fun K hK=>runs_eval tab_ok ?_
       simp only [ev0,evA,evB,evP,fl,gp,tab,simprocAttr,reduceCtorEq,reduceIte,il_get hlt,tn_pred,il_get (show i - 1 < l.length by omega),decide_eq_true g11a]
       refine fin_run ?_ (hK _ ?_)<;>clear hK<;>clear K
       ·(first|exact trivial|omega|(simp only [In64] at *; omega)|(simp [In64] at *; omega)|(simp_all; done)|skip)
       refine qa ?_
       refine hk_cond rfl (fun hC5=>?_) (fun hC5=>?_)
       ·(try simp only [nhs] at hC5)
        refine qm ?_
        refine hk_region fun K hK=>runs_eval tab_ok ?_
        simp only [ev0,evA,evB,evP,fl,gp,tab,simprocAttr,reduceCtorEq,reduceIte]
        refine fin_stop trivial (runs_call (sfault_c 5 i) rfl rfl rfl (by simp only [dstOk,Nat.reduceLT]) (by repeat (first|exact trivial|constructor)) (runs_eval tab_ok ?_))
        simp only [ev0,evA,evB,evP,fl,gp,tab,simprocAttr,reduceCtorEq,reduceIte]
        refine fin_run ?_ (hK _ ?_)<;>clear hK<;>clear K
        ·(first|exact trivial|omega|(simp only [In64] at *; omega)|(simp [In64] at *; omega)|(simp_all; done)|skip)
        refine qa (qk (qe (qb (qb (qe (qb ?_))))))
        simp only [Tryd.results110,enA,ev0,evA,evB,evP,fl,gp,tab,simprocAttr,reduceCtorEq,reduceIte]
        all_goals (rw [sf,if_neg (by simpa using hg),lf_at hC2 hlt (lfb_5 hok (by omega) hC5) (by simp) hi2]; simp)
       ·(try simp only [nhs] at hC5)
        have h0:(lfb N l i).1=0:=lfb_0 hok fun h=>by omega
        refine qh (qd (qa ?_))
        refine hk_region fun K hK=>runs_eval tab_ok ?_
        simp only [ev0,evA,evB,evP,fl,gp,tab,simprocAttr,reduceCtorEq,reduceIte]
        refine fin_run ?_ (hK _ ?_)<;>clear hK<;>clear K
        ·(first|exact trivial|omega|(simp only [In64] at *; omega)|(simp [In64] at *; omega)|(simp_all; done)|skip)
        refine qa ?_
        refine ⟨i + 1,[0,1],⟨by omega,fun j hj=>?_⟩,by omega,?_⟩
        ·by_cases hj:j=i
         ·subst hj; exact h0
         ·exact hi2 j (by omega)
        ·simp only [leq,leA,ev0,evA,evB,evP,fl,gp,tab,simprocAttr,reduceCtorEq,reduceIte]<;>omega
      ·refine hk_region fun K hK=>runs_eval tab_ok ?_
       simp only [ev0,evA,evB,evP,fl,gp,tab,simprocAttr,reduceCtorEq,reduceIte,il_get hlt,tn_pred,il_get (show i - 1 < l.length by omega),decide_eq_false g11a]
       refine fin_run trivial (hK _ ?_)<;>clear hK<;>clear K
       refine qa ?_
       refine hk_cond rfl (fun hC5=>?_) (fun hC5=>?_)
       ·cases hC5
       ·have h0:(lfb N l i).1=0:=lfb_0 hok fun h=>by omega
        refine qh (qd (qa ?_))
        refine hk_region fun K hK=>runs_eval tab_ok ?_
        simp only [ev0,evA,evB,evP,fl,gp,tab,simprocAttr,reduceCtorEq,reduceIte]
        refine fin_run ?_ (hK _ ?_)<;>clear hK<;>clear K
        ·(first|exact trivial|omega|(simp only [In64] at *; omega)|(simp [In64] at *; omega)|(simp_all; done)|skip)
        refine qa ?_
        refine ⟨i + 1,[0,1],⟨by omega,fun j hj=>?_⟩,by omega,?_⟩
        ·by_cases hj:j=i
         ·subst hj; exact h0
         ·exact hi2 j (by omega)
        ·simp only [leq,leA,ev0,evA,evB,evP,fl,gp,tab,simprocAttr,reduceCtorEq,reduceIte]<;>omega
   ·(try simp only [nhs] at hC3)
    refine qj (qc (qc (qf (qa (qm ?_)))))
    refine hk_region fun K hK=>runs_eval tab_ok ?_
    simp only [ev0,evA,evB,evP,fl,gp,tab,simprocAttr,reduceCtorEq,reduceIte]
    refine fin_run ?_ (hK _ ?_)<;>clear hK<;>clear K
    ·(first|exact trivial|omega|(simp only [In64] at *; omega)|(simp [In64] at *; omega)|(simp_all; done)|skip)
    refine qa (qk ?_)
    simp only [Tryd.results110,enA,ev0,evA,evB,evP,fl,gp,tab,simprocAttr,reduceCtorEq,reduceIte]
    all_goals (rw [sf,if_neg (by simpa using hg),lf_none hC2 (fun j hj=>hi2 j (by omega))]; simp)

/-! ### Choosing -/

theorem has_r (l:List Int) (x:Int) (hl:l.length≤1000000000000000):FnC Tryd.prog 53 [.list (il l),.int .i64 x] (.bool (decide (x∈l))):=by
 refine fnc_of tab_ok Tryd.func53 rfl (by kernel_rfl) (by rw [Tryd.ntmps53]; exact Nat.le_add_left 2 _) ?_; rw [Tryd.ntmps53]
 refine qm ?_
 refine hk_region fun K hK=>runs_eval tab_ok ?_
 simp only [ev0,evA,evB,evP,fl,gp,tab,simprocAttr,reduceCtorEq,reduceIte]
 refine fin_run trivial (hK _ ?_)<;>clear hK<;>clear K
 refine qa (qm (qm ?_))
 refine hk_region fun K hK=>runs_eval tab_ok ?_
 simp only [ev0,evA,evB,evP,fl,gp,tab,simprocAttr,reduceCtorEq,reduceIte]
 refine fin_run trivial (hK _ ?_)<;>clear hK<;>clear K
 refine qa (ql ?_)
 refine hk_loop (ι:=Nat) (fun i=>⟨18,[(0,.p (.list (il l))),(1,.p (.int .i64 x)),(5,.p (.int .i64 i))],[]⟩) (fun i=>i≤l.length∧∀ j,j < i→l.getD j 0 ≠ x) (fun i=>l.length - i) 0 ⟨Nat.zero_le _,fun j hj=>by omega⟩ [] (by simp only [leq,leA,ev0,evA,evB,evP,fl,gp,tab,simprocAttr,reduceCtorEq,reduceIte]<;>trivial) fun i hi=>?_
 obtain ⟨hi1,hi2⟩:=hi
 refine qm (qm ?_)
 refine hk_region fun K hK=>runs_eval tab_ok ?_
 simp only [ev0,evA,evB,evP,fl,gp,tab,simprocAttr,reduceCtorEq,reduceIte]
 refine fin_run trivial (hK _ ?_)<;>clear hK<;>clear K
 refine qa ?_
 refine hk_cond rfl (fun hC1=>?_) (fun hC1=>?_)
 ·(try simp only [nhs] at hC1)
  have hlt:i < l.length:=by omega
  refine qh (qa (qm (ql (qm ?_))))
  refine hk_region fun K hK=>runs_eval tab_ok ?_
  simp only [ev0,evA,evB,evP,fl,gp,tab,simprocAttr,reduceCtorEq,reduceIte,il_get hlt]
  refine fin_run ?_ (hK _ ?_)<;>clear hK<;>clear K
  ·(first|exact trivial|omega|(simp only [In64] at *; omega)|(simp [In64] at *; omega)|(simp_all; done)|skip)
  refine qa ?_
  refine hk_cond rfl (fun hC2=>?_) (fun hC2=>?_)
  ·(try simp only [nhs] at hC2)
   refine qm ?_
   refine hk_region fun K hK=>runs_eval tab_ok ?_
   simp only [ev0,evA,evB,evP,fl,gp,tab,simprocAttr,reduceCtorEq,reduceIte]
   refine fin_run trivial (hK _ ?_)<;>clear hK<;>clear K
   refine qa (qk (qe (qb (qb (qe (qb ?_))))))
   simp only [Tryd.results53,enA,ev0,evA,evB,evP,fl,gp,tab,simprocAttr,reduceCtorEq,reduceIte]
   all_goals (rw [eq_comm]; refine decide_eq_true ?_; rw [← hC2]; simp [List.getD,List.getElem?_eq_getElem hlt])
  ·(try simp only [nhs] at hC2)
   refine qh (qd (qa ?_))
   refine hk_region fun K hK=>runs_eval tab_ok ?_
   simp only [ev0,evA,evB,evP,fl,gp,tab,simprocAttr,reduceCtorEq,reduceIte]
   refine fin_run ?_ (hK _ ?_)<;>clear hK<;>clear K
   ·(first|exact trivial|omega|(simp only [In64] at *; omega)|(simp [In64] at *; omega)|(simp_all; done)|skip)
   refine qa ?_
   refine ⟨i + 1,[],⟨by omega,fun j hj=>?_⟩,by omega,?_⟩
   ·by_cases hj:j=i
    ·subst hj; exact hC2
    ·exact hi2 j (by omega)
   ·simp only [leq,leA,ev0,evA,evB,evP,fl,gp,tab,simprocAttr,reduceCtorEq,reduceIte]<;>omega
 ·(try simp only [nhs] at hC1)
  refine qj (qc (qc (qf (qa (qm ?_)))))
  refine hk_region fun K hK=>runs_eval tab_ok ?_
  simp only [ev0,evA,evB,evP,fl,gp,tab,simprocAttr,reduceCtorEq,reduceIte]
  refine fin_run trivial (hK _ ?_)<;>clear hK<;>clear K
  refine qa (qk ?_)
  simp only [Tryd.results53,enA,ev0,evA,evB,evP,fl,gp,tab,simprocAttr,reduceCtorEq,reduceIte]
  all_goals (rw [eq_comm]; refine decide_eq_false fun hm=>?_; obtain ⟨j,hj,e⟩:=List.getElem_of_mem hm; exact hi2 j (by omega) (by simp [List.getD,List.getElem?_eq_getElem hj,e]))

end Go.Proofs.YtboadfahlflmhaaDoor

/-
  Sets of things: what they make, as the program has it. Conditions: none.
-/
set_option linter.all false
namespace Go.Proofs.YtboadfahlflmhaaDoor
open Go.Pv

/-- The bits of the things of which something holds. -/
def bo (n:Nat) (p:Nat→Bool):Nat:=msk (thl n p)
theorem bo_bit (n:Nat) (p:Nat→Bool) (i:Nat):(bo n p).testBit i=(decide (i < n) && p i):=by
 unfold bo
 rw [msk_bit,Bool.eq_iff_iff,decide_eq_true_eq,Bool.and_eq_true,decide_eq_true_eq]
 constructor
 ·rintro ⟨x,hx,rfl⟩
  obtain ⟨a,h1,h2,rfl⟩:=mem_thl.1 hx
  exact ⟨h1,h2⟩
 ·rintro ⟨h1,h2⟩
  exact ⟨(i:Int),mem_thl.2 ⟨i,h1,h2,rfl⟩,rfl⟩
theorem bo_lt (n:Nat) (p:Nat→Bool):bo n p < 2 ^ n:=msk_lt fun x hx=>by
 obtain ⟨a,h1,_,rfl⟩:=mem_thl.1 hx
 exact h1
theorem bo_lt64 {n:Nat} (hn:n≤60) (p:Nat→Bool):bo n p < 2 ^ 64:=Nat.lt_of_lt_of_le (bo_lt n p) (Nat.pow_le_pow_right (by omega) (by omega))
theorem bo_eq {n s:Nat} {p:Nat→Bool} (hs:s < 2 ^ n) (h:∀ i,i < n→s.testBit i=p i):s=bo n p:=by
 refine Nat.eq_of_testBit_eq fun i=>?_
 rw [bo_bit]
 by_cases hi:i < n
 ·rw [h i hi]; simp [hi]
 ·rw [Nat.testBit_lt_two_pow (Nat.lt_of_lt_of_le hs (Nat.pow_le_pow_right (by omega) (by omega)))]; simp [hi]
theorem bo_congr {n:Nat} {p q:Nat→Bool} (h:∀ a,a < n→p a=q a):bo n p=bo n q:=by unfold bo; rw [thl_congr h]
theorem bo_inj {n:Nat} {p q:Nat→Bool} (h:bo n p=bo n q) {a:Nat} (ha:a < n):p a=q a:=by
 have h1:=bo_bit n p a
 rw [h,bo_bit] at h1
 simpa [ha] using h1.symm
theorem stl_bo {n:Nat} (hn:n≤60) (p:Nat→Bool):stl (bo n p)=thl n p:=by
 rw [stl_n (by omega) (bo_lt n p)]
 exact thl_congr fun a ha=>by rw [bo_bit]; simp [ha]
theorem msk_thl (n:Nat) (p:Nat→Bool):msk (thl n p)=bo n p:=rfl
theorem thl_rng {n:Nat} (hn:n≤60) (p:Nat→Bool):∀ x∈thl n p,0≤x∧x < 64:=by
 intro x hx
 obtain ⟨a,h1,_,rfl⟩:=mem_thl.1 hx
 omega
theorem pow_lt64 {b:Nat} (hb:b < 64):2 ^ b < 2 ^ 64:=Nat.pow_lt_pow_right (by omega) hb
theorem lt64 {n s:Nat} (hn:n≤60) (hs:s < 2 ^ n):s < 2 ^ 64:=Nat.lt_of_lt_of_le hs (Nat.pow_le_pow_right (by omega) (by omega))
theorem bit_ltn {n s i:Nat} (hs:s < 2 ^ n) (h:s.testBit i=true):i < n:=by
 rcases Nat.lt_or_ge i n with h1 | h1
 ·exact h1
 ·rw [Nat.testBit_lt_two_pow (Nat.lt_of_lt_of_le hs (Nat.pow_le_pow_right (by omega) h1))] at h; cases h

theorem app_at (pre w:List Int) (a:Int) (d:AV):(ol (pre++a :: w)).getD pre.length d = .p (.int .i64 a):=by
 simp [ol,il,List.getD]

/-- What holds while a set grows. -/
structure GrowI (n:Nat) (f:Nat→Nat→Nat) (e s out:Nat) (w:List Int):Prop where
 lt:out < 2 ^ n
 one:out.testBit e=true
 gen:∀ a,out.testBit a=true→Gen n f e s.testBit a
 wait:∀ x∈w,∃ a,x=((a:Nat):Int)∧out.testBit a=true
 nd:w.Nodup

theorem or_bit (s b i:Nat):(s ||| 2 ^ b).testBit i=(s.testBit i || decide (b=i)):=by rw [Nat.testBit_or,Nat.testBit_two_pow]
theorem GrowI.len {n e s out:Nat} {f:Nat→Nat→Nat} {w:List Int} (h:GrowI n f e s out w):w.length≤n:=by
 have h1:=List.Nodup.length_le_of_subset h.nd (l₂:=thl n fun _=>true) fun x hx=>by
  obtain ⟨a,rfl,ha⟩:=h.wait x hx
  exact mem_thl.2 ⟨a,bit_ltn h.lt ha,rfl,rfl⟩
 exact Nat.le_trans h1 (thl_le _ _)
theorem GrowI.add {n e s out a z:Nat} {f:Nat→Nat→Nat} {w:List Int} (h:GrowI n f e s out w) (ha:out.testBit a=true) (hz:s.testBit z=true) (hzn:z < n) (hn:f a z < n) (hno:out.testBit (f a z)=false) :
  GrowI n f e s (out ||| 2 ^ f a z) (w++[((f a z:Nat):Int)]) where
 lt:=Nat.or_lt_two_pow h.lt (Nat.pow_lt_pow_right (by omega) hn)
 one:=by rw [or_bit,h.one]; rfl
 gen y hy:=by
  rw [or_bit,Bool.or_eq_true,decide_eq_true_eq] at hy
  rcases hy with hy | rfl
  ·exact h.gen y hy
  ·exact .step a z (h.gen a ha) hzn hz
 wait x hx:=by
  rcases List.mem_append.1 hx with hx | hx
  ·obtain ⟨y,e1,e2⟩:=h.wait x hx
   exact ⟨y,e1,by rw [or_bit,e2]; rfl⟩
  ·exact ⟨_,List.mem_singleton.1 hx,by rw [or_bit]; simp⟩
 nd:=by
  refine List.nodup_append.2 ⟨h.nd,by simp,fun x hx y hy e=>?_⟩
  rw [List.mem_singleton] at hy
  obtain ⟨y',e1,e2⟩:=h.wait x hx
  have:y' = f a z:=by omega
  rw [this,hno] at e2; cases e2

theorem grow_c {n e:Nat} {m:List Int} (h:GT n m n e) (s:Nat) (hs:s < 2 ^ n) (q:Nat→Bool) (hq:∀ a,a < n→(q a=true↔Gen n (op m n) e s.testBit a)):FnC Tryd.prog 111 [gp n m,.int .u64 s] (.int .u64 (bo n q)):=by
 have G:=h.2.2
 have T:=h.2.1
 have hb:=T.big
 have hel:=G.el
 have hs64:=lt64 hb hs
 have hone:=pow_lt64 (b:=e) (by omega)
 have hbe:∀ a,(2 ^ e).testBit a=true→a=e:=fun a ha=>by rw [Nat.testBit_two_pow] at ha; simp at ha; exact ha.symm
 have hstl:∀ x∈stl (2 ^ e),x=(e:Int):=fun x hx=>by
  obtain ⟨a,_,h2,rfl⟩:=mem_thl.1 hx
  rw [hbe a h2]
 have hstl2:(e:Int)∈stl (2 ^ e):=mem_thl.2 ⟨e,by omega,by rw [Nat.testBit_two_pow]; simp,rfl⟩
 refine fnc_of tab_ok Tryd.func111 rfl (by kernel_rfl) (by rw [Tryd.ntmps111]; exact Nat.le_add_left 2 _) ?_; rw [Tryd.ntmps111]
 refine qm ?_
 refine hk_region fun K hK=>runs_eval tab_ok ?_
 simp only [ev0,evA,evB,evP,fl,gp,tab,simprocAttr,reduceCtorEq,reduceIte]
 refine fin_run ?_ (hK _ ?_)<;>clear hK<;>clear K
 ·(first|exact trivial|omega|(simp only [In64] at *; omega)|(simp [In64] at *; omega)|(simp_all; done)|skip)
 refine qa (qm ?_)
 refine hk_region fun K hK=>runs_eval tab_ok ?_
 simp only [ev0,evA,evB,evP,fl,gp,tab,simprocAttr,reduceCtorEq,reduceIte]
 refine fin_stop trivial (runs_call (oneOf_c h) rfl rfl rfl (by simp only [dstOk,Nat.reduceLT]) (by repeat (first|exact trivial|constructor)) (runs_eval tab_ok ?_))
 simp only [ev0,evA,evB,evP,fl,gp,tab,simprocAttr,reduceCtorEq,reduceIte,shl_one (show e < 64 by omega)]
 refine fin_run ?_ (hK _ ?_)<;>clear hK<;>clear K
 ·(first|exact trivial|omega|(simp only [In64] at *; omega)|(simp [In64] at *; omega)|(simp_all; done)|skip)
 refine qa (qm ?_)
 refine hk_region fun K hK=>runs_eval tab_ok ?_
 simp only [ev0,evA,evB,evP,fl,gp,tab,simprocAttr,reduceCtorEq,reduceIte]
 refine fin_stop trivial (runs_callG (list_g (2 ^ e) hone) rfl rfl (by first|rfl|(simp [scG,scA,sc1,opl]; done)|(simp only [scG,List.all_cons,List.all_nil,ol_sc,Bool.and_true]; rfl)) (by simp only [dstOk,Nat.reduceLT]) (by repeat (first|exact trivial|constructor)) (runs_eval tab_ok ?_))
 simp only [Go.Pv.shf,List.range',Blk.ren,opl_ren,ren,ren1,ev0,evA,evB,evP,fl,gp,tab,simprocAttr,reduceCtorEq,reduceIte]
 refine fin_run trivial (hK _ ?_)<;>clear hK<;>clear K
 refine qa (qm (ql ?_))
 refine hk_loop (ι:=Nat × List Int × List Int) (fun p=>⟨48,[(1,.p (.int .u64 s)),(2,.ptr 0 0),(5,.p (.int .u64 p.1)),(6,.sl 1 p.2.1.length p.2.2.length)],[.own [.p (.int .i64 n),.p (.list (il m))],.own (ol (p.2.1++p.2.2))]⟩) (fun p=>GrowI n (op m n) e s p.1 p.2.2∧∀ a,p.1.testBit a=true→((a:Nat):Int) ∉ p.2.2→∀ b,s.testBit b=true→p.1.testBit (op m n a b)=true) (fun p=>2 * (2 ^ 64 - p.1) + p.2.2.length) (2 ^ e,[],stl (2 ^ e)) ⟨⟨Nat.pow_lt_pow_right (by omega) hel,by rw [Nat.testBit_two_pow]; simp,fun a ha=>by rw [hbe a ha]; exact .one,fun x hx=>⟨e,hstl x hx,by rw [Nat.testBit_two_pow]; simp⟩,(thl_asc _ _).imp fun h=>by omega⟩,fun a ha hn=>absurd (by rw [hbe a ha]; exact hstl2) hn⟩ [0,1] (by simp only [leq,leA,ev0,evA,evB,evP,fl,gp,tab,simprocAttr,reduceCtorEq,reduceIte]<;>first|trivial|simp [ol,opl]) fun p hp=>?_
 obtain ⟨out,pre,w⟩:=p
 obtain ⟨⟨i1,i2,i3,i4,i6⟩,i5⟩:=hp
 simp only at i1 i2 i3 i4 i5
 refine qm (qm ?_)
 refine hk_region fun K hK=>runs_eval tab_ok ?_
 simp only [ev0,evA,evB,evP,fl,gp,tab,simprocAttr,reduceCtorEq,reduceIte]
 refine fin_run trivial (hK _ ?_)<;>clear hK<;>clear K
 refine qa ?_
 refine hk_cond rfl (fun hC1=>?_) (fun hC1=>?_)
 ·(try simp only [nhs] at hC1)
  obtain ⟨x,w',rfl⟩:∃ x w',w=x :: w':=by
   cases w with
   | nil=>simp at hC1
   | cons x w'=>exact ⟨x,w',rfl⟩
  obtain ⟨a,rfl,hoa⟩:=i4 x (by simp)
  have hal:=bit_ltn i1 hoa
  refine qh (qa (ql (qm ?_)))
  refine hk_region fun K hK=>runs_eval tab_ok ?_
  simp only [ev0,evA,evB,evP,fl,gp,tab,simprocAttr,reduceCtorEq,reduceIte,app_at,Nat.add_zero]
  refine fin_run ?_ (hK _ ?_)<;>clear hK<;>clear K
  ·(first|exact trivial|omega|(simp only [In64] at *; omega)|(simp [In64] at *; omega)|(simp_all; done)|skip)
  refine qa (qm ?_)
  refine hk_region fun K hK=>runs_eval tab_ok ?_
  simp only [ev0,evA,evB,evP,fl,gp,tab,simprocAttr,reduceCtorEq,reduceIte]
  refine fin_run ?_ (hK _ ?_)<;>clear hK<;>clear K
  ·(first|exact trivial|omega|(simp only [In64] at *; omega)|(simp [In64] at *; omega)|(simp_all; done)|skip)
  refine qa (qm ?_)
  refine hk_region fun K hK=>runs_eval tab_ok ?_
  simp only [ev0,evA,evB,evP,fl,gp,tab,simprocAttr,reduceCtorEq,reduceIte]
  refine fin_run trivial (hK _ ?_)<;>clear hK<;>clear K
  refine qa (ql ?_)
  refine hk_loop (ι:=Nat × Nat × List Int × List Int) (fun p=>⟨48,[(1,.p (.int .u64 s)),(2,.ptr 0 0),(5,.p (.int .u64 p.2.1)),(6,.sl 1 p.2.2.1.length p.2.2.2.length),(7,.p (.int .i64 a)),(8,.p (.int .u64 p.1))],[.own [.p (.int .i64 n),.p (.list (il m))],.own (ol (p.2.2.1++p.2.2.2))]⟩) (fun p=>GrowI n (op m n) e s p.2.1 p.2.2.2∧(∀ i,p.1.testBit i=true→s.testBit i=true)∧p.1 < 2 ^ 64∧(∀ y,p.2.1.testBit y=true→((y:Nat):Int) ∉ p.2.2.2→y ≠ a→∀ b,s.testBit b=true→p.2.1.testBit (op m n y b)=true)∧(∀ b,s.testBit b=true→p.1.testBit b=false→p.2.1.testBit (op m n a b)=true)∧p.2.1.testBit a=true∧2 * (2 ^ 64 - p.2.1) + p.2.2.2.length≤2 * (2 ^ 64 - out) + w'.length) (fun p=>p.1) (s,out,pre++[(a:Int)],w') ⟨⟨i1,i2,i3,fun x hx=>i4 x (by simp [hx]),(List.nodup_cons.1 i6).2⟩,fun i hi=>hi,hs64,fun y hy hn hya b hbs=>i5 y hy (by simp only [List.mem_cons,not_or]; exact ⟨by omega,hn⟩) b hbs,fun b hb1 hb2=>absurd (hb1.symm.trans hb2) (by simp),hoa,Nat.le_refl _⟩ [0,1] (by simp only [leq,leA,ev0,evA,evB,evP,fl,gp,tab,simprocAttr,reduceCtorEq,reduceIte]<;>first|trivial|(simp; done)|(simp; rw [List.take_of_length_le (by simp; omega)])) fun p hp=>?_
  obtain ⟨t,out2,pre2,w2⟩:=p
  obtain ⟨jI,j5,j6,j7,j8,j9,j10⟩:=hp
  simp only at jI j5 j6 j7 j8 j9 j10
  have hw2:=jI.len
  have j1:=jI.lt
  refine qm (qm ?_)
  refine hk_region fun K hK=>runs_eval tab_ok ?_
  simp only [ev0,evA,evB,evP,fl,gp,tab,simprocAttr,reduceCtorEq,reduceIte]
  refine fin_run trivial (hK _ ?_)<;>clear hK<;>clear K
  refine qa ?_
  refine hk_cond rfl (fun hC2=>?_) (fun hC2=>?_)
  ·(try simp only [nhs] at hC2)
   have h0:t ≠ 0:=by omega
   obtain ⟨z1,z2,z3⟩:=tz_spec j6 h0
   have hzs:=j5 _ z2
   have hzn:=bit_ltn hs hzs
   have hfn:=G.cl a (tz t) hal hzn
   have ht1:t - 1 < 2 ^ 64:=by omega
   have hsub:IntKind.u64.wrap ((t:Int) - 1)=((t - 1:Nat):Int):=by rw [wrap_u]; omega
   have hcut:t &&& (t - 1)=cut t:=rfl
   have ho64:=lt64 hb j1
   have hp64:=pow_lt64 (b:=op m n a (tz t)) (by omega)
   refine qh (qa (qm (ql (qm ?_))))
   refine hk_draw mixed (by kernel_rfl) fun K hK=>runs_eval tab_ok ?_
   simp only [ev0,evA,evB,evP,fl,gp,tab,simprocAttr,reduceCtorEq,reduceIte]
   refine fin_stop trivial (runs_call (tz_c t j6 h0) rfl rfl rfl (by simp only [dstOk,Nat.reduceLT]) (by repeat (first|exact trivial|constructor)) (runs_eval tab_ok ?_))
   simp only [ev0,evA,evB,evP,fl,gp,tab,simprocAttr,reduceCtorEq,reduceIte]
   refine fin_stop trivial (runs_call (of_c T hal hzn) rfl rfl rfl (by simp only [dstOk,Nat.reduceLT]) (by repeat (first|exact trivial|constructor)) (runs_eval tab_ok ?_))
   simp only [ev0,evA,evB,evP,fl,gp,tab,simprocAttr,reduceCtorEq,reduceIte]
   refine fin_run ?_ (hK _ ?_)<;>clear hK<;>clear K
   ·(first|exact trivial|omega|(simp only [In64] at *; omega)|(simp [In64] at *; omega)|(simp_all; done)|skip)
   refine qa (qm ?_)
   refine hk_region fun K hK=>runs_eval tab_ok ?_
   simp only [ev0,evA,evB,evP,fl,gp,tab,simprocAttr,reduceCtorEq,reduceIte]
   refine fin_stop trivial (runs_call (has_s out2 (op m n a (tz t)) ho64 (by omega)) rfl rfl rfl (by simp only [dstOk,Nat.reduceLT]) (by repeat (first|exact trivial|constructor)) (runs_eval tab_ok ?_))
   simp only [ev0,evA,evB,evP,fl,gp,tab,simprocAttr,reduceCtorEq,reduceIte]
   refine fin_run trivial (hK _ ?_)<;>clear hK<;>clear K
   refine qa ?_
   refine hk_cond rfl (fun hC3=>?_) (fun hC3=>?_)
   ·(try simp only [nhs] at hC3)
    have hno:out2.testBit (op m n a (tz t))=false:=hC3
    have hlt2:out2 < out2 ||| 2 ^ op m n a (tz t):=by
     rcases Nat.lt_or_eq_of_le (Nat.left_le_or (n:=out2) (m:=2 ^ op m n a (tz t))) with h1 | h1
     ·exact h1
     ·exfalso
      have h2:=or_bit out2 (op m n a (tz t)) (op m n a (tz t))
      rw [← h1,hno] at h2
      simp at h2
    refine qm ?_
    refine hk_region fun K hK=>runs_eval tab_ok ?_
    simp only [ev0,evA,evB,evP,fl,gp,tab,simprocAttr,reduceCtorEq,reduceIte,shl_one (show op m n a (tz t) < 64 by omega),bv_or ho64 hp64]
    refine fin_run ?_ (hK _ ?_)<;>clear hK<;>clear K
    ·(first|exact trivial|omega|(simp only [In64] at *; omega)|(simp [In64] at *; omega)|(simp_all; done)|skip)
    refine qa ?_
    refine hk_region fun K hK=>runs_eval tab_ok ?_
    simp only [ev0,evA,evB,evP,fl,gp,tab,simprocAttr,reduceCtorEq,reduceIte]
    refine fin_run ?_ (hK _ ?_)<;>clear hK<;>clear K
    ·simp only [List.length_append]; omega
    refine qd (qa ?_)
    refine hk_region fun K hK=>runs_eval tab_ok ?_
    simp only [ev0,evA,evB,evP,fl,gp,tab,simprocAttr,reduceCtorEq,reduceIte,hsub,bv_and j6 ht1,hcut]
    refine fin_run ?_ (hK _ ?_)<;>clear hK<;>clear K
    ·(first|exact trivial|omega|(simp only [In64] at *; omega)|(simp [In64] at *; omega)|(simp_all; done)|skip)
    refine qa ?_
    have hI:=jI.add j9 hzs hzn hfn hno
    have hI1:=lt64 hb hI.lt
    refine ⟨(cut t,out2 ||| 2 ^ op m n a (tz t),[],w2++[((op m n a (tz t):Nat):Int)]),[0,2],⟨hI,fun i hi=>?_,?_,fun y hy hn hya b hbs=>?_,fun b hb1 hb2=>?_,?_,?_⟩,?_,?_⟩
    ·simp only [cut_bit j6 h0,Bool.and_eq_true] at hi
     exact j5 i hi.1
    ·exact Nat.lt_trans (cut_lt h0) j6
    ·simp only [or_bit,Bool.or_eq_true,decide_eq_true_eq] at hy ⊢
     simp only [List.mem_append,List.mem_singleton,not_or] at hn
     rcases hy with hy | hy
     ·exact .inl (j7 y hy hn.1 hya b hbs)
     ·exact absurd (by rw [hy]) hn.2
    ·simp only [cut_bit j6 h0] at hb2
     simp only [or_bit,Bool.or_eq_true,decide_eq_true_eq]
     by_cases hbz:b=tz t
     ·right; rw [hbz]
     ·left
      refine j8 b hb1 ?_
      cases htb:t.testBit b with
      | false=>rfl
      | true=>rw [htb] at hb2; simp at hb2; exact absurd hb2 hbz
    ·simp only [or_bit,j9,Bool.true_or]
    ·simp only [List.length_append,List.length_cons,List.length_nil]
     omega
    ·exact cut_lt h0
    ·simp only [leq,leA,ev0,evA,evB,evP,fl,gp,tab,simprocAttr,reduceCtorEq,reduceIte]
     rw [List.drop_left,List.take_length,List.take_of_length_le (by simp)]
   ·(try simp only [nhs] at hC3)
    refine qh (qd (qa ?_))
    refine hk_region fun K hK=>runs_eval tab_ok ?_
    simp only [ev0,evA,evB,evP,fl,gp,tab,simprocAttr,reduceCtorEq,reduceIte,hsub,bv_and j6 ht1,hcut]
    refine fin_run ?_ (hK _ ?_)<;>clear hK<;>clear K
    ·(first|exact trivial|omega|(simp only [In64] at *; omega)|(simp [In64] at *; omega)|(simp_all; done)|skip)
    refine qa ?_
    refine ⟨(cut t,out2,pre2,w2),[0,1],⟨jI,fun i hi=>?_,?_,j7,fun b hb1 hb2=>?_,j9,j10⟩,cut_lt h0,?_⟩
    ·simp only [cut_bit j6 h0,Bool.and_eq_true] at hi
     exact j5 i hi.1
    ·exact Nat.lt_trans (cut_lt h0) j6
    ·simp only [cut_bit j6 h0] at hb2
     by_cases hbz:b=tz t
     ·show out2.testBit (op m n a b)=true
      rw [hbz]; exact hC3
     ·refine j8 b hb1 ?_
      cases htb:t.testBit b with
      | false=>rfl
      | true=>rw [htb] at hb2; simp at hb2; exact absurd hb2 hbz
    ·simp only [leq,leA,ev0,evA,evB,evP,fl,gp,tab,simprocAttr,reduceCtorEq,reduceIte]<;>first|trivial|omega
  ·(try simp only [nhs] at hC2)
   have ht0:t=0:=by omega
   subst ht0
   refine qj (qc (qc (qf (qd (qa ?_)))))
   refine ⟨(out2,pre2,w2),[0,1],⟨jI,fun y hy hn b hbs=>?_⟩,?_,?_⟩
   ·by_cases hya:y=a
    ·rw [hya]; exact j8 b hbs (by simp)
    ·exact j7 y hy hn hya b hbs
   ·have ho:=lt64 hb j1
    have ho2:=lt64 hb i1
    simp only [List.length_cons]
    omega
   ·simp only [leq,leA,ev0,evA,evB,evP,fl,gp,tab,simprocAttr,reduceCtorEq,reduceIte]<;>first|trivial|omega
 ·(try simp only [nhs] at hC1)
  have hw0:w=[]:=by
   cases w with
   | nil=>rfl
   | cons x r=>simp at hC1
  subst hw0
  have hfin:out=bo n q:=by
   refine bo_eq i1 fun i hi=>?_
   rw [Bool.eq_iff_iff,hq i hi]
   refine ⟨i3 i,fun hg=>?_⟩
   exact Gen.least i2 (fun a b _ _ hb hH=>i5 a hH (by simp) b hb) hg
  refine qj (qc (qc (qf (qa (qm ?_)))))
  refine hk_region fun K hK=>runs_eval tab_ok ?_
  simp only [ev0,evA,evB,evP,fl,gp,tab,simprocAttr,reduceCtorEq,reduceIte]
  refine fin_run trivial (hK _ ?_)<;>clear hK<;>clear K
  refine qa (qk ?_)
  simp only [Tryd.results111,enA,ev0,evA,evB,evP,fl,gp,tab,simprocAttr,reduceCtorEq,reduceIte]
  all_goals (rw [hfin])
end Go.Proofs.YtboadfahlflmhaaDoor

/-
  Sets of things: what they make, as the document has it. Conditions: none.
-/
set_option linter.all false
namespace Go.Proofs.YtboadfahlflmhaaDoor
open Go.Pv

/-! ### Looked at -/

theorem thl_get_asc {n:Nat} {p:Nat→Bool} {i j:Nat} (hij:i < j) (hj:j < (thl n p).length):(thl n p).getD i 0 < (thl n p).getD j 0:=by
 have:=List.pairwise_iff_getElem.1 (thl_asc n p) i j (by omega) hj hij
 simpa [List.getD,List.getElem?_eq_getElem hj,List.getElem?_eq_getElem (show i < (thl n p).length by omega)] using this
theorem thl_get {n:Nat} {p:Nat→Bool} {i:Nat} (hi:i < (thl n p).length):∃ a,a < n∧p a=true∧(thl n p).getD i 0=((a:Nat):Int):=by
 have:(thl n p).getD i 0∈thl n p:=by simp [List.getD,List.getElem?_eq_getElem hi]
 exact mem_thl.1 this
theorem thl_at {n:Nat} {p:Nat→Bool} {a:Nat} (ha:a < n) (h:p a=true):∃ i,i < (thl n p).length∧(thl n p).getD i 0=((a:Nat):Int):=by
 obtain ⟨i,hi,e⟩:=List.getElem_of_mem (mem_thl.2 ⟨a,ha,h,rfl⟩)
 exact ⟨i,hi,by simp [List.getD,List.getElem?_eq_getElem hi,e]⟩
theorem mem_thl_n {n:Nat} {p:Nat→Bool} {a:Nat} (ha:a < n):((a:Nat):Int)∈thl n p↔p a=true:=by
 rw [mem_thl]
 constructor
 ·rintro ⟨b,_,h2,e⟩
  have:a=b:=by omega
  subst this; exact h2
 ·exact fun h=>⟨a,ha,h,rfl⟩
theorem lf_thl (n:Nat) (p:Nat→Bool):lf n (thl n p)=(0,0):=by
 refine lf_none (by have:=thl_le n p; omega) fun j hj=>lfb_0 ?_ fun h0=>?_
 ·obtain ⟨a,h1,_,h3⟩:=thl_get hj
  unfold okT; rw [h3]; omega
 ·have:=thl_get_asc (n:=n) (p:=p) (show j - 1 < j by omega) hj
  omega
theorem sf_thl {n e:Nat} {m:List Int} (h:GT n m n e) (p:Nat→Bool):sf n m (thl n p)=(0,0):=by
 unfold sf; rw [gf_of h,if_neg (by simp),lf_thl]
theorem gen_bo {n e:Nat} {f:Nat→Nat→Nat} {p:Nat→Bool} {a:Nat} : Gen n f e (bo n p).testBit a↔Gen n f e p a:=
 ⟨Gen.mono fun b hb h=>by rw [bo_bit] at h; simpa [hb] using h,Gen.mono fun b hb h=>by rw [bo_bit]; simpa [hb] using h⟩

theorem is_ok {n e:Nat} {m:List Int} (h:GT n m n e) (p:Nat→Bool) (b:Bool) (hbs:b=true↔Sub n (op m n) e p):FnC Tryd.prog 66 [gp n m,.list (il (thl n p))] (.tup [.bool b,fl (0,0)]):=by
 have G:=h.2.2
 have hb:=h.2.1.big
 have hl:=thl_le n p
 have hml:=h.2.1.len
 have hsq:=sq_le hb
 obtain ⟨q,hq⟩:=gen_ex n (op m n) e p
 have hqs:=gen_sub G hq
 have hqp:(((bo n q:Nat):Int)=((bo n p:Nat):Int))↔b=true:=by
  rw [hbs]
  constructor
  ·intro he
   have he2:bo n q=bo n p:=by omega
   have hc:∀ a,a < n→q a=p a:=fun a ha=>bo_inj he2 ha
   refine ⟨?_,fun a b ha hb h1 h2=>?_,fun a ha h1=>?_⟩
   ·rw [← hc e G.el]; exact hqs.one
   ·rw [← hc _ (G.cl a b ha hb)]; exact hqs.mul a b ha hb (by rw [hc a ha]; exact h1) (by rw [hc b hb]; exact h2)
   ·rw [← hc _ (G.iv_lt ha)]; exact hqs.inv a ha (by rw [hc a ha]; exact h1)
  ·intro hs
   have:bo n q=bo n p:=bo_congr fun a ha=>by rw [Bool.eq_iff_iff,hq a ha,← hs.gen G ha]
   rw [this]
 have hpos:b=true→0 < (thl n p).length:=fun hb1=>by
  obtain ⟨i,hi,_⟩:=thl_at G.el (hbs.1 hb1).one
  omega
 refine fnc_of tab_ok Tryd.func66 rfl (by kernel_rfl) (by rw [Tryd.ntmps66]; exact Nat.le_add_left 2 _) ?_; rw [Tryd.ntmps66]
 refine qm ?_
 refine hk_region fun K hK=>runs_eval tab_ok ?_
 simp only [ev0,evA,evB,evP,fl,gp,tab,simprocAttr,reduceCtorEq,reduceIte]
 refine fin_run ?_ (hK _ ?_)<;>clear hK<;>clear K
 ·(first|exact trivial|omega|(simp only [In64] at *; omega)|(simp [In64] at *; omega)|(simp_all; done)|skip)
 refine qa (qm (qm ?_))
 refine hk_region fun K hK=>runs_eval tab_ok ?_
 simp only [ev0,evA,evB,evP,fl,gp,tab,simprocAttr,reduceCtorEq,reduceIte]
 refine fin_stop trivial (runs_call (look_c n m (thl n p) (by omega) (by omega)) rfl rfl rfl (by simp only [dstOk,Nat.reduceLT]) (by repeat (first|exact trivial|constructor)) (runs_eval tab_ok ?_))
 simp only [ev0,evA,evB,evP,fl,gp,tab,simprocAttr,reduceCtorEq,reduceIte,sf_thl h]
 refine fin_run ?_ (hK _ ?_)<;>clear hK<;>clear K
 ·(first|exact trivial|omega|(simp only [In64] at *; omega)|(simp [In64] at *; omega)|(simp_all; done)|skip)
 refine qa (qm ?_)
 refine hk_region fun K hK=>runs_eval tab_ok ?_
 simp only [ev0,evA,evB,evP,fl,gp,tab,simprocAttr,reduceCtorEq,reduceIte]
 refine fin_run ?_ (hK _ ?_)<;>clear hK<;>clear K
 ·(first|exact trivial|omega|(simp only [In64] at *; omega)|(simp [In64] at *; omega)|(simp_all; done)|skip)
 refine qa ?_
 refine hk_cond rfl (fun hC1=>?_) (fun hC1=>?_)
 ·cases hC1
 ·(try simp only [nhs] at hC1)
  refine qh (qa (qm ?_))
  by_cases g4a:((thl n p).length:Int) > 0
  ·refine hk_draw mixed (by kernel_rfl) fun K hK=>runs_eval tab_ok ?_
   simp only [ev0,evA,evB,evP,fl,gp,tab,simprocAttr,reduceCtorEq,reduceIte,decide_eq_true g4a]
   refine fin_stop trivial (runs_call (of_s (thl n p) (by omega) (thl_rng hb p)) rfl rfl rfl (by simp only [dstOk,Nat.reduceLT]) (by repeat (first|exact trivial|constructor)) (runs_eval tab_ok ?_))
   simp only [ev0,evA,evB,evP,fl,gp,tab,simprocAttr,reduceCtorEq,reduceIte,msk_thl,decide_eq_true g4a]
   refine fin_stop trivial (runs_call (grow_c h (bo n p) (bo_lt n p) q (fun a ha=>by rw [gen_bo]; exact hq a ha)) rfl rfl rfl (by simp only [dstOk,Nat.reduceLT]) (by repeat (first|exact trivial|constructor)) (runs_eval tab_ok ?_))
   simp only [ev0,evA,evB,evP,fl,gp,tab,simprocAttr,reduceCtorEq,reduceIte,decide_eq_true g4a]
   refine fin_stop trivial (runs_call (of_s (thl n p) (by omega) (thl_rng hb p)) rfl rfl rfl (by simp only [dstOk,Nat.reduceLT]) (by repeat (first|exact trivial|constructor)) (runs_eval tab_ok ?_))
   simp only [ev0,evA,evB,evP,fl,gp,tab,simprocAttr,reduceCtorEq,reduceIte,msk_thl,decide_eq_true g4a]
   refine fin_run ?_ (hK _ ?_)<;>clear hK<;>clear K
   ·(first|exact trivial|omega|(simp only [In64] at *; omega)|(simp [In64] at *; omega)|(simp_all; done)|skip)
   refine qa (qk ?_)
   simp only [Tryd.results66,enA,ev0,evA,evB,evP,fl,gp,tab,simprocAttr,reduceCtorEq,reduceIte]
   all_goals (rw [Bool.eq_iff_iff,decide_eq_true_eq]; exact hqp)
  ·refine hk_draw mixed (by kernel_rfl) fun K hK=>runs_eval tab_ok ?_
   simp only [ev0,evA,evB,evP,fl,gp,tab,simprocAttr,reduceCtorEq,reduceIte,decide_eq_false g4a]
   refine fin_run ?_ (hK _ ?_)<;>clear hK<;>clear K
   ·(first|exact trivial|omega|(simp only [In64] at *; omega)|(simp [In64] at *; omega)|(simp_all; done)|skip)
   refine qa (qk ?_)
   simp only [Tryd.results66,enA,ev0,evA,evB,evP,fl,gp,tab,simprocAttr,reduceCtorEq,reduceIte]
   cases b with
   | false=>rfl
   | true=>have:=hpos rfl; omega

/-! ### Rows of truths -/

end Go.Proofs.YtboadfahlflmhaaDoor

/-
  How many bits are set; lists compared. Conditions: none.
-/
set_option linter.all false
namespace Go.Proofs.YtboadfahlflmhaaDoor
open Go.Pv

theorem add_u (a b:Int):binInt .add .u64 a b=(True,.int .u64 (IntKind.u64.wrap (a + b))):=rfl
theorem wadd_u {a b:Nat} (h:a + b < 2 ^ 64):IntKind.u64.wrap ((a:Int) + (b:Int))=((a + b:Nat):Int):=by
 rw [← Int.natCast_add]; exact wrap_n h
theorem cnv_i {a:Nat} (ha:a < 2 ^ 63):IntKind.i64.wrap (a:Int)=(a:Int):=by
 simp only [IntKind.wrap,IntKind.bits,IntKind.signed]
 simp [Int.bmod]
 omega
theorem bv_and7 {a:Nat} (ha:a < 2 ^ 63):bitsV (fun _ x y=>x &&& y) .i64 (a:Int) 127 = .int .i64 ((a &&& 127:Nat):Int):=by
 have h1:(BitVec.ofInt 64 (127:Int)).toNat=127:=by decide
 have h2:a &&& 127≤a:=Nat.and_le_left
 show PV.int .i64 (IntKind.i64.wrap ((BitVec.ofInt 64 (a:Int) &&& BitVec.ofInt 64 (127:Int)).toNat:Int))=_
 rw [BitVec.toNat_and,ofInt_n (by omega),h1,cnv_i (by omega)]

theorem ones_c (x:Nat) (hx:x < 2 ^ 64):FnC Tryd.prog 149 [.int .u64 x] (.int .i64 (cnt 64 x)):=by
 have m1:msk8 85 8=6148914691236517205:=rfl
 have m2:msk8 51 8=3689348814741910323:=rfl
 have m3:msk8 15 8=1085102592571150095:=rfl
 have b1:p1 6148914691236517205 x < 2 ^ 64:=by
  have h1:x / 2 &&& 6148914691236517205≤6148914691236517205:=Nat.and_le_right
  have h2:x &&& 6148914691236517205≤6148914691236517205:=Nat.and_le_right
  unfold p1; omega
 have e1:p1 6148914691236517205 x=(x / 2 &&& 6148914691236517205) + (x &&& 6148914691236517205):=rfl
 have s1:(x:Int).fdiv (2 ^ (min 1 IntKind.u64.bits))=((x / 2:Nat):Int):=shr_n (a:=x) (b:=1) (by omega)
 have a1:bitsV (fun _ x y=>x &&& y) .u64 ((x / 2:Nat):Int) 6148914691236517205 = .int .u64 ((x / 2 &&& 6148914691236517205:Nat):Int):=bv_and (b:=6148914691236517205) (by omega) (by decide)
 have a2:bitsV (fun _ x y=>x &&& y) .u64 (x:Int) 6148914691236517205 = .int .u64 ((x &&& 6148914691236517205:Nat):Int):=bv_and (b:=6148914691236517205) (by omega) (by decide)
 have w1:=wadd_u (by rw [← e1]; exact b1:(x / 2 &&& 6148914691236517205) + (x &&& 6148914691236517205) < 2 ^ 64)
 rw [← e1] at w1
 generalize hy1:p1 6148914691236517205 x=y1 at *
 have b2:p2 3689348814741910323 y1≤7378697629483820646:=by
  have h1:y1 / 4 &&& 3689348814741910323≤3689348814741910323:=Nat.and_le_right
  have h2:y1 &&& 3689348814741910323≤3689348814741910323:=Nat.and_le_right
  unfold p2; omega
 have e2:p2 3689348814741910323 y1=(y1 / 4 &&& 3689348814741910323) + (y1 &&& 3689348814741910323):=rfl
 have s2:(y1:Int).fdiv (2 ^ (min 2 IntKind.u64.bits))=((y1 / 4:Nat):Int):=shr_n (a:=y1) (b:=2) (by omega)
 have a3:bitsV (fun _ x y=>x &&& y) .u64 ((y1 / 4:Nat):Int) 3689348814741910323 = .int .u64 ((y1 / 4 &&& 3689348814741910323:Nat):Int):=bv_and (b:=3689348814741910323) (by omega) (by decide)
 have a4:bitsV (fun _ x y=>x &&& y) .u64 (y1:Int) 3689348814741910323 = .int .u64 ((y1 &&& 3689348814741910323:Nat):Int):=bv_and (b:=3689348814741910323) (by omega) (by decide)
 have w2:=wadd_u (by rw [← e2]; omega:(y1 / 4 &&& 3689348814741910323) + (y1 &&& 3689348814741910323) < 2 ^ 64)
 rw [← e2] at w2
 generalize hy2:p2 3689348814741910323 y1=y2 at *
 have s3:(y2:Int).fdiv (2 ^ (min 4 IntKind.u64.bits))=((y2 / 16:Nat):Int):=shr_n (a:=y2) (b:=4) (by omega)
 have w3:=wadd_u (show y2 / 16 + y2 < 2 ^ 64 by omega)
 have a5:bitsV (fun _ x y=>x &&& y) .u64 ((y2 / 16 + y2:Nat):Int) 1085102592571150095 = .int .u64 ((y2 / 16 + y2 &&& 1085102592571150095:Nat):Int):=bv_and (b:=1085102592571150095) (by omega) (by decide)
 have b3:y2 / 16 + y2 &&& 1085102592571150095≤1085102592571150095:=Nat.and_le_right
 have hy3:y2 / 16 + y2 &&& 1085102592571150095=pT 8 x:=by rw [← hy2,← hy1]; rfl
 rw [hy3] at a5 b3
 generalize hy:pT 8 x=y at *
 have s4:(y:Int).fdiv (2 ^ (min 8 IntKind.u64.bits))=((y / 256:Nat):Int):=shr_n (a:=y) (b:=8) (by omega)
 have w4:=wadd_u (show y + y / 256 < 2 ^ 64 by omega)
 have s5:((y + y / 256:Nat):Int).fdiv (2 ^ (min 16 IntKind.u64.bits))=(((y + y / 256) / 65536:Nat):Int):=shr_n (a:=y + y / 256) (b:=16) (by omega)
 have w5:=wadd_u (show (y + y / 256) + (y + y / 256) / 65536 < 2 ^ 64 by omega)
 have s6:(((y + y / 256) + (y + y / 256) / 65536:Nat):Int).fdiv (2 ^ (min 32 IntKind.u64.bits))=((((y + y / 256) + (y + y / 256) / 65536) / 4294967296:Nat):Int):=shr_n (a:=(y + y / 256) + (y + y / 256) / 65536) (b:=32) (by omega)
 have w6:=wadd_u (show ((y + y / 256) + (y + y / 256) / 65536) + ((y + y / 256) + (y + y / 256) / 65536) / 4294967296 < 2 ^ 64 by omega)
 have hfin:((y + y / 256) + (y + y / 256) / 65536) + ((y + y / 256) + (y + y / 256) / 65536) / 4294967296 < 2 ^ 63:=by omega
 have hres:(((y + y / 256) + (y + y / 256) / 65536) + ((y + y / 256) + (y + y / 256) / 65536) / 4294967296) &&& 127=cnt 64 x:=by
  rw [← pcf_eq x hx,← hy]
  exact Nat.and_two_pow_sub_one_eq_mod _ 7
 refine fnc_of tab_ok Tryd.func149 rfl (by kernel_rfl) (by rw [Tryd.ntmps149]; exact Nat.le_add_left 1 _) ?_; rw [Tryd.ntmps149]
 refine qm ?_
 refine hk_region fun K hK=>runs_eval tab_ok ?_
 simp only [ev0,evA,evB,evP,fl,gp,tab,simprocAttr,reduceCtorEq,reduceIte]
 refine fin_run trivial (hK _ ?_)<;>clear hK<;>clear K
 refine qa (qm ?_)
 refine hk_region fun K hK=>runs_eval tab_ok ?_
 simp only [ev0,evA,evB,evP,fl,gp,tab,simprocAttr,reduceCtorEq,reduceIte,s1,a1,a2,add_u,w1]
 refine fin_run ?_ (hK _ ?_)<;>clear hK<;>clear K
 ·(first|exact trivial|omega|(simp only [In64] at *; omega)|(simp [In64] at *; omega)|(simp_all; done)|skip)
 refine qa (qm ?_)
 refine hk_region fun K hK=>runs_eval tab_ok ?_
 simp only [ev0,evA,evB,evP,fl,gp,tab,simprocAttr,reduceCtorEq,reduceIte,s2,a3,a4,add_u,w2]
 refine fin_run ?_ (hK _ ?_)<;>clear hK<;>clear K
 ·(first|exact trivial|omega|(simp only [In64] at *; omega)|(simp [In64] at *; omega)|(simp_all; done)|skip)
 refine qa (qm ?_)
 refine hk_region fun K hK=>runs_eval tab_ok ?_
 simp only [ev0,evA,evB,evP,fl,gp,tab,simprocAttr,reduceCtorEq,reduceIte,s3,add_u,w3,a5]
 refine fin_run ?_ (hK _ ?_)<;>clear hK<;>clear K
 ·(first|exact trivial|omega|(simp only [In64] at *; omega)|(simp [In64] at *; omega)|(simp_all; done)|skip)
 refine qa (qm ?_)
 refine hk_region fun K hK=>runs_eval tab_ok ?_
 simp only [ev0,evA,evB,evP,fl,gp,tab,simprocAttr,reduceCtorEq,reduceIte,s4,add_u,w4]
 refine fin_run ?_ (hK _ ?_)<;>clear hK<;>clear K
 ·(first|exact trivial|omega|(simp only [In64] at *; omega)|(simp [In64] at *; omega)|(simp_all; done)|skip)
 refine qa (qm ?_)
 refine hk_region fun K hK=>runs_eval tab_ok ?_
 simp only [ev0,evA,evB,evP,fl,gp,tab,simprocAttr,reduceCtorEq,reduceIte,s5,add_u,w5]
 refine fin_run ?_ (hK _ ?_)<;>clear hK<;>clear K
 ·(first|exact trivial|omega|(simp only [In64] at *; omega)|(simp [In64] at *; omega)|(simp_all; done)|skip)
 refine qa (qm ?_)
 refine hk_region fun K hK=>runs_eval tab_ok ?_
 simp only [ev0,evA,evB,evP,fl,gp,tab,simprocAttr,reduceCtorEq,reduceIte,s6,add_u,w6]
 refine fin_run ?_ (hK _ ?_)<;>clear hK<;>clear K
 ·(first|exact trivial|omega|(simp only [In64] at *; omega)|(simp [In64] at *; omega)|(simp_all; done)|skip)
 refine qa (qm ?_)
 refine hk_region fun K hK=>runs_eval tab_ok ?_
 simp only [ev0,evA,evB,evP,fl,gp,tab,simprocAttr,reduceCtorEq,reduceIte,cnv_i hfin,bv_and7 hfin,hres]
 refine fin_run ?_ (hK _ ?_)<;>clear hK<;>clear K
 ·(first|exact trivial|omega|(simp only [In64] at *; omega)|(simp [In64] at *; omega)|(simp_all; done)|skip)
 refine qa (qk ?_)
 simp only [Tryd.results149,enA,ev0,evA,evB,evP,fl,gp,tab,simprocAttr,reduceCtorEq,reduceIte]
 all_goals ((first|exact rfl|exact ⟨rfl,rfl⟩|exact ⟨rfl,rfl,rfl⟩|exact ⟨trivial,rfl⟩|exact ⟨Nat.le_refl _,rfl⟩|trivial|(simp; done)))

/-! ### Lists, compared -/

def cmpi (x y:Int):Int:=if x < y then -1 else if y < x then 1 else 0
def cmpL:List Int→List Int→Int
 | [],[]=>0
 | [],_ :: _=>-1
 | _ :: _,[]=>1
 | x :: v,y :: w=>if cmpi x y=0 then cmpL v w else cmpi x y
theorem isNaN_c (x:Int):FnC Tryd.prog 161 [.int .i64 x] (.bool false):=by
 refine fnc_of tab_ok Tryd.func161 rfl (by kernel_rfl) (by rw [Tryd.ntmps161]; exact Nat.le_add_left 1 _) ?_; rw [Tryd.ntmps161]
 refine qm ?_
 refine hk_region fun K hK=>runs_eval tab_ok ?_
 simp only [ev0,evA,evB,evP,fl,gp,tab,simprocAttr,reduceCtorEq,reduceIte]
 refine fin_run trivial (hK _ ?_)<;>clear hK<;>clear K
 refine qa (qm ?_)
 refine hk_region fun K hK=>runs_eval tab_ok ?_
 simp only [ev0,evA,evB,evP,fl,gp,tab,simprocAttr,reduceCtorEq,reduceIte]
 refine fin_run trivial (hK _ ?_)<;>clear hK<;>clear K
 refine qa (qk ?_)
 simp only [Tryd.results161,enA,ev0,evA,evB,evP,fl,gp,tab,simprocAttr,reduceCtorEq,reduceIte]
 all_goals ((first|exact rfl|exact ⟨rfl,rfl⟩|exact ⟨rfl,rfl,rfl⟩|exact ⟨trivial,rfl⟩|exact ⟨Nat.le_refl _,rfl⟩|trivial|(simp; done)))
theorem compare_c (x y:Int):FnC Tryd.prog 134 [.int .i64 x,.int .i64 y] (.int .i64 (cmpi x y)):=by
 refine fnc_of tab_ok Tryd.func134 rfl (by kernel_rfl) (by rw [Tryd.ntmps134]; exact Nat.le_add_left 2 _) ?_; rw [Tryd.ntmps134]
 refine qm ?_
 refine hk_region fun K hK=>runs_eval tab_ok ?_
 simp only [ev0,evA,evB,evP,fl,gp,tab,simprocAttr,reduceCtorEq,reduceIte]
 refine fin_run trivial (hK _ ?_)<;>clear hK<;>clear K
 refine qa (qm ?_)
 refine hk_region fun K hK=>runs_eval tab_ok ?_
 simp only [ev0,evA,evB,evP,fl,gp,tab,simprocAttr,reduceCtorEq,reduceIte]
 refine fin_stop trivial (runs_call (isNaN_c x) rfl rfl rfl (by simp only [dstOk,Nat.reduceLT]) (by repeat (first|exact trivial|constructor)) (runs_eval tab_ok ?_))
 simp only [ev0,evA,evB,evP,fl,gp,tab,simprocAttr,reduceCtorEq,reduceIte]
 refine fin_run trivial (hK _ ?_)<;>clear hK<;>clear K
 refine qa (qm ?_)
 refine hk_region fun K hK=>runs_eval tab_ok ?_
 simp only [ev0,evA,evB,evP,fl,gp,tab,simprocAttr,reduceCtorEq,reduceIte]
 refine fin_stop trivial (runs_call (isNaN_c y) rfl rfl rfl (by simp only [dstOk,Nat.reduceLT]) (by repeat (first|exact trivial|constructor)) (runs_eval tab_ok ?_))
 simp only [ev0,evA,evB,evP,fl,gp,tab,simprocAttr,reduceCtorEq,reduceIte]
 refine fin_run trivial (hK _ ?_)<;>clear hK<;>clear K
 refine qa (qm (qm ?_))
 refine hk_region fun K hK=>runs_eval tab_ok ?_
 simp only [ev0,evA,evB,evP,fl,gp,tab,simprocAttr,reduceCtorEq,reduceIte]
 refine fin_run trivial (hK _ ?_)<;>clear hK<;>clear K
 refine qa ?_
 refine hk_cond rfl (fun hC1=>?_) (fun hC1=>?_)
 ·cases hC1
 ·(try simp only [nhs] at hC1)
  refine qh (qa (qm (qm ?_)))
  refine hk_region fun K hK=>runs_eval tab_ok ?_
  simp only [ev0,evA,evB,evP,fl,gp,tab,simprocAttr,reduceCtorEq,reduceIte]
  refine fin_run trivial (hK _ ?_)<;>clear hK<;>clear K
  refine qa ?_
  refine hk_cond rfl (fun hC3=>?_) (fun hC3=>?_)
  ·cases hC3
  ·(try simp only [nhs] at hC3)
   refine qh (qa (qm (qm ?_)))
   refine hk_region fun K hK=>runs_eval tab_ok ?_
   simp only [ev0,evA,evB,evP,fl,gp,tab,simprocAttr,reduceCtorEq,reduceIte]
   refine fin_run trivial (hK _ ?_)<;>clear hK<;>clear K
   refine qa ?_
   refine hk_cond rfl (fun hC4=>?_) (fun hC4=>?_)
   ·(try simp only [nhs] at hC4)
    refine qm ?_
    refine hk_region fun K hK=>runs_eval tab_ok ?_
    simp only [ev0,evA,evB,evP,fl,gp,tab,simprocAttr,reduceCtorEq,reduceIte]
    refine fin_run trivial (hK _ ?_)<;>clear hK<;>clear K
    refine qa (qk (qb ?_))
    simp only [Tryd.results134,enA,ev0,evA,evB,evP,fl,gp,tab,simprocAttr,reduceCtorEq,reduceIte]
    all_goals (unfold cmpi; rw [if_pos hC4])
   ·(try simp only [nhs] at hC4)
    refine qh (qa (qm (qm ?_)))
    refine hk_region fun K hK=>runs_eval tab_ok ?_
    simp only [ev0,evA,evB,evP,fl,gp,tab,simprocAttr,reduceCtorEq,reduceIte]
    refine fin_run trivial (hK _ ?_)<;>clear hK<;>clear K
    refine qa ?_
    refine hk_cond rfl (fun hC5=>?_) (fun hC5=>?_)
    ·(try simp only [nhs] at hC5)
     refine qm ?_
     refine hk_region fun K hK=>runs_eval tab_ok ?_
     simp only [ev0,evA,evB,evP,fl,gp,tab,simprocAttr,reduceCtorEq,reduceIte]
     refine fin_run trivial (hK _ ?_)<;>clear hK<;>clear K
     refine qa (qk (qb ?_))
     simp only [Tryd.results134,enA,ev0,evA,evB,evP,fl,gp,tab,simprocAttr,reduceCtorEq,reduceIte]
     all_goals (unfold cmpi; rw [if_neg hC4,if_pos hC5])
    ·(try simp only [nhs] at hC5)
     refine qh (qa (qm ?_))
     refine hk_region fun K hK=>runs_eval tab_ok ?_
     simp only [ev0,evA,evB,evP,fl,gp,tab,simprocAttr,reduceCtorEq,reduceIte]
     refine fin_run trivial (hK _ ?_)<;>clear hK<;>clear K
     refine qa (qk ?_)
     simp only [Tryd.results134,enA,ev0,evA,evB,evP,fl,gp,tab,simprocAttr,reduceCtorEq,reduceIte]
     all_goals (unfold cmpi; rw [if_neg hC4,if_neg hC5])
theorem cmpL_drop {v w:List Int} : ∀ {i:Nat},(∀ j,j < i→j < v.length→j < w.length∧cmpi (v.getD j 0) (w.getD j 0)=0)→i≤v.length→cmpL v w=cmpL (v.drop i) (w.drop i)
 | 0,_,_=>rfl
 | i + 1,h,hi=>by
  cases v with
  | nil=>simp at hi
  | cons x v =>
   cases w with
   | nil=>have:=(h 0 (by omega) (by simp)).1; simp at this
   | cons y w =>
    have h0:=(h 0 (by omega) (by simp)).2
    simp at h0
    have ih:=cmpL_drop (v:=v) (w:=w) (i:=i) (fun j hj hjv=>by
     have:=h (j + 1) (by omega) (by simpa using hjv)
     simpa using this) (by simpa using hi)
    simp only [List.drop_succ_cons]
    rw [← ih]
    show (if cmpi x y=0 then cmpL v w else cmpi x y)=_
    rw [if_pos h0]
theorem drop_getD {v:List Int} {i:Nat} (h:i < v.length):v.drop i=v.getD i 0 :: v.drop (i + 1):=by
 rw [List.drop_eq_getElem_cons h]
 congr 1
 simp [List.getD,List.getElem?_eq_getElem h]
theorem compareL_c (v w:List Int) (hv:v.length≤1000000000) (hw:w.length≤1000000000):FnC Tryd.prog 82 [.list (il v),.list (il w)] (.int .i64 (cmpL v w)):=by
 refine fnc_of tab_ok Tryd.func82 rfl (by kernel_rfl) (by rw [Tryd.ntmps82]; exact Nat.le_add_left 2 _) ?_; rw [Tryd.ntmps82]
 refine qm ?_
 refine hk_region fun K hK=>runs_eval tab_ok ?_
 simp only [ev0,evA,evB,evP,fl,gp,tab,simprocAttr,reduceCtorEq,reduceIte]
 refine fin_run trivial (hK _ ?_)<;>clear hK<;>clear K
 refine qa (qm (qm ?_))
 refine hk_region fun K hK=>runs_eval tab_ok ?_
 simp only [ev0,evA,evB,evP,fl,gp,tab,simprocAttr,reduceCtorEq,reduceIte,il_length]
 refine fin_run trivial (hK _ ?_)<;>clear hK<;>clear K
 refine qa (ql ?_)
 refine hk_loop (ι:=Nat) (fun i=>⟨36,[(0,.p (.list (il v))),(1,.p (.list (il w))),(9,.p (.list (il v))),(10,.p (.int .i64 v.length)),(11,.p (.int .i64 i))],[]⟩) (fun i=>i≤v.length∧∀ j,j < i→j < v.length→j < w.length∧cmpi (v.getD j 0) (w.getD j 0)=0) (fun i=>v.length - i) 0 ⟨Nat.zero_le _,fun j hj=>by omega⟩ [] (by simp only [leq,leA,ev0,evA,evB,evP,fl,gp,tab,simprocAttr,reduceCtorEq,reduceIte]<;>trivial) fun i hi=>?_
 obtain ⟨hi1,hi2⟩:=hi
 have hd:=cmpL_drop hi2 hi1
 refine qm ?_
 refine hk_region fun K hK=>runs_eval tab_ok ?_
 simp only [ev0,evA,evB,evP,fl,gp,tab,simprocAttr,reduceCtorEq,reduceIte]
 refine fin_run trivial (hK _ ?_)<;>clear hK<;>clear K
 refine qa (qm ?_)
 refine hk_cond rfl (fun hC1=>?_) (fun hC1=>?_)
 ·(try simp only [nhs] at hC1)
  have hlt:i < v.length:=by omega
  have hdv:=drop_getD hlt
  refine qh (qa (qm (ql (qm ?_))))
  refine hk_region fun K hK=>runs_eval tab_ok ?_
  simp only [ev0,evA,evB,evP,fl,gp,tab,simprocAttr,reduceCtorEq,reduceIte,il_get hlt]
  refine fin_run ?_ (hK _ ?_)<;>clear hK<;>clear K
  ·(first|exact trivial|omega|(simp only [In64] at *; omega)|(simp [In64] at *; omega)|(simp_all; done)|skip)
  refine qa (qm (qm ?_))
  refine hk_region fun K hK=>runs_eval tab_ok ?_
  simp only [ev0,evA,evB,evP,fl,gp,tab,simprocAttr,reduceCtorEq,reduceIte,il_length]
  refine fin_run trivial (hK _ ?_)<;>clear hK<;>clear K
  refine qa ?_
  refine hk_cond rfl (fun hC2=>?_) (fun hC2=>?_)
  ·(try simp only [nhs] at hC2)
   refine qm ?_
   refine hk_region fun K hK=>runs_eval tab_ok ?_
   simp only [ev0,evA,evB,evP,fl,gp,tab,simprocAttr,reduceCtorEq,reduceIte]
   refine fin_run trivial (hK _ ?_)<;>clear hK<;>clear K
   refine qa (qk (qb (qe (qb (qb (qe (qb ?_)))))))
   simp only [Tryd.results82,enA,ev0,evA,evB,evP,fl,gp,tab,simprocAttr,reduceCtorEq,reduceIte]
   have hdw:w.drop i=[]:=List.drop_eq_nil_of_le (by omega)
   rw [hd,hdv,hdw]; rfl
  ·(try simp only [nhs] at hC2)
   have hlw:i < w.length:=by omega
   have hdw:=drop_getD hlw
   refine qh (qa (qm ?_))
   refine hk_region fun K hK=>runs_eval tab_ok ?_
   simp only [ev0,evA,evB,evP,fl,gp,tab,simprocAttr,reduceCtorEq,reduceIte,il_get hlw]
   refine fin_run ?_ (hK _ ?_)<;>clear hK<;>clear K
   ·(first|exact trivial|omega|(simp only [In64] at *; omega)|(simp [In64] at *; omega)|(simp_all; done)|skip)
   refine qa (qm ?_)
   refine hk_region fun K hK=>runs_eval tab_ok ?_
   simp only [ev0,evA,evB,evP,fl,gp,tab,simprocAttr,reduceCtorEq,reduceIte]
   refine fin_stop trivial (runs_call (compare_c (v.getD i 0) (w.getD i 0)) rfl rfl rfl (by simp only [dstOk,Nat.reduceLT]) (by repeat (first|exact trivial|constructor)) (runs_eval tab_ok ?_))
   simp only [ev0,evA,evB,evP,fl,gp,tab,simprocAttr,reduceCtorEq,reduceIte]
   refine fin_run trivial (hK _ ?_)<;>clear hK<;>clear K
   refine qa (qm ?_)
   refine hk_region fun K hK=>runs_eval tab_ok ?_
   simp only [ev0,evA,evB,evP,fl,gp,tab,simprocAttr,reduceCtorEq,reduceIte]
   refine fin_run trivial (hK _ ?_)<;>clear hK<;>clear K
   refine qa ?_
   refine hk_cond rfl (fun hC3=>?_) (fun hC3=>?_)
   ·(try simp only [nhs] at hC3)
    refine qm ?_
    refine hk_region fun K hK=>runs_eval tab_ok ?_
    simp only [ev0,evA,evB,evP,fl,gp,tab,simprocAttr,reduceCtorEq,reduceIte]
    refine fin_run trivial (hK _ ?_)<;>clear hK<;>clear K
    refine qa (qk (qe (qb (qb (qe (qb ?_))))))
    simp only [Tryd.results82,enA,ev0,evA,evB,evP,fl,gp,tab,simprocAttr,reduceCtorEq,reduceIte]
    rw [hd,hdv,hdw]
    show _=if _ then _ else _
    rw [if_neg hC3]
   ·(try simp only [nhs] at hC3)
    refine qh (qd (qa ?_))
    refine hk_region fun K hK=>runs_eval tab_ok ?_
    simp only [ev0,evA,evB,evP,fl,gp,tab,simprocAttr,reduceCtorEq,reduceIte]
    refine fin_run ?_ (hK _ ?_)<;>clear hK<;>clear K
    ·(first|exact trivial|omega|(simp only [In64] at *; omega)|(simp [In64] at *; omega)|(simp_all; done)|skip)
    refine qa ?_
    refine ⟨i + 1,[],⟨by omega,fun j hj hjv=>?_⟩,by omega,?_⟩
    ·by_cases hji:j=i
     ·rw [hji]; exact ⟨hlw,by simpa using hC3⟩
     ·exact hi2 j (by omega) hjv
    ·simp only [leq,leA,ev0,evA,evB,evP,fl,gp,tab,simprocAttr,reduceCtorEq,reduceIte]<;>omega
 ·(try simp only [nhs] at hC1)
  have hin:i=v.length:=by omega
  have hdv:v.drop i=[]:=List.drop_eq_nil_of_le (by omega)
  refine qj (qc (qc (qf (qa (qm (qm ?_))))))
  refine hk_region fun K hK=>runs_eval tab_ok ?_
  simp only [ev0,evA,evB,evP,fl,gp,tab,simprocAttr,reduceCtorEq,reduceIte,il_length]
  refine fin_run trivial (hK _ ?_)<;>clear hK<;>clear K
  refine qa ?_
  refine hk_cond rfl (fun hC4=>?_) (fun hC4=>?_)
  ·(try simp only [nhs] at hC4)
   refine qm ?_
   refine hk_region fun K hK=>runs_eval tab_ok ?_
   simp only [ev0,evA,evB,evP,fl,gp,tab,simprocAttr,reduceCtorEq,reduceIte]
   refine fin_run trivial (hK _ ?_)<;>clear hK<;>clear K
   refine qa (qk (qb ?_))
   simp only [Tryd.results82,enA,ev0,evA,evB,evP,fl,gp,tab,simprocAttr,reduceCtorEq,reduceIte]
   all_goals (rw [hd,hdv,drop_getD (v:=w) (i:=i) (by omega)]; rfl)
  ·(try simp only [nhs] at hC4)
   refine qh (qa (qm ?_))
   refine hk_region fun K hK=>runs_eval tab_ok ?_
   simp only [ev0,evA,evB,evP,fl,gp,tab,simprocAttr,reduceCtorEq,reduceIte]
   refine fin_run trivial (hK _ ?_)<;>clear hK<;>clear K
   refine qa (qk ?_)
   simp only [Tryd.results82,enA,ev0,evA,evB,evP,fl,gp,tab,simprocAttr,reduceCtorEq,reduceIte]
   have hdw:w.drop i=[]:=by
    refine List.drop_eq_nil_of_le ?_
    omega
   rw [hd,hdv,hdw]; rfl

/-! ### An order -/

theorem cmpi_lt {x y:Int} : cmpi x y < 0↔x < y:=by
 unfold cmpi
 by_cases h1:x < y
 ·simp [h1]
 ·by_cases h2:y < x<;>simp [h1,h2]
theorem cmpi_eq {x y:Int} : cmpi x y=0↔x=y:=by
 unfold cmpi
 by_cases h1:x < y
 ·simp [h1]; omega
 ·by_cases h2:y < x
  ·simp [h1,h2]; omega
  ·simp [h1,h2]; omega
theorem cmpL_self:∀ v:List Int,cmpL v v=0
 | []=>rfl
 | x :: v=>by show (if cmpi x x=0 then cmpL v v else cmpi x x)=0; rw [if_pos (cmpi_eq.2 rfl)]; exact cmpL_self v
theorem cmpL_cons_lt {x y:Int} {v w:List Int} : cmpL (x :: v) (y :: w) < 0↔x < y∨x=y∧cmpL v w < 0:=by
 show (if cmpi x y=0 then cmpL v w else cmpi x y) < 0↔_
 by_cases h:cmpi x y=0
 ·rw [if_pos h]
  have:=cmpi_eq.1 h
  constructor
  ·exact fun h2=>.inr ⟨this,h2⟩
  ·rintro (h2 | h2)
   ·omega
   ·exact h2.2
 ·rw [if_neg h,cmpi_lt]
  have:¬ x=y:=fun e=>h (cmpi_eq.2 e)
  constructor
  ·exact fun h2=>.inl h2
  ·rintro (h2 | h2)
   ·exact h2
   ·exact absurd h2.1 this
theorem cmpL_tot:∀ v w:List Int,¬ cmpL v w < 0→¬ cmpL w v < 0→v=w
 | [],[],_,_=>rfl
 | [],_ :: _,h,_=>absurd (show (-1:Int) < 0 by omega) h
 | _ :: _,[],_,h=>absurd (show (-1:Int) < 0 by omega) h
 | x :: v,y :: w,h1,h2=>by
  rw [cmpL_cons_lt] at h1 h2
  have hxy:x=y:=by omega
  subst hxy
  rw [cmpL_tot v w (fun h=>h1 (.inr ⟨rfl,h⟩)) (fun h=>h2 (.inr ⟨rfl,h⟩))]
theorem cmpL_trans:∀ u v w:List Int,cmpL u v < 0→cmpL v w < 0→cmpL u w < 0
 | [],[],_,h,_=>absurd h (by simp [cmpL])
 | [],_ :: _,[],_,h=>absurd h (by simp [cmpL])
 | [],_ :: _,_ :: _,_,_=>by simp [cmpL]
 | _ :: _,[],_,h,_=>absurd h (by simp [cmpL])
 | _ :: _,_ :: _,[],_,h=>absurd h (by simp [cmpL])
 | x :: u,y :: v,z :: w,h1,h2=>by
  rw [cmpL_cons_lt] at h1 h2 ⊢
  rcases h1 with h1 | ⟨rfl,h1⟩
  ·rcases h2 with h2 | ⟨rfl,h2⟩
   ·exact .inl (by omega)
   ·exact .inl h1
  ·rcases h2 with h2 | ⟨rfl,h2⟩
   ·exact .inl h2
   ·exact .inr ⟨rfl,cmpL_trans u v w h1 h2⟩
theorem cmpL_ntrans (u v w:List Int) (h1:¬ cmpL u v < 0) (h2:¬ cmpL v w < 0):¬ cmpL u w < 0:=fun h=>by
 by_cases h3:cmpL v u < 0
 ·exact h2 (cmpL_trans _ _ _ h3 h)
 ·rw [cmpL_tot _ _ h1 h3] at h; exact h2 h

/-- Sets: by how many, then by lists. -/
def cmpS (a b:List Int):Int:=if (a.length:Int) - (b.length:Int)=0 then cmpL a b else (a.length:Int) - (b.length:Int)
theorem cmpS_lt {a b:List Int} : cmpS a b < 0↔a.length < b.length∨a.length=b.length∧cmpL a b < 0:=by
 unfold cmpS
 by_cases h:(a.length:Int) - (b.length:Int)=0
 ·rw [if_pos h]; constructor
  ·exact fun h2=>.inr ⟨by omega,h2⟩
  ·rintro (h2 | h2)
   ·omega
   ·exact h2.2
 ·rw [if_neg h]; omega
theorem cmpS_tot (v w:List Int) (h1:¬ cmpS v w < 0) (h2:¬ cmpS w v < 0):v=w:=by
 rw [cmpS_lt] at h1 h2
 exact cmpL_tot v w (fun h=>h1 (.inr ⟨by omega,h⟩)) (fun h=>h2 (.inr ⟨by omega,h⟩))
theorem cmpS_trans (u v w:List Int) (h1:cmpS u v < 0) (h2:cmpS v w < 0):cmpS u w < 0:=by
 rw [cmpS_lt] at h1 h2 ⊢
 rcases h1 with h1 | ⟨e1,h1⟩
 ·exact .inl (by omega)
 ·rcases h2 with h2 | ⟨e2,h2⟩
  ·exact .inl (by omega)
  ·exact .inr ⟨by omega,cmpL_trans u v w h1 h2⟩
theorem cmpS_self (v:List Int):¬ cmpS v v < 0:=by
 rw [cmpS_lt,cmpL_self]; omega
theorem cmpS_ntrans (u v w:List Int) (h1:¬ cmpS u v < 0) (h2:¬ cmpS v w < 0):¬ cmpS u w < 0:=fun h=>by
 by_cases h3:cmpS v u < 0
 ·exact h2 (cmpS_trans _ _ _ h3 h)
 ·rw [cmpS_tot _ _ h1 h3] at h; exact h2 h
theorem cnt_stl (x:Nat):cnt 64 x=(stl x).length:=by unfold stl; rw [thl_len]; rfl
theorem allOf1_c (x y:Nat) (hx:x < 2 ^ 64) (hy:y < 2 ^ 64):FnC Tryd.prog 148 [.int .u64 x,.int .u64 y] (.int .i64 (cmpS (stl x) (stl y))):=by
 have l1:=stl_len x
 have l2:=stl_len y
 refine fnc_of tab_ok Tryd.func148 rfl (by kernel_rfl) (by rw [Tryd.ntmps148]; exact Nat.le_add_left 2 _) ?_; rw [Tryd.ntmps148]
 refine qm ?_
 refine hk_region fun K hK=>runs_eval tab_ok ?_
 simp only [ev0,evA,evB,evP,fl,gp,tab,simprocAttr,reduceCtorEq,reduceIte]
 refine fin_run trivial (hK _ ?_)<;>clear hK<;>clear K
 refine qa (qm (qm ?_))
 refine hk_region fun K hK=>runs_eval tab_ok ?_
 simp only [ev0,evA,evB,evP,fl,gp,tab,simprocAttr,reduceCtorEq,reduceIte,cnt_stl]
 refine fin_stop trivial (runs_call (ones_c x hx) rfl rfl rfl (by simp only [dstOk,Nat.reduceLT]) (by repeat (first|exact trivial|constructor)) (runs_eval tab_ok ?_))
 simp only [ev0,evA,evB,evP,fl,gp,tab,simprocAttr,reduceCtorEq,reduceIte,cnt_stl]
 refine fin_stop trivial (runs_call (ones_c y hy) rfl rfl rfl (by simp only [dstOk,Nat.reduceLT]) (by repeat (first|exact trivial|constructor)) (runs_eval tab_ok ?_))
 simp only [ev0,evA,evB,evP,fl,gp,tab,simprocAttr,reduceCtorEq,reduceIte,cnt_stl]
 refine fin_run ?_ (hK _ ?_)<;>clear hK<;>clear K
 ·(first|exact trivial|omega|(simp only [In64] at *; omega)|(simp [In64] at *; omega)|(simp_all; done)|skip)
 refine qa (qm ?_)
 refine hk_region fun K hK=>runs_eval tab_ok ?_
 simp only [ev0,evA,evB,evP,fl,gp,tab,simprocAttr,reduceCtorEq,reduceIte]
 refine fin_run trivial (hK _ ?_)<;>clear hK<;>clear K
 refine qa ?_
 refine hk_cond rfl (fun hC1=>?_) (fun hC1=>?_)
 ·(try simp only [nhs] at hC1)
  refine qm ?_
  refine hk_region fun K hK=>runs_eval tab_ok ?_
  simp only [ev0,evA,evB,evP,fl,gp,tab,simprocAttr,reduceCtorEq,reduceIte]
  refine fin_run trivial (hK _ ?_)<;>clear hK<;>clear K
  refine qa (qk (qb ?_))
  simp only [Tryd.results148,enA,ev0,evA,evB,evP,fl,gp,tab,simprocAttr,reduceCtorEq,reduceIte]
  all_goals (unfold cmpS; rw [if_neg hC1])
 ·(try simp only [nhs] at hC1)
  refine qh (qa (qm ?_))
  refine hk_region fun K hK=>runs_eval tab_ok ?_
  simp only [ev0,evA,evB,evP,fl,gp,tab,simprocAttr,reduceCtorEq,reduceIte]
  refine fin_stop trivial (runs_call (list_s x hx) rfl rfl rfl (by simp only [dstOk,Nat.reduceLT]) (by repeat (first|exact trivial|constructor)) (runs_eval tab_ok ?_))
  simp only [ev0,evA,evB,evP,fl,gp,tab,simprocAttr,reduceCtorEq,reduceIte]
  refine fin_stop trivial (runs_call (list_s y hy) rfl rfl rfl (by simp only [dstOk,Nat.reduceLT]) (by repeat (first|exact trivial|constructor)) (runs_eval tab_ok ?_))
  simp only [ev0,evA,evB,evP,fl,gp,tab,simprocAttr,reduceCtorEq,reduceIte]
  refine fin_stop trivial (runs_call (compareL_c (stl x) (stl y) (by omega) (by omega)) rfl rfl rfl (by simp only [dstOk,Nat.reduceLT]) (by repeat (first|exact trivial|constructor)) (runs_eval tab_ok ?_))
  simp only [ev0,evA,evB,evP,fl,gp,tab,simprocAttr,reduceCtorEq,reduceIte]
  refine fin_run trivial (hK _ ?_)<;>clear hK<;>clear K
  refine qa (qk ?_)
  simp only [Tryd.results148,enA,ev0,evA,evB,evP,fl,gp,tab,simprocAttr,reduceCtorEq,reduceIte]
  all_goals (unfold cmpS; rw [if_pos (by omega)])
end Go.Proofs.YtboadfahlflmhaaDoor

/-
  Walks: groups that are made of a product. Conditions: none.
-/
set_option linter.all false
namespace Go.Proofs.YtboadfahlflmhaaDoor
open Go.Pv

/-- A table, by a rule. -/
def tbr (g:Nat→Nat→Int) (n:Nat):Nat→List Int:=rg fun i=>g (i / n) (i % n)
def tbl (g:Nat→Nat→Int) (n:Nat):List Int:=tbr g n (n * n)

theorem tbr_succ (g:Nat→Nat→Int) {n a b:Nat} (hb:b < n):tbr g n (a * n + (b + 1))=tbr g n (a * n + b)++[g a b]:=by
 unfold tbr
 rw [← Nat.add_assoc,rg_succ]
 have h1:(a * n + b) / n=a:=by
  rw [Nat.mul_comm,Nat.mul_add_div (by omega),Nat.div_eq_of_lt hb]; omega
 have h2:(a * n + b) % n=b:=by
  rw [Nat.mul_comm,Nat.mul_add_mod,Nat.mod_eq_of_lt hb]
 simp only [h1,h2]
theorem tbr_len (g:Nat→Nat→Int) (n k:Nat):(tbr g n k).length=k:=rg_len _ k
theorem tbl_len (g:Nat→Nat→Int) (n:Nat):(tbl g n).length=n * n:=rg_len _ _
theorem tbl_get (g:Nat→Nat→Int) {n a b:Nat} (ha:a < n) (hb:b < n):(tbl g n).getD (a * n + b) 0=g a b:=by
 unfold tbl tbr
 rw [rg_get _ (at_lt ha hb)]
 have h1:(a * n + b) / n=a:=by
  rw [Nat.mul_comm,Nat.mul_add_div (by omega),Nat.div_eq_of_lt hb]; omega
 have h2:(a * n + b) % n=b:=by
  rw [Nat.mul_comm,Nat.mul_add_mod,Nat.mod_eq_of_lt hb]
 rw [h1,h2]

end Go.Proofs.YtboadfahlflmhaaDoor

/-
  Sets of things: centres; the square's group; an example of the document. Conditions: none.
-/
set_option linter.all false
namespace Go.Proofs.YtboadfahlflmhaaDoor
open Go.Pv

/-! ### What two lists have -/

/-! ### Functions of the library -/

/-! ### What commutes with a set -/

/-! ### The square's group -/

end Go.Proofs.YtboadfahlflmhaaDoor

/-
  Sets of things: conjugated things, commutators, what they make. Conditions: none.
-/
set_option linter.all false
namespace Go.Proofs.YtboadfahlflmhaaDoor
open Go.Pv

theorem truth (q:Prop):∃ b:Bool,b=true↔q:=⟨@decide q (Classical.propDecidable q),@decide_eq_true_iff q (Classical.propDecidable q)⟩
/-! ### Commutators of two lists -/

/-! ### Small words -/

end Go.Proofs.YtboadfahlflmhaaDoor

/-
  Subgroups, conjugated: Moved, Normaliser, Normal, Core, Closure, and what the document has. Conditions: none.
-/
set_option linter.all false
namespace Go.Proofs.YtboadfahlflmhaaDoor
open Go.Pv

/-- The fault of a set that is, or is not, a subgroup. -/
def ufb (b:Bool):Int × Int:=bif b then (0,0) else (7,0)

theorem group_ok {n e:Nat} {m:List Int} (h:GT n m n e) (p:Nat→Bool) (b:Bool) (hbs:b=true↔Sub n (op m n) e p):FnC Tryd.prog 109 [gp n m,.list (il (thl n p))] (fl (ufb b)):=by
 refine fnc_of tab_ok Tryd.func109 rfl (by kernel_rfl) (by rw [Tryd.ntmps109]; exact Nat.le_add_left 2 _) ?_; rw [Tryd.ntmps109]
 refine qm ?_
 refine hk_region fun K hK=>runs_eval tab_ok ?_
 simp only [ev0,evA,evB,evP,fl,gp,tab,simprocAttr,reduceCtorEq,reduceIte]
 refine fin_run ?_ (hK _ ?_)<;>clear hK<;>clear K
 ·(first|exact trivial|omega|(simp only [In64] at *; omega)|(simp [In64] at *; omega)|(simp_all; done)|skip)
 refine qa (qm ?_)
 refine hk_region fun K hK=>runs_eval tab_ok ?_
 simp only [ev0,evA,evB,evP,fl,gp,tab,simprocAttr,reduceCtorEq,reduceIte]
 refine fin_stop trivial (runs_call (is_ok h p b hbs) rfl rfl rfl (by simp only [dstOk,Nat.reduceLT]) (by repeat (first|exact trivial|constructor)) (runs_eval tab_ok ?_))
 simp only [ev0,evA,evB,evP,fl,gp,tab,simprocAttr,reduceCtorEq,reduceIte]
 refine fin_run ?_ (hK _ ?_)<;>clear hK<;>clear K
 ·(first|exact trivial|omega|(simp only [In64] at *; omega)|(simp [In64] at *; omega)|(simp_all; done)|skip)
 refine qa (qm (qm ?_))
 refine hk_region fun K hK=>runs_eval tab_ok ?_
 simp only [ev0,evA,evB,evP,fl,gp,tab,simprocAttr,reduceCtorEq,reduceIte]
 refine fin_run ?_ (hK _ ?_)<;>clear hK<;>clear K
 ·(first|exact trivial|omega|(simp only [In64] at *; omega)|(simp [In64] at *; omega)|(simp_all; done)|skip)
 refine qa ?_
 refine hk_cond rfl (fun hC1=>?_) (fun hC1=>?_)
 ·(try simp only [nhs] at hC1)
  have hbf:b=false:=by simpa using hC1
  refine qm ?_
  refine hk_region fun K hK=>runs_eval tab_ok ?_
  simp only [ev0,evA,evB,evP,fl,gp,tab,simprocAttr,reduceCtorEq,reduceIte]
  refine fin_stop trivial (runs_call (sfault_c 7 0) rfl rfl rfl (by simp only [dstOk,Nat.reduceLT]) (by repeat (first|exact trivial|constructor)) (runs_eval tab_ok ?_))
  simp only [ev0,evA,evB,evP,fl,gp,tab,simprocAttr,reduceCtorEq,reduceIte]
  refine fin_run ?_ (hK _ ?_)<;>clear hK<;>clear K
  ·(first|exact trivial|omega|(simp only [In64] at *; omega)|(simp [In64] at *; omega)|(simp_all; done)|skip)
  refine qa (qk (qb ?_))
  simp only [Tryd.results109,enA,ev0,evA,evB,evP,fl,gp,tab,simprocAttr,reduceCtorEq,reduceIte]
  all_goals (rw [hbf]; exact ⟨rfl,rfl⟩)
 ·(try simp only [nhs] at hC1)
  have hbt:b=true:=by simpa using hC1
  refine qh (qa (qm ?_))
  refine hk_region fun K hK=>runs_eval tab_ok ?_
  simp only [ev0,evA,evB,evP,fl,gp,tab,simprocAttr,reduceCtorEq,reduceIte]
  refine fin_run ?_ (hK _ ?_)<;>clear hK<;>clear K
  ·(first|exact trivial|omega|(simp only [In64] at *; omega)|(simp [In64] at *; omega)|(simp_all; done)|skip)
  refine qa (qk ?_)
  simp only [Tryd.results109,enA,ev0,evA,evB,evP,fl,gp,tab,simprocAttr,reduceCtorEq,reduceIte]
  all_goals (rw [hbt]; exact ⟨rfl,rfl⟩)
/-! ### A set, conjugated -/

theorem bo_and (n:Nat) (p q:Nat→Bool):bo n p &&& bo n q=bo n fun a=>p a && q a:=by
 refine Nat.eq_of_testBit_eq fun i=>?_
 rw [Nat.testBit_and,bo_bit,bo_bit,bo_bit]
 cases decide (i < n)<;>simp
/-! ### As the document has them -/

end Go.Proofs.YtboadfahlflmhaaDoor

/-
  Tables by a rule. Conditions: none.
-/
set_option linter.all false
namespace Go.Proofs.YtboadfahlflmhaaDoor
open Go.Pv

theorem Grp.cong' {n:Nat} {f f' : Nat→Nat→Nat} {e:Nat} (G:Grp n f e) (h:∀ a b,a < n→b < n→f' a b=f a b):Grp n f' e:=by
 refine ⟨G.pos,fun a b ha hb=>by rw [h a b ha hb]; exact G.cl a b ha hb,G.el,fun a ha=>by rw [h e a G.el ha]; exact G.one_l a ha,fun a ha=>by rw [h a e ha G.el]; exact G.one_r a ha,fun a b c ha hb hc=>?_,fun a ha=>?_⟩
 ·rw [h a b ha hb,h _ c (G.cl a b ha hb) hc,h b c hb hc,h a _ ha (G.cl b c hb hc)]
  exact G.assoc a b c ha hb hc
 ·obtain ⟨b,hb,h1,h2⟩:=G.inv a ha
  exact ⟨b,hb,by rw [h a b ha hb]; exact h1,by rw [h b a hb ha]; exact h2⟩
theorem tbl_op' (g:Nat→Nat→Nat) {n a b:Nat} (ha:a < n) (hb:b < n):op (tbl (fun a b=>(g a b:Nat)) n) n a b=g a b:=by
 unfold op
 rw [tbl_get _ ha hb]; rfl
theorem tbl_Tab {n:Nat} {g:Nat→Nat→Nat} (h1:1≤n) (hn:n≤60) (hg:∀ a b,a < n→b < n→g a b < n):Tab n (tbl (fun a b=>(g a b:Nat)) n):=by
 refine ⟨h1,hn,tbl_len _ _,fun i hi=>?_⟩
 have h1:i / n < n:=Nat.div_lt_of_lt_mul hi
 have h2:i % n < n:=Nat.mod_lt _ (by omega)
 have h3:i / n * n + i % n=i:=by rw [Nat.mul_comm]; exact Nat.div_add_mod i n
 have:=tbl_get (fun a b=>((g a b:Nat):Int)) h1 h2
 rw [h3] at this
 rw [this]
 have:=hg _ _ h1 h2
 omega
theorem tbl_GT' {n e:Nat} {g:Nat→Nat→Nat} (hn:n≤60) (G:Grp n g e):GT n (tbl (fun a b=>(g a b:Nat)) n) n e:=
 ⟨rfl,tbl_Tab G.pos hn G.cl,G.cong' fun a b ha hb=>tbl_op' g ha hb⟩

end Go.Proofs.YtboadfahlflmhaaDoor

/-
  Operations that are the same on a group's things: inverses, conjugates, what is made. Conditions: none.
-/
set_option linter.all false
namespace Go.Proofs.YtboadfahlflmhaaDoor
open Go.Pv

section
variable {n e:Nat} {f g:Nat→Nat→Nat} {p:Nat→Bool}

theorem iv_cong (G:Grp n f e) (h:∀ a b,a < n→b < n→g a b=f a b) {a:Nat} (ha:a < n):iv n g e a=iv n f e a:=by
 have G':=G.cong' h
 refine (G'.iv_unique ha (G.iv_lt ha) (.inl ?_)).symm
 rw [h _ _ ha (G.iv_lt ha),G.mul_iv ha]
theorem cjr_cong (G:Grp n f e) (h:∀ a b,a < n→b < n→g a b=f a b) {x a:Nat} (hx:x < n) (ha:a < n):cjr n g e x a=cjr n f e x a:=by
 unfold cjr
 rw [iv_cong G h ha,h _ _ (G.iv_lt ha) hx,h _ _ (G.cl _ _ (G.iv_lt ha) hx) ha]
theorem cup_cong (G:Grp n f e) (h:∀ a b,a < n→b < n→g a b=f a b) (y:Nat):cup n g e p y=cup n f e p y:=by
 rw [Bool.eq_iff_iff,cup_iff,cup_iff]
 constructor
 ·rintro ⟨x,a,hx,ha,h1,h2⟩
  exact ⟨x,a,hx,ha,h1,by rw [← cjr_cong G h hx ha]; exact h2⟩
 ·rintro ⟨x,a,hx,ha,h1,h2⟩
  exact ⟨x,a,hx,ha,h1,by rw [cjr_cong G h hx ha]; exact h2⟩
theorem Gen.cong_op (G:Grp n f e) (h:∀ a b,a < n→b < n→g a b=f a b) {a:Nat} (hg:Gen n g e p a):Gen n f e p a:=by
 have G':=G.cong' h
 induction hg with
 | one=>exact .one
 | step a b ha hb hp ih=>rw [h a b (ih.lt G) hb]; exact .step a b ih hb hp
theorem Sub.cong_op (G:Grp n f e) (h:∀ a b,a < n→b < n→g a b=f a b) (hs:Sub n g e p):Sub n f e p:=
 sub_of G hs.one fun a b ha hb h1 h2=>by rw [← h a b ha hb]; exact hs.mul a b ha hb h1 h2
theorem Nml.cong_op (G:Grp n f e) (h:∀ a b,a < n→b < n→g a b=f a b) (hs:Nml n g e p):Nml n f e p:=fun a ha x hx hp=>by
 rw [← cjr_cong G h hx ha]; exact hs a ha x hx hp
end
end Go.Proofs.YtboadfahlflmhaaDoor

/-
  Series of subgroups: commutators of commutators, from all on; what commutes up to the last one, from the one on. Conditions: none.
-/
set_option linter.all false
namespace Go.Proofs.YtboadfahlflmhaaDoor
open Go.Pv

/-- What commutes with all, up to a set. -/
def unx (n:Nat) (f:Nat→Nat→Nat) (e:Nat) (p:Nat→Bool) (a:Nat):Bool:=decide (∀ b,b < n→p (cmt n f e a b)=true)
def itr (nx:(Nat→Bool)→Nat→Bool) (p:Nat→Bool):Nat→Nat→Bool
 | 0=>p
 | k + 1=>nx (itr nx p k)
/-- A series comes to its end at K. -/
structure Stp (n:Nat) (T:Nat→Nat→Bool) (K:Nat):Prop where
 eq:∀ a,a < n→T (K + 1) a=T K a
 ne:∀ j,j < K→¬ ∀ a,a < n→T (j + 1) a=T j a

theorem mem_lt {n:Nat} {p q:Nat→Bool} (h:∀ a,a < n→q a=true→p a=true) (hne:¬ ∀ a,a < n→q a=p a):(mem n q).length < (mem n p).length:=by
 have h1:mem n q=(mem n p).filter q:=by
  unfold mem
  rw [List.filter_filter]
  refine List.filter_congr fun a ha=>?_
  have:=h a (List.mem_range.1 ha)
  cases hq:q a with
  | false=>simp
  | true=>simp [this hq]
 have h2:(mem n q).Sublist (mem n p):=by rw [h1]; exact List.filter_sublist
 rcases Nat.lt_or_eq_of_le h2.length_le with h3 | h3
 ·exact h3
 ·exfalso
  have h4:=h2.eq_of_length h3
  refine hne fun a ha=>?_
  rw [Bool.eq_iff_iff]
  have:a∈mem n q↔a∈mem n p:=by rw [h4]
  rw [mem_mem,mem_mem] at this
  exact ⟨fun h=>(this.1 ⟨ha,h⟩).2,fun h=>(this.2 ⟨ha,h⟩).2⟩

theorem Stp.after {n:Nat} {nx:(Nat→Bool)→Nat→Bool} {p:Nat→Bool} {K:Nat} (hx:∀ p q:Nat→Bool,(∀ a,a < n→p a=q a)→∀ a,a < n→nx p a=nx q a) (h:Stp n (itr nx p) K):∀ j a,a < n→itr nx p (K + j) a=itr nx p K a
 | 0,a,ha=>rfl
 | j + 1,a,ha=>by
  have h1:=hx _ _ (fun b hb=>Stp.after hx h j b hb) a ha
  exact h1.trans (h.eq a ha)

section
variable {n:Nat} {f:Nat→Nat→Nat} {e:Nat}
theorem unx_iff {p:Nat→Bool} {a:Nat} : unx n f e p a=true↔∀ b,b < n→p (cmt n f e a b)=true:=by unfold unx; exact decide_eq_true_iff
theorem Gen.congr {p q:Nat→Bool} (h:∀ a,a < n→p a=q a) {a:Nat} : Gen n f e p a↔Gen n f e q a:=
 ⟨Gen.mono fun b hb h1=>by rw [← h b hb]; exact h1,Gen.mono fun b hb h1=>by rw [h b hb]; exact h1⟩
theorem Grp.all_sub (G:Grp n f e):Sub n f e fun _=>true:=sub_of G rfl fun _ _ _ _ _ _=>rfl
theorem Grp.one_nml (G:Grp n f e):Nml n f e (onp e):=fun a ha x hx h=>by
 rw [onp_iff] at *
 rw [h,G.cjr_one ha]
theorem Grp.cmt_in (G:Grp n f e) {p:Nat→Bool} (hs:Sub n f e p) (hn:Nml n f e p) {x b:Nat} (hx:x < n) (hb:b < n) (h:p x=true):p (cmt n f e x b)=true:=by
 rw [G.cmt_cjr hx hb]
 exact hs.mul _ _ (G.iv_lt hx) (G.cjr_lt hx hb) (hs.inv x hx h) (hn b hb x hx h)

/-! ### Falling -/

section
variable {nx:(Nat→Bool)→Nat→Bool}
end
/-! ### Rising -/

theorem Grp.unx_in (G:Grp n f e) {p:Nat→Bool} (hs:Sub n f e p) (hn:Nml n f e p) {x:Nat} (hx:x < n) (h:p x=true):unx n f e p x=true:=unx_iff.2 fun b hb=>G.cmt_in hs hn hx hb h
theorem Grp.unx_sub (G:Grp n f e) {p:Nat→Bool} (hs:Sub n f e p) (hn:Nml n f e p):Sub n f e (unx n f e p):=by
 refine sub_of G (G.unx_in hs hn G.el hs.one) fun x y hx hy h1 h2=>unx_iff.2 fun b hb=>?_
 have ix:=G.iv_lt hx
 have iy:=G.iv_lt hy
 have hxb:=G.cjr_lt hx hb
 have hyb:=G.cjr_lt hy hb
 have hcx:=G.cmt_lt hx hb
 have h3:=hs.mul _ _ (G.cjr_lt hcx hy) (G.cmt_lt hy hb) (hn y hy _ hcx (unx_iff.1 h1 b hb)) (unx_iff.1 h2 b hb)
 have:cmt n f e (f x y) b=f (cjr n f e (cmt n f e x b) y) (cmt n f e y b):=by
  have e1:cjr n f e (cmt n f e x b) y=f (f (iv n f e y) (cmt n f e x b)) y:=rfl
  rw [G.cmt_cjr (G.cl _ _ hx hy) hb,G.iv_prod hx hy,G.cjr_hom hx hy hb,e1,G.cmt_cjr hy hb,G.assoc (f (iv n f e y) (cmt n f e x b)) y _ (G.cl _ _ iy hcx) hy (G.cl _ _ iy hyb),← G.assoc y (iv n f e y) _ hy iy hyb,G.mul_iv hy,G.one_l _ hyb,G.cmt_cjr hx hb,G.assoc (iv n f e y) (iv n f e x) _ iy ix (G.cl _ _ hxb hyb),← G.assoc (iv n f e x) _ _ ix hxb hyb,← G.assoc (iv n f e y) _ _ iy (G.cl _ _ ix hxb) hyb]
 rw [this]; exact h3
theorem Grp.unx_nml (G:Grp n f e) {p:Nat→Bool} (hn:Nml n f e p):Nml n f e (unx n f e p):=fun c hc x hx h=>unx_iff.2 fun b hb=>by
 have ic:=G.iv_lt hc
 have hbc:=G.cjr_lt hb ic
 have h1:=hn c hc _ (G.cmt_lt hx hbc) (unx_iff.1 h _ hbc)
 rwa [G.cjr_cmt hx hbc hc,G.cjr_vi hb hc] at h1
theorem Grp.rise (G:Grp n f e):∀ k,Sub n f e (itr (unx n f e) (onp e) k)∧Nml n f e (itr (unx n f e) (onp e) k)
 | 0=>⟨G.onp_sub,G.one_nml⟩
 | k + 1=>⟨G.unx_sub (G.rise k).1 (G.rise k).2,G.unx_nml (G.rise k).2⟩
end
end Go.Proofs.YtboadfahlflmhaaDoor

/-
  All subgroups of a group, in their order. Conditions: none.
-/
set_option linter.all false
namespace Go.Proofs.YtboadfahlflmhaaDoor
open Go.Pv

def wta (p:Nat→Bool) (a x:Nat):Bool:=p x || decide (x=a)
theorem bo_wta {n a:Nat} (p:Nat→Bool) (ha:a < n):bo n p ||| 2 ^ a=bo n (wta p a):=by
 refine Nat.eq_of_testBit_eq fun i=>?_
 rw [Nat.testBit_or,bo_bit,bo_bit,Nat.testBit_two_pow]
 unfold wta
 by_cases hi:i < n
 ·simp [hi,eq_comm]
 ·have:¬ a=i:=by omega
  simp [hi,this]
theorem bo_self {n x:Nat} (hx:x < 2 ^ n):bo n x.testBit=x:=by
 refine Nat.eq_of_testBit_eq fun i=>?_
 rw [bo_bit]
 by_cases hi:i < n
 ·simp [hi]
 ·have:=Nat.testBit_lt_two_pow (Nat.lt_of_lt_of_le hx (Nat.pow_le_pow_right (by omega) (Nat.le_of_not_lt hi)))
  simp [hi,this]
theorem onp_gen {n e:Nat} {f:Nat→Nat→Nat} : ∀ a,a < n→(onp e a=true↔Gen n f e (Nat.testBit 0) a):=fun a ha=>by
 rw [onp_iff]
 constructor
 ·rintro rfl; exact .one
 ·intro hg
  exact Gen.least (H:=fun a=>a=e) rfl (fun a b _ _ hb _=>by simp at hb) hg

section
variable {n e:Nat} {f:Nat→Nat→Nat}

/-- With one thing more, what is made is there. -/
def Dn (n:Nat) (f:Nat→Nat→Nat) (e x a:Nat) (L:List Nat):Prop:=∀ q:Nat→Bool,(∀ y,y < n→(q y=true↔Gen n f e (wta x.testBit a) y))→bo n q∈L
theorem Dn.mono {x a:Nat} {L L' : List Nat} (h:Dn n f e x a L) (hs:∀ y∈L,y∈L'):Dn n f e x a L':=fun q hq=>hs _ (h q hq)

/-- All subgroups; each once. -/
structure AllI (n:Nat) (f:Nat→Nat→Nat) (e:Nat) (L:List Nat):Prop where
 nodup:L.Nodup
 subs:∀ x∈L,∃ p,Sub n f e p∧x=bo n p
 one:bo n (onp e)∈L
theorem AllI.lt {L:List Nat} (h:AllI n f e L):∀ x∈L,x < 2 ^ n:=fun x hx=>by
 obtain ⟨p,_,rfl⟩:=h.subs x hx
 exact bo_lt n p
theorem AllI.len {L:List Nat} (h:AllI n f e L):L.length≤2 ^ n:=nodup_lt h.nodup h.lt
theorem AllI.all {L:List Nat} (G:Grp n f e) (h:AllI n f e L) (hd:∀ x∈L,∀ a,a < n→Dn n f e x a L):∀ p,Sub n f e p→bo n p∈L:=by
 intro q hq
 
 have go:∀ c (p:Nat→Bool),Sub n f e p→bo n p∈L→(∀ y,y < n→p y=true→q y=true)→(mem n q).length - (mem n p).length≤c→bo n q∈L:=by
  intro c
  induction c with
  | zero =>
   intro p hp hL hle hc
   have hall:∀ y,y < n→q y=p y:=by
    refine Classical.byContradiction fun hh=>?_
    have:=mem_lt (p:=q) (q:=p) hle (fun h2=>hh fun y hy=>(h2 y hy).symm)
    omega
   rw [bo_congr hall]; exact hL
  | succ c ih =>
   intro p hp hL hle hc
   by_cases hall:∀ y,y < n→q y=p y
   ·rw [bo_congr hall]; exact hL
   ·have hex:∃ a,a < n∧q a=true∧p a=false:=by
     refine Classical.byContradiction fun hh=>hall fun y hy=>?_
     cases hpy:p y with
     | true=>exact hle y hy hpy
     | false =>
      cases hqy:q y with
      | false=>rfl
      | true=>exact absurd ⟨y,hy,hqy,hpy⟩ hh
    obtain ⟨a,ha,qa,pa⟩:=hex
    obtain ⟨r,hr⟩:=gen_ex n f e (wta (bo n p).testBit a)
    have hrL:=hd _ hL a ha r hr
    have hin:∀ b,b < n→wta (bo n p).testBit a b=true→q b=true:=fun b hb hw=>by
     unfold wta at hw
     rw [bo_bit,Bool.or_eq_true,Bool.and_eq_true,decide_eq_true_eq,decide_eq_true_eq] at hw
     rcases hw with hw | hw
     ·exact hle b hb hw.2
     ·rw [hw]; exact qa
    have hrq:∀ y,y < n→r y=true→q y=true:=fun y hy h1=>((hr y hy).1 h1).sub G hq hin
    have hpr:∀ y,y < n→p y=true→r y=true:=fun y hy h1=>(hr y hy).2 (Gen.mem G hy (by unfold wta; rw [bo_bit]; simp [hy,h1]))
    have hra:r a=true:=(hr a ha).2 (Gen.mem G ha (by unfold wta; simp))
    have hlt:=mem_lt (p:=r) (q:=p) hpr (fun h2=>by have:=h2 a ha; rw [pa,hra] at this; cases this)
    exact ih r (gen_sub G hr) hrL hrq (by omega)
 exact go _ (onp e) G.onp_sub h.one (fun y hy h1=>by rw [onp_iff] at h1; rw [h1]; exact hq.one) (Nat.le_refl _)

/-- .. in their order. -/
structure AllS (n:Nat) (f:Nat→Nat→Nat) (e:Nat) (L:List Nat):Prop where
 subs:∀ x∈L,∃ p,Sub n f e p∧x=bo n p
 all:∀ p,Sub n f e p→bo n p∈L
 rise:L.Pairwise fun x y=>cmpS (stl x) (stl y) < 0
theorem AllS.nodup {L:List Nat} (h:AllS n f e L):L.Nodup:=h.rise.imp fun {x y} hxy he=>by
 subst he; exact cmpS_self _ hxy
theorem AllS.perm {L M:List Nat} (G:Grp n f e) (h:AllS n f e L) (hi:AllI n f e M) (hd:∀ x∈M,∀ a,a < n→Dn n f e x a M):M.Perm L:=by
 refine (List.perm_ext_iff_of_nodup hi.nodup h.nodup).2 fun x=>⟨fun hx=>?_,fun hx=>?_⟩
 ·obtain ⟨p,hp,rfl⟩:=hi.subs x hx; exact h.all p hp
 ·obtain ⟨p,hp,rfl⟩:=h.subs x hx; exact hi.all G hd p hp
theorem stl_inj {x y:Nat} (hx:x < 2 ^ 64) (hy:y < 2 ^ 64) (h:stl x=stl y):x=y:=by
 refine Nat.eq_of_testBit_eq fun i=>?_
 by_cases hi:i < 64
 ·exact thl_inj h hi
 ·have h1:=Nat.testBit_lt_two_pow (Nat.lt_of_lt_of_le hx (Nat.pow_le_pow_right (by omega) (Nat.le_of_not_lt hi)))
  have h2:=Nat.testBit_lt_two_pow (Nat.lt_of_lt_of_le hy (Nat.pow_le_pow_right (by omega) (Nat.le_of_not_lt hi)))
  rw [h1,h2]
/-- Put into a list that rises. -/
def insS (x:Nat):List Nat→List Nat
 | []=>[x]
 | y :: r=>if cmpS (stl x) (stl y) < 0 then x :: y :: r else y :: insS x r
theorem mem_insS {x z:Nat} : ∀ {L:List Nat},z∈insS x L↔z=x∨z∈L
 | []=>by simp [insS]
 | y :: r=>by
  unfold insS
  by_cases h:cmpS (stl x) (stl y) < 0
  ·rw [if_pos h]; simp
  ·rw [if_neg h,List.mem_cons,mem_insS,List.mem_cons]
   constructor
   ·rintro (h | h | h)
    ·exact .inr (.inl h)
    ·exact .inl h
    ·exact .inr (.inr h)
   ·rintro (h | h | h)
    ·exact .inr (.inl h)
    ·exact .inl h
    ·exact .inr (.inr h)
theorem rise_insS {x:Nat} : ∀ {L:List Nat},L.Pairwise (fun x y=>cmpS (stl x) (stl y) < 0)→(∀ y∈L,stl x ≠ stl y)→(insS x L).Pairwise fun x y=>cmpS (stl x) (stl y) < 0
 | [],_,_=>by simp [insS]
 | y :: r,h,hne=>by
  obtain ⟨h1,h2⟩:=List.pairwise_cons.1 h
  unfold insS
  by_cases hc:cmpS (stl x) (stl y) < 0
  ·rw [if_pos hc]
   refine List.pairwise_cons.2 ⟨fun z hz=>?_,h⟩
   rcases List.mem_cons.1 hz with rfl | hz
   ·exact hc
   ·exact cmpS_trans _ _ _ hc (h1 z hz)
  ·rw [if_neg hc]
   refine List.pairwise_cons.2 ⟨fun z hz=>?_,rise_insS h2 fun z hz=>hne z (by simp [hz])⟩
   rcases mem_insS.1 hz with rfl | hz
   ·refine Classical.byContradiction fun hh=>?_
    exact hne y (by simp) (cmpS_tot _ _ hc hh)
   ·exact h1 z hz
theorem alls_ex (G:Grp n f e) (hn:n≤60):∃ L,AllS n f e L:=by
 have hd:∀ M:List Nat,M.Nodup→(∀ x∈M,x < 2 ^ n)→∃ L:List Nat,(∀ x,x∈L↔x∈M)∧L.Pairwise fun x y=>cmpS (stl x) (stl y) < 0:=by
  intro M
  induction M with
  | nil=>exact fun _ _=>⟨[],by simp,by simp⟩
  | cons x r ih =>
   intro hnd hlt
   obtain ⟨h1,h2⟩:=List.nodup_cons.1 hnd
   obtain ⟨L,l1,l2⟩:=ih h2 fun y hy=>hlt y (by simp [hy])
   have hp:2 ^ n≤2 ^ 64:=Nat.pow_le_pow_right (by omega) (by omega)
   refine ⟨insS x L,fun z=>by rw [mem_insS,l1]; simp,rise_insS l2 fun y hy hxy=>?_⟩
   have hyr:=(l1 y).1 hy
   have h3:=hlt x (by simp)
   have h4:=hlt y (by simp [hyr])
   have:=stl_inj (by omega) (by omega) hxy
   rw [this] at h1; exact h1 hyr
 have hf:∃ M:List Nat,M.Nodup∧∀ x,x∈M↔x < 2 ^ n∧Sub n f e x.testBit:=by
  have:∀ N,∃ M:List Nat,M.Nodup∧∀ x,x∈M↔x < N∧Sub n f e x.testBit:=by
   intro N
   induction N with
   | zero=>exact ⟨[],List.nodup_nil,by simp⟩
   | succ N ih =>
    obtain ⟨M,m1,m2⟩:=ih
    by_cases hN:Sub n f e N.testBit
    ·refine ⟨N :: M,List.nodup_cons.2 ⟨fun h=>by have:=((m2 N).1 h).1; omega,m1⟩,fun x=>?_⟩
     rw [List.mem_cons,m2]
     constructor
     ·rintro (rfl | h)
      ·exact ⟨by omega,hN⟩
      ·exact ⟨by omega,h.2⟩
     ·rintro ⟨h1,h2⟩
      by_cases hx:x=N
      ·exact .inl hx
      ·exact .inr ⟨by omega,h2⟩
    ·refine ⟨M,m1,fun x=>?_⟩
     rw [m2]
     constructor
     ·exact fun h=>⟨by omega,h.2⟩
     ·rintro ⟨h1,h2⟩
      refine ⟨?_,h2⟩
      by_cases hx:x=N
      ·rw [hx] at h2; exact absurd h2 hN
      ·omega
  exact this _
 obtain ⟨M,m1,m2⟩:=hf
 obtain ⟨L,l1,l2⟩:=hd M m1 fun x hx=>((m2 x).1 hx).1
 refine ⟨L,fun x hx=>?_,fun p hp=>?_,l2⟩
 ·obtain ⟨h1,h2⟩:=(m2 x).1 ((l1 x).1 hx)
  exact ⟨x.testBit,h2,(bo_self h1).symm⟩
 ·refine (l1 _).2 ((m2 _).2 ⟨bo_lt n p,?_⟩)
  have:∀ a,a < n→(bo n p).testBit a=p a:=fun a ha=>by rw [bo_bit]; simp [ha]
  refine sub_of G (by rw [this e G.el]; exact hp.one) fun a b ha hb h1 h2=>?_
  rw [this a ha] at h1
  rw [this b hb] at h2
  rw [this _ (G.cl a b ha hb)]
  exact hp.mul a b ha hb h1 h2
end
end Go.Proofs.YtboadfahlflmhaaDoor

/-
  The parts of a group that are none of two: what the search finds is such. Conditions: none.
-/
set_option linter.all false
namespace Go.Proofs.YtboadfahlflmhaaDoor
open Go.Pv

section
variable {n e:Nat} {f:Nat→Nat→Nat}
/-- A group's things. -/
def El {n e:Nat} {f:Nat→Nat→Nat} (_:Grp n f e):Type:={x:Nat // x < n}
instance elMul (G:Grp n f e):Mul (El G):=⟨fun a b=>⟨f a.1 b.1,G.cl _ _ a.2 b.2⟩⟩
instance elOne (G:Grp n f e):One (El G):=⟨⟨e,G.el⟩⟩
instance elInv (G:Grp n f e):Inv (El G):=⟨fun a=>⟨iv n f e a.1,G.iv_lt a.2⟩⟩
theorem el_ext {G:Grp n f e} {a b:El G} (h:a.1=b.1):a=b:=Subtype.ext h
theorem el_gp (G:Grp n f e):Gp (El G) where
 assoc a b c:=el_ext (G.assoc _ _ _ a.2 b.2 c.2)
 one_l a:=el_ext (G.one_l _ a.2)
 one_r a:=el_ext (G.one_r _ a.2)
 inv_l a:=el_ext (G.iv_mul a.2)
 inv_r a:=el_ext (G.mul_iv a.2)
theorem el_fin (G:Grp n f e):∀ l:List (El G),l.Nodup→l.length≤n:=fun l hl=>by
 have h1:(l.map fun a:El G=>a.1).Nodup:=nodup_map hl fun a _ b _ h=>el_ext (G:=G) h
 have:=nodup_lt h1 (n:=n) fun x hx=>by
  obtain ⟨a,_,rfl⟩:=List.mem_map.1 hx
  exact a.2
 rwa [List.length_map] at this
def lfp (G:Grp n f e) (P:Nat→Bool) (x:El G):Prop:=P x.1=true
theorem lfp_sg {G:Grp n f e} {P:Nat→Bool} (h:Sub n f e P):Sg (lfp G P):=
 ⟨h.one,fun a b ha hb=>h.mul _ _ a.2 b.2 ha hb,fun a ha=>h.inv _ a.2 ha⟩
open Classical in
noncomputable def unl (G:Grp n f e) (S:El G→Prop) (a:Nat):Bool:=decide (∃ h:a < n,S ⟨a,h⟩)
open Classical in
theorem unl_iff {G:Grp n f e} {S:El G→Prop} {a:Nat} (h:a < n):unl G S a=true↔S ⟨a,h⟩:=by
 unfold unl
 rw [decide_eq_true_eq]
 exact ⟨fun ⟨_,h⟩=>h,fun h'=>⟨h,h'⟩⟩
theorem unl_sub {G:Grp n f e} {S:El G→Prop} (h:Sg S):Sub n f e (unl G S):=
 ⟨(unl_iff G.el).2 h.one,fun a b ha hb h1 h2=>(unl_iff (G.cl _ _ ha hb)).2 (h.mul _ _ ((unl_iff ha).1 h1) ((unl_iff hb).1 h2)),fun a ha h1=>(unl_iff (G.iv_lt ha)).2 (h.inv _ ((unl_iff ha).1 h1))⟩

/-- A subgroup is the direct product of two. -/
structure DPt (n:Nat) (f:Nat→Nat→Nat) (e:Nat) (P p q:Nat→Bool):Prop where
 sp:Sub n f e p
 sq:Sub n f e q
 lp:∀ a,a < n→p a=true→P a=true
 lq:∀ a,a < n→q a=true→P a=true
 meet:∀ a,a < n→p a=true→q a=true→a=e
 comm:∀ a b,a < n→b < n→p a=true→q b=true→f a b=f b a
 all:∀ a,a < n→P a=true→∃ x y,x < n∧y < n∧p x=true∧q y=true∧a=f x y
theorem DPt.dp {G:Grp n f e} {P p q:Nat→Bool} (hP:Sub n f e P) (h:DPt n f e P p q):DP (lfp G P) (lfp G p) (lfp G q) where
 sa:=lfp_sg h.sp
 sb:=lfp_sg h.sq
 comm a b ha hb:=el_ext (h.comm _ _ a.2 b.2 ha hb)
 meet x h1 h2:=el_ext (h.meet _ x.2 h1 h2)
 all x:=by
  constructor
  ·intro hx
   obtain ⟨a,b,ha,hb,h1,h2,h3⟩:=h.all _ x.2 hx
   exact ⟨⟨a,ha⟩,⟨b,hb⟩,h1,h2,el_ext h3⟩
  ·rintro ⟨a,b,ha,hb,rfl⟩
   exact hP.mul _ _ a.2 b.2 (h.lp _ a.2 ha) (h.lq _ b.2 hb)
theorem DPt.of {G:Grp n f e} {P:Nat→Bool} {S T:El G→Prop} (D:DP (lfp G P) S T):DPt n f e P (unl G S) (unl G T) where
 sp:=unl_sub D.sa
 sq:=unl_sub D.sb
 lp a ha h:=D.inl (el_gp G) ((unl_iff ha).1 h)
 lq a ha h:=D.inr (el_gp G) ((unl_iff ha).1 h)
 meet a ha h1 h2:=congrArg Subtype.val (D.meet _ ((unl_iff ha).1 h1) ((unl_iff ha).1 h2))
 comm a b ha hb h1 h2:=congrArg Subtype.val (D.comm _ _ ((unl_iff ha).1 h1) ((unl_iff hb).1 h2))
 all a ha h:=by
  obtain ⟨x,y,hx,hy,e⟩:=(D.all ⟨a,ha⟩).1 h
  exact ⟨x.1,y.1,x.2,y.2,(unl_iff x.2).2 hx,(unl_iff y.2).2 hy,congrArg Subtype.val e⟩
theorem DPt.num (G:Grp n f e) {P p q:Nat→Bool} (hP:Sub n f e P) (h:DPt n f e P p q):(thl n p).length * (thl n q).length=(thl n P).length:=by
 have hm:=(G.meet_len h.sp h.sq).2 h.meet
 have hc:=G.prod_count h.sp h.sq
 rw [hm,Nat.mul_one] at hc
 rw [thl_len,thl_len,thl_len]
 show (mem n p).length * (mem n q).length=(mem n P).length
 rw [← hc]
 refine congrArg List.length (List.filter_congr fun a ha=>?_)
 have ha:=List.mem_range.1 ha
 rw [Bool.eq_iff_iff]
 constructor
 ·intro h1
  obtain ⟨x,y,hx,hy,h2,h3,rfl⟩:=G.pr2_un ha h1
  exact hP.mul _ _ hx hy (h.lp x hx h2) (h.lq y hy h3)
 ·intro h1
  obtain ⟨x,y,hx,hy,h2,h3,rfl⟩:=h.all a ha h1
  exact G.pr2_mk hx hy h2 h3
/-- None of two; the one alone is such, too. -/
def IndT (n:Nat) (f:Nat→Nat→Nat) (e:Nat) (P:Nat→Bool):Prop:=Sub n f e P∧∀ p q,DPt n f e P p q→(thl n p).length=1∨(thl n q).length=1
theorem one_len {P:Nat→Bool} (G:Grp n f e) (h:Sub n f e P):(thl n P).length=1↔∀ a,a < n→P a=true→a=e:=by
 rw [thl_len]
 exact ⟨fun h1 a ha hp=>one_mem G.el h.one h1 ha hp,fun h1=>mem_one G.el fun a ha=>⟨h1 a ha,fun e'=>by rw [e']; exact h.one⟩⟩
theorem len_pos {P:Nat→Bool} (G:Grp n f e) (h:Sub n f e P):1≤(thl n P).length:=by
 rw [thl_len]; exact h.pos G.el
theorem IndT.ind {G:Grp n f e} {P:Nat→Bool} (h:IndT n f e P) (h1:¬ (thl n P).length=1):Ind (lfp G P):=by
 refine ⟨lfp_sg h.1,Classical.byContradiction fun hne=>h1 ((one_len G h.1).2 fun a ha hp=>Classical.byContradiction fun hae=>hne ⟨⟨a,ha⟩,hp,fun e1=>hae (congrArg Subtype.val e1)⟩),fun S T D=>?_⟩
 have D':=DPt.of D
 rcases h.2 _ _ D' with h2 | h2
 ·exact .inl fun x hx=>el_ext ((one_len G D'.sp).1 h2 x.1 x.2 ((unl_iff x.2).2 hx))
 ·exact .inr fun x hx=>el_ext ((one_len G D'.sq).1 h2 x.1 x.2 ((unl_iff x.2).2 hx))

inductive Dec (n:Nat) (f:Nat→Nat→Nat) (e:Nat):(Nat→Bool)→List (List Int)→Prop
 | one {P:Nat→Bool} : IndT n f e P→Dec n f e P [thl n P]
 | two {P p q:Nat→Bool} {A B:List (List Int)} : DPt n f e P p q→¬ (thl n p).length=1→¬ (thl n q).length=1→Dec n f e p A→Dec n f e q B→Dec n f e P (A++B)
theorem Dec.pow (G:Grp n f e) {P:Nat→Bool} {R:List (List Int)} (h:Dec n f e P R) (hP:Sub n f e P) (h1:¬ (thl n P).length=1):2 ^ R.length≤(thl n P).length:=by
 induction h with
 | one hI=>have:=len_pos G hP; simp; omega
 | two D k1 k2 _ _ ih1 ih2 =>
  rw [List.length_append,Nat.pow_add,← D.num G hP]
  exact Nat.mul_le_mul (ih1 D.sp k1) (ih2 D.sq k2)
theorem Dec.one_ {P:Nat→Bool} {R:List (List Int)} (G:Grp n f e) (h:Dec n f e P R) (hP:Sub n f e P) (h1:(thl n P).length=1):R=[thl n P]:=by
 cases h with
 | one _=>rfl
 | two D k1 k2 _ _ =>
  have:=D.num G hP
  rw [h1] at this
  exact absurd (Nat.eq_one_of_mul_eq_one_right this) k1
theorem Dec.pos {P:Nat→Bool} {R:List (List Int)} (h:Dec n f e P R):0 < R.length:=by
 induction h with
 | one _=>simp
 | two _ _ _ _ _ ih1 _=>rw [List.length_append]; omega
theorem Dec.mem {P:Nat→Bool} {R:List (List Int)} (G:Grp n f e) (h:Dec n f e P R) (hP:Sub n f e P):∀ v∈R,∃ p,v=thl n p∧IndT n f e p∧(∀ a,a < n→p a=true→P a=true)∧(¬ (thl n P).length=1→¬ (thl n p).length=1):=by
 induction h with
 | one hI=>intro v hv; rw [List.mem_singleton] at hv; subst hv; exact ⟨_,rfl,hI,fun _ _ h=>h,fun h=>h⟩
 | two D k1 k2 _ _ ih1 ih2 =>
  intro v hv
  rcases List.mem_append.1 hv with hv | hv
  ·obtain ⟨p',a1,a2,a3,a4⟩:=ih1 D.sp v hv
   exact ⟨p',a1,a2,fun a ha h=>D.lp a ha (a3 a ha h),fun _=>a4 k1⟩
  ·obtain ⟨p',a1,a2,a3,a4⟩:=ih2 D.sq v hv
   exact ⟨p',a1,a2,fun a ha h=>D.lq a ha (a3 a ha h),fun _=>a4 k2⟩
/-- What a row says. -/
def rwp (G:Grp n f e) (v:List Int) (x:El G):Prop:=((x.1:Nat):Int)∈v
theorem rwp_thl {G:Grp n f e} {p:Nat→Bool} : rwp G (thl n p)=lfp G p:=funext fun x=>propext (mem_thl_n x.2)
theorem Dec.dirL {P:Nat→Bool} {R:List (List Int)} (G:Grp n f e) (h:Dec n f e P R) (hP:Sub n f e P):DirL (lfp G P) (R.map (rwp G)):=by
 induction h with
 | one hI =>
  rename_i P
  have K:=el_gp G
  refine ⟨fun x=>x=1,?_,fun x=>Iff.rfl⟩
  rw [rwp_thl]
  refine ⟨lfp_sg hP,⟨rfl,fun a b ha hb=>by rw [ha,hb,K.one_l],fun a ha=>by rw [ha,K.inv_one]⟩,fun a b _ hb=>by rw [hb,K.one_l,K.one_r],fun x _ h=>h,fun x=>⟨fun hx=>⟨x,1,hx,rfl,(K.one_r x).symm⟩,?_⟩⟩
  rintro ⟨a,b,ha,rfl,rfl⟩
  rw [K.one_r]; exact ha
 | two D k1 k2 _ _ ih1 ih2 =>
  rw [List.map_append]
  exact DirL.app (el_gp G) (D.dp hP) (ih1 D.sp) (ih2 D.sq)

/-! ### The search -/
def ts (SL:List Nat) (i:Nat):Nat→Bool:=(SL.getD i 0).testBit
def gdp (n:Nat) (f:Nat→Nat→Nat) (e:Nat) (P p q:Nat→Bool):Prop:=
 (¬ (thl n p).length=1∧¬ (thl n p).length=(thl n P).length∧(∀ a,a < n→p a=true→P a=true)∧(thl n P).length % (thl n p).length=0) ∧
 ((thl n p).length * (thl n q).length=(thl n P).length∧(∀ a,a < n→q a=true→P a=true)∧∀ a,a < n→p a=true→q a=true→a=e)∧∀ a b,a < n→b < n→p a=true→q b=true→f a b=f b a
theorem gdp_dpt (G:Grp n f e) {P p q:Nat→Bool} (hP:Sub n f e P) (hp:Sub n f e p) (hq:Sub n f e q) (h:gdp n f e P p q):DPt n f e P p q∧¬ (thl n p).length=1∧¬ (thl n q).length=1∧(thl n p).length < (thl n P).length∧(thl n q).length < (thl n P).length:=by
 obtain ⟨⟨h1,h2,h3,h4⟩,⟨h5,h6,h7⟩,h8⟩:=h
 have l1:=len_pos G hp
 have l2:=len_pos G hq
 have l3:=len_pos G hP
 have hq1:¬ (thl n q).length=1:=fun h=>h2 (by rw [h,Nat.mul_one] at h5; exact h5)
 refine ⟨⟨hp,hq,h3,h6,h7,h8,?_⟩,h1,hq1,?_,?_⟩
 ·
  have hm:=(G.meet_len hp hq).2 h7
  have hc:=G.prod_count hp hq
  rw [hm,Nat.mul_one] at hc
  have e1:(mem n p).length * (mem n q).length=(mem n P).length:=by
   have:=h5
   rw [thl_len,thl_len,thl_len] at this
   exact this
  rw [e1] at hc
  have hsub:∀ a,a < n→pr2 n f e p q a=true→P a=true:=fun a ha h=>by
   obtain ⟨x,y,hx,hy,k1,k2,rfl⟩:=G.pr2_un ha h
   exact hP.mul _ _ hx hy (h3 x hx k1) (h6 y hy k2)
  intro a ha hPa
  refine G.pr2_un ha (Classical.byContradiction fun hne=>?_)
  have hf:mem n (pr2 n f e p q)=(mem n P).filter (pr2 n f e p q):=by
   unfold mem
   rw [List.filter_filter]
   refine List.filter_congr fun x hx=>?_
   rw [Bool.eq_iff_iff,Bool.and_eq_true]
   exact ⟨fun h=>⟨h,hsub x (List.mem_range.1 hx) h⟩,fun h=>h.1⟩
  have hlt:=List.length_filter_lt_length_iff_exists.2 ⟨a,mem_mem.2 ⟨ha,hPa⟩,hne⟩
  rw [← hf,hc] at hlt
  omega
 ·rw [← h5]
  have:(thl n p).length * 2≤(thl n p).length * (thl n q).length:=Nat.mul_le_mul_left _ (by omega)
  omega
 ·rw [← h5]
  have:2 * (thl n q).length≤(thl n p).length * (thl n q).length:=Nat.mul_le_mul_right _ (by omega)
  omega
open Classical in
noncomputable def gd (n:Nat) (f:Nat→Nat→Nat) (e:Nat) (SL:List Nat) (P:Nat→Bool) (k:Nat):Bool:=decide (gdp n f e P (ts SL (k / SL.length)) (ts SL (k % SL.length)))
noncomputable def spl (n:Nat) (f:Nat→Nat→Nat) (e:Nat) (SL:List Nat):Nat→(Nat→Bool)→List (List Int)
 | 0,P=>[thl n P]
 | k + 1,P =>
  match fst' (gd n f e SL P) (SL.length * SL.length) with
  | some t=>spl n f e SL k (ts SL (t / SL.length))++spl n f e SL k (ts SL (t % SL.length))
  | none=>[thl n P]
theorem subc {p q:Nat→Bool} (G:Grp n f e) (hp:Sub n f e p) (h:∀ a,a < n→p a=q a):Sub n f e q:=
 ⟨by rw [← h e G.el]; exact hp.one,fun a b ha hb h1 h2=>by
  rw [← h a ha] at h1
  rw [← h b hb] at h2
  rw [← h _ (G.cl _ _ ha hb)]; exact hp.mul a b ha hb h1 h2,fun a ha h1=>by
  rw [← h a ha] at h1
  rw [← h _ (G.iv_lt ha)]; exact hp.inv a ha h1⟩
theorem ts_at (G:Grp n f e) {SL:List Nat} (hS:AllS n f e SL) {i:Nat} (hi:i < SL.length):Sub n f e (ts SL i)∧SL.getD i 0=bo n (ts SL i):=by
 obtain ⟨p,hp,hpe⟩:=hS.subs (SL.getD i 0) (by simp [List.getD,List.getElem?_eq_getElem hi])
 have ht:∀ a,a < n→ts SL i a=p a:=fun a ha=>by
  unfold ts
  rw [hpe,bo_bit]; simp [ha]
 have e1:bo n p=bo n (ts SL i):=bo_congr fun a ha=>(ht a ha).symm
 refine ⟨subc G hp fun a ha=>(ht a ha).symm,by rw [← e1]; exact hpe⟩
open Classical in
theorem spl_dec (G:Grp n f e) {SL:List Nat} (hS:AllS n f e SL):∀ (k:Nat) (P:Nat→Bool),Sub n f e P→(thl n P).length≤k→Dec n f e P (spl n f e SL k P)
 | 0,P,hP,hk=>by have:=len_pos G hP; omega
 | k + 1,P,hP,hk=>by
  unfold spl
  cases hf:fst' (gd n f e SL P) (SL.length * SL.length) with
  | some t =>
   obtain ⟨t1,t2,_⟩:=fst_spec hf
   have hL:0 < SL.length:=by
    rcases Nat.eq_zero_or_pos SL.length with h | h
    ·rw [h] at t1; simp at t1
    ·exact h
   have hg:gdp n f e P (ts SL (t / SL.length)) (ts SL (t % SL.length)):=by
    have:=t2
    unfold gd at this
    simpa using this
   have s1:=(ts_at G hS (Nat.div_lt_of_lt_mul t1)).1
   have s2:=(ts_at G hS (Nat.mod_lt t hL)).1
   obtain ⟨D,d1,d2,d3,d4⟩:=gdp_dpt G hP s1 s2 hg
   exact .two D d1 d2 (spl_dec G hS k _ s1 (by omega)) (spl_dec G hS k _ s2 (by omega))
  | none =>
   refine .one ⟨hP,fun p q D=>Classical.byContradiction fun hne=>?_⟩
   have h0:=fst_spec0 hf
   have hin:∀ p,Sub n f e p→∃ i,i < SL.length∧∀ a,a < n→ts SL i a=p a:=fun p hp=>by
    obtain ⟨i,hi,he⟩:=List.getElem_of_mem (hS.all p hp)
    refine ⟨i,hi,fun a ha=>?_⟩
    unfold ts
    rw [show SL.getD i 0=SL[i] by simp [List.getD,List.getElem?_eq_getElem hi],he,bo_bit]; simp [ha]
   obtain ⟨i,hi,ei⟩:=hin p D.sp
   obtain ⟨j,hj,ej⟩:=hin q D.sq
   have hij:i * SL.length + j < SL.length * SL.length:=by
    have:(i + 1) * SL.length≤SL.length * SL.length:=Nat.mul_le_mul_right _ hi
    rw [Nat.add_mul,Nat.one_mul] at this
    omega
   have h1:=h0 _ hij
   have hL:0 < SL.length:=by omega
   have e1:(i * SL.length + j) / SL.length=i:=by rw [Nat.mul_comm i,Nat.mul_add_div hL,Nat.div_eq_of_lt hj,Nat.add_zero]
   have e2:(i * SL.length + j) % SL.length=j:=by rw [Nat.mul_comm i,Nat.mul_add_mod,Nat.mod_eq_of_lt hj]
   have hnum:=D.num G hP
   have l1:=len_pos G D.sp
   have hp1:¬ (thl n p).length=1:=fun h=>hne (.inl h)
   have hq1:¬ (thl n q).length=1:=fun h=>hne (.inr h)
   have:gd n f e SL P (i * SL.length + j)=true:=by
    unfold gd
    rw [e1,e2,decide_eq_true_eq]
    unfold gdp
    rw [thl_congr ei,thl_congr ej]
    refine ⟨⟨hp1,fun h=>hq1 ?_,fun a ha h=>D.lp a ha (by rwa [ei a ha] at h),?_⟩,⟨hnum,fun a ha h=>D.lq a ha (by rwa [ej a ha] at h),fun a ha h1 h2=>D.meet a ha (by rwa [ei a ha] at h1) (by rwa [ej a ha] at h2)⟩,fun a b ha hb h1 h2=>D.comm a b ha hb (by rwa [ei a ha] at h1) (by rwa [ej b hb] at h2)⟩
    ·rw [← h] at hnum
     have h9:(thl n p).length * (thl n q).length=(thl n p).length * 1:=by rw [hnum,Nat.mul_one]
     exact Nat.eq_of_mul_eq_mul_left (by omega) h9
    ·rw [← hnum]; exact Nat.mul_mod_right _ _
   rw [this] at h1
   exact absurd h1 (by decide)
end
end Go.Proofs.YtboadfahlflmhaaDoor

/-
  Maps by lists of keys. Conditions: none.
-/
set_option linter.all false
namespace Go.Proofs.YtboadfahlflmhaaDoor
open Go.Pv

/-! ### Maps by lists of keys -/
def mpd (l:List Int):Int→Bool:=fun u=>decide (u∈l)
def mpv (l:List Int) (g:Int→PV):Int→PV:=fun u=>bif decide (u∈l) then g u else default
theorem mpd_nil:(fun _:Int=>false)=mpd []:=funext fun u=>by simp [mpd]
theorem mpv_nil (g:Int→PV):(fun _:Int=>(default:PV))=mpv [] g:=funext fun u=>by simp [mpv]
theorem mpd_set (l:List Int) (x:Int):(fun u=>decide (u=x) || mpd l u)=mpd (l++[x]):=funext fun u=>by
 unfold mpd
 rw [Bool.eq_iff_iff]
 simp only [Bool.or_eq_true,decide_eq_true_eq,List.mem_append,List.mem_singleton]
 exact Or.comm
theorem mpv_set (l:List Int) (x:Int) (g:Int→PV):(fun u=>bif decide (u=x) then g x else mpv l g u)=mpv (l++[x]) g:=funext fun u=>by
 unfold mpv
 by_cases hu:u=x
 ·subst hu; simp
 ·simp [hu]
theorem mpd_in {l:List Int} {x:Int} (h:x∈l):mpd l x=true:=decide_eq_true h
theorem mpv_in {l:List Int} {x:Int} (g:Int→PV) (h:x∈l):mpv l g x=g x:=by
 unfold mpv
 rw [decide_eq_true h]; rfl
theorem ll_takeL (ls:List (List Int)):(ll ls).take ls.length=ll ls:=List.take_of_length_le (by rw [ll_length]; exact Nat.le_refl _)
end Go.Proofs.YtboadfahlflmhaaDoor

/-
  What reads as one value reads as another. Conditions: none.
-/
set_option linter.all false
namespace Go.Proofs.YtboadfahlflmhaaDoor
open Go.Pv

/-! ### What reads as one reads as another -/

def Rle (a b:PV):Prop:=∀ (ok:Nat→Prop) (w:World) (v:Value),Reads ok w a v→Reads ok w b v
theorem Rle.rfl {a:PV} : Rle a a:=fun _ _ _ h=>h
theorem Rle.nn {l:List PV} : Rle (.nn l) (.list l):=fun _ _ _ h=>h.nn_list
def Rles:List PV→List PV→Prop
 | [],[]=>True
 | a :: r,b :: s=>Rle a b∧Rles r s
 | _,_=>False
theorem Rles.len:∀ {l r:List PV},Rles l r→l.length=r.length
 | [],[],_=>by rfl
 | a :: l,b :: r,h=>by simp [Rles.len h.2]
 | [],_ :: _,h=>h.elim
 | _ :: _,[],h=>h.elim
theorem Rles.get:∀ {l r:List PV},Rles l r→∀ (i:Nat) (h:i < l.length) (h' : i < r.length),Rle l[i] r[i]
 | a :: l,b :: r,h,0,_,_=>h.1
 | a :: l,b :: r,h,i + 1,h1,h2=>by simpa using Rles.get h.2 i (by simpa using h1) (by simpa using h2)
 | [],[],_,i,h,_=>by simp at h
 | [],_ :: _,h,_,_,_=>h.elim
 | _ :: _,[],h,_,_,_=>h.elim
theorem FnC.weak {P:Program} {f:FuncId} {args args' : List PV} {r:PV} (h:FnC P f args r) (hs:Rles args' args):FnC P f args' r:=by
 refine ⟨h.1,fun okA w vals h1 h2 h3=>h.2 okA w vals h1 (h2.trans hs.len) fun i hi=>?_⟩
 have:=hs.len
 exact hs.get i (by omega) hi _ _ _ (h3 i (by omega))

theorem Rle.nn2 {a b:List PV} : Rle (.nn [.nn a,.nn b]) (.list [.list a,.list b]):=fun ok w v h=>by
 cases h with
 | nn _ k off sz vs hb hsz hc hr =>
  refine .list [.list a,.list b] k off 2 1 vs hb (by simp [PV.cells]) (by simp) (fun c hc'=>hc c (by simpa [flat,PV.cells] using hc')) fun c hcl=>?_
  have h0:=hr 0 (by simp [flat,PV.cells])
  have h1:=hr 1 (by simp [flat,PV.cells])
  match c,hcl with
  | 0,_=>exact Reads.nn_list h0
  | 1,_=>exact Reads.nn_list h1
end Go.Proofs.YtboadfahlflmhaaDoor

/-
  Classes: by what is alike; of conjugate things. Conditions: none.
-/
set_option linter.all false
namespace Go.Proofs.YtboadfahlflmhaaDoor
open Go.Pv

/-- The classes whose least things are below a. -/
def cstp (n:Nat) (r:Nat→Nat→Bool) (a:Nat):List (List Int):=((List.range a).filter (lead r)).map fun x=>thl n (r x)
def cst (n:Nat) (r:Nat→Nat→Bool):List (List Int):=cstp n r n
/-- The class at a place: its least thing. -/
theorem cst_get {n:Nat} {r:Nat→Nat→Bool} {i:Nat} (hi:i < (cst n r).length):∃ x,x < n∧lead r x=true∧(cst n r).getD i []=thl n (r x)∧(mem n (lead r)).getD i 0=x:=by
 unfold cst cstp at hi ⊢
 rw [List.length_map] at hi
 have hm:=List.getElem_mem hi
 obtain ⟨h1,h2⟩:=List.mem_filter.1 hm
 refine ⟨_,List.mem_range.1 h1,h2,?_,?_⟩
 ·simp [List.getD,List.getElem?_eq_getElem hi]
 ·unfold mem
  simp [List.getD,List.getElem?_eq_getElem hi]
/-! ### Rows of rows, compared -/

/-! ### Classes of conjugate things -/

/-- What is x, conjugated by an earlier thing. -/
def sp (n:Nat) (f:Nat→Nat→Nat) (e x a y:Nat):Bool:=decide (∃ b,b < a∧cjr n f e x b=y)
end Go.Proofs.YtboadfahlflmhaaDoor

/-
  Classes: where things stand; powers of classes; pairs that commute. Conditions: none.
-/
set_option linter.all false
namespace Go.Proofs.YtboadfahlflmhaaDoor
open Go.Pv

theorem cst_len (n:Nat) (r:Nat→Nat→Bool):(cst n r).length=(mem n (lead r)).length:=by
 unfold cst cstp mem
 rw [List.length_map]

/-- The place of the first list that has a thing; -1: none has. -/
def wch (l:List (List Int)) (x:Int):Int:=match fst' (fun i=>decide (x∈l.getD i [])) l.length with | some i=>(i:Int) | none=>-1

/-- A row by a rule. -/
def rgz (n:Nat) (g:Nat→Int):List Int:=(List.range n).map g
theorem rgz_len (n:Nat) (g:Nat→Int):(rgz n g).length=n:=by simp [rgz]
theorem rgz_get {n:Nat} {g:Nat→Int} {a:Nat} (ha:a < n):(rgz n g).getD a 0=g a:=by
 simp [rgz,List.getD,List.getElem?_map,List.getElem?_range ha]
theorem rgz_congr {n:Nat} {g g' : Nat→Int} (h:∀ a,a < n→g a=g' a):rgz n g=rgz n g':=List.map_congr_left fun a ha=>h a (List.mem_range.1 ha)
theorem rgz_set (n:Nat) (g:Nat→Int) (c:Nat) (x:Int):(rgz n g).set c x=rgz n fun a=>if a=c then x else g a:=by
 refine List.ext_getElem (by simp [rgz]) fun i h1 h2=>?_
 rw [List.getElem_set]
 by_cases e:c=i
 ·subst e; simp [rgz]
 ·rw [if_neg e]
  simp [rgz,Ne.symm e]
theorem rgz_new (n:Nat):List.replicate n (AV.p (.int .i64 0))=ol (rgz n fun _=>0):=by
 refine List.ext_getElem (by simp [ol,il,rgz]) fun i h1 h2=>?_
 simp [ol,il,rgz]

theorem cst_apart {n:Nat} {r:Nat→Nat→Bool} (h:Eqv n r) {i j a:Nat} (hi:i < (cst n r).length) (hj:j < (cst n r).length) (ha:a < n) (h1:((a:Nat):Int)∈(cst n r).getD i []) (h2:((a:Nat):Int)∈(cst n r).getD j []):i=j:=by
 obtain ⟨x,x1,x2,x3,x4⟩:=cst_get hi
 obtain ⟨y,y1,y2,y3,y4⟩:=cst_get hj
 rw [x3,mem_thl_n ha] at h1
 rw [y3,mem_thl_n ha] at h2
 have hxy:x=y:=h.lead_eq x1 y1 x2 y2 (h.trans x a y x1 ha y1 h1 (h.symm y a y1 ha h2))
 subst hxy
 have hn:(mem n (lead r)).Nodup:=List.nodup_range.filter _
 have hl:=cst_len n r
 exact at_inj hn (by omega) (by omega) (x4.trans y4.symm)
theorem cst_in {n:Nat} {r:Nat→Nat→Bool} (h:Eqv n r) {a:Nat} (ha:a < n):∃ i,i < (cst n r).length∧((a:Nat):Int)∈(cst n r).getD i []:=by
 obtain ⟨x,x1,x2,x3⟩:=h.least ha
 obtain ⟨i,hi,e⟩:=List.getElem_of_mem (mem_mem.2 ⟨x1,x2⟩:x∈mem n (lead r))
 have hl:=cst_len n r
 refine ⟨i,by omega,?_⟩
 obtain ⟨y,y1,y2,y3,y4⟩:=cst_get (n:=n) (r:=r) (i:=i) (by omega)
 rw [y3,mem_thl_n ha]
 have:y=x:=by rw [← y4]; simp [List.getD,List.getElem?_eq_getElem hi,e]
 rw [this]; exact x3
theorem wch_at {n:Nat} {r:Nat→Nat→Bool} (h:Eqv n r) {i a:Nat} (hi:i < (cst n r).length) (ha:a < n) (h1:((a:Nat):Int)∈(cst n r).getD i []):wch (cst n r) a=(i:Int):=by
 have e:fst' (fun k=>decide (((a:Nat):Int)∈(cst n r).getD k [])) (cst n r).length=some i:=fst_some hi (decide_eq_true h1) fun j hj=>decide_eq_false fun h2=>by
  have:=cst_apart h hi (by omega) ha h1 h2
  omega
 simp only [wch,e]

end Go.Proofs.YtboadfahlflmhaaDoor

/-
  Cosets: right, left and double, of the program and of the document. Conditions: none.
-/
set_option linter.all false
namespace Go.Proofs.YtboadfahlflmhaaDoor
open Go.Pv

/-! ### Gathered -/

/-! ### Products of a set, a thing and a set -/

/-! ### As the document has them -/

/-! ### An example of the document -/

end Go.Proofs.YtboadfahlflmhaaDoor

/-
  The quotient of a group by a congruence; by a normal subgroup. Conditions: none.
-/
set_option linter.all false
namespace Go.Proofs.YtboadfahlflmhaaDoor
open Go.Pv

/-- Places for classes: of each thing its place; of each place a thing. -/
structure Qm (n:Nat) (f:Nat→Nat→Nat) (k:Nat) (cl rep:Nat→Nat):Prop where
 lt:∀ a,a < n→cl a < k
 rlt:∀ i,i < k→rep i < n
 at_:∀ i,i < k→cl (rep i)=i
 cong:∀ a b c d,a < n→b < n→c < n→d < n→cl a=cl b→cl c=cl d→cl (f a c)=cl (f b d)

section
variable {n:Nat} {f:Nat→Nat→Nat} {e:Nat} {p:Nat→Bool}
def qop (f:Nat→Nat→Nat) (cl rep:Nat→Nat) (i j:Nat):Nat:=cl (f (rep i) (rep j))
theorem Qm.op {k:Nat} {cl rep:Nat→Nat} (Q:Qm n f k cl rep) {a b:Nat} (ha:a < n) (hb:b < n):qop f cl rep (cl a) (cl b)=cl (f a b):=
 Q.cong _ _ _ _ (Q.rlt _ (Q.lt a ha)) ha (Q.rlt _ (Q.lt b hb)) hb (Q.at_ _ (Q.lt a ha)) (Q.at_ _ (Q.lt b hb))
theorem Qm.grp {k:Nat} {cl rep:Nat→Nat} (Q:Qm n f k cl rep) (G:Grp n f e):Grp k (qop f cl rep) (cl e) where
 pos:=Nat.lt_of_le_of_lt (Nat.zero_le _) (Q.lt e G.el)
 cl i j hi hj:=Q.lt _ (G.cl _ _ (Q.rlt i hi) (Q.rlt j hj))
 el:=Q.lt e G.el
 one_l i hi:=by
  have h1:=Q.rlt i hi
  have h2:=Q.op G.el h1
  rw [Q.at_ i hi,G.one_l _ h1,Q.at_ i hi] at h2; exact h2
 one_r i hi:=by
  have h1:=Q.rlt i hi
  have h2:=Q.op h1 G.el
  rw [Q.at_ i hi,G.one_r _ h1,Q.at_ i hi] at h2; exact h2
 assoc i j l hi hj hl:=by
  have h1:=Q.rlt i hi
  have h2:=Q.rlt j hj
  have h3:=Q.rlt l hl
  have e1:=Q.op (G.cl _ _ h1 h2) h3
  have e2:=Q.op h1 (G.cl _ _ h2 h3)
  rw [Q.at_ l hl] at e1
  rw [Q.at_ i hi] at e2
  have e3:qop f cl rep i j=cl (f (rep i) (rep j)):=rfl
  have e4:qop f cl rep j l=cl (f (rep j) (rep l)):=rfl
  rw [e3,e4,e1,e2,G.assoc _ _ _ h1 h2 h3]
 inv i hi:=by
  have h1:=Q.rlt i hi
  have h2:=G.iv_lt h1
  have e1:=Q.op h1 h2
  have e2:=Q.op h2 h1
  rw [Q.at_ i hi] at e1 e2
  exact ⟨_,Q.lt _ h2,by rw [e1,G.mul_iv h1],by rw [e2,G.iv_mul h1]⟩

/-- Of a normal subgroup: alike things have alike products. -/
theorem Grp.rco_cong (G:Grp n f e) (hp:Sub n f e p) (hn:Nml n f e p) {a b c d:Nat} (ha:a < n) (hb:b < n) (hc:c < n) (hd:d < n) (h1:dco n f p (onp e) a b=true) (h2:dco n f p (onp e) c d=true):dco n f p (onp e) (f a c) (f b d)=true:=by
 have ia:=G.iv_lt ha
 have ic:=G.iv_lt hc
 have h3:=G.cl _ _ hb ia
 have h4:=G.cl _ _ hd ic
 rw [G.rco_iff ha hb] at h1
 rw [G.rco_iff hc hd] at h2
 rw [G.rco_iff (G.cl _ _ ha hc) (G.cl _ _ hb hd),G.iv_prod ha hc]
 
 have h5:=hn _ ia _ h4 h2
 unfold cjr at h5
 rw [G.iv_iv ha] at h5
 have h6:=hp.mul _ _ h3 (G.cl _ _ (G.cl _ _ ha h4) ia) h1 h5
 have e1:f (f b (iv n f e a)) (f (f a (f d (iv n f e c))) (iv n f e a))=f (f b d) (f (iv n f e c) (iv n f e a)):=by
  rw [G.assoc b _ _ hb ia (G.cl _ _ (G.cl _ _ ha h4) ia),G.assoc a _ _ ha h4 ia,← G.assoc _ a _ ia ha (G.cl _ _ h4 ia),G.iv_mul ha,G.one_l _ (G.cl _ _ h4 ia),G.assoc d _ _ hd ic ia,← G.assoc b d _ hb hd (G.cl _ _ ic ia)]
 rw [← e1]; exact h6
end
end Go.Proofs.YtboadfahlflmhaaDoor

/-
  Quotients, of the program and of the document. Conditions: none.
-/
set_option linter.all false
namespace Go.Proofs.YtboadfahlflmhaaDoor
open Go.Pv

/-! ### Places of classes -/

def rpq (n:Nat) (r:Nat→Nat→Bool) (i:Nat):Nat:=(mem n (lead r)).getD i 0
def clq (n:Nat) (r:Nat→Nat→Bool) (a:Nat):Nat:=(wch (cst n r) a).toNat
section
variable {n:Nat} {r:Nat→Nat→Bool}
theorem clq_at (E:Eqv n r) {a:Nat} (ha:a < n):clq n r a < (cst n r).length∧wch (cst n r) a=(clq n r a:Int)∧((a:Nat):Int)∈(cst n r).getD (clq n r a) []:=by
 obtain ⟨i,i1,i2⟩:=cst_in E ha
 have h1:=wch_at E i1 ha i2
 have h2:clq n r a=i:=by unfold clq; rw [h1]; rfl
 rw [h2]
 exact ⟨i1,h1,i2⟩
theorem clq_iff (E:Eqv n r) {a b:Nat} (ha:a < n) (hb:b < n):clq n r a=clq n r b↔r a b=true:=by
 obtain ⟨a1,a2,a3⟩:=clq_at E ha
 obtain ⟨b1,b2,b3⟩:=clq_at E hb
 obtain ⟨x,x1,x2,x3,x4⟩:=cst_get a1
 rw [x3,mem_thl_n ha] at a3
 constructor
 ·intro he
  rw [← he,x3,mem_thl_n hb] at b3
  exact E.trans a x b ha x1 hb (E.symm x a x1 ha a3) b3
 ·intro hr
  have:((b:Nat):Int)∈(cst n r).getD (clq n r a) []:=by rw [x3,mem_thl_n hb]; exact E.trans x a b x1 ha hb a3 hr
  exact cst_apart E a1 b1 hb this b3
theorem rpq_at (E:Eqv n r) {i:Nat} (hi:i < (cst n r).length):rpq n r i < n∧clq n r (rpq n r i)=i∧(cst n r).getD i []=thl n (r (rpq n r i))∧lead r (rpq n r i)=true:=by
 obtain ⟨x,x1,x2,x3,x4⟩:=cst_get hi
 have h1:rpq n r i=x:=x4
 rw [h1]
 have h2:((x:Nat):Int)∈(cst n r).getD i []:=by rw [x3,mem_thl_n x1]; exact E.refl x x1
 have h3:=wch_at E hi x1 h2
 exact ⟨x1,by unfold clq; rw [h3]; rfl,x3,x2⟩
theorem cst_qm {f:Nat→Nat→Nat} {e:Nat} (G:Grp n f e) (E:Eqv n r) (hc:∀ a b c d,a < n→b < n→c < n→d < n→r a b=true→r c d=true→r (f a c) (f b d)=true):Qm n f (cst n r).length (clq n r) (rpq n r) where
 lt a ha:=(clq_at E ha).1
 rlt i hi:=(rpq_at E hi).1
 at_ i hi:=(rpq_at E hi).2.1
 cong a b c d ha hb hc' hd h1 h2:=(clq_iff E (G.cl _ _ ha hc') (G.cl _ _ hb hd)).2 (hc a b c d ha hb hc' hd ((clq_iff E ha hb).1 h1) ((clq_iff E hc' hd).1 h2))
end
end Go.Proofs.YtboadfahlflmhaaDoor

/-
  Parts of a group as groups; what a group does with cosets: by maps. Conditions: none.
-/
set_option linter.all false
namespace Go.Proofs.YtboadfahlflmhaaDoor
open Go.Pv

/-! ### Parts -/

/-- Where a thing stands among those of which something is so. -/
def pix (p:Nat→Bool) (x:Nat):Nat:=(thl x p).length
theorem thl_split (n x:Nat) (p:Nat→Bool) (hx:x < n) (hp:p x=true):∃ r,thl n p=thl x p++(x:Int) :: r:=by
 induction n with
 | zero=>omega
 | succ n ih =>
  rw [thl_succ]
  by_cases h:x=n
  ·subst h
   rw [if_pos hp]; exact ⟨[],rfl⟩
  ·obtain ⟨r,hr⟩:=ih (by omega)
   rw [hr]
   exact ⟨r++(if p n=true then [(n:Int)] else []),by simp⟩
theorem pix_at {n x:Nat} {p:Nat→Bool} (hx:x < n) (hp:p x=true):pix p x < (thl n p).length∧(thl n p).getD (pix p x) 0=(x:Int):=by
 obtain ⟨r,hr⟩:=thl_split n x p hx hp
 unfold pix
 rw [hr]
 constructor
 ·simp
 ·simp [List.getD]
theorem pix_get {n i x:Nat} {p:Nat→Bool} (hi:i < (thl n p).length) (hx:x < n) (hp:p x=true) (h:(thl n p).getD i 0=(x:Int)):pix p x=i:=by
 obtain ⟨h1,h2⟩:=pix_at hx hp
 rcases Nat.lt_trichotomy (pix p x) i with h3 | h3 | h3
 ·have:=thl_get_asc h3 hi; omega
 ·exact h3
 ·have:=thl_get_asc h3 h1; omega
def lat (n:Nat) (p:Nat→Bool) (i:Nat):Nat:=((thl n p).getD i 0).toNat
theorem lat_at {n i:Nat} {p:Nat→Bool} (hi:i < (thl n p).length):lat n p i < n∧p (lat n p i)=true∧(thl n p).getD i 0=(lat n p i:Int)∧pix p (lat n p i)=i:=by
 obtain ⟨x,x1,x2,x3⟩:=thl_get hi
 have:lat n p i=x:=by unfold lat; rw [x3]; rfl
 rw [this]
 exact ⟨x1,x2,x3,pix_get hi x1 x2 x3⟩
/-- The part's operation, by places. -/
def pop (n:Nat) (f:Nat→Nat→Nat) (p:Nat→Bool) (i j:Nat):Nat:=pix p (f (lat n p i) (lat n p j))
def ptb (n:Nat) (f:Nat→Nat→Nat) (p:Nat→Bool):List Int:=tbl (fun i j=>((pop n f p i j:Nat):Int)) (thl n p).length
theorem pop_at {n e:Nat} {f:Nat→Nat→Nat} {p:Nat→Bool} (G:Grp n f e) (hs:Sub n f e p) {i j:Nat} (hi:i < (thl n p).length) (hj:j < (thl n p).length):pop n f p i j < (thl n p).length∧lat n p (pop n f p i j)=f (lat n p i) (lat n p j):=by
 obtain ⟨x1,x2,_,_⟩:=lat_at hi
 obtain ⟨y1,y2,_,_⟩:=lat_at hj
 obtain ⟨h1,h2⟩:=pix_at (G.cl _ _ x1 y1) (hs.mul _ _ x1 y1 x2 y2)
 exact ⟨h1,by unfold pop lat at *; rw [h2]; rfl⟩
/-- A part is a group. -/
theorem ptb_grp {n e:Nat} {f:Nat→Nat→Nat} {p:Nat→Bool} (G:Grp n f e) (hs:Sub n f e p):Grp (thl n p).length (pop n f p) (pix p e):=by
 have le:=pix_at G.el hs.one
 have hat:∀ {i},i < (thl n p).length→pix p (lat n p i)=i:=fun hi=>(lat_at hi).2.2.2
 have hle:lat n p (pix p e)=e:=by unfold lat; rw [le.2]; rfl
 refine ⟨by omega,fun i j hi hj=>(pop_at G hs hi hj).1,le.1,fun i hi=>?_,fun i hi=>?_,fun i j k hi hj hk=>?_,fun i hi=>?_⟩
 ·unfold pop; rw [hle,G.one_l _ (lat_at hi).1,hat hi]
 ·unfold pop; rw [hle,G.one_r _ (lat_at hi).1,hat hi]
 ·have h1:=pop_at G hs hi hj
  have h2:=pop_at G hs hj hk
  show pix p (f (lat n p (pop n f p i j)) (lat n p k))=pix p (f (lat n p i) (lat n p (pop n f p j k)))
  rw [h1.2,h2.2,G.assoc _ _ _ (lat_at hi).1 (lat_at hj).1 (lat_at hk).1]
 ·obtain ⟨x1,x2,_,_⟩:=lat_at hi
  have h1:=pix_at (G.iv_lt x1) (hs.inv _ x1 x2)
  have h2:lat n p (pix p (iv n f e (lat n p i)))=iv n f e (lat n p i):=by
   show ((thl n p).getD (pix p (iv n f e (lat n p i))) 0).toNat=_
   rw [h1.2]; rfl
  refine ⟨_,h1.1,?_,?_⟩
  ·show pix p (f (lat n p i) (lat n p (pix p (iv n f e (lat n p i)))))=_
   rw [h2,G.mul_iv x1]
  ·show pix p (f (lat n p (pix p (iv n f e (lat n p i)))) (lat n p i))=_
   rw [h2,G.iv_mul x1]

theorem take_snoc {l:List Int} {i:Nat} (h:i < l.length):l.take (i + 1)=l.take i++[l.getD i 0]:=by
 rw [List.take_succ_eq_append_getElem h]
 simp [List.getD,List.getElem?_eq_getElem h]
/-- Where a part's thing stands, as a value. -/
def pxv (p:Nat→Bool) (u:Int):PV:=.int .i64 (pix p u.toNat)

set_option maxHeartbeats 4000000 in
theorem part_ok {n e:Nat} {m:List Int} (h:GT n m n e) (p:Nat→Bool) (hs:Sub n (op m n) e p):FnC Tryd.prog 47 [gp n m,.list (il (thl n p))] (.tup [gp (thl n p).length (ptb n (op m n) p),fl (0,0)]):=by
 have G:=h.2.2
 have hb:=h.2.1.big
 have hlp:=thl_le n p
 have hsq:=sq_le (show (thl n p).length≤60 by omega)
 have hlen:=tbr_len (fun i j=>((pop n (op m n) p i j:Nat):Int)) (thl n p).length
 refine fnc_of tab_ok Tryd.func47 rfl (by kernel_rfl) (by rw [Tryd.ntmps47]; exact Nat.le_add_left 2 _) ?_; rw [Tryd.ntmps47]
 refine qm ?_
 refine hk_region fun K hK=>runs_eval tab_ok ?_
 simp only [ev0,evA,evB,evP,fl,gp,tab,simprocAttr,reduceCtorEq,reduceIte]
 refine fin_run ?_ (hK _ ?_)<;>clear hK<;>clear K
 ·(first|exact trivial|omega|(simp only [In64] at *; omega)|(simp [In64] at *; omega)|(simp_all; done)|skip)
 refine qa (qm (qm ?_))
 refine hk_region fun K hK=>runs_eval tab_ok ?_
 simp only [ev0,evA,evB,evP,fl,gp,tab,simprocAttr,reduceCtorEq,reduceIte]
 refine fin_stop trivial (runs_call (group_ok h p true (by simp [hs])) rfl rfl rfl (by simp only [dstOk,Nat.reduceLT]) (by repeat (first|exact trivial|constructor)) (runs_eval tab_ok ?_))
 simp only [ev0,evA,evB,evP,fl,gp,tab,simprocAttr,reduceCtorEq,reduceIte,ufb]
 refine fin_run ?_ (hK _ ?_)<;>clear hK<;>clear K
 ·(first|exact trivial|omega|(simp only [In64] at *; omega)|(simp [In64] at *; omega)|(simp_all; done)|skip)
 refine qa (qm ?_)
 refine hk_region fun K hK=>runs_eval tab_ok ?_
 simp only [ev0,evA,evB,evP,fl,gp,tab,simprocAttr,reduceCtorEq,reduceIte]
 refine fin_run ?_ (hK _ ?_)<;>clear hK<;>clear K
 ·(first|exact trivial|omega|(simp only [In64] at *; omega)|(simp [In64] at *; omega)|(simp_all; done)|skip)
 refine qa ?_
 refine hk_cond rfl (fun hC1=>?_) (fun hC1=>?_)
 ·cases hC1
 ·(try simp only [nhs] at hC1)
  refine qh (qa (qm ?_))
  refine hk_region fun K hK=>runs_eval tab_ok ?_
  simp only [ev0,evA,evB,evP,fl,gp,tab,simprocAttr,reduceCtorEq,reduceIte]
  refine fin_run ?_ (hK _ ?_)<;>clear hK<;>clear K
  ·(first|exact trivial|omega|(simp only [In64] at *; omega)|(simp [In64] at *; omega)|(simp_all; done)|skip)
  refine qa (qm (qm ?_))
  refine hk_region fun K hK=>runs_eval tab_ok ?_
  simp only [ev0,evA,evB,evP,fl,gp,tab,simprocAttr,reduceCtorEq,reduceIte,il_length]
  refine fin_run trivial (hK _ ?_)<;>clear hK<;>clear K
  refine qa (ql ?_)
  refine hk_loop (ι:=Nat) (fun i=>⟨65,[(1,.p (.list (il (thl n p)))),(2,.ptr 0 0),(4,.ptr 1 0),(5,.ptr 2 0),(7,.mptr 3),(24,.p (.list (il (thl n p)))),(25,.p (.int .i64 (thl n p).length)),(26,.p (.int .i64 i))],[.own [.p (.int .i64 n),.p (.list (il m))],.own [.p (.int .i64 0),.p .nil],.own [.p (.int .i64 0),.p (.int .i64 0)],.mp .i64 (mpd ((thl n p).take i)) (mpv ((thl n p).take i) (pxv p))]⟩) (fun i=>i≤(thl n p).length) (fun i=>(thl n p).length - i) 0 (Nat.zero_le _) [0,1,2,4] (by simp only [leq,leA,ev0,evA,evB,evP,fl,gp,tab,simprocAttr,reduceCtorEq,reduceIte]<;>first|trivial|(rw [mpd_nil,mpv_nil]; rfl)) fun i hi=>?_
  refine qm ?_
  refine hk_region fun K hK=>runs_eval tab_ok ?_
  simp only [ev0,evA,evB,evP,fl,gp,tab,simprocAttr,reduceCtorEq,reduceIte]
  refine fin_run trivial (hK _ ?_)<;>clear hK<;>clear K
  refine qa (qm ?_)
  refine hk_cond rfl (fun hC2=>?_) (fun hC2=>?_)
  ·(try simp only [nhs] at hC2)
   have hlt:i < (thl n p).length:=by omega
   obtain ⟨x1,x2,x3,x4⟩:=lat_at hlt
   refine qh (qa (qm (ql (qm ?_))))
   refine hk_region fun K hK=>runs_eval tab_ok ?_
   simp only [ev0,evA,evB,evP,fl,gp,tab,simprocAttr,reduceCtorEq,reduceIte,il_get hlt,x3]
   refine fin_run ?_ (hK _ ?_)<;>clear hK<;>clear K
   ·(first|exact trivial|omega|(simp only [In64] at *; omega)|(simp [In64] at *; omega)|(simp_all; done)|skip)
   refine qa ?_
   refine hk_region fun K hK=>runs_eval tab_ok ?_
   simp only [ev0,evA,evB,evP,fl,gp,tab,simprocAttr,reduceCtorEq,reduceIte]
   refine fin_run ?_ (hK _ ?_)<;>clear hK<;>clear K
   ·(first|exact trivial|omega|(simp only [In64] at *; omega)|(simp [In64] at *; omega)|(simp_all; done)|skip)
   refine qd (qa ?_)
   refine hk_region fun K hK=>runs_eval tab_ok ?_
   simp only [ev0,evA,evB,evP,fl,gp,tab,simprocAttr,reduceCtorEq,reduceIte]
   refine fin_run ?_ (hK _ ?_)<;>clear hK<;>clear K
   ·(first|exact trivial|omega|(simp only [In64] at *; omega)|(simp [In64] at *; omega)|(simp_all; done)|skip)
   refine qa ?_
   refine ⟨i + 1,[0,1,2,3],by omega,by omega,?_⟩
   have hd:=mpd_set ((thl n p).take i) (lat n p i:Int)
   have hv:=mpv_set ((thl n p).take i) (lat n p i:Int) (pxv p)
   have hx:pxv p (lat n p i:Int) = .int .i64 (i:Int):=by unfold pxv; rw [Int.toNat_natCast,x4]
   rw [hx] at hv
   rw [take_snoc hlt,x3]
   simp only [leq,leA,ev0,evA,evB,evP,fl,gp,tab,simprocAttr,reduceCtorEq,reduceIte]<;>first|trivial|omega|(rw [hd,hv])
  ·(try simp only [nhs] at hC2)
   have hin:i=(thl n p).length:=by omega
   rw [hin,List.take_length]
   refine qj (qc (qc (qf (qa (qm ?_)))))
   refine hk_region fun K hK=>runs_eval tab_ok ?_
   simp only [ev0,evA,evB,evP,fl,gp,tab,simprocAttr,reduceCtorEq,reduceIte,il_length]
   refine fin_run ?_ (hK _ ?_)<;>clear hK<;>clear K
   ·(first|exact trivial|omega|(simp only [In64] at *; omega)|(simp [In64] at *; omega)|(simp_all; done)|skip)
   refine qa (qm (qm ?_))
   refine hk_own0c 4 1 rfl rfl ?_
   simp only [hset,List.cons_append,List.nil_append,List.set,List.length_cons,List.length_nil]
   refine hk_region fun K hK=>runs_eval tab_ok ?_
   simp only [ev0,evA,evB,evP,fl,gp,tab,simprocAttr,reduceCtorEq,reduceIte,il_length]
   refine fin_run trivial (hK _ ?_)<;>clear hK<;>clear K
   refine qa (ql ?_)
   refine hk_loop (ι:=Nat) (fun i=>⟨65,[(1,.p (.list (il (thl n p)))),(2,.ptr 0 0),(4,.ptr 1 0),(5,.ptr 2 0),(7,.mptr 3),(10,.ptr 4 0),(38,.p (.list (il (thl n p)))),(39,.p (.int .i64 (thl n p).length)),(40,.p (.int .i64 i))],[.own [.p (.int .i64 n),.p (.list (il m))],.own [.p (.int .i64 0),.p .nil],.own [.p (.int .i64 0),.p (.int .i64 0)],.mp .i64 (mpd (thl n p)) (mpv (thl n p) (pxv p)),.own [.p (.int .i64 (thl n p).length),.sl 5 0 (tbr (fun i j=>((pop n (op m n) p i j:Nat):Int)) (thl n p).length (i * (thl n p).length)).length],.own (ol (tbr (fun i j=>((pop n (op m n) p i j:Nat):Int)) (thl n p).length (i * (thl n p).length)))]⟩) (fun i=>i≤(thl n p).length) (fun i=>(thl n p).length - i) 0 (Nat.zero_le _) [0,1,2,3,4,5] (by rw [Nat.zero_mul]; simp only [leq,leA,ev0,evA,evB,evP,fl,gp,tab,simprocAttr,reduceCtorEq,reduceIte]<;>first|trivial|simp [tbr,rg,ol_nil]) fun i hi=>?_
   refine qm ?_
   refine hk_region fun K hK=>runs_eval tab_ok ?_
   simp only [ev0,evA,evB,evP,fl,gp,tab,simprocAttr,reduceCtorEq,reduceIte]
   refine fin_run trivial (hK _ ?_)<;>clear hK<;>clear K
   refine qa (qm ?_)
   refine hk_cond rfl (fun hC3=>?_) (fun hC3=>?_)
   ·(try simp only [nhs] at hC3)
    have hlt:i < (thl n p).length:=by omega
    obtain ⟨x1,x2,x3,x4⟩:=lat_at hlt
    refine qh (qa (qm (ql (qm ?_))))
    refine hk_region fun K hK=>runs_eval tab_ok ?_
    simp only [ev0,evA,evB,evP,fl,gp,tab,simprocAttr,reduceCtorEq,reduceIte,il_get hlt,x3]
    refine fin_run ?_ (hK _ ?_)<;>clear hK<;>clear K
    ·(first|exact trivial|omega|(simp only [In64] at *; omega)|(simp [In64] at *; omega)|(simp_all; done)|skip)
    refine qa (qm ?_)
    refine hk_region fun K hK=>runs_eval tab_ok ?_
    simp only [ev0,evA,evB,evP,fl,gp,tab,simprocAttr,reduceCtorEq,reduceIte,il_length]
    refine fin_run trivial (hK _ ?_)<;>clear hK<;>clear K
    refine qa (ql ?_)
    refine hk_loop (ι:=Nat) (fun j=>⟨65,[(1,.p (.list (il (thl n p)))),(2,.ptr 0 0),(4,.ptr 1 0),(5,.ptr 2 0),(7,.mptr 3),(10,.ptr 4 0),(12,.p (.int .i64 (lat n p i:Nat))),(38,.p (.list (il (thl n p)))),(39,.p (.int .i64 (thl n p).length)),(40,.p (.int .i64 i)),(44,.p (.list (il (thl n p)))),(45,.p (.int .i64 (thl n p).length)),(46,.p (.int .i64 j))],[.own [.p (.int .i64 n),.p (.list (il m))],.own [.p (.int .i64 0),.p .nil],.own [.p (.int .i64 0),.p (.int .i64 0)],.mp .i64 (mpd (thl n p)) (mpv (thl n p) (pxv p)),.own [.p (.int .i64 (thl n p).length),.sl 5 0 (tbr (fun i j=>((pop n (op m n) p i j:Nat):Int)) (thl n p).length (i * (thl n p).length + j)).length],.own (ol (tbr (fun i j=>((pop n (op m n) p i j:Nat):Int)) (thl n p).length (i * (thl n p).length + j)))]⟩) (fun j=>j≤(thl n p).length) (fun j=>(thl n p).length - j) 0 (Nat.zero_le _) [0,1,2,3,4,5] (by rw [Nat.add_zero]; simp only [leq,leA,ev0,evA,evB,evP,fl,gp,tab,simprocAttr,reduceCtorEq,reduceIte]<;>trivial) fun j hj=>?_
    refine qm ?_
    refine hk_region fun K hK=>runs_eval tab_ok ?_
    simp only [ev0,evA,evB,evP,fl,gp,tab,simprocAttr,reduceCtorEq,reduceIte]
    refine fin_run trivial (hK _ ?_)<;>clear hK<;>clear K
    refine qa (qm ?_)
    refine hk_cond rfl (fun hC4=>?_) (fun hC4=>?_)
    ·(try simp only [nhs] at hC4)
     have hjl:j < (thl n p).length:=by omega
     obtain ⟨y1,y2,y3,y4⟩:=lat_at hjl
     have hxy:=G.cl _ _ x1 y1
     have hmem:=(mem_thl_n hxy).2 (hs.mul _ _ x1 y1 x2 y2)
     have hin:=mpd_in hmem
     have hvv:=mpv_in (pxv p) hmem
     have hpx:pxv p ((op m n (lat n p i) (lat n p j):Nat):Int) = .int .i64 ((pop n (op m n) p i j:Nat):Int):=by unfold pxv; rw [Int.toNat_natCast]; rfl
     have hat:=at_lt hlt hjl
     have hl:=hlen (i * (thl n p).length + j)
     refine qh (qa (qm (ql (qm ?_))))
     refine hk_region fun K hK=>runs_eval tab_ok ?_
     simp only [ev0,evA,evB,evP,fl,gp,tab,simprocAttr,reduceCtorEq,reduceIte,il_get hjl,y3]
     refine fin_run ?_ (hK _ ?_)<;>clear hK<;>clear K
     ·(first|exact trivial|omega|(simp only [In64] at *; omega)|(simp [In64] at *; omega)|(simp_all; done)|skip)
     refine qa ?_
     refine hk_draw2 mixed fun K hK=>runs2_eval tab_ok ?_
     simp only [evD,ev0,evA,evB,evP,fl,gp,tab,simprocAttr,reduceCtorEq,reduceIte]
     refine fin2_stop trivial (runs2_call (of_c h.2.1 x1 y1) rfl rfl rfl rfl (by simp only [dstOk,Nat.reduceLT]) (by repeat (first|exact trivial|constructor)) (runs2_eval tab_ok ?_))
     simp only [evD,ev0,evA,evB,evP,fl,gp,tab,simprocAttr,reduceCtorEq,reduceIte,hin,cond_true,hvv,hpx]
     refine fin2_run ?_ (hK _ _ (by first|kernel_rfl|rfl) ?_)<;>clear hK<;>clear K
     ·(first|exact trivial|omega|(simp only [In64] at *; omega)|(simp [In64] at *; omega)|(simp_all; done)|skip)
     refine qd (qa ?_)
     refine hk_region fun K hK=>runs_eval tab_ok ?_
     simp only [ev0,evA,evB,evP,fl,gp,tab,simprocAttr,reduceCtorEq,reduceIte]
     refine fin_run ?_ (hK _ ?_)<;>clear hK<;>clear K
     ·(first|exact trivial|omega|(simp only [In64] at *; omega)|(simp [In64] at *; omega)|(simp_all; done)|skip)
     refine qa ?_
     refine ⟨j + 1,[0,1,2,3,4,6],by omega,by omega,?_⟩
     rw [tbr_succ (fun i j=>((pop n (op m n) p i j:Nat):Int)) hjl]
     simp only [leq,leA,ev0,evA,evB,evP,fl,gp,tab,simprocAttr,reduceCtorEq,reduceIte]<;>first|trivial|omega
    ·(try simp only [nhs] at hC4)
     have hjn:j=(thl n p).length:=by omega
     refine qj (qc (qc (qf (qd (qa ?_)))))
     refine hk_region fun K hK=>runs_eval tab_ok ?_
     simp only [ev0,evA,evB,evP,fl,gp,tab,simprocAttr,reduceCtorEq,reduceIte]
     refine fin_run ?_ (hK _ ?_)<;>clear hK<;>clear K
     ·(first|exact trivial|omega|(simp only [In64] at *; omega)|(simp [In64] at *; omega)|(simp_all; done)|skip)
     refine qa ?_
     refine ⟨i + 1,[0,1,2,3,4,5],by omega,by omega,?_⟩
     rw [hjn,show (i + 1) * (thl n p).length=i * (thl n p).length + (thl n p).length by rw [Nat.add_mul,Nat.one_mul]]
     simp only [leq,leA,ev0,evA,evB,evP,fl,gp,tab,simprocAttr,reduceCtorEq,reduceIte]<;>first|trivial|omega
   ·(try simp only [nhs] at hC3)
    have hin:i=(thl n p).length:=by omega
    refine qj (qc (qc (qf (qa (qm ?_)))))
    refine hk_region fun K hK=>runs_eval tab_ok ?_
    simp only [ev0,evA,evB,evP,fl,gp,tab,simprocAttr,reduceCtorEq,reduceIte]
    refine fin_run ?_ (hK _ ?_)<;>clear hK<;>clear K
    ·(first|exact trivial|omega|(simp only [In64] at *; omega)|(simp [In64] at *; omega)|(simp_all; done)|skip)
    refine qa (qk ?_)
    simp only [Tryd.results47,enA,ev0,evA,evB,evP,fl,gp,tab,simprocAttr,reduceCtorEq,reduceIte]
    all_goals (simp [hin,tbl,ptb])
end Go.Proofs.YtboadfahlflmhaaDoor

/-
  Plain law, FROBENIUS' THEOREM: what commutes with y, taken by y's powers, is a group on the least things of cosets. Conditions: none.
-/
set_option linter.all false
namespace Go.Proofs.YtboadfahlflmhaaDoor
open Go.Pv

section
variable {n:Nat} {f:Nat→Nat→Nat} {e:Nat}

/-- The same but for a power of y. -/
def sm (n:Nat) (f:Nat→Nat→Nat) (e y x z:Nat):Prop:=∃ j,j < ord n f e y∧z=f x (pw f e y j)
instance (n:Nat) (f:Nat→Nat→Nat) (e y x z:Nat):Decidable (sm n f e y x z):=by unfold sm; infer_instance

/-- The least of a coset. -/
def rp (n:Nat) (f:Nat→Nat→Nat) (e y x:Nat):Nat:=(fst' (fun z=>decide (sm n f e y x z)) n).getD 0

/-- The quotient's things. -/
def quo (n:Nat) (f:Nat→Nat→Nat) (e y:Nat):List Nat:=mem n fun x=>cen f y x && decide (rp n f e y x=x)
end
end Go.Proofs.YtboadfahlflmhaaDoor

/-
  Plain law, FROBENIUS' THEOREM: how many things the quotient of a centraliser has, and how many solutions. Conditions: none.
-/
set_option linter.all false
namespace Go.Proofs.YtboadfahlflmhaaDoor
open Go.Pv

section
variable {n:Nat} {f:Nat→Nat→Nat} {e:Nat}

end
end Go.Proofs.YtboadfahlflmhaaDoor

/-
  Plain law, FROBENIUS' THEOREM: of a divisor m of n so many things are, m times, the one, as a multiple of m. Conditions: none.
-/
set_option linter.all false
namespace Go.Proofs.YtboadfahlflmhaaDoor
open Go.Pv

section
variable {n:Nat} {f:Nat→Nat→Nat} {e:Nat}

/-! ### Primes -/

theorem prime_cop {p s:Nat} (hp:∀ d,d ∣ p→d=1∨d=p) (h:¬ p ∣ s):Nat.gcd p s=1:=by
 rcases hp _ (Nat.gcd_dvd_left p s) with h1 | h1
 ·exact h1
 ·exact absurd (h1 ▸ Nat.gcd_dvd_right p s) h
theorem dvd_ppow {p:Nat} (hp2:2≤p) (hp:∀ d,d ∣ p→d=1∨d=p):∀ {k d:Nat},d ∣ p ^ (k + 1)→d=p ^ (k + 1)∨d ∣ p ^ k
 | k,d,h=>by
  by_cases hpd:p ∣ d
  ·obtain ⟨c,rfl⟩:=hpd
   rw [Nat.pow_succ,Nat.mul_comm _ p] at h
   have h1:=Nat.dvd_of_mul_dvd_mul_left (by omega) h
   match k,h1 with
   | 0,h1 =>
    have:c=1:=Nat.dvd_one.1 (by simpa using h1)
    left; simp [this]
   | k + 1,h1 =>
    rcases dvd_ppow hp2 hp h1 with h2 | h2
    ·left; rw [h2,Nat.pow_succ p (k + 1),Nat.mul_comm]
    ·right; rw [Nat.pow_succ,Nat.mul_comm _ p]; exact Nat.mul_dvd_mul (Nat.dvd_refl p) h2
  ·right
   have hc:Nat.Coprime d p:=Nat.Coprime.symm (prime_cop hp hpd)
   rw [Nat.pow_succ] at h
   exact Nat.Coprime.dvd_of_dvd_mul_right hc h

end
end Go.Proofs.YtboadfahlflmhaaDoor

/-
  Plain law, SYLOW'S THEOREMS: subgroups of a power of a prime of things. Conditions: none.
-/
set_option linter.all false
namespace Go.Proofs.YtboadfahlflmhaaDoor
open Go.Pv

section
variable {n:Nat} {f:Nat→Nat→Nat} {e:Nat} {p q s:Nat→Bool} {P:Nat}

theorem isPr.pow_div (hP:isPr P):∀ {k d:Nat},d ∣ P ^ k→∃ i,i≤k∧d=P ^ i
 | 0,d,h=>⟨0,Nat.le_refl _,by simpa using h⟩
 | k + 1,d,h=>by
  rcases dvd_ppow hP.1 (fun d hd=>hP.div hd) h with h | h
  ·exact ⟨k + 1,Nat.le_refl _,h⟩
  ·obtain ⟨i,hi,h⟩:=hP.pow_div h
   exact ⟨i,by omega,h⟩
theorem isPr.pos (hP:isPr P) (k:Nat):0 < P ^ k:=Nat.pow_pos (by have:=hP.1; omega)
theorem isPr.le_of_dvd (hP:isPr P) {i j:Nat} (h:P ^ i ∣ P ^ j):i≤j:=by
 have h1:=Nat.le_of_dvd (hP.pos j) h
 exact (Nat.pow_le_pow_iff_right hP.1).1 h1
theorem isPr.mul (hP:isPr P) {a b:Nat} (h:P ∣ a * b):P ∣ a∨P ∣ b:=by
 by_cases ha:P ∣ a
 ·exact .inl ha
 ·exact .inr (Nat.Coprime.dvd_of_dvd_mul_left (hP.cop ha) h)

theorem Grp.nzr_cj (G:Grp n f e) (hp:Sub n f e p) {a:Nat} (ha:a < n):nzr n f e p a=true↔∀ x,x < n→(p (cjr n f e x a)=true↔p x=true):=by
 rw [nzr_iff]
 constructor
 ·intro h x hx
  have h1:=h (cjr n f e x a) (G.cjr_lt hx ha)
  rw [G.shf_back ha (G.cjr_lt hx ha),G.cjr_iv hx ha] at h1
  rw [h1]
 ·intro h y hy
  rw [G.shf_back ha hy,Bool.eq_iff_iff]
  have h1:=h (cjr n f e y (iv n f e a)) (G.cjr_lt hy (G.iv_lt ha))
  rw [G.cjr_vi hy ha] at h1
  exact h1.symm
/-- What lets a set stay, by one way of the two. -/
theorem Grp.nzr_of (G:Grp n f e) (hp:Sub n f e p) {a:Nat} (ha:a < n) (h:∀ y,y < n→shf n f e p a y=true→p y=true):nzr n f e p a=true:=by
 have h1:=G.shf_len (p:=p) ha
 refine nzr_iff.2 fun y hy=>?_
 by_cases hy2:shf n f e p a y=p y
 ·exact hy2
 ·exfalso
  have:=mem_lt (n:=n) h (fun hh=>hy2 (hh y hy))
  omega

/-- A subgroup, and a thing that lets it stay: their products are one. -/
theorem Grp.nz_prod (G:Grp n f e) (hp:Sub n f e p) (hq:Sub n f e q) (h:∀ a,a < n→q a=true→nzr n f e p a=true):Sub n f e (pr2 n f e p q):=
 sub_of G (pr2_iff.2 ⟨e,G.el,hp.one,by rw [G.iv_one,G.one_l e G.el]; exact hq.one⟩) fun x y hx hy h1 h2=>by
  obtain ⟨a,ha,pa,qb⟩:=pr2_iff.1 h1
  obtain ⟨c,hc,pc,qd⟩:=pr2_iff.1 h2
  have ia:=G.iv_lt ha
  have ic:=G.iv_lt hc
  have hb:=G.cl _ _ ia hx
  have ib:=G.iv_lt hb
  have hd:=G.cl _ _ ic hy
  
  have hcb:=G.cjr_lt hc ib
  have hk:p (cjr n f e c (iv n f e (f (iv n f e a) x)))=true:=((G.nzr_cj hp ib).1 (h _ ib (hq.inv _ hb qb)) c hc).2 pc
  have hac:=G.cl _ _ ha hcb
  refine pr2_iff.2 ⟨f a (cjr n f e c (iv n f e (f (iv n f e a) x))),hac,hp.mul _ _ ha hcb pa hk,?_⟩
  have e1:f (iv n f e (f a (cjr n f e c (iv n f e (f (iv n f e a) x))))) (f x y)=f (f (iv n f e a) x) (f (iv n f e c) y):=by
   have hbc:=G.cl _ _ hb hc
   have e2:cjr n f e c (iv n f e (f (iv n f e a) x))=f (f (f (iv n f e a) x) c) (iv n f e (f (iv n f e a) x)):=by
    unfold cjr; rw [G.iv_iv hb]
   have e3:f x y=f (f a (cjr n f e c (iv n f e (f (iv n f e a) x)))) (f (f (iv n f e a) x) (f (iv n f e c) y)):=by
    rw [G.assoc a _ _ ha hcb (G.cl _ _ hb hd),e2,G.assoc _ _ _ hbc ib (G.cl _ _ hb hd),← G.assoc (iv n f e (f (iv n f e a) x)) _ _ ib hb hd,G.iv_mul hb,G.one_l _ hd,G.assoc _ _ _ hb hc hd,← G.assoc c _ y hc ic hy,G.mul_iv hc,G.one_l y hy,← G.assoc a _ y ha hb hy,← G.assoc a _ x ha ia hx,G.mul_iv ha,G.one_l x hx]
   rw [e3,← G.assoc _ _ _ (G.iv_lt hac) hac (G.cl _ _ hb hd),G.iv_mul hac,G.one_l _ (G.cl _ _ hb hd)]
  rw [e1]
  exact hq.mul _ _ hb hd qb qd

/-- THE COUNT: of a subgroup of a power of P things, and another: things that bring not the first into the second. -/
theorem Grp.syl_count (G:Grp n f e) (hP:isPr P) (hq:Sub n f e q) {i:Nat} (hi:(mem n q).length=P ^ i) (hs:Sub n f e s) :
  ∃ c,n=(mem n fun a=>decide (∀ y,y < n→shf n f e q a y=true→s y=true)).length + P * (mem n s).length * c:=by
 obtain ⟨K,hK⟩:∃ K:Nat→Bool,K=fun a=>decide (∀ y,y < n→shf n f e q a y=true→s y=true):=⟨_,rfl⟩
 have hKi:∀ a,K a=true↔∀ y,y < n→shf n f e q a y=true→s y=true:=fun a=>by rw [hK]; exact decide_eq_true_iff
 have E:=G.dco_eqv hq hs
 have inv:∀ x y,x < n→y < n→dco n f q s x y=true→K x=true→K y=true:=by
  intro x y hx hy h hk
  obtain ⟨u,v,hu,hv,qu,sv,rfl⟩:=dco_iff.1 h
  refine (hKi _).2 fun z hz hzs=>?_
  obtain ⟨w,hw,qw,rfl⟩:=shf_iff.1 hzs
  have hux:=G.cl _ _ hu hx
  rw [← G.cjr_cjr hw hux hv,← G.cjr_cjr hw hu hx]
  have hwu:=G.cjr_lt hw hu
  have h1:q (cjr n f e w u)=true:=hq.mul _ _ (G.cl _ _ (G.iv_lt hu) hw) hu (hq.mul _ _ (G.iv_lt hu) hw (hq.inv _ hu qu) qw) qu
  have h2:s (cjr n f e (cjr n f e w u) x)=true:=(hKi x).1 hk _ (G.cjr_lt hwu hx) (shf_iff.2 ⟨_,hwu,h1,rfl⟩)
  have hwx:=G.cjr_lt hwu hx
  exact hs.mul _ _ (G.cl _ _ (G.iv_lt hv) hwx) hv (hs.mul _ _ (G.iv_lt hv) hwx (hs.inv _ hv sv) h2) sv
 have inv2:∀ x y,x < n→y < n→dco n f q s x y=true→(!K x)=true→(!K y)=true:=by
  intro x y hx hy h hk
  cases hky:K y with
  | false=>rfl
  | true=>rw [inv y x hy hx (E.symm x y hx hy h) hky] at hk; cases hk
 have hsum:=E.part (K:=fun a=>!K a) inv2
 have hdv:∀ l:List Nat,(∀ x∈l,P * (mem n s).length ∣ (mem n (dco n f q s x)).length)→P * (mem n s).length ∣ (l.map fun x=>(mem n (dco n f q s x)).length).sum:=by
  intro l
  induction l with
  | nil=>intro _; exact ⟨0,rfl⟩
  | cons x r ih =>
   intro h
   rw [List.map_cons,List.sum_cons]
   exact Nat.dvd_add (h x (by simp)) (ih fun y hy=>h y (by simp [hy]))
 have hd:=hdv (mem n fun x=>lead (dco n f q s) x && !K x) (fun x hx=>by
  obtain ⟨x1,x2⟩:=mem_mem.1 hx
  rw [Bool.and_eq_true] at x2
  have hc:=G.dco_count hq hs x1
  have hsh:=G.shf_sub hq x1
  have hm:=hsh.and hs
  have hlen:=G.shf_len (p:=q) x1
  obtain ⟨i2,hi2,hmi⟩:=hP.pow_div (k:=i) (d:=(mem n fun y=>shf n f e q x y && s y).length) (by
   rw [← hi,← hlen]
   exact hm.dvd G fun a b ha hb h1 h2=>hsh.mul a b ha hb h1 (by rw [Bool.and_eq_true] at h2; exact h2.1))
  have hne:i2 ≠ i:=fun h=>by
   have hk:K x=true:=(hKi x).2 fun y hy hys=>by
    cases hsy:s y with
    | true=>rfl
    | false =>
     exfalso
     have:=mem_lt (n:=n) (p:=shf n f e q x) (q:=fun y=>shf n f e q x y && s y) (fun a _ h=>by rw [Bool.and_eq_true] at h; exact h.1) (fun hh=>by
      have:=hh y hy
      rw [hys,hsy] at this; cases this)
     rw [hlen,hi,hmi,h] at this
     omega
   rw [hk] at x2; cases x2.2
  rw [hmi,hi] at hc
  obtain ⟨t,ht⟩:∃ t,i=i2 + 1 + t:=⟨i - i2 - 1,by omega⟩
  refine ⟨P ^ t,Nat.eq_of_mul_eq_mul_right (hP.pos i2) ?_⟩
  rw [hc,ht,Nat.pow_add,Nat.pow_succ]
  ac_rfl)
 rw [hsum] at hd
 obtain ⟨c,hc⟩:=hd
 refine ⟨c,?_⟩
 have hsp:(mem n K).length + (mem n fun a=>!K a).length=n:=by
  have h:=List.length_eq_countP_add_countP K (l:=List.range n)
  rw [List.length_range,List.countP_eq_length_filter,List.countP_eq_length_filter] at h
  unfold mem
  rw [show (List.filter (fun a=>!K a) (List.range n))=List.filter (fun a=>decide ¬K a=true) (List.range n) from List.filter_congr fun a _=>by cases K a<;>rfl]
  exact h.symm
 rw [hK] at hsp hc
 omega

/-- Some of Sylow's subgroups. -/
structure Syl (n:Nat) (f:Nat→Nat→Nat) (e P:Nat) (s:Nat→Bool) (j t:Nat):Prop where
 sub:Sub n f e s
 len:(mem n s).length=P ^ j
 num:n=P ^ j * t
 non:¬ P ∣ t

/-- ALL ARE IN ONE, CONJUGATED. -/
theorem Syl.holds {j t:Nat} (hS:Syl n f e P s j t) (G:Grp n f e) (hP:isPr P) (hq:Sub n f e q) {i:Nat} (hi:(mem n q).length=P ^ i):∃ a,a < n∧∀ y,y < n→q y=true→shf n f e s a y=true:=by
 obtain ⟨c,hc⟩:=G.syl_count hP hq hi hS.sub
 by_cases h0:(mem n fun a=>decide (∀ y,y < n→shf n f e q a y=true→s y=true))=[]
 ·exfalso
  rw [h0,hS.len] at hc
  have h1:=hS.num
  rw [List.length_nil,Nat.zero_add] at hc
  have:P ^ j * t=P ^ j * (P * c):=by rw [← h1,← show P * P ^ j * c=P ^ j * (P * c) by ac_rfl]; exact hc
  have:=Nat.eq_of_mul_eq_mul_left (hP.pos j) this
  exact hS.non ⟨c,this⟩
 ·obtain ⟨a,ha⟩:=List.exists_mem_of_ne_nil _ h0
  obtain ⟨a1,a2⟩:=mem_mem.1 ha
  rw [decide_eq_true_eq] at a2
  refine ⟨iv n f e a,G.iv_lt a1,fun y hy hqy=>?_⟩
  rw [G.shf_back (G.iv_lt a1) hy,G.iv_iv a1]
  exact a2 _ (G.cjr_lt hy a1) (shf_iff.2 ⟨y,hy,hqy,rfl⟩)

theorem Syl.shf {j t:Nat} (hS:Syl n f e P s j t) (G:Grp n f e) {a:Nat} (ha:a < n):Syl n f e P (shf n f e s a) j t:=
 ⟨G.shf_sub hS.sub ha,by rw [G.shf_len ha]; exact hS.len,hS.num,hS.non⟩

/-- How many sets there are among the conjugated ones, as a list has them. -/
theorem Grp.conj_num (G:Grp n f e) (hs:Sub n f e s) {α:Type} [DecidableEq α] {code:(Nat→Bool)→α} (hcode:∀ p q:Nat→Bool,code p=code q↔∀ y,y < n→p y=q y) {L:List α} (hnd:L.Nodup)
  (hL:∀ x,x∈L↔∃ a,a < n∧x=code (Go.Proofs.YtboadfahlflmhaaDoor.shf n f e s a)):L.length * (mem n (nzr n f e s)).length=n:=by
 have h:=dbl (R:=fun a x=>decide (code (Go.Proofs.YtboadfahlflmhaaDoor.shf n f e s a)=x)) (L1:=List.range n) (L2:=L) (c1:=1) (c2:=(mem n (nzr n f e s)).length) (fun a ha=>by
  have hm:=(hL _).2 ⟨a,List.mem_range.1 ha,rfl⟩
  have:(L.filter fun w=>decide (code (Go.Proofs.YtboadfahlflmhaaDoor.shf n f e s a)=w)).length=[code (Go.Proofs.YtboadfahlflmhaaDoor.shf n f e s a)].length:=same_len (hnd.filter _) (by simp) fun x=>by
   rw [List.mem_filter,List.mem_singleton,decide_eq_true_eq]
   exact ⟨fun h=>h.2.symm,fun h=>⟨by rw [h]; exact hm,h.symm⟩⟩
  simpa using this) (fun x hx=>by
  obtain ⟨a,ha,rfl⟩:=(hL x).1 hx
  have ia:=G.iv_lt ha
  show (mem n fun b=>decide (code (Go.Proofs.YtboadfahlflmhaaDoor.shf n f e s b)=code (Go.Proofs.YtboadfahlflmhaaDoor.shf n f e s a))).length=_
  refine mem_bij (fun b=>f b (iv n f e a)) (fun b hb h=>⟨G.cl _ _ hb ia,?_⟩) (fun x y hx hy _ _ h=>G.cancel_r ia hx hy h) fun z hz h=>⟨f z a,G.cl _ _ hz ha,?_,?_⟩
  ·rw [decide_eq_true_eq,hcode] at h
   refine nzr_iff.2 fun y hy=>?_
   have hba:=G.cl _ _ hb ia
   rw [G.shf_back hba hy,G.iv_prod hb ia,G.iv_iv ha,← G.cjr_cjr hy ha (G.iv_lt hb),← G.shf_back (p:=s) hb (G.cjr_lt hy ha),h _ (G.cjr_lt hy ha),G.shf_back ha (G.cjr_lt hy ha),G.cjr_iv hy ha]
  ·rw [decide_eq_true_eq,hcode]
   intro y hy
   rw [G.shf_back (G.cl _ _ hz ha) hy,G.iv_prod hz ha,← G.cjr_cjr hy ia (G.iv_lt hz),← G.shf_back (p:=s) hz (G.cjr_lt hy ia),nzr_iff.1 h _ (G.cjr_lt hy ia),← G.shf_back (p:=s) ha hy]
  ·rw [G.assoc z a _ hz ha ia,G.mul_iv ha,G.one_r z hz])
 rw [List.length_range,Nat.mul_one] at h
 exact h.symm

end
end Go.Proofs.YtboadfahlflmhaaDoor

/-
  Plain law: how one of Sylow's subgroups is grown. Conditions: none.
-/
set_option linter.all false
namespace Go.Proofs.YtboadfahlflmhaaDoor
open Go.Pv

noncomputable def gn (n:Nat) (f:Nat→Nat→Nat) (e:Nat) (p:Nat→Bool):Nat→Bool:=Classical.choose (gen_ex n f e p)
theorem gn_iff {n:Nat} {f:Nat→Nat→Nat} {e:Nat} (p:Nat→Bool):∀ a,a < n→(gn n f e p a=true↔Gen n f e p a):=Classical.choose_spec (gen_ex n f e p)

section
variable {n:Nat} {f:Nat→Nat→Nat} {e:Nat} {p q s:Nat→Bool} {P:Nat}

end
end Go.Proofs.YtboadfahlflmhaaDoor

/-
  Plain law, FRATTINI'S ARGUMENT. Conditions: none.
-/
set_option linter.all false
namespace Go.Proofs.YtboadfahlflmhaaDoor
open Go.Pv

section
variable {n e P:Nat} {f:Nat→Nat→Nat} {q s:Nat→Bool}

theorem Syl.cong {f g:Nat→Nat→Nat} {j t:Nat} (hY:Syl n g e P s j t) (G:Grp n f e) (h:∀ a b,a < n→b < n→g a b=f a b):Syl n f e P s j t:=
 ⟨hY.sub.cong_op G h,hY.len,hY.num,hY.non⟩

end
end Go.Proofs.YtboadfahlflmhaaDoor

/-
  Nilpotent groups; classes of a quotient; the quotient by commutators. Conditions: none.
-/
set_option linter.all false
namespace Go.Proofs.YtboadfahlflmhaaDoor
open Go.Pv

section
variable {n:Nat} {f:Nat→Nat→Nat} {e:Nat}
theorem Grp.cmt_iv (G:Grp n f e) {a b:Nat} (ha:a < n) (hb:b < n):iv n f e (cmt n f e a b)=cmt n f e b a:=by
 have ia:=G.iv_lt ha
 have ib:=G.iv_lt hb
 unfold cmt
 rw [G.iv_prod (G.cl _ _ ia ib) (G.cl _ _ ha hb),G.iv_prod ia ib,G.iv_prod ha hb,G.iv_iv ha,G.iv_iv hb]

/-! ### Classes of a quotient -/

theorem lead_le {k:Nat} {r1 r2:Nat→Nat→Bool} (E1:Eqv n r1) (E2:Eqv k r2) (rep:Nat→Nat) (hr:∀ i,i < k→rep i < n) (h:∀ i j,i < k→j < k→r1 (rep i) (rep j)=true→r2 i j=true):(mem k (lead r2)).length≤(mem n (lead r1)).length:=by
 have hex:∀ i,∃ x,i < k→x < n∧lead r1 x=true∧r1 x (rep i)=true:=fun i=>by
  by_cases hi:i < k
  ·obtain ⟨x,h1,h2,h3⟩:=E1.least (hr i hi)
   exact ⟨x,fun _=>⟨h1,h2,h3⟩⟩
  ·exact ⟨0,fun h=>absurd h hi⟩
 obtain ⟨g,hg⟩:=Classical.axiomOfChoice hex
 rw [← List.length_map (f:=g) («as»:=mem k (lead r2))]
 refine List.Nodup.length_le_of_subset (nodup_map (List.nodup_range.filter _) fun i hi j hj he=>?_) fun x hx=>?_
 ·obtain ⟨i1,i2⟩:=mem_mem.1 hi
  obtain ⟨j1,j2⟩:=mem_mem.1 hj
  obtain ⟨a1,a2,a3⟩:=hg i i1
  obtain ⟨b1,b2,b3⟩:=hg j j1
  rw [← he] at b3
  exact E2.lead_eq i1 j1 i2 j2 (h i j i1 j1 (E1.trans _ _ _ (hr i i1) a1 (hr j j1) (E1.symm _ _ a1 (hr i i1) a3) b3))
 ·obtain ⟨i,hi,rfl⟩:=List.mem_map.1 hx
  obtain ⟨i1,i2⟩:=mem_mem.1 hi
  exact mem_mem.2 ⟨(hg i i1).1,(hg i i1).2.1⟩
theorem Qm.iv {k:Nat} {cl rep:Nat→Nat} (Q:Qm n f k cl rep) (G:Grp n f e) {a:Nat} (ha:a < n):iv k (qop f cl rep) (cl e) (cl a)=cl (Go.Proofs.YtboadfahlflmhaaDoor.iv n f e a):=
 ((Q.grp G).iv_unique (Q.lt a ha) (Q.lt _ (G.iv_lt ha)) (.inl (by rw [Q.op ha (G.iv_lt ha),G.mul_iv ha]))).symm
theorem Qm.cjb {k:Nat} {cl rep:Nat→Nat} (Q:Qm n f k cl rep) (G:Grp n f e) {x y:Nat} (hx:x < n) (hy:y < n) (h:cjb n f e x y=true):cjb k (qop f cl rep) (cl e) (cl x) (cl y)=true:=by
 obtain ⟨a,ha,rfl⟩:=cjb_iff.1 h
 have ia:=G.iv_lt ha
 refine cjb_iff.2 ⟨cl a,Q.lt a ha,?_⟩
 rw [Q.iv G ha,Q.op ia hx,Q.op (G.cl _ _ ia hx) ha]
/-- A quotient has no more classes. -/
theorem Qm.classes {k:Nat} {cl rep:Nat→Nat} (Q:Qm n f k cl rep) (G:Grp n f e):(mem k (lead (Go.Proofs.YtboadfahlflmhaaDoor.cjb k (qop f cl rep) (cl e)))).length≤(mem n (lead (Go.Proofs.YtboadfahlflmhaaDoor.cjb n f e))).length:=
 lead_le G.cjb_eqv (Q.grp G).cjb_eqv rep Q.rlt fun i j hi hj h=>by
  have:=Q.cjb G (Q.rlt i hi) (Q.rlt j hj) h
  rwa [Q.at_ i hi,Q.at_ j hj] at this
end
end Go.Proofs.YtboadfahlflmhaaDoor

/-
  Series of subgroups, as the program has them. Conditions: none.
-/
set_option linter.all false
namespace Go.Proofs.YtboadfahlflmhaaDoor
open Go.Pv

theorem Stp.at {n:Nat} {T:Nat→Nat→Bool} {K k:Nat} (h:Stp n T K) (hk:k≤K):bo n (T (k + 1))=bo n (T k)↔k=K:=by
 constructor
 ·intro he
  rcases Nat.lt_or_eq_of_le hk with h1 | h1
  ·exact absurd (fun a ha=>bo_inj he ha) (h.ne k h1)
  ·exact h1
 ·rintro rfl
  exact bo_congr h.eq
/-! ### Derived, Lower -/

section
variable {n e:Nat} {m:List Int}
end
/-! ### Upper -/

/-! ### An example of the document -/

end Go.Proofs.YtboadfahlflmhaaDoor

/-
  Plain law: nilpotent is just where all of Sylow's subgroups are normal; both central series are as long. Conditions: none.
-/
set_option linter.all false
namespace Go.Proofs.YtboadfahlflmhaaDoor
open Go.Pv

section
variable {n e P:Nat} {f:Nat→Nat→Nat} {p q s:Nat→Bool}

/-! ### Both series -/
section
variable {nl:(Nat→Bool)→Nat→Bool}
theorem Stp.le {T:Nat→Nat→Bool} {K k:Nat} (h:Stp n T K) (he:∀ a,a < n→T (k + 1) a=T k a):K≤k:=
 Nat.le_of_not_lt fun hh=>h.ne k hh he
end

/-! ### Sylow's subgroups of what is nilpotent -/
/-! ### A group of a power of P things, and a normal subgroup that is not all -/
/-! ### Where all of Sylow's subgroups are normal -/
theorem isPr.two {P Q:Nat} (hP:isPr P) (hQ:isPr Q) (h:P ∣ Q):P=Q:=by
 rcases hQ.div h with h1 | h1
 ·have:=hP.1; omega
 ·exact h1
/-- Normal subgroups without common things commute. -/
theorem Grp.nml_comm (G:Grp n f e) (hp:Sub n f e p) (hpn:Nml n f e p) (hq:Sub n f e q) (hqn:Nml n f e q) (h:∀ a,a < n→p a=true→q a=true→a=e) {a b:Nat} (ha:a < n) (hb:b < n) (h1:p a=true) (h2:q b=true):cmt n f e a b=e:=by
 have hc:=G.cmt_lt ha hb
 refine h _ hc (G.cmt_in hp hpn ha hb h1) ?_
 rw [← G.cmt_iv hb ha]
 exact hq.inv _ (G.cmt_lt hb ha) (G.cmt_in hq hqn hb ha h2)
end
end Go.Proofs.YtboadfahlflmhaaDoor

/-
  Plain law: all subgroups from cyclic ones on, by what two make; putting in order by changing places. Conditions: none.
-/
set_option linter.all false
namespace Go.Proofs.YtboadfahlflmhaaDoor
open Go.Pv

section
variable {n e:Nat} {f:Nat→Nat→Nat}
def oru2 (p q:Nat→Bool) (a:Nat):Bool:=p a || q a
end

/-! ### Putting in order -/
def lts (x y:Nat):Prop:=cmpS (stl x) (stl y) < 0
theorem lts_self (x:Nat):¬ lts x x:=cmpS_self _
theorem lts_trans {x y z:Nat} (h1:lts x y) (h2:lts y z):lts x z:=cmpS_trans _ _ _ h1 h2
theorem lts_asym {x y:Nat} (h1:lts x y):¬ lts y x:=fun h2=>lts_self _ (lts_trans h1 h2)
/-- Two places changed. -/
def swp (M:List Nat) (i k:Nat):List Nat:=(M.set i (M.getD k 0)).set k (M.getD i 0)
theorem swp_len (M:List Nat) (i k:Nat):(swp M i k).length=M.length:=by simp [swp]
theorem swp_get {M:List Nat} {i k:Nat} (hi:i < M.length) (hk:k < M.length) (j:Nat) (hj:j < M.length):(swp M i k).getD j 0=if j=k then M.getD i 0 else if j=i then M.getD k 0 else M.getD j 0:=by
 unfold swp
 rw [List.getD_eq_getElem?_getD,List.getElem?_set]
 by_cases h1:j=k
 ·rw [if_pos h1.symm,if_pos h1]
  simp [hk]
 ·rw [if_neg (Ne.symm h1),if_neg h1,List.getElem?_set]
  by_cases h2:j=i
  ·rw [if_pos h2.symm,if_pos h2]
   simp [hi]
  ·rw [if_neg (Ne.symm h2),if_neg h2,List.getD_eq_getElem?_getD]
structure OrdI (i k:Nat) (M:List Nat):Prop where
 out:∀ a b,a < i→a < b→b < M.length→¬ lts (M.getD b 0) (M.getD a 0)
 inn:∀ b,i < b→b < k→¬ lts (M.getD b 0) (M.getD i 0)
theorem OrdI.skip {i k:Nat} {M:List Nat} (h:OrdI i k M) (hl:¬ lts (M.getD k 0) (M.getD i 0)):OrdI i (k + 1) M:=
 ⟨h.out,fun b h1 h2=>by
  by_cases hb:b=k
  ·rw [hb]; exact hl
  ·exact h.inn b h1 (by omega)⟩
theorem OrdI.swap {i k:Nat} {M:List Nat} (h:OrdI i k M) (hik:i < k) (hk:k < M.length) (hl:lts (M.getD k 0) (M.getD i 0)):OrdI i (k + 1) (swp M i k):=by
 have hi:i < M.length:=by omega
 refine ⟨fun a b h1 h2 h3=>?_,fun b h1 h2=>?_⟩
 ·rw [swp_len] at h3
  rw [swp_get hi hk b h3,swp_get hi hk a (by omega),if_neg (show ¬ a=k by omega),if_neg (show ¬ a=i by omega)]
  by_cases hb:b=k
  ·rw [if_pos hb]; exact h.out a i h1 h1 hi
  ·rw [if_neg hb]
   by_cases hb2:b=i
   ·rw [if_pos hb2]; exact h.out a k h1 (by omega) hk
   ·rw [if_neg hb2]; exact h.out a b h1 h2 h3
 ·rw [swp_get hi hk b (by omega),swp_get hi hk i hi,if_neg (show ¬ i=k by omega),if_pos rfl]
  by_cases hb:b=k
  ·rw [if_pos hb]; exact lts_asym hl
  ·rw [if_neg hb,if_neg (show ¬ b=i by omega)]
   exact fun h3=>h.inn b h1 (by omega) (lts_trans h3 hl)
theorem OrdI.next {i:Nat} {M:List Nat} (h:OrdI i M.length M):OrdI (i + 1) (i + 2) M:=
 ⟨fun a b h1 h2 h3=>by
  by_cases ha:a=i
  ·rw [ha] at h2 ⊢; exact h.inn b h2 h3
  ·exact h.out a b (by omega) h2 h3,fun b h1 h2=>by omega⟩
end Go.Proofs.YtboadfahlflmhaaDoor

/-
  Plain: complements of a normal part (Schur and Zassenhaus, where things are few). Conditions: none.
-/
set_option linter.all false
namespace Go.Proofs.YtboadfahlflmhaaDoor

section
variable {n e:Nat} {f:Nat→Nat→Nat} {p q:Nat→Bool}
theorem Grp.meet_one (G:Grp n f e) (hq:Sub n f e q) (hp:Sub n f e p):(mem n fun y=>q y && p y).length=1↔bo n (fun y=>q y && p y)=bo n (onp e):=by
 rw [G.meet_len hq hp]
 constructor
 ·intro h
  refine bo_congr fun a ha=>?_
  rw [Bool.eq_iff_iff,Bool.and_eq_true,onp_iff]
  exact ⟨fun ⟨h1,h2⟩=>h a ha h1 h2,fun h1=>by rw [h1]; exact ⟨hq.one,hp.one⟩⟩
 ·intro h a ha h1 h2
  have h3:=congrArg (fun x=>x.testBit a) h
  simp only [bo_bit] at h3
  rw [h1,h2] at h3
  have:onp e a=true:=by simpa [ha] using h3.symm
  exact onp_iff.1 this

end
end Go.Proofs.YtboadfahlflmhaaDoor

/-
  The library's sort by a comparison, over a row of the caller's own: what it leaves. Conditions: none; a library text.
-/
set_option linter.all false
namespace Go.Pv
open Go.RowKit

theorem below_grow {w w' : World} (h:Below w.heap.size w w'):∃ q os,w' = Go.Sort.grow (w.drewN q) os:=by
 refine ⟨w'.drawn - w.drawn,w'.heap.extract w.heap.size w'.heap.size,?_⟩
 obtain ⟨h1,h2,h3,h4,h5,h6⟩:=h
 cases w with
 | mk heap tape drawn os output =>
  cases w' with
  | mk heap' tape' drawn' os' output' =>
   simp only at h1 h2 h3 h4 h5 h6
   subst h1 h2 h3
   have hh:heap' = heap++heap'.extract heap.size heap'.size:=by
    apply Array.ext_getElem?
    intro k
    by_cases hk:k < heap.size
    ·rw [Array.getElem?_append_left hk]; exact h5 k hk
    ·rw [Array.getElem?_append_right (by omega),Array.getElem?_extract]
     by_cases hk2:k < heap'.size
     ·rw [if_pos (by simp; omega),show heap.size + (k - heap.size)=k by omega]
     ·rw [if_neg (by simp; omega),Array.getElem?_eq_none (by omega)]
   have hd:drawn' = drawn + (drawn' - drawn):=by omega
   show World.mk heap' tape' drawn' os' output' = World.mk (heap++heap'.extract heap.size heap'.size) tape' (drawn + (drawn' - drawn)) os' output'
   rw [← hh,← hd]

theorem below_sortWorld {α:Type} [Inhabited α] (enc:α→Value) (w:World) (blk off m:Nat) (dk:Array α) (os:Array Obj):∀ b,b ≠ blk→b < w.heap.size→(Go.Proofs.sortWorld enc w blk off m dk os).heap[b]? = w.heap[b]?:=by
 intro b hb hs
 unfold Go.Proofs.sortWorld
 rw [Go.Sort.heap_grow_old _ _ (by simpa using hs)]
 simp only [Go.Sort.putRow,Go.Sort.mapBlock,Array.getElem?_modify]
 rw [if_neg (Ne.symm hb)]
 rfl

theorem perm_sorted_unique {lt:PV→PV→Prop} : ∀ (xs ys:List PV),xs.Perm ys→(∀ x∈xs,∀ y∈xs,¬ lt x y→¬ lt y x→x=y)→xs.Pairwise (fun x y=>¬ lt y x)→ys.Pairwise (fun x y=>¬ lt y x)→xs=ys
 | [],ys,h,_,_,_=>by simpa using h.symm.eq_nil.symm
 | x :: r,[],h,_,_,_=>by simpa using h.eq_nil
 | x :: r,y :: s,h,ha,h1,h2=>by
  have hxy:x=y:=by
   have hx:x∈y :: s:=h.mem_iff.1 (by simp)
   have hy:y∈x :: r:=h.mem_iff.2 (by simp)
   rcases List.mem_cons.1 hx with hx | hx
   ·exact hx
   ·rcases List.mem_cons.1 hy with hy' | hy'
    ·exact hy'.symm
    ·have a1:=(List.pairwise_cons.1 h1).1 y hy'
     have a2:=(List.pairwise_cons.1 h2).1 x hx
     exact ha x (by simp) y hy a2 a1
  subst hxy
  rw [perm_sorted_unique r s (List.Perm.cons_inv h) (fun a ha' b hb'=>ha a (by simp [ha']) b (by simp [hb'])) (List.pairwise_cons.1 h1).2 (List.pairwise_cons.1 h2).2]

section
variable {P:Program} {ρ:Go.Shelf.Ren}

/-- slices.SortFunc: a row of the caller's own; a pure comparison that parts whatever two things; behind it the row holds the one list that rises. -/
theorem sort_m (L:Go.Proofs.SlLaysF.n6 P ρ) {g:FuncId} {cap:List PV} (xs ys:List PV) (cf:PV→PV→Int) (hne:xs ≠ []) (hone:∀ x∈xs,x.one=true)
  (irr:∀ x∈xs,¬ cf x x < 0) (tr:∀ x∈xs,∀ y∈xs,∀ z∈xs,cf x y < 0→cf y z < 0→cf x z < 0) (ntr:∀ x∈xs,∀ y∈xs,∀ z∈xs,¬ cf x y < 0→¬ cf y z < 0→¬ cf x z < 0)
  (anti:∀ x∈xs,∀ y∈xs,¬ cf x y < 0→¬ cf y x < 0→x=y) (hc:∀ x∈xs,∀ y∈xs,FnC P g (x :: y :: cap) (.int .i64 (cf x y)))
  (hperm:xs.Perm ys) (hs:ys.Pairwise fun x y=>¬ cf y x < 0) (hlen:xs.length < 4611686018427387904) :
  FnM P (ρ.f 6) [.sl 0 0 xs.length,.p (.fn g cap)] [.own (opl xs)] (.p (.tup [])) [.own (opl ys)]:=by
 have hpos:0 < xs.length:=List.length_pos_iff.2 hne
 refine ⟨?_,fun C m w vals R=>?_⟩
 ·obtain ⟨nm,h1,h2⟩:=L.f6
  exact ⟨_,h2,h1,rfl⟩
 have hsz:vals.size=2:=R.size
 have s0:=R.slot 0
 have s1:=R.slot 1
 simp only [St.get,entA,lk,BEq.rfl,cond_true,show ((0:Nat) == 1)=false from rfl,cond_false] at s0 s1
 generalize hv0:vals.getD 0 undef=v0 at s0
 generalize hv1:vals.getD 1 undef=v1 at s1
 have hvals:vals = #[v0,v1]:=by
  apply Array.ext
  ·simpa using hsz
  ·intro i h1 h2
   simp only [Array.getD_eq_getD_getElem?] at hv0 hv1
   match i,h2 with
   | 0,_=>rw [Array.getElem?_eq_getElem h1] at hv0; simpa using hv0
   | 1,_=>rw [Array.getElem?_eq_getElem h1] at hv1; simpa using hv1
 subst hvals
 have s1:=s1.p_inv
 cases s1 with
 | fn _ _ vs hcl hcr =>
 cases s0 with
 | sl _ _ _ _ hk0 h0 =>
 rcases h0 with ⟨h0,_⟩ | ⟨l,cp,hm,rfl,hle,hlo⟩
 ·omega
 rcases R.blk 0 (opl xs) rfl with ⟨hx,_⟩ | ⟨l',cur,e,hm',hB,hg,hcs,hmx,hol,hcell⟩
 ·exact absurd (show xs=[] by simpa [opl] using hx) hne
 rw [hm] at hm'; cases hm'
 rw [opl_length] at hol
 generalize hok:OK C m ([.own (opl xs)]++ancs 0 [Blk.own (opl xs)].length) w=ok at *
 have hokne:∀ b,ok b→b ≠ l.g:=fun b hb=>by
  subst hok
  exact fun e=>hb.2.2 0 _ l rfl hm e.symm
 have hoklt:∀ b,ok b→b < w.heap.size:=fun b hb=>by subst hok; exact hb.2.1
 have hblk:l.g < w.heap.size:=(Array.getElem?_eq_some_iff.1 hg).1
 have hrd:∀ j (h:j < xs.length),Reads ok w xs[j] (cur.getD (l.o + j) undef):=fun j h=>by
  have:=hcell j (by rw [opl_length]; exact h)
  simp only [opl,List.getElem_map] at this
  subst hok
  exact this.p_inv
 let α:={p:PV × Value // p.1∈xs∧Reads ok w p.1 p.2}
 have inh:α:=⟨(xs[0],cur.getD (l.o + 0) undef),List.getElem_mem hpos,hrd 0 hpos⟩
 letI:Inhabited α:=⟨inh⟩
 let enc:α→Value:=fun x=>x.1.2
 let cf' : α→α→Int:=fun x y=>cf x.1.1 y.1.1
 let d:Array α:=Array.ofFn fun j:Fin xs.length=>(⟨(xs[j],cur.getD (l.o + j) undef),List.getElem_mem j.2,hrd j j.2⟩:α)
 have hd:d.size=xs.length:=by simp [d]
 have hdj:∀ j (h:j < xs.length),d[j]! = (⟨(xs[j],cur.getD (l.o + j) undef),List.getElem_mem h,hrd j h⟩:α):=fun j h=>by
  rw [getElem!_pos d j (by omega)]
  simp [d]
 have h1:Go.Proofs.OneCell enc:=fun x=>(Reads.one x.2.2 (hone _ x.2.1)).1
 have hO:Go.Sort.SWO (Go.Proofs.ltOf cf'):=by
  refine ⟨fun x=>?_,fun x y z h1 h2=>?_,fun x y z h1 h2=>?_⟩
  ·exact decide_eq_false (irr _ x.2.1)
  ·exact decide_eq_true (tr _ x.2.1 _ y.2.1 _ z.2.1 (of_decide_eq_true h1) (of_decide_eq_true h2))
  ·exact decide_eq_false (ntr _ x.2.1 _ y.2.1 _ z.2.1 (of_decide_eq_false h1) (of_decide_eq_false h2))
 have hH:Go.Sort.Holds enc w l.g (l.o + 0) d:=fun j hj=>by
  rw [hd] at hj
  have hjc:l.o + j < cur.size:=by omega
  refine ⟨?_,?_⟩
  ·rw [hdj j hj]
   show w.cell? ⟨l.g,l.o + 0 + j,none⟩=some (cur.getD (l.o + j) undef)
   simp only [World.cell?,hg,Nat.add_zero]
   simp [Array.getD_eq_getD_getElem?,Array.getElem?_eq_getElem hjc]
  ·simp [World.frozen?,hg]
 have eg:∀ args w,(callFunc g args).run P w = .ok (.enter g args) w:=by
  obtain ⟨fn,f1,f2,f3⟩:=(hc _ (List.getElem_mem hpos) _ (List.getElem_mem hpos)).1
  obtain ⟨c,hcb⟩:=Option.ne_none_iff_exists'.1 (show fn.body ≠ none by intro e; rw [e] at f3; simp at f3)
  exact Go.Proofs.enters_of f1 f2 hcb
 have hcmp:Go.Proofs.CmpLays1 P g vs enc cf' l.g (l.o + 0) d.size w:=fun m1 os dk hs x y=>by
  have hheap:∀ b,ok b→(Go.Proofs.sortWorld enc w l.g (l.o + 0) m1 dk os).heap[b]? = w.heap[b]?:=fun b hb=>below_sortWorld enc w l.g _ m1 dk os b (hokne b hb) (hoklt b hb)
  have hsw:w.heap.size≤(Go.Proofs.sortWorld enc w l.g (l.o + 0) m1 dk os).heap.size:=by simp [Go.Proofs.sortWorld]
  refine ((hc _ x.2.1 _ y.2.1).2 ok _ (#[enc x,enc y]++vs) ⟨fun b hb=>Nat.lt_of_lt_of_le (hoklt b hb) hsw,fun gg ll hgg=>?_⟩ (by simp [hcl]; omega) fun i hi=>?_).mono fun e' w2 ⟨v,he,hbl,hv⟩=>?_
  ·have:=R.laid gg ll hgg
   rw [hok] at this
   exact this.ext (fun _ h=>h) hheap
  ·match i,hi with
   | 0,_ =>
    have e0:(#[enc x,enc y]++vs).getD 0 undef=enc x:=by simp [Array.getD_eq_getD_getElem?,Array.getElem?_append]
    rw [e0]
    exact x.2.2.ext (fun _ h=>h) hheap
   | 1,_ =>
    have e0:(#[enc x,enc y]++vs).getD 1 undef=enc y:=by simp [Array.getD_eq_getD_getElem?,Array.getElem?_append]
    rw [e0]
    exact y.2.2.ext (fun _ h=>h) hheap
   | i + 2,hi =>
    have hi' : i < cap.length:=by simpa using hi
    have e2:(#[enc x,enc y]++vs).getD (i + 2) undef=vs.getD i undef:=by
     simp only [Array.getD_eq_getD_getElem?]
     rw [Array.getElem?_append_right (by simp)]
     simp
    rw [e2]
    exact (hcr i hi').ext (fun _ h=>h) hheap
  ·subst he
   cases hv
   exact ⟨rfl,below_grow hbl⟩
 have hcall:=Go.Proofs.Any.slices_SortFunc L enc h1 cf' hO g vs l.g (l.o + 0) cp d w eg hcmp hH hblk (by omega)
 rw [hd] at hcall
 refine hcall.mono fun e2 w2 ⟨he,d',n,os,hp,hso,hw⟩=>?_
 subst he
 refine ⟨.tuple #[],m,rfl,?_⟩
 have hs' : d'.size=xs.length:=by rw [hp.1,hd]
 have hdl:d.toList.map (fun x=>x.1.1)=xs:=by
  apply List.ext_getElem
  ·simp [d]
  ·intro i h1 h2
   simp [d]
 have hperm2:(d'.toList.map fun x=>x.1.1).Perm xs:=by
  have:=hp.2.2
  rw [← hd,Array.extract_size] at this
  have h3:d'.extract 0 d.size=d':=by rw [hd,← hs',Array.extract_size]
  rw [h3] at this
  have h4:=this.map (fun x:α=>x.1.1)
  rwa [hdl] at h4
 have hys:d'.toList.map (fun x=>x.1.1)=ys:=by
  refine perm_sorted_unique (lt:=fun x y=>cf x y < 0) _ _ (hperm2.trans hperm) (fun x hx y hy=>anti x (hperm2.mem_iff.1 hx) y (hperm2.mem_iff.1 hy)) ?_ hs
  rw [List.pairwise_iff_getElem]
  intro i j hi hj hij
  simp only [List.length_map,Array.length_toList] at hi hj
  have:=hso i j (Nat.zero_le _) hij (by omega)
  rw [getElem!_pos d' i hi,getElem!_pos d' j hj] at this
  simpa using of_decide_eq_false this
 have hyl:ys.length=xs.length:=hperm.length_eq.symm
 
 have R1:Rel C m ⟨2,entA 0 [.sl 0 0 xs.length,.p (.fn g cap)],hset ([.own (opl xs)]++ancs 0 [Blk.own (opl xs)].length) 0 (.own (opl ys))⟩ #[.slice (some ⟨l.g,l.o + 0,none⟩) xs.length cp,.func (.func g) #[] vs] (Go.Sort.putRow enc (Go.Sort.ahead w n) l.g (l.o + 0) d'):=by
  refine R.setBlk (a:={ tmps:=#[.slice (some ⟨l.g,l.o + 0,none⟩) xs.length cp,.func (.func g) #[] vs],defers:=[] }) (c:=opl xs) rfl hm ⟨rfl,rfl,rfl,by simp,fun k hk=>?_,by simp⟩ (fun b hb=>?_) (cur:=Go.Sort.putCells enc (l.o + 0) d' cur) (e:=e) ?_ (by simp [Go.Sort.putCells,hcs]) (by rw [opl_length]; omega) fun j hj=>?_
  ·simp only [Go.Sort.putRow,Go.Sort.mapBlock,Array.getElem?_modify]
   rw [if_neg (fun e=>hk (by rw [← e]; exact hB))]; rfl
  ·simp only [Go.Sort.putRow,Go.Sort.mapBlock,Array.getElem?_modify]
   rw [if_neg (Ne.symm hb)]; rfl
  ·simp only [Go.Sort.putRow,Go.Sort.mapBlock,Array.getElem?_modify]
   rw [if_pos trivial]
   show Option.map _ (w.heap[l.g]?)=_
   rw [hg]; rfl
  ·rw [opl_length] at hj
   have hjd:j < d'.size:=by omega
   have hjc:l.o + j < cur.size:=by omega
   have e3:(Go.Sort.putCells enc (l.o + 0) d' cur).getD (l.o + j) undef=enc d'[j]:=by
    simp only [Go.Sort.putCells,Array.getD_eq_getD_getElem?,Array.getElem?_mapIdx,Array.getElem?_eq_getElem hjc,Option.map_some,Option.getD_some]
    rw [if_pos ⟨by omega,by omega⟩,show l.o + j - (l.o + 0)=j by omega,getElem!_pos d' j hjd]
   rw [e3]
   have e4:ys[j]=d'[j].1.1:=by
    have:=hys
    subst this
    simp
   have e5:(opl ys)[j]'(by rw [opl_length]; exact hj) = .p ys[j]:=by simp [opl]
   rw [e5,e4]
   have h6:=d'[j].2.2
   refine .p _ _ ?_
   show Reads (OK C m ([.own (opl xs)]++ancs 0 [Blk.own (opl xs)].length) w) w _ _
   rw [hok]
   exact h6
 have R2:=R1.later (w':=w2) (by
  rw [hw]
  refine ⟨rfl,rfl,rfl,by simp [Go.Proofs.sortWorld],fun k hk=>?_,Nat.le_refl _⟩
  unfold Go.Proofs.sortWorld
  exact Go.Sort.heap_grow_old _ _ hk)
 exact ⟨R2.laid,R2.below,R2.base,rfl,R2.inj,R2.blk,R2.fro,fun t=>by
  cases t with
  | zero=>exact .p _ _ (.tup [] #[] rfl fun c h=>absurd h (by simp))
  | succ t=>exact .dead _,R2.mp⟩

end
end Go.Pv

/-
  Contracts of the library, laid at this dump: numbers, and that each body is the same. Conditions: none; written by a program of this repo out of the kit's own tool.
-/
set_option linter.all false
namespace Go.Proofs
open Go.Shelf
def Tryd.sortL_ren:Go.Shelf.Ren:=⟨fun | 6=>81 | 15=>133 | 14=>132 | 28=>159 | 29=>160 | 20=>151 | 21=>152 | 22=>153 | 23=>154 | 24=>155 | 25=>156 | 26=>157 | 27=>158 | 46=>173 | 47=>174 | 48=>175 | 49=>176 | 50=>177 | 57=>189 | n=>n,fun | 22=>25 | 24=>22 | 25=>86 | 3=>3 | 39=>107 | 0=>0 | 53=>127 | 55=>93 | 4=>4 | 46=>120 | 45=>119 | 50=>124 | 5=>5 | 9=>9 | 66=>137 | 70=>141 | 76=>150 | 77=>151 | n=>n,fun | n=>n⟩
theorem Tryd.sortL : Go.Proofs.SlLaysF.n6 Tryd.prog Tryd.sortL_ren := {
  mixed := by kernel_rfl
  f6 := ⟨Tryd.f81.name, by decide, Tryd.func81.trans (congrArg some (by kernel_rfl))⟩
  f14 := ⟨Tryd.f132.name, by decide, Tryd.func132.trans (congrArg some (by kernel_rfl))⟩
  f15 := Tryd.func133.trans (congrArg some (by kernel_rfl))
  f20 := ⟨Tryd.f151.name, by decide, Tryd.func151.trans (congrArg some (by kernel_rfl))⟩
  f21 := ⟨Tryd.f152.name, by decide, Tryd.func152.trans (congrArg some (by kernel_rfl))⟩
  f22 := ⟨Tryd.f153.name, by decide, Tryd.func153.trans (congrArg some (by kernel_rfl))⟩
  f23 := ⟨Tryd.f154.name, by decide, Tryd.func154.trans (congrArg some (by kernel_rfl))⟩
  f24 := ⟨Tryd.f155.name, by decide, Tryd.func155.trans (congrArg some (by kernel_rfl))⟩
  f25 := ⟨Tryd.f156.name, by decide, Tryd.func156.trans (congrArg some (by kernel_rfl))⟩
  f26 := ⟨Tryd.f157.name, by decide, Tryd.func157.trans (congrArg some (by kernel_rfl))⟩
  f27 := ⟨Tryd.f158.name, by decide, Tryd.func158.trans (congrArg some (by kernel_rfl))⟩
  f28 := Tryd.func159.trans (congrArg some (by kernel_rfl))
  f29 := Tryd.func160.trans (congrArg some (by kernel_rfl))
  f46 := ⟨Tryd.f173.name, by decide, Tryd.func173.trans (congrArg some (by kernel_rfl))⟩
  f47 := Tryd.func174.trans (congrArg some (by kernel_rfl))
  f48 := Tryd.func175.trans (congrArg some (by kernel_rfl))
  f49 := ⟨Tryd.f176.name, by decide, Tryd.func176.trans (congrArg some (by kernel_rfl))⟩
  f50 := ⟨Tryd.f177.name, by decide, Tryd.func177.trans (congrArg some (by kernel_rfl))⟩
  f57 := ⟨Tryd.f189.name, by decide, Tryd.func189.trans (congrArg some (by kernel_rfl))⟩
  t0 := Tryd.underlying0
  a0 := Tryd.isAgg0
  z0 := Tryd.sizeOf0
  v0 := Tryd.zeroValue0
  t3 := Tryd.underlying3
  a3 := Tryd.isAgg3
  z3 := Tryd.sizeOf3
  v3 := Tryd.zeroValue3
  t4 := Tryd.underlying4
  a4 := Tryd.isAgg4
  z4 := Tryd.sizeOf4
  v4 := Tryd.zeroValue4
  t5 := Tryd.underlying5
  a5 := Tryd.isAgg5
  z5 := Tryd.sizeOf5
  v5 := Tryd.zeroValue5
  t9 := Tryd.underlying9
  a9 := Tryd.isAgg9
  z9 := Tryd.sizeOf9
  v9 := Tryd.zeroValue9
  t22 := Tryd.underlying25
  a22 := Tryd.isAgg25
  z22 := Tryd.sizeOf25
  v22 := Tryd.zeroValue25
  a24 := Tryd.isAgg22
  z24 := Tryd.sizeOf22
  t25 := Tryd.underlying86
  a25 := Tryd.isAgg86
  z25 := Tryd.sizeOf86
  v25 := Tryd.zeroValue86
  t39 := Tryd.underlying107
  a39 := Tryd.isAgg107
  z39 := Tryd.sizeOf107
  v39 := Tryd.zeroValue107
  t45 := Tryd.underlying119
  a45 := Tryd.isAgg119
  z45 := Tryd.sizeOf119
  v45 := Tryd.zeroValue119
  t46 := Tryd.underlying120
  a46 := Tryd.isAgg120
  z46 := Tryd.sizeOf120
  v46 := Tryd.zeroValue120
  t50 := Tryd.underlying124
  a50 := Tryd.isAgg124
  z50 := Tryd.sizeOf124
  v50 := Tryd.zeroValue124
  t53 := Tryd.underlying127
  a53 := Tryd.isAgg127
  z53 := Tryd.sizeOf127
  v53 := Tryd.zeroValue127
  t55 := Tryd.underlying93
  a55 := Tryd.isAgg93
  z55 := Tryd.sizeOf93
  v55 := Tryd.zeroValue93
  t66 := Tryd.underlying137
  a66 := Tryd.isAgg137
  z66 := Tryd.sizeOf137
  v66 := Tryd.zeroValue137
  t70 := Tryd.underlying141
  a70 := Tryd.isAgg141
  z70 := Tryd.sizeOf141
  v70 := Tryd.zeroValue141
  t76 := Tryd.underlying150
  a76 := Tryd.isAgg150
  z76 := Tryd.sizeOf150
  v76 := Tryd.zeroValue150
  t77 := Tryd.underlying151
  a77 := Tryd.isAgg151
  z77 := Tryd.sizeOf151
  v77 := Tryd.zeroValue151 }
def Tryd.sortS_ren:Go.Shelf.Ren:=⟨fun | 6=>147 | 15=>133 | 14=>172 | 28=>159 | 29=>160 | 20=>181 | 21=>182 | 22=>183 | 23=>184 | 24=>185 | 25=>186 | 26=>187 | 27=>188 | 46=>191 | 47=>174 | 48=>175 | 49=>192 | 50=>193 | 57=>194 | n=>n,fun | 22=>99 | 24=>94 | 25=>117 | 3=>3 | 39=>107 | 0=>0 | 53=>127 | 55=>93 | 4=>4 | 46=>120 | 45=>119 | 50=>124 | 5=>5 | 9=>9 | 66=>137 | 70=>141 | 76=>150 | 77=>151 | n=>n,fun | n=>n⟩
theorem Tryd.sortS : Go.Proofs.SlLaysF.n6 Tryd.prog Tryd.sortS_ren := {
  mixed := by kernel_rfl
  f6 := ⟨Tryd.f147.name, by decide, Tryd.func147.trans (congrArg some (by kernel_rfl))⟩
  f14 := ⟨Tryd.f172.name, by decide, Tryd.func172.trans (congrArg some (by kernel_rfl))⟩
  f15 := Tryd.func133.trans (congrArg some (by kernel_rfl))
  f20 := ⟨Tryd.f181.name, by decide, Tryd.func181.trans (congrArg some (by kernel_rfl))⟩
  f21 := ⟨Tryd.f182.name, by decide, Tryd.func182.trans (congrArg some (by kernel_rfl))⟩
  f22 := ⟨Tryd.f183.name, by decide, Tryd.func183.trans (congrArg some (by kernel_rfl))⟩
  f23 := ⟨Tryd.f184.name, by decide, Tryd.func184.trans (congrArg some (by kernel_rfl))⟩
  f24 := ⟨Tryd.f185.name, by decide, Tryd.func185.trans (congrArg some (by kernel_rfl))⟩
  f25 := ⟨Tryd.f186.name, by decide, Tryd.func186.trans (congrArg some (by kernel_rfl))⟩
  f26 := ⟨Tryd.f187.name, by decide, Tryd.func187.trans (congrArg some (by kernel_rfl))⟩
  f27 := ⟨Tryd.f188.name, by decide, Tryd.func188.trans (congrArg some (by kernel_rfl))⟩
  f28 := Tryd.func159.trans (congrArg some (by kernel_rfl))
  f29 := Tryd.func160.trans (congrArg some (by kernel_rfl))
  f46 := ⟨Tryd.f191.name, by decide, Tryd.func191.trans (congrArg some (by kernel_rfl))⟩
  f47 := Tryd.func174.trans (congrArg some (by kernel_rfl))
  f48 := Tryd.func175.trans (congrArg some (by kernel_rfl))
  f49 := ⟨Tryd.f192.name, by decide, Tryd.func192.trans (congrArg some (by kernel_rfl))⟩
  f50 := ⟨Tryd.f193.name, by decide, Tryd.func193.trans (congrArg some (by kernel_rfl))⟩
  f57 := ⟨Tryd.f194.name, by decide, Tryd.func194.trans (congrArg some (by kernel_rfl))⟩
  t0 := Tryd.underlying0
  a0 := Tryd.isAgg0
  z0 := Tryd.sizeOf0
  v0 := Tryd.zeroValue0
  t3 := Tryd.underlying3
  a3 := Tryd.isAgg3
  z3 := Tryd.sizeOf3
  v3 := Tryd.zeroValue3
  t4 := Tryd.underlying4
  a4 := Tryd.isAgg4
  z4 := Tryd.sizeOf4
  v4 := Tryd.zeroValue4
  t5 := Tryd.underlying5
  a5 := Tryd.isAgg5
  z5 := Tryd.sizeOf5
  v5 := Tryd.zeroValue5
  t9 := Tryd.underlying9
  a9 := Tryd.isAgg9
  z9 := Tryd.sizeOf9
  v9 := Tryd.zeroValue9
  t22 := Tryd.underlying99
  a22 := Tryd.isAgg99
  z22 := Tryd.sizeOf99
  v22 := Tryd.zeroValue99
  a24 := Tryd.isAgg94
  z24 := Tryd.sizeOf94
  t25 := Tryd.underlying117
  a25 := Tryd.isAgg117
  z25 := Tryd.sizeOf117
  v25 := Tryd.zeroValue117
  t39 := Tryd.underlying107
  a39 := Tryd.isAgg107
  z39 := Tryd.sizeOf107
  v39 := Tryd.zeroValue107
  t45 := Tryd.underlying119
  a45 := Tryd.isAgg119
  z45 := Tryd.sizeOf119
  v45 := Tryd.zeroValue119
  t46 := Tryd.underlying120
  a46 := Tryd.isAgg120
  z46 := Tryd.sizeOf120
  v46 := Tryd.zeroValue120
  t50 := Tryd.underlying124
  a50 := Tryd.isAgg124
  z50 := Tryd.sizeOf124
  v50 := Tryd.zeroValue124
  t53 := Tryd.underlying127
  a53 := Tryd.isAgg127
  z53 := Tryd.sizeOf127
  v53 := Tryd.zeroValue127
  t55 := Tryd.underlying93
  a55 := Tryd.isAgg93
  z55 := Tryd.sizeOf93
  v55 := Tryd.zeroValue93
  t66 := Tryd.underlying137
  a66 := Tryd.isAgg137
  z66 := Tryd.sizeOf137
  v66 := Tryd.zeroValue137
  t70 := Tryd.underlying141
  a70 := Tryd.isAgg141
  z70 := Tryd.sizeOf141
  v70 := Tryd.zeroValue141
  t76 := Tryd.underlying150
  a76 := Tryd.isAgg150
  z76 := Tryd.sizeOf150
  v76 := Tryd.zeroValue150
  t77 := Tryd.underlying151
  a77 := Tryd.isAgg151
  z77 := Tryd.sizeOf151
  v77 := Tryd.zeroValue151 }
end Go.Proofs

/-
  All subgroups, as the program has them: AllOf, All, Frattini. Conditions: none.
-/
set_option linter.all false
namespace Go.Proofs.YtboadfahlflmhaaDoor
open Go.Pv

def ul (L:List Nat):List PV:=L.map fun (x:Nat)=>PV.int .u64 (x:Int)
theorem ul_length (L:List Nat):(ul L).length=L.length:=by simp [ul]
theorem ul_get {L:List Nat} {i:Nat} (h:i < L.length):(ul L).getD i default = .int .u64 ((L.getD i 0:Nat):Int):=by
 simp [ul,List.getD,List.getElem?_eq_getElem h]
theorem oul_get {L:List Nat} {i:Nat} (h:i < L.length) (d:AV):(opl (ul L)).getD i d = .p (.int .u64 ((L.getD i 0:Nat):Int)):=by
 simp [opl,ul,List.getD,List.getElem?_eq_getElem h]
theorem ul_one (L:List Nat):∀ x∈ul L,x.one=true:=fun x hx=>by
 obtain ⟨y,_,rfl⟩:=List.mem_map.1 hx; rfl
theorem ul_all (L:List Nat):(ul L).all PV.one=true:=List.all_eq_true.2 (ul_one L)
theorem oul_ok (L:List Nat):(opl (ul L)).all cellOk=true:=opl_ok (ul_all L)
theorem ul_snoc (L:List Nat) (x:Nat):ul L++[.int .u64 (x:Int)]=ul (L++[x]):=by simp [ul]
theorem oul_snoc (L:List Nat) (x:Nat):opl (ul L)++[.p (.int .u64 (x:Int))]=opl (ul (L++[x])):=by simp [ul,opl]
theorem oul_take (L:List Nat):(opl (ul L)).take L.length=opl (ul L):=List.take_of_length_le (by rw [opl_length,ul_length]; exact Nat.le_refl _)
/-- Keys. -/
def kl (L:List Nat):List Int:=L.map fun (x:Nat)=>(x:Int)
theorem mem_kl {L:List Nat} {x:Nat} : (x:Int)∈kl L↔x∈L:=by
 unfold kl
 rw [List.mem_map]
 constructor
 ·rintro ⟨y,hy,he⟩
  have:y=x:=by omega
  rwa [this] at hy
 ·exact fun h=>⟨x,h,rfl⟩
theorem kl_snoc (L:List Nat) (x:Nat):kl (L++[x])=kl L++[(x:Int)]:=by simp [kl]
def tt:Int→PV:=fun _=>.bool true

def cfA:PV→PV→Int
 | .int _ x,.int _ y=>cmpS (stl x.toNat) (stl y.toNat)
 | _,_=>0
theorem getD_snoc {L:List Nat} {x j:Nat} (hj:j < L.length):(L++[x]).getD j 0=L.getD j 0:=by
 rw [List.getD_eq_getElem?_getD,List.getElem?_append_left hj,← List.getD_eq_getElem?_getD]
theorem getD_memN {L:List Nat} {j:Nat} (hj:j < L.length):L.getD j 0∈L:=by
 rw [List.getD_eq_getElem?_getD,List.getElem?_eq_getElem hj]; exact List.getElem_mem hj
theorem mem_getDN {L:List Nat} {x:Nat} (hx:x∈L):∃ j,j < L.length∧L.getD j 0=x:=by
 obtain ⟨j,hj,rfl⟩:=List.getElem_of_mem hx
 exact ⟨j,hj,by rw [List.getD_eq_getElem?_getD,List.getElem?_eq_getElem hj]; rfl⟩

section
variable {n e:Nat} {m:List Int}

/-- Where the search stands: at row i, things below a are done. -/
structure Srch (n:Nat) (f:Nat→Nat→Nat) (e:Nat) (i:Nat) (L:List Nat):Prop where
 inv:AllI n f e L
 done:∀ j,j < i→∀ a,a < n→Dn n f e (L.getD j 0) a L

set_option maxHeartbeats 4000000 in
set_option maxRecDepth 100000 in
theorem allOf_c (h : GT n m n e) (hn : n ≤ 24) {SL : List Nat} (hS : AllS n (op m n) e SL) : FnC Tryd.prog 116 [gp n m] (.list (ul SL)) := by
  have G := h.2.2
  have hb := h.2.1.big
  have hbt : ∀ p, bo n p < 2 ^ 64 := fun p => bo_lt64 hb p
  have h24 : 2 ^ n ≤ 16777216 := Nat.le_trans (Nat.pow_le_pow_right (by omega) hn) (by decide)
  have hd0 := mpd_set [] ((bo n (onp e) : Nat) : Int)
  have hv0 := mpv_set [] ((bo n (onp e) : Nat) : Int) tt
  rw [← mpd_nil] at hd0
  rw [← mpv_nil] at hv0
  have hk0 : kl [bo n (onp e)] = [] ++ [((bo n (onp e) : Nat) : Int)] := rfl
  refine fnc_of tab_ok Tryd.func116 rfl (by kernel_rfl) (by rw [Tryd.ntmps116]; exact Nat.le_add_left 1 _) ?_; rw [Tryd.ntmps116]
  refine qm ?_
  refine hk_region fun K hK => runs_eval tab_ok ?_
  simp only [ev0, evA, evB, evP, fl, gp, tab, simprocAttr, reduceCtorEq, reduceIte]
  refine fin_run ?_ (hK _ ?_) <;> clear hK <;> clear K
  · (first | exact trivial | omega | (simp only [In64] at *; omega) | (simp [In64] at *; omega) | (simp_all; done) | skip)
  refine qa (qm ?_)
  refine hk_region fun K hK => runs_eval tab_ok ?_
  simp only [ev0, evA, evB, evP, fl, gp, tab, simprocAttr, reduceCtorEq, reduceIte]
  refine fin_stop trivial (runs_call (grow_c h 0 (Nat.pow_pos (by omega)) (onp e) onp_gen) rfl rfl rfl (by simp only [dstOk, Nat.reduceLT]) (by repeat (first | exact trivial | constructor)) (runs_op (buildOwn_does (n := 1) (l := [.int .u64 ((bo n (onp e) : Nat) : Int)]) tab_ok rfl rfl rfl rfl rfl rfl rfl ⟨⟨rfl, rfl, rfl⟩, trivial⟩ rfl (by decide) rfl) rfl (show (10 : Nat) < 56 by decide) (runs_eval tab_ok ?_)))
  simp only [ev0, evA, evB, evP, fl, gp, tab, simprocAttr, reduceCtorEq, reduceIte]
  refine fin_run ?_ (hK _ ?_) <;> clear hK <;> clear K
  · trivial
  refine qa (qm ?_)
  refine hk_region fun K hK => runs_eval tab_ok ?_
  simp only [ev0, evA, evB, evP, fl, gp, tab, simprocAttr, reduceCtorEq, reduceIte, (show ∀ d : AV, (opl [PV.int .u64 ((bo n (onp e) : Nat) : Int)]).getD 0 d = .p (.int .u64 ((bo n (onp e) : Nat) : Int)) from fun _ => rfl)]
  refine fin_stop ?_ (runs_op (insert_does tab_ok rfl rfl rfl (by exact ⟨rfl, rfl⟩)) rfl (by simp only [dstOk, Nat.reduceLT]) (runs_eval tab_ok ?_))
  · (first | exact trivial | omega | (simp only [In64] at *; omega) | (simp [In64] at *; omega) | (simp_all; done) | skip)
  simp only [ev0, evA, evB, evP, fl, gp, tab, simprocAttr, reduceCtorEq, reduceIte, (show ∀ d : AV, (opl [PV.int .u64 ((bo n (onp e) : Nat) : Int)]).getD 0 d = .p (.int .u64 ((bo n (onp e) : Nat) : Int)) from fun _ => rfl)]
  refine fin_run ?_ (hK _ ?_) <;> clear hK <;> clear K
  · (first | exact trivial | omega | (simp only [In64] at *; omega) | (simp [In64] at *; omega) | (simp_all; done) | skip)
  refine qa (qm (qm ?_))
  refine hk_region fun K hK => runs_eval tab_ok ?_
  simp only [ev0, evA, evB, evP, fl, gp, tab, simprocAttr, reduceCtorEq, reduceIte]
  refine fin_run trivial (hK _ ?_) <;> clear hK <;> clear K
  refine qa (ql ?_)
  refine hk_loop (ι := Nat × List Nat) (fun p => ⟨56, [(1, .ptr 0 0), (3, .sl 1 0 p.2.length), (4, .mptr 2), (5, .p (.int .i64 p.1))], [.own [.p (.int .i64 n), .p (.list (il m))], .own (opl (ul p.2)), .mp .u64 (mpd (kl p.2)) (mpv (kl p.2) tt)]⟩) (fun p => p.1 ≤ p.2.length ∧ Srch n (op m n) e p.1 p.2) (fun p => 2 ^ n - p.1) (0, [bo n (onp e)]) ⟨Nat.zero_le _, ⟨by simp, fun x hx => by rw [List.mem_singleton] at hx; exact ⟨_, G.onp_sub, hx⟩, by simp⟩, fun j hj => by omega⟩ [0, 1, 2] (by simp only [hk0, ← hd0, ← hv0]; simp only [leq, leA, ev0, evA, evB, evP, fl, gp, tab, simprocAttr, reduceCtorEq, reduceIte] <;> first | trivial | exact ⟨rfl, rfl⟩ | rfl) fun p hp => ?_
  obtain ⟨i, L⟩ := p
  obtain ⟨hi, hI, hD⟩ := hp
  simp only at hi hI hD
  have hLn := hI.len
  refine qm (qm ?_)
  refine hk_region fun K hK => runs_eval tab_ok ?_
  simp only [ev0, evA, evB, evP, fl, gp, tab, simprocAttr, reduceCtorEq, reduceIte]
  refine fin_run trivial (hK _ ?_) <;> clear hK <;> clear K
  refine qa ?_
  refine hk_cond rfl (fun hC1 => ?_) (fun hC1 => ?_)
  · (try simp only [nhs] at hC1)
    have hlt : i < L.length := by omega
    have hxm := getD_memN hlt
    obtain ⟨p, hp, hx⟩ := hI.subs _ hxm
    refine qh (qa (qm (ql (qm ?_))))
    refine hk_region fun K hK => runs_eval tab_ok ?_
    simp only [ev0, evA, evB, evP, fl, gp, tab, simprocAttr, reduceCtorEq, reduceIte]
    refine fin_run ?_ (hK _ ?_) <;> clear hK <;> clear K
    · (first | exact trivial | omega | (simp only [In64] at *; omega) | (simp [In64] at *; omega) | (simp_all; done) | skip)
    refine qa (ql ?_)
    refine hk_loop (ι := Nat × List Nat) (fun q => ⟨56, [(1, .ptr 0 0), (3, .sl 1 0 q.2.length), (4, .mptr 2), (5, .p (.int .i64 i)), (23, .p (.int .i64 n)), (24, .p (.int .i64 q.1))], [.own [.p (.int .i64 n), .p (.list (il m))], .own (opl (ul q.2)), .mp .u64 (mpd (kl q.2)) (mpv (kl q.2) tt)]⟩) (fun q => q.1 ≤ n ∧ i < q.2.length ∧ q.2.getD i 0 = bo n p ∧ Srch n (op m n) e i q.2 ∧ ∀ b, b < q.1 → Dn n (op m n) e (bo n p) b q.2) (fun q => n - q.1) (0, L) ⟨Nat.zero_le _, hlt, hx, ⟨hI, hD⟩, fun b hb => by omega⟩ [0, 1, 2] (by simp only [leq, leA, ev0, evA, evB, evP, fl, gp, tab, simprocAttr, reduceCtorEq, reduceIte] <;> trivial) fun q hq => ?_
    obtain ⟨a, M⟩ := q
    obtain ⟨ha, hiM, hxM, ⟨hIM, hDM⟩, hdone⟩ := hq
    simp only at ha hiM hxM hIM hDM hdone
    have hMn := hIM.len
    refine qm ?_
    refine hk_region fun K hK => runs_eval tab_ok ?_
    simp only [ev0, evA, evB, evP, fl, gp, tab, simprocAttr, reduceCtorEq, reduceIte]
    refine fin_run trivial (hK _ ?_) <;> clear hK <;> clear K
    refine qa (qm ?_)
    refine hk_cond rfl (fun hC2 => ?_) (fun hC2 => ?_)
    · (try simp only [nhs] at hC2)
      have hal : a < n := by omega
      have hbit : (bo n p).testBit a = p a := by rw [bo_bit]; simp [hal]
      refine qh (qa (qm (ql (qm ?_))))
      refine hk_region fun K hK => runs_eval tab_ok ?_
      simp only [ev0, evA, evB, evP, fl, gp, tab, simprocAttr, reduceCtorEq, reduceIte]
      refine fin_run trivial (hK _ ?_) <;> clear hK <;> clear K
      refine qa (qm (qm ?_))
      refine hk_region fun K hK => runs_eval tab_ok ?_
      simp only [ev0, evA, evB, evP, fl, gp, tab, simprocAttr, reduceCtorEq, reduceIte, oul_get hiM, hxM, ul_length]
      refine fin_stop ?_ (runs_call (has_s (bo n p) a (hbt _) (by omega)) rfl rfl rfl (by simp only [dstOk, Nat.reduceLT]) (by repeat (first | exact trivial | constructor)) (runs_eval tab_ok ?_))
      · (first | exact trivial | omega | (simp only [In64] at *; omega) | (simp [In64] at *; omega) | (simp_all; done) | skip)
      simp only [ev0, evA, evB, evP, fl, gp, tab, simprocAttr, reduceCtorEq, reduceIte, hbit, oul_get hiM, hxM, ul_length]
      refine fin_run ?_ (hK _ ?_) <;> clear hK <;> clear K
      · (first | exact trivial | omega | (simp only [In64] at *; omega) | (simp [In64] at *; omega) | (simp_all; done) | skip)
      refine qa ?_
      refine hk_cond rfl (fun hC3 => ?_) (fun hC3 => ?_)
      · (try simp only [nhs] at hC3)
        have hdn : Dn n (op m n) e (bo n p) a M := fun q hq => by
          have : bo n q = bo n p := bo_congr fun y hy => by
            rw [Bool.eq_iff_iff, hq y hy, hp.gen G hy]
            constructor
            · exact fun hg => (hg.sub G hp fun b hb2 hw => by
                unfold wta at hw
                rw [bo_bit, Bool.or_eq_true, Bool.and_eq_true, decide_eq_true_eq, decide_eq_true_eq] at hw
                rcases hw with hw | hw
                · exact hw.2
                · rw [hw]; exact hC3) |> (hp.gen G hy).1
            · exact fun hg => Gen.mono (fun b hb2 hw => by unfold wta; rw [bo_bit]; simp [hb2, hw]) hg
          rw [this, ← hxM]; exact getD_memN hiM
        refine qj (qc (qf (qa ?_)))
        refine hk_region fun K hK => runs_eval tab_ok ?_
        simp only [ev0, evA, evB, evP, fl, gp, tab, simprocAttr, reduceCtorEq, reduceIte]
        refine fin_run ?_ (hK _ ?_) <;> clear hK <;> clear K
        · (first | exact trivial | omega | (simp only [In64] at *; omega) | (simp [In64] at *; omega) | (simp_all; done) | skip)
        refine qa ?_
        refine ⟨(a + 1, M), [0, 1, 2], ⟨show a + 1 ≤ n by omega, hiM, hxM, ⟨hIM, hDM⟩, fun b hb => ?_⟩, show n - (a + 1) < n - a by omega, ?_⟩
        · by_cases hba : b = a
          · rw [hba]; exact hdn
          · exact hdone b (by have : b < a + 1 := hb
                              omega)
        · simp only [leq, leA, ev0, evA, evB, evP, fl, gp, tab, simprocAttr, reduceCtorEq, reduceIte] <;> omega
      · (try simp only [nhs] at hC3)
        have hpw := pow_lt64 (b := a) (by omega)
        have hw := bo_wta p hal
        obtain ⟨q, hq⟩ := gen_ex n (op m n) e (wta p a)
        have hqs := gen_sub G hq
        have hdq : ∀ M', bo n q ∈ M' → Dn n (op m n) e (bo n p) a M' := fun M' hm r hr => by
          have : bo n r = bo n q := bo_congr fun y hy => by
            rw [Bool.eq_iff_iff, hr y hy, hq y hy]
            refine ⟨fun hg => Gen.mono (fun b hb2 hw => ?_) hg, fun hg => Gen.mono (fun b hb2 hw => ?_) hg⟩
            · unfold wta at hw ⊢; rw [bo_bit] at hw; simpa [hb2] using hw
            · unfold wta at hw ⊢; rw [bo_bit]; simpa [hb2] using hw
          rw [this]; exact hm
        refine qh (qa (qm ?_))
        refine hk_draw mixed (by kernel_rfl) fun K hK => runs_eval tab_ok ?_
        simp only [ev0, evA, evB, evP, fl, gp, tab, simprocAttr, reduceCtorEq, reduceIte, oul_get hiM, hxM, ul_length, shl_one (show a < 64 by omega), bv_or (hbt p) hpw, hw]
        refine fin_stop ?_ (runs_call (grow_c h (bo n (wta p a)) (bo_lt n _) q (fun b hb2 => by rw [gen_bo]; exact hq b hb2)) rfl rfl rfl (by simp only [dstOk, Nat.reduceLT]) (by repeat (first | exact trivial | constructor)) (runs_eval tab_ok ?_))
        · (first | exact trivial | omega | (simp only [In64] at *; omega) | (simp [In64] at *; omega) | (simp_all; done) | skip)
        simp only [ev0, evA, evB, evP, fl, gp, tab, simprocAttr, reduceCtorEq, reduceIte, oul_get hiM, hxM, ul_length, shl_one (show a < 64 by omega), bv_or (hbt p) hpw, hw]
        refine fin_run ?_ (hK _ ?_) <;> clear hK <;> clear K
        · (first | exact trivial | omega | (simp only [In64] at *; omega) | (simp [In64] at *; omega) | (simp_all; done) | skip)
        refine qa (qm ?_)
        by_cases hin : bo n q ∈ M
        · have hkin := mpd_in (mem_kl.2 hin)
          have hvin := mpv_in tt (mem_kl.2 hin)
          refine hk_region fun K hK => runs_eval tab_ok ?_
          simp only [ev0, evA, evB, evP, fl, gp, tab, simprocAttr, reduceCtorEq, reduceIte, hkin, hvin, cond_true, (show tt ((bo n q : Nat) : Int) = .bool true from rfl)]
          refine fin_run ?_ (hK _ ?_) <;> clear hK <;> clear K
          · (first | exact trivial | omega | (simp only [In64] at *; omega) | (simp [In64] at *; omega) | (simp_all; done) | skip)
          refine qa ?_
          refine hk_cond rfl (fun hC4 => ?_) (fun hC4 => ?_)
          · cases hC4
          · (try simp only [nhs] at hC4)
            refine qh (qd (qa ?_))
            refine hk_region fun K hK => runs_eval tab_ok ?_
            simp only [ev0, evA, evB, evP, fl, gp, tab, simprocAttr, reduceCtorEq, reduceIte]
            refine fin_run ?_ (hK _ ?_) <;> clear hK <;> clear K
            · (first | exact trivial | omega | (simp only [In64] at *; omega) | (simp [In64] at *; omega) | (simp_all; done) | skip)
            refine qa ?_
            refine ⟨(a + 1, M), [0, 1, 2], ⟨show a + 1 ≤ n by omega, hiM, hxM, ⟨hIM, hDM⟩, fun b hb => ?_⟩, show n - (a + 1) < n - a by omega, ?_⟩
            · by_cases hba : b = a
              · rw [hba]; exact hdq M hin
              · exact hdone b (by have : b < a + 1 := hb
                                  omega)
            · simp only [leq, leA, ev0, evA, evB, evP, fl, gp, tab, simprocAttr, reduceCtorEq, reduceIte] <;> omega
        · have hkin : mpd (kl M) ((bo n q : Nat) : Int) = false := decide_eq_false fun hh => hin (mem_kl.1 hh)
          refine hk_region fun K hK => runs_eval tab_ok ?_
          simp only [ev0, evA, evB, evP, fl, gp, tab, simprocAttr, reduceCtorEq, reduceIte, hkin, cond_false]
          refine fin_run ?_ (hK _ ?_) <;> clear hK <;> clear K
          · (first | exact trivial | omega | (simp only [In64] at *; omega) | (simp [In64] at *; omega) | (simp_all; done) | skip)
          refine qa ?_
          refine hk_cond rfl (fun hC4 => ?_) (fun hC4 => ?_)
          · (try simp only [nhs] at hC4)
            have hMl : (ul M).length = M.length := ul_length M
            have hd1 : (fun u => decide (u = ((bo n q : Nat) : Int)) || mpd (kl M) u) = mpd (kl (M ++ [bo n q])) := by rw [kl_snoc]; exact mpd_set _ _
            have hv1 : (fun u => bif decide (u = ((bo n q : Nat) : Int)) then PV.bool true else mpv (kl M) tt u) = mpv (kl (M ++ [bo n q])) tt := by rw [kl_snoc]; exact mpv_set (kl M) _ tt
            have hsub : ∀ y ∈ M, y ∈ M ++ [bo n q] := fun y hy => by simp [hy]
            have htk : List.take M.length (ul M) = ul M := List.take_of_length_le (by rw [ul_length]; exact Nat.le_refl _)
            refine qm ?_
            refine hk_region fun K hK => runs_eval tab_ok ?_
            simp only [ev0, evA, evB, evP, fl, gp, tab, simprocAttr, reduceCtorEq, reduceIte]
            refine fin_run ?_ (hK _ ?_) <;> clear hK <;> clear K
            · (first | exact trivial | omega | (simp only [In64] at *; omega) | (simp [In64] at *; omega) | (simp_all; done) | skip)
            refine qa ?_
            refine hk_region fun K hK => runs_eval tab_ok ?_
            simp only [ev0, evA, evB, evP, fl, gp, tab, simprocAttr, reduceCtorEq, reduceIte, oul_take, oul_snoc, oul_ok, ul_length, htk]
            refine fin_run ?_ (hK _ ?_) <;> clear hK <;> clear K
            · simp [cellOk, PV.one, ul_length]
              omega
            refine qd (qa ?_)
            refine hk_region fun K hK => runs_eval tab_ok ?_
            simp only [ev0, evA, evB, evP, fl, gp, tab, simprocAttr, reduceCtorEq, reduceIte]
            refine fin_run ?_ (hK _ ?_) <;> clear hK <;> clear K
            · (first | exact trivial | omega | (simp only [In64] at *; omega) | (simp [In64] at *; omega) | (simp_all; done) | skip)
            refine qa ?_
            refine ⟨(a + 1, M ++ [bo n q]), [0, 3, 2], ⟨show a + 1 ≤ n by omega, by simp only [List.length_append, List.length_singleton]; omega, by rw [getD_snoc hiM]; exact hxM, ⟨⟨?_, ?_, by simp [hIM.one]⟩, fun j hj b hb => ?_⟩, fun b hb => ?_⟩, show n - (a + 1) < n - a by omega, ?_⟩
            · exact List.nodup_append.2 ⟨hIM.nodup, by simp, fun x hx y hy he => by rw [List.mem_singleton] at hy; rw [he, hy] at hx; exact hin hx⟩
            · intro x hx
              rcases List.mem_append.1 hx with hx | hx
              · exact hIM.subs x hx
              · rw [List.mem_singleton] at hx; exact ⟨q, hqs, hx⟩
            · rw [getD_snoc (by omega)]; exact (hDM j hj b hb).mono hsub
            · by_cases hba : b = a
              · rw [hba]; exact hdq _ (by simp)
              · exact (hdone b (by have : b < a + 1 := hb
                                   omega)).mono hsub
            · simp only [← hd1, ← hv1]
              simp only [leq, leA, ev0, evA, evB, evP, fl, gp, tab, simprocAttr, reduceCtorEq, reduceIte] <;> first | trivial | omega | (simp only [List.length_append, List.length_singleton]; omega) | exact ⟨rfl, rfl⟩ | (rw [ul_snoc, List.take_length])
          · cases hC4
    · (try simp only [nhs] at hC2)
      have han : a = n := by omega
      refine qj (qc (qc (qf (qd (qa ?_)))))
      refine hk_region fun K hK => runs_eval tab_ok ?_
      simp only [ev0, evA, evB, evP, fl, gp, tab, simprocAttr, reduceCtorEq, reduceIte]
      refine fin_run ?_ (hK _ ?_) <;> clear hK <;> clear K
      · (first | exact trivial | omega | (simp only [In64] at *; omega) | (simp [In64] at *; omega) | (simp_all; done) | skip)
      refine qa ?_
      refine ⟨(i + 1, M), [0, 1, 2], ⟨show i + 1 ≤ M.length by omega, ⟨hIM, fun j hj b hb => ?_⟩⟩, show 2 ^ n - (i + 1) < 2 ^ n - i by omega, ?_⟩
      · by_cases hji : j = i
        · rw [hji, hxM]; exact hdone b (by omega)
        · exact hDM j (by have : j < i + 1 := hj
                          omega) b hb
      · simp only [leq, leA, ev0, evA, evB, evP, fl, gp, tab, simprocAttr, reduceCtorEq, reduceIte] <;> first | trivial | omega
  · (try simp only [nhs] at hC1)
    have hin : i = L.length := by omega
    have hdall : ∀ x ∈ L, ∀ a, a < n → Dn n (op m n) e x a L := fun x hx a ha => by
      obtain ⟨j, hj, rfl⟩ := mem_getDN hx
      exact hD j (by omega) a ha
    have hperm := hS.perm G hI hdall
    have hlen := hperm.length_eq
    have hul : ∀ x ∈ ul L, ∃ y, y < 2 ^ 64 ∧ x = .int .u64 ((y : Nat) : Int) := fun x hx => by
      obtain ⟨y, hy, rfl⟩ := List.mem_map.1 hx
      obtain ⟨p, _, rfl⟩ := hI.subs y hy
      exact ⟨_, hbt p, rfl⟩
    have hsort : FnM Tryd.prog 147 [.sl 0 0 (ul L).length, .p (.fn 148 [])] [.own (opl (ul L))] (.p (.tup [])) [.own (opl (ul SL))] :=
      sort_m Go.Proofs.Tryd.sortS (ul L) (ul SL) cfA (by intro hh; have := congrArg List.length hh; rw [ul_length] at this; have h1 := List.length_pos_of_mem hI.one; simp at this; rw [this] at h1; simp at h1) (ul_one L)
        (fun x hx => by obtain ⟨a, _, rfl⟩ := hul x hx; exact cmpS_self _)
        (fun x hx y hy z hz h1 h2 => by obtain ⟨a, _, rfl⟩ := hul x hx; obtain ⟨b, _, rfl⟩ := hul y hy; obtain ⟨c, _, rfl⟩ := hul z hz; exact cmpS_trans _ _ _ h1 h2)
        (fun x hx y hy z hz h1 h2 => by obtain ⟨a, _, rfl⟩ := hul x hx; obtain ⟨b, _, rfl⟩ := hul y hy; obtain ⟨c, _, rfl⟩ := hul z hz; exact cmpS_ntrans _ _ _ h1 h2)
        (fun x hx y hy h1 h2 => by
          obtain ⟨a, a1, rfl⟩ := hul x hx; obtain ⟨b, b1, rfl⟩ := hul y hy
          have := stl_inj a1 b1 (cmpS_tot _ _ h1 h2)
          rw [this])
        (fun x hx y hy => by obtain ⟨a, a1, rfl⟩ := hul x hx; obtain ⟨b, b1, rfl⟩ := hul y hy; exact allOf1_c a b a1 b1)
        (hperm.map _) (by
          unfold ul
          rw [List.pairwise_map]
          exact hS.rise.imp fun {x y} hxy h2 => cmpS_self _ (cmpS_trans _ _ _ hxy h2)) (by rw [ul_length]; omega)
    rw [ul_length] at hsort
    refine qj (qc (qc (qf (qa (qm ?_)))))
    refine hk_region fun K hK => runs_eval tab_ok ?_
    simp only [ev0, evA, evB, evP, fl, gp, tab, simprocAttr, reduceCtorEq, reduceIte]
    refine fin_stop ?_ (runs_callM [1] (hsort) rfl rfl ?_ (by simp only [leA, ev0, evA, evB, evP, fl, gp, tab, simprocAttr, reduceCtorEq, reduceIte]; first | trivial | (simp only [ll_takeL]; first | trivial | (repeat constructor; done)) | (repeat constructor)) (by decide) (by first | rfl | (simp only [List.length_cons, List.length_nil, List.length_append]; decide)) (by first | rfl | (simp only [scM, opl_sc, List.all_cons, List.all_nil, List.length_cons, List.length_nil]; first | rfl | decide) | (simp [scM, scA, sc1, mpKeep, notAnc]; done)) (by simp only [dstOk, Nat.reduceLT]) (runs_eval tab_ok ?_))
    · (first | exact trivial | omega | (simp only [In64] at *; omega) | (simp [In64] at *; omega) | (simp_all; done) | skip)
    · (simp only [argsM, argM1, peekG, peekS, scA, sc1, ren, ren1, List.map_cons, List.map_nil, List.append_nil, List.cons_append, List.nil_append, enA, ev0, evA, evB, evP, fl, gp, tab, simprocAttr, reduceCtorEq, reduceIte]; try trivial)
    simp only [putM, hset, List.range', Blk.ren, ren, ren1, List.map_cons, List.map_nil, List.cons_append, List.nil_append, List.append_nil, List.length_cons, List.length_nil, ev0, evA, evB, evP, fl, gp, tab, simprocAttr, reduceCtorEq, reduceIte]
    refine fin_run trivial (hK _ ?_) <;> clear hK <;> clear K
    refine qa (qm ?_)
    rw [hlen, ← ul_length SL]
    refine hk_sealp 3 1 (ul_all SL) rfl rfl ?_
    refine hk_region fun K hK => runs_eval tab_ok ?_
    simp only [ev0, evA, evB, evP, fl, gp, tab, simprocAttr, reduceCtorEq, reduceIte]
    refine fin_run trivial (hK _ ?_) <;> clear hK <;> clear K
    refine qa (qk ?_)
    simp only [Tryd.results116, enA, ev0, evA, evB, evP, fl, gp, tab, simprocAttr, reduceCtorEq, reduceIte]
    all_goals ((first | exact rfl | exact ⟨rfl, rfl⟩ | exact ⟨rfl, rfl, rfl⟩ | exact ⟨trivial, rfl⟩ | exact ⟨Nat.le_refl _, rfl⟩ | trivial | (simp; done)))
end
end Go.Proofs.YtboadfahlflmhaaDoor

/-
  All subgroups in lists: All; what no set needs: Frattini. Conditions: none.
-/
set_option linter.all false
namespace Go.Proofs.YtboadfahlflmhaaDoor
open Go.Pv

def sll (SL:List Nat):List (List Int):=SL.map stl
theorem sll_get {SL:List Nat} {i:Nat} (hi:i < SL.length):(sll SL).getD i []=stl (SL.getD i 0):=by
 simp [sll,List.getD,List.getElem?_eq_getElem hi]
section
variable {n e:Nat} {m:List Int}
end
end Go.Proofs.YtboadfahlflmhaaDoor

/-
  What no set needs: Frattini. Conditions: none.
-/
set_option linter.all false
namespace Go.Proofs.YtboadfahlflmhaaDoor
open Go.Pv

def andn (a b:Nat):Nat:=(BitVec.ofInt 64 (a:Int) &&& ~~~(BitVec.ofInt 64 (b:Int))).toNat
theorem bv_andn {a b:Nat} : bitsV (fun _ x y=>x &&& ~~~y) .u64 (a:Int) (b:Int) = .int .u64 ((andn a b:Nat):Int):=by
 have h:andn a b < 2 ^ 64:=BitVec.isLt _
 show PV.int .u64 (IntKind.u64.wrap ((andn a b:Nat):Int))=_
 rw [wrap_n h]
theorem andn_zero {a b:Nat} (ha:a < 2 ^ 64) (hb:b < 2 ^ 64):andn a b=0↔∀ i,a.testBit i=true→b.testBit i=true:=by
 have key:∀ i,i < 64→(andn a b).testBit i=(a.testBit i && !b.testBit i):=fun i hi=>by
  unfold andn
  rw [BitVec.testBit_toNat,BitVec.getLsbD_and,BitVec.getLsbD_not,← BitVec.testBit_toNat,← BitVec.testBit_toNat,ofInt_n ha,ofInt_n hb]
  simp [hi]
 constructor
 ·intro h i hi
  have hl:=bit_lt ha hi
  have:=key i hl
  rw [h,Nat.zero_testBit,hi] at this
  simpa using this
 ·intro h
  refine Nat.eq_of_testBit_eq fun i=>?_
  rw [Nat.zero_testBit]
  by_cases hl:i < 64
  ·rw [key i hl]
   cases ha' : a.testBit i with
   | false=>rfl
   | true=>rw [h i ha']; rfl
  ·exact Nat.testBit_lt_two_pow (Nat.lt_of_lt_of_le (BitVec.isLt _) (Nat.pow_le_pow_right (by omega) (Nat.le_of_not_lt hl)))

/-! ### Rows of sets -/

/-! ### Frattini -/

/-- t is another set that has all of s. -/
def ovr (s t:Nat):Bool:=decide (¬ s=t) && decide (andn s t=0)
/-- Row i has no other one over it, but the last. -/
def mxr (SL:List Nat) (i:Nat):Bool:=!decide (∃ j,j < SL.length - 1∧(i < j∧ovr (SL.getD i 0) (SL.getD j 0)=true))
section
variable {n e:Nat} {m:List Int}
end
end Go.Proofs.YtboadfahlflmhaaDoor

/-
  Walks: the law SubProducts. Conditions: none.
-/
set_option linter.all false
namespace Go.Proofs.YtboadfahlflmhaaDoor
open Go.Pv

end Go.Proofs.YtboadfahlflmhaaDoor

/-
  Walks: the law SubMeets. Conditions: none.
-/
set_option linter.all false
namespace Go.Proofs.YtboadfahlflmhaaDoor
open Go.Pv

theorem AllS.len {n e:Nat} {f:Nat→Nat→Nat} {SL:List Nat} (h:AllS n f e SL) (hn:n≤24):SL.length≤16777216:=by
 have h1:SL.length≤2 ^ n:=nodup_lt h.nodup fun x hx=>by
  obtain ⟨p,_,rfl⟩:=h.subs x hx
  exact bo_lt n p
 have h24:2 ^ n≤16777216:=Nat.le_trans (Nat.pow_le_pow_right (by omega) hn) (by decide)
 omega
theorem AllS.row {n e:Nat} {f:Nat→Nat→Nat} {SL:List Nat} (h:AllS n f e SL) (hn:n≤60) {i:Nat} (hi:i < SL.length):∃ p,Sub n f e p∧(sll SL).getD i []=thl n p:=by
 obtain ⟨p,hp,hx⟩:=h.subs _ (getD_memN hi)
 exact ⟨p,hp,by rw [sll_get hi,hx,stl_bo hn]⟩
theorem AllS.at {n e:Nat} {f:Nat→Nat→Nat} {SL:List Nat} (h:AllS n f e SL) (hn:n≤60) {p:Nat→Bool} (hp:Sub n f e p):∃ i,i < SL.length∧(sll SL).getD i []=thl n p:=by
 obtain ⟨i,hi,hx⟩:=mem_getDN (h.all p hp)
 exact ⟨i,hi,by rw [sll_get hi,hx,stl_bo hn]⟩
section
variable {n e:Nat} {m:List Int}
end
end Go.Proofs.YtboadfahlflmhaaDoor
