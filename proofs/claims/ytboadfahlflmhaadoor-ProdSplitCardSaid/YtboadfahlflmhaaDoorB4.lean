/-
  Texts of this proof, one behind the other: what each says stands at its head. Conditions: none.
-/
import Derived.Test.YtboadfahlflmhaaDoorB3
import Derived.Test.YtboadfahlflmhaaDoorB2

/-
  Walks: the program's words of groups: faults, the one, inverses. Conditions: none.
-/
set_option linter.all false
namespace Go.Proofs.YtboadfahlflmhaaDoor
open Go.Pv

theorem fault_c (c a:Int):FnC Tryd.prog 126 [.int .i64 c,.int .i64 a] (fl (c,a)):=by
 refine fnc_of tab_ok Tryd.func126 rfl (by kernel_rfl) (by rw [Tryd.ntmps126]; exact Nat.le_add_left 2 _) ?_; rw [Tryd.ntmps126]
 refine qm ?_
 refine hk_region fun K hK=>runs_eval tab_ok ?_
 simp only [ev0,evA,evB,evP,fl,gp,tab,simprocAttr,reduceCtorEq,reduceIte]
 refine fin_run ?_ (hK _ ?_)<;>clear hK<;>clear K
 ·(first|exact trivial|omega|(simp only [In64] at *; omega)|(simp [In64] at *; omega)|(simp_all; done)|skip)
 refine qa (qm ?_)
 refine hk_region fun K hK=>runs_eval tab_ok ?_
 simp only [ev0,evA,evB,evP,fl,gp,tab,simprocAttr,reduceCtorEq,reduceIte]
 refine fin_run ?_ (hK _ ?_)<;>clear hK<;>clear K
 ·(first|exact trivial|omega|(simp only [In64] at *; omega)|(simp [In64] at *; omega)|(simp_all; done)|skip)
 refine qa (qk ?_)
 simp only [Tryd.results126,enA,ev0,evA,evB,evP,fl,gp,tab,simprocAttr,reduceCtorEq,reduceIte]
 all_goals (rfl)

theorem of_c {n:Nat} {m:List Int} (T:Tab n m) {a b:Nat} (ha:a < n) (hb:b < n):FnC Tryd.prog 108 [gp n m,.int .i64 a,.int .i64 b] (.int .i64 (op m n a b:Nat)):=by
 have h1:=at_lt ha hb
 have h2:=sq_le T.big
 have h3:=T.len
 have hc:(a:Int) * (n:Int)=((a * n:Nat):Int):=(Int.natCast_mul a n).symm
 have hv:=T.val ha hb
 refine fnc_of tab_ok Tryd.func108 rfl (by kernel_rfl) (by rw [Tryd.ntmps108]; exact Nat.le_add_left 3 _) ?_; rw [Tryd.ntmps108]
 refine qm ?_
 refine hk_region fun K hK=>runs_eval tab_ok ?_
 simp only [ev0,evA,evB,evP,fl,gp,tab,simprocAttr,reduceCtorEq,reduceIte]
 refine fin_run ?_ (hK _ ?_)<;>clear hK<;>clear K
 ·(first|exact trivial|omega|(simp only [In64] at *; omega)|(simp [In64] at *; omega)|(simp_all; done)|skip)
 refine qa (qm ?_)
 refine hk_region fun K hK=>runs_eval tab_ok ?_
 simp only [ev0,evA,evB,evP,fl,gp,tab,simprocAttr,reduceCtorEq,reduceIte,at_nat,il_get (show a * n + b < m.length by omega),hv]
 refine fin_run ?_ (hK _ ?_)<;>clear hK<;>clear K
 ·rw [hc]; simp only [In64]; omega
 refine qa (qk ?_)
 simp only [Tryd.results108,enA,ev0,evA,evB,evP,fl,gp,tab,simprocAttr,reduceCtorEq,reduceIte]
 all_goals (rfl)

def ix (l:List Int) (x:Int):Int:=match fst' (fun i=>decide (l.getD i 0=x)) l.length with | some i=>(i:Int) | none=>-1

theorem index_c (l:List Int) (x:Int) (hl:l.length≤1000000000000):FnC Tryd.prog 122 [.list (il l),.int .i64 x] (.int .i64 (ix l x)):=by
 refine fnc_of tab_ok Tryd.func122 rfl (by kernel_rfl) (by rw [Tryd.ntmps122]; exact Nat.le_add_left 2 _) ?_; rw [Tryd.ntmps122]
 refine qm ?_
 refine hk_region fun K hK=>runs_eval tab_ok ?_
 simp only [ev0,evA,evB,evP,fl,gp,tab,simprocAttr,reduceCtorEq,reduceIte]
 refine fin_run trivial (hK _ ?_)<;>clear hK<;>clear K
 refine qa (qm (qm ?_))
 refine hk_region fun K hK=>runs_eval tab_ok ?_
 simp only [ev0,evA,evB,evP,fl,gp,tab,simprocAttr,reduceCtorEq,reduceIte]
 refine fin_run trivial (hK _ ?_)<;>clear hK<;>clear K
 refine qa (ql ?_)
 refine hk_loop (ι:=Nat) (fun i=>⟨19,[(0,.p (.list (il l))),(1,.p (.int .i64 x)),(7,.p (.int .i64 l.length)),(8,.p (.int .i64 i))],[]⟩) (fun i=>i≤l.length∧∀ j,j < i→¬ l.getD j 0=x) (fun i=>l.length - i) 0 ⟨Nat.zero_le _,fun j hj=>by omega⟩ [] (by simp only [leq,leA,ev0,evA,evB,evP,fl,gp,tab,simprocAttr,reduceCtorEq,reduceIte]<;>trivial) fun i hi=>?_
 obtain ⟨hi1,hi2⟩:=hi
 refine qm ?_
 refine hk_region fun K hK=>runs_eval tab_ok ?_
 simp only [ev0,evA,evB,evP,fl,gp,tab,simprocAttr,reduceCtorEq,reduceIte]
 refine fin_run trivial (hK _ ?_)<;>clear hK<;>clear K
 refine qa (qm ?_)
 refine hk_cond rfl (fun hC1=>?_) (fun hC1=>?_)
 ·(try simp only [nhs] at hC1)
  have hlt:i < l.length:=by omega
  refine qh (qa (qm (ql (qm ?_))))
  refine hk_region fun K hK=>runs_eval tab_ok ?_
  simp only [ev0,evA,evB,evP,fl,gp,tab,simprocAttr,reduceCtorEq,reduceIte]
  refine fin_run trivial (hK _ ?_)<;>clear hK<;>clear K
  refine qa (qm ?_)
  refine hk_region fun K hK=>runs_eval tab_ok ?_
  simp only [ev0,evA,evB,evP,fl,gp,tab,simprocAttr,reduceCtorEq,reduceIte,il_get hlt]
  refine fin_run ?_ (hK _ ?_)<;>clear hK<;>clear K
  ·(first|exact trivial|omega|(simp only [In64] at *; omega)|(simp [In64] at *; omega)|(simp_all; done)|skip)
  refine qa ?_
  refine hk_cond rfl (fun hC2=>?_) (fun hC2=>?_)
  ·(try simp only [nhs] at hC2)
   refine qm ?_
   refine hk_region fun K hK=>runs_eval tab_ok ?_
   simp only [ev0,evA,evB,evP,fl,gp,tab,simprocAttr,reduceCtorEq,reduceIte]
   refine fin_run trivial (hK _ ?_)<;>clear hK<;>clear K
   refine qa (qk (qe (qb (qb (qe (qb ?_))))))
   simp only [Tryd.results122,enA,ev0,evA,evB,evP,fl,gp,tab,simprocAttr,reduceCtorEq,reduceIte]
   all_goals (unfold ix; rw [fst_some hlt (decide_eq_true hC2.symm) fun j hj=>decide_eq_false (hi2 j hj)])
  ·(try simp only [nhs] at hC2)
   refine qh (qd (qa ?_))
   refine hk_region fun K hK=>runs_eval tab_ok ?_
   simp only [ev0,evA,evB,evP,fl,gp,tab,simprocAttr,reduceCtorEq,reduceIte]
   refine fin_run ?_ (hK _ ?_)<;>clear hK<;>clear K
   ·(first|exact trivial|omega|(simp only [In64] at *; omega)|(simp [In64] at *; omega)|(simp_all; done)|skip)
   refine qa ?_
   refine ⟨i + 1,[],⟨by omega,fun j hj=>?_⟩,by omega,?_⟩
   ·by_cases hj:j=i
    ·subst hj; exact fun h=>hC2 h.symm
    ·exact hi2 j (by omega)
   ·simp only [leq,leA,ev0,evA,evB,evP,fl,gp,tab,simprocAttr,reduceCtorEq,reduceIte]<;>first|trivial|omega
 ·(try simp only [nhs] at hC1)
  refine qj (qc (qc (qf (qa (qm ?_)))))
  refine hk_region fun K hK=>runs_eval tab_ok ?_
  simp only [ev0,evA,evB,evP,fl,gp,tab,simprocAttr,reduceCtorEq,reduceIte]
  refine fin_run trivial (hK _ ?_)<;>clear hK<;>clear K
  refine qa (qk ?_)
  simp only [Tryd.results122,enA,ev0,evA,evB,evP,fl,gp,tab,simprocAttr,reduceCtorEq,reduceIte]
  all_goals (unfold ix; rw [fst_none fun j hj=>decide_eq_false (hi2 j (by omega))])

theorem ix_mem (l:List Int) (x:Int):ix l x ≥ 0↔∃ i,i < l.length∧l.getD i 0=x:=by
 unfold ix
 cases h:fst' (fun i=>decide (l.getD i 0=x)) l.length with
 | none =>
  constructor
  ·intro h; simp at h
  ·rintro ⟨i,hi,e⟩
   exact absurd e (of_decide_eq_false (fst_spec0 h i hi))
 | some i =>
  obtain ⟨h1,h2,_⟩:=fst_spec h
  exact ⟨fun _=>⟨i,h1,of_decide_eq_true h2⟩,fun _=>by simp⟩

theorem contains_c (l:List Int) (x:Int) (hl:l.length≤1000000000000):FnC Tryd.prog 127 [.list (il l),.int .i64 x] (.bool (decide (ix l x ≥ 0))):=by
 refine fnc_of tab_ok Tryd.func127 rfl (by kernel_rfl) (by rw [Tryd.ntmps127]; exact Nat.le_add_left 2 _) ?_; rw [Tryd.ntmps127]
 refine qm ?_
 refine hk_region fun K hK=>runs_eval tab_ok ?_
 simp only [ev0,evA,evB,evP,fl,gp,tab,simprocAttr,reduceCtorEq,reduceIte]
 refine fin_run trivial (hK _ ?_)<;>clear hK<;>clear K
 refine qa (qm ?_)
 refine hk_region fun K hK=>runs_eval tab_ok ?_
 simp only [ev0,evA,evB,evP,fl,gp,tab,simprocAttr,reduceCtorEq,reduceIte]
 refine fin_stop trivial (runs_call (index_c l x hl) rfl rfl rfl (by simp only [dstOk,Nat.reduceLT]) (by repeat (first|exact trivial|constructor)) (runs_eval tab_ok ?_))
 simp only [ev0,evA,evB,evP,fl,gp,tab,simprocAttr,reduceCtorEq,reduceIte]
 refine fin_run trivial (hK _ ?_)<;>clear hK<;>clear K
 refine qa (qk ?_)
 simp only [Tryd.results127,enA,ev0,evA,evB,evP,fl,gp,tab,simprocAttr,reduceCtorEq,reduceIte]
 all_goals ((first|exact rfl|exact ⟨rfl,rfl⟩|exact ⟨rfl,rfl,rfl⟩|exact ⟨trivial,rfl⟩|exact ⟨Nat.le_refl _,rfl⟩|trivial|(simp; done)))

/-- A row of the table. -/
def row (m:List Int) (n a:Nat):List Int:=(m.drop (a * n)).take n

theorem row_len {m:List Int} {n a:Nat} (T:Tab n m) (ha:a < n):(row m n a).length=n:=by
 have:(a + 1) * n≤n * n:=Nat.mul_le_mul_right _ ha
 rw [Nat.add_mul,Nat.one_mul] at this
 have:=T.len
 simp [row]; omega
theorem row_get {m:List Int} {n a b:Nat} (T:Tab n m) (ha:a < n) (hb:b < n):(row m n a).getD b 0=((op m n a b:Nat):Int):=by
 rw [← T.val ha hb]
 simp only [row,List.getD,List.getElem?_take,if_pos hb,List.getElem?_drop]
theorem row_ix {m:List Int} {n a:Nat} (T:Tab n m) (ha:a < n) (x:Int):ix (row m n a) x ≥ 0↔∃ b,b < n∧((op m n a b:Nat):Int)=x:=by
 rw [ix_mem,row_len T ha]
 constructor
 ·rintro ⟨b,hb,e⟩; exact ⟨b,hb,by rw [← row_get T ha hb]; exact e⟩
 ·rintro ⟨b,hb,e⟩; exact ⟨b,hb,by rw [row_get T ha hb]; exact e⟩

/-- The last that is the one, among so many; -1. -/
def oneI (m:List Int) (n:Nat):Nat→Int
 | 0=>-1
 | i + 1=>if isE m n i then (i:Int) else oneI m n i

theorem oneI_no {m:List Int} {n:Nat} (h:∀ a,a < n→¬ isE m n a):∀ i,i≤n→oneI m n i = -1
 | 0,_=>rfl
 | i + 1,hi=>by simp only [oneI]; rw [if_neg (h i (by omega)),oneI_no h i (by omega)]
theorem oneI_yes {m:List Int} {n e:Nat} (he:e < n) (h:isE m n e):∀ i,i≤n→e < i→oneI m n i=(e:Nat)
 | 0,_,h2=>by omega
 | i + 1,hi,h2=>by
  simp only [oneI]
  by_cases hE:isE m n i
  ·rw [if_pos hE,isE_unique he (by omega) h hE]
  ·rw [if_neg hE]
   have:e ≠ i:=fun h'=>hE (h' ▸ h)
   exact oneI_yes he h i (by omega) (by omega)
theorem oneI_eI (m:List Int) (n:Nat):oneI m n n=eI m n:=by
 rcases eI_cases m n with ⟨h1,h2⟩ | ⟨e,he,h1,h2⟩
 ·rw [h1,oneI_no h2 n (Nat.le_refl _)]
 ·rw [h2,oneI_yes he h1 n (Nat.le_refl _) he]

/-- The program's test of an inverse, and the document's. -/
theorem inv_test {m:List Int} {n a:Nat} (T:Tab n m) (he:¬ eI m n < 0) (hs:∀ a,a < n→asc m n a) (ha:a < n):ix (row m n a) (eI m n) ≥ 0↔¬ iI m n a < 0:=by
 rw [row_ix T ha]
 rcases eI_cases m n with ⟨h1,_⟩ | ⟨e,hel,hE,heq⟩
 ·omega
 constructor
 ·rintro ⟨b,hb,h⟩ h2
  rcases iI_cases m n a with ⟨_,h3⟩ | ⟨b',_,_,_,h4⟩
  ·refine h3 b hb ⟨h,?_⟩
   rw [heq] at h ⊢
   have:=right_inv (f:=op m n) (fun a b ha hb=>T.lt ha hb) hel (fun a ha=>(hE a ha).1) (fun a ha=>(hE a ha).2) (fun a b c ha hb hc=>hs a ha b hb c hc) ha hb (by omega)
   omega
  ·omega
 ·intro h
  rcases iI_cases m n a with ⟨h3,_⟩ | ⟨b,hb,h4,_,_⟩
  ·omega
  ·exact ⟨b,hb,h4⟩

theorem lo_nat (a n:Nat):((a:Int) * (n:Int)).toNat=a * n:=by
 rw [← Int.natCast_mul]; rfl
theorem hi_nat (a n:Nat):(((a:Int) + 1) * (n:Int)).toNat=(a + 1) * n:=by
 have:((a:Int) + 1) * (n:Int)=(((a + 1) * n:Nat):Int):=by rw [Int.natCast_mul]; rfl
 rw [this]; rfl
theorem hi_sub (a n:Nat):(a + 1) * n - a * n=n:=by rw [Nat.add_mul,Nat.one_mul]; omega

set_option maxHeartbeats 1000000 in
theorem check_c (N:Int) (m:List Int) (hm:m.length≤1000000000000000):FnC Tryd.prog 76 [gp N m] (fl (gf N m)):=by
 refine fnc_of tab_ok Tryd.func76 rfl (by kernel_rfl) (by rw [Tryd.ntmps76]; exact Nat.le_add_left 1 _) ?_; rw [Tryd.ntmps76]
 refine qm ?_
 refine hk_region fun K hK=>runs_eval tab_ok ?_
 simp only [ev0,evA,evB,evP,fl,gp,tab,simprocAttr,reduceCtorEq,reduceIte]
 refine fin_run ?_ (hK _ ?_)<;>clear hK<;>clear K
 ·(first|exact trivial|omega|(simp only [In64] at *; omega)|(simp [In64] at *; omega)|(simp_all; done)|skip)
 refine qa (qm (qm ?_))
 by_cases g1a:N < 1
 ·refine hk_region fun K hK=>runs_eval tab_ok ?_
  simp only [ev0,evA,evB,evP,fl,gp,tab,simprocAttr,reduceCtorEq,reduceIte,decide_eq_true g1a]
  refine fin_run ?_ (hK _ ?_)<;>clear hK<;>clear K
  ·(first|exact trivial|omega|(simp only [In64] at *; omega)|(simp [In64] at *; omega)|(simp_all; done)|skip)
  refine qa ?_
  refine hk_cond rfl (fun hC1=>?_) (fun hC1=>?_)
  ·refine qm ?_
   refine hk_region fun K hK=>runs_eval tab_ok ?_
   simp only [ev0,evA,evB,evP,fl,gp,tab,simprocAttr,reduceCtorEq,reduceIte]
   refine fin_stop trivial (runs_call (fault_c 2 0) rfl rfl rfl (by simp only [dstOk,Nat.reduceLT]) (by repeat (first|exact trivial|constructor)) (runs_eval tab_ok ?_))
   simp only [ev0,evA,evB,evP,fl,gp,tab,simprocAttr,reduceCtorEq,reduceIte]
   refine fin_run ?_ (hK _ ?_)<;>clear hK<;>clear K
   ·(first|exact trivial|omega|(simp only [In64] at *; omega)|(simp [In64] at *; omega)|(simp_all; done)|skip)
   refine qa (qk (qb ?_))
   simp only [Tryd.results76,enA,ev0,evA,evB,evP,fl,gp,tab,simprocAttr,reduceCtorEq,reduceIte]
   all_goals (unfold gf; rw [if_pos (.inl g1a)]; simp)
  ·cases hC1
 ·refine hk_region fun K hK=>runs_eval tab_ok ?_
  simp only [ev0,evA,evB,evP,fl,gp,tab,simprocAttr,reduceCtorEq,reduceIte,decide_eq_false g1a]
  refine fin_run ?_ (hK _ ?_)<;>clear hK<;>clear K
  ·(first|exact trivial|omega|(simp only [In64] at *; omega)|(simp [In64] at *; omega)|(simp_all; done)|skip)
  refine qa ?_
  refine hk_cond rfl (fun hC1=>?_) (fun hC1=>?_)
  ·(try simp only [nhs] at hC1)
   refine qm ?_
   refine hk_region fun K hK=>runs_eval tab_ok ?_
   simp only [ev0,evA,evB,evP,fl,gp,tab,simprocAttr,reduceCtorEq,reduceIte]
   refine fin_stop trivial (runs_call (fault_c 2 0) rfl rfl rfl (by simp only [dstOk,Nat.reduceLT]) (by repeat (first|exact trivial|constructor)) (runs_eval tab_ok ?_))
   simp only [ev0,evA,evB,evP,fl,gp,tab,simprocAttr,reduceCtorEq,reduceIte]
   refine fin_run ?_ (hK _ ?_)<;>clear hK<;>clear K
   ·(first|exact trivial|omega|(simp only [In64] at *; omega)|(simp [In64] at *; omega)|(simp_all; done)|skip)
   refine qa (qk (qb ?_))
   simp only [Tryd.results76,enA,ev0,evA,evB,evP,fl,gp,tab,simprocAttr,reduceCtorEq,reduceIte]
   all_goals (unfold gf; rw [if_pos (.inr hC1)]; simp)
  ·(try simp only [nhs] at hC1)
   obtain ⟨n,rfl⟩:=Int.eq_ofNat_of_zero_le (show 0≤N by omega)
   have hnn:=sq_int n
   have hsq:=sq_le (show n≤60 by omega)
   refine qh (qa (qm (qm ?_)))
   refine hk_region fun K hK=>runs_eval tab_ok ?_
   simp only [ev0,evA,evB,evP,fl,gp,tab,simprocAttr,reduceCtorEq,reduceIte]
   refine fin_run ?_ (hK _ ?_)<;>clear hK<;>clear K
   ·simp only [In64]; omega
   refine qa ?_
   refine hk_cond rfl (fun hC2=>?_) (fun hC2=>?_)
   ·(try simp only [nhs] at hC2)
    refine qm ?_
    refine hk_region fun K hK=>runs_eval tab_ok ?_
    simp only [ev0,evA,evB,evP,fl,gp,tab,simprocAttr,reduceCtorEq,reduceIte]
    refine fin_stop trivial (runs_call (fault_c 8 0) rfl rfl rfl (by simp only [dstOk,Nat.reduceLT]) (by repeat (first|exact trivial|constructor)) (runs_eval tab_ok ?_))
    simp only [ev0,evA,evB,evP,fl,gp,tab,simprocAttr,reduceCtorEq,reduceIte]
    refine fin_run ?_ (hK _ ?_)<;>clear hK<;>clear K
    ·(first|exact trivial|omega|(simp only [In64] at *; omega)|(simp [In64] at *; omega)|(simp_all; done)|skip)
    refine qa (qk (qb ?_))
    simp only [Tryd.results76,enA,ev0,evA,evB,evP,fl,gp,tab,simprocAttr,reduceCtorEq,reduceIte]
    all_goals (rw [gf_size (by omega) (by omega) (by omega)]; simp)
   ·(try simp only [nhs] at hC2)
    have hl:m.length=n * n:=by omega
    refine qh (qa (qm (qm ?_)))
    refine hk_region fun K hK=>runs_eval tab_ok ?_
    simp only [ev0,evA,evB,evP,fl,gp,tab,simprocAttr,reduceCtorEq,reduceIte]
    refine fin_run ?_ (hK _ ?_)<;>clear hK<;>clear K
    ·(first|exact trivial|omega|(simp only [In64] at *; omega)|(simp [In64] at *; omega)|(simp_all; done)|skip)
    refine qa (ql ?_)
    refine hk_loop (ι:=Nat) (fun i=>⟨144,[(1,.ptr 0 0),(2,.ptr 1 0),(33,.p (.list (il m))),(34,.p (.int .i64 m.length)),(35,.p (.int .i64 i))],[.own [.p (.int .i64 n),.p (.list (il m))],.own [.p (.int .i64 0),.p (.int .i64 0)]]⟩) (fun i=>i≤m.length∧∀ j,j < i→bad n m j=false) (fun i=>m.length - i) 0 ⟨Nat.zero_le _,fun j hj=>by omega⟩ [0,1] (by simp only [leq,leA,ev0,evA,evB,evP,fl,gp,tab,simprocAttr,reduceCtorEq,reduceIte]<;>trivial) fun i hi=>?_
    obtain ⟨hi1,hi2⟩:=hi
    refine qm ?_
    refine hk_region fun K hK=>runs_eval tab_ok ?_
    simp only [ev0,evA,evB,evP,fl,gp,tab,simprocAttr,reduceCtorEq,reduceIte]
    refine fin_run trivial (hK _ ?_)<;>clear hK<;>clear K
    refine qa (qm ?_)
    refine hk_cond rfl (fun hC3=>?_) (fun hC3=>?_)
    ·(try simp only [nhs] at hC3)
     have hlt:i < m.length:=by omega
     refine qh (qa (qm (ql (qm ?_))))
     refine hk_region fun K hK=>runs_eval tab_ok ?_
     simp only [ev0,evA,evB,evP,fl,gp,tab,simprocAttr,reduceCtorEq,reduceIte,il_get hlt]
     refine fin_run ?_ (hK _ ?_)<;>clear hK<;>clear K
     ·(first|exact trivial|omega|(simp only [In64] at *; omega)|(simp [In64] at *; omega)|(simp_all; done)|skip)
     refine qa (qm ?_)
     by_cases g8a:m.getD i 0 < 0
     ·refine hk_region fun K hK=>runs_eval tab_ok ?_
      simp only [ev0,evA,evB,evP,fl,gp,tab,simprocAttr,reduceCtorEq,reduceIte,decide_eq_true g8a]
      refine fin_run trivial (hK _ ?_)<;>clear hK<;>clear K
      refine qa ?_
      refine hk_cond rfl (fun hC4=>?_) (fun hC4=>?_)
      ·refine qm ?_
       refine hk_region fun K hK=>runs_eval tab_ok ?_
       simp only [ev0,evA,evB,evP,fl,gp,tab,simprocAttr,reduceCtorEq,reduceIte]
       refine fin_stop trivial (runs_call (fault_c 3 i) rfl rfl rfl (by simp only [dstOk,Nat.reduceLT]) (by repeat (first|exact trivial|constructor)) (runs_eval tab_ok ?_))
       simp only [ev0,evA,evB,evP,fl,gp,tab,simprocAttr,reduceCtorEq,reduceIte]
       refine fin_run ?_ (hK _ ?_)<;>clear hK<;>clear K
       ·(first|exact trivial|omega|(simp only [In64] at *; omega)|(simp [In64] at *; omega)|(simp_all; done)|skip)
       refine qa (qk (qe (qb (qb (qe (qb ?_))))))
       simp only [Tryd.results76,enA,ev0,evA,evB,evP,fl,gp,tab,simprocAttr,reduceCtorEq,reduceIte]
       all_goals (rw [gf_range (by omega) (by omega) hl hlt (decide_eq_true (.inl g8a)) hi2]; simp)
      ·cases hC4
     ·refine hk_region fun K hK=>runs_eval tab_ok ?_
      simp only [ev0,evA,evB,evP,fl,gp,tab,simprocAttr,reduceCtorEq,reduceIte,decide_eq_false g8a]
      refine fin_run ?_ (hK _ ?_)<;>clear hK<;>clear K
      ·(first|exact trivial|omega|(simp only [In64] at *; omega)|(simp [In64] at *; omega)|(simp_all; done)|skip)
      refine qa ?_
      refine hk_cond rfl (fun hC4=>?_) (fun hC4=>?_)
      ·(try simp only [nhs] at hC4)
       refine qm ?_
       refine hk_region fun K hK=>runs_eval tab_ok ?_
       simp only [ev0,evA,evB,evP,fl,gp,tab,simprocAttr,reduceCtorEq,reduceIte]
       refine fin_stop trivial (runs_call (fault_c 3 i) rfl rfl rfl (by simp only [dstOk,Nat.reduceLT]) (by repeat (first|exact trivial|constructor)) (runs_eval tab_ok ?_))
       simp only [ev0,evA,evB,evP,fl,gp,tab,simprocAttr,reduceCtorEq,reduceIte]
       refine fin_run ?_ (hK _ ?_)<;>clear hK<;>clear K
       ·(first|exact trivial|omega|(simp only [In64] at *; omega)|(simp [In64] at *; omega)|(simp_all; done)|skip)
       refine qa (qk (qe (qb (qb (qe (qb ?_))))))
       simp only [Tryd.results76,enA,ev0,evA,evB,evP,fl,gp,tab,simprocAttr,reduceCtorEq,reduceIte]
       all_goals (rw [gf_range (by omega) (by omega) hl hlt (decide_eq_true (.inr hC4)) hi2]; simp)
      ·(try simp only [nhs] at hC4)
       refine qh (qd (qa ?_))
       refine hk_region fun K hK=>runs_eval tab_ok ?_
       simp only [ev0,evA,evB,evP,fl,gp,tab,simprocAttr,reduceCtorEq,reduceIte]
       refine fin_run ?_ (hK _ ?_)<;>clear hK<;>clear K
       ·(first|exact trivial|omega|(simp only [In64] at *; omega)|(simp [In64] at *; omega)|(simp_all; done)|skip)
       refine qa ?_
       refine ⟨i + 1,[0,1],⟨by omega,fun j hj=>?_⟩,by omega,?_⟩
       ·by_cases hj:j=i
        ·subst hj; exact decide_eq_false (by omega)
        ·exact hi2 j (by omega)
       ·simp only [leq,leA,ev0,evA,evB,evP,fl,gp,tab,simprocAttr,reduceCtorEq,reduceIte]<;>first|trivial|omega
    ·(try simp only [nhs] at hC3)
     have T:Tab n m:=by
      refine ⟨by omega,by omega,hl,fun j hj=>?_⟩
      have:=of_decide_eq_false (hi2 j (by omega))
      omega
     refine qj (qc (qc (qf (qa (qm ?_)))))
     refine hk_region fun K hK=>runs_eval tab_ok ?_
     simp only [ev0,evA,evB,evP,fl,gp,tab,simprocAttr,reduceCtorEq,reduceIte]
     refine fin_run trivial (hK _ ?_)<;>clear hK<;>clear K
     refine qa (qm (qm ?_))
     refine hk_region fun K hK=>runs_eval tab_ok ?_
     simp only [ev0,evA,evB,evP,fl,gp,tab,simprocAttr,reduceCtorEq,reduceIte]
     refine fin_run ?_ (hK _ ?_)<;>clear hK<;>clear K
     ·(first|exact trivial|omega|(simp only [In64] at *; omega)|(simp [In64] at *; omega)|(simp_all; done)|skip)
     refine qa (ql ?_)
     refine hk_loop (ι:=Nat) (fun i=>⟨144,[(1,.ptr 0 0),(2,.ptr 1 0),(5,.p (.int .i64 (oneI m n i))),(52,.p (.int .i64 n)),(53,.p (.int .i64 i))],[.own [.p (.int .i64 n),.p (.list (il m))],.own [.p (.int .i64 0),.p (.int .i64 0)]]⟩) (fun i=>i≤n) (fun i=>n - i) 0 (Nat.zero_le _) [0,1] (by simp only [leq,leA,ev0,evA,evB,evP,fl,gp,tab,simprocAttr,reduceCtorEq,reduceIte]<;>trivial) fun i hi=>?_
     refine qm ?_
     refine hk_region fun K hK=>runs_eval tab_ok ?_
     simp only [ev0,evA,evB,evP,fl,gp,tab,simprocAttr,reduceCtorEq,reduceIte]
     refine fin_run trivial (hK _ ?_)<;>clear hK<;>clear K
     refine qa (qm ?_)
     refine hk_cond rfl (fun hC5=>?_) (fun hC5=>?_)
     ·(try simp only [nhs] at hC5)
      have hil:i < n:=by omega
      refine qh (qa (qm (ql (qm ?_))))
      refine hk_region fun K hK=>runs_eval tab_ok ?_
      simp only [ev0,evA,evB,evP,fl,gp,tab,simprocAttr,reduceCtorEq,reduceIte]
      refine fin_run trivial (hK _ ?_)<;>clear hK<;>clear K
      refine qa (qm ?_)
      refine hk_region fun K hK=>runs_eval tab_ok ?_
      simp only [ev0,evA,evB,evP,fl,gp,tab,simprocAttr,reduceCtorEq,reduceIte]
      refine fin_run trivial (hK _ ?_)<;>clear hK<;>clear K
      refine qa (qm (qm ?_))
      refine hk_region fun K hK=>runs_eval tab_ok ?_
      simp only [ev0,evA,evB,evP,fl,gp,tab,simprocAttr,reduceCtorEq,reduceIte]
      refine fin_run ?_ (hK _ ?_)<;>clear hK<;>clear K
      ·(first|exact trivial|omega|(simp only [In64] at *; omega)|(simp [In64] at *; omega)|(simp_all; done)|skip)
      refine qa (ql ?_)
      refine hk_loop (ι:=Nat) (fun b=>⟨144,[(1,.ptr 0 0),(2,.ptr 1 0),(5,.p (.int .i64 (oneI m n i))),(6,.p (.int .i64 i)),(7,.p (.bool (decide (∀ c,c < b→op m n i c=c∧op m n c i=c)))),(52,.p (.int .i64 n)),(53,.p (.int .i64 i)),(57,.p (.int .i64 n)),(58,.p (.int .i64 b))],[.own [.p (.int .i64 n),.p (.list (il m))],.own [.p (.int .i64 0),.p (.int .i64 0)]]⟩) (fun b=>b≤n) (fun b=>n - b) 0 (Nat.zero_le _) [0,1] (by simp only [leq,leA,ev0,evA,evB,evP,fl,gp,tab,simprocAttr,reduceCtorEq,reduceIte]<;>simp) fun b hb=>?_
      refine qm ?_
      refine hk_region fun K hK=>runs_eval tab_ok ?_
      simp only [ev0,evA,evB,evP,fl,gp,tab,simprocAttr,reduceCtorEq,reduceIte]
      refine fin_run trivial (hK _ ?_)<;>clear hK<;>clear K
      refine qa (qm ?_)
      refine hk_cond rfl (fun hC6=>?_) (fun hC6=>?_)
      ·(try simp only [nhs] at hC6)
       have hbl:b < n:=by omega
       refine qh (qa (qm (ql (qm ?_))))
       refine hk_region fun K hK=>runs_eval tab_ok ?_
       simp only [ev0,evA,evB,evP,fl,gp,tab,simprocAttr,reduceCtorEq,reduceIte]
       refine fin_run trivial (hK _ ?_)<;>clear hK<;>clear K
       refine qa ?_
       by_cases g19a:∀ c,c < b→op m n i c=c∧op m n c i=c
       ·by_cases g19b:((op m n i b:Nat):Int)=(b:Nat)
        ·refine hk_region fun K hK=>runs_eval tab_ok ?_
         simp only [ev0,evA,evB,evP,fl,gp,tab,simprocAttr,reduceCtorEq,reduceIte,decide_eq_true g19a,decide_eq_true g19b]
         refine fin_stop trivial (runs_call (of_c T hil hbl) rfl rfl rfl (by simp only [dstOk,Nat.reduceLT]) (by repeat (first|exact trivial|constructor)) (runs_eval tab_ok ?_))
         simp only [ev0,evA,evB,evP,fl,gp,tab,simprocAttr,reduceCtorEq,reduceIte,decide_eq_true g19a,decide_eq_true g19b]
         refine fin_stop trivial (runs_call (of_c T hbl hil) rfl rfl rfl (by simp only [dstOk,Nat.reduceLT]) (by repeat (first|exact trivial|constructor)) (runs_eval tab_ok ?_))
         simp only [ev0,evA,evB,evP,fl,gp,tab,simprocAttr,reduceCtorEq,reduceIte,decide_eq_true g19a,decide_eq_true g19b]
         refine fin_run ?_ (hK _ ?_)<;>clear hK<;>clear K
         ·(first|exact trivial|omega|(simp only [In64] at *; omega)|(simp [In64] at *; omega)|(simp_all; done)|skip)
         refine qd (qa ?_)
         refine hk_region fun K hK=>runs_eval tab_ok ?_
         simp only [ev0,evA,evB,evP,fl,gp,tab,simprocAttr,reduceCtorEq,reduceIte]
         refine fin_run ?_ (hK _ ?_)<;>clear hK<;>clear K
         ·(first|exact trivial|omega|(simp only [In64] at *; omega)|(simp [In64] at *; omega)|(simp_all; done)|skip)
         refine qa ?_
         refine ⟨b + 1,[0,1],by omega,by omega,?_⟩
         have hd:decide (∀ c,c < b + 1→op m n i c=c∧op m n c i=c)=decide (((op m n b i:Nat):Int)=(b:Nat)):=by
          apply decide_eq_decide.2
          constructor
          ·intro h; have:=h b (by omega); omega
          ·intro h c hc
           by_cases hcb:c=b
           ·subst hcb; omega
           ·exact g19a c (by omega)
         rw [hd]
         simp only [leq,leA,ev0,evA,evB,evP,fl,gp,tab,simprocAttr,reduceCtorEq,reduceIte]<;>first|trivial|omega
        ·refine hk_region fun K hK=>runs_eval tab_ok ?_
         simp only [ev0,evA,evB,evP,fl,gp,tab,simprocAttr,reduceCtorEq,reduceIte,decide_eq_true g19a,decide_eq_false g19b]
         refine fin_stop trivial (runs_call (of_c T hil hbl) rfl rfl rfl (by simp only [dstOk,Nat.reduceLT]) (by repeat (first|exact trivial|constructor)) (runs_eval tab_ok ?_))
         simp only [ev0,evA,evB,evP,fl,gp,tab,simprocAttr,reduceCtorEq,reduceIte,decide_eq_true g19a,decide_eq_false g19b]
         refine fin_run ?_ (hK _ ?_)<;>clear hK<;>clear K
         ·(first|exact trivial|omega|(simp only [In64] at *; omega)|(simp [In64] at *; omega)|(simp_all; done)|skip)
         refine qd (qa ?_)
         refine hk_region fun K hK=>runs_eval tab_ok ?_
         simp only [ev0,evA,evB,evP,fl,gp,tab,simprocAttr,reduceCtorEq,reduceIte]
         refine fin_run ?_ (hK _ ?_)<;>clear hK<;>clear K
         ·(first|exact trivial|omega|(simp only [In64] at *; omega)|(simp [In64] at *; omega)|(simp_all; done)|skip)
         refine qa ?_
         refine ⟨b + 1,[0,1],by omega,by omega,?_⟩
         rw [dall_no (P:=fun c=>op m n i c=c∧op m n c i=c) (b:=b) fun h=>by omega]
         simp only [leq,leA,ev0,evA,evB,evP,fl,gp,tab,simprocAttr,reduceCtorEq,reduceIte]<;>first|trivial|omega
       ·refine hk_region fun K hK=>runs_eval tab_ok ?_
        simp only [ev0,evA,evB,evP,fl,gp,tab,simprocAttr,reduceCtorEq,reduceIte,decide_eq_false g19a]
        refine fin_run trivial (hK _ ?_)<;>clear hK<;>clear K
        refine qd (qa ?_)
        refine hk_region fun K hK=>runs_eval tab_ok ?_
        simp only [ev0,evA,evB,evP,fl,gp,tab,simprocAttr,reduceCtorEq,reduceIte]
        refine fin_run ?_ (hK _ ?_)<;>clear hK<;>clear K
        ·(first|exact trivial|omega|(simp only [In64] at *; omega)|(simp [In64] at *; omega)|(simp_all; done)|skip)
        refine qa ?_
        refine ⟨b + 1,[0,1],by omega,by omega,?_⟩
        rw [show decide (∀ c,c < b + 1→op m n i c=c∧op m n c i=c)=false from decide_eq_false fun h=>g19a fun c hc=>h c (by omega)]
        simp only [leq,leA,ev0,evA,evB,evP,fl,gp,tab,simprocAttr,reduceCtorEq,reduceIte]<;>first|trivial|omega
      ·(try simp only [nhs] at hC6)
       have hbn:b=n:=by omega
       subst hbn
       refine qj (qc (qc (qf (qa (qm ?_)))))
       refine hk_region fun K hK=>runs_eval tab_ok ?_
       simp only [ev0,evA,evB,evP,fl,gp,tab,simprocAttr,reduceCtorEq,reduceIte]
       refine fin_run trivial (hK _ ?_)<;>clear hK<;>clear K
       refine qa ?_
       refine hk_cond rfl (fun hone=>?_) (fun hone=>?_)
       ·(try simp only [nhs] at hone)
        refine hk_region fun K hK=>runs_eval tab_ok ?_
        simp only [ev0,evA,evB,evP,fl,gp,tab,simprocAttr,reduceCtorEq,reduceIte]
        refine fin_run trivial (hK _ ?_)<;>clear hK<;>clear K
        refine qd (qa ?_)
        refine hk_region fun K hK=>runs_eval tab_ok ?_
        simp only [ev0,evA,evB,evP,fl,gp,tab,simprocAttr,reduceCtorEq,reduceIte]
        refine fin_run ?_ (hK _ ?_)<;>clear hK<;>clear K
        ·(first|exact trivial|omega|(simp only [In64] at *; omega)|(simp [In64] at *; omega)|(simp_all; done)|skip)
        refine qa ?_
        refine ⟨i + 1,[0,1],by omega,by omega,?_⟩
        simp only [oneI]
        rw [if_pos (show isE m b i from hone)]
        simp only [leq,leA,ev0,evA,evB,evP,fl,gp,tab,simprocAttr,reduceCtorEq,reduceIte]<;>first|trivial|omega
       ·(try simp only [nhs] at hone)
        refine qh (qd (qa ?_))
        refine hk_region fun K hK=>runs_eval tab_ok ?_
        simp only [ev0,evA,evB,evP,fl,gp,tab,simprocAttr,reduceCtorEq,reduceIte]
        refine fin_run ?_ (hK _ ?_)<;>clear hK<;>clear K
        ·(first|exact trivial|omega|(simp only [In64] at *; omega)|(simp [In64] at *; omega)|(simp_all; done)|skip)
        refine qa ?_
        refine ⟨i + 1,[0,1],by omega,by omega,?_⟩
        simp only [oneI]
        rw [if_neg (show ¬ isE m b i from hone)]
        simp only [leq,leA,ev0,evA,evB,evP,fl,gp,tab,simprocAttr,reduceCtorEq,reduceIte]<;>first|trivial|omega
     ·(try simp only [nhs] at hC5)
      have hin:i=n:=by omega
      subst hin
      rw [oneI_eI]
      refine qj (qc (qc (qf (qa (qm (qm ?_))))))
      refine hk_region fun K hK=>runs_eval tab_ok ?_
      simp only [ev0,evA,evB,evP,fl,gp,tab,simprocAttr,reduceCtorEq,reduceIte]
      refine fin_run trivial (hK _ ?_)<;>clear hK<;>clear K
      refine qa ?_
      refine hk_cond rfl (fun hC8=>?_) (fun hC8=>?_)
      ·(try simp only [nhs] at hC8)
       refine qm ?_
       refine hk_region fun K hK=>runs_eval tab_ok ?_
       simp only [ev0,evA,evB,evP,fl,gp,tab,simprocAttr,reduceCtorEq,reduceIte]
       refine fin_stop trivial (runs_call (fault_c 6 0) rfl rfl rfl (by simp only [dstOk,Nat.reduceLT]) (by repeat (first|exact trivial|constructor)) (runs_eval tab_ok ?_))
       simp only [ev0,evA,evB,evP,fl,gp,tab,simprocAttr,reduceCtorEq,reduceIte]
       refine fin_run ?_ (hK _ ?_)<;>clear hK<;>clear K
       ·(first|exact trivial|omega|(simp only [In64] at *; omega)|(simp [In64] at *; omega)|(simp_all; done)|skip)
       refine qa (qk (qb ?_))
       simp only [Tryd.results76,enA,ev0,evA,evB,evP,fl,gp,tab,simprocAttr,reduceCtorEq,reduceIte]
       all_goals (rw [gf_tab T,gf2_6 hC8]; simp)
      ·(try simp only [nhs] at hC8)
       refine qh (qa (qm (qm ?_)))
       refine hk_region fun K hK=>runs_eval tab_ok ?_
       simp only [ev0,evA,evB,evP,fl,gp,tab,simprocAttr,reduceCtorEq,reduceIte]
       refine fin_run ?_ (hK _ ?_)<;>clear hK<;>clear K
       ·(first|exact trivial|omega|(simp only [In64] at *; omega)|(simp [In64] at *; omega)|(simp_all; done)|skip)
       refine qa (ql ?_)
       refine hk_loop (ι:=Nat) (fun a=>⟨144,[(1,.ptr 0 0),(2,.ptr 1 0),(5,.p (.int .i64 (eI m i))),(86,.p (.int .i64 i)),(87,.p (.int .i64 a))],[.own [.p (.int .i64 i),.p (.list (il m))],.own [.p (.int .i64 0),.p (.int .i64 0)]]⟩) (fun a=>a≤i∧∀ j,j < a→asc m i j) (fun a=>i - a) 0 ⟨Nat.zero_le _,fun j hj=>by omega⟩ [0,1] (by simp only [leq,leA,ev0,evA,evB,evP,fl,gp,tab,simprocAttr,reduceCtorEq,reduceIte]<;>trivial) fun a ha=>?_
       obtain ⟨ha1,ha2⟩:=ha
       refine qm ?_
       refine hk_region fun K hK=>runs_eval tab_ok ?_
       simp only [ev0,evA,evB,evP,fl,gp,tab,simprocAttr,reduceCtorEq,reduceIte]
       refine fin_run trivial (hK _ ?_)<;>clear hK<;>clear K
       refine qa (qm ?_)
       refine hk_cond rfl (fun hC9=>?_) (fun hC9=>?_)
       ·(try simp only [nhs] at hC9)
        have hal:a < i:=by omega
        refine qh (qa (qm (ql (qm ?_))))
        refine hk_region fun K hK=>runs_eval tab_ok ?_
        simp only [ev0,evA,evB,evP,fl,gp,tab,simprocAttr,reduceCtorEq,reduceIte]
        refine fin_run trivial (hK _ ?_)<;>clear hK<;>clear K
        refine qa (qm ?_)
        refine hk_region fun K hK=>runs_eval tab_ok ?_
        simp only [ev0,evA,evB,evP,fl,gp,tab,simprocAttr,reduceCtorEq,reduceIte]
        refine fin_run ?_ (hK _ ?_)<;>clear hK<;>clear K
        ·(first|exact trivial|omega|(simp only [In64] at *; omega)|(simp [In64] at *; omega)|(simp_all; done)|skip)
        refine qa (ql ?_)
        refine hk_loop (ι:=Nat) (fun b=>⟨144,[(1,.ptr 0 0),(2,.ptr 1 0),(5,.p (.int .i64 (eI m i))),(9,.p (.int .i64 a)),(86,.p (.int .i64 i)),(87,.p (.int .i64 a)),(91,.p (.int .i64 i)),(92,.p (.int .i64 b))],[.own [.p (.int .i64 i),.p (.list (il m))],.own [.p (.int .i64 0),.p (.int .i64 0)]]⟩) (fun b=>b≤i∧∀ j,j < b→∀ c,c < i→op m i (op m i a j) c=op m i a (op m i j c)) (fun b=>i - b) 0 ⟨Nat.zero_le _,fun j hj=>by omega⟩ [0,1] (by simp only [leq,leA,ev0,evA,evB,evP,fl,gp,tab,simprocAttr,reduceCtorEq,reduceIte]<;>trivial) fun b hb=>?_
        obtain ⟨hb1,hb2⟩:=hb
        refine qm ?_
        refine hk_region fun K hK=>runs_eval tab_ok ?_
        simp only [ev0,evA,evB,evP,fl,gp,tab,simprocAttr,reduceCtorEq,reduceIte]
        refine fin_run trivial (hK _ ?_)<;>clear hK<;>clear K
        refine qa (qm ?_)
        refine hk_cond rfl (fun hC10=>?_) (fun hC10=>?_)
        ·(try simp only [nhs] at hC10)
         have hbl:b < i:=by omega
         refine qh (qa (qm (ql (qm ?_))))
         refine hk_region fun K hK=>runs_eval tab_ok ?_
         simp only [ev0,evA,evB,evP,fl,gp,tab,simprocAttr,reduceCtorEq,reduceIte]
         refine fin_run trivial (hK _ ?_)<;>clear hK<;>clear K
         refine qa (qm ?_)
         refine hk_region fun K hK=>runs_eval tab_ok ?_
         simp only [ev0,evA,evB,evP,fl,gp,tab,simprocAttr,reduceCtorEq,reduceIte]
         refine fin_run ?_ (hK _ ?_)<;>clear hK<;>clear K
         ·(first|exact trivial|omega|(simp only [In64] at *; omega)|(simp [In64] at *; omega)|(simp_all; done)|skip)
         refine qa (ql ?_)
         refine hk_loop (ι:=Nat) (fun c=>⟨144,[(1,.ptr 0 0),(2,.ptr 1 0),(5,.p (.int .i64 (eI m i))),(9,.p (.int .i64 a)),(10,.p (.int .i64 b)),(86,.p (.int .i64 i)),(87,.p (.int .i64 a)),(91,.p (.int .i64 i)),(92,.p (.int .i64 b)),(96,.p (.int .i64 i)),(97,.p (.int .i64 c))],[.own [.p (.int .i64 i),.p (.list (il m))],.own [.p (.int .i64 0),.p (.int .i64 0)]]⟩) (fun c=>c≤i∧∀ j,j < c→op m i (op m i a b) j=op m i a (op m i b j)) (fun c=>i - c) 0 ⟨Nat.zero_le _,fun j hj=>by omega⟩ [0,1] (by simp only [leq,leA,ev0,evA,evB,evP,fl,gp,tab,simprocAttr,reduceCtorEq,reduceIte]<;>trivial) fun c hc=>?_
         obtain ⟨hc1,hc2⟩:=hc
         refine qm ?_
         refine hk_region fun K hK=>runs_eval tab_ok ?_
         simp only [ev0,evA,evB,evP,fl,gp,tab,simprocAttr,reduceCtorEq,reduceIte]
         refine fin_run trivial (hK _ ?_)<;>clear hK<;>clear K
         refine qa (qm ?_)
         refine hk_cond rfl (fun hC11=>?_) (fun hC11=>?_)
         ·(try simp only [nhs] at hC11)
          have hcl:c < i:=by omega
          refine qh (qa (qm (ql (qm ?_))))
          refine hk_region fun K hK=>runs_eval tab_ok ?_
          simp only [ev0,evA,evB,evP,fl,gp,tab,simprocAttr,reduceCtorEq,reduceIte]
          refine fin_run trivial (hK _ ?_)<;>clear hK<;>clear K
          refine qa (qm ?_)
          refine hk_draw mixed (by kernel_rfl) fun K hK=>runs_eval tab_ok ?_
          simp only [ev0,evA,evB,evP,fl,gp,tab,simprocAttr,reduceCtorEq,reduceIte]
          refine fin_stop trivial (runs_call (of_c T hal hbl) rfl rfl rfl (by simp only [dstOk,Nat.reduceLT]) (by repeat (first|exact trivial|constructor)) (runs_eval tab_ok ?_))
          simp only [ev0,evA,evB,evP,fl,gp,tab,simprocAttr,reduceCtorEq,reduceIte]
          refine fin_stop trivial (runs_call (of_c T (T.lt hal hbl) hcl) rfl rfl rfl (by simp only [dstOk,Nat.reduceLT]) (by repeat (first|exact trivial|constructor)) (runs_eval tab_ok ?_))
          simp only [ev0,evA,evB,evP,fl,gp,tab,simprocAttr,reduceCtorEq,reduceIte]
          refine fin_stop trivial (runs_call (of_c T hbl hcl) rfl rfl rfl (by simp only [dstOk,Nat.reduceLT]) (by repeat (first|exact trivial|constructor)) (runs_eval tab_ok ?_))
          simp only [ev0,evA,evB,evP,fl,gp,tab,simprocAttr,reduceCtorEq,reduceIte]
          refine fin_stop trivial (runs_call (of_c T hal (T.lt hbl hcl)) rfl rfl rfl (by simp only [dstOk,Nat.reduceLT]) (by repeat (first|exact trivial|constructor)) (runs_eval tab_ok ?_))
          simp only [ev0,evA,evB,evP,fl,gp,tab,simprocAttr,reduceCtorEq,reduceIte]
          refine fin_run ?_ (hK _ ?_)<;>clear hK<;>clear K
          ·(first|exact trivial|omega|(simp only [In64] at *; omega)|(simp [In64] at *; omega)|(simp_all; done)|skip)
          refine qa ?_
          refine hk_cond rfl (fun hC12=>?_) (fun hC12=>?_)
          ·(try simp only [nhs] at hC12)
           refine qm ?_
           refine hk_region fun K hK=>runs_eval tab_ok ?_
           simp only [ev0,evA,evB,evP,fl,gp,tab,simprocAttr,reduceCtorEq,reduceIte]
           refine fin_stop trivial (runs_call (fault_c 7 a) rfl rfl rfl (by simp only [dstOk,Nat.reduceLT]) (by repeat (first|exact trivial|constructor)) (runs_eval tab_ok ?_))
           simp only [ev0,evA,evB,evP,fl,gp,tab,simprocAttr,reduceCtorEq,reduceIte]
           refine fin_run ?_ (hK _ ?_)<;>clear hK<;>clear K
           ·(first|exact trivial|omega|(simp only [In64] at *; omega)|(simp [In64] at *; omega)|(simp_all; done)|skip)
           refine qa (qk (qe (qb (qb (qe (qe (qb (qb (qe (qe (qb (qb (qe (qb ?_))))))))))))))
           simp only [Tryd.results76,enA,ev0,evA,evB,evP,fl,gp,tab,simprocAttr,reduceCtorEq,reduceIte]
           all_goals (rw [gf_tab T,gf2_7 hC8 hal (fun h=>hC12 (by rw [h b hbl c hcl])) ha2]; simp)
          ·(try simp only [nhs] at hC12)
           refine qh (qd (qa ?_))
           refine hk_region fun K hK=>runs_eval tab_ok ?_
           simp only [ev0,evA,evB,evP,fl,gp,tab,simprocAttr,reduceCtorEq,reduceIte]
           refine fin_run ?_ (hK _ ?_)<;>clear hK<;>clear K
           ·(first|exact trivial|omega|(simp only [In64] at *; omega)|(simp [In64] at *; omega)|(simp_all; done)|skip)
           refine qa ?_
           refine ⟨c + 1,[0,1],⟨by omega,fun j hj=>?_⟩,by omega,?_⟩
           ·by_cases hj:j=c
            ·subst hj; omega
            ·exact hc2 j (by omega)
           ·simp only [leq,leA,ev0,evA,evB,evP,fl,gp,tab,simprocAttr,reduceCtorEq,reduceIte]<;>first|trivial|omega
         ·(try simp only [nhs] at hC11)
          refine qj (qc (qc (qf (qd (qa ?_)))))
          refine hk_region fun K hK=>runs_eval tab_ok ?_
          simp only [ev0,evA,evB,evP,fl,gp,tab,simprocAttr,reduceCtorEq,reduceIte]
          refine fin_run ?_ (hK _ ?_)<;>clear hK<;>clear K
          ·(first|exact trivial|omega|(simp only [In64] at *; omega)|(simp [In64] at *; omega)|(simp_all; done)|skip)
          refine qa ?_
          refine ⟨b + 1,[0,1],⟨by omega,fun j hj=>?_⟩,by omega,?_⟩
          ·by_cases hj:j=b
           ·subst hj; exact fun c' hc'=>hc2 c' (by omega)
           ·exact hb2 j (by omega)
          ·simp only [leq,leA,ev0,evA,evB,evP,fl,gp,tab,simprocAttr,reduceCtorEq,reduceIte]<;>first|trivial|omega
        ·(try simp only [nhs] at hC10)
         refine qj (qc (qc (qf (qd (qa ?_)))))
         refine hk_region fun K hK=>runs_eval tab_ok ?_
         simp only [ev0,evA,evB,evP,fl,gp,tab,simprocAttr,reduceCtorEq,reduceIte]
         refine fin_run ?_ (hK _ ?_)<;>clear hK<;>clear K
         ·(first|exact trivial|omega|(simp only [In64] at *; omega)|(simp [In64] at *; omega)|(simp_all; done)|skip)
         refine qa ?_
         refine ⟨a + 1,[0,1],⟨by omega,fun j hj=>?_⟩,by omega,?_⟩
         ·by_cases hj:j=a
          ·subst hj; exact fun c' hc'=>hb2 c' (by omega)
          ·exact ha2 j (by omega)
         ·simp only [leq,leA,ev0,evA,evB,evP,fl,gp,tab,simprocAttr,reduceCtorEq,reduceIte]<;>first|trivial|omega
       ·(try simp only [nhs] at hC9)
        have hs:∀ a,a < i→asc m i a:=fun j hj=>ha2 j (by omega)
        refine qj (qc (qc (qf (qa (qm (qm ?_))))))
        refine hk_region fun K hK=>runs_eval tab_ok ?_
        simp only [ev0,evA,evB,evP,fl,gp,tab,simprocAttr,reduceCtorEq,reduceIte]
        refine fin_run ?_ (hK _ ?_)<;>clear hK<;>clear K
        ·(first|exact trivial|omega|(simp only [In64] at *; omega)|(simp [In64] at *; omega)|(simp_all; done)|skip)
        refine qa (ql ?_)
        refine hk_loop (ι:=Nat) (fun a=>⟨144,[(1,.ptr 0 0),(2,.ptr 1 0),(5,.p (.int .i64 (eI m i))),(121,.p (.int .i64 i)),(122,.p (.int .i64 a))],[.own [.p (.int .i64 i),.p (.list (il m))],.own [.p (.int .i64 0),.p (.int .i64 0)]]⟩) (fun a=>a≤i∧∀ j,j < a→¬ iI m i j < 0) (fun a=>i - a) 0 ⟨Nat.zero_le _,fun j hj=>by omega⟩ [0,1] (by simp only [leq,leA,ev0,evA,evB,evP,fl,gp,tab,simprocAttr,reduceCtorEq,reduceIte]<;>trivial) fun k hk=>?_
        obtain ⟨hk1,hk2⟩:=hk
        refine qm ?_
        refine hk_region fun K hK=>runs_eval tab_ok ?_
        simp only [ev0,evA,evB,evP,fl,gp,tab,simprocAttr,reduceCtorEq,reduceIte]
        refine fin_run trivial (hK _ ?_)<;>clear hK<;>clear K
        refine qa (qm ?_)
        refine hk_cond rfl (fun hC13=>?_) (fun hC13=>?_)
        ·(try simp only [nhs] at hC13)
         have hkl:k < i:=by omega
         have ht:=inv_test T hC8 hs hkl
         have hr1:=row_len T hkl
         have hr2:(k + 1) * i≤i * i:=Nat.mul_le_mul_right _ hkl
         have hr3:k * i≤(k + 1) * i:=Nat.mul_le_mul_right _ (by omega)
         have hr4:(k:Int) * (i:Int)=((k * i:Nat):Int):=(Int.natCast_mul k i).symm
         have hr5:((k:Int) + 1) * (i:Int)=(((k + 1) * i:Nat):Int):=by rw [Int.natCast_mul]; rfl
         refine qh (qa (qm (ql (qm ?_))))
         refine hk_region fun K hK=>runs_eval tab_ok ?_
         simp only [ev0,evA,evB,evP,fl,gp,tab,simprocAttr,reduceCtorEq,reduceIte]
         refine fin_run trivial (hK _ ?_)<;>clear hK<;>clear K
         refine qa (qm ?_)
         refine hk_region fun K hK=>runs_eval tab_ok ?_
         simp only [ev0,evA,evB,evP,fl,gp,tab,simprocAttr,reduceCtorEq,reduceIte,lo_nat,hi_nat,hi_sub]
         refine fin_stop ?_ (runs_call (contains_c (row m i k) (eI m i) (by omega)) rfl rfl rfl (by simp only [dstOk,Nat.reduceLT]) (by repeat (first|exact trivial|constructor)) (runs_eval tab_ok ?_))
         ·rw [hr4,hr5]; simp only [In64]; omega
         simp only [ev0,evA,evB,evP,fl,gp,tab,simprocAttr,reduceCtorEq,reduceIte,lo_nat,hi_nat,hi_sub]
         refine fin_run ?_ (hK _ ?_)<;>clear hK<;>clear K
         ·(first|exact trivial|omega|(simp only [In64] at *; omega)|(simp [In64] at *; omega)|(simp_all; done)|skip)
         refine qa ?_
         refine hk_cond rfl (fun hC14=>?_) (fun hC14=>?_)
         ·(try simp only [nhs] at hC14)
          refine qm ?_
          refine hk_region fun K hK=>runs_eval tab_ok ?_
          simp only [ev0,evA,evB,evP,fl,gp,tab,simprocAttr,reduceCtorEq,reduceIte]
          refine fin_stop trivial (runs_call (fault_c 4 k) rfl rfl rfl (by simp only [dstOk,Nat.reduceLT]) (by repeat (first|exact trivial|constructor)) (runs_eval tab_ok ?_))
          simp only [ev0,evA,evB,evP,fl,gp,tab,simprocAttr,reduceCtorEq,reduceIte]
          refine fin_run ?_ (hK _ ?_)<;>clear hK<;>clear K
          ·(first|exact trivial|omega|(simp only [In64] at *; omega)|(simp [In64] at *; omega)|(simp_all; done)|skip)
          refine qa (qk (qe (qb (qb (qe (qb ?_))))))
          simp only [Tryd.results76,enA,ev0,evA,evB,evP,fl,gp,tab,simprocAttr,reduceCtorEq,reduceIte]
          all_goals (rw [gf_tab T,gf2_4 hC8 hs hkl (Classical.not_not.1 fun h=>hC14 (ht.2 h)) hk2]; simp)
         ·(try simp only [nhs] at hC14)
          refine qh (qd (qa ?_))
          refine hk_region fun K hK=>runs_eval tab_ok ?_
          simp only [ev0,evA,evB,evP,fl,gp,tab,simprocAttr,reduceCtorEq,reduceIte]
          refine fin_run ?_ (hK _ ?_)<;>clear hK<;>clear K
          ·(first|exact trivial|omega|(simp only [In64] at *; omega)|(simp [In64] at *; omega)|(simp_all; done)|skip)
          refine qa ?_
          refine ⟨k + 1,[0,1],⟨by omega,fun j hj=>?_⟩,by omega,?_⟩
          ·by_cases hj:j=k
           ·subst hj; exact ht.1 hC14
           ·exact hk2 j (by omega)
          ·simp only [leq,leA,ev0,evA,evB,evP,fl,gp,tab,simprocAttr,reduceCtorEq,reduceIte]<;>first|trivial|omega
        ·(try simp only [nhs] at hC13)
         refine qj (qc (qc (qf (qa (qm ?_)))))
         refine hk_region fun K hK=>runs_eval tab_ok ?_
         simp only [ev0,evA,evB,evP,fl,gp,tab,simprocAttr,reduceCtorEq,reduceIte]
         refine fin_run ?_ (hK _ ?_)<;>clear hK<;>clear K
         ·(first|exact trivial|omega|(simp only [In64] at *; omega)|(simp [In64] at *; omega)|(simp_all; done)|skip)
         refine qa (qk ?_)
         simp only [Tryd.results76,enA,ev0,evA,evB,evP,fl,gp,tab,simprocAttr,reduceCtorEq,reduceIte]
         all_goals (rw [gf_tab T,gf2_0 hC8 hs (fun j hj=>hk2 j (by omega))]; simp)
end Go.Proofs.YtboadfahlflmhaaDoor

/-
  Walks: the program's words of groups: things, powers, orders. Conditions: none.
-/
set_option linter.all false
namespace Go.Proofs.YtboadfahlflmhaaDoor
open Go.Pv

theorem oneOf_c {n e:Nat} {m:List Int} (h:GT n m n e):FnC Tryd.prog 102 [gp n m] (.int .i64 (e:Nat)):=by
 have G:=h.2.2
 have T:=h.2.1
 have hb:=T.big
 have hel:=G.el
 refine fnc_of tab_ok Tryd.func102 rfl (by kernel_rfl) (by rw [Tryd.ntmps102]; exact Nat.le_add_left 1 _) ?_; rw [Tryd.ntmps102]
 refine qm ?_
 refine hk_region fun K hK=>runs_eval tab_ok ?_
 simp only [ev0,evA,evB,evP,fl,gp,tab,simprocAttr,reduceCtorEq,reduceIte]
 refine fin_run ?_ (hK _ ?_)<;>clear hK<;>clear K
 ·(first|exact trivial|omega|(simp only [In64] at *; omega)|(simp [In64] at *; omega)|(simp_all; done)|skip)
 refine qa (qm (qm ?_))
 refine hk_region fun K hK=>runs_eval tab_ok ?_
 simp only [ev0,evA,evB,evP,fl,gp,tab,simprocAttr,reduceCtorEq,reduceIte]
 refine fin_run ?_ (hK _ ?_)<;>clear hK<;>clear K
 ·(first|exact trivial|omega|(simp only [In64] at *; omega)|(simp [In64] at *; omega)|(simp_all; done)|skip)
 refine qa (ql ?_)
 refine hk_loop (ι:=Nat) (fun i=>⟨17,[(1,.ptr 0 0),(5,.p (.int .i64 n)),(6,.p (.int .i64 i))],[.own [.p (.int .i64 n),.p (.list (il m))]]⟩) (fun i=>i≤e) (fun i=>n - i) 0 (Nat.zero_le _) [0] (by simp only [leq,leA,ev0,evA,evB,evP,fl,gp,tab,simprocAttr,reduceCtorEq,reduceIte]<;>trivial) fun i hi=>?_
 refine qm ?_
 refine hk_region fun K hK=>runs_eval tab_ok ?_
 simp only [ev0,evA,evB,evP,fl,gp,tab,simprocAttr,reduceCtorEq,reduceIte]
 refine fin_run trivial (hK _ ?_)<;>clear hK<;>clear K
 refine qa (qm ?_)
 refine hk_cond rfl (fun hC1=>?_) (fun hC1=>?_)
 ·(try simp only [nhs] at hC1)
  refine qh (qa (qm (ql (qm ?_))))
  refine hk_region fun K hK=>runs_eval tab_ok ?_
  simp only [ev0,evA,evB,evP,fl,gp,tab,simprocAttr,reduceCtorEq,reduceIte]
  refine fin_run trivial (hK _ ?_)<;>clear hK<;>clear K
  refine qa (qm ?_)
  refine hk_region fun K hK=>runs_eval tab_ok ?_
  simp only [ev0,evA,evB,evP,fl,gp,tab,simprocAttr,reduceCtorEq,reduceIte]
  refine fin_stop trivial (runs_call (of_c T (show i < n by omega) (show i < n by omega)) rfl rfl rfl (by simp only [dstOk,Nat.reduceLT]) (by repeat (first|exact trivial|constructor)) (runs_eval tab_ok ?_))
  simp only [ev0,evA,evB,evP,fl,gp,tab,simprocAttr,reduceCtorEq,reduceIte]
  refine fin_run ?_ (hK _ ?_)<;>clear hK<;>clear K
  ·(first|exact trivial|omega|(simp only [In64] at *; omega)|(simp [In64] at *; omega)|(simp_all; done)|skip)
  refine qa ?_
  refine hk_cond rfl (fun hC2=>?_) (fun hC2=>?_)
  ·(try simp only [nhs] at hC2)
   have hie:i=e:=(G.idem (by omega)).1 (by omega)
   refine qm ?_
   refine hk_region fun K hK=>runs_eval tab_ok ?_
   simp only [ev0,evA,evB,evP,fl,gp,tab,simprocAttr,reduceCtorEq,reduceIte]
   refine fin_run trivial (hK _ ?_)<;>clear hK<;>clear K
   refine qa (qk (qe (qb (qb (qe (qb ?_))))))
   simp only [Tryd.results102,enA,ev0,evA,evB,evP,fl,gp,tab,simprocAttr,reduceCtorEq,reduceIte]
   all_goals (rw [hie])
  ·(try simp only [nhs] at hC2)
   have hie:i ≠ e:=fun h=>hC2 (by rw [(G.idem (show i < n by omega)).2 h])
   refine qh (qd (qa ?_))
   refine hk_region fun K hK=>runs_eval tab_ok ?_
   simp only [ev0,evA,evB,evP,fl,gp,tab,simprocAttr,reduceCtorEq,reduceIte]
   refine fin_run ?_ (hK _ ?_)<;>clear hK<;>clear K
   ·(first|exact trivial|omega|(simp only [In64] at *; omega)|(simp [In64] at *; omega)|(simp_all; done)|skip)
   refine qa ?_
   refine ⟨i + 1,[0],by omega,by omega,?_⟩
   simp only [leq,leA,ev0,evA,evB,evP,fl,gp,tab,simprocAttr,reduceCtorEq,reduceIte]<;>first|trivial|omega
 ·(try simp only [nhs] at hC1)
  omega

/-! ### With their faults -/

/-- A row by a rule. -/
def rg (g:Nat→Int) (i:Nat):List Int:=(List.range i).map g
theorem rg_succ (g:Nat→Int) (i:Nat):rg g (i + 1)=rg g i++[g i]:=by simp [rg,List.range_succ]
theorem rg_len (g:Nat→Int) (i:Nat):(rg g i).length=i:=by simp [rg]
theorem rg_get (g:Nat→Int) {n i:Nat} (h:i < n):(rg g n).getD i 0=g i:=by
 simp [rg,List.getD,List.getElem?_range h]

end Go.Proofs.YtboadfahlflmhaaDoor

/-
  Sets of things as bits: plain laws of bits; the words of package sub that reckon with them. Conditions: none.
-/
set_option linter.all false
namespace Go.Proofs.YtboadfahlflmhaaDoor
open Go.Pv

/-! ### Numbers of 64 bits -/

theorem wrap_u (z:Int):IntKind.u64.wrap z=z % 18446744073709551616:=rfl
theorem wrap_n {a:Nat} (h:a < 2 ^ 64):IntKind.u64.wrap (a:Int)=(a:Int):=by
 rw [wrap_u]; omega
theorem ofInt_n {a:Nat} (h:a < 2 ^ 64):(BitVec.ofInt 64 (a:Int)).toNat=a:=by
 rw [BitVec.toNat_ofInt]; omega

theorem bv_and {a b:Nat} (ha:a < 2 ^ 64) (hb:b < 2 ^ 64):bitsV (fun _ x y=>x &&& y) .u64 (a:Int) (b:Int) = .int .u64 ((a &&& b:Nat):Int):=by
 show PV.int .u64 (IntKind.u64.wrap ((BitVec.ofInt 64 (a:Int) &&& BitVec.ofInt 64 (b:Int)).toNat:Int))=_
 rw [BitVec.toNat_and,ofInt_n ha,ofInt_n hb,wrap_n (Nat.and_lt_two_pow a hb)]
theorem bv_or {a b:Nat} (ha:a < 2 ^ 64) (hb:b < 2 ^ 64):bitsV (fun _ x y=>x ||| y) .u64 (a:Int) (b:Int) = .int .u64 ((a ||| b:Nat):Int):=by
 show PV.int .u64 (IntKind.u64.wrap ((BitVec.ofInt 64 (a:Int) ||| BitVec.ofInt 64 (b:Int)).toNat:Int))=_
 rw [BitVec.toNat_or,ofInt_n ha,ofInt_n hb,wrap_n (Nat.or_lt_two_pow ha hb)]
theorem bits_u:IntKind.u64.bits=64:=rfl
theorem shl_one {b:Nat} (hb:b < 64):IntKind.u64.wrap (1 * 2 ^ (min b IntKind.u64.bits))=((2 ^ b:Nat):Int):=by
 rw [bits_u,Nat.min_eq_left (by omega),Int.one_mul,show (2:Int) ^ b=((2 ^ b:Nat):Int) by simp,wrap_n (Nat.pow_lt_pow_right (by omega) hb)]
theorem shr_n {a b:Nat} (hb:b < 64):(a:Int).fdiv (2 ^ (min b IntKind.u64.bits))=((a / 2 ^ b:Nat):Int):=by
 rw [bits_u,Nat.min_eq_left (by omega),show (2:Int) ^ b=((2 ^ b:Nat):Int) by simp,Int.fdiv_eq_ediv_of_nonneg _ (Int.natCast_nonneg _),← Int.natCast_ediv]

theorem bv_and1 {a:Nat} (ha:a < 2 ^ 64):bitsV (fun _ x y=>x &&& y) .u64 (a:Int) 1 = .int .u64 ((a % 2:Nat):Int):=by
 have:=bv_and ha (show 1 < 2 ^ 64 by omega)
 rwa [Nat.and_one_is_mod] at this

/-! ### The lowest bit -/

/-- The lowest bit that is set. -/
def tz (s:Nat):Nat:=(fst' s.testBit 64).getD 64

theorem bit_lt {s i:Nat} (hs:s < 2 ^ 64) (h:s.testBit i=true):i < 64:=by
 rcases Nat.lt_or_ge i 64 with h1 | h1
 ·exact h1
 ·have:=Nat.testBit_lt_two_pow (Nat.lt_of_lt_of_le hs (Nat.pow_le_pow_right (by omega) h1))
  rw [h] at this; cases this
theorem tz_spec {s:Nat} (hs:s < 2 ^ 64) (h0:s ≠ 0):tz s < 64∧s.testBit (tz s)=true∧∀ j,j < tz s→s.testBit j=false:=by
 cases h:fst' s.testBit 64 with
 | none =>
  obtain ⟨i,hi⟩:=Nat.exists_testBit_of_ne_zero h0
  have:=fst_spec0 h i (bit_lt hs hi)
  rw [hi] at this; cases this
 | some a =>
  have e:tz s=a:=by unfold tz; rw [h]; rfl
  rw [e]
  exact fst_spec h
theorem tz_split {s:Nat} (hs:s < 2 ^ 64) (h0:s ≠ 0):s=2 ^ (tz s + 1) * (s / 2 ^ (tz s + 1)) + 2 ^ tz s:=by
 obtain ⟨h1,h2,h3⟩:=tz_spec hs h0
 have e1:s % 2 ^ (tz s + 1)=2 ^ tz s:=by
  refine Nat.eq_of_testBit_eq fun i=>?_
  rw [Nat.testBit_mod_two_pow,Nat.testBit_two_pow]
  rcases Nat.lt_trichotomy i (tz s) with h | h | h
  ·rw [h3 i h]; simp; omega
  ·subst h; rw [h2]; simp
  ·have a1:decide (i < tz s + 1)=false:=by simp; omega
   have a2:decide (tz s=i)=false:=by simp; omega
   rw [a1,a2]; rfl
 have:=Nat.div_add_mod s (2 ^ (tz s + 1))
 omega
theorem bit_pred {s:Nat} (hs:s < 2 ^ 64) (h0:s ≠ 0) (i:Nat):(s - 1).testBit i=if i < tz s then true else if i=tz s then false else s.testBit i:=by
 have e:=tz_split hs h0
 have hp:0 < 2 ^ tz s:=Nat.two_pow_pos _
 have e1:s - 1=2 ^ (tz s + 1) * (s / 2 ^ (tz s + 1)) + (2 ^ tz s - 1):=by omega
 have hlt:2 ^ tz s < 2 ^ (tz s + 1):=Nat.pow_lt_pow_right (by omega) (by omega)
 have b1:s.testBit i=(2 ^ (tz s + 1) * (s / 2 ^ (tz s + 1)) + 2 ^ tz s).testBit i:=by rw [← e]
 rw [e1,Nat.testBit_two_pow_mul_add _ (by omega),b1,Nat.testBit_two_pow_mul_add _ hlt,Nat.testBit_two_pow_sub_one]
 rcases Nat.lt_trichotomy i (tz s) with h | h | h
 ·rw [if_pos (by omega),if_pos h]; simpa using h
 ·rw [if_pos (by omega),if_neg (by omega),if_pos h]; simp; omega
 ·rw [if_neg (by omega),if_neg (by omega),if_neg (by omega),if_neg (by omega)]
theorem low_bit {s:Nat} (hs:s < 2 ^ 64) (h0:s ≠ 0):s &&& (2 ^ 64 - s)=2 ^ tz s:=by
 obtain ⟨h1,h2,h3⟩:=tz_spec hs h0
 refine Nat.eq_of_testBit_eq fun i=>?_
 have e:2 ^ 64 - s=2 ^ 64 - ((s - 1) + 1):=by omega
 rw [Nat.testBit_and,e,Nat.testBit_two_pow_sub_succ (by omega),bit_pred hs h0,Nat.testBit_two_pow]
 rcases Nat.lt_trichotomy i (tz s) with h | h | h
 ·rw [h3 i h]; simp; omega
 ·subst h; rw [h2]; simp; omega
 ·rw [if_neg (by omega),if_neg (by omega)]
  cases s.testBit i<;>simp<;>omega
/-- Without its lowest bit. -/
def cut (s:Nat):Nat:=s &&& (s - 1)
theorem cut_bit {s:Nat} (hs:s < 2 ^ 64) (h0:s ≠ 0) (i:Nat):(cut s).testBit i=(s.testBit i && !decide (i=tz s)):=by
 obtain ⟨h1,h2,h3⟩:=tz_spec hs h0
 unfold cut
 rw [Nat.testBit_and,bit_pred hs h0]
 rcases Nat.lt_trichotomy i (tz s) with h | h | h
 ·rw [h3 i h]; simp
 ·rw [if_neg (by omega),if_pos h]; simp [h]
 ·rw [if_neg (by omega),if_neg (by omega)]
  have:decide (i=tz s)=false:=by simp; omega
  rw [this]; simp
theorem cut_lt {s:Nat} (h0:s ≠ 0):cut s < s:=by
 have:cut s≤s - 1:=Nat.and_le_right
 omega

/-! ### Lists of sets -/

/-- The things of which something holds, rising. -/
def thn' (n:Nat) (p:Nat→Bool):List Nat:=(List.range n).filter p
/-- As numbers of the program. -/
def thl (n:Nat) (p:Nat→Bool):List Int:=(thn' n p).map (fun (a:Nat)=>(a:Int))

theorem thl_len (n:Nat) (p:Nat→Bool):(thl n p).length=(thn' n p).length:=by simp [thl]
theorem thn_congr {n:Nat} {p q:Nat→Bool} (h:∀ a,a < n→p a=q a):thn' n p=thn' n q:=List.filter_congr fun a ha=>h a (List.mem_range.1 ha)
theorem thl_congr {n:Nat} {p q:Nat→Bool} (h:∀ a,a < n→p a=q a):thl n p=thl n q:=by unfold thl; rw [thn_congr h]
theorem thl_succ (n:Nat) (p:Nat→Bool):thl (n + 1) p=thl n p++if p n=true then [(n:Int)] else []:=by
 unfold thl thn'
 rw [List.range_succ,List.filter_append,List.map_append]
 congr 1
 cases h:p n<;>simp [h]
theorem thl_ext {n m : Nat} {p : Nat → Bool} (h : n ≤ m) (hp : ∀ a, n ≤ a → a < m → p a = false) : thl m p = thl n p := by
  induction m with
  | zero => have : n = 0 := by omega
            subst this; rfl
  | succ m ih =>
    by_cases e : n = m + 1
    · subst e; rfl
    · rw [thl_succ, hp m (by omega) (by omega), ih (by omega) fun a h1 h2 => hp a h1 (by omega)]; simp
theorem mem_thn {n:Nat} {p:Nat→Bool} {a:Nat} : a∈thn' n p↔a < n∧p a=true:=by simp [thn']
theorem thl_le (n:Nat) (p:Nat→Bool):(thl n p).length≤n:=by
 rw [thl_len]
 have:=List.length_filter_le p (List.range n)
 rwa [List.length_range] at this
theorem thl_inj {n:Nat} {p q:Nat→Bool} (h:thl n p=thl n q) {a:Nat} (ha:a < n):p a=q a:=by
 have h1:thn' n p=thn' n q:=List.map_inj_right (f:=fun (a:Nat)=>(a:Int)) (fun x y h=>by have h' : (x:Int)=(y:Int):=h; omega) |>.1 h
 have h2:a∈thn' n p↔a∈thn' n q:=by rw [h1]
 rw [mem_thn,mem_thn] at h2
 cases hp:p a<;>cases hq:q a<;>simp_all

/-- The list of a set of bits. -/
def stl (s:Nat):List Int:=thl 64 s.testBit

theorem stl_zero:stl 0=[]:=by
 unfold stl thl thn'
 simp
theorem thn_first {n k:Nat} {p:Nat→Bool} (hk:k < n) (h1:p k=true) (h2:∀ j,j < k→p j=false):thn' n p=k :: thn' n (fun i=>p i && !decide (i=k)):=by
 unfold thn'
 have e:n=k + ((n - k - 1) + 1):=by omega
 rw [e,List.range_add,List.filter_append,List.filter_append]
 have z:∀ q:Nat→Bool,(∀ j,j < k→q j=false)→(List.range k).filter q=[]:=by
  intro q hq
  rw [List.filter_eq_nil_iff]
  intro a ha
  rw [hq a (List.mem_range.1 ha)]; simp
 rw [z p h2,z _ (fun j hj=>by rw [h2 j hj]; rfl),List.nil_append,List.nil_append,List.range_succ_eq_map,List.map_cons,List.filter_cons,List.filter_cons]
 rw [if_pos (by simpa using h1),if_neg (by simp)]
 simp only [Nat.add_zero,List.cons.injEq,true_and]
 refine List.filter_congr fun a ha=>?_
 simp only [List.map_map,List.mem_map,List.mem_range,Function.comp] at ha
 obtain ⟨j,_,rfl⟩:=ha
 have:decide (k + (j + 1)=k)=false:=by simp
 simp [this]
theorem stl_cons {s:Nat} (hs:s < 2 ^ 64) (h0:s ≠ 0):stl s=(tz s:Int) :: stl (cut s):=by
 obtain ⟨h1,h2,h3⟩:=tz_spec hs h0
 unfold stl thl
 rw [thn_first h1 h2 h3,List.map_cons,thn_congr fun a _=>(cut_bit hs h0 a).symm]
theorem stl_len (s:Nat):(stl s).length≤64:=thl_le _ _

/-- Bits below n alone: the list is that of n things. -/
theorem stl_n {s n:Nat} (hn:n≤64) (hs:s < 2 ^ n):stl s=thl n s.testBit:=by
 unfold stl
 refine thl_ext hn fun a h1 _=>Nat.testBit_lt_two_pow (Nat.lt_of_lt_of_le hs (Nat.pow_le_pow_right (by omega) h1))

/-! ### The walks -/

theorem has_s (s a:Nat) (hs:s < 2 ^ 64) (ha:a < 64):FnC Tryd.prog 146 [.int .u64 s,.int .i64 a] (.bool (s.testBit a)):=by
 have h1:s / 2 ^ a < 2 ^ 64:=Nat.lt_of_le_of_lt (Nat.div_le_self _ _) hs
 refine fnc_of tab_ok Tryd.func146 rfl (by kernel_rfl) (by rw [Tryd.ntmps146]; exact Nat.le_add_left 2 _) ?_; rw [Tryd.ntmps146]
 refine qm ?_
 refine hk_region fun K hK=>runs_eval tab_ok ?_
 simp only [ev0,evA,evB,evP,fl,gp,tab,simprocAttr,reduceCtorEq,reduceIte]
 refine fin_run trivial (hK _ ?_)<;>clear hK<;>clear K
 refine qa (qm ?_)
 refine hk_region fun K hK=>runs_eval tab_ok ?_
 simp only [ev0,evA,evB,evP,fl,gp,tab,simprocAttr,reduceCtorEq,reduceIte,shr_n ha,bv_and1 h1]
 refine fin_run ?_ (hK _ ?_)<;>clear hK<;>clear K
 ·(first|exact trivial|omega|(simp only [In64] at *; omega)|(simp [In64] at *; omega)|(simp_all; done)|skip)
 refine qa (qk ?_)
 simp only [Tryd.results146,enA,ev0,evA,evB,evP,fl,gp,tab,simprocAttr,reduceCtorEq,reduceIte]
 all_goals (rw [Nat.testBit_eq_decide_div_mod_eq]; exact decide_eq_decide.2 (by omega))

theorem gva_0:gva 0 = .p (.ptr glob0):=rfl /- 145 -/
theorem glob0_len:glob0.length=64:=rfl /- 145 -/

/-- Where the table is asked. -/
def dix (k:Nat):Nat:=2 ^ k * 285870213051353865 % 18446744073709551616 / 2 ^ 58
theorem deb_ix (k:Nat):(IntKind.u64.wrap (((2 ^ k:Nat):Int) * 285870213051353865)).fdiv (2 ^ min 58 IntKind.u64.bits)=((dix k:Nat):Int):=by
 rw [wrap_u,bits_u,Int.fdiv_eq_ediv_of_nonneg _ (by decide)]
 show (((2 ^ k:Nat):Int) * ((285870213051353865:Nat):Int)) % ((18446744073709551616:Nat):Int) / (((2 ^ 58:Nat)):Int)=_
 rw [← Int.natCast_mul,← Int.natCast_emod,← Int.natCast_ediv]
 rfl
def isU8 (k:Nat):PV→Bool
 | .int .u8 i=>decide (i=(k:Int))
 | _=>false
theorem isU8_eq {k:Nat} {p:PV} (h:isU8 k p=true):p = .int .u8 (k:Nat):=by
 unfold isU8 at h
 split at h
 ·rw [of_decide_eq_true h]
 ·cases h
theorem deb_all:((List.range 64).all fun k=>isU8 k ((glob0.drop (dix k * 1)).headD default))=true:=by decide +kernel /- 145 -/
theorem deb_at {k:Nat} (hk:k < 64):(glob0.drop (dix k * 1)).headD default = .int .u8 (k:Nat):=
 isU8_eq (List.all_eq_true.1 deb_all k (List.mem_range.2 hk)) /- 145 -/
theorem dix_lt (k:Nat):dix k < 64:=by unfold dix; omega
theorem wrap_i8 {k:Nat} (hk:k < 64):IntKind.i64.wrap (k:Int)=(k:Int):=by
 show (if _ then _ else _)=_
 have h1:(k:Int) % (2 ^ IntKind.i64.bits:Int)=(k:Int):=by
  show (k:Int) % 18446744073709551616=_
  omega
 rw [h1,if_neg]
 show ¬ (_ && decide ((k:Int) ≥ 9223372036854775808))=true
 simp; omega

theorem tz_c (s:Nat) (hs:s < 2 ^ 64) (h0:s ≠ 0):FnC Tryd.prog 145 [.int .u64 s] (.int .i64 (tz s:Nat)):=by
 obtain ⟨h1,h2,h3⟩:=tz_spec hs h0
 have hneg:IntKind.u64.wrap (-(s:Int))=((2 ^ 64 - s:Nat):Int):=by
  rw [wrap_u]; omega
 have hd:=dix_lt (tz s)
 refine fnc_of tab_ok Tryd.func145 rfl (by kernel_rfl) (by rw [Tryd.ntmps145]; exact Nat.le_add_left 1 _) ?_; rw [Tryd.ntmps145]
 refine qm ?_
 refine hk_region fun K hK=>runs_eval tab_ok ?_
 simp only [ev0,evA,evB,evP,fl,gp,tab,simprocAttr,reduceCtorEq,reduceIte]
 refine fin_run trivial (hK _ ?_)<;>clear hK<;>clear K
 refine qa (qm (qm ?_))
 refine hk_region fun K hK=>runs_eval tab_ok ?_
 simp only [ev0,evA,evB,evP,fl,gp,tab,simprocAttr,reduceCtorEq,reduceIte]
 refine fin_run trivial (hK _ ?_)<;>clear hK<;>clear K
 refine qa ?_
 refine hk_cond rfl (fun hC1=>?_) (fun hC1=>?_)
 ·(try simp only [nhs] at hC1)
  omega
 ·(try simp only [nhs] at hC1)
  refine qh (qa (qm ?_))
  refine hk_region fun K hK=>runs_eval tab_ok ?_
  simp only [ev0,evA,evB,evP,fl,gp,tab,simprocAttr,reduceCtorEq,reduceIte,hneg,bv_and hs (show 2 ^ 64 - s < 2 ^ 64 by omega),low_bit hs h0,gva_0,deb_ix,deb_at h1,wrap_i8 h1,glob0_len,List.length_drop]
  refine fin_run ?_ (hK _ ?_)<;>clear hK<;>clear K
  ·(first|exact trivial|omega|(simp only [In64] at *; omega)|(simp [In64] at *; omega)|(simp_all; done)|skip)
  refine qa (qk ?_)
  simp only [Tryd.results145,enA,ev0,evA,evB,evP,fl,gp,tab,simprocAttr,reduceCtorEq,reduceIte]
  all_goals (rfl)
end Go.Proofs.YtboadfahlflmhaaDoor

/-
  How many bits are set: by sums of neighbours. Conditions: none.
-/
set_option linter.all false
namespace Go.Proofs.YtboadfahlflmhaaDoor
open Go.Pv

theorem land_byte {a c:Nat} (u v:Nat) (ha:a < 256) (hc:c < 256):(a + 256 * u) &&& (c + 256 * v)=(a &&& c) + 256 * (u &&& v):=by
 have e:∀ b w:Nat,b + 256 * w=2 ^ 8 * w + b:=fun b w=>by omega
 refine Nat.eq_of_testBit_eq fun i=>?_
 have hac:a &&& c < 2 ^ 8:=Nat.lt_of_le_of_lt Nat.and_le_left ha
 rw [e,e,e,Nat.testBit_and,Nat.testBit_two_pow_mul_add _ (show a < 2 ^ 8 from ha),Nat.testBit_two_pow_mul_add _ (show c < 2 ^ 8 from hc),Nat.testBit_two_pow_mul_add _ hac]
 by_cases hi:i < 8
 ·rw [if_pos hi,if_pos hi,if_pos hi,Nat.testBit_and]
 ·rw [if_neg hi,if_neg hi,if_neg hi,Nat.testBit_and]
def msk8 (c:Nat):Nat→Nat
 | 0=>0
 | k + 1=>c + 256 * msk8 c k
def p1 (M x:Nat):Nat:=(x / 2 &&& M) + (x &&& M)
def p2 (M x:Nat):Nat:=(x / 4 &&& M) + (x &&& M)
def p3 (M x:Nat):Nat:=(x / 16 + x) &&& M
theorem p1_step {a:Nat} (ha:a < 256) (u M:Nat):p1 (85 + 256 * M) (a + 256 * u)=p1 85 a + 256 * p1 M u:=by
 have h:∀ a,a < 256→∀ r,r < 2→(a / 2 + 128 * r) &&& 85=a / 2 &&& 85:=by decide +kernel
 have e:(a + 256 * u) / 2=(a / 2 + 128 * (u % 2)) + 256 * (u / 2):=by omega
 unfold p1
 rw [e,land_byte _ _ (by omega) (by omega),land_byte _ _ ha (by omega),h a ha _ (by omega)]
 omega
theorem p2_step {a:Nat} (ha:a < 256) (u M:Nat):p2 (51 + 256 * M) (a + 256 * u)=p2 51 a + 256 * p2 M u:=by
 have h:∀ a,a < 256→∀ r,r < 4→(a / 4 + 64 * r) &&& 51=a / 4 &&& 51:=by decide +kernel
 have e:(a + 256 * u) / 4=(a / 4 + 64 * (u % 4)) + 256 * (u / 4):=by omega
 unfold p2
 rw [e,land_byte _ _ (by omega) (by omega),land_byte _ _ ha (by omega),h a ha _ (by omega)]
 omega
theorem p3_step {a:Nat} (ha:a % 16≤4∧a / 16≤4) (u M:Nat) (hu:u % 16≤4):p3 (15 + 256 * M) (a + 256 * u)=p3 15 a + 256 * p3 M u:=by
 have e:(a + 256 * u) / 16 + (a + 256 * u)=(a / 16 + 16 * (u % 16) + a) + 256 * (u / 16 + u):=by omega
 have m15:∀ z,z &&& 15=z % 16:=fun z=>Nat.and_two_pow_sub_one_eq_mod z 4
 unfold p3
 rw [e,land_byte _ _ (by omega) (by omega),m15,m15]
 have:(a / 16 + 16 * (u % 16) + a) % 16=(a / 16 + a) % 16:=by omega
 rw [this]
def pT (k x:Nat):Nat:=p3 (msk8 15 k) (p2 (msk8 51 k) (p1 (msk8 85 k) x))
def pM (k x:Nat):Nat:=p2 (msk8 51 k) (p1 (msk8 85 k) x)
theorem p1_small:∀ a,a < 256→p1 85 a < 256:=by decide +kernel
theorem p2_small:∀ a,a < 256→p2 51 (p1 85 a) % 16≤4∧p2 51 (p1 85 a) / 16≤4:=by decide +kernel
def cnt (k x:Nat):Nat:=((List.range k).filter x.testBit).length
theorem p_byte:∀ a,a < 256→p3 15 (p2 51 (p1 85 a))=cnt 8 a:=by decide +kernel
theorem cnt_le (k x:Nat):cnt k x≤k:=by
 have:=List.length_filter_le x.testBit (List.range k)
 simpa [cnt] using this
theorem pM_step {a:Nat} (ha:a < 256) (k u:Nat):pM (k + 1) (a + 256 * u)=p2 51 (p1 85 a) + 256 * pM k u:=by
 show p2 (51 + 256 * msk8 51 k) (p1 (85 + 256 * msk8 85 k) (a + 256 * u))=_
 rw [p1_step ha,p2_step (p1_small a ha)]; rfl
theorem pM_low:∀ (k u:Nat),pM k u % 16≤4
 | 0,u=>by simp [pM,msk8,p2]
 | k + 1,u=>by
  have:=pM_step (a:=u % 256) (Nat.mod_lt _ (by omega)) k (u / 256)
  rw [show u % 256 + 256 * (u / 256)=u by omega] at this
  rw [this]
  have:=p2_small (u % 256) (Nat.mod_lt _ (by omega))
  omega
theorem pT_step (k x:Nat):pT (k + 1) x=cnt 8 (x % 256) + 256 * pT k (x / 256):=by
 have ha:x % 256 < 256:=Nat.mod_lt _ (by omega)
 have:=pM_step ha k (x / 256)
 rw [show x % 256 + 256 * (x / 256)=x by omega] at this
 show p3 (15 + 256 * msk8 15 k) (pM (k + 1) x)=_
 rw [this,p3_step (p2_small _ ha) _ _ (pM_low _ _),p_byte _ ha]; rfl
theorem cnt_step (k x:Nat):cnt (8 + k) x=cnt 8 (x % 256) + cnt k (x / 256):=by
 unfold cnt
 rw [List.range_add,List.filter_append,List.length_append]
 congr 1
 ·congr 1
  refine List.filter_congr fun i hi=>?_
  have hi:i < 8:=List.mem_range.1 hi
  show x.testBit i=(x % 2 ^ 8).testBit i
  rw [Nat.testBit_mod_two_pow]; simp [hi]
 ·rw [List.filter_map,List.length_map]
  congr 1
  refine List.filter_congr fun i _=>?_
  show x.testBit (8 + i)=(x / 2 ^ 8).testBit i
  rw [Nat.testBit_div_two_pow,Nat.add_comm]
theorem pT0 (x:Nat):pT 0 x=0:=by simp [pT,msk8,p3]
def pcf (x:Nat):Nat:=
 let y:=pT 8 x
 let y4:=y + y / 256
 let y5:=y4 + y4 / 65536
 let y6:=y5 + y5 / 4294967296
 y6 % 128
theorem dv {a B q:Nat} (h:a < B):(a + B * q) / B=q:=by
 rw [Nat.add_mul_div_left _ _ (Nat.lt_of_le_of_lt (Nat.zero_le _) h),Nat.div_eq_of_lt h,Nat.zero_add]
theorem l3 {E0 E1 E2 E3:Nat} (h0:E0≤5000) (h1:E1≤5000) (h2:E2≤5000) (h3:E3≤5000) :
  let y4:=E0 + 65536 * (E1 + 65536 * (E2 + 65536 * E3))
  let y5:=y4 + y4 / 65536
  (y5 + y5 / 4294967296) % 128=(E0 + E1 + E2 + E3) % 128:=by
 intro y4 y5
 have a1:y4 / 65536=E1 + 65536 * (E2 + 65536 * E3):=dv (by omega)
 have a2:y5=((E0 + E1) + 65536 * (E1 + E2)) + 4294967296 * ((E2 + E3) + 65536 * E3):=by
  show y4 + y4 / 65536=_
  rw [a1]; show E0 + 65536 * (E1 + 65536 * (E2 + 65536 * E3)) + _=_
  omega
 have a3:y5 / 4294967296=(E2 + E3) + 65536 * E3:=by rw [a2]; exact dv (by omega)
 rw [a3,a2]
 omega
theorem l1 {d0 d1 d2 d3 d4 d5 d6 d7:Nat} : d0 + 256 * (d1 + 256 * (d2 + 256 * (d3 + 256 * (d4 + 256 * (d5 + 256 * (d6 + 256 * d7)))))) + (d1 + 256 * (d2 + 256 * (d3 + 256 * (d4 + 256 * (d5 + 256 * (d6 + 256 * d7)))))) =
  (d0 + d1 + 256 * (d1 + d2)) + 65536 * ((d2 + d3 + 256 * (d3 + d4)) + 65536 * ((d4 + d5 + 256 * (d5 + d6)) + 65536 * (d6 + d7 + 256 * d7))):=by
 omega

theorem pcf_eq (x:Nat) (hx:x < 2 ^ 64):pcf x=cnt 64 x:=by
 have c0:∀ u,cnt 0 u=0:=fun u=>rfl
 have e:cnt 64 x=cnt (8 + (8 + (8 + (8 + (8 + (8 + (8 + (8 + 0)))))))) x:=rfl
 have e2:pT 8 x=pT (0 + 1 + 1 + 1 + 1 + 1 + 1 + 1 + 1) x:=rfl
 have key:∀ d0 d1 d2 d3 d4 d5 d6 d7:Nat,d0≤8→d1≤8→d2≤8→d3≤8→d4≤8→d5≤8→d6≤8→d7≤8→∀ Y,Y=d0 + 256 * (d1 + 256 * (d2 + 256 * (d3 + 256 * (d4 + 256 * (d5 + 256 * (d6 + 256 * d7)))))) →
   ((Y + Y / 256 + (Y + Y / 256) / 65536) + (Y + Y / 256 + (Y + Y / 256) / 65536) / 4294967296) % 128=d0 + (d1 + (d2 + (d3 + (d4 + (d5 + (d6 + d7)))))):=by
  intro d0 d1 d2 d3 d4 d5 d6 d7 b0 b1 b2 b3 b4 b5 b6 b7 Y hY
  have a1:Y / 256=d1 + 256 * (d2 + 256 * (d3 + 256 * (d4 + 256 * (d5 + 256 * (d6 + 256 * d7))))):=by rw [hY]; exact dv (by omega)
  rw [a1,hY,l1]
  have:=l3 (E0:=d0 + d1 + 256 * (d1 + d2)) (E1:=d2 + d3 + 256 * (d3 + d4)) (E2:=d4 + d5 + 256 * (d5 + d6)) (E3:=d6 + d7 + 256 * d7) (by omega) (by omega) (by omega) (by omega)
  simp only at this
  rw [this]
  omega
 unfold pcf
 rw [e,e2]
 simp only [cnt_step,c0,pT_step,pT0]
 refine (key _ _ _ _ _ _ _ _ (cnt_le _ _) (cnt_le _ _) (cnt_le _ _) (cnt_le _ _) (cnt_le _ _) (cnt_le _ _) (cnt_le _ _) (cnt_le _ _) _ rfl).trans ?_
 rw [Nat.add_zero]

end Go.Proofs.YtboadfahlflmhaaDoor

/-
  Sets of things: lists and bits; what is looked at first; what is chosen. Conditions: none.
-/
set_option linter.all false
namespace Go.Proofs.YtboadfahlflmhaaDoor
open Go.Pv

/-- A row of its own that is handed out reads as a row. -/
theorem FnG_fnc {P:Program} {f:FuncId} {args l:List PV} (h:FnG P f args (.sl 0 0 l.length) [.own (opl l)]) (hone:l.all PV.one=true):FnC P f args (.list l):=by
 refine ⟨h.1,fun okA w vals h1 h2 h3=>(h.2 okA w vals h1 h2 h3).mono fun e w' ⟨v,m',he,hbl,ho⟩=>⟨v,he,hbl,?_⟩⟩
 cases ho.val with
 | sl _ _ _ _ hk hs =>
  rcases hs with ⟨h0,ad,rfl⟩ | ⟨lc,cap,hm,rfl,hc1,hc2⟩
  ·have:l=[]:=List.eq_nil_of_length_eq_zero h0
   subst this
   exact .list0 _ _ fun _=>rfl
  ·rcases ho.blk 0 (opl l) rfl with ⟨hn,_⟩ | ⟨l',cur,e',hm2,hB,hh,hs1,hs3,hs2,hcells⟩
   ·have:l=[]:=List.map_eq_nil_iff.1 hn
    subst this
    exact .list0 _ _ fun h=>by cases h
   ·rw [hm] at hm2; cases hm2
    rw [opl_length] at hs2
    refine row_reads rfl hone ⟨.inr hB,(Array.getElem?_eq_some_iff.1 hh).1⟩ hc1 (fun j=>cur.getD (lc.o + j) undef) (fun j hj=>?_) fun j hj=>?_
    ·have:lc.o + 0 + j=lc.o + j:=by omega
     rw [this]; exact cell_of hh (by omega)
    ·have:=hcells j (by rw [opl_length]; exact hj)
     have e2:(opl l)[j]'(by rw [opl_length]; exact hj) = .p l[j]:=by simp [opl]
     rw [e2] at this
     exact this.p_inv.mono fun b hb=>⟨hb.1,hb.2.1⟩

/-! ### Lists and bits -/

theorem list_g (s:Nat) (hs:s < 2 ^ 64):FnG Tryd.prog 113 [.int .u64 s] (.sl 0 0 (stl s).length) [.own (opl (il (stl s)))]:=by
 refine fng_of tab_ok Tryd.func113 rfl (by kernel_rfl) (by rw [Tryd.ntmps113]; exact Nat.le_add_left 1 _) ?_; rw [Tryd.ntmps113]
 refine qm ?_
 refine hk_region fun K hK=>runs_eval tab_ok ?_
 simp only [ev0,evA,evB,evP,fl,gp,tab,simprocAttr,reduceCtorEq,reduceIte]
 refine fin_run trivial (hK _ ?_)<;>clear hK<;>clear K
 refine qa (qm ?_)
 refine hk_region fun K hK=>runs_eval tab_ok ?_
 simp only [ev0,evA,evB,evP,fl,gp,tab,simprocAttr,reduceCtorEq,reduceIte]
 refine fin_run trivial (hK _ ?_)<;>clear hK<;>clear K
 refine qa (qm (ql ?_))
 refine hk_own0 3 rfl ?_
 refine hk_loop (ι:=Nat × List Int) (fun p=>⟨16,[(0,.p (.int .u64 p.1)),(3,.sl 0 0 p.2.length)],[.own (ol p.2)]⟩) (fun p=>p.1 < 2 ^ 64∧p.2++stl p.1=stl s) (fun p=>p.1) (s,[]) ⟨hs,rfl⟩ [0] (by simp only [leq,leA,ev0,evA,evB,evP,fl,gp,tab,simprocAttr,reduceCtorEq,reduceIte]<;>simp [ol_nil]) fun p hp=>?_
 obtain ⟨t,out⟩:=p
 obtain ⟨ht,ho⟩:=hp
 simp only at ht ho
 refine qm (qm ?_)
 refine hk_region fun K hK=>runs_eval tab_ok ?_
 simp only [ev0,evA,evB,evP,fl,gp,tab,simprocAttr,reduceCtorEq,reduceIte]
 refine fin_run trivial (hK _ ?_)<;>clear hK<;>clear K
 refine qa ?_
 refine hk_cond rfl (fun hC1=>?_) (fun hC1=>?_)
 ·(try simp only [nhs] at hC1)
  have h0:t ≠ 0:=by omega
  have ht1:t - 1 < 2 ^ 64:=by omega
  have hsub:IntKind.u64.wrap ((t:Int) - 1)=((t - 1:Nat):Int):=by rw [wrap_u]; omega
  have hcut:t &&& (t - 1)=cut t:=rfl
  have hc:=stl_cons ht h0
  have hlen:out.length + 1≤64:=by
   have h1:=stl_len s
   rw [← ho,hc] at h1
   simp at h1; omega
  refine qh (qa (qm (ql ?_)))
  refine hk_region fun K hK=>runs_eval tab_ok ?_
  simp only [ev0,evA,evB,evP,fl,gp,tab,simprocAttr,reduceCtorEq,reduceIte]
  refine fin_stop trivial (runs_call (tz_c t ht h0) rfl rfl rfl (by simp only [dstOk,Nat.reduceLT]) (by repeat (first|exact trivial|constructor)) (runs_eval tab_ok ?_))
  simp only [ev0,evA,evB,evP,fl,gp,tab,simprocAttr,reduceCtorEq,reduceIte]
  refine fin_run ?_ (hK _ ?_)<;>clear hK<;>clear K
  ·(first|exact trivial|omega|(simp only [In64] at *; omega)|(simp [In64] at *; omega)|(simp_all; done)|skip)
  refine qd (qa ?_)
  refine hk_region fun K hK=>runs_eval tab_ok ?_
  simp only [ev0,evA,evB,evP,fl,gp,tab,simprocAttr,reduceCtorEq,reduceIte,hsub,bv_and ht ht1,hcut]
  refine fin_run ?_ (hK _ ?_)<;>clear hK<;>clear K
  ·(first|exact trivial|omega|(simp only [In64] at *; omega)|(simp [In64] at *; omega)|(simp_all; done)|skip)
  refine qa ?_
  refine ⟨(cut t,out++[(tz t:Int)]),[1],⟨?_,?_⟩,cut_lt h0,?_⟩
  ·exact Nat.lt_trans (cut_lt h0) ht
  ·show out++[(tz t:Int)]++stl (cut t)=stl s
   rw [← ho,hc]; simp
  ·simp only [leq,leA,ev0,evA,evB,evP,fl,gp,tab,simprocAttr,reduceCtorEq,reduceIte]<;>first|trivial|omega
 ·(try simp only [nhs] at hC1)
  have h0:t=0:=by omega
  rw [h0,stl_zero,List.append_nil] at ho
  refine qj (qc (qc (qf (qa (qm ?_)))))
  refine hk_region fun K hK=>runs_eval tab_ok ?_
  simp only [ev0,evA,evB,evP,fl,gp,tab,simprocAttr,reduceCtorEq,reduceIte]
  refine fin_run trivial (hK _ ?_)<;>clear hK<;>clear K
  refine qa (qk ?_)
  simp only [Tryd.results113,PostG,endG,rvsA,rvA,mkTup,ev0,evA,evB,evP,fl,gp,tab,simprocAttr,reduceCtorEq,reduceIte]
  all_goals (rw [← ho]; exact ⟨[0],by simp only [leq,leA,ev0,evA,evB,evP,fl,gp,tab,simprocAttr,reduceCtorEq,reduceIte]<;>simp [ol,opl]⟩)
theorem list_s (s:Nat) (hs:s < 2 ^ 64):FnC Tryd.prog 113 [.int .u64 s] (.list (il (stl s))):=by
 have h:=list_g s hs
 rw [← il_length] at h
 exact FnG_fnc h (il_all _)

/-- The bits of a list of things. -/
def msk (l:List Int):Nat:=l.foldl (fun s a=>s ||| 2 ^ a.toNat) 0
theorem msk_snoc (l:List Int) (a:Int):msk (l++[a])=msk l ||| 2 ^ a.toNat:=by simp [msk,List.foldl_append]
theorem msk_bit (l:List Int) (i:Nat):(msk l).testBit i=decide (∃ a∈l,a.toNat=i):=by
 have key:∀ (l:List Int) (s:Nat),(l.foldl (fun s a=>s ||| 2 ^ a.toNat) s).testBit i=(s.testBit i || decide (∃ a∈l,a.toNat=i)):=by
  intro l
  induction l with
  | nil=>intro s; simp
  | cons a r ih =>
   intro s
   rw [List.foldl_cons,ih,Nat.testBit_or,Nat.testBit_two_pow]
   by_cases h:a.toNat=i
   ·simp [h]
   ·simp [h]
 rw [msk,key]; simp
theorem msk_lt {l:List Int} {n:Nat} (h:∀ a∈l,a.toNat < n):msk l < 2 ^ n:=by
 refine Nat.lt_pow_two_of_testBit _ fun i hi=>?_
 rw [msk_bit,decide_eq_false_iff_not]
 rintro ⟨a,ha,rfl⟩
 have:=h a ha; omega

theorem of_s (l:List Int) (hl:l.length≤1000000) (h:∀ a∈l,0≤a∧a < 64):FnC Tryd.prog 112 [.list (il l)] (.int .u64 (msk l)):=by
 refine fnc_of tab_ok Tryd.func112 rfl (by kernel_rfl) (by rw [Tryd.ntmps112]; exact Nat.le_add_left 1 _) ?_; rw [Tryd.ntmps112]
 refine qm ?_
 refine hk_region fun K hK=>runs_eval tab_ok ?_
 simp only [ev0,evA,evB,evP,fl,gp,tab,simprocAttr,reduceCtorEq,reduceIte]
 refine fin_run trivial (hK _ ?_)<;>clear hK<;>clear K
 refine qa (qm ?_)
 refine hk_region fun K hK=>runs_eval tab_ok ?_
 simp only [ev0,evA,evB,evP,fl,gp,tab,simprocAttr,reduceCtorEq,reduceIte]
 refine fin_run trivial (hK _ ?_)<;>clear hK<;>clear K
 refine qa (qm (qm ?_))
 refine hk_region fun K hK=>runs_eval tab_ok ?_
 simp only [ev0,evA,evB,evP,fl,gp,tab,simprocAttr,reduceCtorEq,reduceIte]
 refine fin_run trivial (hK _ ?_)<;>clear hK<;>clear K
 refine qa (ql ?_)
 refine hk_loop (ι:=Nat) (fun i=>⟨18,[(3,.p (.int .u64 (msk (l.take i)))),(6,.p (.list (il l))),(7,.p (.int .i64 l.length)),(8,.p (.int .i64 i))],[]⟩) (fun i=>i≤l.length) (fun i=>l.length - i) 0 (Nat.zero_le _) [] (by simp only [leq,leA,ev0,evA,evB,evP,fl,gp,tab,simprocAttr,reduceCtorEq,reduceIte]<;>simp [msk]) fun i hi=>?_
 refine qm ?_
 refine hk_region fun K hK=>runs_eval tab_ok ?_
 simp only [ev0,evA,evB,evP,fl,gp,tab,simprocAttr,reduceCtorEq,reduceIte]
 refine fin_run trivial (hK _ ?_)<;>clear hK<;>clear K
 refine qa (qm ?_)
 refine hk_cond rfl (fun hC1=>?_) (fun hC1=>?_)
 ·(try simp only [nhs] at hC1)
  have hlt:i < l.length:=by omega
  have hmem:l.getD i 0∈l:=by simp [List.getD,List.getElem?_eq_getElem hlt]
  obtain ⟨a1,a2⟩:=h _ hmem
  obtain ⟨a,ha⟩:=Int.eq_ofNat_of_zero_le a1
  have ha64:a < 64:=by omega
  have hm:msk (l.take i) < 2 ^ 64:=msk_lt fun x hx=>by have:=h x (List.mem_of_mem_take hx); omega
  have hp:2 ^ a < 2 ^ 64:=Nat.pow_lt_pow_right (by omega) ha64
  have hs:msk (l.take (i + 1))=msk (l.take i) ||| 2 ^ a:=by
   rw [List.take_succ_eq_append_getElem hlt,msk_snoc]
   have:l[i]=(a:Int):=by rw [← ha]; simp [List.getD,List.getElem?_eq_getElem hlt]
   rw [this]; rfl
  refine qh (qa (qm (ql (qm ?_))))
  refine hk_region fun K hK=>runs_eval tab_ok ?_
  simp only [ev0,evA,evB,evP,fl,gp,tab,simprocAttr,reduceCtorEq,reduceIte,il_get hlt,ha]
  refine fin_run ?_ (hK _ ?_)<;>clear hK<;>clear K
  ·(first|exact trivial|omega|(simp only [In64] at *; omega)|(simp [In64] at *; omega)|(simp_all; done)|skip)
  refine qa ?_
  refine hk_region fun K hK=>runs_eval tab_ok ?_
  simp only [ev0,evA,evB,evP,fl,gp,tab,simprocAttr,reduceCtorEq,reduceIte,shl_one ha64,bv_or hm hp]
  refine fin_run ?_ (hK _ ?_)<;>clear hK<;>clear K
  ·(first|exact trivial|omega|(simp only [In64] at *; omega)|(simp [In64] at *; omega)|(simp_all; done)|skip)
  refine qd (qa ?_)
  refine hk_region fun K hK=>runs_eval tab_ok ?_
  simp only [ev0,evA,evB,evP,fl,gp,tab,simprocAttr,reduceCtorEq,reduceIte]
  refine fin_run ?_ (hK _ ?_)<;>clear hK<;>clear K
  ·(first|exact trivial|omega|(simp only [In64] at *; omega)|(simp [In64] at *; omega)|(simp_all; done)|skip)
  refine qa ?_
  refine ⟨i + 1,[],by omega,by omega,?_⟩
  rw [hs]
  simp only [leq,leA,ev0,evA,evB,evP,fl,gp,tab,simprocAttr,reduceCtorEq,reduceIte]<;>first|trivial|omega
 ·(try simp only [nhs] at hC1)
  have hin:i=l.length:=by omega
  refine qj (qc (qc (qf (qa (qm ?_)))))
  refine hk_region fun K hK=>runs_eval tab_ok ?_
  simp only [ev0,evA,evB,evP,fl,gp,tab,simprocAttr,reduceCtorEq,reduceIte]
  refine fin_run trivial (hK _ ?_)<;>clear hK<;>clear K
  refine qa (qk ?_)
  simp only [Tryd.results112,enA,ev0,evA,evB,evP,fl,gp,tab,simprocAttr,reduceCtorEq,reduceIte]
  all_goals (rw [hin,List.take_length])

/-! ### Lists that rise -/

theorem mem_thl {n:Nat} {p:Nat→Bool} {x:Int} : x∈thl n p↔∃ a,a < n∧p a=true∧x=(a:Int):=by
 unfold thl
 rw [List.mem_map]
 constructor
 ·rintro ⟨a,ha,rfl⟩
  obtain ⟨h1,h2⟩:=mem_thn.1 ha
  exact ⟨a,h1,h2,rfl⟩
 ·rintro ⟨a,h1,h2,rfl⟩
  exact ⟨a,mem_thn.2 ⟨h1,h2⟩,rfl⟩
theorem thl_asc (n:Nat) (p:Nat→Bool):(thl n p).Pairwise (· < ·):=by
 unfold thl thn'
 rw [List.pairwise_map]
 refine (List.Pairwise.filter p List.pairwise_lt_range).imp fun {a b} h=>by omega

/-- The test of a list. -/
def tst (l:List Int) (a:Nat):Bool:=decide ((a:Int)∈l)
/-- What is at fault in a list, at i. -/
def lfb (N:Int) (l:List Int) (i:Nat):Int × Int:=if ¬ okT N l i then (3,(i:Int)) else if 0 < i∧l.getD i 0≤l.getD (i - 1) 0 then (5,(i:Int)) else (0,0)
/-- The fault of a list. -/
def lf (N:Int) (l:List Int):Int × Int:=
 if (l.length:Int) > N then (2,0)
 else match fst' (fun i=>decide (¬ (lfb N l i).1=0)) l.length with
  | some i=>lfb N l i
  | none=>(0,0)
/-- The fault of a group and a list. -/
def sf (N:Int) (m l:List Int):Int × Int:=if ¬ (gf N m).1=0 then gf N m else lf N l

theorem lf_many {N:Int} {l:List Int} (h:(l.length:Int) > N):lf N l=(2,0):=by unfold lf; rw [if_pos h]
theorem lf_at {N:Int} {l:List Int} {i:Nat} {w:Int × Int} (h:¬ (l.length:Int) > N) (hi:i < l.length) (hw:lfb N l i=w) (hn:¬ w.1=0) (hj:∀ j,j < i→(lfb N l j).1=0):lf N l=w:=by
 have:fst' (fun i=>decide (¬ (lfb N l i).1=0)) l.length=some i:=fst_some hi (decide_eq_true (by rw [hw]; exact hn)) fun j h=>decide_eq_false fun h'=>h' (hj j h)
 unfold lf; rw [if_neg h,this]; exact hw
theorem lf_none {N:Int} {l:List Int} (h:¬ (l.length:Int) > N) (hj:∀ j,j < l.length→(lfb N l j).1=0):lf N l=(0,0):=by
 have:fst' (fun i=>decide (¬ (lfb N l i).1=0)) l.length=none:=fst_none fun j h=>decide_eq_false fun h'=>h' (hj j h)
 unfold lf; rw [if_neg h,this]
theorem lfb_3 {N:Int} {l:List Int} {i:Nat} (h:¬ okT N l i):lfb N l i=(3,(i:Int)):=by unfold lfb; rw [if_pos h]
theorem lfb_5 {N:Int} {l:List Int} {i:Nat} (h:okT N l i) (h2:0 < i) (h3:l.getD i 0≤l.getD (i - 1) 0):lfb N l i=(5,(i:Int)):=by unfold lfb; rw [if_neg (by simpa using h),if_pos ⟨h2,h3⟩]
theorem lfb_0 {N:Int} {l:List Int} {i:Nat} (h:okT N l i) (h2:0 < i→¬ l.getD i 0≤l.getD (i - 1) 0):(lfb N l i).1=0:=by unfold lfb; rw [if_neg (by simpa using h),if_neg (fun h'=>h2 h'.1 h'.2)]
set_option maxHeartbeats 2000000 in
theorem listFault_c (N:Int) (m l:List Int) (hl:l.length≤1000000000000000):FnC Tryd.prog 50 [gp N m,.list (il l)] (fl (lf N l)):=by
 refine fnc_of tab_ok Tryd.func50 rfl (by kernel_rfl) (by rw [Tryd.ntmps50]; exact Nat.le_add_left 2 _) ?_; rw [Tryd.ntmps50]
 refine qm ?_
 refine hk_region fun K hK=>runs_eval tab_ok ?_
 simp only [ev0,evA,evB,evP,fl,gp,tab,simprocAttr,reduceCtorEq,reduceIte]
 refine fin_run ?_ (hK _ ?_)<;>clear hK<;>clear K
 ·(first|exact trivial|omega|(simp only [In64] at *; omega)|(simp [In64] at *; omega)|(simp_all; done)|skip)
 refine qa (qm (qm ?_))
 refine hk_region fun K hK=>runs_eval tab_ok ?_
 simp only [ev0,evA,evB,evP,fl,gp,tab,simprocAttr,reduceCtorEq,reduceIte]
 refine fin_run ?_ (hK _ ?_)<;>clear hK<;>clear K
 ·(first|exact trivial|omega|(simp only [In64] at *; omega)|(simp [In64] at *; omega)|(simp_all; done)|skip)
 refine qa ?_
 refine hk_cond rfl (fun hC1=>?_) (fun hC1=>?_)
 ·(try simp only [nhs] at hC1)
  refine qm ?_
  refine hk_region fun K hK=>runs_eval tab_ok ?_
  simp only [ev0,evA,evB,evP,fl,gp,tab,simprocAttr,reduceCtorEq,reduceIte]
  refine fin_stop trivial (runs_call (f_c 2 0) rfl rfl rfl (by simp only [dstOk,Nat.reduceLT]) (by repeat (first|exact trivial|constructor)) (runs_eval tab_ok ?_))
  simp only [ev0,evA,evB,evP,fl,gp,tab,simprocAttr,reduceCtorEq,reduceIte]
  refine fin_run ?_ (hK _ ?_)<;>clear hK<;>clear K
  ·(first|exact trivial|omega|(simp only [In64] at *; omega)|(simp [In64] at *; omega)|(simp_all; done)|skip)
  refine qa (qk (qb ?_))
  simp only [Tryd.results50,enA,ev0,evA,evB,evP,fl,gp,tab,simprocAttr,reduceCtorEq,reduceIte]
  all_goals (rw [lf_many hC1]; simp)
 ·(try simp only [nhs] at hC1)
  refine qh (qa (qm (qm ?_)))
  refine hk_region fun K hK=>runs_eval tab_ok ?_
  simp only [ev0,evA,evB,evP,fl,gp,tab,simprocAttr,reduceCtorEq,reduceIte]
  refine fin_run trivial (hK _ ?_)<;>clear hK<;>clear K
  refine qa (ql ?_)
  refine hk_loop (ι:=Nat) (fun i=>⟨51,[(1,.p (.list (il l))),(2,.ptr 0 0),(4,.ptr 1 0),(5,.p (.int .i64 i))],[.own [.p (.int .i64 N),.p (.list (il m))],.own [.p (.int .i64 0),.p (.int .i64 0)]]⟩) (fun i=>i≤l.length∧∀ j,j < i→(lfb N l j).1=0) (fun i=>l.length - i) 0 ⟨Nat.zero_le _,fun j hj=>by omega⟩ [0,1] (by simp only [leq,leA,ev0,evA,evB,evP,fl,gp,tab,simprocAttr,reduceCtorEq,reduceIte]<;>trivial) fun i hi=>?_
  obtain ⟨hi1,hi2⟩:=hi
  refine qm (qm ?_)
  refine hk_region fun K hK=>runs_eval tab_ok ?_
  simp only [ev0,evA,evB,evP,fl,gp,tab,simprocAttr,reduceCtorEq,reduceIte]
  refine fin_run trivial (hK _ ?_)<;>clear hK<;>clear K
  refine qa ?_
  refine hk_cond rfl (fun hC2=>?_) (fun hC2=>?_)
  ·(try simp only [nhs] at hC2)
   have hlt:i < l.length:=by omega
   refine qh (qa (qm (ql (qm (qm ?_)))))
   by_cases g6a:l.getD i 0 < 0
   ·refine hk_draw mixed (by kernel_rfl) fun K hK=>runs_eval tab_ok ?_
    simp only [ev0,evA,evB,evP,fl,gp,tab,simprocAttr,reduceCtorEq,reduceIte,il_get hlt,decide_eq_true g6a]
    refine fin_run ?_ (hK _ ?_)<;>clear hK<;>clear K
    ·(first|exact trivial|omega|(simp only [In64] at *; omega)|(simp [In64] at *; omega)|(simp_all; done)|skip)
    refine qa ?_
    refine hk_cond rfl (fun hC3=>?_) (fun hC3=>?_)
    ·refine qm ?_
     refine hk_region fun K hK=>runs_eval tab_ok ?_
     simp only [ev0,evA,evB,evP,fl,gp,tab,simprocAttr,reduceCtorEq,reduceIte]
     refine fin_stop trivial (runs_call (f_c 3 i) rfl rfl rfl (by simp only [dstOk,Nat.reduceLT]) (by repeat (first|exact trivial|constructor)) (runs_eval tab_ok ?_))
     simp only [ev0,evA,evB,evP,fl,gp,tab,simprocAttr,reduceCtorEq,reduceIte]
     refine fin_run ?_ (hK _ ?_)<;>clear hK<;>clear K
     ·(first|exact trivial|omega|(simp only [In64] at *; omega)|(simp [In64] at *; omega)|(simp_all; done)|skip)
     refine qa (qk (qb (qe (qb (qb (qe (qb ?_)))))))
     simp only [Tryd.results50,enA,ev0,evA,evB,evP,fl,gp,tab,simprocAttr,reduceCtorEq,reduceIte]
     all_goals (rw [lf_at hC1 hlt (lfb_3 (fun h=>h (.inl g6a))) (by simp) hi2]; simp)
    ·cases hC3
   ·refine hk_draw mixed (by kernel_rfl) fun K hK=>runs_eval tab_ok ?_
    simp only [ev0,evA,evB,evP,fl,gp,tab,simprocAttr,reduceCtorEq,reduceIte,il_get hlt,decide_eq_false g6a]
    refine fin_run ?_ (hK _ ?_)<;>clear hK<;>clear K
    ·(first|exact trivial|omega|(simp only [In64] at *; omega)|(simp [In64] at *; omega)|(simp_all; done)|skip)
    refine qa ?_
    refine hk_cond rfl (fun hC3=>?_) (fun hC3=>?_)
    ·(try simp only [nhs] at hC3)
     refine qm ?_
     refine hk_region fun K hK=>runs_eval tab_ok ?_
     simp only [ev0,evA,evB,evP,fl,gp,tab,simprocAttr,reduceCtorEq,reduceIte]
     refine fin_stop trivial (runs_call (f_c 3 i) rfl rfl rfl (by simp only [dstOk,Nat.reduceLT]) (by repeat (first|exact trivial|constructor)) (runs_eval tab_ok ?_))
     simp only [ev0,evA,evB,evP,fl,gp,tab,simprocAttr,reduceCtorEq,reduceIte]
     refine fin_run ?_ (hK _ ?_)<;>clear hK<;>clear K
     ·(first|exact trivial|omega|(simp only [In64] at *; omega)|(simp [In64] at *; omega)|(simp_all; done)|skip)
     refine qa (qk (qb (qe (qb (qb (qe (qb ?_)))))))
     simp only [Tryd.results50,enA,ev0,evA,evB,evP,fl,gp,tab,simprocAttr,reduceCtorEq,reduceIte]
     all_goals (rw [lf_at hC1 hlt (lfb_3 (fun h=>h (.inr hC3))) (by simp) hi2]; simp)
    ·(try simp only [nhs] at hC3)
     have hok:okT N l i:=by unfold okT; omega
     refine qh (qa (qm ?_))
     by_cases g8a:(i:Int) > 0
     ·refine hk_draw mixed (by kernel_rfl) fun K hK=>runs_eval tab_ok ?_
      simp only [ev0,evA,evB,evP,fl,gp,tab,simprocAttr,reduceCtorEq,reduceIte,il_get hlt,tn_pred,il_get (show i - 1 < l.length by omega),decide_eq_true g8a]
      refine fin_run ?_ (hK _ ?_)<;>clear hK<;>clear K
      ·(first|exact trivial|omega|(simp only [In64] at *; omega)|(simp [In64] at *; omega)|(simp_all; done)|skip)
      refine qa ?_
      refine hk_cond rfl (fun hC4=>?_) (fun hC4=>?_)
      ·(try simp only [nhs] at hC4)
       refine qm ?_
       refine hk_region fun K hK=>runs_eval tab_ok ?_
       simp only [ev0,evA,evB,evP,fl,gp,tab,simprocAttr,reduceCtorEq,reduceIte]
       refine fin_stop trivial (runs_call (f_c 5 i) rfl rfl rfl (by simp only [dstOk,Nat.reduceLT]) (by repeat (first|exact trivial|constructor)) (runs_eval tab_ok ?_))
       simp only [ev0,evA,evB,evP,fl,gp,tab,simprocAttr,reduceCtorEq,reduceIte]
       refine fin_run ?_ (hK _ ?_)<;>clear hK<;>clear K
       ·(first|exact trivial|omega|(simp only [In64] at *; omega)|(simp [In64] at *; omega)|(simp_all; done)|skip)
       refine qa (qk (qe (qb (qb (qe (qb ?_))))))
       simp only [Tryd.results50,enA,ev0,evA,evB,evP,fl,gp,tab,simprocAttr,reduceCtorEq,reduceIte]
       all_goals (rw [lf_at hC1 hlt (lfb_5 hok (by omega) hC4) (by simp) hi2]; simp)
      ·(try simp only [nhs] at hC4)
       have h0:(lfb N l i).1=0:=lfb_0 hok fun h=>by omega
       refine qh (qd (qa ?_))
       refine hk_region fun K hK=>runs_eval tab_ok ?_
       simp only [ev0,evA,evB,evP,fl,gp,tab,simprocAttr,reduceCtorEq,reduceIte]
       refine fin_run ?_ (hK _ ?_)<;>clear hK<;>clear K
       ·(first|exact trivial|omega|(simp only [In64] at *; omega)|(simp [In64] at *; omega)|(simp_all; done)|skip)
       refine qa ?_
       refine ⟨i + 1,[0,1],⟨by omega,fun j hj=>?_⟩,by omega,?_⟩
       ·by_cases hj:j=i
        ·subst hj; exact h0
        ·exact hi2 j (by omega)
       ·simp only [leq,leA,ev0,evA,evB,evP,fl,gp,tab,simprocAttr,reduceCtorEq,reduceIte]<;>omega
     ·refine hk_draw mixed (by kernel_rfl) fun K hK=>runs_eval tab_ok ?_
      simp only [ev0,evA,evB,evP,fl,gp,tab,simprocAttr,reduceCtorEq,reduceIte,il_get hlt,tn_pred,il_get (show i - 1 < l.length by omega),decide_eq_false g8a]
      refine fin_run trivial (hK _ ?_)<;>clear hK<;>clear K
      refine qa ?_
      refine hk_cond rfl (fun hC4=>?_) (fun hC4=>?_)
      ·cases hC4
      ·have h0:(lfb N l i).1=0:=lfb_0 hok fun h=>by omega
       refine qh (qd (qa ?_))
       refine hk_region fun K hK=>runs_eval tab_ok ?_
       simp only [ev0,evA,evB,evP,fl,gp,tab,simprocAttr,reduceCtorEq,reduceIte]
       refine fin_run ?_ (hK _ ?_)<;>clear hK<;>clear K
       ·(first|exact trivial|omega|(simp only [In64] at *; omega)|(simp [In64] at *; omega)|(simp_all; done)|skip)
       refine qa ?_
       refine ⟨i + 1,[0,1],⟨by omega,fun j hj=>?_⟩,by omega,?_⟩
       ·by_cases hj:j=i
        ·subst hj; exact h0
        ·exact hi2 j (by omega)
       ·simp only [leq,leA,ev0,evA,evB,evP,fl,gp,tab,simprocAttr,reduceCtorEq,reduceIte]<;>omega
  ·(try simp only [nhs] at hC2)
   refine qj (qc (qc (qf (qa (qm ?_)))))
   refine hk_region fun K hK=>runs_eval tab_ok ?_
   simp only [ev0,evA,evB,evP,fl,gp,tab,simprocAttr,reduceCtorEq,reduceIte]
   refine fin_run ?_ (hK _ ?_)<;>clear hK<;>clear K
   ·(first|exact trivial|omega|(simp only [In64] at *; omega)|(simp [In64] at *; omega)|(simp_all; done)|skip)
   refine qa (qk ?_)
   simp only [Tryd.results50,enA,ev0,evA,evB,evP,fl,gp,tab,simprocAttr,reduceCtorEq,reduceIte]
   all_goals (rw [lf_none hC1 (fun j hj=>hi2 j (by omega))]; simp)

theorem sfault_c (c a:Int):FnC Tryd.prog 115 [.int .i64 c,.int .i64 a] (fl (c,a)):=by
 refine fnc_of tab_ok Tryd.func115 rfl (by kernel_rfl) (by rw [Tryd.ntmps115]; exact Nat.le_add_left 2 _) ?_; rw [Tryd.ntmps115]
 refine qm ?_
 refine hk_region fun K hK=>runs_eval tab_ok ?_
 simp only [ev0,evA,evB,evP,fl,gp,tab,simprocAttr,reduceCtorEq,reduceIte]
 refine fin_run ?_ (hK _ ?_)<;>clear hK<;>clear K
 ·(first|exact trivial|omega|(simp only [In64] at *; omega)|(simp [In64] at *; omega)|(simp_all; done)|skip)
 refine qa (qm ?_)
 refine hk_region fun K hK=>runs_eval tab_ok ?_
 simp only [ev0,evA,evB,evP,fl,gp,tab,simprocAttr,reduceCtorEq,reduceIte]
 refine fin_run ?_ (hK _ ?_)<;>clear hK<;>clear K
 ·(first|exact trivial|omega|(simp only [In64] at *; omega)|(simp [In64] at *; omega)|(simp_all; done)|skip)
 refine qa (qk ?_)
 simp only [Tryd.results115,enA,ev0,evA,evB,evP,fl,gp,tab,simprocAttr,reduceCtorEq,reduceIte]
 all_goals (rfl)

set_option maxHeartbeats 2000000 in
theorem look_c (N:Int) (m l:List Int) (hm:m.length≤1000000000000000) (hl:l.length≤1000000000000000):FnC Tryd.prog 110 [gp N m,.list (il l)] (fl (sf N m l)):=by
 refine fnc_of tab_ok Tryd.func110 rfl (by kernel_rfl) (by rw [Tryd.ntmps110]; exact Nat.le_add_left 2 _) ?_; rw [Tryd.ntmps110]
 refine qm ?_
 refine hk_region fun K hK=>runs_eval tab_ok ?_
 simp only [ev0,evA,evB,evP,fl,gp,tab,simprocAttr,reduceCtorEq,reduceIte]
 refine fin_run ?_ (hK _ ?_)<;>clear hK<;>clear K
 ·(first|exact trivial|omega|(simp only [In64] at *; omega)|(simp [In64] at *; omega)|(simp_all; done)|skip)
 refine qa (qm (qm ?_))
 refine hk_region fun K hK=>runs_eval tab_ok ?_
 simp only [ev0,evA,evB,evP,fl,gp,tab,simprocAttr,reduceCtorEq,reduceIte]
 refine fin_stop trivial (runs_call (check_c N m hm) rfl rfl rfl (by simp only [dstOk,Nat.reduceLT]) (by repeat (first|exact trivial|constructor)) (runs_eval tab_ok ?_))
 simp only [ev0,evA,evB,evP,fl,gp,tab,simprocAttr,reduceCtorEq,reduceIte]
 refine fin_run ?_ (hK _ ?_)<;>clear hK<;>clear K
 ·(first|exact trivial|omega|(simp only [In64] at *; omega)|(simp [In64] at *; omega)|(simp_all; done)|skip)
 refine qa (qm ?_)
 refine hk_region fun K hK=>runs_eval tab_ok ?_
 simp only [ev0,evA,evB,evP,fl,gp,tab,simprocAttr,reduceCtorEq,reduceIte]
 refine fin_run ?_ (hK _ ?_)<;>clear hK<;>clear K
 ·(first|exact trivial|omega|(simp only [In64] at *; omega)|(simp [In64] at *; omega)|(simp_all; done)|skip)
 refine qa ?_
 refine hk_cond rfl (fun hC1=>?_) (fun hC1=>?_)
 ·(try simp only [nhs] at hC1)
  refine qm ?_
  refine hk_region fun K hK=>runs_eval tab_ok ?_
  simp only [ev0,evA,evB,evP,fl,gp,tab,simprocAttr,reduceCtorEq,reduceIte]
  refine fin_run ?_ (hK _ ?_)<;>clear hK<;>clear K
  ·(first|exact trivial|omega|(simp only [In64] at *; omega)|(simp [In64] at *; omega)|(simp_all; done)|skip)
  refine qa (qk (qb ?_))
  simp only [Tryd.results110,enA,ev0,evA,evB,evP,fl,gp,tab,simprocAttr,reduceCtorEq,reduceIte]
  all_goals (rw [sf,if_pos (by simpa using hC1)]; simp)
 ·(try simp only [nhs] at hC1)
  have hg:(gf N m).1=0:=hC1
  refine qh (qa (qm (qm ?_)))
  refine hk_region fun K hK=>runs_eval tab_ok ?_
  simp only [ev0,evA,evB,evP,fl,gp,tab,simprocAttr,reduceCtorEq,reduceIte]
  refine fin_run ?_ (hK _ ?_)<;>clear hK<;>clear K
  ·(first|exact trivial|omega|(simp only [In64] at *; omega)|(simp [In64] at *; omega)|(simp_all; done)|skip)
  refine qa ?_
  refine hk_cond rfl (fun hC2=>?_) (fun hC2=>?_)
  ·(try simp only [nhs] at hC2)
   refine qm ?_
   refine hk_region fun K hK=>runs_eval tab_ok ?_
   simp only [ev0,evA,evB,evP,fl,gp,tab,simprocAttr,reduceCtorEq,reduceIte]
   refine fin_stop trivial (runs_call (sfault_c 2 0) rfl rfl rfl (by simp only [dstOk,Nat.reduceLT]) (by repeat (first|exact trivial|constructor)) (runs_eval tab_ok ?_))
   simp only [ev0,evA,evB,evP,fl,gp,tab,simprocAttr,reduceCtorEq,reduceIte]
   refine fin_run ?_ (hK _ ?_)<;>clear hK<;>clear K
   ·(first|exact trivial|omega|(simp only [In64] at *; omega)|(simp [In64] at *; omega)|(simp_all; done)|skip)
   refine qa (qk (qb ?_))
   simp only [Tryd.results110,enA,ev0,evA,evB,evP,fl,gp,tab,simprocAttr,reduceCtorEq,reduceIte]
   all_goals (rw [sf,if_neg (by simpa using hg),lf_many hC2]; simp)
  ·(try simp only [nhs] at hC2)
   refine qh (qa (qm (qm ?_)))
   refine hk_region fun K hK=>runs_eval tab_ok ?_
   simp only [ev0,evA,evB,evP,fl,gp,tab,simprocAttr,reduceCtorEq,reduceIte]
   refine fin_run trivial (hK _ ?_)<;>clear hK<;>clear K
   refine qa (ql ?_)
   refine hk_loop (ι:=Nat) (fun i=>⟨52,[(1,.p (.list (il l))),(2,.ptr 0 0),(4,.ptr 1 0),(20,.p (.list (il l))),(21,.p (.int .i64 l.length)),(22,.p (.int .i64 i))],[.own [.p (.int .i64 N),.p (.list (il m))],.own [.p (.int .i64 0),.p (.int .i64 0)]]⟩) (fun i=>i≤l.length∧∀ j,j < i→(lfb N l j).1=0) (fun i=>l.length - i) 0 ⟨Nat.zero_le _,fun j hj=>by omega⟩ [0,1] (by simp only [leq,leA,ev0,evA,evB,evP,fl,gp,tab,simprocAttr,reduceCtorEq,reduceIte]<;>trivial) fun i hi=>?_
   obtain ⟨hi1,hi2⟩:=hi
   refine qm ?_
   refine hk_region fun K hK=>runs_eval tab_ok ?_
   simp only [ev0,evA,evB,evP,fl,gp,tab,simprocAttr,reduceCtorEq,reduceIte]
   refine fin_run trivial (hK _ ?_)<;>clear hK<;>clear K
   refine qa (qm ?_)
   refine hk_cond rfl (fun hC3=>?_) (fun hC3=>?_)
   ·(try simp only [nhs] at hC3)
    have hlt:i < l.length:=by omega
    refine qh (qa (qm (ql (qm ?_))))
    refine hk_region fun K hK=>runs_eval tab_ok ?_
    simp only [ev0,evA,evB,evP,fl,gp,tab,simprocAttr,reduceCtorEq,reduceIte,il_get hlt]
    refine fin_run ?_ (hK _ ?_)<;>clear hK<;>clear K
    ·(first|exact trivial|omega|(simp only [In64] at *; omega)|(simp [In64] at *; omega)|(simp_all; done)|skip)
    refine qa (qm (qm ?_))
    by_cases g9a:l.getD i 0 < 0
    ·refine hk_region fun K hK=>runs_eval tab_ok ?_
     simp only [ev0,evA,evB,evP,fl,gp,tab,simprocAttr,reduceCtorEq,reduceIte,decide_eq_true g9a]
     refine fin_run trivial (hK _ ?_)<;>clear hK<;>clear K
     refine qa ?_
     refine hk_cond rfl (fun hC4=>?_) (fun hC4=>?_)
     ·refine qm ?_
      refine hk_region fun K hK=>runs_eval tab_ok ?_
      simp only [ev0,evA,evB,evP,fl,gp,tab,simprocAttr,reduceCtorEq,reduceIte]
      refine fin_stop trivial (runs_call (sfault_c 3 i) rfl rfl rfl (by simp only [dstOk,Nat.reduceLT]) (by repeat (first|exact trivial|constructor)) (runs_eval tab_ok ?_))
      simp only [ev0,evA,evB,evP,fl,gp,tab,simprocAttr,reduceCtorEq,reduceIte]
      refine fin_run ?_ (hK _ ?_)<;>clear hK<;>clear K
      ·(first|exact trivial|omega|(simp only [In64] at *; omega)|(simp [In64] at *; omega)|(simp_all; done)|skip)
      refine qa (qk (qb (qe (qb (qb (qe (qb ?_)))))))
      simp only [Tryd.results110,enA,ev0,evA,evB,evP,fl,gp,tab,simprocAttr,reduceCtorEq,reduceIte]
      all_goals (rw [sf,if_neg (by simpa using hg),lf_at hC2 hlt (lfb_3 (fun h=>h (.inl g9a))) (by simp) hi2]; simp)
     ·cases hC4
    ·refine hk_region fun K hK=>runs_eval tab_ok ?_
     simp only [ev0,evA,evB,evP,fl,gp,tab,simprocAttr,reduceCtorEq,reduceIte,decide_eq_false g9a]
     refine fin_run ?_ (hK _ ?_)<;>clear hK<;>clear K
     ·(first|exact trivial|omega|(simp only [In64] at *; omega)|(simp [In64] at *; omega)|(simp_all; done)|skip)
     refine qa ?_
     refine hk_cond rfl (fun hC4=>?_) (fun hC4=>?_)
     ·(try simp only [nhs] at hC4)
      refine qm ?_
      refine hk_region fun K hK=>runs_eval tab_ok ?_
      simp only [ev0,evA,evB,evP,fl,gp,tab,simprocAttr,reduceCtorEq,reduceIte]
      refine fin_stop trivial (runs_call (sfault_c 3 i) rfl rfl rfl (by simp only [dstOk,Nat.reduceLT]) (by repeat (first|exact trivial|constructor)) (runs_eval tab_ok ?_))
      simp only [ev0,evA,evB,evP,fl,gp,tab,simprocAttr,reduceCtorEq,reduceIte]
      refine fin_run ?_ (hK _ ?_)<;>clear hK<;>clear K
      ·(first|exact trivial|omega|(simp only [In64] at *; omega)|(simp [In64] at *; omega)|(simp_all; done)|skip)
      refine qa (qk (qb (qe (qb (qb (qe (qb ?_)))))))
      simp only [Tryd.results110,enA,ev0,evA,evB,evP,fl,gp,tab,simprocAttr,reduceCtorEq,reduceIte]
      all_goals (rw [sf,if_neg (by simpa using hg),lf_at hC2 hlt (lfb_3 (fun h=>h (.inr hC4))) (by simp) hi2]; simp)
     ·(try simp only [nhs] at hC4)
      have hok:okT N l i:=by unfold okT; omega
      refine qh (qa (qm ?_))
      by_cases g11a:(i:Int) > 0
      ·refine hk_region fun K hK=>runs_eval tab_ok ?_
       simp only [ev0,evA,evB,evP,fl,gp,tab,simprocAttr,reduceCtorEq,reduceIte,il_get hlt,tn_pred,il_get (show i - 1 < l.length by omega),decide_eq_true g11a]
       refine fin_run ?_ (hK _ ?_)<;>clear hK<;>clear K
       ·(first|exact trivial|omega|(simp only [In64] at *; omega)|(simp [In64] at *; omega)|(simp_all; done)|skip)
       refine qa ?_
       refine hk_cond rfl (fun hC5=>?_) (fun hC5=>?_)
       ·(try simp only [nhs] at hC5)
        refine qm ?_
        refine hk_region fun K hK=>runs_eval tab_ok ?_
        simp only [ev0,evA,evB,evP,fl,gp,tab,simprocAttr,reduceCtorEq,reduceIte]
        refine fin_stop trivial (runs_call (sfault_c 5 i) rfl rfl rfl (by simp only [dstOk,Nat.reduceLT]) (by repeat (first|exact trivial|constructor)) (runs_eval tab_ok ?_))
        simp only [ev0,evA,evB,evP,fl,gp,tab,simprocAttr,reduceCtorEq,reduceIte]
        refine fin_run ?_ (hK _ ?_)<;>clear hK<;>clear K
        ·(first|exact trivial|omega|(simp only [In64] at *; omega)|(simp [In64] at *; omega)|(simp_all; done)|skip)
        refine qa (qk (qe (qb (qb (qe (qb ?_))))))
        simp only [Tryd.results110,enA,ev0,evA,evB,evP,fl,gp,tab,simprocAttr,reduceCtorEq,reduceIte]
        all_goals (rw [sf,if_neg (by simpa using hg),lf_at hC2 hlt (lfb_5 hok (by omega) hC5) (by simp) hi2]; simp)
       ·(try simp only [nhs] at hC5)
        have h0:(lfb N l i).1=0:=lfb_0 hok fun h=>by omega
        refine qh (qd (qa ?_))
        refine hk_region fun K hK=>runs_eval tab_ok ?_
        simp only [ev0,evA,evB,evP,fl,gp,tab,simprocAttr,reduceCtorEq,reduceIte]
        refine fin_run ?_ (hK _ ?_)<;>clear hK<;>clear K
        ·(first|exact trivial|omega|(simp only [In64] at *; omega)|(simp [In64] at *; omega)|(simp_all; done)|skip)
        refine qa ?_
        refine ⟨i + 1,[0,1],⟨by omega,fun j hj=>?_⟩,by omega,?_⟩
        ·by_cases hj:j=i
         ·subst hj; exact h0
         ·exact hi2 j (by omega)
        ·simp only [leq,leA,ev0,evA,evB,evP,fl,gp,tab,simprocAttr,reduceCtorEq,reduceIte]<;>omega
      ·refine hk_region fun K hK=>runs_eval tab_ok ?_
       simp only [ev0,evA,evB,evP,fl,gp,tab,simprocAttr,reduceCtorEq,reduceIte,il_get hlt,tn_pred,il_get (show i - 1 < l.length by omega),decide_eq_false g11a]
       refine fin_run trivial (hK _ ?_)<;>clear hK<;>clear K
       refine qa ?_
       refine hk_cond rfl (fun hC5=>?_) (fun hC5=>?_)
       ·cases hC5
       ·have h0:(lfb N l i).1=0:=lfb_0 hok fun h=>by omega
        refine qh (qd (qa ?_))
        refine hk_region fun K hK=>runs_eval tab_ok ?_
        simp only [ev0,evA,evB,evP,fl,gp,tab,simprocAttr,reduceCtorEq,reduceIte]
        refine fin_run ?_ (hK _ ?_)<;>clear hK<;>clear K
        ·(first|exact trivial|omega|(simp only [In64] at *; omega)|(simp [In64] at *; omega)|(simp_all; done)|skip)
        refine qa ?_
        refine ⟨i + 1,[0,1],⟨by omega,fun j hj=>?_⟩,by omega,?_⟩
        ·by_cases hj:j=i
         ·subst hj; exact h0
         ·exact hi2 j (by omega)
        ·simp only [leq,leA,ev0,evA,evB,evP,fl,gp,tab,simprocAttr,reduceCtorEq,reduceIte]<;>omega
   ·(try simp only [nhs] at hC3)
    refine qj (qc (qc (qf (qa (qm ?_)))))
    refine hk_region fun K hK=>runs_eval tab_ok ?_
    simp only [ev0,evA,evB,evP,fl,gp,tab,simprocAttr,reduceCtorEq,reduceIte]
    refine fin_run ?_ (hK _ ?_)<;>clear hK<;>clear K
    ·(first|exact trivial|omega|(simp only [In64] at *; omega)|(simp [In64] at *; omega)|(simp_all; done)|skip)
    refine qa (qk ?_)
    simp only [Tryd.results110,enA,ev0,evA,evB,evP,fl,gp,tab,simprocAttr,reduceCtorEq,reduceIte]
    all_goals (rw [sf,if_neg (by simpa using hg),lf_none hC2 (fun j hj=>hi2 j (by omega))]; simp)

/-! ### Choosing -/

theorem those_c (n:Nat) (m:List Int) (F:FuncId) (caps:List PV) (p:Nat→Bool) (hn:n≤1000000) (hF:∀ a,a < n→FnC Tryd.prog F (.int .i64 a :: caps) (.bool (p a))):FnC Tryd.prog 40 [gp n m,.fn F caps] (.list (il (thl n p))):=by
 refine fnc_of tab_ok Tryd.func40 rfl (by kernel_rfl) (by rw [Tryd.ntmps40]; exact Nat.le_add_left 2 _) ?_; rw [Tryd.ntmps40]
 refine qm ?_
 refine hk_region fun K hK=>runs_eval tab_ok ?_
 simp only [ev0,evA,evB,evP,fl,gp,tab,simprocAttr,reduceCtorEq,reduceIte]
 refine fin_run ?_ (hK _ ?_)<;>clear hK<;>clear K
 ·(first|exact trivial|omega|(simp only [In64] at *; omega)|(simp [In64] at *; omega)|(simp_all; done)|skip)
 refine qa (qm ?_)
 refine hk_region fun K hK=>runs_eval tab_ok ?_
 simp only [ev0,evA,evB,evP,fl,gp,tab,simprocAttr,reduceCtorEq,reduceIte]
 refine fin_run trivial (hK _ ?_)<;>clear hK<;>clear K
 refine qa (qm (qm ?_))
 refine hk_region fun K hK=>runs_eval tab_ok ?_
 simp only [ev0,evA,evB,evP,fl,gp,tab,simprocAttr,reduceCtorEq,reduceIte]
 refine fin_run trivial (hK _ ?_)<;>clear hK<;>clear K
 refine qa (ql ?_)
 refine hk_own0 5 rfl ?_
 refine hk_loop (ι:=Nat) (fun i=>⟨21,[(1,.p (.fn F caps)),(2,.ptr 0 0),(5,.sl 1 0 (thl i p).length),(6,.p (.int .i64 i))],[.own [.p (.int .i64 n),.p (.list (il m))],.own (ol (thl i p))]⟩) (fun i=>i≤n) (fun i=>n - i) 0 (Nat.zero_le _) [0,1] (by simp only [leq,leA,ev0,evA,evB,evP,fl,gp,tab,simprocAttr,reduceCtorEq,reduceIte]<;>simp [thl,thn',ol_nil]) fun i hi=>?_
 have hl:=thl_le i p
 refine qm (qm ?_)
 refine hk_region fun K hK=>runs_eval tab_ok ?_
 simp only [ev0,evA,evB,evP,fl,gp,tab,simprocAttr,reduceCtorEq,reduceIte]
 refine fin_run ?_ (hK _ ?_)<;>clear hK<;>clear K
 ·(first|exact trivial|omega|(simp only [In64] at *; omega)|(simp [In64] at *; omega)|(simp_all; done)|skip)
 refine qa ?_
 refine hk_cond rfl (fun hC1=>?_) (fun hC1=>?_)
 ·(try simp only [nhs] at hC1)
  have hlt:i < n:=by omega
  have hs:=thl_succ i p
  refine qh (qa (qm (ql (qm ?_))))
  refine hk_region fun K hK=>runs_eval tab_ok ?_
  simp only [ev0,evA,evB,evP,fl,gp,tab,simprocAttr,reduceCtorEq,reduceIte]
  refine fin_stop trivial (runs_call (hF i hlt) rfl rfl rfl (by simp only [dstOk,Nat.reduceLT]) (by repeat (first|exact trivial|constructor)) (runs_eval tab_ok ?_))
  simp only [ev0,evA,evB,evP,fl,gp,tab,simprocAttr,reduceCtorEq,reduceIte]
  refine fin_run trivial (hK _ ?_)<;>clear hK<;>clear K
  refine qa ?_
  refine hk_cond rfl (fun hC2=>?_) (fun hC2=>?_)
  ·(try simp only [nhs] at hC2)
   rw [if_pos hC2] at hs
   refine hk_region fun K hK=>runs_eval tab_ok ?_
   simp only [ev0,evA,evB,evP,fl,gp,tab,simprocAttr,reduceCtorEq,reduceIte]
   refine fin_run ?_ (hK _ ?_)<;>clear hK<;>clear K
   ·(first|exact trivial|omega|(simp only [In64] at *; omega)|(simp [In64] at *; omega)|(simp_all; done)|skip)
   refine qd (qa ?_)
   refine hk_region fun K hK=>runs_eval tab_ok ?_
   simp only [ev0,evA,evB,evP,fl,gp,tab,simprocAttr,reduceCtorEq,reduceIte]
   refine fin_run ?_ (hK _ ?_)<;>clear hK<;>clear K
   ·(first|exact trivial|omega|(simp only [In64] at *; omega)|(simp [In64] at *; omega)|(simp_all; done)|skip)
   refine qa ?_
   refine ⟨i + 1,[0,2],by omega,by omega,?_⟩
   rw [hs]
   simp only [leq,leA,ev0,evA,evB,evP,fl,gp,tab,simprocAttr,reduceCtorEq,reduceIte]<;>first|trivial|omega
  ·(try simp only [nhs] at hC2)
   rw [if_neg (by rw [hC2]; simp)] at hs
   refine qh (qd (qa ?_))
   refine hk_region fun K hK=>runs_eval tab_ok ?_
   simp only [ev0,evA,evB,evP,fl,gp,tab,simprocAttr,reduceCtorEq,reduceIte]
   refine fin_run ?_ (hK _ ?_)<;>clear hK<;>clear K
   ·(first|exact trivial|omega|(simp only [In64] at *; omega)|(simp [In64] at *; omega)|(simp_all; done)|skip)
   refine qa ?_
   refine ⟨i + 1,[0,1],by omega,by omega,?_⟩
   rw [hs,List.append_nil]
   simp only [leq,leA,ev0,evA,evB,evP,fl,gp,tab,simprocAttr,reduceCtorEq,reduceIte]<;>first|trivial|omega
 ·(try simp only [nhs] at hC1)
  have hin:i=n:=by omega
  subst hin
  refine hk_seal 5 1 rfl rfl ?_
  refine qj (qc (qc (qf (qa (qm ?_)))))
  refine hk_region fun K hK=>runs_eval tab_ok ?_
  simp only [ev0,evA,evB,evP,fl,gp,tab,simprocAttr,reduceCtorEq,reduceIte]
  refine fin_run trivial (hK _ ?_)<;>clear hK<;>clear K
  refine qa (qk ?_)
  simp only [Tryd.results40,enA,ev0,evA,evB,evP,fl,gp,tab,simprocAttr,reduceCtorEq,reduceIte]
  all_goals (rfl)

theorem has_r (l:List Int) (x:Int) (hl:l.length≤1000000000000000):FnC Tryd.prog 53 [.list (il l),.int .i64 x] (.bool (decide (x∈l))):=by
 refine fnc_of tab_ok Tryd.func53 rfl (by kernel_rfl) (by rw [Tryd.ntmps53]; exact Nat.le_add_left 2 _) ?_; rw [Tryd.ntmps53]
 refine qm ?_
 refine hk_region fun K hK=>runs_eval tab_ok ?_
 simp only [ev0,evA,evB,evP,fl,gp,tab,simprocAttr,reduceCtorEq,reduceIte]
 refine fin_run trivial (hK _ ?_)<;>clear hK<;>clear K
 refine qa (qm (qm ?_))
 refine hk_region fun K hK=>runs_eval tab_ok ?_
 simp only [ev0,evA,evB,evP,fl,gp,tab,simprocAttr,reduceCtorEq,reduceIte]
 refine fin_run trivial (hK _ ?_)<;>clear hK<;>clear K
 refine qa (ql ?_)
 refine hk_loop (ι:=Nat) (fun i=>⟨18,[(0,.p (.list (il l))),(1,.p (.int .i64 x)),(5,.p (.int .i64 i))],[]⟩) (fun i=>i≤l.length∧∀ j,j < i→l.getD j 0 ≠ x) (fun i=>l.length - i) 0 ⟨Nat.zero_le _,fun j hj=>by omega⟩ [] (by simp only [leq,leA,ev0,evA,evB,evP,fl,gp,tab,simprocAttr,reduceCtorEq,reduceIte]<;>trivial) fun i hi=>?_
 obtain ⟨hi1,hi2⟩:=hi
 refine qm (qm ?_)
 refine hk_region fun K hK=>runs_eval tab_ok ?_
 simp only [ev0,evA,evB,evP,fl,gp,tab,simprocAttr,reduceCtorEq,reduceIte]
 refine fin_run trivial (hK _ ?_)<;>clear hK<;>clear K
 refine qa ?_
 refine hk_cond rfl (fun hC1=>?_) (fun hC1=>?_)
 ·(try simp only [nhs] at hC1)
  have hlt:i < l.length:=by omega
  refine qh (qa (qm (ql (qm ?_))))
  refine hk_region fun K hK=>runs_eval tab_ok ?_
  simp only [ev0,evA,evB,evP,fl,gp,tab,simprocAttr,reduceCtorEq,reduceIte,il_get hlt]
  refine fin_run ?_ (hK _ ?_)<;>clear hK<;>clear K
  ·(first|exact trivial|omega|(simp only [In64] at *; omega)|(simp [In64] at *; omega)|(simp_all; done)|skip)
  refine qa ?_
  refine hk_cond rfl (fun hC2=>?_) (fun hC2=>?_)
  ·(try simp only [nhs] at hC2)
   refine qm ?_
   refine hk_region fun K hK=>runs_eval tab_ok ?_
   simp only [ev0,evA,evB,evP,fl,gp,tab,simprocAttr,reduceCtorEq,reduceIte]
   refine fin_run trivial (hK _ ?_)<;>clear hK<;>clear K
   refine qa (qk (qe (qb (qb (qe (qb ?_))))))
   simp only [Tryd.results53,enA,ev0,evA,evB,evP,fl,gp,tab,simprocAttr,reduceCtorEq,reduceIte]
   all_goals (rw [eq_comm]; refine decide_eq_true ?_; rw [← hC2]; simp [List.getD,List.getElem?_eq_getElem hlt])
  ·(try simp only [nhs] at hC2)
   refine qh (qd (qa ?_))
   refine hk_region fun K hK=>runs_eval tab_ok ?_
   simp only [ev0,evA,evB,evP,fl,gp,tab,simprocAttr,reduceCtorEq,reduceIte]
   refine fin_run ?_ (hK _ ?_)<;>clear hK<;>clear K
   ·(first|exact trivial|omega|(simp only [In64] at *; omega)|(simp [In64] at *; omega)|(simp_all; done)|skip)
   refine qa ?_
   refine ⟨i + 1,[],⟨by omega,fun j hj=>?_⟩,by omega,?_⟩
   ·by_cases hj:j=i
    ·subst hj; exact hC2
    ·exact hi2 j (by omega)
   ·simp only [leq,leA,ev0,evA,evB,evP,fl,gp,tab,simprocAttr,reduceCtorEq,reduceIte]<;>omega
 ·(try simp only [nhs] at hC1)
  refine qj (qc (qc (qf (qa (qm ?_)))))
  refine hk_region fun K hK=>runs_eval tab_ok ?_
  simp only [ev0,evA,evB,evP,fl,gp,tab,simprocAttr,reduceCtorEq,reduceIte]
  refine fin_run trivial (hK _ ?_)<;>clear hK<;>clear K
  refine qa (qk ?_)
  simp only [Tryd.results53,enA,ev0,evA,evB,evP,fl,gp,tab,simprocAttr,reduceCtorEq,reduceIte]
  all_goals (rw [eq_comm]; refine decide_eq_false fun hm=>?_; obtain ⟨j,hj,e⟩:=List.getElem_of_mem hm; exact hi2 j (by omega) (by simp [List.getD,List.getElem?_eq_getElem hj,e]))

end Go.Proofs.YtboadfahlflmhaaDoor

/-
  Sets of things: what they make, as the program has it. Conditions: none.
-/
set_option linter.all false
namespace Go.Proofs.YtboadfahlflmhaaDoor
open Go.Pv

/-- The bits of the things of which something holds. -/
def bo (n:Nat) (p:Nat→Bool):Nat:=msk (thl n p)
theorem bo_bit (n:Nat) (p:Nat→Bool) (i:Nat):(bo n p).testBit i=(decide (i < n) && p i):=by
 unfold bo
 rw [msk_bit,Bool.eq_iff_iff,decide_eq_true_eq,Bool.and_eq_true,decide_eq_true_eq]
 constructor
 ·rintro ⟨x,hx,rfl⟩
  obtain ⟨a,h1,h2,rfl⟩:=mem_thl.1 hx
  exact ⟨h1,h2⟩
 ·rintro ⟨h1,h2⟩
  exact ⟨(i:Int),mem_thl.2 ⟨i,h1,h2,rfl⟩,rfl⟩
theorem bo_lt (n:Nat) (p:Nat→Bool):bo n p < 2 ^ n:=msk_lt fun x hx=>by
 obtain ⟨a,h1,_,rfl⟩:=mem_thl.1 hx
 exact h1
theorem bo_lt64 {n:Nat} (hn:n≤60) (p:Nat→Bool):bo n p < 2 ^ 64:=Nat.lt_of_lt_of_le (bo_lt n p) (Nat.pow_le_pow_right (by omega) (by omega))
theorem bo_eq {n s:Nat} {p:Nat→Bool} (hs:s < 2 ^ n) (h:∀ i,i < n→s.testBit i=p i):s=bo n p:=by
 refine Nat.eq_of_testBit_eq fun i=>?_
 rw [bo_bit]
 by_cases hi:i < n
 ·rw [h i hi]; simp [hi]
 ·rw [Nat.testBit_lt_two_pow (Nat.lt_of_lt_of_le hs (Nat.pow_le_pow_right (by omega) (by omega)))]; simp [hi]
theorem bo_congr {n:Nat} {p q:Nat→Bool} (h:∀ a,a < n→p a=q a):bo n p=bo n q:=by unfold bo; rw [thl_congr h]
theorem bo_inj {n:Nat} {p q:Nat→Bool} (h:bo n p=bo n q) {a:Nat} (ha:a < n):p a=q a:=by
 have h1:=bo_bit n p a
 rw [h,bo_bit] at h1
 simpa [ha] using h1.symm
theorem stl_bo {n:Nat} (hn:n≤60) (p:Nat→Bool):stl (bo n p)=thl n p:=by
 rw [stl_n (by omega) (bo_lt n p)]
 exact thl_congr fun a ha=>by rw [bo_bit]; simp [ha]
theorem msk_thl (n:Nat) (p:Nat→Bool):msk (thl n p)=bo n p:=rfl
theorem thl_rng {n:Nat} (hn:n≤60) (p:Nat→Bool):∀ x∈thl n p,0≤x∧x < 64:=by
 intro x hx
 obtain ⟨a,h1,_,rfl⟩:=mem_thl.1 hx
 omega
theorem pow_lt64 {b:Nat} (hb:b < 64):2 ^ b < 2 ^ 64:=Nat.pow_lt_pow_right (by omega) hb
theorem lt64 {n s:Nat} (hn:n≤60) (hs:s < 2 ^ n):s < 2 ^ 64:=Nat.lt_of_lt_of_le hs (Nat.pow_le_pow_right (by omega) (by omega))
theorem bit_ltn {n s i:Nat} (hs:s < 2 ^ n) (h:s.testBit i=true):i < n:=by
 rcases Nat.lt_or_ge i n with h1 | h1
 ·exact h1
 ·rw [Nat.testBit_lt_two_pow (Nat.lt_of_lt_of_le hs (Nat.pow_le_pow_right (by omega) h1))] at h; cases h

theorem app_at (pre w:List Int) (a:Int) (d:AV):(ol (pre++a :: w)).getD pre.length d = .p (.int .i64 a):=by
 simp [ol,il,List.getD]

/-- What holds while a set grows. -/
structure GrowI (n:Nat) (f:Nat→Nat→Nat) (e s out:Nat) (w:List Int):Prop where
 lt:out < 2 ^ n
 one:out.testBit e=true
 gen:∀ a,out.testBit a=true→Gen n f e s.testBit a
 wait:∀ x∈w,∃ a,x=((a:Nat):Int)∧out.testBit a=true
 nd:w.Nodup

theorem or_bit (s b i:Nat):(s ||| 2 ^ b).testBit i=(s.testBit i || decide (b=i)):=by rw [Nat.testBit_or,Nat.testBit_two_pow]
theorem GrowI.len {n e s out:Nat} {f:Nat→Nat→Nat} {w:List Int} (h:GrowI n f e s out w):w.length≤n:=by
 have h1:=List.Nodup.length_le_of_subset h.nd (l₂:=thl n fun _=>true) fun x hx=>by
  obtain ⟨a,rfl,ha⟩:=h.wait x hx
  exact mem_thl.2 ⟨a,bit_ltn h.lt ha,rfl,rfl⟩
 exact Nat.le_trans h1 (thl_le _ _)
theorem GrowI.add {n e s out a z:Nat} {f:Nat→Nat→Nat} {w:List Int} (h:GrowI n f e s out w) (ha:out.testBit a=true) (hz:s.testBit z=true) (hzn:z < n) (hn:f a z < n) (hno:out.testBit (f a z)=false) :
  GrowI n f e s (out ||| 2 ^ f a z) (w++[((f a z:Nat):Int)]) where
 lt:=Nat.or_lt_two_pow h.lt (Nat.pow_lt_pow_right (by omega) hn)
 one:=by rw [or_bit,h.one]; rfl
 gen y hy:=by
  rw [or_bit,Bool.or_eq_true,decide_eq_true_eq] at hy
  rcases hy with hy | rfl
  ·exact h.gen y hy
  ·exact .step a z (h.gen a ha) hzn hz
 wait x hx:=by
  rcases List.mem_append.1 hx with hx | hx
  ·obtain ⟨y,e1,e2⟩:=h.wait x hx
   exact ⟨y,e1,by rw [or_bit,e2]; rfl⟩
  ·exact ⟨_,List.mem_singleton.1 hx,by rw [or_bit]; simp⟩
 nd:=by
  refine List.nodup_append.2 ⟨h.nd,by simp,fun x hx y hy e=>?_⟩
  rw [List.mem_singleton] at hy
  obtain ⟨y',e1,e2⟩:=h.wait x hx
  have:y' = f a z:=by omega
  rw [this,hno] at e2; cases e2

theorem grow_c {n e:Nat} {m:List Int} (h:GT n m n e) (s:Nat) (hs:s < 2 ^ n) (q:Nat→Bool) (hq:∀ a,a < n→(q a=true↔Gen n (op m n) e s.testBit a)):FnC Tryd.prog 111 [gp n m,.int .u64 s] (.int .u64 (bo n q)):=by
 have G:=h.2.2
 have T:=h.2.1
 have hb:=T.big
 have hel:=G.el
 have hs64:=lt64 hb hs
 have hone:=pow_lt64 (b:=e) (by omega)
 have hbe:∀ a,(2 ^ e).testBit a=true→a=e:=fun a ha=>by rw [Nat.testBit_two_pow] at ha; simp at ha; exact ha.symm
 have hstl:∀ x∈stl (2 ^ e),x=(e:Int):=fun x hx=>by
  obtain ⟨a,_,h2,rfl⟩:=mem_thl.1 hx
  rw [hbe a h2]
 have hstl2:(e:Int)∈stl (2 ^ e):=mem_thl.2 ⟨e,by omega,by rw [Nat.testBit_two_pow]; simp,rfl⟩
 refine fnc_of tab_ok Tryd.func111 rfl (by kernel_rfl) (by rw [Tryd.ntmps111]; exact Nat.le_add_left 2 _) ?_; rw [Tryd.ntmps111]
 refine qm ?_
 refine hk_region fun K hK=>runs_eval tab_ok ?_
 simp only [ev0,evA,evB,evP,fl,gp,tab,simprocAttr,reduceCtorEq,reduceIte]
 refine fin_run ?_ (hK _ ?_)<;>clear hK<;>clear K
 ·(first|exact trivial|omega|(simp only [In64] at *; omega)|(simp [In64] at *; omega)|(simp_all; done)|skip)
 refine qa (qm ?_)
 refine hk_region fun K hK=>runs_eval tab_ok ?_
 simp only [ev0,evA,evB,evP,fl,gp,tab,simprocAttr,reduceCtorEq,reduceIte]
 refine fin_stop trivial (runs_call (oneOf_c h) rfl rfl rfl (by simp only [dstOk,Nat.reduceLT]) (by repeat (first|exact trivial|constructor)) (runs_eval tab_ok ?_))
 simp only [ev0,evA,evB,evP,fl,gp,tab,simprocAttr,reduceCtorEq,reduceIte,shl_one (show e < 64 by omega)]
 refine fin_run ?_ (hK _ ?_)<;>clear hK<;>clear K
 ·(first|exact trivial|omega|(simp only [In64] at *; omega)|(simp [In64] at *; omega)|(simp_all; done)|skip)
 refine qa (qm ?_)
 refine hk_region fun K hK=>runs_eval tab_ok ?_
 simp only [ev0,evA,evB,evP,fl,gp,tab,simprocAttr,reduceCtorEq,reduceIte]
 refine fin_stop trivial (runs_callG (list_g (2 ^ e) hone) rfl rfl (by first|rfl|(simp [scG,scA,sc1,opl]; done)|(simp only [scG,List.all_cons,List.all_nil,ol_sc,Bool.and_true]; rfl)) (by simp only [dstOk,Nat.reduceLT]) (by repeat (first|exact trivial|constructor)) (runs_eval tab_ok ?_))
 simp only [Go.Pv.shf,List.range',Blk.ren,opl_ren,ren,ren1,ev0,evA,evB,evP,fl,gp,tab,simprocAttr,reduceCtorEq,reduceIte]
 refine fin_run trivial (hK _ ?_)<;>clear hK<;>clear K
 refine qa (qm (ql ?_))
 refine hk_loop (ι:=Nat × List Int × List Int) (fun p=>⟨48,[(1,.p (.int .u64 s)),(2,.ptr 0 0),(5,.p (.int .u64 p.1)),(6,.sl 1 p.2.1.length p.2.2.length)],[.own [.p (.int .i64 n),.p (.list (il m))],.own (ol (p.2.1++p.2.2))]⟩) (fun p=>GrowI n (op m n) e s p.1 p.2.2∧∀ a,p.1.testBit a=true→((a:Nat):Int) ∉ p.2.2→∀ b,s.testBit b=true→p.1.testBit (op m n a b)=true) (fun p=>2 * (2 ^ 64 - p.1) + p.2.2.length) (2 ^ e,[],stl (2 ^ e)) ⟨⟨Nat.pow_lt_pow_right (by omega) hel,by rw [Nat.testBit_two_pow]; simp,fun a ha=>by rw [hbe a ha]; exact .one,fun x hx=>⟨e,hstl x hx,by rw [Nat.testBit_two_pow]; simp⟩,(thl_asc _ _).imp fun h=>by omega⟩,fun a ha hn=>absurd (by rw [hbe a ha]; exact hstl2) hn⟩ [0,1] (by simp only [leq,leA,ev0,evA,evB,evP,fl,gp,tab,simprocAttr,reduceCtorEq,reduceIte]<;>first|trivial|simp [ol,opl]) fun p hp=>?_
 obtain ⟨out,pre,w⟩:=p
 obtain ⟨⟨i1,i2,i3,i4,i6⟩,i5⟩:=hp
 simp only at i1 i2 i3 i4 i5
 refine qm (qm ?_)
 refine hk_region fun K hK=>runs_eval tab_ok ?_
 simp only [ev0,evA,evB,evP,fl,gp,tab,simprocAttr,reduceCtorEq,reduceIte]
 refine fin_run trivial (hK _ ?_)<;>clear hK<;>clear K
 refine qa ?_
 refine hk_cond rfl (fun hC1=>?_) (fun hC1=>?_)
 ·(try simp only [nhs] at hC1)
  obtain ⟨x,w',rfl⟩:∃ x w',w=x :: w':=by
   cases w with
   | nil=>simp at hC1
   | cons x w'=>exact ⟨x,w',rfl⟩
  obtain ⟨a,rfl,hoa⟩:=i4 x (by simp)
  have hal:=bit_ltn i1 hoa
  refine qh (qa (ql (qm ?_)))
  refine hk_region fun K hK=>runs_eval tab_ok ?_
  simp only [ev0,evA,evB,evP,fl,gp,tab,simprocAttr,reduceCtorEq,reduceIte,app_at,Nat.add_zero]
  refine fin_run ?_ (hK _ ?_)<;>clear hK<;>clear K
  ·(first|exact trivial|omega|(simp only [In64] at *; omega)|(simp [In64] at *; omega)|(simp_all; done)|skip)
  refine qa (qm ?_)
  refine hk_region fun K hK=>runs_eval tab_ok ?_
  simp only [ev0,evA,evB,evP,fl,gp,tab,simprocAttr,reduceCtorEq,reduceIte]
  refine fin_run ?_ (hK _ ?_)<;>clear hK<;>clear K
  ·(first|exact trivial|omega|(simp only [In64] at *; omega)|(simp [In64] at *; omega)|(simp_all; done)|skip)
  refine qa (qm ?_)
  refine hk_region fun K hK=>runs_eval tab_ok ?_
  simp only [ev0,evA,evB,evP,fl,gp,tab,simprocAttr,reduceCtorEq,reduceIte]
  refine fin_run trivial (hK _ ?_)<;>clear hK<;>clear K
  refine qa (ql ?_)
  refine hk_loop (ι:=Nat × Nat × List Int × List Int) (fun p=>⟨48,[(1,.p (.int .u64 s)),(2,.ptr 0 0),(5,.p (.int .u64 p.2.1)),(6,.sl 1 p.2.2.1.length p.2.2.2.length),(7,.p (.int .i64 a)),(8,.p (.int .u64 p.1))],[.own [.p (.int .i64 n),.p (.list (il m))],.own (ol (p.2.2.1++p.2.2.2))]⟩) (fun p=>GrowI n (op m n) e s p.2.1 p.2.2.2∧(∀ i,p.1.testBit i=true→s.testBit i=true)∧p.1 < 2 ^ 64∧(∀ y,p.2.1.testBit y=true→((y:Nat):Int) ∉ p.2.2.2→y ≠ a→∀ b,s.testBit b=true→p.2.1.testBit (op m n y b)=true)∧(∀ b,s.testBit b=true→p.1.testBit b=false→p.2.1.testBit (op m n a b)=true)∧p.2.1.testBit a=true∧2 * (2 ^ 64 - p.2.1) + p.2.2.2.length≤2 * (2 ^ 64 - out) + w'.length) (fun p=>p.1) (s,out,pre++[(a:Int)],w') ⟨⟨i1,i2,i3,fun x hx=>i4 x (by simp [hx]),(List.nodup_cons.1 i6).2⟩,fun i hi=>hi,hs64,fun y hy hn hya b hbs=>i5 y hy (by simp only [List.mem_cons,not_or]; exact ⟨by omega,hn⟩) b hbs,fun b hb1 hb2=>absurd (hb1.symm.trans hb2) (by simp),hoa,Nat.le_refl _⟩ [0,1] (by simp only [leq,leA,ev0,evA,evB,evP,fl,gp,tab,simprocAttr,reduceCtorEq,reduceIte]<;>first|trivial|(simp; done)|(simp; rw [List.take_of_length_le (by simp; omega)])) fun p hp=>?_
  obtain ⟨t,out2,pre2,w2⟩:=p
  obtain ⟨jI,j5,j6,j7,j8,j9,j10⟩:=hp
  simp only at jI j5 j6 j7 j8 j9 j10
  have hw2:=jI.len
  have j1:=jI.lt
  refine qm (qm ?_)
  refine hk_region fun K hK=>runs_eval tab_ok ?_
  simp only [ev0,evA,evB,evP,fl,gp,tab,simprocAttr,reduceCtorEq,reduceIte]
  refine fin_run trivial (hK _ ?_)<;>clear hK<;>clear K
  refine qa ?_
  refine hk_cond rfl (fun hC2=>?_) (fun hC2=>?_)
  ·(try simp only [nhs] at hC2)
   have h0:t ≠ 0:=by omega
   obtain ⟨z1,z2,z3⟩:=tz_spec j6 h0
   have hzs:=j5 _ z2
   have hzn:=bit_ltn hs hzs
   have hfn:=G.cl a (tz t) hal hzn
   have ht1:t - 1 < 2 ^ 64:=by omega
   have hsub:IntKind.u64.wrap ((t:Int) - 1)=((t - 1:Nat):Int):=by rw [wrap_u]; omega
   have hcut:t &&& (t - 1)=cut t:=rfl
   have ho64:=lt64 hb j1
   have hp64:=pow_lt64 (b:=op m n a (tz t)) (by omega)
   refine qh (qa (qm (ql (qm ?_))))
   refine hk_draw mixed (by kernel_rfl) fun K hK=>runs_eval tab_ok ?_
   simp only [ev0,evA,evB,evP,fl,gp,tab,simprocAttr,reduceCtorEq,reduceIte]
   refine fin_stop trivial (runs_call (tz_c t j6 h0) rfl rfl rfl (by simp only [dstOk,Nat.reduceLT]) (by repeat (first|exact trivial|constructor)) (runs_eval tab_ok ?_))
   simp only [ev0,evA,evB,evP,fl,gp,tab,simprocAttr,reduceCtorEq,reduceIte]
   refine fin_stop trivial (runs_call (of_c T hal hzn) rfl rfl rfl (by simp only [dstOk,Nat.reduceLT]) (by repeat (first|exact trivial|constructor)) (runs_eval tab_ok ?_))
   simp only [ev0,evA,evB,evP,fl,gp,tab,simprocAttr,reduceCtorEq,reduceIte]
   refine fin_run ?_ (hK _ ?_)<;>clear hK<;>clear K
   ·(first|exact trivial|omega|(simp only [In64] at *; omega)|(simp [In64] at *; omega)|(simp_all; done)|skip)
   refine qa (qm ?_)
   refine hk_region fun K hK=>runs_eval tab_ok ?_
   simp only [ev0,evA,evB,evP,fl,gp,tab,simprocAttr,reduceCtorEq,reduceIte]
   refine fin_stop trivial (runs_call (has_s out2 (op m n a (tz t)) ho64 (by omega)) rfl rfl rfl (by simp only [dstOk,Nat.reduceLT]) (by repeat (first|exact trivial|constructor)) (runs_eval tab_ok ?_))
   simp only [ev0,evA,evB,evP,fl,gp,tab,simprocAttr,reduceCtorEq,reduceIte]
   refine fin_run trivial (hK _ ?_)<;>clear hK<;>clear K
   refine qa ?_
   refine hk_cond rfl (fun hC3=>?_) (fun hC3=>?_)
   ·(try simp only [nhs] at hC3)
    have hno:out2.testBit (op m n a (tz t))=false:=hC3
    have hlt2:out2 < out2 ||| 2 ^ op m n a (tz t):=by
     rcases Nat.lt_or_eq_of_le (Nat.left_le_or (n:=out2) (m:=2 ^ op m n a (tz t))) with h1 | h1
     ·exact h1
     ·exfalso
      have h2:=or_bit out2 (op m n a (tz t)) (op m n a (tz t))
      rw [← h1,hno] at h2
      simp at h2
    refine qm ?_
    refine hk_region fun K hK=>runs_eval tab_ok ?_
    simp only [ev0,evA,evB,evP,fl,gp,tab,simprocAttr,reduceCtorEq,reduceIte,shl_one (show op m n a (tz t) < 64 by omega),bv_or ho64 hp64]
    refine fin_run ?_ (hK _ ?_)<;>clear hK<;>clear K
    ·(first|exact trivial|omega|(simp only [In64] at *; omega)|(simp [In64] at *; omega)|(simp_all; done)|skip)
    refine qa ?_
    refine hk_region fun K hK=>runs_eval tab_ok ?_
    simp only [ev0,evA,evB,evP,fl,gp,tab,simprocAttr,reduceCtorEq,reduceIte]
    refine fin_run ?_ (hK _ ?_)<;>clear hK<;>clear K
    ·simp only [List.length_append]; omega
    refine qd (qa ?_)
    refine hk_region fun K hK=>runs_eval tab_ok ?_
    simp only [ev0,evA,evB,evP,fl,gp,tab,simprocAttr,reduceCtorEq,reduceIte,hsub,bv_and j6 ht1,hcut]
    refine fin_run ?_ (hK _ ?_)<;>clear hK<;>clear K
    ·(first|exact trivial|omega|(simp only [In64] at *; omega)|(simp [In64] at *; omega)|(simp_all; done)|skip)
    refine qa ?_
    have hI:=jI.add j9 hzs hzn hfn hno
    have hI1:=lt64 hb hI.lt
    refine ⟨(cut t,out2 ||| 2 ^ op m n a (tz t),[],w2++[((op m n a (tz t):Nat):Int)]),[0,2],⟨hI,fun i hi=>?_,?_,fun y hy hn hya b hbs=>?_,fun b hb1 hb2=>?_,?_,?_⟩,?_,?_⟩
    ·simp only [cut_bit j6 h0,Bool.and_eq_true] at hi
     exact j5 i hi.1
    ·exact Nat.lt_trans (cut_lt h0) j6
    ·simp only [or_bit,Bool.or_eq_true,decide_eq_true_eq] at hy ⊢
     simp only [List.mem_append,List.mem_singleton,not_or] at hn
     rcases hy with hy | hy
     ·exact .inl (j7 y hy hn.1 hya b hbs)
     ·exact absurd (by rw [hy]) hn.2
    ·simp only [cut_bit j6 h0] at hb2
     simp only [or_bit,Bool.or_eq_true,decide_eq_true_eq]
     by_cases hbz:b=tz t
     ·right; rw [hbz]
     ·left
      refine j8 b hb1 ?_
      cases htb:t.testBit b with
      | false=>rfl
      | true=>rw [htb] at hb2; simp at hb2; exact absurd hb2 hbz
    ·simp only [or_bit,j9,Bool.true_or]
    ·simp only [List.length_append,List.length_cons,List.length_nil]
     omega
    ·exact cut_lt h0
    ·simp only [leq,leA,ev0,evA,evB,evP,fl,gp,tab,simprocAttr,reduceCtorEq,reduceIte]
     rw [List.drop_left,List.take_length,List.take_of_length_le (by simp)]
   ·(try simp only [nhs] at hC3)
    refine qh (qd (qa ?_))
    refine hk_region fun K hK=>runs_eval tab_ok ?_
    simp only [ev0,evA,evB,evP,fl,gp,tab,simprocAttr,reduceCtorEq,reduceIte,hsub,bv_and j6 ht1,hcut]
    refine fin_run ?_ (hK _ ?_)<;>clear hK<;>clear K
    ·(first|exact trivial|omega|(simp only [In64] at *; omega)|(simp [In64] at *; omega)|(simp_all; done)|skip)
    refine qa ?_
    refine ⟨(cut t,out2,pre2,w2),[0,1],⟨jI,fun i hi=>?_,?_,j7,fun b hb1 hb2=>?_,j9,j10⟩,cut_lt h0,?_⟩
    ·simp only [cut_bit j6 h0,Bool.and_eq_true] at hi
     exact j5 i hi.1
    ·exact Nat.lt_trans (cut_lt h0) j6
    ·simp only [cut_bit j6 h0] at hb2
     by_cases hbz:b=tz t
     ·show out2.testBit (op m n a b)=true
      rw [hbz]; exact hC3
     ·refine j8 b hb1 ?_
      cases htb:t.testBit b with
      | false=>rfl
      | true=>rw [htb] at hb2; simp at hb2; exact absurd hb2 hbz
    ·simp only [leq,leA,ev0,evA,evB,evP,fl,gp,tab,simprocAttr,reduceCtorEq,reduceIte]<;>first|trivial|omega
  ·(try simp only [nhs] at hC2)
   have ht0:t=0:=by omega
   subst ht0
   refine qj (qc (qc (qf (qd (qa ?_)))))
   refine ⟨(out2,pre2,w2),[0,1],⟨jI,fun y hy hn b hbs=>?_⟩,?_,?_⟩
   ·by_cases hya:y=a
    ·rw [hya]; exact j8 b hbs (by simp)
    ·exact j7 y hy hn hya b hbs
   ·have ho:=lt64 hb j1
    have ho2:=lt64 hb i1
    simp only [List.length_cons]
    omega
   ·simp only [leq,leA,ev0,evA,evB,evP,fl,gp,tab,simprocAttr,reduceCtorEq,reduceIte]<;>first|trivial|omega
 ·(try simp only [nhs] at hC1)
  have hw0:w=[]:=by
   cases w with
   | nil=>rfl
   | cons x r=>simp at hC1
  subst hw0
  have hfin:out=bo n q:=by
   refine bo_eq i1 fun i hi=>?_
   rw [Bool.eq_iff_iff,hq i hi]
   refine ⟨i3 i,fun hg=>?_⟩
   exact Gen.least i2 (fun a b _ _ hb hH=>i5 a hH (by simp) b hb) hg
  refine qj (qc (qc (qf (qa (qm ?_)))))
  refine hk_region fun K hK=>runs_eval tab_ok ?_
  simp only [ev0,evA,evB,evP,fl,gp,tab,simprocAttr,reduceCtorEq,reduceIte]
  refine fin_run trivial (hK _ ?_)<;>clear hK<;>clear K
  refine qa (qk ?_)
  simp only [Tryd.results111,enA,ev0,evA,evB,evP,fl,gp,tab,simprocAttr,reduceCtorEq,reduceIte]
  all_goals (rw [hfin])
end Go.Proofs.YtboadfahlflmhaaDoor

/-
  Sets of things: what they make, as the document has it. Conditions: none.
-/
set_option linter.all false
namespace Go.Proofs.YtboadfahlflmhaaDoor
open Go.Pv

/-! ### Looked at -/

theorem thl_get_asc {n:Nat} {p:Nat→Bool} {i j:Nat} (hij:i < j) (hj:j < (thl n p).length):(thl n p).getD i 0 < (thl n p).getD j 0:=by
 have:=List.pairwise_iff_getElem.1 (thl_asc n p) i j (by omega) hj hij
 simpa [List.getD,List.getElem?_eq_getElem hj,List.getElem?_eq_getElem (show i < (thl n p).length by omega)] using this
theorem thl_get {n:Nat} {p:Nat→Bool} {i:Nat} (hi:i < (thl n p).length):∃ a,a < n∧p a=true∧(thl n p).getD i 0=((a:Nat):Int):=by
 have:(thl n p).getD i 0∈thl n p:=by simp [List.getD,List.getElem?_eq_getElem hi]
 exact mem_thl.1 this
theorem thl_at {n:Nat} {p:Nat→Bool} {a:Nat} (ha:a < n) (h:p a=true):∃ i,i < (thl n p).length∧(thl n p).getD i 0=((a:Nat):Int):=by
 obtain ⟨i,hi,e⟩:=List.getElem_of_mem (mem_thl.2 ⟨a,ha,h,rfl⟩)
 exact ⟨i,hi,by simp [List.getD,List.getElem?_eq_getElem hi,e]⟩
theorem mem_thl_n {n:Nat} {p:Nat→Bool} {a:Nat} (ha:a < n):((a:Nat):Int)∈thl n p↔p a=true:=by
 rw [mem_thl]
 constructor
 ·rintro ⟨b,_,h2,e⟩
  have:a=b:=by omega
  subst this; exact h2
 ·exact fun h=>⟨a,ha,h,rfl⟩
theorem lf_thl (n:Nat) (p:Nat→Bool):lf n (thl n p)=(0,0):=by
 refine lf_none (by have:=thl_le n p; omega) fun j hj=>lfb_0 ?_ fun h0=>?_
 ·obtain ⟨a,h1,_,h3⟩:=thl_get hj
  unfold okT; rw [h3]; omega
 ·have:=thl_get_asc (n:=n) (p:=p) (show j - 1 < j by omega) hj
  omega
theorem sf_thl {n e:Nat} {m:List Int} (h:GT n m n e) (p:Nat→Bool):sf n m (thl n p)=(0,0):=by
 unfold sf; rw [gf_of h,if_neg (by simp),lf_thl]
theorem gen_bo {n e:Nat} {f:Nat→Nat→Nat} {p:Nat→Bool} {a:Nat} : Gen n f e (bo n p).testBit a↔Gen n f e p a:=
 ⟨Gen.mono fun b hb h=>by rw [bo_bit] at h; simpa [hb] using h,Gen.mono fun b hb h=>by rw [bo_bit]; simpa [hb] using h⟩

theorem is_ok {n e:Nat} {m:List Int} (h:GT n m n e) (p:Nat→Bool) (b:Bool) (hbs:b=true↔Sub n (op m n) e p):FnC Tryd.prog 66 [gp n m,.list (il (thl n p))] (.tup [.bool b,fl (0,0)]):=by
 have G:=h.2.2
 have hb:=h.2.1.big
 have hl:=thl_le n p
 have hml:=h.2.1.len
 have hsq:=sq_le hb
 obtain ⟨q,hq⟩:=gen_ex n (op m n) e p
 have hqs:=gen_sub G hq
 have hqp:(((bo n q:Nat):Int)=((bo n p:Nat):Int))↔b=true:=by
  rw [hbs]
  constructor
  ·intro he
   have he2:bo n q=bo n p:=by omega
   have hc:∀ a,a < n→q a=p a:=fun a ha=>bo_inj he2 ha
   refine ⟨?_,fun a b ha hb h1 h2=>?_,fun a ha h1=>?_⟩
   ·rw [← hc e G.el]; exact hqs.one
   ·rw [← hc _ (G.cl a b ha hb)]; exact hqs.mul a b ha hb (by rw [hc a ha]; exact h1) (by rw [hc b hb]; exact h2)
   ·rw [← hc _ (G.iv_lt ha)]; exact hqs.inv a ha (by rw [hc a ha]; exact h1)
  ·intro hs
   have:bo n q=bo n p:=bo_congr fun a ha=>by rw [Bool.eq_iff_iff,hq a ha,← hs.gen G ha]
   rw [this]
 have hpos:b=true→0 < (thl n p).length:=fun hb1=>by
  obtain ⟨i,hi,_⟩:=thl_at G.el (hbs.1 hb1).one
  omega
 refine fnc_of tab_ok Tryd.func66 rfl (by kernel_rfl) (by rw [Tryd.ntmps66]; exact Nat.le_add_left 2 _) ?_; rw [Tryd.ntmps66]
 refine qm ?_
 refine hk_region fun K hK=>runs_eval tab_ok ?_
 simp only [ev0,evA,evB,evP,fl,gp,tab,simprocAttr,reduceCtorEq,reduceIte]
 refine fin_run ?_ (hK _ ?_)<;>clear hK<;>clear K
 ·(first|exact trivial|omega|(simp only [In64] at *; omega)|(simp [In64] at *; omega)|(simp_all; done)|skip)
 refine qa (qm (qm ?_))
 refine hk_region fun K hK=>runs_eval tab_ok ?_
 simp only [ev0,evA,evB,evP,fl,gp,tab,simprocAttr,reduceCtorEq,reduceIte]
 refine fin_stop trivial (runs_call (look_c n m (thl n p) (by omega) (by omega)) rfl rfl rfl (by simp only [dstOk,Nat.reduceLT]) (by repeat (first|exact trivial|constructor)) (runs_eval tab_ok ?_))
 simp only [ev0,evA,evB,evP,fl,gp,tab,simprocAttr,reduceCtorEq,reduceIte,sf_thl h]
 refine fin_run ?_ (hK _ ?_)<;>clear hK<;>clear K
 ·(first|exact trivial|omega|(simp only [In64] at *; omega)|(simp [In64] at *; omega)|(simp_all; done)|skip)
 refine qa (qm ?_)
 refine hk_region fun K hK=>runs_eval tab_ok ?_
 simp only [ev0,evA,evB,evP,fl,gp,tab,simprocAttr,reduceCtorEq,reduceIte]
 refine fin_run ?_ (hK _ ?_)<;>clear hK<;>clear K
 ·(first|exact trivial|omega|(simp only [In64] at *; omega)|(simp [In64] at *; omega)|(simp_all; done)|skip)
 refine qa ?_
 refine hk_cond rfl (fun hC1=>?_) (fun hC1=>?_)
 ·cases hC1
 ·(try simp only [nhs] at hC1)
  refine qh (qa (qm ?_))
  by_cases g4a:((thl n p).length:Int) > 0
  ·refine hk_draw mixed (by kernel_rfl) fun K hK=>runs_eval tab_ok ?_
   simp only [ev0,evA,evB,evP,fl,gp,tab,simprocAttr,reduceCtorEq,reduceIte,decide_eq_true g4a]
   refine fin_stop trivial (runs_call (of_s (thl n p) (by omega) (thl_rng hb p)) rfl rfl rfl (by simp only [dstOk,Nat.reduceLT]) (by repeat (first|exact trivial|constructor)) (runs_eval tab_ok ?_))
   simp only [ev0,evA,evB,evP,fl,gp,tab,simprocAttr,reduceCtorEq,reduceIte,msk_thl,decide_eq_true g4a]
   refine fin_stop trivial (runs_call (grow_c h (bo n p) (bo_lt n p) q (fun a ha=>by rw [gen_bo]; exact hq a ha)) rfl rfl rfl (by simp only [dstOk,Nat.reduceLT]) (by repeat (first|exact trivial|constructor)) (runs_eval tab_ok ?_))
   simp only [ev0,evA,evB,evP,fl,gp,tab,simprocAttr,reduceCtorEq,reduceIte,decide_eq_true g4a]
   refine fin_stop trivial (runs_call (of_s (thl n p) (by omega) (thl_rng hb p)) rfl rfl rfl (by simp only [dstOk,Nat.reduceLT]) (by repeat (first|exact trivial|constructor)) (runs_eval tab_ok ?_))
   simp only [ev0,evA,evB,evP,fl,gp,tab,simprocAttr,reduceCtorEq,reduceIte,msk_thl,decide_eq_true g4a]
   refine fin_run ?_ (hK _ ?_)<;>clear hK<;>clear K
   ·(first|exact trivial|omega|(simp only [In64] at *; omega)|(simp [In64] at *; omega)|(simp_all; done)|skip)
   refine qa (qk ?_)
   simp only [Tryd.results66,enA,ev0,evA,evB,evP,fl,gp,tab,simprocAttr,reduceCtorEq,reduceIte]
   all_goals (rw [Bool.eq_iff_iff,decide_eq_true_eq]; exact hqp)
  ·refine hk_draw mixed (by kernel_rfl) fun K hK=>runs_eval tab_ok ?_
   simp only [ev0,evA,evB,evP,fl,gp,tab,simprocAttr,reduceCtorEq,reduceIte,decide_eq_false g4a]
   refine fin_run ?_ (hK _ ?_)<;>clear hK<;>clear K
   ·(first|exact trivial|omega|(simp only [In64] at *; omega)|(simp [In64] at *; omega)|(simp_all; done)|skip)
   refine qa (qk ?_)
   simp only [Tryd.results66,enA,ev0,evA,evB,evP,fl,gp,tab,simprocAttr,reduceCtorEq,reduceIte]
   cases b with
   | false=>rfl
   | true=>have:=hpos rfl; omega

theorem closed_c {n e:Nat} {m:List Int} (h:GT n m n e) (p:Nat→Bool) (b:Bool) (hbs:b=true↔Sub n (op m n) e p):FnC Tryd.prog 70 [gp n m,.list (il (thl n p))] (.bool b):=by
 have G:=h.2.2
 have T:=h.2.1
 have hb:=T.big
 have hl:=thl_le n p
 refine fnc_of tab_ok Tryd.func70 rfl (by kernel_rfl) (by rw [Tryd.ntmps70]; exact Nat.le_add_left 2 _) ?_; rw [Tryd.ntmps70]
 refine qm ?_
 refine hk_region fun K hK=>runs_eval tab_ok ?_
 simp only [ev0,evA,evB,evP,fl,gp,tab,simprocAttr,reduceCtorEq,reduceIte]
 refine fin_run ?_ (hK _ ?_)<;>clear hK<;>clear K
 ·(first|exact trivial|omega|(simp only [In64] at *; omega)|(simp [In64] at *; omega)|(simp_all; done)|skip)
 refine qa (qm (qm ?_))
 refine hk_region fun K hK=>runs_eval tab_ok ?_
 simp only [ev0,evA,evB,evP,fl,gp,tab,simprocAttr,reduceCtorEq,reduceIte]
 refine fin_stop trivial (runs_call (e_c T) rfl rfl rfl (by simp only [dstOk,Nat.reduceLT]) (by repeat (first|exact trivial|constructor)) (runs_eval tab_ok ?_))
 simp only [ev0,evA,evB,evP,fl,gp,tab,simprocAttr,reduceCtorEq,reduceIte,h.eI]
 refine fin_stop trivial (runs_call (has_r (thl n p) (e:Nat) (by omega)) rfl rfl rfl (by simp only [dstOk,Nat.reduceLT]) (by repeat (first|exact trivial|constructor)) (runs_eval tab_ok ?_))
 simp only [ev0,evA,evB,evP,fl,gp,tab,simprocAttr,reduceCtorEq,reduceIte]
 refine fin_run ?_ (hK _ ?_)<;>clear hK<;>clear K
 ·(first|exact trivial|omega|(simp only [In64] at *; omega)|(simp [In64] at *; omega)|(simp_all; done)|skip)
 refine qa ?_
 refine hk_cond rfl (fun hC1=>?_) (fun hC1=>?_)
 ·(try simp only [nhs] at hC1)
  refine qm ?_
  refine hk_region fun K hK=>runs_eval tab_ok ?_
  simp only [ev0,evA,evB,evP,fl,gp,tab,simprocAttr,reduceCtorEq,reduceIte]
  refine fin_run trivial (hK _ ?_)<;>clear hK<;>clear K
  refine qa (qk (qb ?_))
  simp only [Tryd.results70,enA,ev0,evA,evB,evP,fl,gp,tab,simprocAttr,reduceCtorEq,reduceIte]
  cases b with
  | false=>rfl
  | true=>exact absurd ((mem_thl_n G.el).2 (hbs.1 rfl).one) (by simpa using hC1)
 ·(try simp only [nhs] at hC1)
  have he:p e=true:=(mem_thl_n G.el).1 hC1
  refine qh (qa (qm (qm ?_)))
  refine hk_region fun K hK=>runs_eval tab_ok ?_
  simp only [ev0,evA,evB,evP,fl,gp,tab,simprocAttr,reduceCtorEq,reduceIte]
  refine fin_run trivial (hK _ ?_)<;>clear hK<;>clear K
  refine qa (ql ?_)
  refine hk_loop (ι:=Nat) (fun i=>⟨46,[(1,.p (.list (il (thl n p)))),(2,.ptr 0 0),(5,.p (.int .i64 i))],[.own [.p (.int .i64 n),.p (.list (il m))]]⟩) (fun i=>i≤(thl n p).length∧∀ j,j < i→∀ k,k < (thl n p).length→p (op m n ((thl n p).getD j 0).toNat ((thl n p).getD k 0).toNat)=true) (fun i=>(thl n p).length - i) 0 ⟨Nat.zero_le _,fun j hj=>by omega⟩ [0] (by simp only [leq,leA,ev0,evA,evB,evP,fl,gp,tab,simprocAttr,reduceCtorEq,reduceIte]<;>trivial) fun i hi=>?_
  obtain ⟨hi1,hi2⟩:=hi
  refine qm (qm ?_)
  refine hk_region fun K hK=>runs_eval tab_ok ?_
  simp only [ev0,evA,evB,evP,fl,gp,tab,simprocAttr,reduceCtorEq,reduceIte]
  refine fin_run trivial (hK _ ?_)<;>clear hK<;>clear K
  refine qa ?_
  refine hk_cond rfl (fun hC2=>?_) (fun hC2=>?_)
  ·(try simp only [nhs] at hC2)
   have hlt:i < (thl n p).length:=by omega
   obtain ⟨x,x1,x2,x3⟩:=thl_get hlt
   refine qh (qa (qm (ql (qm (qm ?_)))))
   refine hk_draw mixed (by kernel_rfl) fun K hK=>runs_eval tab_ok ?_
   simp only [ev0,evA,evB,evP,fl,gp,tab,simprocAttr,reduceCtorEq,reduceIte,il_get hlt,x3]
   refine fin_stop ?_ (runs_call (i_c T x1) rfl rfl rfl (by simp only [dstOk,Nat.reduceLT]) (by repeat (first|exact trivial|constructor)) (runs_eval tab_ok ?_))
   ·(first|exact trivial|omega|(simp only [In64] at *; omega)|(simp [In64] at *; omega)|(simp_all; done)|skip)
   simp only [ev0,evA,evB,evP,fl,gp,tab,simprocAttr,reduceCtorEq,reduceIte,h.iI x1,il_get hlt,x3]
   refine fin_stop trivial (runs_call (has_r (thl n p) (iv n (op m n) e x:Nat) (by omega)) rfl rfl rfl (by simp only [dstOk,Nat.reduceLT]) (by repeat (first|exact trivial|constructor)) (runs_eval tab_ok ?_))
   simp only [ev0,evA,evB,evP,fl,gp,tab,simprocAttr,reduceCtorEq,reduceIte,il_get hlt,x3]
   refine fin_run ?_ (hK _ ?_)<;>clear hK<;>clear K
   ·(first|exact trivial|omega|(simp only [In64] at *; omega)|(simp [In64] at *; omega)|(simp_all; done)|skip)
   refine qa ?_
   refine hk_cond rfl (fun hC3=>?_) (fun hC3=>?_)
   ·(try simp only [nhs] at hC3)
    refine qm ?_
    refine hk_region fun K hK=>runs_eval tab_ok ?_
    simp only [ev0,evA,evB,evP,fl,gp,tab,simprocAttr,reduceCtorEq,reduceIte]
    refine fin_run trivial (hK _ ?_)<;>clear hK<;>clear K
    refine qa (qk (qb (qe (qb (qb (qe (qb ?_)))))))
    simp only [Tryd.results70,enA,ev0,evA,evB,evP,fl,gp,tab,simprocAttr,reduceCtorEq,reduceIte]
    cases b with
    | false=>rfl
    | true=>exact absurd ((mem_thl_n (G.iv_lt x1)).2 ((hbs.1 rfl).inv x x1 x2)) (by simpa using hC3)
   ·(try simp only [nhs] at hC3)
    have hi3:p (iv n (op m n) e x)=true:=(mem_thl_n (G.iv_lt x1)).1 hC3
    refine qh (qa (qm ?_))
    refine hk_region fun K hK=>runs_eval tab_ok ?_
    simp only [ev0,evA,evB,evP,fl,gp,tab,simprocAttr,reduceCtorEq,reduceIte]
    refine fin_run trivial (hK _ ?_)<;>clear hK<;>clear K
    refine qa (ql ?_)
    refine hk_loop (ι:=Nat) (fun k=>⟨46,[(1,.p (.list (il (thl n p)))),(2,.ptr 0 0),(5,.p (.int .i64 i)),(6,.p (.int .i64 k))],[.own [.p (.int .i64 n),.p (.list (il m))]]⟩) (fun k=>k≤(thl n p).length∧∀ j,j < k→p (op m n x ((thl n p).getD j 0).toNat)=true) (fun k=>(thl n p).length - k) 0 ⟨Nat.zero_le _,fun j hj=>by omega⟩ [0] (by simp only [leq,leA,ev0,evA,evB,evP,fl,gp,tab,simprocAttr,reduceCtorEq,reduceIte]<;>trivial) fun k hk=>?_
    obtain ⟨hk1,hk2⟩:=hk
    refine qm (qm ?_)
    refine hk_region fun K hK=>runs_eval tab_ok ?_
    simp only [ev0,evA,evB,evP,fl,gp,tab,simprocAttr,reduceCtorEq,reduceIte]
    refine fin_run trivial (hK _ ?_)<;>clear hK<;>clear K
    refine qa ?_
    refine hk_cond rfl (fun hC4=>?_) (fun hC4=>?_)
    ·(try simp only [nhs] at hC4)
     have hkl:k < (thl n p).length:=by omega
     obtain ⟨y,y1,y2,y3⟩:=thl_get hkl
     refine qh (qa (qm (ql (qm ?_))))
     refine hk_draw mixed (by kernel_rfl) fun K hK=>runs_eval tab_ok ?_
     simp only [ev0,evA,evB,evP,fl,gp,tab,simprocAttr,reduceCtorEq,reduceIte,il_get hlt,il_get hkl,x3,y3]
     refine fin_stop ?_ (runs_call (m_c T x1 y1) rfl rfl rfl (by simp only [dstOk,Nat.reduceLT]) (by repeat (first|exact trivial|constructor)) (runs_eval tab_ok ?_))
     ·(first|exact trivial|omega|(simp only [In64] at *; omega)|(simp [In64] at *; omega)|(simp_all; done)|skip)
     simp only [ev0,evA,evB,evP,fl,gp,tab,simprocAttr,reduceCtorEq,reduceIte,il_get hlt,il_get hkl,x3,y3]
     refine fin_stop trivial (runs_call (has_r (thl n p) (op m n x y:Nat) (by omega)) rfl rfl rfl (by simp only [dstOk,Nat.reduceLT]) (by repeat (first|exact trivial|constructor)) (runs_eval tab_ok ?_))
     simp only [ev0,evA,evB,evP,fl,gp,tab,simprocAttr,reduceCtorEq,reduceIte,il_get hlt,il_get hkl,x3,y3]
     refine fin_run ?_ (hK _ ?_)<;>clear hK<;>clear K
     ·(first|exact trivial|omega|(simp only [In64] at *; omega)|(simp [In64] at *; omega)|(simp_all; done)|skip)
     refine qa ?_
     refine hk_cond rfl (fun hC5=>?_) (fun hC5=>?_)
     ·(try simp only [nhs] at hC5)
      refine qm ?_
      refine hk_region fun K hK=>runs_eval tab_ok ?_
      simp only [ev0,evA,evB,evP,fl,gp,tab,simprocAttr,reduceCtorEq,reduceIte]
      refine fin_run trivial (hK _ ?_)<;>clear hK<;>clear K
      refine qa (qk (qe (qb (qb (qe (qe (qb (qb (qe (qb ?_))))))))))
      simp only [Tryd.results70,enA,ev0,evA,evB,evP,fl,gp,tab,simprocAttr,reduceCtorEq,reduceIte]
      cases b with
      | false=>rfl
      | true=>exact absurd ((mem_thl_n (G.cl x y x1 y1)).2 ((hbs.1 rfl).mul x y x1 y1 x2 y2)) (by simpa using hC5)
     ·(try simp only [nhs] at hC5)
      have hm3:p (op m n x y)=true:=(mem_thl_n (G.cl x y x1 y1)).1 hC5
      refine qh (qd (qa ?_))
      refine hk_region fun K hK=>runs_eval tab_ok ?_
      simp only [ev0,evA,evB,evP,fl,gp,tab,simprocAttr,reduceCtorEq,reduceIte]
      refine fin_run ?_ (hK _ ?_)<;>clear hK<;>clear K
      ·(first|exact trivial|omega|(simp only [In64] at *; omega)|(simp [In64] at *; omega)|(simp_all; done)|skip)
      refine qa ?_
      refine ⟨k + 1,[0],⟨by omega,fun j hj=>?_⟩,by omega,?_⟩
      ·by_cases hj2:j=k
       ·subst hj2; rw [y3,Int.toNat_natCast]; exact hm3
       ·exact hk2 j (by omega)
      ·simp only [leq,leA,ev0,evA,evB,evP,fl,gp,tab,simprocAttr,reduceCtorEq,reduceIte]<;>omega
    ·(try simp only [nhs] at hC4)
     refine qj (qc (qc (qf (qd (qa ?_)))))
     refine hk_region fun K hK=>runs_eval tab_ok ?_
     simp only [ev0,evA,evB,evP,fl,gp,tab,simprocAttr,reduceCtorEq,reduceIte]
     refine fin_run ?_ (hK _ ?_)<;>clear hK<;>clear K
     ·(first|exact trivial|omega|(simp only [In64] at *; omega)|(simp [In64] at *; omega)|(simp_all; done)|skip)
     refine qa ?_
     refine ⟨i + 1,[0],⟨by omega,fun j hj k' hk'=>?_⟩,by omega,?_⟩
     ·by_cases hj2:j=i
      ·subst hj2; rw [x3,Int.toNat_natCast]; exact hk2 k' (by omega)
      ·exact hi2 j (by omega) k' hk'
     ·simp only [leq,leA,ev0,evA,evB,evP,fl,gp,tab,simprocAttr,reduceCtorEq,reduceIte]<;>omega
  ·(try simp only [nhs] at hC2)
   refine qj (qc (qc (qf (qa (qm ?_)))))
   refine hk_region fun K hK=>runs_eval tab_ok ?_
   simp only [ev0,evA,evB,evP,fl,gp,tab,simprocAttr,reduceCtorEq,reduceIte]
   refine fin_run trivial (hK _ ?_)<;>clear hK<;>clear K
   refine qa (qk ?_)
   simp only [Tryd.results70,enA,ev0,evA,evB,evP,fl,gp,tab,simprocAttr,reduceCtorEq,reduceIte]
   rw [eq_comm,hbs]
   refine sub_of G he fun a b ha hb' h1 h2=>?_
   obtain ⟨j,j1,j2⟩:=thl_at ha h1
   obtain ⟨k,k1,k2⟩:=thl_at hb' h2
   have:=hi2 j (by omega) k k1
   rwa [j2,k2,Int.toNat_natCast,Int.toNat_natCast] at this

/-! ### Rows of truths -/

def bl (n:Nat) (r:Nat→Bool):List PV:=(List.range n).map fun a=>.bool (r a)
theorem bl_len (n:Nat) (r:Nat→Bool):(bl n r).length=n:=by simp [bl]
theorem bl_get {n:Nat} {r:Nat→Bool} {a:Nat} (ha:a < n):(bl n r).getD a default = .bool (r a):=by
 simp [bl,List.getD,List.getElem?_map,List.getElem?_range ha]
theorem bl_one (n:Nat) (r:Nat→Bool):(bl n r).all PV.one=true:=by
 simp [bl,PV.one]
theorem obl_get {n:Nat} {r:Nat→Bool} {a:Nat} (ha:a < n) (d:AV):(opl (bl n r)).getD a d = .p (.bool (r a)):=by
 simp [opl,bl,List.getD,List.getElem?_map,List.getElem?_range ha]
/-- With one more. -/
def upd (r:Nat→Bool) (a i:Nat):Bool:=r i || decide (i=a)
theorem obl_set (n:Nat) (r:Nat→Bool) (a:Nat):(opl (bl n r)).set a (.p (.bool true))=opl (bl n (upd r a)):=by
 refine List.ext_getElem (by simp [opl,bl]) fun i h1 h2=>?_
 simp only [opl,bl,List.length_map,List.length_range,List.length_set] at h1 h2
 rw [List.getElem_set]
 by_cases e:a=i
 ·subst e; simp [opl,bl,upd]
 ·rw [if_neg e]
  have:decide (i=a)=false:=by simp; omega
  simp [opl,bl,upd,this]
theorem obl_new (n:Nat):List.replicate n (AV.p (.bool false))=opl (bl n fun _=>false):=by
 refine List.ext_getElem (by simp [opl,bl]) fun i h1 h2=>?_
 simp [opl,bl]
theorem bl_congr {n:Nat} {r r' : Nat→Bool} (h:∀ a,a < n→r a=r' a):bl n r=bl n r':=by
 unfold bl
 refine List.map_congr_left fun a ha=>by rw [h a (List.mem_range.1 ha)]
theorem obl_len (n:Nat) (r:Nat→Bool):(opl (bl n r)).length=n:=by rw [opl_length,bl_len]

/-- More bits, a greater number. -/
theorem bo_lt_of {n:Nat} {r r' : Nat→Bool} (h:∀ a,a < n→r a=true→r' a=true) {a:Nat} (ha:a < n) (h1:r a=false) (h2:r' a=true):bo n r < bo n r':=by
 refine Nat.lt_of_le_of_ne (Nat.le_of_testBit fun i hi=>?_) fun he=>?_
 ·rw [bo_bit,Bool.and_eq_true,decide_eq_true_eq] at hi ⊢
  exact ⟨hi.1,h i hi.1 hi.2⟩
 ·have:=bo_inj he ha
  rw [h1,h2] at this; cases this

theorem bool3 (a b:Bool):a=false∨(a=true∧b=false)∨(a=true∧b=true):=by cases a<;>cases b<;>simp

theorem span1_c (n a:Nat) (r:Nat→Bool) (ha:a < n) (hn:n≤60):FnC Tryd.prog 124 [.int .i64 a,.ptr [.list (bl n r)]] (.bool (r a)):=by
 refine fnc_of tab_ok Tryd.func124 rfl (by kernel_rfl) (by rw [Tryd.ntmps124]; exact Nat.le_add_left 2 _) ?_; rw [Tryd.ntmps124]
 refine qm ?_
 refine hk_region fun K hK=>runs_eval tab_ok ?_
 simp only [ev0,evA,evB,evP,fl,gp,tab,simprocAttr,reduceCtorEq,reduceIte]
 refine fin_run trivial (hK _ ?_)<;>clear hK<;>clear K
 refine qa (qm ?_)
 refine hk_region fun K hK=>runs_eval tab_ok ?_
 simp only [ev0,evA,evB,evP,fl,gp,tab,simprocAttr,reduceCtorEq,reduceIte,bl_get ha,bl_len]
 refine fin_run ?_ (hK _ ?_)<;>clear hK<;>clear K
 ·(first|exact trivial|omega|(simp only [In64] at *; omega)|(simp [In64] at *; omega)|(simp_all; done)|skip)
 refine qa (qk ?_)
 simp only [Tryd.results124,enA,ev0,evA,evB,evP,fl,gp,tab,simprocAttr,reduceCtorEq,reduceIte]
 all_goals (rfl)

set_option maxHeartbeats 2000000 in
theorem span_c {n e:Nat} {m:List Int} (h:GT n m n e) (l:List Int) (hl:l.length≤1000000000000) (hr:∀ x∈l,∃ a,a < n∧x=((a:Nat):Int)) (q:Nat→Bool) (hq:∀ a,a < n→(q a=true↔Gen n (op m n) e (tst l) a)):FnC Tryd.prog 72 [gp n m,.list (il l)] (.list (il (thl n q))):=by
 have G:=h.2.2
 have T:=h.2.1
 have hb:=T.big
 have hel:=G.el
 refine fnc_of tab_ok Tryd.func72 rfl (by kernel_rfl) (by rw [Tryd.ntmps72]; exact Nat.le_add_left 2 _) ?_; rw [Tryd.ntmps72]
 refine qm ?_
 refine hk_region fun K hK=>runs_eval tab_ok ?_
 simp only [ev0,evA,evB,evP,fl,gp,tab,simprocAttr,reduceCtorEq,reduceIte]
 refine fin_run ?_ (hK _ ?_)<;>clear hK<;>clear K
 ·(first|exact trivial|omega|(simp only [In64] at *; omega)|(simp [In64] at *; omega)|(simp_all; done)|skip)
 refine qa (qm ?_)
 refine hk_region fun K hK=>runs_eval tab_ok ?_
 simp only [ev0,evA,evB,evP,fl,gp,tab,simprocAttr,reduceCtorEq,reduceIte,makeSliceA.eq_def,obl_new]
 refine fin_run ?_ (hK _ ?_)<;>clear hK<;>clear K
 ·omega
 refine qa (qm ?_)
 refine hk_draw mixed (by kernel_rfl) fun K hK=>runs_eval tab_ok ?_
 simp only [ev0,evA,evB,evP,fl,gp,tab,simprocAttr,reduceCtorEq,reduceIte]
 refine fin_stop trivial (runs_call (e_c T) rfl rfl rfl (by simp only [dstOk,Nat.reduceLT]) (by repeat (first|exact trivial|constructor)) (runs_eval tab_ok ?_))
 simp only [ev0,evA,evB,evP,fl,gp,tab,simprocAttr,reduceCtorEq,reduceIte,h.eI]
 refine fin_run ?_ (hK _ ?_)<;>clear hK<;>clear K
 ·rw [bl_len]; omega
 refine qa (qm (qm ?_))
 rw [obl_set,show upd (fun _=>false) e=fun a=>decide (a=e) || tst (l.take 0) a from funext fun a=>by simp [upd,tst]]
 refine hk_region fun K hK=>runs_eval tab_ok ?_
 simp only [ev0,evA,evB,evP,fl,gp,tab,simprocAttr,reduceCtorEq,reduceIte]
 refine fin_run trivial (hK _ ?_)<;>clear hK<;>clear K
 refine qa (ql ?_)
 refine hk_loop (ι:=Nat) (fun i=>⟨71,[(1,.p (.list (il l))),(2,.ptr 0 0),(5,.ptr 2 0),(6,.p (.int .i64 i))],[.own [.p (.int .i64 n),.p (.list (il m))],.own (opl (bl n fun a=>decide (a=e) || tst (l.take i) a)),.own [.sl 1 0 n]]⟩) (fun i=>i≤l.length) (fun i=>l.length - i) 0 (Nat.zero_le _) [0,1,2] (by simp only [leq,leA,ev0,evA,evB,evP,fl,gp,tab,simprocAttr,reduceCtorEq,reduceIte]<;>first|trivial|(simp; done)) fun i hi=>?_
 refine qm (qm ?_)
 refine hk_region fun K hK=>runs_eval tab_ok ?_
 simp only [ev0,evA,evB,evP,fl,gp,tab,simprocAttr,reduceCtorEq,reduceIte]
 refine fin_run trivial (hK _ ?_)<;>clear hK<;>clear K
 refine qa ?_
 refine hk_cond rfl (fun hC1=>?_) (fun hC1=>?_)
 ·(try simp only [nhs] at hC1)
  have hlt:i < l.length:=by omega
  have hmem:l.getD i 0∈l:=by simp [List.getD,List.getElem?_eq_getElem hlt]
  obtain ⟨x,x1,x2⟩:=hr _ hmem
  refine qh (qa (qm (ql ?_)))
  refine hk_draw mixed (by kernel_rfl) fun K hK=>runs_eval tab_ok ?_
  simp only [ev0,evA,evB,evP,fl,gp,tab,simprocAttr,reduceCtorEq,reduceIte,il_get hlt,x2,obl_len]
  refine fin_run ?_ (hK _ ?_)<;>clear hK<;>clear K
  ·rw [bl_len]; omega
  refine qd (qa ?_)
  rw [obl_set]
  refine hk_region fun K hK=>runs_eval tab_ok ?_
  simp only [ev0,evA,evB,evP,fl,gp,tab,simprocAttr,reduceCtorEq,reduceIte]
  refine fin_run ?_ (hK _ ?_)<;>clear hK<;>clear K
  ·(first|exact trivial|omega|(simp only [In64] at *; omega)|(simp [In64] at *; omega)|(simp_all; done)|skip)
  refine qa ?_
  refine ⟨i + 1,[0,1,2],by omega,by omega,?_⟩
  have hc:bl n (fun a=>decide (a=e) || tst (l.take (i + 1)) a)=bl n (upd (fun a=>decide (a=e) || tst (l.take i) a) x):=bl_congr fun a ha=>by
   rw [List.take_succ_eq_append_getElem hlt]
   have e1:l[i]=(x:Int):=by rw [← x2]; simp [List.getD,List.getElem?_eq_getElem hlt]
   rw [e1]
   unfold upd tst
   rw [Bool.or_assoc]
   congr 1
   rw [← Bool.decide_or]
   refine decide_eq_decide.2 ?_
   rw [List.mem_append,List.mem_singleton]
   constructor
   ·rintro (h | h)
    ·exact .inl h
    ·exact .inr (by omega)
   ·rintro (h | h)
    ·exact .inl h
    ·exact .inr (by omega)
  rw [hc]
  simp only [leq,leA,ev0,evA,evB,evP,fl,gp,tab,simprocAttr,reduceCtorEq,reduceIte]<;>first|trivial|omega
 ·(try simp only [nhs] at hC1)
  have hin:i=l.length:=by omega
  subst hin
  rw [List.take_length]
  refine qj (qc (qc (qf (qa (qm (qm ?_))))))
  refine hk_region fun K hK=>runs_eval tab_ok ?_
  simp only [ev0,evA,evB,evP,fl,gp,tab,simprocAttr,reduceCtorEq,reduceIte]
  refine fin_run trivial (hK _ ?_)<;>clear hK<;>clear K
  refine qa (ql ?_)
  refine hk_loop (ι:=(Nat→Bool) × Bool) (fun p=>⟨71,[(2,.ptr 0 0),(5,.ptr 2 0),(7,.p (.bool p.2))],[.own [.p (.int .i64 n),.p (.list (il m))],.own (opl (bl n p.1)),.own [.sl 1 0 n]]⟩) (fun p=>p.1 e=true∧(∀ a,a < n→tst l a=true→p.1 a=true)∧(∀ a,a < n→p.1 a=true→Gen n (op m n) e (tst l) a)∧(p.2=false→∀ a,a < n→∀ b,b < n→p.1 a=true→p.1 b=true→p.1 (op m n a b)=true)) (fun p=>2 * (2 ^ 64 - bo n p.1) + (if p.2=true then 1 else 0)) (fun a=>decide (a=e) || tst l a,true) ⟨by simp,fun a _ h=>by simp [h],fun a ha h=>by
    simp only [Bool.or_eq_true,decide_eq_true_eq] at h
    rcases h with rfl | h
    ·exact .one
    ·exact Gen.mem G ha h,fun h=>by cases h⟩ [0,1,2] (by simp only [leq,leA,ev0,evA,evB,evP,fl,gp,tab,simprocAttr,reduceCtorEq,reduceIte]<;>first|trivial|(simp; done)) fun p hp=>?_
  obtain ⟨r,again⟩:=p
  obtain ⟨r1,r2,r3,r4⟩:=hp
  simp only at r1 r2 r3 r4
  refine qm (qm ?_)
  refine hk_region fun K hK=>runs_eval tab_ok ?_
  simp only [ev0,evA,evB,evP,fl,gp,tab,simprocAttr,reduceCtorEq,reduceIte]
  refine fin_run trivial (hK _ ?_)<;>clear hK<;>clear K
  refine qa ?_
  refine hk_cond rfl (fun hC2=>?_) (fun hC2=>?_)
  ·(try simp only [nhs] at hC2)
   subst hC2
   refine qh (qa (ql (qm ?_)))
   refine hk_region fun K hK=>runs_eval tab_ok ?_
   simp only [ev0,evA,evB,evP,fl,gp,tab,simprocAttr,reduceCtorEq,reduceIte]
   refine fin_run trivial (hK _ ?_)<;>clear hK<;>clear K
   refine qa (qm ?_)
   refine hk_region fun K hK=>runs_eval tab_ok ?_
   simp only [ev0,evA,evB,evP,fl,gp,tab,simprocAttr,reduceCtorEq,reduceIte]
   refine fin_run trivial (hK _ ?_)<;>clear hK<;>clear K
   refine qa (ql ?_)
   refine hk_loop (ι:=Nat × (Nat→Bool) × Bool) (fun p=>⟨71,[(2,.ptr 0 0),(5,.ptr 2 0),(7,.p (.bool p.2.2)),(8,.p (.int .i64 p.1))],[.own [.p (.int .i64 n),.p (.list (il m))],.own (opl (bl n p.2.1)),.own [.sl 1 0 n]]⟩) (fun p=>p.1≤n∧(∀ a,a < n→r a=true→p.2.1 a=true)∧(∀ a,a < n→p.2.1 a=true→Gen n (op m n) e (tst l) a)∧(p.2.2=true→bo n r < bo n p.2.1)∧(p.2.2=false→p.2.1=r∧∀ a,a < p.1→∀ b,b < n→r a=true→r b=true→r (op m n a b)=true)) (fun p=>n - p.1) (0,r,false) ⟨Nat.zero_le _,fun a _ h=>h,r3,fun h=>by (first|cases h|simp at h),fun _=>⟨rfl,fun a ha=>by simp only at ha; omega⟩⟩ [0,1,2] (by simp only [leq,leA,ev0,evA,evB,evP,fl,gp,tab,simprocAttr,reduceCtorEq,reduceIte]<;>first|trivial|(simp; done)) fun p hp=>?_
   obtain ⟨i,r',ag⟩:=p
   obtain ⟨u1,u2,u3,u4,u5⟩:=hp
   simp only at u1 u2 u3 u4 u5
   refine qm (qm ?_)
   refine hk_region fun K hK=>runs_eval tab_ok ?_
   simp only [ev0,evA,evB,evP,fl,gp,tab,simprocAttr,reduceCtorEq,reduceIte]
   refine fin_run ?_ (hK _ ?_)<;>clear hK<;>clear K
   ·(first|exact trivial|omega|(simp only [In64] at *; omega)|(simp [In64] at *; omega)|(simp_all; done)|skip)
   refine qa ?_
   refine hk_cond rfl (fun hC3=>?_) (fun hC3=>?_)
   ·(try simp only [nhs] at hC3)
    have hil:i < n:=by omega
    refine qh (qa (qm (ql (qm ?_))))
    refine hk_region fun K hK=>runs_eval tab_ok ?_
    simp only [ev0,evA,evB,evP,fl,gp,tab,simprocAttr,reduceCtorEq,reduceIte]
    refine fin_run trivial (hK _ ?_)<;>clear hK<;>clear K
    refine qa (ql ?_)
    refine hk_loop (ι:=Nat × (Nat→Bool) × Bool) (fun p=>⟨71,[(2,.ptr 0 0),(5,.ptr 2 0),(7,.p (.bool p.2.2)),(8,.p (.int .i64 i)),(9,.p (.int .i64 p.1))],[.own [.p (.int .i64 n),.p (.list (il m))],.own (opl (bl n p.2.1)),.own [.sl 1 0 n]]⟩) (fun p=>p.1≤n∧(∀ a,a < n→r a=true→p.2.1 a=true)∧(∀ a,a < n→p.2.1 a=true→Gen n (op m n) e (tst l) a)∧(p.2.2=true→bo n r < bo n p.2.1)∧(p.2.2=false→p.2.1=r∧(∀ a,a < i→∀ b,b < n→r a=true→r b=true→r (op m n a b)=true)∧∀ b,b < p.1→r i=true→r b=true→r (op m n i b)=true)) (fun p=>n - p.1) (0,r',ag) ⟨Nat.zero_le _,u2,u3,u4,fun h=>⟨(u5 h).1,(u5 h).2,fun b hb=>by simp only at hb; omega⟩⟩ [0,1,2] (by simp only [leq,leA,ev0,evA,evB,evP,fl,gp,tab,simprocAttr,reduceCtorEq,reduceIte]<;>first|trivial|(simp; done)) fun p hp=>?_
    obtain ⟨j,r'',ag'⟩:=p
    obtain ⟨v1,v2,v3,v4,v5⟩:=hp
    simp only at v1 v2 v3 v4 v5
    refine qm (qm ?_)
    refine hk_region fun K hK=>runs_eval tab_ok ?_
    simp only [ev0,evA,evB,evP,fl,gp,tab,simprocAttr,reduceCtorEq,reduceIte]
    refine fin_run ?_ (hK _ ?_)<;>clear hK<;>clear K
    ·(first|exact trivial|omega|(simp only [In64] at *; omega)|(simp [In64] at *; omega)|(simp_all; done)|skip)
    refine qa ?_
    refine hk_cond rfl (fun hC4=>?_) (fun hC4=>?_)
    ·(try simp only [nhs] at hC4)
     have hjl:j < n:=by omega
     have hfl:=G.cl i j hil hjl
     refine qh (qa (qm (ql (qm ?_))))
     rcases bool3 (r'' i) (r'' j) with hri | ⟨hri,hrj⟩ | ⟨hri,hrj⟩
     ·refine hk_draw mixed (by kernel_rfl) fun K hK=>runs_eval tab_ok ?_
      simp only [ev0,evA,evB,evP,fl,gp,tab,simprocAttr,reduceCtorEq,reduceIte,obl_get hil,bl_len,obl_len,hri]
      refine fin_run ?_ (hK _ ?_)<;>clear hK<;>clear K
      ·omega
      refine qa ?_
      refine hk_cond rfl (fun hC5=>?_) (fun hC5=>?_)
      ·cases hC5
      ·refine qh (qd (qa ?_))
       refine hk_region fun K hK=>runs_eval tab_ok ?_
       simp only [ev0,evA,evB,evP,fl,gp,tab,simprocAttr,reduceCtorEq,reduceIte]
       refine fin_run ?_ (hK _ ?_)<;>clear hK<;>clear K
       ·(first|exact trivial|omega|(simp only [In64] at *; omega)|(simp [In64] at *; omega)|(simp_all; done)|skip)
       refine qa ?_
       refine ⟨(j + 1,r'',ag'),[0,1,2],⟨by simp only; omega,v2,v3,v4,fun h=>?_⟩,by simp only; omega,?_⟩
       ·obtain ⟨x1,x2,x3⟩:=v5 h
        refine ⟨x1,x2,fun b hb' h1 h2=>?_⟩
        by_cases hbj:b=j
        ·rw [← x1,hri] at h1; cases h1
        ·exact x3 b (by simp only at hb'; omega) h1 h2
       ·simp only [leq,leA,ev0,evA,evB,evP,fl,gp,tab,simprocAttr,reduceCtorEq,reduceIte]<;>first|trivial|omega
     ·refine hk_draw mixed (by kernel_rfl) fun K hK=>runs_eval tab_ok ?_
      simp only [ev0,evA,evB,evP,fl,gp,tab,simprocAttr,reduceCtorEq,reduceIte,obl_get hil,obl_get hjl,bl_len,obl_len,hri,hrj]
      refine fin_run ?_ (hK _ ?_)<;>clear hK<;>clear K
      ·omega
      refine qa ?_
      refine hk_cond rfl (fun hC5=>?_) (fun hC5=>?_)
      ·cases hC5
      ·refine qh (qd (qa ?_))
       refine hk_region fun K hK=>runs_eval tab_ok ?_
       simp only [ev0,evA,evB,evP,fl,gp,tab,simprocAttr,reduceCtorEq,reduceIte]
       refine fin_run ?_ (hK _ ?_)<;>clear hK<;>clear K
       ·(first|exact trivial|omega|(simp only [In64] at *; omega)|(simp [In64] at *; omega)|(simp_all; done)|skip)
       refine qa ?_
       refine ⟨(j + 1,r'',ag'),[0,1,2],⟨by simp only; omega,v2,v3,v4,fun h=>?_⟩,by simp only; omega,?_⟩
       ·obtain ⟨x1,x2,x3⟩:=v5 h
        refine ⟨x1,x2,fun b hb' h1 h2=>?_⟩
        by_cases hbj:b=j
        ·rw [hbj,← x1,hrj] at h2; cases h2
        ·exact x3 b (by simp only at hb'; omega) h1 h2
       ·simp only [leq,leA,ev0,evA,evB,evP,fl,gp,tab,simprocAttr,reduceCtorEq,reduceIte]<;>first|trivial|omega
     ·refine hk_draw mixed (by kernel_rfl) fun K hK=>runs_eval tab_ok ?_
      simp only [ev0,evA,evB,evP,fl,gp,tab,simprocAttr,reduceCtorEq,reduceIte,obl_get hil,obl_get hjl,obl_get hfl,bl_len,obl_len,hri,hrj]
      refine fin_stop ?_ (runs_call (m_c T hil hjl) rfl rfl rfl (by simp only [dstOk,Nat.reduceLT]) (by repeat (first|exact trivial|constructor)) (runs_eval tab_ok ?_))
      ·omega
      simp only [ev0,evA,evB,evP,fl,gp,tab,simprocAttr,reduceCtorEq,reduceIte,obl_get hil,obl_get hjl,obl_get hfl,bl_len,obl_len,hri,hrj]
      refine fin_run ?_ (hK _ ?_)<;>clear hK<;>clear K
      ·omega
      refine qa ?_
      refine hk_cond rfl (fun hC5=>?_) (fun hC5=>?_)
      ·(try simp only [nhs] at hC5)
       refine qm ?_
       refine hk_draw mixed (by kernel_rfl) fun K hK=>runs_eval tab_ok ?_
       simp only [ev0,evA,evB,evP,fl,gp,tab,simprocAttr,reduceCtorEq,reduceIte,obl_len,bl_len]
       refine fin_stop trivial (runs_call (m_c T hil hjl) rfl rfl rfl (by simp only [dstOk,Nat.reduceLT]) (by repeat (first|exact trivial|constructor)) (runs_eval tab_ok ?_))
       simp only [ev0,evA,evB,evP,fl,gp,tab,simprocAttr,reduceCtorEq,reduceIte,obl_len,bl_len]
       refine fin_run ?_ (hK _ ?_)<;>clear hK<;>clear K
       ·omega
       refine qa ?_
       rw [obl_set]
       refine hk_region fun K hK=>runs_eval tab_ok ?_
       simp only [ev0,evA,evB,evP,fl,gp,tab,simprocAttr,reduceCtorEq,reduceIte]
       refine fin_run trivial (hK _ ?_)<;>clear hK<;>clear K
       refine qd (qa ?_)
       refine hk_region fun K hK=>runs_eval tab_ok ?_
       simp only [ev0,evA,evB,evP,fl,gp,tab,simprocAttr,reduceCtorEq,reduceIte]
       refine fin_run ?_ (hK _ ?_)<;>clear hK<;>clear K
       ·(first|exact trivial|omega|(simp only [In64] at *; omega)|(simp [In64] at *; omega)|(simp_all; done)|skip)
       refine qa ?_
       have hnew:r'' (op m n i j)=false:=by simpa using hC5
       have hgt:bo n r < bo n (upd r'' (op m n i j)):=by
        have h1:bo n r'' < bo n (upd r'' (op m n i j)):=bo_lt_of (fun a _ h=>by simp [upd,h]) hfl hnew (by simp [upd])
        cases hag:ag' with
        | true=>have:=v4 hag; omega
        | false=>rw [(v5 hag).1] at h1; rw [(v5 hag).1]; exact h1
       refine ⟨(j + 1,upd r'' (op m n i j),true),[0,1,2],⟨by simp only; omega,fun a ha h=>?_,fun a ha h=>?_,fun _=>hgt,fun h=>by first|cases h|simp at h⟩,by simp only; omega,?_⟩
       ·simp [upd,v2 a ha h]
       ·simp only [upd,Bool.or_eq_true,decide_eq_true_eq] at h
        rcases h with h | h
        ·exact v3 a ha h
        ·rw [h]; exact Gen.mul G (v3 i hil hri) (v3 j hjl hrj)
       ·simp only [leq,leA,ev0,evA,evB,evP,fl,gp,tab,simprocAttr,reduceCtorEq,reduceIte]<;>first|trivial|omega
      ·(try simp only [nhs] at hC5)
       refine qh (qd (qa ?_))
       refine hk_region fun K hK=>runs_eval tab_ok ?_
       simp only [ev0,evA,evB,evP,fl,gp,tab,simprocAttr,reduceCtorEq,reduceIte]
       refine fin_run ?_ (hK _ ?_)<;>clear hK<;>clear K
       ·(first|exact trivial|omega|(simp only [In64] at *; omega)|(simp [In64] at *; omega)|(simp_all; done)|skip)
       refine qa ?_
       have hin2:r'' (op m n i j)=true:=by simpa using hC5
       refine ⟨(j + 1,r'',ag'),[0,1,2],⟨by simp only; omega,v2,v3,v4,fun h=>?_⟩,by simp only; omega,?_⟩
       ·obtain ⟨x1,x2,x3⟩:=v5 h
        refine ⟨x1,x2,fun b hb' h1 h2=>?_⟩
        by_cases hbj:b=j
        ·rw [hbj,← x1]; exact hin2
        ·exact x3 b (by simp only at hb'; omega) h1 h2
       ·simp only [leq,leA,ev0,evA,evB,evP,fl,gp,tab,simprocAttr,reduceCtorEq,reduceIte]<;>first|trivial|omega
    ·(try simp only [nhs] at hC4)
     have hjn:j=n:=by omega
     subst hjn
     refine qj (qc (qc (qf (qd (qa ?_)))))
     refine hk_region fun K hK=>runs_eval tab_ok ?_
     simp only [ev0,evA,evB,evP,fl,gp,tab,simprocAttr,reduceCtorEq,reduceIte]
     refine fin_run ?_ (hK _ ?_)<;>clear hK<;>clear K
     ·(first|exact trivial|omega|(simp only [In64] at *; omega)|(simp [In64] at *; omega)|(simp_all; done)|skip)
     refine qa ?_
     refine ⟨(i + 1,r'',ag'),[0,1,2],⟨by simp only; omega,v2,v3,v4,fun h=>?_⟩,by simp only; omega,?_⟩
     ·obtain ⟨x1,x2,x3⟩:=v5 h
      refine ⟨x1,fun a ha b hb' h1 h2=>?_⟩
      by_cases hai:a=i
      ·rw [hai] at h1 ⊢; exact x3 b hb' h1 h2
      ·exact x2 a (by simp only at ha; omega) b hb' h1 h2
     ·simp only [leq,leA,ev0,evA,evB,evP,fl,gp,tab,simprocAttr,reduceCtorEq,reduceIte]<;>first|trivial|omega
   ·(try simp only [nhs] at hC3)
    have hin:i=n:=by omega
    subst hin
    refine qj (qc (qc (qf (qd (qa ?_)))))
    refine ⟨(r',ag),[0,1,2],⟨u2 e hel r1,fun a ha h=>u2 a ha (r2 a ha h),u3,fun h a ha b hb' h1 h2=>?_⟩,?_,?_⟩
    ·obtain ⟨x1,x2⟩:=u5 h
     simp only [x1] at h1 h2 ⊢
     exact x2 a ha b hb' h1 h2
    ·have h1:=bo_lt64 hb r'
     have h2:=bo_lt64 hb r
     simp only [if_true]
     cases hag:ag with
     | true=>have:=u4 hag; simp only [if_true]; omega
     | false=>rw [(u5 hag).1]; simp
    ·simp only [leq,leA,ev0,evA,evB,evP,fl,gp,tab,simprocAttr,reduceCtorEq,reduceIte]<;>first|trivial|omega
  ·(try simp only [nhs] at hC2)
   subst hC2
   have hfin:bl n r=bl n q:=bl_congr fun a ha=>by
    rw [Bool.eq_iff_iff,hq a ha]
    refine ⟨r3 a ha,fun hg=>?_⟩
    exact Gen.least (H:=fun x=>r x=true) r1 (fun a b ga hb' hpb hH=>r4 rfl a (ga.lt G) b hb' hH (r2 b hb' hpb)) hg
   rw [hfin]
   refine qj (qc (qc (qf (qa (qm ?_)))))
   refine hk_freeze 1 rfl (opl_allP _) ?_
   refine hk_purec 2 0 rfl rfl rfl ⟨by rw [bl_len]; omega,?_⟩ ?_
   ·rw [List.drop_zero,List.take_of_length_le (by rw [bl_len]; omega)]; exact bl_one n q
   simp only [hset,List.set,List.drop_zero]
   rw [List.take_of_length_le (by rw [bl_len]; omega)]
   refine hk_freeze 2 rfl rfl ?_
   simp only [hset]
   refine hk_region fun K hK=>runs_eval tab_ok ?_
   simp only [ev0,evA,evB,evP,fl,gp,tab,simprocAttr,reduceCtorEq,reduceIte]
   refine fin_stop trivial (runs_call (those_c n m _ _ q (by omega) (fun a ha=>span1_c n a q ha hb)) rfl rfl rfl (by simp only [dstOk,Nat.reduceLT]) (by repeat (first|exact trivial|constructor)) (runs_eval tab_ok ?_))
   simp only [ev0,evA,evB,evP,fl,gp,tab,simprocAttr,reduceCtorEq,reduceIte]
   refine fin_run ?_ (hK _ ?_)<;>clear hK<;>clear K
   ·(first|exact trivial|omega|(simp only [In64] at *; omega)|(simp [In64] at *; omega)|(simp_all; done)|skip)
   refine qa (qk ?_)
   simp only [Tryd.results72,enA,ev0,evA,evB,evP,fl,gp,tab,simprocAttr,reduceCtorEq,reduceIte]
   all_goals (rfl)
end Go.Proofs.YtboadfahlflmhaaDoor

/-
  How many bits are set; lists compared. Conditions: none.
-/
set_option linter.all false
namespace Go.Proofs.YtboadfahlflmhaaDoor
open Go.Pv

theorem add_u (a b:Int):binInt .add .u64 a b=(True,.int .u64 (IntKind.u64.wrap (a + b))):=rfl
theorem wadd_u {a b:Nat} (h:a + b < 2 ^ 64):IntKind.u64.wrap ((a:Int) + (b:Int))=((a + b:Nat):Int):=by
 rw [← Int.natCast_add]; exact wrap_n h
theorem cnv_i {a:Nat} (ha:a < 2 ^ 63):IntKind.i64.wrap (a:Int)=(a:Int):=by
 simp only [IntKind.wrap,IntKind.bits,IntKind.signed]
 simp [Int.bmod]
 omega
theorem bv_and7 {a:Nat} (ha:a < 2 ^ 63):bitsV (fun _ x y=>x &&& y) .i64 (a:Int) 127 = .int .i64 ((a &&& 127:Nat):Int):=by
 have h1:(BitVec.ofInt 64 (127:Int)).toNat=127:=by decide
 have h2:a &&& 127≤a:=Nat.and_le_left
 show PV.int .i64 (IntKind.i64.wrap ((BitVec.ofInt 64 (a:Int) &&& BitVec.ofInt 64 (127:Int)).toNat:Int))=_
 rw [BitVec.toNat_and,ofInt_n (by omega),h1,cnv_i (by omega)]

theorem ones_c (x:Nat) (hx:x < 2 ^ 64):FnC Tryd.prog 149 [.int .u64 x] (.int .i64 (cnt 64 x)):=by
 have m1:msk8 85 8=6148914691236517205:=rfl
 have m2:msk8 51 8=3689348814741910323:=rfl
 have m3:msk8 15 8=1085102592571150095:=rfl
 have b1:p1 6148914691236517205 x < 2 ^ 64:=by
  have h1:x / 2 &&& 6148914691236517205≤6148914691236517205:=Nat.and_le_right
  have h2:x &&& 6148914691236517205≤6148914691236517205:=Nat.and_le_right
  unfold p1; omega
 have e1:p1 6148914691236517205 x=(x / 2 &&& 6148914691236517205) + (x &&& 6148914691236517205):=rfl
 have s1:(x:Int).fdiv (2 ^ (min 1 IntKind.u64.bits))=((x / 2:Nat):Int):=shr_n (a:=x) (b:=1) (by omega)
 have a1:bitsV (fun _ x y=>x &&& y) .u64 ((x / 2:Nat):Int) 6148914691236517205 = .int .u64 ((x / 2 &&& 6148914691236517205:Nat):Int):=bv_and (b:=6148914691236517205) (by omega) (by decide)
 have a2:bitsV (fun _ x y=>x &&& y) .u64 (x:Int) 6148914691236517205 = .int .u64 ((x &&& 6148914691236517205:Nat):Int):=bv_and (b:=6148914691236517205) (by omega) (by decide)
 have w1:=wadd_u (by rw [← e1]; exact b1:(x / 2 &&& 6148914691236517205) + (x &&& 6148914691236517205) < 2 ^ 64)
 rw [← e1] at w1
 generalize hy1:p1 6148914691236517205 x=y1 at *
 have b2:p2 3689348814741910323 y1≤7378697629483820646:=by
  have h1:y1 / 4 &&& 3689348814741910323≤3689348814741910323:=Nat.and_le_right
  have h2:y1 &&& 3689348814741910323≤3689348814741910323:=Nat.and_le_right
  unfold p2; omega
 have e2:p2 3689348814741910323 y1=(y1 / 4 &&& 3689348814741910323) + (y1 &&& 3689348814741910323):=rfl
 have s2:(y1:Int).fdiv (2 ^ (min 2 IntKind.u64.bits))=((y1 / 4:Nat):Int):=shr_n (a:=y1) (b:=2) (by omega)
 have a3:bitsV (fun _ x y=>x &&& y) .u64 ((y1 / 4:Nat):Int) 3689348814741910323 = .int .u64 ((y1 / 4 &&& 3689348814741910323:Nat):Int):=bv_and (b:=3689348814741910323) (by omega) (by decide)
 have a4:bitsV (fun _ x y=>x &&& y) .u64 (y1:Int) 3689348814741910323 = .int .u64 ((y1 &&& 3689348814741910323:Nat):Int):=bv_and (b:=3689348814741910323) (by omega) (by decide)
 have w2:=wadd_u (by rw [← e2]; omega:(y1 / 4 &&& 3689348814741910323) + (y1 &&& 3689348814741910323) < 2 ^ 64)
 rw [← e2] at w2
 generalize hy2:p2 3689348814741910323 y1=y2 at *
 have s3:(y2:Int).fdiv (2 ^ (min 4 IntKind.u64.bits))=((y2 / 16:Nat):Int):=shr_n (a:=y2) (b:=4) (by omega)
 have w3:=wadd_u (show y2 / 16 + y2 < 2 ^ 64 by omega)
 have a5:bitsV (fun _ x y=>x &&& y) .u64 ((y2 / 16 + y2:Nat):Int) 1085102592571150095 = .int .u64 ((y2 / 16 + y2 &&& 1085102592571150095:Nat):Int):=bv_and (b:=1085102592571150095) (by omega) (by decide)
 have b3:y2 / 16 + y2 &&& 1085102592571150095≤1085102592571150095:=Nat.and_le_right
 have hy3:y2 / 16 + y2 &&& 1085102592571150095=pT 8 x:=by rw [← hy2,← hy1]; rfl
 rw [hy3] at a5 b3
 generalize hy:pT 8 x=y at *
 have s4:(y:Int).fdiv (2 ^ (min 8 IntKind.u64.bits))=((y / 256:Nat):Int):=shr_n (a:=y) (b:=8) (by omega)
 have w4:=wadd_u (show y + y / 256 < 2 ^ 64 by omega)
 have s5:((y + y / 256:Nat):Int).fdiv (2 ^ (min 16 IntKind.u64.bits))=(((y + y / 256) / 65536:Nat):Int):=shr_n (a:=y + y / 256) (b:=16) (by omega)
 have w5:=wadd_u (show (y + y / 256) + (y + y / 256) / 65536 < 2 ^ 64 by omega)
 have s6:(((y + y / 256) + (y + y / 256) / 65536:Nat):Int).fdiv (2 ^ (min 32 IntKind.u64.bits))=((((y + y / 256) + (y + y / 256) / 65536) / 4294967296:Nat):Int):=shr_n (a:=(y + y / 256) + (y + y / 256) / 65536) (b:=32) (by omega)
 have w6:=wadd_u (show ((y + y / 256) + (y + y / 256) / 65536) + ((y + y / 256) + (y + y / 256) / 65536) / 4294967296 < 2 ^ 64 by omega)
 have hfin:((y + y / 256) + (y + y / 256) / 65536) + ((y + y / 256) + (y + y / 256) / 65536) / 4294967296 < 2 ^ 63:=by omega
 have hres:(((y + y / 256) + (y + y / 256) / 65536) + ((y + y / 256) + (y + y / 256) / 65536) / 4294967296) &&& 127=cnt 64 x:=by
  rw [← pcf_eq x hx,← hy]
  exact Nat.and_two_pow_sub_one_eq_mod _ 7
 refine fnc_of tab_ok Tryd.func149 rfl (by kernel_rfl) (by rw [Tryd.ntmps149]; exact Nat.le_add_left 1 _) ?_; rw [Tryd.ntmps149]
 refine qm ?_
 refine hk_region fun K hK=>runs_eval tab_ok ?_
 simp only [ev0,evA,evB,evP,fl,gp,tab,simprocAttr,reduceCtorEq,reduceIte]
 refine fin_run trivial (hK _ ?_)<;>clear hK<;>clear K
 refine qa (qm ?_)
 refine hk_region fun K hK=>runs_eval tab_ok ?_
 simp only [ev0,evA,evB,evP,fl,gp,tab,simprocAttr,reduceCtorEq,reduceIte,s1,a1,a2,add_u,w1]
 refine fin_run ?_ (hK _ ?_)<;>clear hK<;>clear K
 ·(first|exact trivial|omega|(simp only [In64] at *; omega)|(simp [In64] at *; omega)|(simp_all; done)|skip)
 refine qa (qm ?_)
 refine hk_region fun K hK=>runs_eval tab_ok ?_
 simp only [ev0,evA,evB,evP,fl,gp,tab,simprocAttr,reduceCtorEq,reduceIte,s2,a3,a4,add_u,w2]
 refine fin_run ?_ (hK _ ?_)<;>clear hK<;>clear K
 ·(first|exact trivial|omega|(simp only [In64] at *; omega)|(simp [In64] at *; omega)|(simp_all; done)|skip)
 refine qa (qm ?_)
 refine hk_region fun K hK=>runs_eval tab_ok ?_
 simp only [ev0,evA,evB,evP,fl,gp,tab,simprocAttr,reduceCtorEq,reduceIte,s3,add_u,w3,a5]
 refine fin_run ?_ (hK _ ?_)<;>clear hK<;>clear K
 ·(first|exact trivial|omega|(simp only [In64] at *; omega)|(simp [In64] at *; omega)|(simp_all; done)|skip)
 refine qa (qm ?_)
 refine hk_region fun K hK=>runs_eval tab_ok ?_
 simp only [ev0,evA,evB,evP,fl,gp,tab,simprocAttr,reduceCtorEq,reduceIte,s4,add_u,w4]
 refine fin_run ?_ (hK _ ?_)<;>clear hK<;>clear K
 ·(first|exact trivial|omega|(simp only [In64] at *; omega)|(simp [In64] at *; omega)|(simp_all; done)|skip)
 refine qa (qm ?_)
 refine hk_region fun K hK=>runs_eval tab_ok ?_
 simp only [ev0,evA,evB,evP,fl,gp,tab,simprocAttr,reduceCtorEq,reduceIte,s5,add_u,w5]
 refine fin_run ?_ (hK _ ?_)<;>clear hK<;>clear K
 ·(first|exact trivial|omega|(simp only [In64] at *; omega)|(simp [In64] at *; omega)|(simp_all; done)|skip)
 refine qa (qm ?_)
 refine hk_region fun K hK=>runs_eval tab_ok ?_
 simp only [ev0,evA,evB,evP,fl,gp,tab,simprocAttr,reduceCtorEq,reduceIte,s6,add_u,w6]
 refine fin_run ?_ (hK _ ?_)<;>clear hK<;>clear K
 ·(first|exact trivial|omega|(simp only [In64] at *; omega)|(simp [In64] at *; omega)|(simp_all; done)|skip)
 refine qa (qm ?_)
 refine hk_region fun K hK=>runs_eval tab_ok ?_
 simp only [ev0,evA,evB,evP,fl,gp,tab,simprocAttr,reduceCtorEq,reduceIte,cnv_i hfin,bv_and7 hfin,hres]
 refine fin_run ?_ (hK _ ?_)<;>clear hK<;>clear K
 ·(first|exact trivial|omega|(simp only [In64] at *; omega)|(simp [In64] at *; omega)|(simp_all; done)|skip)
 refine qa (qk ?_)
 simp only [Tryd.results149,enA,ev0,evA,evB,evP,fl,gp,tab,simprocAttr,reduceCtorEq,reduceIte]
 all_goals ((first|exact rfl|exact ⟨rfl,rfl⟩|exact ⟨rfl,rfl,rfl⟩|exact ⟨trivial,rfl⟩|exact ⟨Nat.le_refl _,rfl⟩|trivial|(simp; done)))

/-! ### Lists, compared -/

def cmpi (x y:Int):Int:=if x < y then -1 else if y < x then 1 else 0
def cmpL:List Int→List Int→Int
 | [],[]=>0
 | [],_ :: _=>-1
 | _ :: _,[]=>1
 | x :: v,y :: w=>if cmpi x y=0 then cmpL v w else cmpi x y
theorem isNaN_c (x:Int):FnC Tryd.prog 161 [.int .i64 x] (.bool false):=by
 refine fnc_of tab_ok Tryd.func161 rfl (by kernel_rfl) (by rw [Tryd.ntmps161]; exact Nat.le_add_left 1 _) ?_; rw [Tryd.ntmps161]
 refine qm ?_
 refine hk_region fun K hK=>runs_eval tab_ok ?_
 simp only [ev0,evA,evB,evP,fl,gp,tab,simprocAttr,reduceCtorEq,reduceIte]
 refine fin_run trivial (hK _ ?_)<;>clear hK<;>clear K
 refine qa (qm ?_)
 refine hk_region fun K hK=>runs_eval tab_ok ?_
 simp only [ev0,evA,evB,evP,fl,gp,tab,simprocAttr,reduceCtorEq,reduceIte]
 refine fin_run trivial (hK _ ?_)<;>clear hK<;>clear K
 refine qa (qk ?_)
 simp only [Tryd.results161,enA,ev0,evA,evB,evP,fl,gp,tab,simprocAttr,reduceCtorEq,reduceIte]
 all_goals ((first|exact rfl|exact ⟨rfl,rfl⟩|exact ⟨rfl,rfl,rfl⟩|exact ⟨trivial,rfl⟩|exact ⟨Nat.le_refl _,rfl⟩|trivial|(simp; done)))
theorem compare_c (x y:Int):FnC Tryd.prog 134 [.int .i64 x,.int .i64 y] (.int .i64 (cmpi x y)):=by
 refine fnc_of tab_ok Tryd.func134 rfl (by kernel_rfl) (by rw [Tryd.ntmps134]; exact Nat.le_add_left 2 _) ?_; rw [Tryd.ntmps134]
 refine qm ?_
 refine hk_region fun K hK=>runs_eval tab_ok ?_
 simp only [ev0,evA,evB,evP,fl,gp,tab,simprocAttr,reduceCtorEq,reduceIte]
 refine fin_run trivial (hK _ ?_)<;>clear hK<;>clear K
 refine qa (qm ?_)
 refine hk_region fun K hK=>runs_eval tab_ok ?_
 simp only [ev0,evA,evB,evP,fl,gp,tab,simprocAttr,reduceCtorEq,reduceIte]
 refine fin_stop trivial (runs_call (isNaN_c x) rfl rfl rfl (by simp only [dstOk,Nat.reduceLT]) (by repeat (first|exact trivial|constructor)) (runs_eval tab_ok ?_))
 simp only [ev0,evA,evB,evP,fl,gp,tab,simprocAttr,reduceCtorEq,reduceIte]
 refine fin_run trivial (hK _ ?_)<;>clear hK<;>clear K
 refine qa (qm ?_)
 refine hk_region fun K hK=>runs_eval tab_ok ?_
 simp only [ev0,evA,evB,evP,fl,gp,tab,simprocAttr,reduceCtorEq,reduceIte]
 refine fin_stop trivial (runs_call (isNaN_c y) rfl rfl rfl (by simp only [dstOk,Nat.reduceLT]) (by repeat (first|exact trivial|constructor)) (runs_eval tab_ok ?_))
 simp only [ev0,evA,evB,evP,fl,gp,tab,simprocAttr,reduceCtorEq,reduceIte]
 refine fin_run trivial (hK _ ?_)<;>clear hK<;>clear K
 refine qa (qm (qm ?_))
 refine hk_region fun K hK=>runs_eval tab_ok ?_
 simp only [ev0,evA,evB,evP,fl,gp,tab,simprocAttr,reduceCtorEq,reduceIte]
 refine fin_run trivial (hK _ ?_)<;>clear hK<;>clear K
 refine qa ?_
 refine hk_cond rfl (fun hC1=>?_) (fun hC1=>?_)
 ·cases hC1
 ·(try simp only [nhs] at hC1)
  refine qh (qa (qm (qm ?_)))
  refine hk_region fun K hK=>runs_eval tab_ok ?_
  simp only [ev0,evA,evB,evP,fl,gp,tab,simprocAttr,reduceCtorEq,reduceIte]
  refine fin_run trivial (hK _ ?_)<;>clear hK<;>clear K
  refine qa ?_
  refine hk_cond rfl (fun hC3=>?_) (fun hC3=>?_)
  ·cases hC3
  ·(try simp only [nhs] at hC3)
   refine qh (qa (qm (qm ?_)))
   refine hk_region fun K hK=>runs_eval tab_ok ?_
   simp only [ev0,evA,evB,evP,fl,gp,tab,simprocAttr,reduceCtorEq,reduceIte]
   refine fin_run trivial (hK _ ?_)<;>clear hK<;>clear K
   refine qa ?_
   refine hk_cond rfl (fun hC4=>?_) (fun hC4=>?_)
   ·(try simp only [nhs] at hC4)
    refine qm ?_
    refine hk_region fun K hK=>runs_eval tab_ok ?_
    simp only [ev0,evA,evB,evP,fl,gp,tab,simprocAttr,reduceCtorEq,reduceIte]
    refine fin_run trivial (hK _ ?_)<;>clear hK<;>clear K
    refine qa (qk (qb ?_))
    simp only [Tryd.results134,enA,ev0,evA,evB,evP,fl,gp,tab,simprocAttr,reduceCtorEq,reduceIte]
    all_goals (unfold cmpi; rw [if_pos hC4])
   ·(try simp only [nhs] at hC4)
    refine qh (qa (qm (qm ?_)))
    refine hk_region fun K hK=>runs_eval tab_ok ?_
    simp only [ev0,evA,evB,evP,fl,gp,tab,simprocAttr,reduceCtorEq,reduceIte]
    refine fin_run trivial (hK _ ?_)<;>clear hK<;>clear K
    refine qa ?_
    refine hk_cond rfl (fun hC5=>?_) (fun hC5=>?_)
    ·(try simp only [nhs] at hC5)
     refine qm ?_
     refine hk_region fun K hK=>runs_eval tab_ok ?_
     simp only [ev0,evA,evB,evP,fl,gp,tab,simprocAttr,reduceCtorEq,reduceIte]
     refine fin_run trivial (hK _ ?_)<;>clear hK<;>clear K
     refine qa (qk (qb ?_))
     simp only [Tryd.results134,enA,ev0,evA,evB,evP,fl,gp,tab,simprocAttr,reduceCtorEq,reduceIte]
     all_goals (unfold cmpi; rw [if_neg hC4,if_pos hC5])
    ·(try simp only [nhs] at hC5)
     refine qh (qa (qm ?_))
     refine hk_region fun K hK=>runs_eval tab_ok ?_
     simp only [ev0,evA,evB,evP,fl,gp,tab,simprocAttr,reduceCtorEq,reduceIte]
     refine fin_run trivial (hK _ ?_)<;>clear hK<;>clear K
     refine qa (qk ?_)
     simp only [Tryd.results134,enA,ev0,evA,evB,evP,fl,gp,tab,simprocAttr,reduceCtorEq,reduceIte]
     all_goals (unfold cmpi; rw [if_neg hC4,if_neg hC5])
theorem cmpL_drop {v w:List Int} : ∀ {i:Nat},(∀ j,j < i→j < v.length→j < w.length∧cmpi (v.getD j 0) (w.getD j 0)=0)→i≤v.length→cmpL v w=cmpL (v.drop i) (w.drop i)
 | 0,_,_=>rfl
 | i + 1,h,hi=>by
  cases v with
  | nil=>simp at hi
  | cons x v =>
   cases w with
   | nil=>have:=(h 0 (by omega) (by simp)).1; simp at this
   | cons y w =>
    have h0:=(h 0 (by omega) (by simp)).2
    simp at h0
    have ih:=cmpL_drop (v:=v) (w:=w) (i:=i) (fun j hj hjv=>by
     have:=h (j + 1) (by omega) (by simpa using hjv)
     simpa using this) (by simpa using hi)
    simp only [List.drop_succ_cons]
    rw [← ih]
    show (if cmpi x y=0 then cmpL v w else cmpi x y)=_
    rw [if_pos h0]
theorem drop_getD {v:List Int} {i:Nat} (h:i < v.length):v.drop i=v.getD i 0 :: v.drop (i + 1):=by
 rw [List.drop_eq_getElem_cons h]
 congr 1
 simp [List.getD,List.getElem?_eq_getElem h]
theorem compareL_c (v w:List Int) (hv:v.length≤1000000000) (hw:w.length≤1000000000):FnC Tryd.prog 82 [.list (il v),.list (il w)] (.int .i64 (cmpL v w)):=by
 refine fnc_of tab_ok Tryd.func82 rfl (by kernel_rfl) (by rw [Tryd.ntmps82]; exact Nat.le_add_left 2 _) ?_; rw [Tryd.ntmps82]
 refine qm ?_
 refine hk_region fun K hK=>runs_eval tab_ok ?_
 simp only [ev0,evA,evB,evP,fl,gp,tab,simprocAttr,reduceCtorEq,reduceIte]
 refine fin_run trivial (hK _ ?_)<;>clear hK<;>clear K
 refine qa (qm (qm ?_))
 refine hk_region fun K hK=>runs_eval tab_ok ?_
 simp only [ev0,evA,evB,evP,fl,gp,tab,simprocAttr,reduceCtorEq,reduceIte,il_length]
 refine fin_run trivial (hK _ ?_)<;>clear hK<;>clear K
 refine qa (ql ?_)
 refine hk_loop (ι:=Nat) (fun i=>⟨36,[(0,.p (.list (il v))),(1,.p (.list (il w))),(9,.p (.list (il v))),(10,.p (.int .i64 v.length)),(11,.p (.int .i64 i))],[]⟩) (fun i=>i≤v.length∧∀ j,j < i→j < v.length→j < w.length∧cmpi (v.getD j 0) (w.getD j 0)=0) (fun i=>v.length - i) 0 ⟨Nat.zero_le _,fun j hj=>by omega⟩ [] (by simp only [leq,leA,ev0,evA,evB,evP,fl,gp,tab,simprocAttr,reduceCtorEq,reduceIte]<;>trivial) fun i hi=>?_
 obtain ⟨hi1,hi2⟩:=hi
 have hd:=cmpL_drop hi2 hi1
 refine qm ?_
 refine hk_region fun K hK=>runs_eval tab_ok ?_
 simp only [ev0,evA,evB,evP,fl,gp,tab,simprocAttr,reduceCtorEq,reduceIte]
 refine fin_run trivial (hK _ ?_)<;>clear hK<;>clear K
 refine qa (qm ?_)
 refine hk_cond rfl (fun hC1=>?_) (fun hC1=>?_)
 ·(try simp only [nhs] at hC1)
  have hlt:i < v.length:=by omega
  have hdv:=drop_getD hlt
  refine qh (qa (qm (ql (qm ?_))))
  refine hk_region fun K hK=>runs_eval tab_ok ?_
  simp only [ev0,evA,evB,evP,fl,gp,tab,simprocAttr,reduceCtorEq,reduceIte,il_get hlt]
  refine fin_run ?_ (hK _ ?_)<;>clear hK<;>clear K
  ·(first|exact trivial|omega|(simp only [In64] at *; omega)|(simp [In64] at *; omega)|(simp_all; done)|skip)
  refine qa (qm (qm ?_))
  refine hk_region fun K hK=>runs_eval tab_ok ?_
  simp only [ev0,evA,evB,evP,fl,gp,tab,simprocAttr,reduceCtorEq,reduceIte,il_length]
  refine fin_run trivial (hK _ ?_)<;>clear hK<;>clear K
  refine qa ?_
  refine hk_cond rfl (fun hC2=>?_) (fun hC2=>?_)
  ·(try simp only [nhs] at hC2)
   refine qm ?_
   refine hk_region fun K hK=>runs_eval tab_ok ?_
   simp only [ev0,evA,evB,evP,fl,gp,tab,simprocAttr,reduceCtorEq,reduceIte]
   refine fin_run trivial (hK _ ?_)<;>clear hK<;>clear K
   refine qa (qk (qb (qe (qb (qb (qe (qb ?_)))))))
   simp only [Tryd.results82,enA,ev0,evA,evB,evP,fl,gp,tab,simprocAttr,reduceCtorEq,reduceIte]
   have hdw:w.drop i=[]:=List.drop_eq_nil_of_le (by omega)
   rw [hd,hdv,hdw]; rfl
  ·(try simp only [nhs] at hC2)
   have hlw:i < w.length:=by omega
   have hdw:=drop_getD hlw
   refine qh (qa (qm ?_))
   refine hk_region fun K hK=>runs_eval tab_ok ?_
   simp only [ev0,evA,evB,evP,fl,gp,tab,simprocAttr,reduceCtorEq,reduceIte,il_get hlw]
   refine fin_run ?_ (hK _ ?_)<;>clear hK<;>clear K
   ·(first|exact trivial|omega|(simp only [In64] at *; omega)|(simp [In64] at *; omega)|(simp_all; done)|skip)
   refine qa (qm ?_)
   refine hk_region fun K hK=>runs_eval tab_ok ?_
   simp only [ev0,evA,evB,evP,fl,gp,tab,simprocAttr,reduceCtorEq,reduceIte]
   refine fin_stop trivial (runs_call (compare_c (v.getD i 0) (w.getD i 0)) rfl rfl rfl (by simp only [dstOk,Nat.reduceLT]) (by repeat (first|exact trivial|constructor)) (runs_eval tab_ok ?_))
   simp only [ev0,evA,evB,evP,fl,gp,tab,simprocAttr,reduceCtorEq,reduceIte]
   refine fin_run trivial (hK _ ?_)<;>clear hK<;>clear K
   refine qa (qm ?_)
   refine hk_region fun K hK=>runs_eval tab_ok ?_
   simp only [ev0,evA,evB,evP,fl,gp,tab,simprocAttr,reduceCtorEq,reduceIte]
   refine fin_run trivial (hK _ ?_)<;>clear hK<;>clear K
   refine qa ?_
   refine hk_cond rfl (fun hC3=>?_) (fun hC3=>?_)
   ·(try simp only [nhs] at hC3)
    refine qm ?_
    refine hk_region fun K hK=>runs_eval tab_ok ?_
    simp only [ev0,evA,evB,evP,fl,gp,tab,simprocAttr,reduceCtorEq,reduceIte]
    refine fin_run trivial (hK _ ?_)<;>clear hK<;>clear K
    refine qa (qk (qe (qb (qb (qe (qb ?_))))))
    simp only [Tryd.results82,enA,ev0,evA,evB,evP,fl,gp,tab,simprocAttr,reduceCtorEq,reduceIte]
    rw [hd,hdv,hdw]
    show _=if _ then _ else _
    rw [if_neg hC3]
   ·(try simp only [nhs] at hC3)
    refine qh (qd (qa ?_))
    refine hk_region fun K hK=>runs_eval tab_ok ?_
    simp only [ev0,evA,evB,evP,fl,gp,tab,simprocAttr,reduceCtorEq,reduceIte]
    refine fin_run ?_ (hK _ ?_)<;>clear hK<;>clear K
    ·(first|exact trivial|omega|(simp only [In64] at *; omega)|(simp [In64] at *; omega)|(simp_all; done)|skip)
    refine qa ?_
    refine ⟨i + 1,[],⟨by omega,fun j hj hjv=>?_⟩,by omega,?_⟩
    ·by_cases hji:j=i
     ·rw [hji]; exact ⟨hlw,by simpa using hC3⟩
     ·exact hi2 j (by omega) hjv
    ·simp only [leq,leA,ev0,evA,evB,evP,fl,gp,tab,simprocAttr,reduceCtorEq,reduceIte]<;>omega
 ·(try simp only [nhs] at hC1)
  have hin:i=v.length:=by omega
  have hdv:v.drop i=[]:=List.drop_eq_nil_of_le (by omega)
  refine qj (qc (qc (qf (qa (qm (qm ?_))))))
  refine hk_region fun K hK=>runs_eval tab_ok ?_
  simp only [ev0,evA,evB,evP,fl,gp,tab,simprocAttr,reduceCtorEq,reduceIte,il_length]
  refine fin_run trivial (hK _ ?_)<;>clear hK<;>clear K
  refine qa ?_
  refine hk_cond rfl (fun hC4=>?_) (fun hC4=>?_)
  ·(try simp only [nhs] at hC4)
   refine qm ?_
   refine hk_region fun K hK=>runs_eval tab_ok ?_
   simp only [ev0,evA,evB,evP,fl,gp,tab,simprocAttr,reduceCtorEq,reduceIte]
   refine fin_run trivial (hK _ ?_)<;>clear hK<;>clear K
   refine qa (qk (qb ?_))
   simp only [Tryd.results82,enA,ev0,evA,evB,evP,fl,gp,tab,simprocAttr,reduceCtorEq,reduceIte]
   all_goals (rw [hd,hdv,drop_getD (v:=w) (i:=i) (by omega)]; rfl)
  ·(try simp only [nhs] at hC4)
   refine qh (qa (qm ?_))
   refine hk_region fun K hK=>runs_eval tab_ok ?_
   simp only [ev0,evA,evB,evP,fl,gp,tab,simprocAttr,reduceCtorEq,reduceIte]
   refine fin_run trivial (hK _ ?_)<;>clear hK<;>clear K
   refine qa (qk ?_)
   simp only [Tryd.results82,enA,ev0,evA,evB,evP,fl,gp,tab,simprocAttr,reduceCtorEq,reduceIte]
   have hdw:w.drop i=[]:=by
    refine List.drop_eq_nil_of_le ?_
    omega
   rw [hd,hdv,hdw]; rfl

/-! ### An order -/

theorem cmpi_lt {x y:Int} : cmpi x y < 0↔x < y:=by
 unfold cmpi
 by_cases h1:x < y
 ·simp [h1]
 ·by_cases h2:y < x<;>simp [h1,h2]
theorem cmpi_eq {x y:Int} : cmpi x y=0↔x=y:=by
 unfold cmpi
 by_cases h1:x < y
 ·simp [h1]; omega
 ·by_cases h2:y < x
  ·simp [h1,h2]; omega
  ·simp [h1,h2]; omega
theorem cmpL_self:∀ v:List Int,cmpL v v=0
 | []=>rfl
 | x :: v=>by show (if cmpi x x=0 then cmpL v v else cmpi x x)=0; rw [if_pos (cmpi_eq.2 rfl)]; exact cmpL_self v
theorem cmpL_cons_lt {x y:Int} {v w:List Int} : cmpL (x :: v) (y :: w) < 0↔x < y∨x=y∧cmpL v w < 0:=by
 show (if cmpi x y=0 then cmpL v w else cmpi x y) < 0↔_
 by_cases h:cmpi x y=0
 ·rw [if_pos h]
  have:=cmpi_eq.1 h
  constructor
  ·exact fun h2=>.inr ⟨this,h2⟩
  ·rintro (h2 | h2)
   ·omega
   ·exact h2.2
 ·rw [if_neg h,cmpi_lt]
  have:¬ x=y:=fun e=>h (cmpi_eq.2 e)
  constructor
  ·exact fun h2=>.inl h2
  ·rintro (h2 | h2)
   ·exact h2
   ·exact absurd h2.1 this
theorem cmpL_tot:∀ v w:List Int,¬ cmpL v w < 0→¬ cmpL w v < 0→v=w
 | [],[],_,_=>rfl
 | [],_ :: _,h,_=>absurd (show (-1:Int) < 0 by omega) h
 | _ :: _,[],_,h=>absurd (show (-1:Int) < 0 by omega) h
 | x :: v,y :: w,h1,h2=>by
  rw [cmpL_cons_lt] at h1 h2
  have hxy:x=y:=by omega
  subst hxy
  rw [cmpL_tot v w (fun h=>h1 (.inr ⟨rfl,h⟩)) (fun h=>h2 (.inr ⟨rfl,h⟩))]
theorem cmpL_trans:∀ u v w:List Int,cmpL u v < 0→cmpL v w < 0→cmpL u w < 0
 | [],[],_,h,_=>absurd h (by simp [cmpL])
 | [],_ :: _,[],_,h=>absurd h (by simp [cmpL])
 | [],_ :: _,_ :: _,_,_=>by simp [cmpL]
 | _ :: _,[],_,h,_=>absurd h (by simp [cmpL])
 | _ :: _,_ :: _,[],_,h=>absurd h (by simp [cmpL])
 | x :: u,y :: v,z :: w,h1,h2=>by
  rw [cmpL_cons_lt] at h1 h2 ⊢
  rcases h1 with h1 | ⟨rfl,h1⟩
  ·rcases h2 with h2 | ⟨rfl,h2⟩
   ·exact .inl (by omega)
   ·exact .inl h1
  ·rcases h2 with h2 | ⟨rfl,h2⟩
   ·exact .inl h2
   ·exact .inr ⟨rfl,cmpL_trans u v w h1 h2⟩
theorem cmpL_ntrans (u v w:List Int) (h1:¬ cmpL u v < 0) (h2:¬ cmpL v w < 0):¬ cmpL u w < 0:=fun h=>by
 by_cases h3:cmpL v u < 0
 ·exact h2 (cmpL_trans _ _ _ h3 h)
 ·rw [cmpL_tot _ _ h1 h3] at h; exact h2 h

/-- Sets: by how many, then by lists. -/
def cmpS (a b:List Int):Int:=if (a.length:Int) - (b.length:Int)=0 then cmpL a b else (a.length:Int) - (b.length:Int)
theorem cmpS_lt {a b:List Int} : cmpS a b < 0↔a.length < b.length∨a.length=b.length∧cmpL a b < 0:=by
 unfold cmpS
 by_cases h:(a.length:Int) - (b.length:Int)=0
 ·rw [if_pos h]; constructor
  ·exact fun h2=>.inr ⟨by omega,h2⟩
  ·rintro (h2 | h2)
   ·omega
   ·exact h2.2
 ·rw [if_neg h]; omega
theorem cmpS_tot (v w:List Int) (h1:¬ cmpS v w < 0) (h2:¬ cmpS w v < 0):v=w:=by
 rw [cmpS_lt] at h1 h2
 exact cmpL_tot v w (fun h=>h1 (.inr ⟨by omega,h⟩)) (fun h=>h2 (.inr ⟨by omega,h⟩))
theorem cmpS_trans (u v w:List Int) (h1:cmpS u v < 0) (h2:cmpS v w < 0):cmpS u w < 0:=by
 rw [cmpS_lt] at h1 h2 ⊢
 rcases h1 with h1 | ⟨e1,h1⟩
 ·exact .inl (by omega)
 ·rcases h2 with h2 | ⟨e2,h2⟩
  ·exact .inl (by omega)
  ·exact .inr ⟨by omega,cmpL_trans u v w h1 h2⟩
theorem cmpS_self (v:List Int):¬ cmpS v v < 0:=by
 rw [cmpS_lt,cmpL_self]; omega
theorem cmpS_ntrans (u v w:List Int) (h1:¬ cmpS u v < 0) (h2:¬ cmpS v w < 0):¬ cmpS u w < 0:=fun h=>by
 by_cases h3:cmpS v u < 0
 ·exact h2 (cmpS_trans _ _ _ h3 h)
 ·rw [cmpS_tot _ _ h1 h3] at h; exact h2 h
theorem cnt_stl (x:Nat):cnt 64 x=(stl x).length:=by unfold stl; rw [thl_len]; rfl
theorem allOf1_c (x y:Nat) (hx:x < 2 ^ 64) (hy:y < 2 ^ 64):FnC Tryd.prog 148 [.int .u64 x,.int .u64 y] (.int .i64 (cmpS (stl x) (stl y))):=by
 have l1:=stl_len x
 have l2:=stl_len y
 refine fnc_of tab_ok Tryd.func148 rfl (by kernel_rfl) (by rw [Tryd.ntmps148]; exact Nat.le_add_left 2 _) ?_; rw [Tryd.ntmps148]
 refine qm ?_
 refine hk_region fun K hK=>runs_eval tab_ok ?_
 simp only [ev0,evA,evB,evP,fl,gp,tab,simprocAttr,reduceCtorEq,reduceIte]
 refine fin_run trivial (hK _ ?_)<;>clear hK<;>clear K
 refine qa (qm (qm ?_))
 refine hk_region fun K hK=>runs_eval tab_ok ?_
 simp only [ev0,evA,evB,evP,fl,gp,tab,simprocAttr,reduceCtorEq,reduceIte,cnt_stl]
 refine fin_stop trivial (runs_call (ones_c x hx) rfl rfl rfl (by simp only [dstOk,Nat.reduceLT]) (by repeat (first|exact trivial|constructor)) (runs_eval tab_ok ?_))
 simp only [ev0,evA,evB,evP,fl,gp,tab,simprocAttr,reduceCtorEq,reduceIte,cnt_stl]
 refine fin_stop trivial (runs_call (ones_c y hy) rfl rfl rfl (by simp only [dstOk,Nat.reduceLT]) (by repeat (first|exact trivial|constructor)) (runs_eval tab_ok ?_))
 simp only [ev0,evA,evB,evP,fl,gp,tab,simprocAttr,reduceCtorEq,reduceIte,cnt_stl]
 refine fin_run ?_ (hK _ ?_)<;>clear hK<;>clear K
 ·(first|exact trivial|omega|(simp only [In64] at *; omega)|(simp [In64] at *; omega)|(simp_all; done)|skip)
 refine qa (qm ?_)
 refine hk_region fun K hK=>runs_eval tab_ok ?_
 simp only [ev0,evA,evB,evP,fl,gp,tab,simprocAttr,reduceCtorEq,reduceIte]
 refine fin_run trivial (hK _ ?_)<;>clear hK<;>clear K
 refine qa ?_
 refine hk_cond rfl (fun hC1=>?_) (fun hC1=>?_)
 ·(try simp only [nhs] at hC1)
  refine qm ?_
  refine hk_region fun K hK=>runs_eval tab_ok ?_
  simp only [ev0,evA,evB,evP,fl,gp,tab,simprocAttr,reduceCtorEq,reduceIte]
  refine fin_run trivial (hK _ ?_)<;>clear hK<;>clear K
  refine qa (qk (qb ?_))
  simp only [Tryd.results148,enA,ev0,evA,evB,evP,fl,gp,tab,simprocAttr,reduceCtorEq,reduceIte]
  all_goals (unfold cmpS; rw [if_neg hC1])
 ·(try simp only [nhs] at hC1)
  refine qh (qa (qm ?_))
  refine hk_region fun K hK=>runs_eval tab_ok ?_
  simp only [ev0,evA,evB,evP,fl,gp,tab,simprocAttr,reduceCtorEq,reduceIte]
  refine fin_stop trivial (runs_call (list_s x hx) rfl rfl rfl (by simp only [dstOk,Nat.reduceLT]) (by repeat (first|exact trivial|constructor)) (runs_eval tab_ok ?_))
  simp only [ev0,evA,evB,evP,fl,gp,tab,simprocAttr,reduceCtorEq,reduceIte]
  refine fin_stop trivial (runs_call (list_s y hy) rfl rfl rfl (by simp only [dstOk,Nat.reduceLT]) (by repeat (first|exact trivial|constructor)) (runs_eval tab_ok ?_))
  simp only [ev0,evA,evB,evP,fl,gp,tab,simprocAttr,reduceCtorEq,reduceIte]
  refine fin_stop trivial (runs_call (compareL_c (stl x) (stl y) (by omega) (by omega)) rfl rfl rfl (by simp only [dstOk,Nat.reduceLT]) (by repeat (first|exact trivial|constructor)) (runs_eval tab_ok ?_))
  simp only [ev0,evA,evB,evP,fl,gp,tab,simprocAttr,reduceCtorEq,reduceIte]
  refine fin_run trivial (hK _ ?_)<;>clear hK<;>clear K
  refine qa (qk ?_)
  simp only [Tryd.results148,enA,ev0,evA,evB,evP,fl,gp,tab,simprocAttr,reduceCtorEq,reduceIte]
  all_goals (unfold cmpS; rw [if_pos (by omega)])
end Go.Proofs.YtboadfahlflmhaaDoor

/-
  Walks: groups that are made of a product. Conditions: none.
-/
set_option linter.all false
namespace Go.Proofs.YtboadfahlflmhaaDoor
open Go.Pv

/-- A table, by a rule. -/
def tbr (g:Nat→Nat→Int) (n:Nat):Nat→List Int:=rg fun i=>g (i / n) (i % n)
def tbl (g:Nat→Nat→Int) (n:Nat):List Int:=tbr g n (n * n)

theorem tbr_succ (g:Nat→Nat→Int) {n a b:Nat} (hb:b < n):tbr g n (a * n + (b + 1))=tbr g n (a * n + b)++[g a b]:=by
 unfold tbr
 rw [← Nat.add_assoc,rg_succ]
 have h1:(a * n + b) / n=a:=by
  rw [Nat.mul_comm,Nat.mul_add_div (by omega),Nat.div_eq_of_lt hb]; omega
 have h2:(a * n + b) % n=b:=by
  rw [Nat.mul_comm,Nat.mul_add_mod,Nat.mod_eq_of_lt hb]
 simp only [h1,h2]
theorem tbr_len (g:Nat→Nat→Int) (n k:Nat):(tbr g n k).length=k:=rg_len _ k
theorem tbl_len (g:Nat→Nat→Int) (n:Nat):(tbl g n).length=n * n:=rg_len _ _
theorem tbl_get (g:Nat→Nat→Int) {n a b:Nat} (ha:a < n) (hb:b < n):(tbl g n).getD (a * n + b) 0=g a b:=by
 unfold tbl tbr
 rw [rg_get _ (at_lt ha hb)]
 have h1:(a * n + b) / n=a:=by
  rw [Nat.mul_comm,Nat.mul_add_div (by omega),Nat.div_eq_of_lt hb]; omega
 have h2:(a * n + b) % n=b:=by
  rw [Nat.mul_comm,Nat.mul_add_mod,Nat.mod_eq_of_lt hb]
 rw [h1,h2]

end Go.Proofs.YtboadfahlflmhaaDoor

/-
  Sets of things: centres; the square's group; an example of the document. Conditions: none.
-/
set_option linter.all false
namespace Go.Proofs.YtboadfahlflmhaaDoor
open Go.Pv

/-! ### What two lists have -/

def bth (a b:List Int):List Int:=a.filter fun x=>decide (x∈b)
theorem bth_thl (n:Nat) (p q:Nat→Bool):bth (thl n p) (thl n q)=thl n (fun a=>p a && q a):=by
 unfold bth thl thn'
 rw [List.filter_map,List.filter_filter]
 congr 1
 refine List.filter_congr fun a ha=>?_
 have h1:=List.mem_range.1 ha
 simp only [Function.comp]
 rw [Bool.and_comm (p a)]
 congr 1
 rw [Bool.eq_iff_iff,decide_eq_true_eq]
 exact mem_thl_n (p:=q) h1

theorem both_c (a b:List Int) (ha:a.length≤1000000) (hb:b.length≤1000000):FnC Tryd.prog 51 [.list (il a),.list (il b)] (.list (il (bth a b))):=by
 refine fnc_of tab_ok Tryd.func51 rfl (by kernel_rfl) (by rw [Tryd.ntmps51]; exact Nat.le_add_left 2 _) ?_; rw [Tryd.ntmps51]
 refine qm ?_
 refine hk_region fun K hK=>runs_eval tab_ok ?_
 simp only [ev0,evA,evB,evP,fl,gp,tab,simprocAttr,reduceCtorEq,reduceIte]
 refine fin_run trivial (hK _ ?_)<;>clear hK<;>clear K
 refine qa (qm ?_)
 refine hk_region fun K hK=>runs_eval tab_ok ?_
 simp only [ev0,evA,evB,evP,fl,gp,tab,simprocAttr,reduceCtorEq,reduceIte]
 refine fin_run trivial (hK _ ?_)<;>clear hK<;>clear K
 refine qa (qm (qm ?_))
 refine hk_own0 5 rfl ?_
 refine hk_region fun K hK=>runs_eval tab_ok ?_
 simp only [ev0,evA,evB,evP,fl,gp,tab,simprocAttr,reduceCtorEq,reduceIte]
 refine fin_run trivial (hK _ ?_)<;>clear hK<;>clear K
 refine qa (ql ?_)
 refine hk_loop (ι:=Nat) (fun i=>⟨27,[(0,.p (.list (il a))),(1,.p (.list (il b))),(5,.sl 0 0 (bth (a.take i) b).length),(6,.p (.int .i64 i))],[.own (ol (bth (a.take i) b))]⟩) (fun i=>i≤a.length) (fun i=>a.length - i) 0 (Nat.zero_le _) [0] (by simp only [leq,leA,ev0,evA,evB,evP,fl,gp,tab,simprocAttr,reduceCtorEq,reduceIte]<;>simp [bth,ol_nil]) fun i hi=>?_
 have hl:(bth (a.take i) b).length≤i:=by
  have h1:=List.length_filter_le (fun x=>decide (x∈b)) (a.take i)
  rw [List.length_take] at h1
  unfold bth; omega
 refine qm (qm ?_)
 refine hk_region fun K hK=>runs_eval tab_ok ?_
 simp only [ev0,evA,evB,evP,fl,gp,tab,simprocAttr,reduceCtorEq,reduceIte]
 refine fin_run trivial (hK _ ?_)<;>clear hK<;>clear K
 refine qa ?_
 refine hk_cond rfl (fun hC1=>?_) (fun hC1=>?_)
 ·(try simp only [nhs] at hC1)
  have hlt:i < a.length:=by omega
  have hs:bth (a.take (i + 1)) b=bth (a.take i) b++if a.getD i 0∈b then [a.getD i 0] else []:=by
   unfold bth
   have e1:a[i]=a.getD i 0:=by simp [List.getD,List.getElem?_eq_getElem hlt]
   rw [List.take_succ_eq_append_getElem hlt,List.filter_append,e1]
   congr 1
   by_cases h:a.getD i 0∈b
   ·rw [if_pos h,List.filter_cons,if_pos (decide_eq_true h)]; rfl
   ·rw [if_neg h,List.filter_cons,if_neg (by simpa using h)]; rfl
  refine qh (qa (qm (ql (qm ?_))))
  refine hk_region fun K hK=>runs_eval tab_ok ?_
  simp only [ev0,evA,evB,evP,fl,gp,tab,simprocAttr,reduceCtorEq,reduceIte,il_get hlt]
  refine fin_stop ?_ (runs_call (has_r b (a.getD i 0) (by omega)) rfl rfl rfl (by simp only [dstOk,Nat.reduceLT]) (by repeat (first|exact trivial|constructor)) (runs_eval tab_ok ?_))
  ·(first|exact trivial|omega|(simp only [In64] at *; omega)|(simp [In64] at *; omega)|(simp_all; done)|skip)
  simp only [ev0,evA,evB,evP,fl,gp,tab,simprocAttr,reduceCtorEq,reduceIte,il_get hlt]
  refine fin_run ?_ (hK _ ?_)<;>clear hK<;>clear K
  ·(first|exact trivial|omega|(simp only [In64] at *; omega)|(simp [In64] at *; omega)|(simp_all; done)|skip)
  refine qa ?_
  refine hk_cond rfl (fun hC2=>?_) (fun hC2=>?_)
  ·(try simp only [nhs] at hC2)
   rw [if_pos hC2] at hs
   refine hk_region fun K hK=>runs_eval tab_ok ?_
   simp only [ev0,evA,evB,evP,fl,gp,tab,simprocAttr,reduceCtorEq,reduceIte,il_get hlt]
   refine fin_run ?_ (hK _ ?_)<;>clear hK<;>clear K
   ·(first|exact trivial|omega|(simp only [In64] at *; omega)|(simp [In64] at *; omega)|(simp_all; done)|skip)
   refine qd (qa ?_)
   refine hk_region fun K hK=>runs_eval tab_ok ?_
   simp only [ev0,evA,evB,evP,fl,gp,tab,simprocAttr,reduceCtorEq,reduceIte]
   refine fin_run ?_ (hK _ ?_)<;>clear hK<;>clear K
   ·(first|exact trivial|omega|(simp only [In64] at *; omega)|(simp [In64] at *; omega)|(simp_all; done)|skip)
   refine qa ?_
   refine ⟨i + 1,[1],by omega,by omega,?_⟩
   rw [hs]
   simp only [leq,leA,ev0,evA,evB,evP,fl,gp,tab,simprocAttr,reduceCtorEq,reduceIte]<;>first|trivial|omega
  ·(try simp only [nhs] at hC2)
   rw [if_neg hC2] at hs
   refine qh (qd (qa ?_))
   refine hk_region fun K hK=>runs_eval tab_ok ?_
   simp only [ev0,evA,evB,evP,fl,gp,tab,simprocAttr,reduceCtorEq,reduceIte]
   refine fin_run ?_ (hK _ ?_)<;>clear hK<;>clear K
   ·(first|exact trivial|omega|(simp only [In64] at *; omega)|(simp [In64] at *; omega)|(simp_all; done)|skip)
   refine qa ?_
   refine ⟨i + 1,[0],by omega,by omega,?_⟩
   rw [hs,List.append_nil]
   simp only [leq,leA,ev0,evA,evB,evP,fl,gp,tab,simprocAttr,reduceCtorEq,reduceIte]<;>first|trivial|omega
 ·(try simp only [nhs] at hC1)
  have hin:i=a.length:=by omega
  rw [hin,List.take_length]
  rw [hin,List.take_length] at hl
  refine hk_seal 5 0 rfl rfl ?_
  refine qj (qc (qc (qf (qa (qm ?_)))))
  refine hk_region fun K hK=>runs_eval tab_ok ?_
  simp only [ev0,evA,evB,evP,fl,gp,tab,simprocAttr,reduceCtorEq,reduceIte]
  refine fin_run trivial (hK _ ?_)<;>clear hK<;>clear K
  refine qa (qk ?_)
  simp only [Tryd.results51,enA,ev0,evA,evB,evP,fl,gp,tab,simprocAttr,reduceCtorEq,reduceIte]
  all_goals (rfl)

/-! ### Functions of the library -/

/-! ### What commutes with a set -/

/-! ### The square's group -/

end Go.Proofs.YtboadfahlflmhaaDoor

/-
  Sets of things: conjugated things, commutators, what they make. Conditions: none.
-/
set_option linter.all false
namespace Go.Proofs.YtboadfahlflmhaaDoor
open Go.Pv

theorem truth (q:Prop):∃ b:Bool,b=true↔q:=⟨@decide q (Classical.propDecidable q),@decide_eq_true_iff q (Classical.propDecidable q)⟩
theorem thl_rng2 {n:Nat} {p:Nat→Bool} : ∀ x∈thl n p,∃ a,a < n∧x=((a:Nat):Int):=fun x hx=>by
 obtain ⟨a,h1,_,h3⟩:=mem_thl.1 hx
 exact ⟨a,h1,h3⟩
/-! ### Commutators of two lists -/

/-! ### Small words -/

theorem parted_r (n:Nat) (p q:Nat→Bool) (hn:n≤60) (b:Bool) (hb:b=true↔∀ a,a < n→p a=true→q a=true):FnC Tryd.prog 59 [.list (il (thl n p)),.list (il (thl n q))] (.bool b):=by
 have hlp:=thl_le n p
 have hlq:=thl_le n q
 refine fnc_of tab_ok Tryd.func59 rfl (by kernel_rfl) (by rw [Tryd.ntmps59]; exact Nat.le_add_left 2 _) ?_; rw [Tryd.ntmps59]
 refine qm ?_
 refine hk_region fun K hK=>runs_eval tab_ok ?_
 simp only [ev0,evA,evB,evP,fl,gp,tab,simprocAttr,reduceCtorEq,reduceIte]
 refine fin_run trivial (hK _ ?_)<;>clear hK<;>clear K
 refine qa (qm (qm ?_))
 refine hk_region fun K hK=>runs_eval tab_ok ?_
 simp only [ev0,evA,evB,evP,fl,gp,tab,simprocAttr,reduceCtorEq,reduceIte]
 refine fin_run trivial (hK _ ?_)<;>clear hK<;>clear K
 refine qa (ql ?_)
 refine hk_loop (ι:=Nat) (fun i=>⟨19,[(0,.p (.list (il (thl n p)))),(1,.p (.list (il (thl n q)))),(5,.p (.int .i64 i))],[]⟩) (fun i=>i≤(thl n p).length∧∀ j,j < i→q ((thl n p).getD j 0).toNat=true) (fun i=>(thl n p).length - i) 0 ⟨Nat.zero_le _,fun j hj=>by omega⟩ [] (by simp only [leq,leA,ev0,evA,evB,evP,fl,gp,tab,simprocAttr,reduceCtorEq,reduceIte]<;>trivial) fun i hi=>?_
 obtain ⟨hi1,hi2⟩:=hi
 refine qm (qm ?_)
 refine hk_region fun K hK=>runs_eval tab_ok ?_
 simp only [ev0,evA,evB,evP,fl,gp,tab,simprocAttr,reduceCtorEq,reduceIte]
 refine fin_run trivial (hK _ ?_)<;>clear hK<;>clear K
 refine qa ?_
 refine hk_cond rfl (fun hC1=>?_) (fun hC1=>?_)
 ·(try simp only [nhs] at hC1)
  have hlt:i < (thl n p).length:=by omega
  obtain ⟨x,x1,x2,x3⟩:=thl_get hlt
  refine qh (qa (qm (ql (qm ?_))))
  refine hk_region fun K hK=>runs_eval tab_ok ?_
  simp only [ev0,evA,evB,evP,fl,gp,tab,simprocAttr,reduceCtorEq,reduceIte,il_get hlt,x3]
  refine fin_stop ?_ (runs_call (has_r (thl n q) x (by omega)) rfl rfl rfl (by simp only [dstOk,Nat.reduceLT]) (by repeat (first|exact trivial|constructor)) (runs_eval tab_ok ?_))
  ·(first|exact trivial|omega|(simp only [In64] at *; omega)|(simp [In64] at *; omega)|(simp_all; done)|skip)
  simp only [ev0,evA,evB,evP,fl,gp,tab,simprocAttr,reduceCtorEq,reduceIte,il_get hlt,x3]
  refine fin_run ?_ (hK _ ?_)<;>clear hK<;>clear K
  ·(first|exact trivial|omega|(simp only [In64] at *; omega)|(simp [In64] at *; omega)|(simp_all; done)|skip)
  refine qa ?_
  refine hk_cond rfl (fun hC2=>?_) (fun hC2=>?_)
  ·(try simp only [nhs] at hC2)
   refine qm ?_
   refine hk_region fun K hK=>runs_eval tab_ok ?_
   simp only [ev0,evA,evB,evP,fl,gp,tab,simprocAttr,reduceCtorEq,reduceIte]
   refine fin_run trivial (hK _ ?_)<;>clear hK<;>clear K
   refine qa (qk (qe (qb (qb (qe (qb ?_))))))
   simp only [Tryd.results59,enA,ev0,evA,evB,evP,fl,gp,tab,simprocAttr,reduceCtorEq,reduceIte]
   cases b with
   | false=>rfl
   | true=>exact absurd ((mem_thl_n x1).2 (hb.1 rfl x x1 x2)) (by simpa using hC2)
  ·(try simp only [nhs] at hC2)
   have hx:q x=true:=(mem_thl_n x1).1 hC2
   refine qh (qd (qa ?_))
   refine hk_region fun K hK=>runs_eval tab_ok ?_
   simp only [ev0,evA,evB,evP,fl,gp,tab,simprocAttr,reduceCtorEq,reduceIte]
   refine fin_run ?_ (hK _ ?_)<;>clear hK<;>clear K
   ·(first|exact trivial|omega|(simp only [In64] at *; omega)|(simp [In64] at *; omega)|(simp_all; done)|skip)
   refine qa ?_
   refine ⟨i + 1,[],⟨by omega,fun j hj=>?_⟩,by omega,?_⟩
   ·by_cases hj2:j=i
    ·subst hj2; rw [x3,Int.toNat_natCast]; exact hx
    ·exact hi2 j (by omega)
   ·simp only [leq,leA,ev0,evA,evB,evP,fl,gp,tab,simprocAttr,reduceCtorEq,reduceIte]<;>omega
 ·(try simp only [nhs] at hC1)
  refine qj (qc (qc (qf (qa (qm ?_)))))
  refine hk_region fun K hK=>runs_eval tab_ok ?_
  simp only [ev0,evA,evB,evP,fl,gp,tab,simprocAttr,reduceCtorEq,reduceIte]
  refine fin_run trivial (hK _ ?_)<;>clear hK<;>clear K
  refine qa (qk ?_)
  simp only [Tryd.results59,enA,ev0,evA,evB,evP,fl,gp,tab,simprocAttr,reduceCtorEq,reduceIte]
  rw [eq_comm,hb]
  intro a ha h1
  obtain ⟨j,j1,j2⟩:=thl_at ha h1
  have:=hi2 j (by omega)
  rwa [j2,Int.toNat_natCast] at this
end Go.Proofs.YtboadfahlflmhaaDoor

/-
  Subgroups, conjugated: Moved, Normaliser, Normal, Core, Closure, and what the document has. Conditions: none.
-/
set_option linter.all false
namespace Go.Proofs.YtboadfahlflmhaaDoor
open Go.Pv

/-- The fault of a set that is, or is not, a subgroup. -/
def ufb (b:Bool):Int × Int:=bif b then (0,0) else (7,0)

theorem group_ok {n e:Nat} {m:List Int} (h:GT n m n e) (p:Nat→Bool) (b:Bool) (hbs:b=true↔Sub n (op m n) e p):FnC Tryd.prog 109 [gp n m,.list (il (thl n p))] (fl (ufb b)):=by
 refine fnc_of tab_ok Tryd.func109 rfl (by kernel_rfl) (by rw [Tryd.ntmps109]; exact Nat.le_add_left 2 _) ?_; rw [Tryd.ntmps109]
 refine qm ?_
 refine hk_region fun K hK=>runs_eval tab_ok ?_
 simp only [ev0,evA,evB,evP,fl,gp,tab,simprocAttr,reduceCtorEq,reduceIte]
 refine fin_run ?_ (hK _ ?_)<;>clear hK<;>clear K
 ·(first|exact trivial|omega|(simp only [In64] at *; omega)|(simp [In64] at *; omega)|(simp_all; done)|skip)
 refine qa (qm ?_)
 refine hk_region fun K hK=>runs_eval tab_ok ?_
 simp only [ev0,evA,evB,evP,fl,gp,tab,simprocAttr,reduceCtorEq,reduceIte]
 refine fin_stop trivial (runs_call (is_ok h p b hbs) rfl rfl rfl (by simp only [dstOk,Nat.reduceLT]) (by repeat (first|exact trivial|constructor)) (runs_eval tab_ok ?_))
 simp only [ev0,evA,evB,evP,fl,gp,tab,simprocAttr,reduceCtorEq,reduceIte]
 refine fin_run ?_ (hK _ ?_)<;>clear hK<;>clear K
 ·(first|exact trivial|omega|(simp only [In64] at *; omega)|(simp [In64] at *; omega)|(simp_all; done)|skip)
 refine qa (qm (qm ?_))
 refine hk_region fun K hK=>runs_eval tab_ok ?_
 simp only [ev0,evA,evB,evP,fl,gp,tab,simprocAttr,reduceCtorEq,reduceIte]
 refine fin_run ?_ (hK _ ?_)<;>clear hK<;>clear K
 ·(first|exact trivial|omega|(simp only [In64] at *; omega)|(simp [In64] at *; omega)|(simp_all; done)|skip)
 refine qa ?_
 refine hk_cond rfl (fun hC1=>?_) (fun hC1=>?_)
 ·(try simp only [nhs] at hC1)
  have hbf:b=false:=by simpa using hC1
  refine qm ?_
  refine hk_region fun K hK=>runs_eval tab_ok ?_
  simp only [ev0,evA,evB,evP,fl,gp,tab,simprocAttr,reduceCtorEq,reduceIte]
  refine fin_stop trivial (runs_call (sfault_c 7 0) rfl rfl rfl (by simp only [dstOk,Nat.reduceLT]) (by repeat (first|exact trivial|constructor)) (runs_eval tab_ok ?_))
  simp only [ev0,evA,evB,evP,fl,gp,tab,simprocAttr,reduceCtorEq,reduceIte]
  refine fin_run ?_ (hK _ ?_)<;>clear hK<;>clear K
  ·(first|exact trivial|omega|(simp only [In64] at *; omega)|(simp [In64] at *; omega)|(simp_all; done)|skip)
  refine qa (qk (qb ?_))
  simp only [Tryd.results109,enA,ev0,evA,evB,evP,fl,gp,tab,simprocAttr,reduceCtorEq,reduceIte]
  all_goals (rw [hbf]; exact ⟨rfl,rfl⟩)
 ·(try simp only [nhs] at hC1)
  have hbt:b=true:=by simpa using hC1
  refine qh (qa (qm ?_))
  refine hk_region fun K hK=>runs_eval tab_ok ?_
  simp only [ev0,evA,evB,evP,fl,gp,tab,simprocAttr,reduceCtorEq,reduceIte]
  refine fin_run ?_ (hK _ ?_)<;>clear hK<;>clear K
  ·(first|exact trivial|omega|(simp only [In64] at *; omega)|(simp [In64] at *; omega)|(simp_all; done)|skip)
  refine qa (qk ?_)
  simp only [Tryd.results109,enA,ev0,evA,evB,evP,fl,gp,tab,simprocAttr,reduceCtorEq,reduceIte]
  all_goals (rw [hbt]; exact ⟨rfl,rfl⟩)
/-! ### A set, conjugated -/

theorem bo_and (n:Nat) (p q:Nat→Bool):bo n p &&& bo n q=bo n fun a=>p a && q a:=by
 refine Nat.eq_of_testBit_eq fun i=>?_
 rw [Nat.testBit_and,bo_bit,bo_bit,bo_bit]
 cases decide (i < n)<;>simp
/-! ### As the document has them -/

end Go.Proofs.YtboadfahlflmhaaDoor

/-
  Tables by a rule. Conditions: none.
-/
set_option linter.all false
namespace Go.Proofs.YtboadfahlflmhaaDoor
open Go.Pv

theorem Grp.cong' {n:Nat} {f f' : Nat→Nat→Nat} {e:Nat} (G:Grp n f e) (h:∀ a b,a < n→b < n→f' a b=f a b):Grp n f' e:=by
 refine ⟨G.pos,fun a b ha hb=>by rw [h a b ha hb]; exact G.cl a b ha hb,G.el,fun a ha=>by rw [h e a G.el ha]; exact G.one_l a ha,fun a ha=>by rw [h a e ha G.el]; exact G.one_r a ha,fun a b c ha hb hc=>?_,fun a ha=>?_⟩
 ·rw [h a b ha hb,h _ c (G.cl a b ha hb) hc,h b c hb hc,h a _ ha (G.cl b c hb hc)]
  exact G.assoc a b c ha hb hc
 ·obtain ⟨b,hb,h1,h2⟩:=G.inv a ha
  exact ⟨b,hb,by rw [h a b ha hb]; exact h1,by rw [h b a hb ha]; exact h2⟩
theorem tbl_op' (g:Nat→Nat→Nat) {n a b:Nat} (ha:a < n) (hb:b < n):op (tbl (fun a b=>(g a b:Nat)) n) n a b=g a b:=by
 unfold op
 rw [tbl_get _ ha hb]; rfl
theorem tbl_Tab {n:Nat} {g:Nat→Nat→Nat} (h1:1≤n) (hn:n≤60) (hg:∀ a b,a < n→b < n→g a b < n):Tab n (tbl (fun a b=>(g a b:Nat)) n):=by
 refine ⟨h1,hn,tbl_len _ _,fun i hi=>?_⟩
 have h1:i / n < n:=Nat.div_lt_of_lt_mul hi
 have h2:i % n < n:=Nat.mod_lt _ (by omega)
 have h3:i / n * n + i % n=i:=by rw [Nat.mul_comm]; exact Nat.div_add_mod i n
 have:=tbl_get (fun a b=>((g a b:Nat):Int)) h1 h2
 rw [h3] at this
 rw [this]
 have:=hg _ _ h1 h2
 omega
theorem tbl_GT' {n e:Nat} {g:Nat→Nat→Nat} (hn:n≤60) (G:Grp n g e):GT n (tbl (fun a b=>(g a b:Nat)) n) n e:=
 ⟨rfl,tbl_Tab G.pos hn G.cl,G.cong' fun a b ha hb=>tbl_op' g ha hb⟩

end Go.Proofs.YtboadfahlflmhaaDoor

/-
  Operations that are the same on a group's things: inverses, conjugates, what is made. Conditions: none.
-/
set_option linter.all false
namespace Go.Proofs.YtboadfahlflmhaaDoor
open Go.Pv

section
variable {n e:Nat} {f g:Nat→Nat→Nat} {p:Nat→Bool}

theorem iv_cong (G:Grp n f e) (h:∀ a b,a < n→b < n→g a b=f a b) {a:Nat} (ha:a < n):iv n g e a=iv n f e a:=by
 have G':=G.cong' h
 refine (G'.iv_unique ha (G.iv_lt ha) (.inl ?_)).symm
 rw [h _ _ ha (G.iv_lt ha),G.mul_iv ha]
theorem cjr_cong (G:Grp n f e) (h:∀ a b,a < n→b < n→g a b=f a b) {x a:Nat} (hx:x < n) (ha:a < n):cjr n g e x a=cjr n f e x a:=by
 unfold cjr
 rw [iv_cong G h ha,h _ _ (G.iv_lt ha) hx,h _ _ (G.cl _ _ (G.iv_lt ha) hx) ha]
theorem cup_cong (G:Grp n f e) (h:∀ a b,a < n→b < n→g a b=f a b) (y:Nat):cup n g e p y=cup n f e p y:=by
 rw [Bool.eq_iff_iff,cup_iff,cup_iff]
 constructor
 ·rintro ⟨x,a,hx,ha,h1,h2⟩
  exact ⟨x,a,hx,ha,h1,by rw [← cjr_cong G h hx ha]; exact h2⟩
 ·rintro ⟨x,a,hx,ha,h1,h2⟩
  exact ⟨x,a,hx,ha,h1,by rw [cjr_cong G h hx ha]; exact h2⟩
theorem Gen.cong_op (G:Grp n f e) (h:∀ a b,a < n→b < n→g a b=f a b) {a:Nat} (hg:Gen n g e p a):Gen n f e p a:=by
 have G':=G.cong' h
 induction hg with
 | one=>exact .one
 | step a b ha hb hp ih=>rw [h a b (ih.lt G) hb]; exact .step a b ih hb hp
theorem Sub.cong_op (G:Grp n f e) (h:∀ a b,a < n→b < n→g a b=f a b) (hs:Sub n g e p):Sub n f e p:=
 sub_of G hs.one fun a b ha hb h1 h2=>by rw [← h a b ha hb]; exact hs.mul a b ha hb h1 h2
theorem Nml.cong_op (G:Grp n f e) (h:∀ a b,a < n→b < n→g a b=f a b) (hs:Nml n g e p):Nml n f e p:=fun a ha x hx hp=>by
 rw [← cjr_cong G h hx ha]; exact hs a ha x hx hp
end
end Go.Proofs.YtboadfahlflmhaaDoor

/-
  Series of subgroups: commutators of commutators, from all on; what commutes up to the last one, from the one on. Conditions: none.
-/
set_option linter.all false
namespace Go.Proofs.YtboadfahlflmhaaDoor
open Go.Pv

/-- What commutes with all, up to a set. -/
def unx (n:Nat) (f:Nat→Nat→Nat) (e:Nat) (p:Nat→Bool) (a:Nat):Bool:=decide (∀ b,b < n→p (cmt n f e a b)=true)
def itr (nx:(Nat→Bool)→Nat→Bool) (p:Nat→Bool):Nat→Nat→Bool
 | 0=>p
 | k + 1=>nx (itr nx p k)
/-- A series comes to its end at K. -/
structure Stp (n:Nat) (T:Nat→Nat→Bool) (K:Nat):Prop where
 eq:∀ a,a < n→T (K + 1) a=T K a
 ne:∀ j,j < K→¬ ∀ a,a < n→T (j + 1) a=T j a

theorem mem_lt {n:Nat} {p q:Nat→Bool} (h:∀ a,a < n→q a=true→p a=true) (hne:¬ ∀ a,a < n→q a=p a):(mem n q).length < (mem n p).length:=by
 have h1:mem n q=(mem n p).filter q:=by
  unfold mem
  rw [List.filter_filter]
  refine List.filter_congr fun a ha=>?_
  have:=h a (List.mem_range.1 ha)
  cases hq:q a with
  | false=>simp
  | true=>simp [this hq]
 have h2:(mem n q).Sublist (mem n p):=by rw [h1]; exact List.filter_sublist
 rcases Nat.lt_or_eq_of_le h2.length_le with h3 | h3
 ·exact h3
 ·exfalso
  have h4:=h2.eq_of_length h3
  refine hne fun a ha=>?_
  rw [Bool.eq_iff_iff]
  have:a∈mem n q↔a∈mem n p:=by rw [h4]
  rw [mem_mem,mem_mem] at this
  exact ⟨fun h=>(this.1 ⟨ha,h⟩).2,fun h=>(this.2 ⟨ha,h⟩).2⟩

theorem Stp.after {n:Nat} {nx:(Nat→Bool)→Nat→Bool} {p:Nat→Bool} {K:Nat} (hx:∀ p q:Nat→Bool,(∀ a,a < n→p a=q a)→∀ a,a < n→nx p a=nx q a) (h:Stp n (itr nx p) K):∀ j a,a < n→itr nx p (K + j) a=itr nx p K a
 | 0,a,ha=>rfl
 | j + 1,a,ha=>by
  have h1:=hx _ _ (fun b hb=>Stp.after hx h j b hb) a ha
  exact h1.trans (h.eq a ha)

section
variable {n:Nat} {f:Nat→Nat→Nat} {e:Nat}
theorem unx_iff {p:Nat→Bool} {a:Nat} : unx n f e p a=true↔∀ b,b < n→p (cmt n f e a b)=true:=by unfold unx; exact decide_eq_true_iff
theorem Gen.congr {p q:Nat→Bool} (h:∀ a,a < n→p a=q a) {a:Nat} : Gen n f e p a↔Gen n f e q a:=
 ⟨Gen.mono fun b hb h1=>by rw [← h b hb]; exact h1,Gen.mono fun b hb h1=>by rw [h b hb]; exact h1⟩
theorem Grp.all_sub (G:Grp n f e):Sub n f e fun _=>true:=sub_of G rfl fun _ _ _ _ _ _=>rfl
theorem Grp.one_nml (G:Grp n f e):Nml n f e (onp e):=fun a ha x hx h=>by
 rw [onp_iff] at *
 rw [h,G.cjr_one ha]
theorem Grp.cmt_in (G:Grp n f e) {p:Nat→Bool} (hs:Sub n f e p) (hn:Nml n f e p) {x b:Nat} (hx:x < n) (hb:b < n) (h:p x=true):p (cmt n f e x b)=true:=by
 rw [G.cmt_cjr hx hb]
 exact hs.mul _ _ (G.iv_lt hx) (G.cjr_lt hx hb) (hs.inv x hx h) (hn b hb x hx h)

/-! ### Falling -/

section
variable {nx:(Nat→Bool)→Nat→Bool}
end
/-! ### Rising -/

theorem Grp.unx_in (G:Grp n f e) {p:Nat→Bool} (hs:Sub n f e p) (hn:Nml n f e p) {x:Nat} (hx:x < n) (h:p x=true):unx n f e p x=true:=unx_iff.2 fun b hb=>G.cmt_in hs hn hx hb h
theorem Grp.unx_sub (G:Grp n f e) {p:Nat→Bool} (hs:Sub n f e p) (hn:Nml n f e p):Sub n f e (unx n f e p):=by
 refine sub_of G (G.unx_in hs hn G.el hs.one) fun x y hx hy h1 h2=>unx_iff.2 fun b hb=>?_
 have ix:=G.iv_lt hx
 have iy:=G.iv_lt hy
 have hxb:=G.cjr_lt hx hb
 have hyb:=G.cjr_lt hy hb
 have hcx:=G.cmt_lt hx hb
 have h3:=hs.mul _ _ (G.cjr_lt hcx hy) (G.cmt_lt hy hb) (hn y hy _ hcx (unx_iff.1 h1 b hb)) (unx_iff.1 h2 b hb)
 have:cmt n f e (f x y) b=f (cjr n f e (cmt n f e x b) y) (cmt n f e y b):=by
  have e1:cjr n f e (cmt n f e x b) y=f (f (iv n f e y) (cmt n f e x b)) y:=rfl
  rw [G.cmt_cjr (G.cl _ _ hx hy) hb,G.iv_prod hx hy,G.cjr_hom hx hy hb,e1,G.cmt_cjr hy hb,G.assoc (f (iv n f e y) (cmt n f e x b)) y _ (G.cl _ _ iy hcx) hy (G.cl _ _ iy hyb),← G.assoc y (iv n f e y) _ hy iy hyb,G.mul_iv hy,G.one_l _ hyb,G.cmt_cjr hx hb,G.assoc (iv n f e y) (iv n f e x) _ iy ix (G.cl _ _ hxb hyb),← G.assoc (iv n f e x) _ _ ix hxb hyb,← G.assoc (iv n f e y) _ _ iy (G.cl _ _ ix hxb) hyb]
 rw [this]; exact h3
theorem Grp.unx_nml (G:Grp n f e) {p:Nat→Bool} (hn:Nml n f e p):Nml n f e (unx n f e p):=fun c hc x hx h=>unx_iff.2 fun b hb=>by
 have ic:=G.iv_lt hc
 have hbc:=G.cjr_lt hb ic
 have h1:=hn c hc _ (G.cmt_lt hx hbc) (unx_iff.1 h _ hbc)
 rwa [G.cjr_cmt hx hbc hc,G.cjr_vi hb hc] at h1
theorem Grp.rise (G:Grp n f e):∀ k,Sub n f e (itr (unx n f e) (onp e) k)∧Nml n f e (itr (unx n f e) (onp e) k)
 | 0=>⟨G.onp_sub,G.one_nml⟩
 | k + 1=>⟨G.unx_sub (G.rise k).1 (G.rise k).2,G.unx_nml (G.rise k).2⟩
end
end Go.Proofs.YtboadfahlflmhaaDoor

/-
  All subgroups of a group, in their order. Conditions: none.
-/
set_option linter.all false
namespace Go.Proofs.YtboadfahlflmhaaDoor
open Go.Pv

def wta (p:Nat→Bool) (a x:Nat):Bool:=p x || decide (x=a)
theorem bo_wta {n a:Nat} (p:Nat→Bool) (ha:a < n):bo n p ||| 2 ^ a=bo n (wta p a):=by
 refine Nat.eq_of_testBit_eq fun i=>?_
 rw [Nat.testBit_or,bo_bit,bo_bit,Nat.testBit_two_pow]
 unfold wta
 by_cases hi:i < n
 ·simp [hi,eq_comm]
 ·have:¬ a=i:=by omega
  simp [hi,this]
theorem bo_self {n x:Nat} (hx:x < 2 ^ n):bo n x.testBit=x:=by
 refine Nat.eq_of_testBit_eq fun i=>?_
 rw [bo_bit]
 by_cases hi:i < n
 ·simp [hi]
 ·have:=Nat.testBit_lt_two_pow (Nat.lt_of_lt_of_le hx (Nat.pow_le_pow_right (by omega) (Nat.le_of_not_lt hi)))
  simp [hi,this]
theorem onp_gen {n e:Nat} {f:Nat→Nat→Nat} : ∀ a,a < n→(onp e a=true↔Gen n f e (Nat.testBit 0) a):=fun a ha=>by
 rw [onp_iff]
 constructor
 ·rintro rfl; exact .one
 ·intro hg
  exact Gen.least (H:=fun a=>a=e) rfl (fun a b _ _ hb _=>by simp at hb) hg

section
variable {n e:Nat} {f:Nat→Nat→Nat}

/-- With one thing more, what is made is there. -/
def Dn (n:Nat) (f:Nat→Nat→Nat) (e x a:Nat) (L:List Nat):Prop:=∀ q:Nat→Bool,(∀ y,y < n→(q y=true↔Gen n f e (wta x.testBit a) y))→bo n q∈L
theorem Dn.mono {x a:Nat} {L L' : List Nat} (h:Dn n f e x a L) (hs:∀ y∈L,y∈L'):Dn n f e x a L':=fun q hq=>hs _ (h q hq)

/-- All subgroups; each once. -/
structure AllI (n:Nat) (f:Nat→Nat→Nat) (e:Nat) (L:List Nat):Prop where
 nodup:L.Nodup
 subs:∀ x∈L,∃ p,Sub n f e p∧x=bo n p
 one:bo n (onp e)∈L
theorem AllI.lt {L:List Nat} (h:AllI n f e L):∀ x∈L,x < 2 ^ n:=fun x hx=>by
 obtain ⟨p,_,rfl⟩:=h.subs x hx
 exact bo_lt n p
theorem AllI.len {L:List Nat} (h:AllI n f e L):L.length≤2 ^ n:=nodup_lt h.nodup h.lt
theorem AllI.all {L:List Nat} (G:Grp n f e) (h:AllI n f e L) (hd:∀ x∈L,∀ a,a < n→Dn n f e x a L):∀ p,Sub n f e p→bo n p∈L:=by
 intro q hq
 
 have go:∀ c (p:Nat→Bool),Sub n f e p→bo n p∈L→(∀ y,y < n→p y=true→q y=true)→(mem n q).length - (mem n p).length≤c→bo n q∈L:=by
  intro c
  induction c with
  | zero =>
   intro p hp hL hle hc
   have hall:∀ y,y < n→q y=p y:=by
    refine Classical.byContradiction fun hh=>?_
    have:=mem_lt (p:=q) (q:=p) hle (fun h2=>hh fun y hy=>(h2 y hy).symm)
    omega
   rw [bo_congr hall]; exact hL
  | succ c ih =>
   intro p hp hL hle hc
   by_cases hall:∀ y,y < n→q y=p y
   ·rw [bo_congr hall]; exact hL
   ·have hex:∃ a,a < n∧q a=true∧p a=false:=by
     refine Classical.byContradiction fun hh=>hall fun y hy=>?_
     cases hpy:p y with
     | true=>exact hle y hy hpy
     | false =>
      cases hqy:q y with
      | false=>rfl
      | true=>exact absurd ⟨y,hy,hqy,hpy⟩ hh
    obtain ⟨a,ha,qa,pa⟩:=hex
    obtain ⟨r,hr⟩:=gen_ex n f e (wta (bo n p).testBit a)
    have hrL:=hd _ hL a ha r hr
    have hin:∀ b,b < n→wta (bo n p).testBit a b=true→q b=true:=fun b hb hw=>by
     unfold wta at hw
     rw [bo_bit,Bool.or_eq_true,Bool.and_eq_true,decide_eq_true_eq,decide_eq_true_eq] at hw
     rcases hw with hw | hw
     ·exact hle b hb hw.2
     ·rw [hw]; exact qa
    have hrq:∀ y,y < n→r y=true→q y=true:=fun y hy h1=>((hr y hy).1 h1).sub G hq hin
    have hpr:∀ y,y < n→p y=true→r y=true:=fun y hy h1=>(hr y hy).2 (Gen.mem G hy (by unfold wta; rw [bo_bit]; simp [hy,h1]))
    have hra:r a=true:=(hr a ha).2 (Gen.mem G ha (by unfold wta; simp))
    have hlt:=mem_lt (p:=r) (q:=p) hpr (fun h2=>by have:=h2 a ha; rw [pa,hra] at this; cases this)
    exact ih r (gen_sub G hr) hrL hrq (by omega)
 exact go _ (onp e) G.onp_sub h.one (fun y hy h1=>by rw [onp_iff] at h1; rw [h1]; exact hq.one) (Nat.le_refl _)

/-- .. in their order. -/
structure AllS (n:Nat) (f:Nat→Nat→Nat) (e:Nat) (L:List Nat):Prop where
 subs:∀ x∈L,∃ p,Sub n f e p∧x=bo n p
 all:∀ p,Sub n f e p→bo n p∈L
 rise:L.Pairwise fun x y=>cmpS (stl x) (stl y) < 0
theorem AllS.nodup {L:List Nat} (h:AllS n f e L):L.Nodup:=h.rise.imp fun {x y} hxy he=>by
 subst he; exact cmpS_self _ hxy
theorem AllS.perm {L M:List Nat} (G:Grp n f e) (h:AllS n f e L) (hi:AllI n f e M) (hd:∀ x∈M,∀ a,a < n→Dn n f e x a M):M.Perm L:=by
 refine (List.perm_ext_iff_of_nodup hi.nodup h.nodup).2 fun x=>⟨fun hx=>?_,fun hx=>?_⟩
 ·obtain ⟨p,hp,rfl⟩:=hi.subs x hx; exact h.all p hp
 ·obtain ⟨p,hp,rfl⟩:=h.subs x hx; exact hi.all G hd p hp
theorem stl_inj {x y:Nat} (hx:x < 2 ^ 64) (hy:y < 2 ^ 64) (h:stl x=stl y):x=y:=by
 refine Nat.eq_of_testBit_eq fun i=>?_
 by_cases hi:i < 64
 ·exact thl_inj h hi
 ·have h1:=Nat.testBit_lt_two_pow (Nat.lt_of_lt_of_le hx (Nat.pow_le_pow_right (by omega) (Nat.le_of_not_lt hi)))
  have h2:=Nat.testBit_lt_two_pow (Nat.lt_of_lt_of_le hy (Nat.pow_le_pow_right (by omega) (Nat.le_of_not_lt hi)))
  rw [h1,h2]
/-- Put into a list that rises. -/
def insS (x:Nat):List Nat→List Nat
 | []=>[x]
 | y :: r=>if cmpS (stl x) (stl y) < 0 then x :: y :: r else y :: insS x r
theorem mem_insS {x z:Nat} : ∀ {L:List Nat},z∈insS x L↔z=x∨z∈L
 | []=>by simp [insS]
 | y :: r=>by
  unfold insS
  by_cases h:cmpS (stl x) (stl y) < 0
  ·rw [if_pos h]; simp
  ·rw [if_neg h,List.mem_cons,mem_insS,List.mem_cons]
   constructor
   ·rintro (h | h | h)
    ·exact .inr (.inl h)
    ·exact .inl h
    ·exact .inr (.inr h)
   ·rintro (h | h | h)
    ·exact .inr (.inl h)
    ·exact .inl h
    ·exact .inr (.inr h)
theorem rise_insS {x:Nat} : ∀ {L:List Nat},L.Pairwise (fun x y=>cmpS (stl x) (stl y) < 0)→(∀ y∈L,stl x ≠ stl y)→(insS x L).Pairwise fun x y=>cmpS (stl x) (stl y) < 0
 | [],_,_=>by simp [insS]
 | y :: r,h,hne=>by
  obtain ⟨h1,h2⟩:=List.pairwise_cons.1 h
  unfold insS
  by_cases hc:cmpS (stl x) (stl y) < 0
  ·rw [if_pos hc]
   refine List.pairwise_cons.2 ⟨fun z hz=>?_,h⟩
   rcases List.mem_cons.1 hz with rfl | hz
   ·exact hc
   ·exact cmpS_trans _ _ _ hc (h1 z hz)
  ·rw [if_neg hc]
   refine List.pairwise_cons.2 ⟨fun z hz=>?_,rise_insS h2 fun z hz=>hne z (by simp [hz])⟩
   rcases mem_insS.1 hz with rfl | hz
   ·refine Classical.byContradiction fun hh=>?_
    exact hne y (by simp) (cmpS_tot _ _ hc hh)
   ·exact h1 z hz
theorem alls_ex (G:Grp n f e) (hn:n≤60):∃ L,AllS n f e L:=by
 have hd:∀ M:List Nat,M.Nodup→(∀ x∈M,x < 2 ^ n)→∃ L:List Nat,(∀ x,x∈L↔x∈M)∧L.Pairwise fun x y=>cmpS (stl x) (stl y) < 0:=by
  intro M
  induction M with
  | nil=>exact fun _ _=>⟨[],by simp,by simp⟩
  | cons x r ih =>
   intro hnd hlt
   obtain ⟨h1,h2⟩:=List.nodup_cons.1 hnd
   obtain ⟨L,l1,l2⟩:=ih h2 fun y hy=>hlt y (by simp [hy])
   have hp:2 ^ n≤2 ^ 64:=Nat.pow_le_pow_right (by omega) (by omega)
   refine ⟨insS x L,fun z=>by rw [mem_insS,l1]; simp,rise_insS l2 fun y hy hxy=>?_⟩
   have hyr:=(l1 y).1 hy
   have h3:=hlt x (by simp)
   have h4:=hlt y (by simp [hyr])
   have:=stl_inj (by omega) (by omega) hxy
   rw [this] at h1; exact h1 hyr
 have hf:∃ M:List Nat,M.Nodup∧∀ x,x∈M↔x < 2 ^ n∧Sub n f e x.testBit:=by
  have:∀ N,∃ M:List Nat,M.Nodup∧∀ x,x∈M↔x < N∧Sub n f e x.testBit:=by
   intro N
   induction N with
   | zero=>exact ⟨[],List.nodup_nil,by simp⟩
   | succ N ih =>
    obtain ⟨M,m1,m2⟩:=ih
    by_cases hN:Sub n f e N.testBit
    ·refine ⟨N :: M,List.nodup_cons.2 ⟨fun h=>by have:=((m2 N).1 h).1; omega,m1⟩,fun x=>?_⟩
     rw [List.mem_cons,m2]
     constructor
     ·rintro (rfl | h)
      ·exact ⟨by omega,hN⟩
      ·exact ⟨by omega,h.2⟩
     ·rintro ⟨h1,h2⟩
      by_cases hx:x=N
      ·exact .inl hx
      ·exact .inr ⟨by omega,h2⟩
    ·refine ⟨M,m1,fun x=>?_⟩
     rw [m2]
     constructor
     ·exact fun h=>⟨by omega,h.2⟩
     ·rintro ⟨h1,h2⟩
      refine ⟨?_,h2⟩
      by_cases hx:x=N
      ·rw [hx] at h2; exact absurd h2 hN
      ·omega
  exact this _
 obtain ⟨M,m1,m2⟩:=hf
 obtain ⟨L,l1,l2⟩:=hd M m1 fun x hx=>((m2 x).1 hx).1
 refine ⟨L,fun x hx=>?_,fun p hp=>?_,l2⟩
 ·obtain ⟨h1,h2⟩:=(m2 x).1 ((l1 x).1 hx)
  exact ⟨x.testBit,h2,(bo_self h1).symm⟩
 ·refine (l1 _).2 ((m2 _).2 ⟨bo_lt n p,?_⟩)
  have:∀ a,a < n→(bo n p).testBit a=p a:=fun a ha=>by rw [bo_bit]; simp [ha]
  refine sub_of G (by rw [this e G.el]; exact hp.one) fun a b ha hb h1 h2=>?_
  rw [this a ha] at h1
  rw [this b hb] at h2
  rw [this _ (G.cl a b ha hb)]
  exact hp.mul a b ha hb h1 h2
end
end Go.Proofs.YtboadfahlflmhaaDoor

/-
  The parts of a group that are none of two: what the search finds is such. Conditions: none.
-/
set_option linter.all false
namespace Go.Proofs.YtboadfahlflmhaaDoor
open Go.Pv

section
variable {n e:Nat} {f:Nat→Nat→Nat}
/-- A group's things. -/
def El {n e:Nat} {f:Nat→Nat→Nat} (_:Grp n f e):Type:={x:Nat // x < n}
instance elMul (G:Grp n f e):Mul (El G):=⟨fun a b=>⟨f a.1 b.1,G.cl _ _ a.2 b.2⟩⟩
instance elOne (G:Grp n f e):One (El G):=⟨⟨e,G.el⟩⟩
instance elInv (G:Grp n f e):Inv (El G):=⟨fun a=>⟨iv n f e a.1,G.iv_lt a.2⟩⟩
theorem el_ext {G:Grp n f e} {a b:El G} (h:a.1=b.1):a=b:=Subtype.ext h
theorem el_gp (G:Grp n f e):Gp (El G) where
 assoc a b c:=el_ext (G.assoc _ _ _ a.2 b.2 c.2)
 one_l a:=el_ext (G.one_l _ a.2)
 one_r a:=el_ext (G.one_r _ a.2)
 inv_l a:=el_ext (G.iv_mul a.2)
 inv_r a:=el_ext (G.mul_iv a.2)
def lfp (G:Grp n f e) (P:Nat→Bool) (x:El G):Prop:=P x.1=true
theorem lfp_sg {G:Grp n f e} {P:Nat→Bool} (h:Sub n f e P):Sg (lfp G P):=
 ⟨h.one,fun a b ha hb=>h.mul _ _ a.2 b.2 ha hb,fun a ha=>h.inv _ a.2 ha⟩
open Classical in
noncomputable def unl (G:Grp n f e) (S:El G→Prop) (a:Nat):Bool:=decide (∃ h:a < n,S ⟨a,h⟩)
open Classical in
theorem unl_iff {G:Grp n f e} {S:El G→Prop} {a:Nat} (h:a < n):unl G S a=true↔S ⟨a,h⟩:=by
 unfold unl
 rw [decide_eq_true_eq]
 exact ⟨fun ⟨_,h⟩=>h,fun h'=>⟨h,h'⟩⟩
theorem unl_sub {G:Grp n f e} {S:El G→Prop} (h:Sg S):Sub n f e (unl G S):=
 ⟨(unl_iff G.el).2 h.one,fun a b ha hb h1 h2=>(unl_iff (G.cl _ _ ha hb)).2 (h.mul _ _ ((unl_iff ha).1 h1) ((unl_iff hb).1 h2)),fun a ha h1=>(unl_iff (G.iv_lt ha)).2 (h.inv _ ((unl_iff ha).1 h1))⟩

/-- A subgroup is the direct product of two. -/
structure DPt (n:Nat) (f:Nat→Nat→Nat) (e:Nat) (P p q:Nat→Bool):Prop where
 sp:Sub n f e p
 sq:Sub n f e q
 lp:∀ a,a < n→p a=true→P a=true
 lq:∀ a,a < n→q a=true→P a=true
 meet:∀ a,a < n→p a=true→q a=true→a=e
 comm:∀ a b,a < n→b < n→p a=true→q b=true→f a b=f b a
 all:∀ a,a < n→P a=true→∃ x y,x < n∧y < n∧p x=true∧q y=true∧a=f x y
theorem DPt.dp {G:Grp n f e} {P p q:Nat→Bool} (hP:Sub n f e P) (h:DPt n f e P p q):DP (lfp G P) (lfp G p) (lfp G q) where
 sa:=lfp_sg h.sp
 sb:=lfp_sg h.sq
 comm a b ha hb:=el_ext (h.comm _ _ a.2 b.2 ha hb)
 meet x h1 h2:=el_ext (h.meet _ x.2 h1 h2)
 all x:=by
  constructor
  ·intro hx
   obtain ⟨a,b,ha,hb,h1,h2,h3⟩:=h.all _ x.2 hx
   exact ⟨⟨a,ha⟩,⟨b,hb⟩,h1,h2,el_ext h3⟩
  ·rintro ⟨a,b,ha,hb,rfl⟩
   exact hP.mul _ _ a.2 b.2 (h.lp _ a.2 ha) (h.lq _ b.2 hb)
theorem DPt.of {G:Grp n f e} {P:Nat→Bool} {S T:El G→Prop} (D:DP (lfp G P) S T):DPt n f e P (unl G S) (unl G T) where
 sp:=unl_sub D.sa
 sq:=unl_sub D.sb
 lp a ha h:=D.inl (el_gp G) ((unl_iff ha).1 h)
 lq a ha h:=D.inr (el_gp G) ((unl_iff ha).1 h)
 meet a ha h1 h2:=congrArg Subtype.val (D.meet _ ((unl_iff ha).1 h1) ((unl_iff ha).1 h2))
 comm a b ha hb h1 h2:=congrArg Subtype.val (D.comm _ _ ((unl_iff ha).1 h1) ((unl_iff hb).1 h2))
 all a ha h:=by
  obtain ⟨x,y,hx,hy,e⟩:=(D.all ⟨a,ha⟩).1 h
  exact ⟨x.1,y.1,x.2,y.2,(unl_iff x.2).2 hx,(unl_iff y.2).2 hy,congrArg Subtype.val e⟩
theorem DPt.num (G:Grp n f e) {P p q:Nat→Bool} (hP:Sub n f e P) (h:DPt n f e P p q):(thl n p).length * (thl n q).length=(thl n P).length:=by
 have hm:=(G.meet_len h.sp h.sq).2 h.meet
 have hc:=G.prod_count h.sp h.sq
 rw [hm,Nat.mul_one] at hc
 rw [thl_len,thl_len,thl_len]
 show (mem n p).length * (mem n q).length=(mem n P).length
 rw [← hc]
 refine congrArg List.length (List.filter_congr fun a ha=>?_)
 have ha:=List.mem_range.1 ha
 rw [Bool.eq_iff_iff]
 constructor
 ·intro h1
  obtain ⟨x,y,hx,hy,h2,h3,rfl⟩:=G.pr2_un ha h1
  exact hP.mul _ _ hx hy (h.lp x hx h2) (h.lq y hy h3)
 ·intro h1
  obtain ⟨x,y,hx,hy,h2,h3,rfl⟩:=h.all a ha h1
  exact G.pr2_mk hx hy h2 h3
/-- None of two; the one alone is such, too. -/
def IndT (n:Nat) (f:Nat→Nat→Nat) (e:Nat) (P:Nat→Bool):Prop:=Sub n f e P∧∀ p q,DPt n f e P p q→(thl n p).length=1∨(thl n q).length=1
theorem one_len {P:Nat→Bool} (G:Grp n f e) (h:Sub n f e P):(thl n P).length=1↔∀ a,a < n→P a=true→a=e:=by
 rw [thl_len]
 exact ⟨fun h1 a ha hp=>one_mem G.el h.one h1 ha hp,fun h1=>mem_one G.el fun a ha=>⟨h1 a ha,fun e'=>by rw [e']; exact h.one⟩⟩
theorem len_pos {P:Nat→Bool} (G:Grp n f e) (h:Sub n f e P):1≤(thl n P).length:=by
 rw [thl_len]; exact h.pos G.el
inductive Dec (n:Nat) (f:Nat→Nat→Nat) (e:Nat):(Nat→Bool)→List (List Int)→Prop
 | one {P:Nat→Bool} : IndT n f e P→Dec n f e P [thl n P]
 | two {P p q:Nat→Bool} {A B:List (List Int)} : DPt n f e P p q→¬ (thl n p).length=1→¬ (thl n q).length=1→Dec n f e p A→Dec n f e q B→Dec n f e P (A++B)
theorem Dec.pow (G:Grp n f e) {P:Nat→Bool} {R:List (List Int)} (h:Dec n f e P R) (hP:Sub n f e P) (h1:¬ (thl n P).length=1):2 ^ R.length≤(thl n P).length:=by
 induction h with
 | one hI=>have:=len_pos G hP; simp; omega
 | two D k1 k2 _ _ ih1 ih2 =>
  rw [List.length_append,Nat.pow_add,← D.num G hP]
  exact Nat.mul_le_mul (ih1 D.sp k1) (ih2 D.sq k2)
theorem Dec.one_ {P:Nat→Bool} {R:List (List Int)} (G:Grp n f e) (h:Dec n f e P R) (hP:Sub n f e P) (h1:(thl n P).length=1):R=[thl n P]:=by
 cases h with
 | one _=>rfl
 | two D k1 k2 _ _ =>
  have:=D.num G hP
  rw [h1] at this
  exact absurd (Nat.eq_one_of_mul_eq_one_right this) k1
theorem Dec.pos {P:Nat→Bool} {R:List (List Int)} (h:Dec n f e P R):0 < R.length:=by
 induction h with
 | one _=>simp
 | two _ _ _ _ _ ih1 _=>rw [List.length_append]; omega
theorem Dec.mem {P:Nat→Bool} {R:List (List Int)} (G:Grp n f e) (h:Dec n f e P R) (hP:Sub n f e P):∀ v∈R,∃ p,v=thl n p∧IndT n f e p∧(∀ a,a < n→p a=true→P a=true)∧(¬ (thl n P).length=1→¬ (thl n p).length=1):=by
 induction h with
 | one hI=>intro v hv; rw [List.mem_singleton] at hv; subst hv; exact ⟨_,rfl,hI,fun _ _ h=>h,fun h=>h⟩
 | two D k1 k2 _ _ ih1 ih2 =>
  intro v hv
  rcases List.mem_append.1 hv with hv | hv
  ·obtain ⟨p',a1,a2,a3,a4⟩:=ih1 D.sp v hv
   exact ⟨p',a1,a2,fun a ha h=>D.lp a ha (a3 a ha h),fun _=>a4 k1⟩
  ·obtain ⟨p',a1,a2,a3,a4⟩:=ih2 D.sq v hv
   exact ⟨p',a1,a2,fun a ha h=>D.lq a ha (a3 a ha h),fun _=>a4 k2⟩
/-- What a row says. -/
def rwp (G:Grp n f e) (v:List Int) (x:El G):Prop:=((x.1:Nat):Int)∈v
theorem rwp_thl {G:Grp n f e} {p:Nat→Bool} : rwp G (thl n p)=lfp G p:=funext fun x=>propext (mem_thl_n x.2)
theorem Dec.dirL {P:Nat→Bool} {R:List (List Int)} (G:Grp n f e) (h:Dec n f e P R) (hP:Sub n f e P):DirL (lfp G P) (R.map (rwp G)):=by
 induction h with
 | one hI =>
  rename_i P
  have K:=el_gp G
  refine ⟨fun x=>x=1,?_,fun x=>Iff.rfl⟩
  rw [rwp_thl]
  refine ⟨lfp_sg hP,⟨rfl,fun a b ha hb=>by rw [ha,hb,K.one_l],fun a ha=>by rw [ha,K.inv_one]⟩,fun a b _ hb=>by rw [hb,K.one_l,K.one_r],fun x _ h=>h,fun x=>⟨fun hx=>⟨x,1,hx,rfl,(K.one_r x).symm⟩,?_⟩⟩
  rintro ⟨a,b,ha,rfl,rfl⟩
  rw [K.one_r]; exact ha
 | two D k1 k2 _ _ ih1 ih2 =>
  rw [List.map_append]
  exact DirL.app (el_gp G) (D.dp hP) (ih1 D.sp) (ih2 D.sq)

/-! ### The search -/
def ts (SL:List Nat) (i:Nat):Nat→Bool:=(SL.getD i 0).testBit
def gdp (n:Nat) (f:Nat→Nat→Nat) (e:Nat) (P p q:Nat→Bool):Prop:=
 (¬ (thl n p).length=1∧¬ (thl n p).length=(thl n P).length∧(∀ a,a < n→p a=true→P a=true)∧(thl n P).length % (thl n p).length=0) ∧
 ((thl n p).length * (thl n q).length=(thl n P).length∧(∀ a,a < n→q a=true→P a=true)∧∀ a,a < n→p a=true→q a=true→a=e)∧∀ a b,a < n→b < n→p a=true→q b=true→f a b=f b a
theorem gdp_dpt (G:Grp n f e) {P p q:Nat→Bool} (hP:Sub n f e P) (hp:Sub n f e p) (hq:Sub n f e q) (h:gdp n f e P p q):DPt n f e P p q∧¬ (thl n p).length=1∧¬ (thl n q).length=1∧(thl n p).length < (thl n P).length∧(thl n q).length < (thl n P).length:=by
 obtain ⟨⟨h1,h2,h3,h4⟩,⟨h5,h6,h7⟩,h8⟩:=h
 have l1:=len_pos G hp
 have l2:=len_pos G hq
 have l3:=len_pos G hP
 have hq1:¬ (thl n q).length=1:=fun h=>h2 (by rw [h,Nat.mul_one] at h5; exact h5)
 refine ⟨⟨hp,hq,h3,h6,h7,h8,?_⟩,h1,hq1,?_,?_⟩
 ·
  have hm:=(G.meet_len hp hq).2 h7
  have hc:=G.prod_count hp hq
  rw [hm,Nat.mul_one] at hc
  have e1:(mem n p).length * (mem n q).length=(mem n P).length:=by
   have:=h5
   rw [thl_len,thl_len,thl_len] at this
   exact this
  rw [e1] at hc
  have hsub:∀ a,a < n→pr2 n f e p q a=true→P a=true:=fun a ha h=>by
   obtain ⟨x,y,hx,hy,k1,k2,rfl⟩:=G.pr2_un ha h
   exact hP.mul _ _ hx hy (h3 x hx k1) (h6 y hy k2)
  intro a ha hPa
  refine G.pr2_un ha (Classical.byContradiction fun hne=>?_)
  have hf:mem n (pr2 n f e p q)=(mem n P).filter (pr2 n f e p q):=by
   unfold mem
   rw [List.filter_filter]
   refine List.filter_congr fun x hx=>?_
   rw [Bool.eq_iff_iff,Bool.and_eq_true]
   exact ⟨fun h=>⟨h,hsub x (List.mem_range.1 hx) h⟩,fun h=>h.1⟩
  have hlt:=List.length_filter_lt_length_iff_exists.2 ⟨a,mem_mem.2 ⟨ha,hPa⟩,hne⟩
  rw [← hf,hc] at hlt
  omega
 ·rw [← h5]
  have:(thl n p).length * 2≤(thl n p).length * (thl n q).length:=Nat.mul_le_mul_left _ (by omega)
  omega
 ·rw [← h5]
  have:2 * (thl n q).length≤(thl n p).length * (thl n q).length:=Nat.mul_le_mul_right _ (by omega)
  omega
open Classical in
noncomputable def gd (n:Nat) (f:Nat→Nat→Nat) (e:Nat) (SL:List Nat) (P:Nat→Bool) (k:Nat):Bool:=decide (gdp n f e P (ts SL (k / SL.length)) (ts SL (k % SL.length)))
noncomputable def spl (n:Nat) (f:Nat→Nat→Nat) (e:Nat) (SL:List Nat):Nat→(Nat→Bool)→List (List Int)
 | 0,P=>[thl n P]
 | k + 1,P =>
  match fst' (gd n f e SL P) (SL.length * SL.length) with
  | some t=>spl n f e SL k (ts SL (t / SL.length))++spl n f e SL k (ts SL (t % SL.length))
  | none=>[thl n P]
theorem subc {p q:Nat→Bool} (G:Grp n f e) (hp:Sub n f e p) (h:∀ a,a < n→p a=q a):Sub n f e q:=
 ⟨by rw [← h e G.el]; exact hp.one,fun a b ha hb h1 h2=>by
  rw [← h a ha] at h1
  rw [← h b hb] at h2
  rw [← h _ (G.cl _ _ ha hb)]; exact hp.mul a b ha hb h1 h2,fun a ha h1=>by
  rw [← h a ha] at h1
  rw [← h _ (G.iv_lt ha)]; exact hp.inv a ha h1⟩
theorem ts_at (G:Grp n f e) {SL:List Nat} (hS:AllS n f e SL) {i:Nat} (hi:i < SL.length):Sub n f e (ts SL i)∧SL.getD i 0=bo n (ts SL i):=by
 obtain ⟨p,hp,hpe⟩:=hS.subs (SL.getD i 0) (by simp [List.getD,List.getElem?_eq_getElem hi])
 have ht:∀ a,a < n→ts SL i a=p a:=fun a ha=>by
  unfold ts
  rw [hpe,bo_bit]; simp [ha]
 have e1:bo n p=bo n (ts SL i):=bo_congr fun a ha=>(ht a ha).symm
 refine ⟨subc G hp fun a ha=>(ht a ha).symm,by rw [← e1]; exact hpe⟩
open Classical in
theorem spl_dec (G:Grp n f e) {SL:List Nat} (hS:AllS n f e SL):∀ (k:Nat) (P:Nat→Bool),Sub n f e P→(thl n P).length≤k→Dec n f e P (spl n f e SL k P)
 | 0,P,hP,hk=>by have:=len_pos G hP; omega
 | k + 1,P,hP,hk=>by
  unfold spl
  cases hf:fst' (gd n f e SL P) (SL.length * SL.length) with
  | some t =>
   obtain ⟨t1,t2,_⟩:=fst_spec hf
   have hL:0 < SL.length:=by
    rcases Nat.eq_zero_or_pos SL.length with h | h
    ·rw [h] at t1; simp at t1
    ·exact h
   have hg:gdp n f e P (ts SL (t / SL.length)) (ts SL (t % SL.length)):=by
    have:=t2
    unfold gd at this
    simpa using this
   have s1:=(ts_at G hS (Nat.div_lt_of_lt_mul t1)).1
   have s2:=(ts_at G hS (Nat.mod_lt t hL)).1
   obtain ⟨D,d1,d2,d3,d4⟩:=gdp_dpt G hP s1 s2 hg
   exact .two D d1 d2 (spl_dec G hS k _ s1 (by omega)) (spl_dec G hS k _ s2 (by omega))
  | none =>
   refine .one ⟨hP,fun p q D=>Classical.byContradiction fun hne=>?_⟩
   have h0:=fst_spec0 hf
   have hin:∀ p,Sub n f e p→∃ i,i < SL.length∧∀ a,a < n→ts SL i a=p a:=fun p hp=>by
    obtain ⟨i,hi,he⟩:=List.getElem_of_mem (hS.all p hp)
    refine ⟨i,hi,fun a ha=>?_⟩
    unfold ts
    rw [show SL.getD i 0=SL[i] by simp [List.getD,List.getElem?_eq_getElem hi],he,bo_bit]; simp [ha]
   obtain ⟨i,hi,ei⟩:=hin p D.sp
   obtain ⟨j,hj,ej⟩:=hin q D.sq
   have hij:i * SL.length + j < SL.length * SL.length:=by
    have:(i + 1) * SL.length≤SL.length * SL.length:=Nat.mul_le_mul_right _ hi
    rw [Nat.add_mul,Nat.one_mul] at this
    omega
   have h1:=h0 _ hij
   have hL:0 < SL.length:=by omega
   have e1:(i * SL.length + j) / SL.length=i:=by rw [Nat.mul_comm i,Nat.mul_add_div hL,Nat.div_eq_of_lt hj,Nat.add_zero]
   have e2:(i * SL.length + j) % SL.length=j:=by rw [Nat.mul_comm i,Nat.mul_add_mod,Nat.mod_eq_of_lt hj]
   have hnum:=D.num G hP
   have l1:=len_pos G D.sp
   have hp1:¬ (thl n p).length=1:=fun h=>hne (.inl h)
   have hq1:¬ (thl n q).length=1:=fun h=>hne (.inr h)
   have:gd n f e SL P (i * SL.length + j)=true:=by
    unfold gd
    rw [e1,e2,decide_eq_true_eq]
    unfold gdp
    rw [thl_congr ei,thl_congr ej]
    refine ⟨⟨hp1,fun h=>hq1 ?_,fun a ha h=>D.lp a ha (by rwa [ei a ha] at h),?_⟩,⟨hnum,fun a ha h=>D.lq a ha (by rwa [ej a ha] at h),fun a ha h1 h2=>D.meet a ha (by rwa [ei a ha] at h1) (by rwa [ej a ha] at h2)⟩,fun a b ha hb h1 h2=>D.comm a b ha hb (by rwa [ei a ha] at h1) (by rwa [ej b hb] at h2)⟩
    ·rw [← h] at hnum
     have h9:(thl n p).length * (thl n q).length=(thl n p).length * 1:=by rw [hnum,Nat.mul_one]
     exact Nat.eq_of_mul_eq_mul_left (by omega) h9
    ·rw [← hnum]; exact Nat.mul_mod_right _ _
   rw [this] at h1
   exact absurd h1 (by decide)
end
end Go.Proofs.YtboadfahlflmhaaDoor

/-
  Maps by lists of keys. Conditions: none.
-/
set_option linter.all false
namespace Go.Proofs.YtboadfahlflmhaaDoor
open Go.Pv

/-! ### Maps by lists of keys -/
def mpd (l:List Int):Int→Bool:=fun u=>decide (u∈l)
def mpv (l:List Int) (g:Int→PV):Int→PV:=fun u=>bif decide (u∈l) then g u else default
theorem mpd_nil:(fun _:Int=>false)=mpd []:=funext fun u=>by simp [mpd]
theorem mpv_nil (g:Int→PV):(fun _:Int=>(default:PV))=mpv [] g:=funext fun u=>by simp [mpv]
theorem mpd_set (l:List Int) (x:Int):(fun u=>decide (u=x) || mpd l u)=mpd (l++[x]):=funext fun u=>by
 unfold mpd
 rw [Bool.eq_iff_iff]
 simp only [Bool.or_eq_true,decide_eq_true_eq,List.mem_append,List.mem_singleton]
 exact Or.comm
theorem mpv_set (l:List Int) (x:Int) (g:Int→PV):(fun u=>bif decide (u=x) then g x else mpv l g u)=mpv (l++[x]) g:=funext fun u=>by
 unfold mpv
 by_cases hu:u=x
 ·subst hu; simp
 ·simp [hu]
theorem mpd_in {l:List Int} {x:Int} (h:x∈l):mpd l x=true:=decide_eq_true h
theorem mpv_in {l:List Int} {x:Int} (g:Int→PV) (h:x∈l):mpv l g x=g x:=by
 unfold mpv
 rw [decide_eq_true h]; rfl
theorem ll_takeL (ls:List (List Int)):(ll ls).take ls.length=ll ls:=List.take_of_length_le (by rw [ll_length]; exact Nat.le_refl _)
theorem ll_takeS (ls:List (List Int)) (x:List Int):(ll (ls++[x])).take (ls.length + 1)=ll (ls++[x]):=List.take_of_length_le (by rw [ll_length]; simp)
theorem ol_opl (w:List Int):ol w=opl (il w):=rfl
end Go.Proofs.YtboadfahlflmhaaDoor

/-
  What reads as one value reads as another. Conditions: none.
-/
set_option linter.all false
namespace Go.Proofs.YtboadfahlflmhaaDoor
open Go.Pv

/-! ### What reads as one reads as another -/

def Rle (a b:PV):Prop:=∀ (ok:Nat→Prop) (w:World) (v:Value),Reads ok w a v→Reads ok w b v
theorem Rle.rfl {a:PV} : Rle a a:=fun _ _ _ h=>h
theorem Rle.nn {l:List PV} : Rle (.nn l) (.list l):=fun _ _ _ h=>h.nn_list
def Rles:List PV→List PV→Prop
 | [],[]=>True
 | a :: r,b :: s=>Rle a b∧Rles r s
 | _,_=>False
theorem Rles.len:∀ {l r:List PV},Rles l r→l.length=r.length
 | [],[],_=>by rfl
 | a :: l,b :: r,h=>by simp [Rles.len h.2]
 | [],_ :: _,h=>h.elim
 | _ :: _,[],h=>h.elim
theorem Rles.get:∀ {l r:List PV},Rles l r→∀ (i:Nat) (h:i < l.length) (h' : i < r.length),Rle l[i] r[i]
 | a :: l,b :: r,h,0,_,_=>h.1
 | a :: l,b :: r,h,i + 1,h1,h2=>by simpa using Rles.get h.2 i (by simpa using h1) (by simpa using h2)
 | [],[],_,i,h,_=>by simp at h
 | [],_ :: _,h,_,_,_=>h.elim
 | _ :: _,[],h,_,_,_=>h.elim
theorem FnC.weak {P:Program} {f:FuncId} {args args' : List PV} {r:PV} (h:FnC P f args r) (hs:Rles args' args):FnC P f args' r:=by
 refine ⟨h.1,fun okA w vals h1 h2 h3=>h.2 okA w vals h1 (h2.trans hs.len) fun i hi=>?_⟩
 have:=hs.len
 exact hs.get i (by omega) hi _ _ _ (h3 i (by omega))

theorem Rle.nn2 {a b:List PV} : Rle (.nn [.nn a,.nn b]) (.list [.list a,.list b]):=fun ok w v h=>by
 cases h with
 | nn _ k off sz vs hb hsz hc hr =>
  refine .list [.list a,.list b] k off 2 1 vs hb (by simp [PV.cells]) (by simp) (fun c hc'=>hc c (by simpa [flat,PV.cells] using hc')) fun c hcl=>?_
  have h0:=hr 0 (by simp [flat,PV.cells])
  have h1:=hr 1 (by simp [flat,PV.cells])
  match c,hcl with
  | 0,_=>exact Reads.nn_list h0
  | 1,_=>exact Reads.nn_list h1
end Go.Proofs.YtboadfahlflmhaaDoor

/-
  Classes: by what is alike; of conjugate things. Conditions: none.
-/
set_option linter.all false
namespace Go.Proofs.YtboadfahlflmhaaDoor
open Go.Pv

/-- The classes whose least things are below a. -/
def cstp (n:Nat) (r:Nat→Nat→Bool) (a:Nat):List (List Int):=((List.range a).filter (lead r)).map fun x=>thl n (r x)
def cst (n:Nat) (r:Nat→Nat→Bool):List (List Int):=cstp n r n
/-- The class at a place: its least thing. -/
theorem cst_get {n:Nat} {r:Nat→Nat→Bool} {i:Nat} (hi:i < (cst n r).length):∃ x,x < n∧lead r x=true∧(cst n r).getD i []=thl n (r x)∧(mem n (lead r)).getD i 0=x:=by
 unfold cst cstp at hi ⊢
 rw [List.length_map] at hi
 have hm:=List.getElem_mem hi
 obtain ⟨h1,h2⟩:=List.mem_filter.1 hm
 refine ⟨_,List.mem_range.1 h1,h2,?_,?_⟩
 ·simp [List.getD,List.getElem?_eq_getElem hi]
 ·unfold mem
  simp [List.getD,List.getElem?_eq_getElem hi]
/-! ### Rows of rows, compared -/

/-! ### Classes of conjugate things -/

/-- What is x, conjugated by an earlier thing. -/
def sp (n:Nat) (f:Nat→Nat→Nat) (e x a y:Nat):Bool:=decide (∃ b,b < a∧cjr n f e x b=y)
end Go.Proofs.YtboadfahlflmhaaDoor

/-
  Classes: where things stand; powers of classes; pairs that commute. Conditions: none.
-/
set_option linter.all false
namespace Go.Proofs.YtboadfahlflmhaaDoor
open Go.Pv

theorem cst_len (n:Nat) (r:Nat→Nat→Bool):(cst n r).length=(mem n (lead r)).length:=by
 unfold cst cstp mem
 rw [List.length_map]

/-- The place of the first list that has a thing; -1: none has. -/
def wch (l:List (List Int)) (x:Int):Int:=match fst' (fun i=>decide (x∈l.getD i [])) l.length with | some i=>(i:Int) | none=>-1

theorem cst_apart {n:Nat} {r:Nat→Nat→Bool} (h:Eqv n r) {i j a:Nat} (hi:i < (cst n r).length) (hj:j < (cst n r).length) (ha:a < n) (h1:((a:Nat):Int)∈(cst n r).getD i []) (h2:((a:Nat):Int)∈(cst n r).getD j []):i=j:=by
 obtain ⟨x,x1,x2,x3,x4⟩:=cst_get hi
 obtain ⟨y,y1,y2,y3,y4⟩:=cst_get hj
 rw [x3,mem_thl_n ha] at h1
 rw [y3,mem_thl_n ha] at h2
 have hxy:x=y:=h.lead_eq x1 y1 x2 y2 (h.trans x a y x1 ha y1 h1 (h.symm y a y1 ha h2))
 subst hxy
 have hn:(mem n (lead r)).Nodup:=List.nodup_range.filter _
 have hl:=cst_len n r
 exact at_inj hn (by omega) (by omega) (x4.trans y4.symm)
theorem cst_in {n:Nat} {r:Nat→Nat→Bool} (h:Eqv n r) {a:Nat} (ha:a < n):∃ i,i < (cst n r).length∧((a:Nat):Int)∈(cst n r).getD i []:=by
 obtain ⟨x,x1,x2,x3⟩:=h.least ha
 obtain ⟨i,hi,e⟩:=List.getElem_of_mem (mem_mem.2 ⟨x1,x2⟩:x∈mem n (lead r))
 have hl:=cst_len n r
 refine ⟨i,by omega,?_⟩
 obtain ⟨y,y1,y2,y3,y4⟩:=cst_get (n:=n) (r:=r) (i:=i) (by omega)
 rw [y3,mem_thl_n ha]
 have:y=x:=by rw [← y4]; simp [List.getD,List.getElem?_eq_getElem hi,e]
 rw [this]; exact x3
theorem wch_at {n:Nat} {r:Nat→Nat→Bool} (h:Eqv n r) {i a:Nat} (hi:i < (cst n r).length) (ha:a < n) (h1:((a:Nat):Int)∈(cst n r).getD i []):wch (cst n r) a=(i:Int):=by
 have e:fst' (fun k=>decide (((a:Nat):Int)∈(cst n r).getD k [])) (cst n r).length=some i:=fst_some hi (decide_eq_true h1) fun j hj=>decide_eq_false fun h2=>by
  have:=cst_apart h hi (by omega) ha h1 h2
  omega
 simp only [wch,e]

end Go.Proofs.YtboadfahlflmhaaDoor

/-
  Cosets: right, left and double, of the program and of the document. Conditions: none.
-/
set_option linter.all false
namespace Go.Proofs.YtboadfahlflmhaaDoor
open Go.Pv

/-! ### Gathered -/

/-! ### Products of a set, a thing and a set -/

/-! ### As the document has them -/

/-! ### An example of the document -/

end Go.Proofs.YtboadfahlflmhaaDoor
